/- A part of the proof. -/
import Derived.RangeFuncRecord
import Derived.RangeFuncLeaves
import Derived.Laws.Cells
import Derived.Laws.Entries
import Derived.Laws.StructEq
import Derived.IntWalk
import Derived.OrdersIn
import Derived.LeavingIn
set_option linter.all false
universe u
abbrev XA:=@Option
abbrev XB:=@List
abbrev XC:=Unit
abbrev XD:=@Array
abbrev T5:=@Int.toNat_natCast
abbrev T6:=@List.getElem?_eq_getElem
abbrev T7:=@Bool.and_eq_true
abbrev Ua:=@Nat.le_refl
abbrev Ub:=@Nat.le_trans
abbrev Uc:=@Nat.lt_of_lt_of_le
abbrev Ud:=@decide_eq_true
abbrev Ue:=@Nat.eq_of_beq_eq_true
abbrev Uf:=@List.length_append
abbrev Ug:=@Option.some.inj
abbrev Uh:=@Option.map_some
abbrev Ui:=@if_pos
abbrev Uj:=@Bool.not_true
abbrev Uk:=@if_neg
abbrev Ul:=@Nat.le_of_ble_eq_true
abbrev Um:=@decide_eq_false
abbrev Un:=@Nat.mul_left_comm
abbrev Uo:=@Nat.mul_comm
abbrev Up:=@Nat.pow_le_pow_right
abbrev Uq:=@List.getElem?_eq_some_iff
abbrev Ur:=@List.mem_of_getElem?
abbrev Us:=@Nat.pos_of_ne_zero
abbrev Ut:=@Array.getElem?_eq_some_iff
abbrev Uu:=@Bool.false_eq_true
abbrev Uv:=@Nat.mul_assoc
abbrev Uw:=@Bool.not_false
abbrev Ux:=@List.all_eq_true
abbrev Uy:=@absurd
abbrev Uz:=@List.pairwise_cons
abbrev UA:=@List.getElem?_cons_zero
abbrev UB:=@List.length_singleton
abbrev UC:=@List.mem_cons
abbrev UD:=@Nat.mul_ne_zero
abbrev UE:=@List.getElem?_toArray
abbrev UF:=@Nat.mul_le_mul_right
abbrev UG:=@Nat.mod_eq_of_lt
abbrev UH:=@List.length_map
abbrev UI:=@List.mem_singleton
abbrev UJ:=@List.getElem?_append_right
abbrev UK:=@List.length_cons
abbrev UL:=@decide_eq_true_eq
abbrev UM:=@List.mem_cons_of_mem
abbrev UN:=@List.getElem?_map
abbrev UO:=@Nat.mul_le_mul
abbrev UP:=@Int.natAbs_natCast
abbrev UQ:=@Option.bind_some
abbrev UR:=@Nat.add_mul
abbrev US:=@Nat.min_eq_left
abbrev UT:=@List.mem_append
abbrev UU:=@Nat.zero_add
abbrev UW:=@Nat.pow_succ
abbrev UX:=@Nat.mod_lt
abbrev UY:=@Nat.lt_or_ge
abbrev UZ:=@Nat.add_zero
abbrev U0:=@List.length_take
abbrev U1:=@List.getElem?_append_left
abbrev U2:=@List.getElem?_cons_succ
abbrev U3:=@List.getElem?_set_ne
abbrev U4:=@Array.toList_inj
abbrev U5:=@Nat.div_lt_iff_lt_mul
abbrev U6:=@Nat.lt_of_le_of_lt
abbrev U7:=@Bool.not_eq_true'
abbrev U8:=@Nat.le_mul_of_pos_right
abbrev U9:=@Nat.ble_eq_true_of_le
abbrev Va:=@List.flatten_cons
abbrev Vb:=@Nat.mul_le_mul_left
abbrev Vc:=@List.append_nil
abbrev Vd:=@Int.toNat_of_nonneg
abbrev Ve:=@List.getElem?_set_self
abbrev Vf:=@Bool.and_self
abbrev Vg:=@List.mem_cons_self
abbrev Vh:=@List.length_set
abbrev Vi:=@Int.natCast_nonneg
abbrev Vj:=@Nat.mul_add
abbrev Vl:=@List.replicate_succ
abbrev Vm:=@Nat.div_div_eq_div_mul
abbrev Vo:=@Nat.mul_one
abbrev Vp:=@Nat.lt_succ_self
abbrev Vq:=@List.append_assoc
abbrev Vr:=@List.getElem?_drop
abbrev Vs:=@Nat.pow_add
abbrev Vt:=@List.length_eq_zero_iff
abbrev Vu:=@List.getElem?_replicate
abbrev Vv:=@List.eq_nil_of_length_eq_zero
abbrev Vw:=@List.all_cons
abbrev Vx:=@Decidable.byContradiction
abbrev Vy:=@Nat.div_eq_of_lt
abbrev Vz:=@Nat.div_add_mod
abbrev VA:=@List.nil_append
abbrev VB:=@congrArg
abbrev VC:=@Nat.zero_mul
abbrev VD:=@List.mem_append_left
abbrev VE:=@Bool.false_ne_true
abbrev VF:=@Nat.zero_le
abbrev VG:=@List.getElem?_eq_none
abbrev VH:=@Bool.or_eq_true
abbrev VI:=@Nat.eq_of_mul_eq_mul_right
abbrev VJ:=@List.drop_eq_getElem_cons
abbrev VK:=@Option.map_eq_some_iff
abbrev VL:=@Array.getElem?_setIfInBounds_ne
abbrev VM:=@Nat.ne_of_beq_eq_false
abbrev VN:=@Nat.le_of_lt
abbrev VO:=@List.take_of_length_le
abbrev VP:=@List.mem_or_eq_of_mem_set
abbrev VS:=@Nat.blt_eq
abbrev VT:=@Classical.choose_spec
abbrev VU:=@Nat.succ_mul
abbrev VV:=@Nat.pow_zero
abbrev VW:=@Int.natCast_mul
abbrev VX:=@Nat.div_mul_cancel
abbrev VY:=@List.getElem?_take
abbrev VZ:=@List.pairwise_append
abbrev V0:=@List.getElem_mem
abbrev V1:=@Int.ofNat_eq_natCast
abbrev V2:=@Nat.sub_self
abbrev V3:=@Nat.le_mul_of_pos_left
abbrev V4:=@List.drop_eq_nil_of_le
abbrev V5:=@List.length_pos_iff
abbrev V6:=@List.length_drop
abbrev V7:=@Array.eq_empty_of_size_eq_zero
abbrev V8:=@Nat.sub_zero
abbrev V9:=@Nat.add_assoc
abbrev Wa:=@List.mem_map
abbrev Wb:=@Nat.one_mul
abbrev Wc:=@Nat.mul_lt_mul_right
abbrev We:=@List.mem_range
abbrev Wf:=@List.drop_drop
abbrev Wg:=@List.ext_getElem?
abbrev Wh:=@Array.length_toList
abbrev Wi:=@Array.getElem?_push
abbrev Wj:=@Bool.true_or
abbrev Wm:=@Bool.or_true
abbrev Wp:=@Prod.mk.injEq
abbrev Wq:=@List.map_cons
abbrev Wr:=@List.drop_length
abbrev Ws:=@List.cons_append
abbrev Wu:=@List.drop_zero
abbrev Wv:=@Nat.not_lt_zero
abbrev Ww:=@List.nodup_cons
abbrev Wx:=@Array.replicate
abbrev Wy:=@Nat.pow_mul
abbrev Wz:=@Nat.mul_zero
abbrev WA:=@Nat.div_one
abbrev WB:=XB (XB Int×XB (XB Int))
abbrev WC:=Int×Int×Int×Int
abbrev WD:=XB (Int×Int)
abbrev WE:=XB (XB Int)
abbrev WI:=Nat->Prop
def WU{c:Prop}{h0:Decidable c}{α:Sort u}{t e:α}(h:¬c:=by omega):ite c t e=e:=if_neg h
def WV{c:Prop}{h0:Decidable c}{α:Sort u}{t e:α}(h:c:=by omega):ite c t e=t:=if_pos h
section
open Go
abbrev XE:=@Result.andThen_ok
abbrev XF:=@Sem.run_bind
abbrev XG:=@Sem.run_pure
abbrev XH:=@run_underlying
abbrev XI:=FuncId
abbrev WG:=XB (XB Value)
abbrev WH:=XA Addr
abbrev WJ:=Value
abbrev WK:=TypeId
abbrev WM:=Operand
abbrev WN:=Program
abbrev WO:=World
abbrev WQ:=IntKind.wrap .i64
abbrev WR:Nat:=(0:Int).toNat
end
namespace Go.Ab
open Go
structure F8(α:Type) where
 a:α
 b:α
 c:α
 d:α
 e:α
 f:α
 g:α
 h:α
def F8.all{α:Type}(x:α):F8 α:=⟨x,x,x,x,x,x,x,x⟩
def F8.Kh{α:Type}(x:F8 α)(i:Nat):α :=
 match i with
 | 0=>x.a
 | 1=>x.b
 | 2=>x.c
 | 3=>x.d
 | 4=>x.e
 | 5=>x.f
 | 6=>x.g
 | _=>x.h
def F8.put{α:Type}(x:F8 α)(i:Nat)(v:α):F8 α :=
 match i with
 | 0=>{ x with a:=v}
 | 1=>{ x with b:=v}
 | 2=>{ x with c:=v}
 | 3=>{ x with d:=v}
 | 4=>{ x with e:=v}
 | 5=>{ x with f:=v}
 | 6=>{ x with g:=v}
 | _=>{ x with h:=v}
def F8.Fi{α:Type}(x:F8 α)(i j:Nat)(v:α)(hi:i<8)(hj:j<8):(x.put i v).Kh j=if j=i then v else x.Kh j:=by
 have h1:i=0\/i=1\/i=2\/i=3\/i=4\/i=5\/i=6\/i=7:=by omega
 have h2:j=0\/j=1\/j=2\/j=3\/j=4\/j=5\/j=6\/j=7:=by omega
 rcases h1 with rfl|rfl|rfl|rfl|rfl|rfl|rfl|rfl<;>rcases h2 with rfl|rfl|rfl|rfl|rfl|rfl|rfl|rfl<;>rfl
def F8.sj{α:Type}(x:α)(i:Nat):(F8.all x).Kh i=x:=by
 unfold F8.Kh F8.all; split<;>rfl
def F8.getM{M β:Type}(sz:Nat)(g:M->Nat->β)(x:F8 M)(i:Nat):β:=g (x.Kh (i/sz)) (i%sz)
def F8.Gt{M β:Type}(sz:Nat)(s:M->Nat->β->M)(x:F8 M)(i:Nat)(v:β):F8 M:=x.put (i/sz) (s (x.Kh (i/sz)) (i%sz) v)
def F8.mO{M β:Type}{sz:Nat}{g:M->Nat->β}{s:M->Nat->β->M}(hsz:0<sz)(hl:∀m i j v,i<sz->j<sz->g (s m i v) j=if j=i then v else g m j)(x:F8 M)(i j:Nat)(v:β)(hi:i<8*sz)(hj:j<8*sz) :
  F8.getM sz g (F8.Gt sz s x i v) j=if j=i then v else F8.getM sz g x j:=by
 have h1:i/sz<8:=(U5 hsz).2 hi;have h2:j/sz<8:=(U5 hsz).2 hj;unfold F8.getM F8.Gt;rw[F8.Fi _ _ _ _ h1 h2];have e1:=Vz i sz;have e2:=Vz j sz
 by_cases h:j/sz=i/sz
 rw[Ui h,hl _ _ _ _ (UX _ hsz) (UX _ hsz)]
 by_cases h':j%sz=i%sz
 have:j=i:=by rw[<-e1,<-e2,h,h']
 rw[Ui h',Ui this]
 have:j≠i:=fun e=>h' (by rw[e])
 rw[Uk h',Uk this,h]
 have:j≠i:=fun e=>h (by rw[e])
 rw[Uk h,Uk this]
abbrev P8(α:Type):=F8 (F8 α)
abbrev CU(α:Type):=F8 (P8 α)
abbrev wO(α:Type):=F8 (CU α)
abbrev qC(α:Type):=F8 (wO α)
def AI{α:Type}:P8 α->Nat->α:=F8.getM 8 F8.Kh
def pV{α:Type}:CU α->Nat->α:=F8.getM 64 AI
def pR{α:Type}:wO α->Nat->α:=F8.getM 512 pV
def lW{α:Type}:qC α->Nat->α:=F8.getM 4096 pR
def HH{α:Type}:P8 α->Nat->α->P8 α:=F8.Gt 8 F8.put
def xY{α:Type}:CU α->Nat->α->CU α:=F8.Gt 64 HH
def yK{α:Type}:wO α->Nat->α->wO α:=F8.Gt 512 xY
def zG{α:Type}:qC α->Nat->α->qC α:=F8.Gt 4096 yK
def GK{α:Type}(x:P8 α)(i j:Nat)(v:α)(hi:i<64)(hj:j<64):AI (HH x i v) j=if j=i then v else AI x j :=
 F8.mO (by omega) (fun m i j v hi hj=>F8.Fi m i j v hi hj) x i j v (by omega) (by omega)
def tw{α:Type}(x:CU α)(i j:Nat)(v:α)(hi:i<512)(hj:j<512):pV (xY x i v) j=if j=i then v else pV x j :=
 F8.mO (by omega) (fun m i j v hi hj=>GK m i j v hi hj) x i j v (by omega) (by omega)
def zW{α:Type}(x:wO α)(i j:Nat)(v:α)(hi:i<4096)(hj:j<4096):pR (yK x i v) j=if j=i then v else pR x j :=
 F8.mO (by omega) (fun m i j v hi hj=>tw m i j v hi hj) x i j v (by omega) (by omega)
def yc{α:Type}(x:qC α)(i j:Nat)(v:α)(hi:i<32768)(hj:j<32768):lW (zG x i v) j=if j=i then v else lW x j :=
 F8.mO (by omega) (fun m i j v hi hj=>zW m i j v hi hj) x i j v (by omega) (by omega)
def JO{α:Type}(x:α):P8 α:=F8.all (F8.all x)
def xK{α:Type}(x:α):CU α:=F8.all (JO x)
def xO{α:Type}(x:α):wO α:=F8.all (xK x)
def sZ{α:Type}(x:α):qC α:=F8.all (xO x)
def GI{α:Type}(x:α)(i:Nat):AI (JO x) i=x:=by simp[AI,JO,F8.getM,F8.sj]
def tL{α:Type}(x:α)(i:Nat):pV (xK x) i=x:=by simp[pV,xK,F8.getM,F8.sj,GI]
def A2{α:Type}(x:α)(i:Nat):pR (xO x) i=x:=by simp[pR,xO,F8.getM,F8.sj,tL]
def yh{α:Type}(x:α)(i:Nat):lW (sZ x) i=x:=by simp[lW,sZ,F8.getM,F8.sj,A2]
def E3{α:Type}:XB (Nat×α)->Nat->XA α
 | [],_=>none
 |(i,v)::l,j=>if j=i then some v else E3 l j
structure Trie(α:Type) where
 lo:CU (XA α)
 hi:XB (Nat×α)
def Trie.nil{α:Type}:Trie α:=⟨xK none,[]⟩
def Trie.get{α:Type}(t:Trie α)(n:Nat):XA α:=if n<512 then pV t.lo n else E3 t.hi n
def Trie.set{α:Type}(t:Trie α)(n:Nat)(v:α):Trie α:=if n<512 then{ t with lo:=xY t.lo n (some v)} else{ t with hi:=(n,v)::t.hi}
def Trie.get_nil{α:Type}(n:Nat):(Trie.nil:Trie α).get n=none:=by
 unfold Trie.get Trie.nil
 split
 exact tL _ _
 rfl
def Trie.cc{α:Type}(t:Trie α)(n m:Nat)(v:α):(t.set n v).get m=if m=n then some v else t.get m:=by
 unfold Trie.set Trie.get
 by_cases h1:n<512<;>by_cases h2:m<512<;>simp only[h1,h2,if_true,if_false]
 rw[tw _ _ _ _ h1 h2]
 rw[WU]
 rw[WU]
 rfl
structure Heap(α:Type) where
 lo:qC (XA α)
 hi:XB (Nat×α)
def Heap.nil{α:Type}:Heap α:=⟨sZ none,[]⟩
def Heap.get{α:Type}(t:Heap α)(n:Nat):XA α:=if n<32768 then lW t.lo n else E3 t.hi n
def Heap.set{α:Type}(t:Heap α)(n:Nat)(v:α):Heap α:=if n<32768 then{ t with lo:=zG t.lo n (some v)} else{ t with hi:=(n,v)::t.hi}
def Heap.get_nil{α:Type}(n:Nat):(Heap.nil:Heap α).get n=none:=by
 unfold Heap.get Heap.nil
 split
 exact yh _ _
 rfl
def Heap.cc{α:Type}(t:Heap α)(n m:Nat)(v:α):(t.set n v).get m=if m=n then some v else t.get m:=by
 unfold Heap.set Heap.get
 by_cases h1:n<32768<;>by_cases h2:m<32768<;>simp only[h1,h2,if_true,if_false]
 rw[yc _ _ _ _ h1 h2]
 rw[WU]
 rw[WU]
 rfl
def Trie.ofList{α:Type}:XB α->Nat->Trie α->Trie α
 | [],_,t=>t
 | v::vs,i,t=>Trie.ofList vs (i+1) (t.set i v)
abbrev Tm:=Trie WJ
def Tm.at(t:Tm)(i:Nat):WJ:=(Trie.get t i).getD undef
inductive Tag where
 | ro
 | own
 | more (sz:Nat)
 deriving DecidableEq
structure ALoop where
 state:LoopState
 pending:XA Code
 fn:XI
 tmps:Tm
 n:Nat
 params:XD Tmp
 assign:Code
 body:Code
inductive Xs where
 | cells (cs:XB WJ) (tag:Tag)
 | map (es:XB (WJ×WJ))
 | loop (r:ALoop)
structure Xq where
 next:Nat
 wl:Nat
 bX:Heap (XA Xs)
 base:Nat->XA Xs
def Xq.get(m:Xq)(b:Nat):XA Xs :=
 match m.bX.get b with
 | some x=>x
 | none=>m.base b
def Xq.set(m:Xq)(b:Nat)(o:Xs):Xq:={ m with bX:=m.bX.set b (some o),wl:=min m.wl b}
def Xq.kill(m:Xq)(b:Nat):Xq:={ m with bX:=m.bX.set b none,wl:=min m.wl b}
def Xq.alloc(m:Xq)(o:Xs):Xq:={ m with next:=m.next+1,bX:=m.bX.set m.next (some o)}
def ptr(b:Nat)(o:Nat):WJ:=.pointer (some ⟨b,o,none⟩)
def Xq.cells(m:Xq)(b:Nat):XA (XB WJ×Tag) :=
 match m.get b with
 | some (.cells cs tag)=>some (cs,tag)
 | _=>none
def Xq.dQ(m:Xq)(b o n:Nat):XA (XB WJ) :=
 match m.get b with
 | some (.cells cs _)=>let l:=(cs.drop o).take n; if l.length=n then some l else none
 | _=>none
def aK:XB WJ->Nat->XB WJ->XB WJ
 | cs,0,[]=>cs
 | [],0,_=>[]
 | _::cs,0,v::vs=>v::aK cs 0 vs
 | [],_+1,_=>[]
 | c::cs,o+1,vs=>c::aK cs o vs
def Xq.dz(m:Xq)(b o:Nat)(vs:XB WJ):XA Xq :=
 match vs with
 | []=>some m
 | _=>match m.get b with
  | some (.cells _ .ro)=>none
  | some (.cells cs tag)=>if o+vs.length<=cs.length then some (m.set b (.cells (aK cs o vs) tag)) else none
  | _=>none
def lD:WJ->Bool
 | .agg _|.tuple _=>false
 | _=>true
def bt(vs:XB WJ):Bool:=vs.all lD
structure Prim where
 run:XB WJ->Xq->XA (WJ×Xq)
structure Env where
 P:WN
 glob:Nat
 cT:XI->XA Prim
 mono:Prop:=True
def aM:WJ->Bool
 | .bool _|.int _ _|.string _|.pointer none|.slice none _ _|.map none|.nilFunc|.nilIface=>true
 | _=>false
def bG:WJ->Bool
 | .agg cs=>cs.toList.all aM
 | .tuple cs=>cs.toList.all aM
 | v=>aM v
def aq(E:Env)(t:Tm):WM->XA WJ
 | .tmp i=>some (t.at i)
 | .const v=>if bG v then some v else none
 | .global g=>if g<E.glob then some (ptr g 0) else none
 | .func f=>some (.func (.func f) #[] #[])
def bu(E:Env)(t:Tm):XB WM->XA (XB WJ)
 | []=>some []
 | x::xs=>match aq E t x,bu E t xs with
  | some v,some vs=>some (v::vs)
  | _,_=>none
def ek(P:WN)(t:WK):Bool :=
 match P.underlying t with
 | some (.struct _)|some (.array _ _)=>true
 | _=>false
def known(P:WN)(t:WK):Bool:=(P.underlying t).isSome &&(P.info? t).isSome
def aB(P:WN)(t:WK):Nat:=P.cellsOf t
def bR(P:WN)(t:WK):XA WJ:=(P.info? t).bind (·.zero)
def eu(P:WN)(t:WK)(cs:XD WJ)(off:Nat):XA WJ :=
 if !known P t then none else
 if ek P t then some (.agg (cs.extract off (off+aB P t)))
 else cs[off]?
def ir(eq:WK->WJ->WJ->XA Bool)(P:WN)(xs ys:XD WJ):XB (WK×Nat)->XA Bool
 | []=>some true
 | (t,off)::rest =>
  match eu P t xs off,eu P t ys off with
  | some x,some y=>match eq t x y with
   | some true=>ir eq P xs ys rest
   | r=>r
  | _,_=>none
def lj(P:WN):Nat->WK->WJ->WJ->XA Bool
 | 0,_,_,_=>none
 | d+1,t,x,y =>
  match P.underlying t,x,y with
  | some .bool,.bool a,.bool b=>some (a==b)
  | some (.int _),.int k a,.int k' b=>if k=k' then some (a==b) else none
  | some .string,.string a,.string b=>some (a==b)
  | some (.pointer _),.pointer none,.pointer b=>some b.isNone
  | some (.pointer _),.pointer (some _),.pointer none=>some false
  | some (.slice _),.slice none _ _,.slice b _ _=>some b.isNone
  | some (.slice _),.slice (some _) _ _,.slice none _ _=>some false
  | some (.map _ _),.map none,.map b=>some b.isNone
  | some (.map _ _),.map (some _),.map none=>some false
  | some (.func _ _ _),.nilFunc,.nilFunc=>some true
  | some (.func _ _ _),.nilFunc,.func _ _ _=>some false
  | some (.func _ _ _),.func _ _ _,.nilFunc=>some false
  | some (.struct fs),.agg xs,.agg ys =>
   if P.stoodInHeld t || fs.any (·.name == "_") then none else
   ir (lj P d) P xs ys (fs.toList.map fun f=>(f.type,f.offset))
  | some (.array len elem),.agg xs,.agg ys=>if known P elem then ir (lj P d) P xs ys ((List.range len).map fun i=>(elem,i*aB P elem)) else none
  | _,_,_=>none
def bf(op:BinOp)(xType:WK)(P:WN)(x y:WJ):XA WJ :=
 match op,x,y with
 | .shl,.int k a,.int _ b=>if b<0 then none else some (.int k (k.wrap (a*2 ^ (min b.toNat k.bits))))
 | .shr,.int k a,.int _ b=>if b<0 then none else some (.int k (a.fdiv (2 ^ (min b.toNat k.bits))))
 | .eql,.int k a,.int k' b=>if k=k' then some (.bool (a==b)) else none
 | .neq,.int k a,.int k' b=>if k=k' then some (.bool (a != b)) else none
 | .lss,.int k a,.int k' b=>if k=k' then some (.bool (decide (a<b))) else none
 | .leq,.int k a,.int k' b=>if k=k' then some (.bool (decide (a<=b))) else none
 | .gtr,.int k a,.int k' b=>if k=k' then some (.bool (decide (a>b))) else none
 | .geq,.int k a,.int k' b=>if k=k' then some (.bool (decide (a≥b))) else none
 | .add,.int k a,.int k' b=>if k=k' then some (.int k (k.wrap (a+b))) else none
 | .sub,.int k a,.int k' b=>if k=k' then some (.int k (k.wrap (a-b))) else none
 | .mul,.int k a,.int k' b=>if k=k' then some (.int k (k.wrap (a*b))) else none
 | .quo,.int k a,.int k' b=>if k=k' then(if b=0 then none else some (.int k (k.wrap (a.tdiv b)))) else none
 | .rem,.int k a,.int k' b=>if k=k' then(if b=0 then none else some (.int k (a.tmod b))) else none
 | .and,.int k a,.int k' b=>if k=k' then some (.int k (k.wrap (BitVec.ofInt k.bits a &&& BitVec.ofInt k.bits b).toNat)) else none
 | .or,.int k a,.int k' b=>if k=k' then some (.int k (k.wrap (BitVec.ofInt k.bits a ||| BitVec.ofInt k.bits b).toNat)) else none
 | .xor,.int k a,.int k' b=>if k=k' then some (.int k (k.wrap (BitVec.ofInt k.bits a ^^^ BitVec.ofInt k.bits b).toNat)) else none
 | .andNot,.int k a,.int k' b=>if k=k' then some (.int k (k.wrap (BitVec.ofInt k.bits a &&& ~~~ BitVec.ofInt k.bits b).toNat)) else none
 | .eql,.string a,.string b=>some (.bool (a==b))
 | .neq,.string a,.string b=>some (.bool (a != b))
 | _,.string _,_=>none
 | .eql,.agg xs,.agg ys=>if P.eqGuardType P.depth xType then none else(lj P Op.maxDepth xType (.agg xs) (.agg ys)).map .bool
 | .neq,.agg xs,.agg ys=>if P.eqGuardType P.depth xType then none else(lj P Op.maxDepth xType (.agg xs) (.agg ys)).map fun b=>.bool (!b)
 | .eql,x,y=>match x with
  | .bool _|.pointer _|.slice _ _ _|.map _|.func _ _ _|.nilFunc=>(lj P Op.maxDepth xType x y).map .bool
  | _=>none
 | .neq,x,y=>match x with
  | .bool _|.pointer _|.slice _ _ _|.map _|.func _ _ _|.nilFunc=>(lj P Op.maxDepth xType x y).map fun b=>.bool (!b)
  | _=>none
 | _,_,_=>none
def Cm(op:UnOp)(x:WJ):XA WJ :=
 match op,x with
 | .neg,.int k n=>some (.int k (k.wrap (0-n)))
 | .xor,.int k n=>some (.int k (k.wrap (BitVec.ofInt k.bits (if k.signed then -1 else k.max) ^^^ BitVec.ofInt k.bits n).toNat))
 | .not,.bool b=>some (.bool !b)
 | _,_=>none
def fL(P:WN)(src dst:WK)(x:WJ):XA WJ :=
 match P.underlying src,P.underlying dst,x with
 | some _,some (.int k),.int _ n=>some (.int k (k.wrap n))
 | some _,some .string,.string s=>some (.string s)
 | _,_,_=>none
def hJ(place:Nat->XA (Nat×Nat))(cells:XB WJ):XB (Nat×WJ)->XA (XB WJ)
 | []=>some cells
 | (i,v)::rest =>
  match place i with
  | none=>none
  | some (off,size) =>
   if v.cells.size≠size||off+v.cells.size>cells.length then none
   else hJ place (aK cells off v.cells.toList) rest
def dn(E:Env)(t:Tm):XB (Nat×WM)->XA (XB (Nat×WJ))
 | []=>some []
 |(i,x)::xs=>match aq E t x,dn E t xs with
  | some v,some vs=>some ((i,v)::vs)
  | _,_=>none
def kh(P:WN)(t:WK)(parts:XB (Nat×WJ)):XA WJ :=
 match bR P t,P.underlying t with
 | some z,some (.struct fields) =>
  if fields.toList.all (fun f=>known P f.type) then
   (hJ (fun i=>(fields[i]?).map fun f=>(f.offset,aB P f.type)) z.cells.toList parts).map fun cs=>.agg cs.toArray
  else none
 | some z,some (.array _ elem) =>
  if known P elem then(hJ (fun i=>some (i*aB P elem,aB P elem)) z.cells.toList parts).map fun cs=>.agg cs.toArray else none
 | _,_=>none
def cq(zero:XB WJ):Nat->XB WJ
 | 0=>[]
 | n+1=>zero++cq zero n
def fR(P:WN)(elem:WK)(n:Nat):XA (XB WJ) :=
 match bR P elem with
 | some z=>if z.cells.size=aB P elem then some (cq z.cells.toList n) else none
 | none=>none
def kj(x:WJ)(y:Nat):XA Nat :=
 match x with
 | .int _ i=>if 0<=i/\i<=y then some i.toNat else none
 | _=>none
def eT(len cap:Nat)(low high max:XA WJ):XA (Nat×Nat×Nat) :=
 match(match max with|some v=>kj v cap|none=>some cap) with
 | none=>none
 | some m =>
  match(match high,max with|some v,_=>kj v m|none,none=>some len|none,some _=>none) with
  | none=>none
  | some h =>
   match(match low with|some v=>kj v h|none=>some 0) with
   | none=>none
   | some l=>some (l,h,m)
def gR(b:Nat):WJ:=.slice (some ⟨b,0,some 0⟩) 0 0
def dC(E:Env)(t:Tm):XA WM->XA (XA WJ)
 | none=>some none
 | some x=>(aq E t x).map some
def cP(P:WN)(xType:WK)(x:WJ)(low high max:XA WJ)(m:Xq):XA WJ :=
 match P.underlying xType,x with
 | some (.slice elem),.slice none len cap =>
  if known P elem then
   match eT len cap low high max with
   | some (l,h,mx)=>some (.slice none (h-l) (mx-l))
   | none=>none
  else none
 | some (.slice elem),.slice (some ⟨b,o,none⟩) len cap =>
  if known P elem then
   match m.get b with
   | some (.cells _ (.more sz)) =>
    if sz≠aB P elem then none else
    match max with
    | none=>match eT len cap low high none with
     | some (l,h,_)=>if cap=l then some (gR b) else some (.slice (some ⟨b,o+l*aB P elem,none⟩) (h-l) (cap-l))
     | none=>none
    | some mv =>
     match eT len cap low high (some mv) with
     | some (l,h,mx)=>if mx=l/\h=l then some (.slice (some ⟨b,0,some 1⟩) 0 0) else some (.complex .f64 0 0)
     | none=>none
   | some (.cells _ _) =>
    match eT len cap low high max with
    | some (l,h,mx)=>some (.slice (some (if mx=l then⟨b,o,none⟩ else⟨b,o+l*aB P elem,none⟩)) (h-l) (mx-l))
    | none=>none
   | _=>none
  else none
 | some (.slice elem),.slice (some ⟨b,_,some sp⟩) 0 0 =>
  if known P elem then
   match eT 0 0 low high max with
   | some _=>some (.slice (some ⟨b,0,some sp⟩) 0 0)
   | none=>none
  else none
 | some (.array n elem),.pointer (some ⟨b,o,none⟩) =>
  if known P elem then
   match m.get b with
   | some (.cells _ (.more _))=>none
   | some (.cells _ _) =>
    match eT n n low high max with
    | some (l,h,mx)=>some (.slice (some (if mx=l then⟨b,o,none⟩ else⟨b,o+l*aB P elem,none⟩)) (h-l) (mx-l))
    | none=>none
   | _=>none
  else none
 | _,_=>none
def aR(P:WN)(s:WK)(x:WJ)(f:Nat):XA WJ :=
 match P.underlying s,x with
 | some (.struct fields),.pointer (some ⟨b,o,none⟩) =>
  match fields[f]? with
  | some fl=>if known P fl.type&&aB P fl.type != 0 then some (ptr b (o+fl.offset)) else none
  | none=>none
 | _,_=>none
def bQ(P:WN)(t:WK)(x index:WJ):XA WJ :=
 match P.underlying t,x,index with
 | some (.array len elem),.pointer (some ⟨b,o,none⟩),.int _ i =>
  if known P elem&&decide (0<=i/\i<len) then some (ptr b (o+i.toNat*aB P elem)) else none
 | some (.slice elem),.slice (some ⟨b,o,none⟩) len _,.int _ i =>
  if known P elem&&decide (0<=i/\i<len) then some (ptr b (o+i.toNat*aB P elem)) else none
 | _,_,_=>none
def Fb(P:WN)(t:WK)(x:WJ):XA WJ :=
 match P.underlying t,x with
 | some (.array n _),.slice (some ⟨b,o,none⟩) len _=>if n<=len then some (ptr b o) else none
 | _,_=>none
def fe(P:WN)(t:WK)(x index:WJ):XA WJ :=
 match P.underlying t,x,index with
 | some (.array len elem),.agg cs,.int _ i=>if 0<=i/\i<len then eu P elem cs (i.toNat*aB P elem) else none
 | some .string,.string s,.int _ i=>if 0<=i then(s[i.toNat]?).map fun b=>.int .u8 b.toNat else none
 | _,_,_=>none
def eY(P:WN)(t:WK)(x:WJ)(f:Nat):XA WJ :=
 match P.underlying t,x with
 | some (.struct fields),.agg cs =>
  match fields[f]? with
  | some fl=>eu P fl.type cs fl.offset
  | none=>none
 | _,_=>none
def dJ(P:WN)(t:WK)(a:WJ)(m:Xq):XA WJ :=
 match a with
 | .pointer (some ⟨b,o,none⟩) =>
  if !known P t then none else
  if ek P t then(m.dQ b o (aB P t)).map fun cs=>.agg cs.toArray
  else match m.get b with
   | some (.cells cs _)=>cs[o]?
   | _=>none
 | _=>none
def fo(P:WN)(t:WK)(a v:WJ)(m:Xq):XA Xq :=
 match a with
 | .pointer (some ⟨b,o,none⟩) =>
  if known P t&&v.cells.size==aB P t&&bt v.cells.toList then m.dz b o v.cells.toList else none
 | _=>none
def jA(P:WN)(keyType:WK)(k:WJ):XB (WJ×WJ)->Nat->XA (XA (Nat×WJ))
 | [],_=>some none
 | e::es,i =>
  match lj P Op.maxDepth keyType k e.1 with
  | some true=>some (some (i,e.2))
  | some false=>jA P keyType k es (i+1)
  | none=>none
def gJ(P:WN)(t:WK):Bool :=
 match P.underlying t with
 | some (.int _)|some .string|some .bool=>true
 | _=>false
def jq(P:WN)(t:WK)(v:WJ):Bool :=
 match P.underlying t,v with
 | some (.int _),.int _ _|some .string,.string _|some .bool,.bool _=>true
 | some (.array len elem),.agg cs=>gJ P elem&&known P elem&&aB P elem==1&&cs.size==len&&cs.toList.all aM
 | some (.struct fs),.agg cs=>fs.toList.all (fun f=>gJ P f.type&&known P f.type&&decide (f.offset<cs.size))&&cs.toList.all aM
 | _,_=>false
def mapOf(m:Xq)(x:WJ):XA (XB (WJ×WJ)) :=
 match x with
 | .map none=>some []
 | .map (some r)=>match m.get r with
  | some (.map es)=>some es
  | _=>none
 | _=>none
def dX(P:WN)(xType:WK)(x index:WJ)(commaOk:Bool)(m:Xq):XA WJ :=
 match P.underlying xType with
 | some (.map key elem) =>
  match mapOf m x,bR P elem with
  | some es,some z =>
   if jq P key index then
    match jA P key index es 0 with
    | some (some (_,v))=>some (if commaOk then .tuple #[v,.bool true] else v)
    | some none=>if bG z then some (if commaOk then .tuple #[z,.bool false] else z) else none
    | none=>none
   else none
  | _,_=>none
 | _=>none
def nU:XB (WJ×WJ)->Nat->WJ->WJ->XB (WJ×WJ)
 | [],_,k,v=>[(k,v)]
 | _::es,0,k,v=>(k,v)::es
 | e::es,n+1,k,v=>e::nU es n k v
def oY(es:XB (WJ×WJ))(i:Nat)(key:WJ):Bool :=
 match es[i]? with
 | some e=>bG e.1&&Instr.sameBits 10000 e.1 key
 | none=>false
def eK(P:WN)(mapType:WK)(x key value:WJ)(m:Xq):XA Xq :=
 match P.underlying mapType,x with
 | some (.map kt _),.map (some r) =>
  match m.get r with
  | some (.map es) =>
   if jq P kt key then
    match jA P kt key es 0 with
    | some (some (i,_)) =>
     if oY es i key then some (m.set r (.map (nU es i key value))) else none
    | some none=>some (m.set r (.map (es++[(key,value)])))
    | none=>none
   else none
  | _=>none
 | _,_=>none
def sE(P:WN)(mapType:WK)(x key:WJ)(m:Xq):XA Xq :=
 match P.underlying mapType,x with
 | some (.map kt _),.map (some r) =>
  match m.get r with
  | some (.map es) =>
   if jq P kt key then
    match jA P kt key es 0 with
    | some (some (i,_))=>some (m.set r (.map (es.eraseIdx i)))
    | some none=>some m
    | none=>none
   else none
  | _=>none
 | _,_=>none
def cu(sz:Nat)(x:WJ)(n:Nat)(m:Xq):XA (XB WJ) :=
 match x with
 | .slice none _ _=>if n=0 then some [] else none
 | .slice (some ⟨b,o,none⟩) _ _=>if n=0 then some [] else m.dQ b o (n*sz)
 | .slice (some ⟨_,_,some _⟩) _ _=>if n=0 then some [] else none
 | _=>none
def gH(bytes need:Nat):Bool:=(2*need+2000)*bytes<=2 ^ 48
def iH(P:WN)(elem:WK)(xType:XA WK)(x:WJ)(m:Xq):XA (Nat×XB WJ) :=
 match xType.bind P.underlying,x with
 | some (.slice _),.slice a l c=>(cu (aB P elem) (.slice a l c) l m).map fun cs=>(l,cs)
 | some (.int _),.int _ l=>if 0<=l/\l<=2 ^ 40 then(fR P elem l.toNat).bind fun zs=>if zs.all aM then some (l.toNat,zs) else none else none
 | _,_=>none
def dF (P:WN) (sType:WK) (xType:XA WK) (s x:WJ) (m:Xq):XA (WJ × Xq) :=
 match P.underlying sType,s,iH P (match P.underlying sType with|some (.slice e)=>e|_=>0) xType x m with
 | some (.slice elem),.slice base len cap,some (n,new) =>
  let sz:=aB P elem
  if !(known P elem)||sz==0 || !bt new || !(P.info? elem).any (fun i=>gH i.bytes (len+n)&&i.bytes != 0)||new.length != n*sz || !(bR P elem).any (fun z=>z.cells.size==sz&&z.cells.toList.all aM) then none else
  match base with
  | none =>
   if len≠0\/cap≠0 then none else
   if n=0 then some (.slice none 0 0,m)
   else some (.slice (some ⟨m.next,0,none⟩) n n,m.alloc (.cells new (.more sz)))
  | some ⟨b,o,none⟩ =>
   match m.get b with
   | some (.cells cs tag) =>
    if len+n<=cap then
     (m.dz b (o+len*sz) new).map fun m'=>(.slice (some ⟨b,o,none⟩) (len+n) cap,m')
    else match tag with
     | .more sz' =>
      if sz'=sz/\o=0 then
       let old:=cs.take (len*sz)
       if old.length=len*sz then some (.slice (some ⟨m.next,0,none⟩) (len+n) (len+n),(m.kill b).alloc (.cells (old++new) (.more sz))) else none
      else none
     | _ =>
      match m.dQ b o (len*sz) with
      | some old=>some (.slice (some ⟨m.next,0,none⟩) (len+n) (len+n),m.alloc (.cells (old++new) (.more sz)))
      | none=>none
   | _=>none
  | some ⟨b,_,some 1⟩ =>
   if len≠0\/cap≠0 then none else
   if n=0 then some (.slice (some ⟨b,0,some 1⟩) 0 0,m)
   else some (.slice (some ⟨m.next,0,none⟩) n n,m.alloc (.cells new (.more sz)))
  | _=>if len=0/\cap=0/\n=0 then some (s,m) else none
 | _,_,_=>none
def tJ(P:WN)(dType:WK)(dst src:WJ)(m:Xq):XA (WJ×Xq) :=
 match P.underlying dType,dst,src with
 | some (.slice elem),.slice base dLen _,.slice _ sLen _ =>
  let n:=min sLen dLen
  if !(known P elem) then none else
  match cu (aB P elem) src n m with
  | none=>none
  | some cells =>
   if !bt cells then none else
   match base,n with
   | _,0=>some (.int .i64 0,m)
   | some ⟨b,o,none⟩,n+1=>(m.dz b o cells).map fun m'=>(.int .i64 (n+1:Nat),m')
   | _,_=>none
 | _,_,_=>none
def BO(P:WN)(t:WK)(x:WJ)(m:Xq):XA (WJ×Xq) :=
 match P.underlying t,x with
 | some (.slice _),.slice _ 0 _=>some (.tuple #[],m)
 | some (.slice elem),.slice (some ⟨b,o,none⟩) n _ =>
  match fR P elem n with
  | some zs=>if zs.all aM then(m.dz b o zs).map fun m'=>(.tuple #[],m') else none
  | none=>none
 | _,_=>none
def eD(f:Int->Int->Int):IntKind->Int->XB WJ->XA WJ
 | k,a,[]=>some (.int k a)
 | k,a,.int _ b::vs=>eD f k (f a b) vs
 | _,_,_=>none
def bw(P:WN)(b:Builtin)(argTypes:XD WK)(args:XB WJ)(m:Xq):XA (WJ×Xq) :=
 match b,args with
 | .len,[x] =>
  match(argTypes[0]?).bind P.underlying,x with
  | some .string,.string s=>some (.int .i64 s.size,m)
  | some (.array n _),_=>some (.int .i64 n,m)
  | some (.pointer a),_=>match P.underlying a with
   | some (.array n _)=>some (.int .i64 n,m)
   | _=>none
  | some (.slice _),.slice _ n _=>some (.int .i64 n,m)
  | some (.map _ _),x=>(mapOf m x).map fun es=>(.int .i64 es.length,m)
  | _,_=>none
 | .cap,[x] =>
  match(argTypes[0]?).bind P.underlying,x with
  | some (.slice _),.slice none _ n=>some (.int .i64 n,m)
  | some (.slice _),.slice (some ⟨b,_,none⟩) _ n=>match m.get b with
   | some (.cells _ (.more _))=>none
   | some (.cells _ _)=>some (.int .i64 n,m)
   | _=>none
  | _,_=>none
 | .append,[s,x]=>match argTypes[0]? with
  | some t=>dF P t argTypes[1]? s x m
  | none=>none
 | .copy,[d,s]=>match argTypes[0]? with
  | some t=>tJ P t d s m
  | none=>none
 | .clear,[x]=>match argTypes[0]? with
  | some t=>BO P t x m
  | none=>none
 | .delete,[x,k]=>match argTypes[0]? with
  | some t=>(sE P t x k m).map fun m'=>(.tuple #[],m')
  | none=>none
 | .max,.int k a::vs=>(eD (fun x y=>if y>x then y else x) k a vs).map fun v=>(v,m)
 | .min,.int k a::vs=>(eD (fun x y=>if y<x then y else x) k a vs).map fun v=>(v,m)
 | _,_=>none
def cQ(E:Env)(t:Tm)(m:Xq)(o:Op):XA (WJ×Xq) :=
 let P:=E.P
 match o with
 | .move x|.assign x=>(aq E t x).map fun v=>(v,m)
 | .pick c a b=>match aq E t c with
  | some (.bool true)=>(aq E t a).map fun v=>(v,m)
  | some (.bool false)=>(aq E t b).map fun v=>(v,m)
  | _=>none
 | .alloc elem=>match bR P elem with
  | some z=>if bG z then some (ptr m.next 0,m.alloc (.cells z.cells.toList .own)) else none
  | none=>none
 | .box _ x=>(aq E t x).map fun v=>(ptr m.next 0,m.alloc (.cells v.cells.toList .own))
 | .build ty parts=>match dn E t parts.toList,bR P ty with
  | some ps,some z=>if bG z then(kh P ty ps).map fun v=>(v,m) else none
  | _,_=>none
 | .buildSlice ty len parts =>
  match P.underlying ty,dn E t parts.toList with
  | some (.slice elem),some ps =>
   let sz:=aB P elem
   if !(known P elem)||len*sz>2 ^ 24 then none else
   match fR P elem len with
   | some zs=>if zs.all aM then(hJ (fun i=>some (i*sz,sz)) zs ps).map fun cs=>(.slice (some ⟨m.next,0,none⟩) len len,m.alloc (.cells cs .own)) else none
   | none=>none
  | _,_=>none
 | .load ty a=>match aq E t a with
  | some p=>(dJ P ty p m).map fun v=>(v,m)
  | none=>none
 | .store ty a x=>match aq E t a,aq E t x with
  | some p,some v=>(fo P ty p v m).map fun m'=>(undef,m')
  | _,_=>none
 | .nilCheck x=>match aq E t x with
  | some (.pointer (some a))=>some (.pointer (some a),m)
  | some (.func (.func f) a b)=>some (.func (.func f) a b,m)
  | some (.func (.yield f) a b)=>some (.func (.yield f) a b,m)
  | _=>none
 | .binOp op xType x y _=>match aq E t x,aq E t y with
  | some a,some b=>(bf op xType P a b).map fun v=>(v,m)
  | _,_=>none
 | .unOp op _ x=>match aq E t x with
  | some a=>(Cm op a).map fun v=>(v,m)
  | none=>none
 | .convert src dst x=>match aq E t x with
  | some a=>(fL P src dst a).map fun v=>(v,m)
  | none=>none
 | .makeFunc (.func f) first captured=>match bu E t first.toList,bu E t captured.toList with
  | some fs,some cs=>some (.func (.func f) fs.toArray cs.toArray,m)
  | _,_=>none
 | .makeMap _ none=>some (.map (some m.next),m.alloc (.map []))
 | .makeSlice ty len cap=>match P.underlying ty,aq E t len,aq E t cap with
  | some (.slice elem),some (.int .i64 l),some (.int .i64 c) =>
   if 0<=l/\l<=c/\(P.info? elem).any (fun i=>i.bytes*c<=2 ^ 40&&i.bytes != 0)/\known P elem then
    match fR P elem c.toNat with
    | some zs=>if zs.all aM then some (.slice (some ⟨m.next,0,none⟩) l.toNat c.toNat,m.alloc (.cells zs .own)) else none
    | none=>none
   else none
  | _,_,_=>none
 | .slice ty x lo hi mx=>match aq E t x,dC E t lo,dC E t hi,dC E t mx with
  | some v,some l,some h,some k=>(cP P ty v l h k m).map fun v=>(v,m)
  | _,_,_,_=>none
 | .fieldAddr s x f=>match aq E t x with
  | some v=>(aR P s v f).map fun v=>(v,m)
  | none=>none
 | .field ty x f=>match aq E t x with
  | some v=>(eY P ty v f).map fun v=>(v,m)
  | none=>none
 | .sliceToArrayPointer ty x=>match aq E t x with
  | some v=>(Fb P ty v).map fun v=>(v,m)
  | none=>none
 | .indexAddr ty x i=>match aq E t x,aq E t i with
  | some v,some n=>(bQ P ty v n).map fun v=>(v,m)
  | _,_=>none
 | .index ty x i=>match aq E t x,aq E t i with
  | some v,some n=>(fe P ty v n).map fun v=>(v,m)
  | _,_=>none
 | .lookup ty x i ok=>match aq E t x,aq E t i with
  | some v,some n=>(dX P ty v n ok m).map fun v=>(v,m)
  | _,_=>none
 | .mapUpdate ty x k v|.insert ty x k v=>match aq E t x,aq E t k,aq E t v with
  | some x,some k,some v=>(eK P ty x k v m).map fun m'=>(undef,m')
  | _,_,_=>none
 | .extract x i=>match aq E t x with
  | some (.tuple vs)=>(vs[i]?).map fun v=>(v,m)
  | _=>none
 | .call c=>match c.callee with
  | .builtin b=>match bu E t c.args.toList with
   | some vs=>bw P b c.argTypes vs m
   | none=>none
  | _=>none
 | _=>none
def aE:Op->Bool
 | .store .. | .mapUpdate .. | .insert ..=>true
 | .call c=>match c.callee with
  | .builtin .append|.builtin .copy|.builtin .delete|.builtin .clear=>true
  | .builtin _=>false
  | _=>true
 | _=>false
def pt:Op->Bool
 | .load .. | .lookup .. | .slice ..=>true
 | .call c=>match c.callee with
  | .builtin .len|.builtin .cap=>true
  | _=>false
 | _=>false
def tmpsOf:XB WM->XB Tmp
 | []=>[]
 | .tmp t::xs=>t::tmpsOf xs
 | _::xs=>tmpsOf xs
def looks(ops:XD Oper)(o:Oper):XB Tmp :=
 tmpsOf o.op.operands.toList++(match o.guard with
  | some (g,_)=>((ops[g]?).bind (·.dst)).toList
  | none=>[])
def DL(ops:XD Oper):XB Nat:=(Region.before ops).toList
def se(ops:XD Oper)(a b:Oper):Bool :=
 !(aE a.op&&aE b.op) &&
 (match a.dst with
  | some d=>!(looks ops b).contains d&&b.dst != some d
  | none=>true) &&
 (match b.dst with
  | some d=>!(looks ops a).contains d
  | none=>true)
def clash(a b:Oper):Bool:=(aE a.op&&pt b.op) ||(pt a.op&&aE b.op)
def yf:XB Nat->Bool
 | []=>true
 | x::xs=>!xs.contains x&&yf xs
def fi(o:Oper):XB Nat:=o.after.toList.filterMap fun e=>if Region.binds .any e then some e.on else none
def yE(ops:XD Oper)(bs:XB Nat):Bool :=
 yf (ops.toList.filterMap (·.dst)) &&
 (List.range ops.size).all fun j =>
  (fi (ops.getD j default)).all (fun e=>decide (e<j)) &&
  (match(ops.getD j default).guard with
   | none=>true
   | some (g,_)=>decide (g<j) &&(bs.getD j 0).testBit g) &&
  (List.range j).all fun i =>
   if(bs.getD j 0).testBit i then(fi (ops.getD j default)).any (fun e=>e==i ||(Nat.blt i e &&(bs.getD e 0).testBit i))
   else se ops (ops.getD i default) (ops.getD j default)
def mN(ops:XD Oper)(bs:XB Nat):XB (Nat×Nat) :=
 (List.range ops.size).flatMap fun j=>((List.range j).filter fun i=>!(bs.getD j 0).testBit i&&clash (ops.getD i default) (ops.getD j default)).map fun i=>(i,j)
def jB(ops:XD Oper):XA (XB (Nat×Nat)) :=
 if yE ops (DL ops) then some (mN ops (DL ops)) else none
def fT:WJ->XA Nat
 | .pointer (some a)=>some a.block
 | .slice (some a) _ _=>some a.block
 | .map (some r)=>some r
 | _=>none
def aU(E:Env)(t:Tm)(o:Op):XA Nat :=
 match o with
 | .load _ a=>(aq E t a).bind fT
 | .lookup _ x _ _=>(aq E t x).bind fT
 | .slice _ x _ _ _=>(aq E t x).bind fT
 | .call c=>match c.callee with
  | .builtin .len|.builtin .cap=>match bu E t c.args.toList with
   | some [v]=>fT v
   | _=>none
  | _=>none
 | _=>none
def dY(E:Env)(t:Tm)(o:Op):XA Nat :=
 match o with
 | .store _ a _=>match aq E t a with
  | some (.pointer (some a))=>some a.block
  | _=>none
 | _=>none
def qH:WJ->WJ->Bool
 | .int k a,.int k' b=>decide (k=k')&&decide (a=b)
 | .bool a,.bool b=>a==b
 | .slice a l c,.slice a' l' c'=>decide (a=a') &&(Nat.beq l l'&&Nat.beq c c')
 | .map a,.map b=>decide (a=b)
 | .pointer a,.pointer b=>decide (a=b)
 | _,_=>false
def tU:XB WJ->XB WJ->Bool
 | [],[]=>true
 | v::vs,u::us=>qH v u&&tU vs us
 | _,_=>false
def wP:WJ->WJ->Bool
 | .func (.func f) a c,.func (.func f') a' c'=>Nat.beq f f' &&(tU a.toList a'.toList&&tU c.toList c'.toList)
 | v,u=>qH v u
def qV:XB WJ->XB WJ->Bool
 | [],[]=>true
 | v::vs,u::us=>wP v u&&qV vs us
 | _,_=>false
def yD:XB (WJ×WJ)->XB (WJ×WJ)->Bool
 | [],[]=>true
 | v::vs,u::us=>wP v.1 u.1&&wP v.2 u.2&&yD vs us
 | _,_=>false
def Ei:XA Xs->XA Xs->Bool
 | some (.cells cs t),some (.cells cs' t')=>decide (t=t')&&qV cs cs'
 | some (.map es),some (.map es')=>yD es es'
 | _,_=>false
noncomputable def hC (m m':Xq) (b:Nat):Bool:=Ei (m.get b) (m'.get b)||@decide (m.get b=m'.get b) (Classical.propDecidable _)
structure Note where
 read:XA Nat
 wl:Nat
 next:Nat
 wrote:XA Nat
 kept:Nat->Bool
def Note.ok(r e:Note):Bool :=
 match r.read with
 | none=>true
 | some b=>decide (b<e.wl)||decide (e.next<=b) ||(match e.wrote with
  | some b'=>b != b'
  | none=>false)||e.kept b
def dm(a:Note):Bool :=
 match a.read with
 | none=>true
 | some b=>Nat.blt b a.next
def dD(notes:XB Note)(ops:XD Oper)(p:Nat×Nat):Bool :=
 match notes[p.1]?,notes[p.2]? with
 | some a,some b =>
  (!(aE (ops.getD p.2 default).op)||Note.ok a b) &&(!(aE (ops.getD p.1 default).op)||Note.ok b a)
 | _,_=>false
inductive Xr where
 | normal
 | exit (id:Nat)
 | ret
 deriving DecidableEq
structure Fr where
 tmps:Tm
 n:Nat
 fn:XI
 round:XA Nat
inductive Task where
 | code (c:Code) (fr:Fr) (m:Xq)
 | loop (c:Code) (fr:Fr) (m:Xq)
 | call (f:XI) (args:XB WJ) (m:Xq)
 | round (l:Nat) (args:XB WJ) (m:Xq)
inductive Res where
 | code (e:Xr) (t:Tm) (m:Xq)
 | val (v:WJ) (m:Xq)
abbrev K:=Task->XA Res
def gz(n:Nat)(t:Tm)(dst:XA Tmp)(v:WJ):XA Tm :=
 match dst with
 | some d=>match Nat.blt d n with
  | true=>some (t.set d v)
  | false=>none
 | none=>some t
def dZ(k:K)(E:Env)(t:Tm)(m:Xq)(o:Op):XA (WJ×Xq) :=
 match o with
 | .call c=>match c.callee with
  | .value f=>match aq E t f,bu E t c.args.toList with
   | some (.func (.func g) first captured),some args=>match k (.call g (first.toList++args++captured.toList) m) with
    | some (.val v m')=>some (v,m')
    | _=>none
   | some (.func (.yield l) first _),some args=>match k (.round l (first.toList++args) m) with
    | some (.val v m')=>some (v,m')
    | _=>none
   | _,_=>none
  | _=>cQ E t m o
 | _=>cQ E t m o
def cU(ops:XD Oper)(t:Tm)(j:Nat):XA Bool :=
 match((ops[j]?).bind (·.dst)) with
 | some d=>match t.get d with
  | some (.bool b)=>some b
  | _=>none
 | none=>none
def aX(ops:XD Oper)(o:Oper)(t:Tm):Bool :=
 match o.guard with
 | none=>true
 | some (j,want)=>match cU ops t j with
  | some b=>b==want
  | none=>false
def iC(k:K)(E:Env)(n:Nat)(ops:XD Oper):XB Oper->Tm->Xq->XA (Tm×Xq)
 | [],t,m=>some (t,m)
 | o::os,t,m =>
  if aX ops o t then
   match dZ k E t m o.op with
   | some (v,m')=>match gz n t o.dst v with
    | some t'=>iC k E n ops os t' m'
    | none=>none
   | none=>none
  else match gz n t o.dst undef with
   | some t'=>iC k E n ops os t' m
   | none=>none
noncomputable def dO (k:K) (E:Env) (n:Nat) (ops:XD Oper):XB Oper->Tm->Xq->XA (Tm×Xq×XB Note)
 | [],t,m=>some (t,m,[])
 | o::os,t,m =>
  if aX ops o t then
   match dZ k E t { m with wl:=m.next} o.op with
   | some (v,m')=>match gz n t o.dst v with
    | some t1=>match dO k E n ops os t1 { m' with wl:=min m.wl m'.wl} with
     | some (t',m'',ns)=>some (t',m'',{ read:=aU E t o.op,wl:=m'.wl,next:=m.next,wrote:=dY E t o.op,kept:=hC m m'}::ns)
     | none=>none
    | none=>none
   | none=>none
  else match gz n t o.dst undef with
   | some t1=>match dO k E n ops os t1 m with
    | some (t',m'',ns)=>some (t',m'',{ read:=none,wl:=m.next,next:=m.next,wrote:=none,kept:=fun _=>false}::ns)
    | none=>none
   | none=>none
def bZ(E:Env)(t:Tm)(m:Xq):XB ResultVar->XA (XB WJ)
 | []=>some []
 | .tmp i::rs=>(bZ E t m rs).map fun vs=>t.at i::vs
 | .cell a ty::rs=>match dJ E.P ty (t.at a) m,bZ E t m rs with
  | some v,some vs=>some (v::vs)
  | _,_=>none
def fw:XB WJ->WJ
 | [v]=>v
 | vs=>.tuple vs.toArray
def fE(n:Nat)(t:Tm):XB Tmp->XB WJ->XA Tm
 | p::ps,v::vs=>match Nat.blt p n with
  | true=>fE n (t.set p v) ps vs
  | false=>none
 | _,_=>some t
def yd:Xr->XA Code
 | .normal=>none
 | .exit id=>some (.exit id)
 | .ret=>some .ret
def jS(E:Env)(fr:Fr)(m:Xq)(f:WM):Bool :=
 (match aq E fr.tmps f with
  | some (.func (.func g) _ _)=>(E.cT g).isNone
  | _=>false) &&
 (match fr.round with
  | none=>true
  | some l=>match m.get l with
   | some (.loop _)=>true
   | _=>false)
def nS(E:Env)(f:XI)(args:XB WJ)(m:Xq):XA (WJ×Xq):=(E.cT f).bind fun p=>p.run args m
noncomputable def step (E:Env) (k:K):Task->XA Res
 | .code c fr m =>
  match c with
  | .skip=>some (.code .normal fr.tmps m)
  | .label _=>some (.code .normal fr.tmps m)
  | .seq a b=>match k (.code a fr m) with
   | some (.code .normal t m')=>k (.code b { fr with tmps:=t} m')
   | some (.code e t m')=>some (.code e t m')
   | _=>none
  | .cond x a b=>match aq E fr.tmps x with
   | some (.bool true)=>k (.code a fr m)
   | some (.bool false)=>k (.code b fr m)
   | _=>none
  | .block id a=>match k (.code a fr m) with
   | some (.code (.exit id') t m')=>if id'=id then some (.code .normal t m') else some (.code (.exit id') t m')
   | some (.code e t m')=>some (.code e t m')
   | _=>none
  | .loop a=>k (.loop a fr m)
  | .exit id=>some (.code (.exit id) fr.tmps m)
  | .ret=>some (.code .ret fr.tmps m)
  | .scope a=>match k (.code a fr m) with
   | some (.code e t m')=>some (.code e t m')
   | _=>none
  | .region _ ops draw =>
   if draw then
    match jB ops with
    | some ps=>match dO k E fr.n ops ops.toList fr.tmps m with
     | some (t,m',ns)=>if ps.all (dD ns ops)&&ns.all dm then some (.code .normal t m') else none
     | none=>none
    | none=>none
   else match iC k E fr.n ops ops.toList fr.tmps m with
    | some (t,m')=>some (.code .normal t m')
    | none=>none
  | .rangeFunc f params assign body =>
   match aq E fr.tmps f,jS E fr m f with
   | some (.func (.func g) first captured),true =>
    let l:=m.next
    let m1:=m.alloc (.loop { state:=.ready,pending:=none,fn:=fr.fn,tmps:=fr.tmps,n:=fr.n,params,assign,body})
    match k (.call g (first.toList++[.func (.yield l) #[] #[]]++captured.toList) m1) with
    | some (.val _ m2)=>match m2.get l with
     | some (.loop r)=>match r.state with
      | .busy=>none
      | _ =>
       let m3:=m2.set l (.loop { r with state:=.exhausted})
       match r.pending with
       | none=>some (.code .normal fr.tmps m3)
       | some c=>match k (.code c fr m3) with
        | some (.code e t m')=>some (.code e t m')
        | _=>none
     | _=>none
    | _=>none
   | _,_=>none
  | _=>none
 | .loop c fr m=>match k (.code c fr m) with
  | some (.code .normal t m')=>k (.loop c { fr with tmps:=t} m')
  | some (.code e t m')=>some (.code e t m')
  | _=>none
 | .call f args m =>
  match nS E f args m with
  | some r=>some (.val r.1 r.2)
  | none =>
   match E.P.funcs[f]? with
   | some fn=>match fn.body with
    | some c=>match k (.code c { tmps:=Trie.ofList args 0 .nil,n:=max args.length fn.ntmps,fn:=f,round:=none} m) with
     | some (.code (.exit _) _ _)=>none
     | some (.code _ t m')=>(bZ E t m' fn.results.toList).map fun vs=>.val (fw vs) m'
     | _=>none
    | none=>none
   | none=>none
 | .round l args m =>
  match m.get l with
  | some (.loop r)=>match r.state with
   | .ready =>
    if args.length≠r.params.size then none else
    match fE r.n r.tmps r.params.toList args with
    | none=>none
    | some t0=>match k (.code r.assign { tmps:=t0,n:=r.n,fn:=r.fn,round:=some l} m) with
    | some (.code .normal t1 m1)=>match m1.get l with
     | some (.loop r1)=>match r1.state with
      | .ready =>
       match k (.code r.body { tmps:=t1,n:=r.n,fn:=r.fn,round:=some l} (m1.set l (.loop { r1 with state:=.busy}))) with
       | some (.code e _ m2)=>match m2.get l with
        | some (.loop r2) =>
         let j:=yd e
         some (.val (.bool j.isNone) (m2.set l (.loop { r2 with state:=if j.isNone then .ready else .done,pending:=j})))
        | _=>none
       | _=>none
      | _=>none
     | _=>none
    | _=>none
   | _=>none
  | _=>none
noncomputable def run (E:Env):Nat->K
 | 0=>fun _=>none
 | n+1=>step E (run E n)
structure Blk where
 c:Nat
 more:XA (Nat×Nat×Nat)
abbrev aL:=Nat->XA Blk
def Ah(v:WJ):Bool:=lD v && !aM v
def vV{v:WJ}(h:Ah v=true):lD v=true:=by simp only[Ah,T7] at h; exact h.1
inductive VR(j:aL):WJ->WJ->Prop
 | junk {v':WJ} (h:Ah v'=true):VR j (.complex .f64 0 0) v'
 | bool (b:Bool):VR j (.bool b) (.bool b)
 | int (k:IntKind) (n:Int):VR j (.int k n) (.int k n)
 | string (s:ByteArray):VR j (.string s) (.string s)
 | pnil:VR j (.pointer none) (.pointer none)
 | ptr {b o:Nat} {k:Blk} (h:j b=some k):VR j (.pointer (some ⟨b,o,none⟩)) (.pointer (some ⟨k.c,o,none⟩))
 | snil (l c:Nat):VR j (.slice none l c) (.slice none l c)
 | slice {b o len cap:Nat} {k:Blk} (h:j b=some k) (hm:k.more=none):VR j (.slice (some ⟨b,o,none⟩) len cap) (.slice (some ⟨k.c,o,none⟩) len cap)
 | sliceM {b o len cap cap' sz na nc:Nat} {k:Blk} (h:j b=some k) (hm:k.more=some (sz,na,nc)) (h1:cap*sz+o=na) (h2:cap'*sz+o=nc) (hl:len<=cap) (hc:cap<=cap') :
   VR j (.slice (some ⟨b,o,none⟩) len cap) (.slice (some ⟨k.c,o,none⟩) len cap')
 | gR {b:Nat} {a':Addr} {cap':Nat}:VR j (.slice (some ⟨b,0,some 0⟩) 0 0) (.slice (some a') 0 cap')
 | dry {b:Nat} {a':Addr}:VR j (.slice (some ⟨b,0,some 1⟩) 0 0) (.slice (some a') 0 0)
 | mnil:VR j (.map none) (.map none)
 | map {b:Nat} {k:Blk} (h:j b=some k):VR j (.map (some b)) (.map (some k.c))
 | func {f:XI} {xs ys cs ds:XD WJ} (h1:xs.size=ys.size) (h2:∀(i:Nat) (a:i<xs.size) (b:i<ys.size),VR j xs[i] ys[i])
   (h3:cs.size=ds.size) (h4:∀(i:Nat) (a:i<cs.size) (b:i<ds.size),VR j cs[i] ds[i]):VR j (.func (.func f) xs cs) (.func (.func f) ys ds)
 | yield {l:Nat} {k:Blk} {xs ys cs ds:XD WJ} (h:j l=some k) (h1:xs.size=ys.size) (h2:∀(i:Nat) (a:i<xs.size) (b:i<ys.size),VR j xs[i] ys[i]) :
   VR j (.func (.yield l) xs cs) (.func (.yield k.c) ys ds)
 | nilFunc:VR j .nilFunc .nilFunc
 | nilIface:VR j .nilIface .nilIface
 | agg {xs ys:XD WJ} (h1:xs.size=ys.size) (h2:∀(i:Nat) (a:i<xs.size) (b:i<ys.size),VR j xs[i] ys[i]):VR j (.agg xs) (.agg ys)
 | tuple {xs ys:XD WJ} (h1:xs.size=ys.size) (h2:∀(i:Nat) (a:i<xs.size) (b:i<ys.size),VR j xs[i] ys[i]):VR j (.tuple xs) (.tuple ys)
def LR(j:aL)(xs ys:XB WJ):Prop:=xs.length=ys.length/\∀(i:Nat) (v:WJ),xs[i]? = some v->∃v',ys[i]? = some v'/\VR j v v'
def LR.nil(j:aL):LR j [] []:=⟨rfl,fun i v h=>by simp at h⟩
def LR.cons{j:aL}{x y:WJ}{xs ys:XB WJ}(h:VR j x y)(hs:LR j xs ys):LR j (x::xs) (y::ys) :=
 ⟨by simp[hs.1],fun i v hi=>by
  cases i with
  | zero=>simp at hi; subst hi; exact⟨y,rfl,h⟩
  | succ i=>simpa using hs.2 i v (by simpa using hi)⟩
def LR.head{j:aL}{x y:WJ}{xs ys:XB WJ}(h:LR j (x::xs) (y::ys)):VR j x y:=by
 obtain⟨v',hv,hr⟩:=h.2 0 x rfl;simp at hv; subst hv; exact hr
def LR.tail{j:aL}{x y:WJ}{xs ys:XB WJ}(h:LR j (x::xs) (y::ys)):LR j xs ys :=
 ⟨by have:=h.1; simpa using this,fun i v hi=>by simpa using h.2 (i+1) v (by simpa using hi)⟩
def LR.cons_inv{j:aL}{x:WJ}{xs l:XB WJ}(h:LR j (x::xs) l):∃y ys,l=y::ys/\VR j x y/\LR j xs ys:=by
 cases l with
 | nil=>exact Uy h.1 (by simp)
 | cons y ys=>exact⟨y,ys,rfl,h.head,h.tail⟩
def LR.dw{j:aL}{l:XB WJ}(h:LR j [] l):l=[]:=by
 have:=h.1; simp at this; exact Vt.1 this.symm
def LR.append{j:aL}{xs ys xs' ys':XB WJ}(h:LR j xs ys)(h':LR j xs' ys'):LR j (xs++xs') (ys++ys') :=
 ⟨by simp[h.1,h'.1],fun i v hi=>by
  by_cases hlt:i<xs.length
  rw[U1 hlt] at hi;rw[U1 (h.1▸hlt)];exact h.2 i v hi
  rw[UJ (by omega)] at hi
  rw[UJ (by have:=h.1; omega),<-h.1]
  exact h'.2 _ v hi⟩
def LR.drop{j:aL}{xs ys:XB WJ}(h:LR j xs ys)(n:Nat):LR j (xs.drop n) (ys.drop n) :=
 ⟨by simp[h.1],fun i v hi=>by rw[Vr] at *; exact h.2 _ v hi⟩
def LR.take{j:aL}{xs ys:XB WJ}(h:LR j xs ys)(n:Nat):LR j (xs.take n) (ys.take n) :=
 ⟨by simp[h.1],fun i v hi=>by
  rw[VY] at *
  split at hi
  rename_i hlt; rw[Ui hlt]; exact h.2 _ v hi
  simp at hi⟩
def LR.get{j:aL}{xs ys:XB WJ}(h:LR j xs ys){i:Nat}{v:WJ}(hi:xs[i]? = some v):∃v',ys[i]? = some v'/\VR j v v':=h.2 i v hi
def LR.fa{j:aL}{xs ys:XD WJ}(h1:xs.size=ys.size)(h2:∀(i:Nat) (a:i<xs.size) (b:i<ys.size),VR j xs[i] ys[i]):LR j xs.toList ys.toList :=
 ⟨by simpa using h1,fun i v hi=>by
  have hlt:i<xs.toList.length:=(Uq.1 hi).1;have ha:i<xs.size:=by simpa using hlt
  have hb:i<ys.size:=h1▸ha;refine⟨ys[i],by simp[hb],?_⟩
  have:xs[i]=v:=by simpa [ha] using hi
  exact this▸h2 i ha hb⟩
def LR.arr{j:aL}{xs ys:XD WJ}(h:LR j xs.toList ys.toList):∀(i:Nat) (a:i<xs.size) (b:i<ys.size),VR j xs[i] ys[i]:=fun i a b=>by
 obtain⟨v',hv,hr⟩:=h.2 i xs[i] (by simp[a])
 have:ys[i]=v':=by simpa [b] using hv
 exact this▸hr
def LR.size{j:aL}{xs ys:XD WJ}(h:LR j xs.toList ys.toList):xs.size=ys.size:=by simpa using h.1
def VR.C5{j:aL}{xs ys:XD WJ}(h:LR j xs.toList ys.toList):VR j (.agg xs) (.agg ys):=.agg h.size h.arr
def VR.tuple'{j:aL}{xs ys:XD WJ}(h:LR j xs.toList ys.toList):VR j (.tuple xs) (.tuple ys):=.tuple h.size h.arr
def VR.undef(j:aL):VR j undef undef:=.tuple rfl (fun i a _=>by simp at a)
def aL.le(j j':aL):Prop:=∀b k,j b=some k->j' b=some k
def aL.le.refl(j:aL):j.le j:=fun _ _ h=>h
def aL.le.trans{j j' j'':aL}(h:j.le j')(h':j'.le j''):j.le j'':=fun b k e=>h' b k (h b k e)
def VR.mono{j j':aL}(hj:j.le j'){v v':WJ}(h:VR j v v'):VR j' v v':=by
 induction h with
 | junk h=>exact .junk h
 | bool b=>exact .bool b
 | int k n=>exact .int k n
 | string s=>exact .string s
 | pnil=>exact .pnil
 | ptr h=>exact .ptr (hj _ _ h)
 | snil l c=>exact .snil l c
 | slice h hm=>exact .slice (hj _ _ h) hm
 | sliceM h hm h1 h2 hl hc=>exact .sliceM (hj _ _ h) hm h1 h2 hl hc
 | gR=>exact .gR
 | dry=>exact .dry
 | mnil=>exact .mnil
 | map h=>exact .map (hj _ _ h)
 | func h1 _ h3 _ ih2 ih4=>exact .func h1 ih2 h3 ih4
 | yield h h1 _ ih2=>exact .yield (hj _ _ h) h1 ih2
 | nilFunc=>exact .nilFunc
 | nilIface=>exact .nilIface
 | agg h1 _ ih=>exact .agg h1 ih
 | tuple h1 _ ih=>exact .tuple h1 ih
def LR.mono{j j':aL}(hj:j.le j'){xs ys:XB WJ}(h:LR j xs ys):LR j' xs ys :=
 ⟨h.1,fun i v hi=>let⟨v',a,b⟩:=h.2 i v hi;⟨v',a,b.mono hj⟩⟩
def VR.aM{j:aL}{v:WJ}(h:aM v=true):VR j v v:=by
 unfold Ab.aM at h
 split at h<;>first|constructor |(simp at h)
def LR.plain{j:aL}{l:XB WJ}(h:l.all Ab.aM=true):LR j l l :=
 ⟨rfl,fun _ v hi=>⟨v,hi,VR.aM (Ux.1 h v (Ur hi))⟩⟩
def VR.bG{j:aL}{v:WJ}(h:bG v=true):VR j v v:=by
 unfold Ab.bG at h
 split at h
 exact .C5 (LR.plain h)
 exact .tuple' (LR.plain h)
 exact .aM h
def ER(j:aL):XB (WJ×WJ)->XB MapEntry->Prop
 | [],[]=>True
 | e::es,f::fs=>VR j e.1 f.key/\VR j e.2 f.val/\ER j es fs
 | _,_=>False
def ER.mono{j j':aL}(hj:j.le j'):∀{es:XB (WJ×WJ)} {fs:XB MapEntry},ER j es fs->ER j' es fs
 | [],[],_=>trivial
 | _::_,_::_,h=>⟨h.1.mono hj,h.2.1.mono hj,ER.mono hj h.2.2⟩
 | [],_::_,h=>h.elim
 | _::_,[],h=>h.elim
def TR(n:Nat)(j:aL)(t:Tm)(tmps:XD WJ):Prop:=tmps.size=n/\∀i,VR j (t.at i) (tmps.getD i undef)
def TR.mono{n:Nat}{j j':aL}(hj:j.le j'){t:Tm}{tmps:XD WJ}(h:TR n j t tmps):TR n j' t tmps:=⟨h.1,fun i=>(h.2 i).mono hj⟩
def oB(sz:Nat)(c:XD WJ):Prop:=c.size<=sz*9223372036854775807
def pB(k:Blk)(tag:Tag)(len:Nat)(c:XD WJ)(fz:Nat×Nat):Prop :=
 match tag with
 | .ro=>k.more=none/\c.size=len
 | .own=>k.more=none/\c.size=len/\fz=(0,0)
 | .more sz=>k.more=some (sz,len,c.size)/\len<=c.size/\fz=(0,0)/\0<sz/\oB sz c
def pB.put{k:Blk}{tag:Tag}{len:Nat}{c c':XD WJ}{fz:Nat×Nat}(h:pB k tag len c fz)(hs:c'.size=c.size)(hr:∀i,len<=i->c'[i]? = c[i]?):pB k tag len c' fz:=by
 cases tag with
 | ro=>exact⟨h.1,hs.trans h.2⟩
 | own=>exact⟨h.1,hs.trans h.2.1,h.2.2⟩
 | more sz=>exact⟨by rw[hs]; exact h.1,by rw[hs]; exact h.2.1,h.2.2.1,h.2.2.2.1,by unfold oB; rw[hs]; exact h.2.2.2.2⟩
def Ki(es:XD MapEntry)(clock:Nat):Prop:=(∀x∈es.toList,x.born<clock)/\(es.toList.map (·.born)).Nodup
def FP(c:Nat):Ki #[] c:=⟨fun x hx=>by simp at hx,by simp⟩
def JJ{es:XD MapEntry}{clock:Nat}(h:Ki es clock)(k v:WJ):Ki (es.push { key:=k,val:=v,born:=clock}) (clock+1):=by
 refine⟨fun x hx=>?_,?_⟩
 rw[Array.toList_push,UT,UI] at hx;rcases hx with hx|rfl
 exact Nat.lt_succ_of_lt (h.1 x hx)
 exact Vp _
 rw[Array.toList_push,List.map_append,List.map_singleton];refine List.nodup_append.2 ⟨h.2,by simp,fun a ha b hb=>?_⟩
 rw[UI] at hb;obtain⟨x,hx,rfl⟩:=Wa.1 ha;have:=h.1 x hx;rw[hb]; exact Nat.ne_of_lt this
def Dd{es:XD MapEntry}{clock:Nat}(h:Ki es clock)(i:Nat)(f:MapEntry->MapEntry)(hf:∀e,(f e).born=e.born):Ki (es.modify i f) clock:=by
 have e:(es.modify i f).toList.map (·.born)=es.toList.map (·.born):=by
  rw[Array.toList_modify];refine Wg fun t=>?_;rw[UN,UN,List.getElem?_modify];cases es.toList[t]? with
  | none=>rfl
  | some a =>
   show some ((if i=t then f a else a).born)=some a.born
   split
   rw[hf]
   rfl
 refine⟨fun x hx=>?_,by rw[e]; exact h.2⟩
 have hm:x.born∈es.toList.map (·.born):=e▸Wa.2 ⟨x,hx,rfl⟩;obtain⟨y,hy,he⟩:=Wa.1 hm;rw[<-he]; exact h.1 y hy
def GC{es:XD MapEntry}{clock:Nat}(h:Ki es clock)(i:Nat):Ki (es.eraseIdxIfInBounds i) clock:=by
 have hs:(es.eraseIdxIfInBounds i).toList.Sublist es.toList:=by
  rw[Array.toList_eraseIdxIfInBounds]; exact List.eraseIdx_sublist _ _
 exact⟨fun x hx=>h.1 x (hs.subset hx),(hs.map _).nodup h.2⟩
def OR(j:aL)(k:Blk):Xs->Obj->Prop
 | .cells cs tag,.cells c _ fz=>pB k tag cs.length c fz/\∀(i:Nat) (v:WJ),cs[i]? = some v->∃v',c[i]? = some v'/\VR j v v'
 | .map es,.map entries clock=>ER j es entries.toList/\Ki entries clock
 | .loop r,.loop r'=>r.state=r'.state/\r.pending=r'.pending/\r.params=r'.params/\r.assign=r'.assign/\r.body=r'.body/\TR r.n j r.tmps r'.tmps
 | _,_=>False
def OR.mono{j j':aL}(hj:j.le j'){k:Blk}{o:Xs}{o':Obj}(h:OR j k o o'):OR j' k o o':=by
 cases o with
 | cells cs tag =>
  cases o' with
  | cells c e fz=>exact⟨h.1,fun i v hi=>let⟨v',a,b⟩:=h.2 i v hi;⟨v',a,b.mono hj⟩⟩
  | _=>exact h.elim
 | map es =>
  cases o' with
  | map c e=>exact⟨ER.mono hj h.1,h.2⟩
  | _=>exact h.elim
 | loop r =>
  cases o' with
  | loop c=>exact⟨h.1,h.2.1,h.2.2.1,h.2.2.2.1,h.2.2.2.2.1,h.2.2.2.2.2.mono hj⟩
  | _=>exact h.elim
structure MR(E:Env)(j:aL)(m:Xq)(w:WO):Prop where
 lt:∀b k,j b=some k->b<m.next/\k.c<w.heap.size
 obj:∀b o k,m.get b=some o->j b=some k->∃o',w.heap[k.c]? = some o'/\OR j k o o'
 inj:∀b b' k k',j b=some k->j b'=some k'->(m.get b).isSome=true->(m.get b').isSome=true->k.c=k'.c->b=b'
 glob:∀g,g<E.glob->j g=some ⟨g,none⟩
structure AExt(m m':Xq):Prop where
 next:m.next<=m'.next
 wl:m'.wl<=m.wl
 same:∀b,b<m.next->b<m'.wl->m'.get b=m.get b
 dead:∀b,b<m.next->m.get b=none->m'.get b=none
def AExt.refl(m:Xq):AExt m m:=⟨Ua _,Ua _,fun _ _ _=>rfl,fun _ _ h=>h⟩
def AExt.trans{a b c:Xq}(h:AExt a b)(h':AExt b c):AExt a c :=
 ⟨Ub h.next h'.next,Ub h'.wl h.wl,
  fun x hx hw=>(h'.same x (Uc hx h.next) hw).trans (h.same x hx (Uc hw h'.wl)),
  fun x hx hn=>h'.dead x (Uc hx h.next) (h.dead x hx hn)⟩
abbrev Calm(w w':WO):Prop:=w'.os=w.os/\w'.output=w.output/\w'.tape=w.tape/\w.drawn<=w'.drawn
abbrev iN(E:Env)(w w':WO):Prop:=w'.os=w.os/\w'.output=w.output/\w'.tape=w.tape/\(E.mono->w.drawn<=w'.drawn)
def Calm.e{E:Env}{w w':WO}(h:Calm w w'):iN E w w':=⟨h.1,h.2.1,h.2.2.1,fun _=>h.2.2.2⟩
def iN.refl{E:Env}(w:WO):iN E w w:=⟨rfl,rfl,rfl,fun _=>Ua _⟩
def iN.trans{E:Env}{a b c:WO}(h:iN E a b)(g:iN E b c):iN E a c:=⟨g.1.trans h.1,g.2.1.trans h.2.1,g.2.2.1.trans h.2.2.1,fun e=>Ub (h.2.2.2 e) (g.2.2.2 e)⟩
structure Sim(E:Env)(j:aL)(m:Xq)(w:WO)(j':aL)(m':Xq)(w':WO):Prop where
 ext:AExt m m'
 le:j.le j'
 new:∀b k,j' b=some k->j b=none->m.next<=b
 mr:MR E j' m' w'
 size:w.heap.size<=w'.heap.size
 full:∀b,m.next<=b->b<m'.next->(m'.get b).isSome=true->∃k,j' b=some k
 away:∀b,b<m.next->j b=none->m'.get b=m.get b
 fresh:∀b k,j' b=some k->j b=none->w.heap.size<=k.c\/∃b0 k0,j b0=some k0/\(m.get b0).isSome=true/\k0.c=k.c/\m'.wl<=b0
 frame:∀c,c<w.heap.size->(∀b k,j b=some k->(m.get b).isSome=true->k.c=c->b<m'.wl)->w'.heap[c]? = w.heap[c]?
 calm:iN E w w'
def Sim.refl{E:Env}{j:aL}{m:Xq}{w:WO}(h:MR E j m w):Sim E j m w j m w where
 ext:=.refl m
 le:=.refl j
 new:=fun b k h h'=>by simp[h'] at h
 mr:=h
 size:=Ua _
 full:=fun b h h' _=>Uy h (by omega)
 away:=fun _ _ _=>rfl
 fresh:=fun b k h h'=>by simp[h'] at h
 frame:=fun _ _ _=>rfl
 calm:=.refl w
def Sim.trans{E:Env}{j j1 j2:aL}{m m1 m2:Xq}{w w1 w2:WO}(h0:MR E j m w)(h:Sim E j m w j1 m1 w1)(h':Sim E j1 m1 w1 j2 m2 w2):Sim E j m w j2 m2 w2 where
 ext:=h.ext.trans h'.ext
 le:=h.le.trans h'.le
 mr:=h'.mr
 calm:=iN.trans h.calm h'.calm
 size:=Ub h.size h'.size
 full:=by
  intro b hb hb' hl;rcases UY b m1.next with hlt|hge
  ·have hl1:(m1.get b).isSome=true:=by
    cases hm:m1.get b with
    | some o=>rfl
    | none=>rw[h'.ext.dead b hlt hm] at hl; cases hl
   obtain⟨k,hk⟩:=h.full b hb hlt hl1;exact⟨k,h'.le b k hk⟩
  exact h'.full b hge hb' hl
 new:=by
  intro b k hk hn;cases h1:j1 b with
  | none=>exact Ub h.ext.next (h'.new b k hk h1)
  | some k1=>exact h.new b k1 h1 hn
 away:=by
  intro b hb hn;have h1:j1 b=none:=by
   cases h1:j1 b with
   | none=>rfl
   | some k1=>exact Uy (h.new b k1 h1 hn) (by omega)
  exact(h'.away b (Uc hb h.ext.next) h1).trans (h.away b hb hn)
 fresh:=by
  intro b k hk hn;cases h1:j1 b with
  | some k1 =>
   have:=h'.le b k1 h1;rw[hk] at this; cases this;rcases h.fresh b k h1 hn with hf|⟨b0,k0,a1,a2,a3,a4⟩
   exact .inl hf
   exact .inr ⟨b0,k0,a1,a2,a3,Ub h'.ext.wl a4⟩
  | none =>
   rcases h'.fresh b k hk h1 with hf|⟨b0,k0,a1,a2,a3,a4⟩
   exact .inl (Ub h.size hf)
   ·cases hj0:j b0 with
    | some k0' =>
     have e:=h.le b0 k0' hj0;rw[a1] at e; cases e;refine .inr ⟨b0,k0,hj0,?_,a3,a4⟩;cases hm:m.get b0 with
     | some o=>rfl
     | none=>rw[h.ext.dead b0 (h0.lt b0 k0 hj0).1 hm] at a2; cases a2
    | none =>
     rcases h.fresh b0 k0 a1 hj0 with hf|⟨b1,k1,c1,c2,c3,c4⟩
     exact .inl (a3▸hf)
     exact .inr ⟨b1,k1,c1,c2,c3.trans a3,Ub h'.ext.wl c4⟩
 frame:=by
  intro c hc H;have s1:w1.heap[c]? = w.heap[c]?:=h.frame c hc fun b k hb hl he=>Uc (H b k hb hl he) h'.ext.wl;refine(h'.frame c (Uc hc h.size) ?_).trans s1;intro b k hb hl he;cases hj:j b with
  | some k' =>
   have e:=h.le b k' hj;rw[hb] at e; cases e;refine H b k hj ?_ he;cases hm:m.get b with
   | some o=>rfl
   | none=>rw[h.ext.dead b (h0.lt b k hj).1 hm] at hl; cases hl
  | none =>
   rcases h.fresh b k hb hj with hf|⟨b1,k1,c1,c2,c3,c4⟩
   omega
   have:=H b1 k1 c1 c2 (c3.trans he);have:=h'.ext.wl;omega
def aL.set(j:aL)(b:Nat)(k:Blk):aL:=fun x=>if x=b then some k else j x
def aL.cm(j:aL)(b:Nat)(k:Blk):j.set b k b=some k:=by simp[aL.set]
def aL.bW(j:aL){b x:Nat}(k:Blk)(h:x≠b):j.set b k x=j x:=by simp[aL.set,h]
def aL.oz{j:aL}{b:Nat}(k:Blk)(h:j b=none):j.le (j.set b k):=fun x k' hx=>by
 by_cases e:x=b
 subst e; rw[h] at hx; cases hx
 rw[aL.bW _ _ e]; exact hx
def Xq.bq(m:Xq)(o:Xs)(b:Nat):(m.alloc o).get b=if b=m.next then some o else m.get b:=by
 unfold Xq.alloc Xq.get;simp only[Heap.cc]
 by_cases h:b=m.next<;>simp[h]
def Xq.cc(m:Xq)(b x:Nat)(o:Xs):(m.set b o).get x=if x=b then some o else m.get x:=by
 unfold Xq.set Xq.get;simp only[Heap.cc]
 by_cases h:x=b<;>simp[h]
def Xq.fP(m:Xq)(b x:Nat):(m.kill b).get x=if x=b then none else m.get x:=by
 unfold Xq.kill Xq.get;simp only[Heap.cc]
 by_cases h:x=b<;>simp[h]
@[simp] theorem Xq.next_alloc (m:Xq) (o:Xs):(m.alloc o).next=m.next+1:=rfl
@[simp] theorem Xq.next_set (m:Xq) (b:Nat) (o:Xs):(m.set b o).next=m.next:=rfl
@[simp] theorem Xq.next_kill (m:Xq) (b:Nat):(m.kill b).next=m.next:=rfl
@[simp] theorem Xq.wl_alloc (m:Xq) (o:Xs):(m.alloc o).wl=m.wl:=rfl
@[simp] theorem Xq.wl_set (m:Xq) (b:Nat) (o:Xs):(m.set b o).wl=min m.wl b:=rfl
@[simp] theorem Xq.wl_kill (m:Xq) (b:Nat):(m.kill b).wl=min m.wl b:=rfl
def AExt.alloc(m:Xq)(o:Xs):AExt m (m.alloc o) :=
 ⟨Nat.le_succ _,Ua _,fun b h _=>by rw[Xq.bq,WU],fun b h hn=>by rw[Xq.bq,WU]; exact hn⟩
def AExt.set{m:Xq}{b:Nat}(o:Xs)(hb:(m.get b).isSome=true):AExt m (m.set b o) :=
 ⟨Ua _,Nat.min_le_left _ _,fun x _ h=>by
  rw[Xq.cc,Uk]; intro e; subst e; simp at h; omega,
 fun x _ hn=>by
  rw[Xq.cc,Uk]
  exact hn
  intro e; subst e; rw[hn] at hb; cases hb⟩
def AExt.kill(m:Xq)(b:Nat):AExt m (m.kill b) :=
 ⟨Ua _,Nat.min_le_left _ _,fun x _ h=>by
  rw[Xq.fP,Uk]; intro e; subst e; simp at h; omega,
 fun x _ hn=>by rw[Xq.fP]; split<;>first|rfl|exact hn⟩
def A0{j:aL}{n:Nat}{k:Blk}{m':Xq}:∀b,n<=b->b<n+1->(m'.get b).isSome=true->∃k',j.set n k b=some k':=fun b h1 h2 _=>by
 have:b=n:=by omega
 subst this;exact⟨k,aL.cm _ _ _⟩
section
variable{E:Env}{j:aL}{m:Xq}{w:WO}
def MR.mS(h:MR E j m w):j m.next=none:=by
 cases e:j m.next with
 | none=>rfl
 | some k=>exact Uy (h.lt _ _ e).1 (Nat.lt_irrefl _)
def MR.of_heap{w':WO}(h:MR E j m w)(e:w'.heap=w.heap):MR E j m w' :=
 ⟨by rw[e]; exact h.lt,by rw[e]; exact h.obj,h.inj,h.glob⟩
def Sim.of_heap{w':WO}(h:MR E j m w)(e:w'.heap=w.heap)(e2:Calm w w':=by first|exact⟨rfl,rfl,rfl,Ua _⟩|exact⟨rfl,rfl,rfl,Nat.le_succ _⟩):Sim E j m w j m w' :=
 { Sim.refl h with mr:=h.of_heap e,size:=by rw[e]; exact Ua _,frame:=fun c _ _=>by rw[e],calm:=e2.e}
def MR.vC{x:Nat}(h:MR E j m w):MR E j { m with wl:=x} w:=⟨h.lt,h.obj,h.inj,h.glob⟩
def mW(h:MR E j m w){ao:Xs}{co:Obj}{mo:XA (Nat×Nat×Nat)}(ho:OR j ⟨w.heap.size,mo⟩ ao co) :
  Sim E j m w (j.set m.next ⟨w.heap.size,mo⟩) (m.alloc ao) (w.alloc co):=by
 have hle:j.le (j.set m.next ⟨w.heap.size,mo⟩):=aL.oz _ h.mS
 have hlt:∀b k,j b=some k->b≠m.next:=fun b k e=>Nat.ne_of_lt (h.lt b k e).1
 refine⟨.alloc m ao,hle,?_,⟨?_,?_,?_,?_⟩,by simp,A0,?_,?_,?_,⟨rfl,rfl,rfl,fun _=>Ua _⟩⟩
 intro b k hb hn
 by_cases e:b=m.next
 exact Nat.le_of_eq e.symm
 rw[aL.bW _ _ e,hn] at hb; cases hb
 intro b k hb
 by_cases e:b=m.next
 subst e; rw[aL.cm] at hb; cases hb; simp
 rw[aL.bW _ _ e] at hb;have:=h.lt b k hb;simp; omega
 intro b o k hg hb
 by_cases e:b=m.next
 subst e;rw[aL.cm] at hb; cases hb;rw[Xq.bq,Ui rfl] at hg; cases hg;exact⟨co,World.alloc_heap_new w co,ho.mono hle⟩
 rw[aL.bW _ _ e] at hb;rw[Xq.bq,Uk e] at hg;obtain⟨o',h1,h2⟩:=h.obj b o k hg hb;refine⟨o',?_,h2.mono hle⟩;have hk:=(h.lt b k hb).2
 show(w.heap.push co)[k.c]? = some o'
 rw[Wi,WU]; exact h1
 intro b b' k k' hb hb' hl hl' hc
 by_cases e:b=m.next<;>by_cases e':b'=m.next
 rw[e,e']
 subst e;rw[aL.cm] at hb; cases hb;rw[aL.bW _ _ e'] at hb';exact Uy (h.lt b' k' hb').2 (by simp at hc; omega)
 subst e';rw[aL.cm] at hb'; cases hb';rw[aL.bW _ _ e] at hb;exact Uy (h.lt b k hb).2 (by simp at hc; omega)
 rw[aL.bW _ _ e] at hb;rw[aL.bW _ _ e'] at hb';rw[Xq.bq,Uk e] at hl;rw[Xq.bq,Uk e'] at hl';exact h.inj b b' k k' hb hb' hl hl' hc
 intro g hg; exact hle _ _ (h.glob g hg)
 intro b hb _; rw[Xq.bq,WU]
 intro b k hb hn
 by_cases e:b=m.next
 subst e; rw[aL.cm] at hb; cases hb; exact .inl (Ua _)
 rw[aL.bW _ _ e,hn] at hb; cases hb
 intro c hc _
 show(w.heap.push co)[c]? = w.heap[c]?
 rw[Wi,WU]
def kv(h:MR E j m w){b:Nat}{k:Blk}(hk:j b=some k)(hl:(m.get b).isSome=true){ao:Xs}{co:Obj}(ho:OR j k ao co) :
  Sim E j m w j (m.set b ao) (w.putObj k.c co):=by
 refine⟨.set ao hl,.refl j,fun x k' e e'=>by simp[e'] at e,⟨?_,?_,?_,h.glob⟩,by simp,fun b h1 h2 _=>Uy h1 (by simp at h2; omega),?_,fun x k' e e'=>by simp[e'] at e,?_,⟨rfl,rfl,rfl,fun _=>Ua _⟩⟩
 intro x k' e; simpa using h.lt x k' e
 intro x o k' hg e
 by_cases hx:x=b
 subst hx;rw[hk] at e; cases e;rw[Xq.cc,Ui rfl] at hg; cases hg;exact⟨co,World.putObj_heap_same (h.lt x k hk).2,ho⟩
 rw[Xq.cc,Uk hx] at hg;obtain⟨o',h1,h2⟩:=h.obj x o k' hg e;refine⟨o',?_,h2⟩;rw[World.putObj_heap_other]
 exact h1
 intro hc;exact hx (h.inj x b k' k e hk (by rw[hg]; rfl) hl hc)
 intro x x' k1 k2 e e' hl1 hl2 hc;refine h.inj x x' k1 k2 e e' ?_ ?_ hc
 rw[Xq.cc] at hl1; split at hl1
 rename_i hx; subst hx; exact hl
 exact hl1
 rw[Xq.cc] at hl2; split at hl2
 rename_i hx; subst hx; exact hl
 exact hl2
 intro x hx hn;rw[Xq.cc,Uk]; intro e; subst e; rw[hk] at hn; cases hn
 intro c hc H;apply World.putObj_heap_other;intro e;have:=H b k hk hl e.symm;simp at this; omega
def G7(h:MR E j m w){b:Nat}{k0:Blk}(hk0:j b=some k0):Sim E j m w j (m.kill b) w:=by
 refine⟨.kill m b,.refl j,fun x k' e e'=>by simp[e'] at e,⟨h.lt,?_,?_,h.glob⟩,Ua _,fun b h1 h2 _=>Uy h1 (by simp at h2; omega),?_,fun x k' e e'=>by simp[e'] at e,fun _ _ _=>rfl,⟨rfl,rfl,rfl,fun _=>Ua _⟩⟩
 intro x o k hg e;rw[Xq.fP] at hg
 split at hg
 cases hg
 exact h.obj x o k hg e
 intro x x' k k' e e' hl hl' hc;rw[Xq.fP] at hl hl'
 split at hl
 cases hl
 split at hl'
 cases hl'
 exact h.inj x x' k k' e e' hl hl' hc
 intro x hx hn;rw[Xq.fP,Uk];intro e; subst e; rw[hk0] at hn; cases hn
def BM(h:MR E j m w){b:Nat}{k:Blk}(hk:j b=some k)(hl:(m.get b).isSome=true){ao:Xs}{co:Obj}{mo:XA (Nat×Nat×Nat)}(ho:OR j ⟨k.c,mo⟩ ao co) :
  Sim E j m w (j.set m.next ⟨k.c,mo⟩) ((m.kill b).alloc ao) (w.putObj k.c co):=by
 have hle:j.le (j.set m.next ⟨k.c,mo⟩):=aL.oz _ h.mS
 have hbn:b<m.next:=(h.lt b k hk).1
 have hkc:k.c<w.heap.size:=(h.lt b k hk).2;have hget:∀x,((m.kill b).alloc ao).get x=if x=m.next then some ao else if x=b then none else m.get x:=by
  intro x; rw[Xq.bq,Xq.fP]; rfl
 refine⟨(AExt.kill m b).trans (AExt.alloc _ ao),hle,?_,⟨?_,?_,?_,fun g hg=>hle _ _ (h.glob g hg)⟩,by simp,A0,?_,?_,?_,⟨rfl,rfl,rfl,fun _=>Ua _⟩⟩
 intro x k' hx hn
 by_cases e:x=m.next
 exact Nat.le_of_eq e.symm
 rw[aL.bW _ _ e,hn] at hx; cases hx
 intro x k' hx
 by_cases e:x=m.next
 subst e; rw[aL.cm] at hx; cases hx; simp; exact hkc
 rw[aL.bW _ _ e] at hx;have:=h.lt x k' hx;simp; omega
 intro x o k' hg hx;rw[hget] at hg
 by_cases e:x=m.next
 subst e;rw[aL.cm] at hx; cases hx;rw[Ui rfl] at hg; cases hg;exact⟨co,World.putObj_heap_same hkc,ho.mono hle⟩
 rw[aL.bW _ _ e] at hx;rw[Uk e] at hg
 split at hg
 cases hg
 rename_i hxb;obtain⟨o',h1,h2⟩:=h.obj x o k' hg hx;refine⟨o',?_,h2.mono hle⟩;rw[World.putObj_heap_other]
 exact h1
 intro hc;exact hxb (h.inj x b k' k hx hk (by rw[hg]; rfl) hl hc)
 intro x x' k1 k2 hx hx' hl1 hl2 hc;rw[hget] at hl1 hl2
 by_cases e:x=m.next<;>by_cases e':x'=m.next
 rw[e,e']
 subst e;rw[aL.cm] at hx; cases hx;rw[aL.bW _ _ e'] at hx';rw[Uk e'] at hl2
 split at hl2
 cases hl2
 rename_i hxb;exact Uy (h.inj x' b k2 k hx' hk hl2 hl hc.symm) hxb
 subst e';rw[aL.cm] at hx'; cases hx';rw[aL.bW _ _ e] at hx;rw[Uk e] at hl1
 split at hl1
 cases hl1
 rename_i hxb;exact Uy (h.inj x b k1 k hx hk hl1 hl hc) hxb
 rw[aL.bW _ _ e] at hx;rw[aL.bW _ _ e'] at hx';rw[Uk e] at hl1;rw[Uk e'] at hl2
 split at hl1
 cases hl1
 split at hl2
 cases hl2
 exact h.inj x x' k1 k2 hx hx' hl1 hl2 hc
 intro x hx hn;rw[hget,WU,Uk]
 intro e; subst e; rw[hk] at hn; cases hn
 intro x k' hx hn
 by_cases e:x=m.next
 subst e; rw[aL.cm] at hx; cases hx;exact .inr ⟨b,k,hk,hl,rfl,by simp; omega⟩
 rw[aL.bW _ _ e,hn] at hx; cases hx
 intro c hc H;apply World.putObj_heap_other;intro e;have:=H b k hk hl e.symm;simp at this; omega
def MR.si(h:MR E j m w){b:Nat}{k:Blk}(hk:j b=some k){cs:XB WJ}{tag:Tag}(hg:m.get b=some (.cells cs tag)) :
  ∃c e fz,w.heap[k.c]? = some (.cells c e fz)/\pB k tag cs.length c fz/\∀(i:Nat) (v:WJ),cs[i]? = some v->∃v',c[i]? = some v'/\VR j v v':=by
 obtain⟨o',h1,h2⟩:=h.obj b _ k hg hk;cases o' with
 | cells c e fz=>exact⟨c,e,fz,h1,h2.1,h2.2⟩
 | _=>exact h2.elim
def MR.cell(h:MR E j m w){b:Nat}{k:Blk}(hk:j b=some k){cs:XB WJ}{tag:Tag}(hg:m.get b=some (.cells cs tag)){o:Nat}{v:WJ}(hv:cs[o]? = some v) :
  ∃v',w.cell? ⟨k.c,o,none⟩=some v'/\VR j v v':=by
 obtain⟨c,e,fz,h1,_,h3⟩:=h.si hk hg;obtain⟨v',h4,h5⟩:=h3 o v hv;exact⟨v',by simp[World.cell?,h1,h4],h5⟩
def lJ(c o i:Nat):(⟨c,o,none⟩:Addr).add i=⟨c,o+i,none⟩:=by
 unfold Addr.add
 split
 rename_i e; subst e; rfl
 rfl
def tZ{b o n:Nat}{vs:XB WJ}(hm:m.dQ b o n=some vs):∃cs tag,m.get b=some (.cells cs tag)/\vs=(cs.drop o).take n/\vs.length=n:=by
 unfold Xq.dQ at hm
 split at hm
 rename_i cs tag hg;simp only at hm
 split at hm
 rename_i hl;cases hm;exact⟨cs,tag,hg,rfl,hl⟩
 cases hm
 cases hm
def MR.dQ(h:MR E j m w){b:Nat}{k:Blk}(hk:j b=some k){o n:Nat}{vs:XB WJ}(hm:m.dQ b o n=some vs) :
  ∃vs',(∀w0:WO,w0.heap=w.heap->(loadCells ⟨k.c,o,none⟩ n).run E.P w0=.ok vs'.toArray w0)/\LR j vs vs':=by
 obtain⟨cs,tag,hg,rfl,hl⟩:=tZ hm;obtain⟨c,e,fz,h1,_,h3⟩:=h.si hk hg;have hcell:∀i,i<n->∃v v',cs[o+i]? = some v/\c[o+i]? = some v'/\VR j v v':=by
  intro i hi;have:o+i<cs.length:=by simp at hl; omega
  obtain⟨v',a,b⟩:=h3 (o+i) _ (T6 this);exact⟨_,v',T6 this,a,b⟩
 refine⟨(List.range n).map fun i=>c.getD (o+i) undef,fun w0 hw0=>run_loadCells w0 _ n _ ?_,?_⟩
 intro i hi;obtain⟨v,v',_,a,_⟩:=hcell i hi;rw[lJ];simp[World.cell?,hw0,h1,a]
 refine⟨by simp; simpa using hl,fun i v hi=>?_⟩
 rw[VY] at hi
 split at hi
 rename_i hlt;rw[Vr] at hi;obtain⟨v1,v',a,b,r⟩:=hcell i hlt;rw[hi] at a; cases a;refine⟨v',?_,r⟩;simp[hlt,b]
 cases hi
def fC(cs:XB WJ)(o:Nat):aK cs o []=cs:=by
 induction cs generalizing o with
 | nil=>cases o<;>rfl
 | cons c cs ih=>cases o<;>simp[aK,ih]
def cH:∀(cs:XB WJ) (o:Nat) (vs:XB WJ),(aK cs o vs).length=cs.length
 | [],0,[]=>rfl
 | [],0,_::_=>rfl
 | [],_+1,_=>rfl
 | _::_,0,[]=>rfl
 | _::cs,0,_::vs=>by simp[aK,cH cs 0 vs]
 | _::cs,o+1,vs=>by simp[aK,cH cs o vs]
def cD:∀(cs:XB WJ) (o:Nat) (vs:XB WJ) (i:Nat),(aK cs o vs)[i]? = if o<=i/\i<o+vs.length/\i<cs.length then vs[i-o]? else cs[i]?
 | [],0,[],i=>by simp[aK]
 | [],0,_::_,i=>by simp[aK]
 | [],_+1,_,i=>by simp[aK]
 | c::cs,0,[],i=>by simp[aK]
 | c::cs,0,v::vs,0=>by simp[aK]
 | c::cs,0,v::vs,i+1=>by
  have:=cD cs 0 vs i;simp only[aK,U2,this,UK,VF,true_and,UU,V8,Nat.add_lt_add_iff_right]
 | c::cs,o+1,vs,0=>by simp[aK]
 | c::cs,o+1,vs,i+1=>by
  have:=cD cs o vs i;simp only[aK,U2,this,UK,Nat.add_le_add_iff_right,Nat.add_lt_add_iff_right,Nat.add_sub_add_right,Nat.add_right_comm o 1 vs.length]
def gq:∀(cs:XB WJ) (o:Nat) (v:WJ) (vs:XB WJ),o<cs.length->aK cs o (v::vs)=aK (cs.set o v) (o+1) vs
 | [],_,_,_,h=>by simp at h
 | c::cs,0,v,vs,_=>by simp[aK]
 | c::cs,o+1,v,vs,h=>by simp[aK,gq cs o v vs (by simpa using h)]
def sP{w:WO}{B o:Nat}{c:XD WJ}{e:WK}{fz:Nat×Nat}(h:w.heap[B]? = some (.cells c e fz))(v:WJ) :
  w.setCell ⟨B,o,none⟩ v=w.putObj B (.cells (c.setIfInBounds o v) e fz):=by
 unfold World.setCell World.putObj
 congr 1
 apply Array.ext_getElem?;intro i;rw[Array.getElem?_modify,Array.getElem?_setIfInBounds]
 by_cases hi:B=i
 subst hi;obtain⟨hlt,hv⟩:=Ut.1 h;simp[hlt,hv]
 simp[hi]
def u7{w:WO}{B:Nat}{o o':Obj}:(w.putObj B o).putObj B o'=w.putObj B o':=by
 unfold World.putObj;simp
def re{w:WO}{B:Nat}{o:Obj}(h:w.heap[B]? = some o):w.putObj B o=w:=by
 unfold World.putObj
 congr 1
 apply Array.ext_getElem?;intro i;rw[Array.getElem?_setIfInBounds]
 split
 rename_i hi; subst hi;obtain⟨hlt,hv⟩:=Ut.1 h;simp[hlt,hv]
 rfl
def fY{P:WN}{B:Nat}{e:WK}:∀(vs:XB WJ) (w:WO) (c:XD WJ) (off i:Nat),w.heap[B]? = some (.cells c e (0,0))->off+i+vs.length<=c.size ->
  bt vs=true->(storeCells ⟨B,off,none⟩ vs i).run P w=.ok () (w.putObj B (.cells (aK c.toList (off+i) vs).toArray e (0,0)))
 | [],w,c,off,i,h,_,_=>by
  simp only[storeCells,XG,fC];rw[show c.toList.toArray=c from rfl,re h]
 | v::vs,w,c,off,i,h,hlen,hone=>by
  have hlen':off+i+(vs.length+1)<=c.size:=by simpa using hlen
  have hone':lD v=true/\bt vs=true:=by simpa [bt] using hone
  have hv:v.oneCell'=true:=by
   have:=hone'.1; cases v<;>first|rfl |(simp[lD] at this)
  have hcell:w.cell? ⟨B,off+i,none⟩=some c[off+i]:=by
   simp[World.cell?,h]
  have hfz:w.frozen? ⟨B,off+i,none⟩=false:=by simp[World.frozen?,h]
  have hh:(w.putObj B (.cells (c.setIfInBounds (off+i) v) e (0,0))).heap[B]? = some (.cells (c.setIfInBounds (off+i) v) e (0,0)) :=
   World.putObj_heap_same (Ut.1 h).1
  have ih:=fY (P:=P) vs _ (c.setIfInBounds (off+i) v) off (i+1) hh (by simp; omega) hone'.2
  simp only[storeCells,XF,lJ];rw[run_store _ _ _ _ _ hv];simp only[hcell,hfz,XE,Uu,if_false,sP h,ih,u7]
  congr 4
  rw[gq _ _ _ _ (by simp; omega)]
  simp[V9]
def Ct{j:aL}{v v':WJ}(h:VR j v v')(ho:lD v=true):lD v'=true:=by
 cases h<;>first|rfl|exact vV ‹_› |(simp[lD] at ho)
def nV{j:aL}{vs vs':XB WJ}(h:LR j vs vs')(ho:bt vs=true):bt vs'=true:=by
 induction vs generalizing vs' with
 | nil=>rw[h.dw]; rfl
 | cons v vs ih =>
  obtain⟨y,ys,rfl,h1,h2⟩:=h.cons_inv;simp only[bt,Vw,T7] at ho ⊢;exact⟨Ct h1 ho.1,ih h2 ho.2⟩
def AA{b o:Nat}{vs:XB WJ}{m':Xq}(hm:m.dz b o vs=some m') :
  (vs=[]/\m'=m)\/∃cs tag,m.get b=some (.cells cs tag)/\tag≠.ro/\o+vs.length<=cs.length/\m'=m.set b (.cells (aK cs o vs) tag):=by
 unfold Xq.dz at hm
 split at hm
 cases hm; exact .inl ⟨rfl,rfl⟩
 split at hm
 cases hm
 rename_i cs tag hro hg
 split at hm
 rename_i hl;cases hm;exact .inr ⟨cs,tag,hg,fun e=>hro e,hl,rfl⟩
 cases hm
 cases hm
def jb(h:MR E j m w){b:Nat}{k:Blk}(hk:j b=some k){o:Nat}{vs vs':XB WJ}(hv:LR j vs vs')(ho:bt vs=true){m':Xq}(hm:m.dz b o vs=some m') :
  ∃w',(storeCells ⟨k.c,o,none⟩ vs').run E.P w=.ok () w'/\Sim E j m w j m' w':=by
 rcases AA hm with⟨rfl,rfl⟩|⟨cs,tag,hg,hro,hl,rfl⟩
 rw[hv.dw];exact⟨w,rfl,.refl h⟩
 ·obtain⟨c,e,fz,h1,h2,h3⟩:=h.si hk hg;have hfz:fz=(0,0)/\cs.length<=c.size:=by
   cases tag with
   | ro=>exact Uy rfl hro
   | own=>exact⟨h2.2.2,by rw[h2.2.1]; exact Ua _⟩
   | more sz=>exact⟨h2.2.2.1,h2.2.1⟩
  obtain⟨rfl,hsz⟩:=hfz;refine⟨_,fY vs' w c o 0 h1 (by rw[<-hv.1]; simp; omega) (nV hv ho),kv h hk (by rw[hg]; rfl) ⟨?_,?_⟩⟩
  rw[cH];have:(aK c.toList (o+0) vs').toArray.size=c.size:=by simp[cH]
  exact h2.put this fun i hi=>by
   rw[UE,cD,Uk (by rw[<-hv.1]; omega)]; simp
  intro i v hi;rw[cD] at hi;have:(aK c.toList (o+0) vs').toArray[i]? = if o<=i/\i<o+vs'.length/\i<c.size then vs'[i-o]? else c[i]?:=by
   rw[UE,cD]; simp
  rw[this]
  by_cases hc:o<=i/\i<o+vs.length/\i<cs.length
  rw[Ui hc] at hi;rw[Ui ⟨hc.1,hv.1▸hc.2.1,by omega⟩]
  exact hv.2 _ v hi
  rw[Uk hc] at hi;have hi':=(Uq.1 hi).1;rw[Uk (by rw[<-hv.1]; omega)]
  exact h3 i v hi
end
section
variable{P:WN}{w:WO}
def tO{t:WK}{i:TypeInfo}(h:P.info? t=some i)(w:WO):(typeInfo t).run P w=.ok i w:=by simp[typeInfo,h]
def cE{t:WK}(h:known P t=true)(w:WO):(sizeOf t).run P w=.ok (aB P t) w:=by
 simp only[known,T7,Option.isSome_iff_exists] at h;obtain⟨_,i,hi⟩:=h;simp[sizeOf,tO hi,aB,Program.cellsOf,hi]
def pL{t:WK}(h:known P t=true)(w:WO):(isAgg t).run P w=.ok (ek P t) w:=by
 simp only[known,T7,Option.isSome_iff_exists] at h;obtain⟨⟨d,hd⟩,_⟩:=h;simp only[isAgg,XF,XH hd,XE,ek,hd];cases d<;>rfl
def iR{t:WK}{z:WJ}(h:bR P t=some z)(w:WO):(zeroValue t).run P w=.ok z w:=by
 unfold bR at h;cases hi:P.info? t with
 | none=>rw[hi] at h; cases h
 | some i =>
  rw[hi] at h;have hz:i.zero=some z:=h;simp[zeroValue,tO hi,hz]
def xH{t:WK}{z:WJ}(h:bR P t=some z):∃i,P.info? t=some i/\i.zero=some z:=by
 unfold bR at h;cases hi:P.info? t with
 | none=>rw[hi] at h; cases h
 | some i=>rw[hi] at h; exact⟨i,rfl,h⟩
def LR.extract{j:aL}{xs ys:XD WJ}(h:LR j xs.toList ys.toList)(a b:Nat):LR j (xs.extract a b).toList (ys.extract a b).toList:=by
 simp only[Array.toList_extract];exact(h.drop a).take (b-a)
def pg{j:aL}{t:WK}{cs cs':XD WJ}{off:Nat}{v:WJ}(h:eu P t cs off=some v)(hc:LR j cs.toList cs'.toList) :
  ∃v',(∀w,(part t cs' off).run P w=.ok v' w)/\VR j v v':=by
 unfold eu at h
 split at h
 cases h
 rename_i hk;have hk':known P t=true:=by simpa using hk
 split at h
 rename_i ha;cases h;refine⟨.agg (cs'.extract off (off+aB P t)),fun w=>?_,.C5 (hc.extract _ _)⟩;simp[part,pL hk',ha,cE hk']
 rename_i ha;have:cs.toList[off]? = some v:=by simpa using h
 obtain⟨v',h1,h2⟩:=hc.get this;refine⟨v',fun w=>?_,h2⟩;have h1':cs'[off]? = some v':=by simpa using h1
 have ha':ek P t=false:=by simpa using ha
 simp[part,pL hk',ha',h1']
def gT(d:Nat)(xs ys:XD WJ):XB (WK×Nat)->Sem Bool
 | []=>pure true
 |(t,off)::rest=>do
  let a <-part t xs off
  let b <-part t ys off
  let r <-Op.equalIn d t a b
  if(!r)=true then pure false else gT d xs ys rest
def je (d : Nat) (xs ys : XD WJ) : ∀ (fs : XB Field) (w : WO), fs.any (·.name == "_") = false ->
  (Op.eqFields d xs ys fs).run P w=(gT d xs ys (fs.map fun f=>(f.type,f.offset))).run P w
 | [],_,_=>rfl
 | f::fs,w,h=>by
  simp only[List.any_cons,Bool.or_eq_false_iff] at h;have hn : f.name ≠ "_" := by simpa using h.1
  simp only[Op.eqFields,Ui hn,Wq,gT,XF,Sem.run_ite]
  congr 1; funext a w1; congr 1; funext b w2; congr 1; funext r w3
  split
  rfl
  exact je d xs ys fs w3 h.2
def run_equalIn_array(d:Nat)(t:WK)(len:Nat)(elem:WK)(xs ys:XD WJ)(ht:P.underlying t=some (.array len elem))(he:known P elem=true)(w:WO) :
  (Op.equalIn (d+1) t (.agg xs) (.agg ys)).run P w=(gT d xs ys ((List.range len).map fun i=>(elem,i*aB P elem))).run P w:=by
 simp only[Op.equalIn,XF,XH ht,XE,cE he];rw[Std.Legacy.Range.forIn_eq_forIn_range'];simp only[Std.Legacy.Range.size,V8,Nat.add_sub_cancel,WA];rw[<-List.range_eq_range'];generalize List.range len=is
 induction is generalizing w with
 | nil=>simp[gT]
 | cons i is ih =>
  simp only[List.forIn_cons,Wq,gT,XF,Sem.run_ite];generalize(part elem xs (i*aB P elem)).run P w=r1;cases r1 with
  | ok a w1 =>
   simp only[XE];generalize(part elem ys (i*aB P elem)).run P w1=r2;cases r2 with
   | ok b w2 =>
    simp only[XE];generalize(Op.equalIn d elem a b).run P w2=r3;cases r3 with
    | ok r w3 =>
     cases r
     simp only[XE,Uw,if_true,XG]
     simp only[XE,Uj,Uu,if_false,XG];exact ih w3
    | halt x w3=>simp[Result.andThen]
   | halt x w2=>simp[Result.andThen]
  | halt x w1=>simp[Result.andThen]
def ma{j:aL}{d:Nat}(ih:∀{t:WK} {x y x' y':WJ} {b:Bool},lj P d t x y=some b->VR j x x'->VR j y y'->∀w,(Op.equalIn d t x' y').run P w=.ok b w)
  {xs ys xs' ys':XD WJ} (hx:LR j xs.toList xs'.toList) (hy:LR j ys.toList ys'.toList) :
  ∀(l:XB (WK×Nat)) {b:Bool},ir (lj P d) P xs ys l=some b->∀w,(gT d xs' ys' l).run P w=.ok b w
 | [],b,h,w=>by cases h; rfl
 | (t,off)::rest,b,h,w=>by
  simp only[ir] at h
  split at h
  ·rename_i x y h1 h2;obtain⟨x',e1,r1⟩:=pg h1 hx;obtain⟨y',e2,r2⟩:=pg h2 hy;simp only[gT,XF,e1,e2,XE]
   split at h
   rename_i he;rw[ih he r1 r2 w];simp only[XE,Uj,Uu,if_false];exact ma ih hx hy rest h w
   ·rename_i hne;cases b with
    | true=>exact Uy h hne
    | false =>
     rw[ih h r1 r2 w];simp
  cases h
def kI{j:aL}:∀(d:Nat) {t:WK} {x y x' y':WJ} {b:Bool},lj P d t x y=some b->VR j x x'->VR j y y'->∀w,(Op.equalIn d t x' y').run P w=.ok b w
 | 0,_,_,_,_,_,_,h,_,_,_=>by cases h
 | d+1,t,x,y,x',y',b,h,hx,hy,w=>by
  unfold lj at h
  split at h
  rename_i ht; cases h; cases hx; cases hy; simp only[Op.equalIn,XF,XH ht,XE,XG]
  rename_i ht
  split at h
  rename_i hk; cases h; cases hx; cases hy; simp only[Op.equalIn,XF,XH ht,XE,XG,Ui hk]
  cases h
  rename_i ht; cases h; cases hx; cases hy; simp only[Op.equalIn,XF,XH ht,XE,XG]
  rename_i ht; cases h; cases hx; cases hy<;>simp only[Op.equalIn,XF,XH ht,XE,XG]<;>rfl
  rename_i ht; cases h; cases hx; cases hy; simp only[Op.equalIn,XF,XH ht,XE,XG]
  rename_i ht; cases h; cases hx; cases hy<;>simp only[Op.equalIn,XF,XH ht,XE,XG]<;>rfl
  rename_i ht; cases h; cases hy; cases hx<;>simp only[Op.equalIn,XF,XH ht,XE,XG]
  rename_i ht; cases h; cases hx; cases hy<;>simp only[Op.equalIn,XF,XH ht,XE,XG]<;>rfl
  rename_i ht; cases h; cases hy; cases hx<;>simp only[Op.equalIn,XF,XH ht,XE,XG]
  rename_i ht; cases h; cases hx; cases hy; simp only[Op.equalIn,XF,XH ht,XE,XG]
  rename_i ht; cases h; cases hx; cases hy<;>simp only[Op.equalIn,XF,XH ht,XE,XG]
  rename_i ht; cases h; cases hy; cases hx<;>simp only[Op.equalIn,XF,XH ht,XE,XG]
  ·rename_i fs xs ys ht
   split at h
   cases h
   ·rename_i hs;simp only[VH,not_or,Bool.not_eq_true] at hs;cases hx with
    | agg h1 h2 =>
    cases hy with
    | agg h3 h4 =>
    have hf:P.fieldsOf t=fs:=by simp[Program.fieldsOf,ht]
    rw[run_equalIn_struct _ d t _ _ (by rw[hf]; exact ht) hs.1,hf,je _ _ _ _ _ (by simpa using hs.2)]
    exact ma (fun a b c w=>kI d a b c w) (LR.fa h1 h2) (LR.fa h3 h4) _ h w
  ·rename_i len elem xs ys ht
   split at h
   ·rename_i hk;cases hx with
    | agg h1 h2 =>
    cases hy with
    | agg h3 h4 =>
    rw[run_equalIn_array d t len elem _ _ ht hk];exact ma (fun a b c w=>kI d a b c w) (LR.fa h1 h2) (LR.fa h3 h4) _ h w
   cases h
  cases h
end
def nO(P:WN)(s:Sem WJ)(v:WJ):Prop:=∀w,s.run P w=.ok v w
section
variable{P:WN}{j:aL}
def dV(op:BinOp)(t:WK)(x y:WM){a b:WJ}(h1:∀xs ys,a=.agg xs->b=.agg ys->False)(h2:a≠.nilIface)(w:WO) :
  (eqGuard op t x y a b).run P w=.ok () w:=by
 unfold eqGuard;cases op<;>simp only[Uw,Uj,if_true,Uu,if_false,XG]<;>
  (split
   exact Uy rfl h2
   exact(h1 _ _ rfl rfl).elim
   rfl)
def mG:WJ->Bool
 | .bool _|.pointer _|.slice _ _ _|.map _|.func _ _ _|.nilFunc=>true
 | _=>false
def binOp_eql{t:WK}{x y:WJ}(h:mG x=true):binOp .eql t x y=(do pure (.bool (<-Op.equal t x y))):=by
 cases x<;>first |(simp[mG] at h; done) |(cases y<;>rfl)
def binOp_neq{t:WK}{x y:WJ}(h:mG x=true):binOp .neq t x y=(do pure (.bool (!(<-Op.equal t x y)))):=by
 cases x<;>first |(simp[mG] at h; done) |(cases y<;>rfl)
def K0 {op:BinOp} {t:WK} {x y x' y' v:WJ} (h:bf op t P x y=some v) (hx:VR j x x') (hy:VR j y y') (ox oy:WM) :
  ∃v',nO P (do eqGuard op t ox oy x' y'; binOp op t x' y') v'/\VR j v v':=by
 unfold bf at h
 split at h
 case h_1 =>
  cases hx; cases hy
  split at h
  cases h
  rename_i hb;cases h;refine⟨_,fun w=>?_,.int _ _⟩;rw[XF,dV _ _ _ _ (by intro _ _ e; cases e) (by intro e; cases e)]
  simp only[XE,binOp,Op.shift,Uk hb,XG]
 case h_2 =>
  cases hx; cases hy
  split at h
  cases h
  rename_i hb;cases h;refine⟨_,fun w=>?_,.int _ _⟩;rw[XF,dV _ _ _ _ (by intro _ _ e; cases e) (by intro e; cases e)]
  simp only[XE,binOp,Op.shift,Uk hb,XG]
 case h_12 =>
  cases hx; cases hy
  split at h
  rename_i hk
  split at h
  cases h
  rename_i hb;cases h;refine⟨_,fun w=>?_,.int _ _⟩;rw[XF,dV _ _ _ _ (by intro _ _ e; cases e) (by intro e; cases e)]
  simp only[XE,binOp,hk,ne_eq,not_true_eq_false,if_false,Op.intDiv,Uk hb,XG]
  cases h
 case h_13 =>
  cases hx; cases hy
  split at h
  rename_i hk
  split at h
  cases h
  rename_i hb;cases h;refine⟨_,fun w=>?_,.int _ _⟩;rw[XF,dV _ _ _ _ (by intro _ _ e; cases e) (by intro e; cases e)]
  simp only[XE,binOp,hk,ne_eq,not_true_eq_false,if_false,Op.intDiv,Uk hb,XG]
  cases h
 case h_18 =>
  cases h; cases hx; cases hy;refine⟨_,fun w=>?_,.bool _⟩;rw[XF,dV _ _ _ _ (by intro _ _ e; cases e) (by intro e; cases e)]
  simp only[XE,binOp,Op.stringOp,XG,beq_toListBytes]
 case h_19 =>
  cases h; cases hx; cases hy;refine⟨_,fun w=>?_,.bool _⟩;rw[XF,dV _ _ _ _ (by intro _ _ e; cases e) (by intro e; cases e)]
  simp only[XE,binOp,Op.stringOp,XG,bne,beq_toListBytes]
 case h_20=>cases h
 case h_21 =>
  cases hx with
  | agg h1 h2 =>
  cases hy with
  | agg h3 h4 =>
  split at h
  cases h
  ·rename_i hg;cases he:lj P Op.maxDepth t (.agg _) (.agg _) with
   | none=>rw[he] at h; cases h
   | some b =>
    rw[he] at h; cases h;refine⟨_,fun w=>?_,.bool _⟩;have:=kI (P:=P) Op.maxDepth he (.agg h1 h2) (.agg h3 h4) w;have hg':P.eqGuardType P.depth t=false:=by simpa using hg
    rw[XF,run_eqGuard_agg w _ _ _ _ _ _ hg'];simp only[XE,binOp,Op.equal,XF,this,XG]
 case h_22 =>
  cases hx with
  | agg h1 h2 =>
  cases hy with
  | agg h3 h4 =>
  split at h
  cases h
  ·rename_i hg;cases he:lj P Op.maxDepth t (.agg _) (.agg _) with
   | none=>rw[he] at h; cases h
   | some b =>
    rw[he] at h; cases h;refine⟨_,fun w=>?_,.bool _⟩;have:=kI (P:=P) Op.maxDepth he (.agg h1 h2) (.agg h3 h4) w;have hg':P.eqGuardType P.depth t=false:=by simpa using hg
    rw[XF,run_eqGuard_agg w _ _ _ _ _ _ hg'];simp only[XE,binOp,Op.equal,XF,this,XG]
 case h_23 =>
  have key:mG x'=true/\∃b,lj P Op.maxDepth t x y=some b/\v=.bool b:=by
   split at h<;>first
    |(cases h; done)
    | (refine⟨?_,?_⟩
       cases hx<;>rfl
       ·cases he:lj P Op.maxDepth t _ y with
        | none=>rw[he] at h; cases h
        | some b=>rw[he] at h; cases h; exact⟨b,rfl,rfl⟩)
  obtain⟨hs,b,he,rfl⟩:=key;refine⟨_,fun w=>?_,.bool b⟩;rw[XF,dV _ _ _ _ (by intro _ _ e; subst e; cases hs) (by intro e; subst e; cases hs),XE,binOp_eql hs]
  simp only[Op.equal,XF,kI _ he hx hy,XE,XG]
 case h_24 =>
  have key:mG x'=true/\∃b,lj P Op.maxDepth t x y=some b/\v=.bool (!b):=by
   split at h<;>first
    |(cases h; done)
    | (refine⟨?_,?_⟩
       cases hx<;>rfl
       ·cases he:lj P Op.maxDepth t _ y with
        | none=>rw[he] at h; cases h
        | some b=>rw[he] at h; cases h; exact⟨b,rfl,rfl⟩)
  obtain⟨hs,b,he,rfl⟩:=key;refine⟨_,fun w=>?_,.bool (!b)⟩;rw[XF,dV _ _ _ _ (by intro _ _ e; subst e; cases hs) (by intro e; subst e; cases hs),XE,binOp_neq hs]
  simp only[Op.equal,XF,kI _ he hx hy,XE,XG]
 case h_25=>cases h
 all_goals
  cases hx; cases hy
  split at h
  rename_i hk;cases h;refine⟨_,fun w=>?_,(by first|exact .bool _|exact .int _ _)⟩
  rw[XF,dV _ _ _ _ (by intro _ _ e; cases e) (by intro e; cases e)]
  simp only[XE,binOp,hk,ne_eq,not_true_eq_false,if_false,Op.intArith,Op.intBits,Op.intCmp,XG]
  cases h
def Pr{op:UnOp}{x x' v:WJ}(h:Cm op x=some v)(hx:VR j x x'):∃v',nO P (Op.unary op x') v'/\VR j v v':=by
 unfold Cm at h
 split at h
 cases h; cases hx; exact⟨_,fun w=>rfl,.int _ _⟩
 cases h; cases hx; exact⟨_,fun w=>rfl,.int _ _⟩
 cases h; cases hx; exact⟨_,fun w=>rfl,.bool _⟩
 cases h
def IQ{s d:WK}{x x' v:WJ}(h:fL P s d x=some v)(hx:VR j x x'):∃v',nO P (convert s d x') v'/\VR j v v':=by
 unfold fL at h
 split at h
 rename_i e1 e2;cases h; cases hx;refine⟨_,fun w=>?_,.int _ _⟩;simp only[convert,XF,XH e1,XH e2,XE,Conv.intToInt,XG]
 rename_i e1 e2;cases h; cases hx;refine⟨_,fun w=>?_,.string _⟩;simp only[convert,XF,XH e1,XH e2,XE]
 rfl
 cases h
def Gq{v:WJ}(h:lD v=true):v.cells.toList=[v]:=by
 cases v<;>first|rfl |(simp[lD] at h)
def gO{v v':WJ}(h:VR j v v'):LR j v.cells.toList v'.cells.toList:=by
 cases h with
 | junk h=>rw[Gq (vV h)]; exact LR.cons (.junk h) (.nil j)
 | agg h1 h2=>exact LR.fa h1 h2
 | bool b=>exact LR.cons (.bool b) (.nil j)
 | int k n=>exact LR.cons (.int k n) (.nil j)
 | string s=>exact LR.cons (.string s) (.nil j)
 | pnil=>exact LR.cons .pnil (.nil j)
 | ptr h=>exact LR.cons (.ptr h) (.nil j)
 | snil l c=>exact LR.cons (.snil l c) (.nil j)
 | slice h hm=>exact LR.cons (.slice h hm) (.nil j)
 | sliceM h hm h1 h2 hl hc=>exact LR.cons (.sliceM h hm h1 h2 hl hc) (.nil j)
 | gR=>exact LR.cons .gR (.nil j)
 | dry=>exact LR.cons .dry (.nil j)
 | mnil=>exact LR.cons .mnil (.nil j)
 | map h=>exact LR.cons (.map h) (.nil j)
 | func h1 h2 h3 h4=>exact LR.cons (.func h1 h2 h3 h4) (.nil j)
 | yield h h1 h2=>exact LR.cons (.yield h h1 h2) (.nil j)
 | nilFunc=>exact LR.cons .nilFunc (.nil j)
 | nilIface=>exact LR.cons .nilIface (.nil j)
 | tuple h1 h2=>exact LR.cons (.tuple h1 h2) (.nil j)
def LR.OY{cs cs' vs vs':XB WJ}(h:LR j cs cs')(hv:LR j vs vs')(o:Nat):LR j (aK cs o vs) (aK cs' o vs') :=
 ⟨by rw[cH,cH,h.1],fun i v hi=>by
  rw[cD] at hi ⊢;rw[<-hv.1,<-h.1]
  split at hi
  rename_i hc; rw[Ui hc]; exact hv.2 _ v hi
  rename_i hc; rw[Uk hc]; exact h.2 _ v hi⟩
def pG(off:Nat):∀(l:XB WJ) (k:Nat) (cs:XD WJ),off+k+l.length<=cs.size ->
  (l.zipIdx k).foldl (fun(cs:XD WJ) (x:WJ×Nat)=>cs.setIfInBounds (off+x.2) x.1) cs=(aK cs.toList (off+k) l).toArray
 | [],k,cs,_=>by simp[fC]
 | v::l,k,cs,h=>by
  have h':off+k+(l.length+1)<=cs.size:=by simpa using h
  simp only[List.zipIdx_cons,List.foldl_cons];rw[pG off l (k+1) _ (by simp; omega),gq _ _ _ _ (by simp; omega)]
  simp[V9]
def o7{place:Nat->XA (Nat×Nat)}:∀{ps:XB (Nat×WJ)} {ps':XB (Nat×WJ)} {cells cells' r:XB WJ},ps.map (·.1)=ps'.map (·.1)->LR j (ps.map (·.2)) (ps'.map (·.2)) ->
  LR j cells cells'->hJ place cells ps=some r->∃r',Instr.fill place cells'.toArray ps'=some r'.toArray/\LR j r r'
 | [],ps',cells,cells',r,h1,_,hc,h=>by
  cases ps' with
  | nil=>cases h; exact⟨cells',rfl,hc⟩
  | cons _ _=>simp at h1
 | (i,v)::rest,ps',cells,cells',r,h1,h2,hc,h=>by
  cases ps' with
  | nil=>simp at h1
  | cons p rest' =>
   obtain⟨i',v'⟩:=p;simp only[Wq,List.cons.injEq] at h1;obtain⟨rfl,h1⟩:=h1;have hv:=h2.head;have hrest:=h2.tail;simp only[hJ] at h
   split at h
   cases h
   rename_i off size hp
   split at h
   cases h
   rename_i hcond;have hcells:=gO hv;have hsz:v.cells.size=v'.cells.size:=by simpa using hcells.1
   have hlen:cells.length=cells'.length:=hc.1;have hcond':¬((v'.cells.size≠size||off+v'.cells.size>cells'.toArray.size)=true):=by
    rw[<-hsz]; simpa [<-hlen] using hcond
   simp only[Instr.fill,hp,Uk hcond'];have hle:off+0+v'.cells.toList.length<=cells'.toArray.size:=by
    simp only[VH,not_or,UL] at hcond';simp; have:=hcond'.2; simp at this; omega
   have hfold:=pG off v'.cells.toList 0 cells'.toArray hle;have hz:v'.cells.zipIdx.foldl (fun cs x=>cs.setIfInBounds (off+x.2) x.1) cells'.toArray=(aK cells' off v'.cells.toList).toArray:=by
    rw[<-Array.foldl_toList,Array.toList_zipIdx];exact hfold
   rw[show(v'.cells.zipIdx.foldl (fun cs (x:WJ×Nat)=>match x with |(c,j)=>cs.setIfInBounds (off+j) c) cells'.toArray)=(aK cells' off v'.cells.toList).toArray from hz]
   exact o7 h1 hrest (hc.OY hcells off) h
def wx:∀(l:XB Field) (w:WO),l.all (fun f=>known P f.type)=true ->
  (l.mapM fun(f:Field)=>(do pure (f.offset,<-sizeOf f.type):Sem (Nat×Nat))).run P w=.ok (l.map fun f=>(f.offset,aB P f.type)) w
 | [],w,_=>rfl
 | f::l,w,h=>by
  simp only[Vw,T7] at h;simp only[List.mapM_cons,XF,cE h.1,XE,XG,wx l w h.2,Wq]
def Kb(fields:XD Field)(h:fields.toList.all (fun f=>known P f.type)=true)(w:WO) :
  (fields.mapM fun(f:Field)=>(do pure (f.offset,<-sizeOf f.type):Sem (Nat×Nat))).run P w=.ok (fields.map fun f=>(f.offset,aB P f.type)) w:=by
 obtain⟨l⟩:=fields;simp only[List.mapM_toArray,Sem.run_map,List.map_toArray];rw[wx l w h]; rfl
def GN{t:WK}{ps ps':XB (Nat×WJ)}{v:WJ}(h:kh P t ps=some v)(h1:ps.map (·.1)=ps'.map (·.1))(h2:LR j (ps.map (·.2)) (ps'.map (·.2)))
  {z:WJ} (hz:bR P t=some z) (hp:bG z=true):∃v',nO P (Instr.build t ps'.toArray) v'/\VR j v v':=by
 have hzc:LR j z.cells.toList z.cells.toList:=gO (VR.bG hp);unfold kh at h;rw[hz] at h
 split at h
 ·rename_i z0 fields hz0 hu;cases hz0
  split at h
  ·rename_i hall;cases hf:hJ (fun i=>(fields[i]?).map fun f=>(f.offset,aB P f.type)) z.cells.toList ps with
   | none=>rw[hf] at h; cases h
   | some r =>
    rw[hf] at h; cases h;obtain⟨r',h3,h4⟩:=o7 h1 h2 hzc hf;refine⟨.agg r'.toArray,fun w=>?_,.C5 (by simpa using h4)⟩
    have hpl:(fun(i:Nat)=>(fields.map fun(f:Field)=>(f.offset,aB P f.type))[i]?)=fun i=>(fields[i]?).map fun(f:Field)=>(f.offset,aB P f.type):=by
     funext i; simp
    simp only[Instr.build,XF,iR hz,XH hu,XE,Kb fields hall,hpl];have h3':Instr.fill _ z.cells ps'=some r'.toArray:=h3;rw[h3']; rfl
  cases h
 ·rename_i z0 n elem hz0 hu;cases hz0
  split at h
  ·rename_i hk;cases hf:hJ (fun i=>some (i*aB P elem,aB P elem)) z.cells.toList ps with
   | none=>rw[hf] at h; cases h
   | some r =>
    rw[hf] at h; cases h;obtain⟨r',h3,h4⟩:=o7 h1 h2 hzc hf;refine⟨.agg r'.toArray,fun w=>?_,.C5 (by simpa using h4)⟩
    simp only[Instr.build,XF,iR hz,XH hu,XE,cE hk];have h3':Instr.fill _ z.cells ps'=some r'.toArray:=h3;rw[h3']; rfl
  cases h
 cases h
def iw{x x':WJ}{y l:Nat}(h:kj x y=some l)(hx:VR j x x'){y':Nat}(hy:y<=y')(code:BoundsCode)(w:WO) :
  (Instr.sliceBound x' y' code).run P w=.ok l w/\l<=y:=by
 unfold kj at h
 split at h
 rename_i k i
 split at h
 rename_i hc;cases h;cases hx;refine⟨?_,by omega⟩
 simp only[Instr.sliceBound,asIntOf,XF,XG,XE];rw[Ui ⟨hc.1,by omega⟩]; rfl
 cases h
 cases h
def gU(mx:XA WJ)(c m:Nat):Nat:=match mx with|none=>c|some _=>m
inductive OVR(j:aL):XA WJ->XA WJ->Prop
 | none:OVR j none none
 | some {v v':WJ} (h:VR j v v'):OVR j (some v) (some v')
def iP{len cap:Nat}{lo hi mx:XA WJ}{l h m:Nat}(e:eT len cap lo hi mx=some (l,h,m)):l<=h/\m<=cap/\(hi.isSome=true->h<=m)/\(hi=none->h=len/\mx=none)/\(mx=none->m=cap):=by
 have hb:∀(x:WJ) (y l:Nat),kj x y=some l->l<=y:=by
  intro x y l h;unfold kj at h
  split at h
  split at h
  rename_i hc; cases h; omega
  cases h
  cases h
 unfold eT at e
 split at e
 cases e
 ·rename_i m' hm
  split at e
  cases e
  ·rename_i h' hh
   split at e
   cases e
   ·rename_i l' hl;cases e;have h1:m<=cap:=by
     cases mx with
     | none=>simp at hm; omega
     | some v=>exact hb _ _ _ hm
    have h2:hi.isSome=true->h<=m:=by
     cases hi with
     | none=>intro e; cases e
     | some v=>intro _; cases mx<;>exact hb _ _ _ hh
    have h3:hi=none->h=len/\mx=none:=by
     intro e; subst e;cases mx with
     | none=>simp at hh; exact⟨hh.symm,rfl⟩
     | some v=>simp at hh
    have h4:l<=h:=by
     cases lo with
     | none=>simp at hl; omega
     | some v=>exact hb _ _ _ hl
    have h5:mx=none->m=cap:=by intro e; subst e; simpa using hm.symm
    exact⟨h4,h1,h2,h3,h5⟩
def eC {len cap cap':Nat} {lo hi mx lo' hi' mx':XA WJ} {l h m:Nat} (e:eT len cap lo hi mx=some (l,h,m)) (h1:OVR j lo lo') (h2:OVR j hi hi') (h3:OVR j mx mx') (hc:cap<=cap') (b:Bool) (w:WO) :
  (Instr.sliceBounds b len cap' lo' hi' mx').run P w=.ok (l,h,gU mx cap' m) w:=by
 unfold eT at e
 split at e
 cases e
 ·rename_i m' hm
  split at e
  cases e
  ·rename_i h' hh
   split at e
   cases e
   ·rename_i l' hl;cases e;cases h3 with
    | none =>
     have hm':cap=m:=by simpa using hm
     subst hm';cases h2 with
     | none =>
      have hh':len=h:=by simpa using hh
      subst hh';cases h1 with
      | none =>
       have:0=l:=by simpa using hl
       subst this;simp only[gU,Instr.sliceBounds,XF,XG,XE]
      | some r1 =>
       have:=(iw (P:=P) (by simpa using hl) r1 (Ua _) .sliceB w).1
       simp only[gU,Instr.sliceBounds,XF,XG,XE,Option.isSome_none,Uu,if_false,this]
     | some r2 =>
      have e2:=iw (P:=P) (by simpa using hh) r2 hc (if b then .sliceAcap else .sliceAlen) w
      cases h1 with
      | none =>
       have:0=l:=by simpa using hl
       subst this;simp only[gU,Instr.sliceBounds,XF,XG,XE,e2.1]
      | some r1 =>
       have:=(iw (P:=P) (by simpa using hl) r1 (Ua _) .sliceB w).1
       simp only[gU,Instr.sliceBounds,XF,XG,XE,Option.isSome_none,Uu,if_false,e2.1,this]
    | some r3 =>
     have e3:=iw (P:=P) (by simpa using hm) r3 hc (if b then .slice3Acap else .slice3Alen) w
     cases h2 with
     | none=>simp at hh
     | some r2 =>
      have e2:=(iw (P:=P) (by simpa using hh) r2 (Ua _) .slice3B w).1
      cases h1 with
      | none =>
       have:0=l:=by simpa using hl
       subst this;simp only[gU,Instr.sliceBounds,XF,XG,XE,e2,e3.1]
      | some r1 =>
       have:=(iw (P:=P) (by simpa using hl) r1 (Ua _) .slice3C w).1
       simp only[gU,Instr.sliceBounds,XF,XG,XE,Option.isSome_some,if_true,e2,e3.1,this]
def eU(c o i:Nat):(⟨c,o,none⟩:Addr).add i=⟨c,o+i,none⟩:=by
 unfold Addr.add
 split
 rename_i e; subst e; rfl
 rfl
def MR.kindOf{E:Env}{m:Xq}{w:WO}(h:MR E j m w){b:Nat}{k:Blk}(hk:j b=some k){cs:XB WJ}{tag:Tag}(hg:m.get b=some (.cells cs tag)) :
  match tag with
  | .more sz=>∃nc,k.more=some (sz,cs.length,nc)/\0<sz
  | _=>k.more=none:=by
 obtain⟨o',h1,h2⟩:=h.obj b _ k hg hk;cases o' with
 | cells c e fz =>
  have:=h2.1;cases tag with
  | ro=>exact this.1
  | own=>exact this.1
  | more sz=>exact⟨_,this.1,this.2.2.2.1⟩
 | _=>exact h2.elim
def Gh {E:Env} {m:Xq} {w:WO} (h:MR E j m w) {t:WK} {x x' v:WJ} {lo hi mx lo' hi' mx':XA WJ} (e:cP E.P t x lo hi mx m=some v) (hx:VR j x x') (h1:OVR j lo lo') (h2:OVR j hi hi') (h3:OVR j mx mx') :
  ∃v',nO E.P (Instr.sliceAt t x' lo' hi' mx') v'/\VR j v v':=by
 unfold cP at e
 split at e
 ·
  rename_i elem len cap hu
  split at e
  ·rename_i hk
   split at e
   ·rename_i l hh mm hb;cases e; cases hx;refine⟨_,fun w=>?_,.snil _ _⟩;have:=eC (P:=E.P) (cap':=cap) hb h1 h2 h3 (Ua _) true w;have hm:gU mx cap mm=mm:=by
     cases mx with
     | none=>exact((iP hb).2.2.2.2 rfl).symm
     | some _=>rfl
    rw[hm] at this;simp only[Instr.sliceAt,Instr.slice,XF,XH hu,XE,this,cE hk,XG]
    split<;>rfl
   cases e
  cases e
 ·rename_i elem b o len cap hu
  split at e
  ·rename_i hk
   split at e
   ·rename_i cs sz hg
    split at e
    cases e
    ·rename_i hsz;have hsz:sz=aB E.P elem:=Decidable.of_not_not hsz;cases hx with
     | slice hj hm =>
      have:=h.kindOf hj hg;simp only at this;obtain⟨nc,hmm,_⟩:=this;rw[hm] at hmm; cases hmm
     | sliceM hj hm e1 e2 hl hc =>
      rename_i cap' sz' na nc k;have hkd:=h.kindOf hj hg;simp only at hkd;obtain⟨nc',hmm,hpos⟩:=hkd;rw[hm] at hmm; cases hmm;cases h3 with
      | none =>
       simp only at e
       split at e
       ·rename_i l hh mm hb;have hbl:=iP hb;have hrun:=fun w=>eC (P:=E.P) (cap':=cap') hb h1 h2 .none hc true w;have hlc:l<=cap:=by
         cases hi with
         | none=>have:=hbl.2.2.2.1 rfl; omega
         | some _=>have:=hbl.2.2.1 rfl; omega
        split at e
        ·rename_i hcl;cases e;refine⟨_,fun w=>?_,.gR (a':=if cap'=l then⟨k.c,o,none⟩ else⟨k.c,o+l*aB E.P elem,none⟩) (cap':=cap'-l)⟩
         have hhl:hh-l=0:=by
          cases hi with
          | none=>have:=hbl.2.2.2.1 rfl; omega
          | some _=>have:=hbl.2.2.1 rfl; omega
         simp only[Instr.sliceAt,Instr.slice,XF,XH hu,XE,hrun,cE hk,XG,hhl,gU]
         split
         rfl
         rw[Uh,eU]
        ·rename_i hcl;cases e;refine⟨.slice (some ⟨k.c,o+l*aB E.P elem,none⟩) (hh-l) (cap'-l),fun w=>?_,.sliceM hj hm ?_ ?_ ?_ ?_⟩
         have:¬cap'=l:=by omega
         simp only[Instr.sliceAt,Instr.slice,XF,XH hu,XE,hrun,cE hk,XG,Uk this,Uh,eU,gU]
         subst hsz; rw[<-e1,Nat.sub_mul]; have:l*aB E.P elem<=cap*aB E.P elem:=UF _ hlc; omega
         subst hsz; rw[<-e2,Nat.sub_mul]; have:l*aB E.P elem<=cap'*aB E.P elem:=UF _ (by omega); omega
         ·cases hi with
          | none=>have:=hbl.2.2.2.1 rfl; omega
          | some _=>have:=hbl.2.2.1 rfl; omega
         omega
       cases e
      | some r3 =>
       simp only at e
       split at e
       rename_i l hh mm hb
       split at e
       rename_i hcond;cases e;have hrun:=fun w=>eC (P:=E.P) (cap':=cap') hb h1 h2 (.some r3) hc true w;refine⟨_,fun w=>?_,.dry (a':=⟨k.c,o,none⟩)⟩;simp only[Instr.sliceAt,Instr.slice,XF,XH hu,XE,hrun,cE hk,XG,hcond.2,hcond.1,V2,gU];simp
       cases e;have hrun:=fun w=>eC (P:=E.P) (cap':=cap') hb h1 h2 (.some r3) hc true w;refine⟨.slice (some (if mm=l then⟨k.c,o,none⟩ else⟨k.c,o+l*aB E.P elem,none⟩)) (hh-l) (mm-l),fun w=>?_,.junk rfl⟩
       simp only[Instr.sliceAt,Instr.slice,XF,XH hu,XE,hrun,cE hk,XG,gU]
       split
       rfl
       rw[Uh,eU]
       cases e
   ·rename_i cs tag hnm hg
    split at e
    ·rename_i l hh mm hb;cases e;cases hx with
     | slice hj hm =>
      rename_i k;have hrun:=fun w=>eC (P:=E.P) (cap':=cap) hb h1 h2 h3 (Ua _) true w;have hmm:gU mx cap mm=mm:=by
       cases mx with
       | none=>exact((iP hb).2.2.2.2 rfl).symm
       | some _=>rfl
      rw[hmm] at hrun;refine⟨.slice (some (if mm=l then⟨k.c,o,none⟩ else⟨k.c,o+l*aB E.P elem,none⟩)) (hh-l) (mm-l),fun w=>?_,?_⟩
      simp only[Instr.sliceAt,Instr.slice,XF,XH hu,XE,hrun,cE hk,XG]
      split
      rename_i hc; simp only[Ui hc]
      rename_i hc; simp only[Uh,eU]
      split
      exact .slice hj hm
      exact .slice hj hm
     | sliceM hj hm e1 e2 hl hc =>
      have hkd:=h.kindOf hj hg;cases tag with
      | more sz=>exact Uy rfl (hnm sz)
      | ro=>simp only at hkd; rw[hm] at hkd; cases hkd
      | own=>simp only at hkd; rw[hm] at hkd; cases hkd
    cases e
   cases e
  cases e
 ·
  rename_i elem b o sp hu
  split at e
  ·rename_i hk
   split at e
   ·rename_i r hb;obtain⟨l,hh,mm⟩:=r;cases e;have hbl:=iP hb;have hl0:l=0/\hh=0:=by
     cases hi with
     | none=>have:=hbl.2.2.2.1 rfl; omega
     | some _=>have:=hbl.2.2.1 rfl; omega
    cases hx with
    | gR =>
     rename_i a' cap';have hrun:=fun w=>eC (P:=E.P) (cap':=cap') hb h1 h2 h3 (VF _) true w;refine⟨_,fun w=>?_,.gR (a':=a') (cap':=gU mx cap' mm)⟩;simp only[Instr.sliceAt,Instr.slice,XF,XH hu,XE,hrun,cE hk,XG,hl0.1,hl0.2,V2,VC,V8,Uh];simp[Addr.add]
    | dry =>
     rename_i a';have hrun:=fun w=>eC (P:=E.P) (cap':=0) hb h1 h2 h3 (VF _) true w;have hmm:gU mx 0 mm=0:=by
      cases mx with
      | none=>rfl
      | some _=>have:=hbl.2.1; simp[gU]; omega
     rw[hmm] at hrun;refine⟨_,fun w=>?_,.dry (a':=a')⟩;simp only[Instr.sliceAt,Instr.slice,XF,XH hu,XE,hrun,cE hk,XG,hl0.1,hl0.2,V2,VC,Uh];simp
   cases e
  cases e
 ·
  rename_i n elem b o hu
  split at e
  ·rename_i hk
   split at e
   cases e
   ·rename_i cs tag hnm hg
    split at e
    ·rename_i l hh mm hb;cases e;cases hx with
     | ptr hj =>
      rename_i k;have hrun:=fun w=>eC (P:=E.P) (cap':=n) hb h1 h2 h3 (Ua _) false w;have hmm:gU mx n mm=mm:=by
       cases mx with
       | none=>exact((iP hb).2.2.2.2 rfl).symm
       | some _=>rfl
      rw[hmm] at hrun;have hkd:=h.kindOf hj hg;have hm:k.more=none:=by
       cases tag with
       | more sz=>exact Uy rfl (hnm sz)
       | ro=>exact hkd
       | own=>exact hkd
      refine⟨.slice (some (if mm=l then⟨k.c,o,none⟩ else⟨k.c,o+l*aB E.P elem,none⟩)) (hh-l) (mm-l),fun w=>?_,?_⟩
      simp only[Instr.sliceAt,Instr.sureAddr,XF,XH hu,XE,hrun,cE hk,XG]
      split
      rename_i hc; simp only[Ui hc]
      rename_i hc; simp only[eU]
      split
      exact .slice hj hm
      exact .slice hj hm
    cases e
   cases e
  cases e
 cases e
def uY{t:WK}{x x' v:WJ}{f:Nat}(e:aR P t x f=some v)(hx:VR j x x'):∃v',nO P (Instr.fieldAt t x' f) v'/\VR j v v':=by
 unfold aR at e
 split at e
 ·rename_i fields b o hu
  split at e
  ·rename_i fl hf
   split at e
   ·rename_i hk;simp only[T7,bne_iff_ne,ne_eq] at hk;cases e;cases hx with
    | ptr hj =>
    rename_i k;refine⟨_,fun w=>?_,.ptr hj⟩;simp only[Instr.fieldAt,XF,XH hu,XE,hf,Instr.sureAddr,XG,fieldPlace,cE hk.1,Uk hk.2,eU]
   cases e
  cases e
 cases e
def Jj{t:WK}{x x' v:WJ}(e:Fb P t x=some v)(hx:VR j x x'):∃v',nO P (Instr.arrayAt t x') v'/\VR j v v':=by
 unfold Fb at e
 split at e
 ·rename_i n el b o len cap hu
  split at e
  ·rename_i hc;cases e;have hn:¬len<n:=by omega
   cases hx with
   | slice hj hm=>exact⟨_,fun w=>by simp only[Instr.arrayAt,XF,XH hu,XE,Uk hn,XG],.ptr hj⟩
   | sliceM hj hm h1 h2 hl hc2=>exact⟨_,fun w=>by simp only[Instr.arrayAt,XF,XH hu,XE,Uk hn,XG],.ptr hj⟩
  cases e
 cases e
def vd{t:WK}{x x' y y' v:WJ}(e:bQ P t x y=some v)(hx:VR j x x')(hy:VR j y y'):∃v',nO P (Instr.indexAt t x' y') v'/\VR j v v':=by
 unfold bQ at e
 split at e
 ·rename_i len elem b o k i hu
  split at e
  ·rename_i hc;simp only[T7,UL] at hc;cases e;cases hy;cases hx with
   | ptr hj =>
   refine⟨_,fun w=>?_,.ptr hj⟩;simp only[Instr.indexAt,asIntOf,XF,XH hu,XE,Instr.sureAddr,XG,cE hc.1,Ui hc.2,eU]
  cases e
 ·rename_i elem b o len cap k i hu
  split at e
  ·rename_i hc;simp only[T7,UL] at hc;cases e;cases hy;cases hx with
   | slice hj hm =>
    refine⟨_,fun w=>?_,.ptr hj⟩;simp only[Instr.indexAt,asIntOf,XF,XH hu,XE,XG,cE hc.1,Ui hc.2,eU]
   | sliceM hj hm e1 e2 hl hcap =>
    refine⟨_,fun w=>?_,.ptr hj⟩;simp only[Instr.indexAt,asIntOf,XF,XH hu,XE,XG,cE hc.1,Ui hc.2,eU]
  cases e
 cases e
def Ge{t:WK}{x x' y y' v:WJ}(e:fe P t x y=some v)(hx:VR j x x')(hy:VR j y y'):∃v',nO P (Instr.index t x' y') v'/\VR j v v':=by
 unfold fe at e
 split at e
 ·rename_i len elem cs k i hu
  split at e
  ·rename_i hc;cases hy;cases hx with
   | agg h1 h2 =>
   have hk:known P elem=true:=by
    unfold eu at e
    split at e
    cases e
    rename_i hk; simpa using hk
   obtain⟨v',h3,h4⟩:=pg e (LR.fa h1 h2);refine⟨v',fun w=>?_,h4⟩;simp only[Instr.index,asIntOf,XF,XH hu,XE,XG,Ui hc,cE hk,h3]
  cases e
 ·rename_i s k i hu
  split at e
  ·rename_i hc;cases hy; cases hx;cases hs:s[i.toNat]? with
   | none=>rw[hs] at e; cases e
   | some b =>
    rw[hs] at e; cases e;refine⟨_,fun w=>?_,.int _ _⟩;simp only[Instr.index,asIntOf,XF,XH hu,XE,XG,Ui hc,hs]
  cases e
 cases e
def Gr{t:WK}{x x' v:WJ}{f:Nat}(e:eY P t x f=some v)(hx:VR j x x'):∃v',nO P (Instr.field t x' f) v'/\VR j v v':=by
 unfold eY at e
 split at e
 ·rename_i fields cs hu
  split at e
  ·rename_i fl hf;cases hx with
   | agg h1 h2 =>
   obtain⟨v',h3,h4⟩:=pg e (LR.fa h1 h2);refine⟨v',fun w=>?_,h4⟩;simp only[Instr.field,XF,XH hu,XE,hf,asAgg,XG,h3]
  cases e
 cases e
def Bt{E:Env}{m:Xq}{w:WO}(h:MR E j m w){t:WK}{x x' v:WJ}(e:dJ E.P t x m=some v)(hx:VR j x x') :
  ∃v',(Instr.loadAt t x').run E.P w=.ok v' w/\VR j v v':=by
 unfold dJ at e
 split at e
 ·rename_i b o
  split at e
  cases e
  ·rename_i hk;have hk':known E.P t=true:=by simpa using hk
   cases hx with
   | ptr hj =>
   rename_i k
   split at e
   ·rename_i ha;cases hl:m.dQ b o (aB E.P t) with
    | none=>rw[hl] at e; cases e
    | some vs =>
     rw[hl] at e; cases e;obtain⟨vs',h1,h2⟩:=h.dQ hj hl;refine⟨.agg vs'.toArray,?_,.C5 (by simpa using h2)⟩
     simp only[Instr.loadAt,Instr.sureAddr,XF,XG,XE,loadVar,pL hk',ha,if_true,cE hk',h1 w rfl]
   rename_i ha;have ha':ek E.P t=false:=by simpa using ha
   split at e
   rename_i cs tag hg;obtain⟨v',h1,h2⟩:=h.cell hj hg e;refine⟨v',?_,h2⟩;simp only[Instr.loadAt,Instr.sureAddr,XF,XG,XE,loadVar,pL hk',ha',Uu,if_false,run_load,h1]
   cases e
 cases e
end
section
variable{E:Env}{j:aL}{m:Xq}{w:WO}
def OR.own{c:Nat}{cs:XB WJ}{c':XD WJ}{elem:WK}(h:LR j cs c'.toList):OR j ⟨c,none⟩ (.cells cs .own) (.cells c' elem) :=
 ⟨⟨rfl,by simpa using h.1.symm,rfl⟩,fun i v hi=>by
  obtain⟨v',a,b⟩:=h.get hi;exact⟨v',by simpa using a,b⟩⟩
def lQ{zero:XD WJ}:∀(n:Nat),((Array.range (n*zero.size)).map fun i=>zero[i%zero.size]!).toList=cq zero.toList n:=by
 intro n
 by_cases hz:zero.size=0
 ·have:zero=#[]:=V7 hz;subst this;have:∀n,cq ([]:XB WJ) n=[]:=by
   intro n
   induction n with
   | zero=>rfl
   | succ n ih=>simpa [cq] using ih
  simp[this]
 ·have hpos:0<zero.size:=Us hz;have hlen:∀n,(cq zero.toList n).length=n*zero.size:=by
   intro n
   induction n with
   | zero=>simp[cq]
   | succ n ih=>simp[cq,ih,VU,Nat.add_comm]
  have hget:∀n i,i<n*zero.size->(cq zero.toList n)[i]? = zero[i%zero.size]?:=by
   intro n
   induction n with
   | zero=>intro i hi; simp at hi
   | succ n ih =>
    intro i hi;simp only[cq]
    by_cases hlt:i<zero.size
    rw[U1 (by simpa using hlt),UG hlt]; simp
    have hge:zero.size<=i:=by omega
    rw[UJ (by simpa using hge)]
    have:=ih (i-zero.size) (by rw[VU] at hi; omega)
    simp only[Wh];rw[this,<-Nat.mod_eq_sub_mod hge]
  apply Wg;intro i
  by_cases hi:i<n*zero.size
  rw[hget n i hi];have hlt:i%zero.size<zero.size:=UX _ hpos;simp[hi,hlt]
  rw[VG (by simp; omega),VG (by rw[hlen]; omega)]
def jo{P:WN}{elem:WK}{n:Nat}{zs:XB WJ}(h:fR P elem n=some zs):∃z,bR P elem=some z/\z.cells.size=aB P elem/\zs=cq z.cells.toList n:=by
 unfold fR at h
 split at h
 rename_i z hz
 split at h
 rename_i hs; cases h; exact⟨z,hz,hs,rfl⟩
 cases h
 cases h
def fU(l:XB WJ)(n:Nat):(cq l n).length=n*l.length:=by
 induction n with
 | zero=>simp[cq]
 | succ n ih=>simp[cq,ih,VU,Nat.add_comm]
def FV(h:MR E j m w){t:WK}{x x' v v':WJ}{m':Xq}(e:fo E.P t x v m=some m')(hx:VR j x x')(hv:VR j v v') :
  ∃w',(Instr.storeAt t x' v').run E.P w=.ok () w'/\Sim E j m w j m' w':=by
 unfold fo at e
 split at e
 ·rename_i b o
  split at e
  ·rename_i hc;simp only[T7,beq_iff_eq] at hc;obtain⟨⟨hk,hs⟩,ho⟩:=hc;cases hx with
   | ptr hj =>
   have hvc:=gO hv;obtain⟨w',h1,h2⟩:=jb h hj hvc ho e;refine⟨w',?_,h2⟩;have hs':v'.cells.size=aB E.P t:=by have:=hvc.1; simp at this; omega
   have hne:¬v'.cells.size≠aB E.P t:=by simp[hs']
   simp only[Instr.storeAt,Instr.sureAddr,XF,XG,XE,storeVar,cE hk,Uk hne,h1]
  cases e
 cases e
def eS{v v':WJ}(hp:aM v=true)(h:VR j v v'):v'=v:=by
 cases h<;>first|rfl |(simp[aM] at hp)
def qj:∀{l l':XB WJ},l.all aM=true->LR j l l'->l'=l
 | [],_,_,h=>h.dw
 | v::l,l',hp,h=>by
  obtain⟨y,ys,rfl,h1,h2⟩:=h.cons_inv;simp only[Vw,T7] at hp;rw[eS hp.1 h1,qj hp.2 h2]
def iu{v v':WJ}(hp:bG v=true)(h:VR j v v'):v'=v:=by
 cases h with
 | agg h1 h2 =>
  have:=qj (by simpa [bG] using hp) (LR.fa h1 h2)
  exact VB Value.agg (U4.1 this)
 | tuple h1 h2 =>
  have:=qj (by simpa [bG] using hp) (LR.fa h1 h2)
  exact VB Value.tuple (U4.1 this)
 | func h1 h2 h3 h4=>simp[bG,aM] at hp
 | yield h h1 h2=>simp[bG,aM] at hp
 | _=>first|rfl |(simp[bG,aM] at hp)
def gV{P:WN}{kt:WK}{k:WJ}(h:jq P kt k=true):bG k=true:=by
 unfold jq at h
 split at h
 rfl
 rfl
 rfl
 simp only[T7] at h; exact h.2
 simp only[T7] at h; exact h.2
 cases h
def checkKind{P:WN}{t:WK}(ht:gJ P t=true)(n:Nat)(v:WJ)(b:Bool)(w:WO):(Instr.checkKey b (n+1) t v).run P w=.ok () w:=by
 unfold gJ at ht;simp only[Instr.checkKey,XF];cases hu:P.underlying t with
 | none=>rw[hu] at ht; cases ht
 | some d =>
  rw[hu] at ht;simp only[XH hu,XE];cases d<;>first |(simp at ht; done)|rfl
def lE{P:WN}{α:Type}(f:α->Sem XC)(w:WO):∀(l:XB α),(∀x∈l,(f x).run P w=.ok () w) ->
  (forIn l PUnit.unit (fun x _=>do f x; pure (ForInStep.yield PUnit.unit)):Sem PUnit).run P w=.ok PUnit.unit w
 | [],_=>rfl
 | x::l,h=>by
  simp only[List.forIn_cons,XF,h x (by simp),XE,XG]
  exact lE f w l fun y hy=>h y (by simp[hy])
def Da{P:WN}{t:WK}(h:gJ P t=true):ek P t=false:=by
 unfold gJ at h;unfold ek;cases hu:P.underlying t with
 | none=>rfl
 | some d=>rw[hu] at h; cases d<;>first|rfl |(simp at h)
def wJ{P:WN}{t:WK}(h:gJ P t=true)(hk:known P t=true){cs:XD WJ}{o:Nat}(ho:o<cs.size)(w:WO):(part t cs o).run P w=.ok cs[o] w:=by
 simp[part,pL hk,Da h,ho]
def dR{P:WN}{kt:WK}{k:WJ}(h:jq P kt k=true)(b:Bool)(w:WO):(Instr.checkKey b 10000 kt k).run P w=.ok () w:=by
 unfold jq at h
 split at h
 rename_i hu; exact checkKind (by simp[gJ,hu]) 9999 _ b w
 rename_i hu; exact checkKind (by simp[gJ,hu]) 9999 _ b w
 rename_i hu; exact checkKind (by simp[gJ,hu]) 9999 _ b w
 rename_i len elem cs hu;simp only[T7,beq_iff_eq] at h;obtain⟨⟨⟨⟨hek,hkn⟩,hsz⟩,hlen⟩,_⟩:=h;have key:∀n,(Instr.checkKey b (n+1+1) kt (.agg cs)).run P w=.ok () w:=by
  intro n;unfold Instr.checkKey;simp only[XF,XH hu,XE];rw[Std.Legacy.Range.forIn_eq_forIn_range'];simp only[Std.Legacy.Range.size,V8,Nat.add_sub_cancel,WA];have:=lE (P:=P) (fun i=>do Instr.checkKey b (n+1) elem (<-part elem cs (i*(<-sizeOf elem)))) w (List.range' 0 len) (fun x hx=>by
   have hlt:x<cs.size:=by rw[List.mem_range'] at hx; obtain⟨i,h1,h2⟩:=hx; omega
   simp only[XF,cE hkn,hsz,Vo,wJ hek hkn hlt,XE];exact checkKind hek n _ b w)
  simp only[bind_assoc] at this;rw[this]; rfl
 exact key 9998
 ·rename_i fs cs hu;simp only[T7] at h;have key:∀n,(Instr.checkKey b (n+1+1) kt (.agg cs)).run P w=.ok () w:=by
   intro n;unfold Instr.checkKey;simp only[XF,XH hu,XE];rw[<-Array.forIn_toList];have hall:=h.1;generalize fs.toList=l at hall;clear hu
   induction l with
   | nil=>rfl
   | cons f l ih =>
    simp only[Vw,T7,UL] at hall;obtain⟨⟨⟨h1,h2⟩,h3⟩,h4⟩:=hall;have ih':=ih (by simpa [T7] using h4)
    simp only[List.forIn_cons,XF,Sem.run_ite]
    split
    simp only[wJ h1 h2 h3,XE,checkKind h1 n _ b w,XG];exact ih'
    simp only[XG,XE];exact ih'
  exact key 9998
 cases h
inductive FR(j:aL):XA (Nat×WJ)->XA (Nat×WJ)->Prop
 | none:FR j none none
 | some {i:Nat} {v v':WJ} (h:VR j v v'):FR j (some (i,v)) (some (i,v'))
def nP{P:WN}{kt:WK}{k k':WJ}(hk:VR j k k'):∀{es:XB (WJ×WJ)} {es':XB MapEntry} {i:Nat} {r:XA (Nat×WJ)},jA P kt k es i=some r->ER j es es' ->
  ∃r',(∀w,(Instr.findAsking kt k' es' i).run P w=.ok r' w)/\FR j r r'
 | [],[],i,r,h,_=>by cases h; exact⟨_,fun w=>rfl,.none⟩
 | e::es,f::fs,i,r,h,he=>by
  simp only[jA] at h
  split at h
  rename_i hq;cases h;refine⟨some (i,f.val),fun w=>?_,.some he.2.1⟩;simp only[Instr.findAsking,XF,Op.equal,kI _ hq hk he.1,XE,if_true,XG]
  rename_i hq;obtain⟨r',h1,h2⟩:=nP hk h he.2.2;refine⟨r',fun w=>?_,h2⟩;simp only[Instr.findAsking,XF,Op.equal,kI _ hq hk he.1,XE,Uu,if_false,h1]
  cases h
 | [],_::_,_,_,_,he=>he.elim
 | _::_,[],_,_,_,he=>he.elim
def sU{P:WN}{kt:WK}{d:TypeDesc}{k k' x x':WJ}{b b':Bool}(hu:P.underlying kt=some d)(hk:VR j k k')(hx:VR j x x')(h:Instr.sameNow d k' x'=some b')(he:lj P Op.maxDepth kt k x=some b):b=b':=by
 have:=kI (P:=P) Op.maxDepth he hk hx default;rw[show Op.maxDepth=9999+1 from rfl] at this
 unfold Instr.sameNow at h
 split at h
 rename_i k0 k1 a k2 c
 split at h
 rename_i hkk;subst hkk;cases h;rw[run_equalIn_int _ 9999 kt _ _ a c hu] at this;injection this with h1 _; exact h1.symm
 cases h
 cases h;rw[run_equalIn_string _ 9999 kt _ _ hu,<-beq_toListBytes] at this;injection this with h1 _; exact h1.symm
 cases h;rw[run_equalIn_bool' _ 9999 kt _ _ hu] at this;injection this with h1 _; exact h1.symm
 cases h
def tI{P:WN}{kt:WK}{d:TypeDesc}{k k':WJ}(hu:P.underlying kt=some d)(hk:VR j k k'):∀{es:XB (WJ×WJ)} {es':XB MapEntry} {i:Nat} {r r':XA (Nat×WJ)},jA P kt k es i=some r->ER j es es' ->
  Instr.findNow d k' es' i=some r'->FR j r r'
 | [],[],i,r,r',h,_,h'=>by cases h; cases h'; exact .none
 | e::es,f::fs,i,r,r',h,he,h'=>by
  simp only[jA] at h;simp only[Instr.findNow] at h'
  split at h'
  rename_i hs;cases h'
  split at h
  cases h; exact .some he.2.1
  rename_i hq; cases sU hu hk he.1 hs hq
  cases h
  rename_i hs
  split at h
  rename_i hq; cases sU hu hk he.1 hs hq
  exact tI hu hk h he.2.2 h'
  cases h
  cases h'
 | [],_::_,_,_,_,_,he,_=>he.elim
 | _::_,[],_,_,_,_,he,_=>he.elim
def gx{P:WN}{kt:WK}{d:TypeDesc}{k k':WJ}(hu:P.underlying kt=some d)(hk:VR j k k'){es:XB (WJ×WJ)}{es':XB MapEntry}{r:XA (Nat×WJ)}(h:jA P kt k es 0=some r)(he:ER j es es') :
  ∃r',(∀w,(Instr.findKey kt k' es').run P w=.ok r' w)/\FR j r r':=by
 cases hn:Instr.findNow d k' es' 0 with
 | some r' =>
  refine⟨r',fun w=>?_,tI hu hk h he hn⟩;simp only[Instr.findKey,XF,XH hu,XE,hn,XG]
 | none =>
  obtain⟨r',h1,h2⟩:=nP hk h he;refine⟨r',fun w=>?_,h2⟩;simp only[Instr.findKey,XF,XH hu,XE,hn,h1]
def lU{P:WN}{kt:WK}{k:WJ}(h:jq P kt k=true):∃d,P.underlying kt=some d:=by
 unfold jq at h;cases hu:P.underlying kt with
 | some d=>exact⟨d,rfl⟩
 | none=>rw[hu] at h; simp at h
def MR.E7(h:MR E j m w){b:Nat}{k:Blk}(hk:j b=some k){es:XB (WJ×WJ)}(hg:m.get b=some (.map es)):∃es' clock,w.heap[k.c]? = some (.map es' clock)/\ER j es es'.toList:=by
 obtain⟨o',h1,h2⟩:=h.obj b _ k hg hk;cases o' with
 | map es' clock=>exact⟨es',clock,h1,h2.1⟩
 | _=>exact h2.elim
def MR.CZ(h:MR E j m w){b:Nat}{k:Blk}(hk:j b=some k){es:XB (WJ×WJ)}(hg:m.get b=some (.map es)){es':XD MapEntry}{clock:Nat}(hw:w.heap[k.c]? = some (.map es' clock)):Ki es' clock:=by
 obtain⟨o',h1,h2⟩:=h.obj b _ k hg hk;rw[hw] at h1;cases h1;exact h2.2
def run_getObj_map{P:WN}{w:WO}{r:Nat}{es:XD MapEntry}{c:Nat}(h:w.heap[r]? = some (.map es c)):(getObj r).run P w=.ok (.map es c) w:=by simp[getObj,Sem.run,h]
def run_setObj_map{P:WN}{w:WO}{r:Nat}{es:XD MapEntry}{c:Nat}(o:Obj)(h:w.heap[r]? = some (.map es c)):(setObj r o).run P w=.ok () (w.putObj r o):=by simp[setObj,Sem.run,h,World.putObj]
def C8 (h:MR E j m w) {t:WK} {x x' y y' v:WJ} {ok:Bool} (e:dX E.P t x y ok m=some v) (hx:VR j x x') (hy:VR j y y') :
  ∃v',(Instr.lookup t x' y' ok).run E.P w=.ok v' w/\VR j v v':=by
 unfold dX at e
 split at e
 ·rename_i key elem hu
  split at e
  ·rename_i es z hes hz
   split at e
   ·rename_i hko;obtain⟨d,hd⟩:=lU hko;have hy':y'=y:=iu (gV hko) hy;subst hy';have hmap:∃es':XD MapEntry,ER j es es'.toList/\((x'=.map none/\es'=#[])\/∃r c,x'=.map (some r)/\w.heap[r]? = some (.map es' c)):=by
     unfold mapOf at hes
     split at hes
     cases hes; cases hx;exact⟨#[],trivial,.inl ⟨rfl,rfl⟩⟩
     ·rename_i r
      split at hes
      ·rename_i es0 hg;cases hes;cases hx with
       | map hj =>
       obtain⟨es',clock,h1,h2⟩:=h.E7 hj hg;exact⟨es',h2,.inr ⟨_,_,rfl,h1⟩⟩
      cases hes
     cases hes
    obtain⟨es',hes',hsh⟩:=hmap
    split at e
    ·rename_i i v0 hf;cases e;obtain⟨r',h1,h2⟩:=gx hd hy hf hes';cases h2 with
     | some hv =>
     rename_i v0';refine⟨if ok then .tuple #[v0',.bool true] else v0',?_,?_⟩
     rcases hsh with⟨rfl,rfl⟩|⟨r,c,rfl,h5⟩
     simp only[Instr.lookup,XF,XH hu,XE,XG,dR hko,h1]
     simp only[Instr.lookup,XF,XH hu,XE,run_getObj_map h5,XG,dR hko,h1]
     ·cases ok with
      | true=>exact .tuple' (by exact LR.cons hv (LR.cons (.bool true) (.nil j)))
      | false=>exact hv
    ·rename_i hf
     split at e
     ·rename_i hpz;cases e;obtain⟨r',h1,h2⟩:=gx hd hy hf hes';cases h2;refine⟨if ok then .tuple #[z,.bool false] else z,?_,?_⟩
      rcases hsh with⟨rfl,rfl⟩|⟨r,c,rfl,h5⟩
      simp only[Instr.lookup,XF,XH hu,XE,XG,dR hko,h1,iR hz]
      simp only[Instr.lookup,XF,XH hu,XE,run_getObj_map h5,XG,dR hko,h1,iR hz]
      ·cases ok with
       | true=>exact .tuple' (by exact LR.cons (VR.bG hpz) (LR.cons (.bool false) (.nil j)))
       | false=>exact VR.bG hpz
     cases e
    cases e
   cases e
  cases e
 cases e
def ER.get:∀{es:XB (WJ×WJ)} {fs:XB MapEntry} {i:Nat} {e:WJ×WJ},ER j es fs->es[i]? = some e->∃f,fs[i]? = some f/\VR j e.1 f.key/\VR j e.2 f.val
 | [],[],_,_,_,h=>by simp at h
 | x::es,f::fs,0,e,h,hi=>by simp at hi; subst hi; exact⟨f,rfl,h.1,h.2.1⟩
 | x::es,f::fs,i+1,e,h,hi=>by simpa using ER.get h.2.2 (by simpa using hi)
 | [],_::_,_,_,h,_=>h.elim
 | _::_,[],_,_,h,_=>h.elim
def ER.tl:∀{es:XB (WJ×WJ)} {fs:XB MapEntry} {e:WJ×WJ} {f:MapEntry},ER j es fs->VR j e.1 f.key->VR j e.2 f.val->ER j (es++[e]) (fs++[f])
 | [],[],_,_,_,h1,h2=>⟨h1,h2,trivial⟩
 | _::_,_::_,_,_,h,h1,h2=>⟨h.1,h.2.1,ER.tl h.2.2 h1 h2⟩
 | [],_::_,_,_,h,_,_=>h.elim
 | _::_,[],_,_,h,_,_=>h.elim
def ER.put:∀{es:XB (WJ×WJ)} {fs:XB MapEntry} {i:Nat} {k k' v v':WJ},ER j es fs->i<es.length->VR j k k'->VR j v v'->ER j (nU es i k v) (fs.modify i fun e=>{ e with key:=k',val:=v'})
 | x::es,f::fs,0,_,_,_,_,h,_,h1,h2=>⟨h1,h2,h.2.2⟩
 | x::es,f::fs,i+1,_,_,_,_,h,hi,h1,h2=>⟨h.1,h.2.1,ER.put h.2.2 (by simpa using hi) h1 h2⟩
 | [],_,_,_,_,_,_,_,hi,_,_=>by simp at hi
 | _::_,[],_,_,_,_,_,h,_,_,_=>h.elim
def ER.erase:∀{es:XB (WJ×WJ)} {fs:XB MapEntry} (i:Nat),ER j es fs->ER j (es.eraseIdx i) (fs.eraseIdx i)
 | [],[],_,_=>trivial
 | _::_,_::_,0,h=>h.2.2
 | _::_,_::_,i+1,h=>⟨h.1,h.2.1,ER.erase i h.2.2⟩
 | [],_::_,_,h=>h.elim
 | _::_,[],_,h=>h.elim
def nR (h:MR E j m w) {t:WK} {x x' k k' v v':WJ} {m':Xq} (e:eK E.P t x k v m=some m') (hx:VR j x x') (hk:VR j k k') (hv:VR j v v') :
  ∃w',(Instr.mapUpdate t x' k' v').run E.P w=.ok () w'/\Sim E j m w j m' w':=by
 unfold eK at e
 split at e
 ·rename_i kt et r hu
  split at e
  ·rename_i es hg
   split at e
   ·rename_i hko;obtain⟨d,hd⟩:=lU hko;have hk':k'=k:=iu (gV hko) hk;cases hx with
    | map hj =>
    rename_i kb;obtain⟨es',clock,h1,h2⟩:=h.E7 hj hg
    split at e
    ·rename_i i v0 hf
     split at e
     ·rename_i hsame;cases e;unfold oY at hsame
      split at hsame
      ·rename_i e0 he0;simp only[T7] at hsame;obtain⟨r',h3,h4⟩:=gx hd hk hf h2;cases h4 with
       | some _ =>
       obtain⟨f0,g1,g2,g3⟩:=h2.get he0;have hf0:f0.key=e0.1:=iu hsame.1 g2;have hi:i<es.length:=(Uq.1 he0).1;refine⟨_,?_,kv h hj (by rw[hg]; rfl) (co:=.map (es'.modify i fun e=>{ e with key:=k,val:=v'}) clock) ?_⟩
       have g1':es'[i]? = some f0:=by simpa using g1
       simp only[Instr.mapUpdate,XF,XH hu,XE,run_getObj_map h1,hk',dR hko];rw[hk'] at h3;simp only[h3,XE,XF,g1',Uh,Option.getD_some,hf0,Instr.keyThatStays,hsame.2,if_true,XG,run_setObj_map _ h1]
       refine⟨?_,Dd (h.CZ hj hg h1) i _ fun _=>rfl⟩
       show ER j (nU es i k v) (es'.modify i fun e=>{ e with key:=k,val:=v'}).toList
       rw[Array.toList_modify];exact h2.put hi (VR.bG (gV hko)) hv
      cases hsame
     cases e
    rename_i hf;cases e;obtain⟨r',h3,h4⟩:=gx hd hk hf h2;cases h4;refine⟨_,?_,kv h hj (by rw[hg]; rfl) (co:=.map (es'.push { key:=k,val:=v',born:=clock}) (clock+1)) ?_⟩
    simp only[Instr.mapUpdate,XF,XH hu,XE,run_getObj_map h1,hk',dR hko];rw[hk'] at h3;simp only[h3,XE,run_setObj_map _ h1]
    refine⟨?_,JJ (h.CZ hj hg h1) k v'⟩
    show ER j (es++[(k,v)]) (es'.push { key:=k,val:=v',born:=clock}).toList
    rw[Array.toList_push];exact h2.tl (VR.bG (gV hko)) hv
    cases e
   cases e
  cases e
 cases e
def Ds(h:MR E j m w){t:WK}{x x' k k':WJ}{m':Xq}(e:sE E.P t x k m=some m')(hx:VR j x x')(hk:VR j k k')(ts:XD WK)(hts:ts[0]? = some t)(ty:WK) :
  ∃w',(Builtin.delete_ ts ty #[x',k']).run E.P w=.ok (.tuple #[]) w'/\Sim E j m w j m' w':=by
 unfold sE at e
 split at e
 ·rename_i kt et r hu
  split at e
  ·rename_i es hg
   split at e
   ·rename_i hko;obtain⟨d,hd⟩:=lU hko;have hk':k'=k:=iu (gV hko) hk;cases hx with
    | map hj =>
    rename_i kb;obtain⟨es',clock,h1,h2⟩:=h.E7 hj hg
    split at e
    ·rename_i i v0 hf;cases e;obtain⟨r',h3,h4⟩:=gx hd hk hf h2;cases h4 with
     | some _ =>
     refine⟨_,?_,kv h hj (by rw[hg]; rfl) (co:=.map (es'.eraseIdxIfInBounds i) clock) ?_⟩
     simp only[Builtin.delete_,hts,UE,UA,U2,XF,XH hu,XE,run_getObj_map h1,hk',dR hko];rw[hk'] at h3;simp only[h3,XE,XF,run_setObj_map _ h1,XG]
     refine⟨?_,GC (h.CZ hj hg h1) i⟩
     show ER j (es.eraseIdx i) (es'.eraseIdxIfInBounds i).toList
     rw[Array.toList_eraseIdxIfInBounds];exact h2.erase i
    rename_i hf;cases e;obtain⟨r',h3,h4⟩:=gx hd hk hf h2;cases h4;refine⟨w,?_,.refl h⟩;simp only[Builtin.delete_,hts,UE,UA,U2,XF,XH hu,XE,run_getObj_map h1,hk',dR hko];rw[hk'] at h3;simp only[h3,XE,XF,run_setObj_map _ h1,XG,re h1]
    cases e
   cases e
  cases e
 cases e
end
def vG(n:Nat):∀(r c:Nat),Builtin.growBy n r c<=max c (n+(n+768)/4)
 | 0,c=>by simp only[Builtin.growBy]; omega
 | r+1,c=>by
  simp only[Builtin.growBy]
  split
  omega
  have:=vG n r (c+(c+768)/4);omega
def nextslicecap_le{need cap:Nat}(h:cap<need):Builtin.nextslicecap need cap<=2*need+2000:=by
 unfold Builtin.nextslicecap
 split
 omega
 split
 omega
 have:=vG need 4 cap;omega
section
variable{E:Env}{j:aL}{m:Xq}{w:WO}
def appendCore(elem:WK)(size:Nat)(base:WH)(sLen sCap n:Nat)(zeros:Bool)(s x:WJ)(appended:Sem (XD WJ)):Sem WJ:=do
 let need:=sLen+n
 if need<=sCap then
  let new <-appended
  if let some a:=base then storeCells (a.add (sLen*size)) new.toList
  pure (.slice base need sCap)
 else
  if (need : Int) > IntKind.i64.max /\ (zeros \/ (<- typeInfo elem).bytes = 0) then runtimePanic (.error "growslice: len out of range")
  if Builtin.nextslicecap need sCap * (<- typeInfo elem).bytes > 2 ^ 48 then (if zeros then runtimePanic (.error "growslice: len out of range") else do
   if !(<-Builtin.mayShare size sLen n base x) then mark .noRoom
   unsupported (.resourceLimit "append: a slice or a string whose bytes no memory bears"))
  let newCap <-choose (.appendCap need sCap elem)
  askRoom (newCap*(<-typeInfo elem).bytes)
  let old <-Builtin.firstCells size sLen s
  let new <-appended
  let rest:=Builtin.zeroCells (<-zeroValue elem).cells (newCap-need)
  pure (.slice (some (<-newRow elem (old++new++rest))) need newCap)
def jX{P:WN}{elem:WK}{size sLen sCap n:Nat}{zeros:Bool}{s x:WJ}{a:Addr}{app:Sem (XD WJ)}{new:XB WJ}{w w':WO}
  (happ:app.run P w=.ok new.toArray w) (hfit:sLen+n<=sCap) (hst:(storeCells (a.add (sLen*size)) new).run P w=.ok () w') :
  (appendCore elem size (some a) sLen sCap n zeros s x app).run P w=.ok (.slice (some a) (sLen+n) sCap) w':=by
 simp only[appendCore,Ui hfit,XF,happ,XE,hst,XG]
def nw{l:XB WJ}(h:l.all aM=true):∀n,(cq l n).all aM=true
 | 0=>rfl
 | n+1=>by simp only[cq,List.all_append,h,nw h n,Vf]
def kS{P:WN}{elem:WK}{size sLen sCap n:Nat}{zeros:Bool}{s x:WJ}{base:WH}{app:Sem (XD WJ)}{new old:XB WJ}{w:WO}{i:TypeInfo}{z:WJ}
  (happ:∀w0:WO,w0.heap=w.heap->app.run P w0=.ok new.toArray w0) (hold:∀w0:WO,w0.heap=w.heap->(Builtin.firstCells size sLen s).run P w0=.ok old.toArray w0) (hgrow:¬sLen+n<=sCap)
  (hi:P.info? elem=some i) (hz:i.zero=some z) (hfit:gH i.bytes (sLen+n)=true) (hb:i.bytes≠0) (hzs:z.cells.size=size) (hzp:z.cells.toList.all aM=true) (ho:old.length=sLen*size) (hn:new.length=n*size) :
  ∃(cap:Nat) (rest:XB WJ) (w0:WO),(w0.heap=w.heap/\Calm w w0)/\(sLen+n<=cap/\cap<=9223372036854775807)/\(old++new++rest).length=cap*size/\rest.all aM=true /\
   (appendCore elem size base sLen sCap n zeros s x app).run P w=.ok (.slice (some ⟨w.heap.size,0,none⟩) (sLen+n) cap) (w0.alloc (.cells (old++new++rest).toArray elem)):=by
 have hfit':(2*(sLen+n)+2000)*i.bytes<=2 ^ 48:=by simpa [gH] using hfit
 have h1:¬(((sLen+n:Nat):Int)>IntKind.i64.max/\(zeros=true\/i.bytes=0)):=by
  intro hc;have hbig:sLen+n<=2 ^ 48:=by
   have:1<=i.bytes:=Nat.one_le_iff_ne_zero.2 hb;have:(sLen+n)*1<=(2*(sLen+n)+2000)*i.bytes:=UO (by omega) this
   omega
  have hmax:IntKind.i64.max=9223372036854775807:=by decide
  rw[hmax] at hc;omega
 have h2:¬Builtin.nextslicecap (sLen+n) sCap*i.bytes>2 ^ 48:=by
  have:=UF i.bytes (nextslicecap_le (need:=sLen+n) (cap:=sCap) (by omega))
  omega
 have hzv:∀w0:WO,(zeroValue elem).run P w0=.ok z w0:=fun w0=>iR (by simp[bR,hi,hz]) w0
 obtain⟨cap,hcap⟩:∃cap,cap=(Question.appendCap (sLen+n) sCap elem).cut (w.tape w.drawn (.appendCap (sLen+n) sCap elem)):=⟨_,rfl⟩;have hle:sLen+n<=cap:=by rw[hcap]; simp[Question.cut]
 have hmx:cap<=9223372036854775807:=by
  have hbig:sLen+n<=2 ^ 48:=by
   have:1<=i.bytes:=Nat.one_le_iff_ne_zero.2 hb;have:(sLen+n)*1<=(2*(sLen+n)+2000)*i.bytes:=UO (by omega) this
   omega
  rw[hcap]
  show sLen+n+_%(2 ^ 63-(sLen+n))<=_
  have:=UX (w.tape w.drawn (.appendCap (sLen+n) sCap elem)) (show 0<2 ^ 63-(sLen+n) by omega)
  omega
 refine⟨cap,cq z.cells.toList (cap-(sLen+n)),w.drew,⟨rfl,rfl,rfl,rfl,Nat.le_succ _⟩,⟨hle,hmx⟩,?_,nw hzp _,?_⟩
 simp only[Uf,fU,ho,hn,Wh,hzs];rw[<-UR,<-UR]
 congr 1; omega
 have hzc:Builtin.zeroCells z.cells (cap-(sLen+n))=(cq z.cells.toList (cap-(sLen+n))).toArray:=by
  rw[<-lQ (zero:=z.cells)]; rfl
 simp only[appendCore,Uk hgrow,XF,tO hi,XE,Sem.run_ite,Uk h1,Uk h2,XG,run_choose,Question.forced,Uu,if_false,World.drew_eq,run_askRoom,
  hold w.drew rfl,happ w.drew rfl,hzv,<-hcap,hzc,newRow,run_newObj,World.alloc_eq]
 simp
def yI(h:MR E j m w){sz n:Nat}{x x':WJ}{new:XB WJ}(e:cu sz x n m=some new)(hx:VR j x x') :
  ∃new',(∀w0:WO,w0.heap=w.heap->(Builtin.firstCells sz n x').run E.P w0=.ok new'.toArray w0)/\LR j new new':=by
 unfold cu at e
 split at e
 split at e
 rename_i hn; subst hn; cases e; cases hx;exact⟨[],fun w0 _=>rfl,.nil j⟩
 cases e
 ·rename_i b o l c
  split at e
  rename_i hn; subst hn; cases e;refine⟨[],fun w0 _=>?_,.nil j⟩;cases hx<;>simp[Builtin.firstCells,loadCells,loadCellsFrom]
  ·have hgo:∀k:Blk,j b=some k->∃new',(∀w0:WO,w0.heap=w.heap->(loadCells ⟨k.c,o,none⟩ (n*sz)).run E.P w0=.ok new'.toArray w0)/\LR j new new':=by
    intro k hj;exact h.dQ hj e
   cases hx with
   | slice hj hm=>exact hgo _ hj
   | sliceM hj hm e1 e2 hl hc=>exact hgo _ hj
 split at e
 rename_i hn; subst hn; cases e;refine⟨[],fun w0 _=>?_,.nil j⟩;cases hx<;>simp[Builtin.firstCells,loadCells,loadCellsFrom]
 cases e
 cases e
def zi(h:MR E j m w){elem:WK}{xt:XA WK}{x x':WJ}{n:Nat}{new:XB WJ}(e:iH E.P elem xt x m=some (n,new))(hx:VR j x x')(hk:known E.P elem=true)
  {i:TypeInfo} (hi:E.P.info? elem=some i) (hbytes:n*i.bytes<=2 ^ 48) {sType:WK} (hu:E.P.underlying sType=some (.slice elem)) {ts:XD WK} (h0:ts[0]? = some sType) (h1:ts[1]? = xt) (ty:WK) :
  ∃(new':XB WJ) (zeros:Bool) (app:Sem (XD WJ)),LR j new new'/\(∀w0:WO,w0.heap=w.heap->app.run E.P w0=.ok new'.toArray w0) /\
   ∀base sLen sCap,(Builtin.append_ ts ty #[.slice base sLen sCap,x']).run E.P w=(appendCore elem (aB E.P elem) base sLen sCap n zeros (.slice base sLen sCap) x' app).run E.P w:=by
 unfold iH at e
 split at e
 ·rename_i et a l c hxt;cases hs:cu (aB E.P elem) (.slice a l c) l m with
  | none=>rw[hs] at e; cases e
  | some cs =>
   rw[hs] at e; cases e;obtain⟨new',h2,h3⟩:=yI h hs hx;refine⟨new',false,Builtin.firstCells (aB E.P elem) n x',h3,h2,fun base sLen sCap=>?_⟩;have hlen:∀w0:WO,(Builtin.lenOf x').run E.P w0=.ok n w0:=by
    intro w0;cases hx<;>rfl
   obtain⟨xt',hxt',hu'⟩:∃xt',xt=some xt'/\E.P.underlying xt'=some (.slice et):=by
    cases xt with
    | none=>cases hxt
    | some xt'=>exact⟨xt',rfl,hxt⟩
   rw[hxt'] at h1;simp only[appendCore,Builtin.append_,h0,h1,UE,UA,U2,XF,XH hu,XH hu',XE,cE hk,XG,Uu,if_false,hlen,Uw,if_true]
   congr
 ·rename_i k l hxt
  split at e
  ·rename_i hl;cases hz:fR E.P elem l.toNat with
   | none=>rw[hz] at e; cases e
   | some zs =>
    rw[hz] at e;simp only[UQ] at e
    split at e
    ·rename_i hp;cases e;cases hx;obtain⟨z,hz1,hz2,hz3⟩:=jo hz;obtain⟨xt',k',hxt',hu'⟩:∃xt' k',xt=some xt'/\E.P.underlying xt'=some (.int k'):=by
      cases xt with
      | none=>cases hxt
      | some xt'=>exact⟨xt',_,rfl,hxt⟩
     have hwrap:IntKind.i64.wrap l=l:=IntWalk.i64_in l (by have:=hl.1; have:=hl.2; omega)
     have hlb:¬(l*i.bytes>2 ^ 48):=by
      have:((l.toNat*i.bytes:Nat):Int)<=2 ^ 48:=by exact_mod_cast hbytes
      have h3:((l.toNat:Nat):Int)=l:=Vd hl.1;rw[VW,h3] at this;omega
     refine⟨new,true,if l.toNat*aB E.P elem=0 then pure #[] else do pure (Builtin.zeroCells (<-zeroValue elem).cells l.toNat),LR.plain hp,?_,fun base sLen sCap=>?_⟩
     intro w0 _;rw[Sem.run_ite]
     split
     rename_i h0;have:new=[]:=by
      apply Vv;rw[hz3,fU,Wh,hz2,h0]
     rw[this]; rfl
     simp only[XF,iR hz1,XE,XG];rw[hz3,<-lQ (zero:=z.cells)]; rfl
     rw[hxt'] at h1;have hneg:¬l<0:=by have:=hl.1; omega
     simp only[appendCore,Builtin.append_,h0,h1,UE,UA,U2,XF,XH hu,XH hu',XE,cE hk,XG,if_true,asInt,asIntOf,hwrap,Uk hneg,tO hi,Uk hlb,Uj,Uu,if_false]
     congr
    cases e
  cases e
 cases e
def OR.more{c na nc sz:Nat}{cs:XB WJ}{c':XD WJ}{elem:WK}(h1:cs.length=na)(h2:c'.size=nc)(h3:na<=nc)(hsz:0<sz)(hr:oB sz c')(h:∀(i:Nat) (v:WJ),cs[i]? = some v->∃v',c'[i]? = some v'/\VR j v v') :
  OR j ⟨c,some (sz,na,nc)⟩ (.cells cs (.more sz)) (.cells c' elem) :=
 ⟨⟨by rw[h1,h2],by omega,rfl,hsz,hr⟩,h⟩
def jw(h:MR E j m w){w0:WO}(hw3:w0.heap=w.heap/\Calm w w0){cs cs' rest:XB WJ}{elem:WK}{sz n cap:Nat}(hc:LR j cs cs')(hl:cs.length=n*sz)(hr:(cs'++rest).length=cap*sz)(hn:n<=cap)(hsz:0<sz)(hp:rest.all aM=true)(hmx:cap<=9223372036854775807) :
  ∃j',Sim E j m w j' (m.alloc (.cells cs (.more sz))) (w0.alloc (.cells (cs'++rest).toArray elem))/\VR j' (.slice (some ⟨m.next,0,none⟩) n n) (.slice (some ⟨w.heap.size,0,none⟩) n cap):=by
 have hw:=hw3.1;have h0:=h.of_heap hw;have hle:n*sz<=cap*sz:=UF _ hn;have ho:OR j ⟨w0.heap.size,some (sz,n*sz,cap*sz)⟩ (.cells cs (.more sz)) (.cells (cs'++rest).toArray elem):=by
  refine OR.more hl (by simpa using hr) hle hsz (by unfold oB; rw[List.size_toArray,hr,Uo]; exact Vb _ hmx) fun i v hi=>?_
  obtain⟨v',a,b⟩:=hc.get hi;refine⟨v',?_,b⟩;rw[UE,U1 (Uq.1 a).1];exact a
 have s:=mW h0 ho;refine⟨_,(Sim.of_heap h hw hw3.2).trans h s,?_⟩;have:VR (j.set m.next ⟨w0.heap.size,some (sz,n*sz,cap*sz)⟩) (.slice (some ⟨m.next,0,none⟩) n n) (.slice (some ⟨w0.heap.size,0,none⟩) n cap) :=
  .sliceM (k:=⟨w0.heap.size,some (sz,n*sz,cap*sz)⟩) (aL.cm _ _ _) rfl rfl rfl (Ua _) hn
 rw[hw] at this ⊢;exact this
def CG (h:MR E j m w) {t:WK} {xt:XA WK} {s s' x x' v:WJ} {m':Xq} (e:dF E.P t xt s x m=some (v,m')) (hs:VR j s s') (hx:VR j x x')
  {ts:XD WK} (h6:ts[0]? = some t) (h1:ts[1]? = xt) (ty:WK) :
  ∃j' w' v',(Builtin.append_ ts ty #[s',x']).run E.P w=.ok v' w'/\Sim E j m w j' m' w'/\VR j' v v':=by
 unfold dF at e
 split at e
 ·rename_i elem base len cap n new hu hnc;simp only[hu] at hnc;simp only at e
  split at e
  cases e
  ·rename_i hcond;simp only[VH,U7,not_or,Bool.not_eq_false,beq_iff_eq,bne_iff_ne,ne_eq,Decidable.not_not,Option.any_eq_true] at hcond;obtain⟨⟨⟨⟨⟨hk,h7⟩,hone⟩,⟨i,hi,hfit⟩⟩,hlen⟩,⟨z,hz,hzs⟩⟩:=hcond;simp only[T7,bne_iff_ne,ne_eq] at hfit;obtain⟨hfit,hb⟩:=hfit;obtain⟨i',hi',hz'⟩:=xH hz;rw[hi] at hi'; cases hi';simp only[T7,beq_iff_eq] at hzs;have hzs':z.cells.size=aB E.P elem:=hzs.1;have hzp:=hzs.2;have hsz:0<aB E.P elem:=Us h7;have hbytes:n*i.bytes<=2 ^ 48:=by
    have:(2*(len+n)+2000)*i.bytes<=2 ^ 48:=by simpa [gH] using hfit
    have:=UF i.bytes (show n<=2*(len+n)+2000 by omega)
    omega
   obtain⟨new',zeros,app,hnew,happ,hrun⟩:=zi h hnc hx hk hi hbytes hu h6 h1 ty;have hnl:new'.length=n*aB E.P elem:=by rw[<-hnew.1]; exact hlen
   split at e
   
   split at e
   cases e
   rename_i h5;have hlc:len=0/\cap=0:=by omega
   obtain⟨rfl,rfl⟩:=hlc;cases hs
   split at e
   rename_i hn; cases e;subst hn;refine⟨j,w,.slice none 0 0,?_,.refl h,.snil 0 0⟩;rw[hrun];simp only[appendCore,UZ,Ua,if_true,XF,happ w rfl,XE,XG]
   rename_i hn; cases e;obtain⟨cap',rest,w0,h0,⟨hle,hmx⟩,hlr,hrp,hr⟩:=kS (P:=E.P) (zeros:=zeros) (s:=.slice none 0 0) (x:=x') (base:=none) (sLen:=0) (sCap:=0) (old:=[]) happ (fun w0 _=>rfl) (by omega) hi hz' (by simpa using hfit) hb hzs' hzp (by simp) hnl
   obtain⟨j',s1,s2⟩:=jw h h0 (elem:=elem) hnew hlen (by simpa using hlr) (by omega) hsz hrp hmx
   refine⟨j',_,_,by rw[hrun]; exact hr,by simpa using s1,by simpa using s2⟩
   ·rename_i b o
    split at e
    ·rename_i cs tag hg
     split at e
     ·
      rename_i hfits;cases hst:m.dz b (o+len*aB E.P elem) new with
      | none=>rw[hst] at e; cases e
      | some m1 =>
       rw[hst] at e; cases e;cases hs with
       | slice hj hm =>
        obtain⟨w',g1,g0⟩:=jb h hj hnew hone hst;refine⟨j,w',_,?_,g0,.slice hj hm⟩;rw[hrun];exact jX (happ w rfl) hfits (by rw[lJ]; exact g1)
       | sliceM hj hm e1 e2 hl hc =>
        obtain⟨w',g1,g0⟩:=jb h hj hnew hone hst;refine⟨j,w',_,?_,g0,.sliceM hj hm e1 e2 hfits hc⟩;rw[hrun];exact jX (happ w rfl) (by omega) (by rw[lJ]; exact g1)
     ·rename_i hno;have hexact:∀k:Blk,j b=some k->k.more=none->∀old,m.dQ b o (len*aB E.P elem)=some old->v=.slice (some ⟨m.next,0,none⟩) (len+n) (len+n)->m'=m.alloc (.cells (old++new) (.more (aB E.P elem))) ->
        ∃j' w' v',(Builtin.append_ ts ty #[.slice (some ⟨k.c,o,none⟩) len cap,x']).run E.P w=.ok v' w'/\Sim E j m w j' m' w'/\VR j' v v':=by
       intro k hj hm old hold ev em;obtain⟨old',g1,g0⟩:=h.dQ hj hold;have hol:old.length=len*aB E.P elem:=(tZ hold).choose_spec.choose_spec.2.2;obtain⟨cap',rest,w0,h0,⟨hle,hmx⟩,hlr,hrp,hr⟩:=kS (P:=E.P) (zeros:=zeros) (s:=.slice (some ⟨k.c,o,none⟩) len cap) (x:=x') (base:=some ⟨k.c,o,none⟩) (sLen:=len) (sCap:=cap) (old:=old') happ
        (fun w0 h0=>g1 w0 h0) hno hi hz' hfit hb hzs' hzp (by rw[<-g0.1]; exact hol) hnl
       obtain⟨j',s1,s2⟩:=jw h h0 (elem:=elem) (g0.append hnew) (n:=len+n) (by rw[Uf,hol,hlen,UR]) hlr hle hsz hrp hmx
       exact⟨j',_,_,by rw[hrun]; exact hr,em▸s1,ev▸s2⟩
      split at e
      ·
       rename_i sz'
       split at e
       ·rename_i hso;obtain⟨rfl,rfl⟩:=hso
        split at e
        ·rename_i hol;cases e;cases hs with
         | slice hj hm =>
          have:=h.kindOf hj hg;simp only at this;obtain⟨nc,hmm,_⟩:=this;rw[hm] at hmm; cases hmm
         | sliceM hj hm e1 e2 hl hc =>
          rename_i cap' sz' na nc k;have hkd:=h.kindOf hj hg;simp only at hkd;obtain⟨nc',hmm,_⟩:=hkd;rw[hm] at hmm;simp only[Option.some.injEq,Wp] at hmm;obtain⟨rfl,rfl,rfl⟩:=hmm
          by_cases hfits:len+n<=cap'
          
          obtain⟨c,el,fz,c1,c2,c3⟩:=h.si hj hg;have c2':k.more=some (aB E.P elem,cs.length,c.size)/\cs.length<=c.size/\fz=(0,0)/\0<aB E.P elem/\oB (aB E.P elem) c:=c2;obtain⟨c0,c5,rfl,_,c4⟩:=c2';rw[hm] at c0;simp only[Option.some.injEq,Wp,true_and] at c0;have hcs:(len+n)*aB E.P elem<=c.size:=by
           rw[<-c0,<-e2]; simp; exact UF _ hfits
          have hmul:(len+n)*aB E.P elem=len*aB E.P elem+n*aB E.P elem:=UR _ _ _;have hst:=fY (P:=E.P) new' w c 0 (len*aB E.P elem) c1 (by rw[hnl]; omega) (nV hnew hone)
          have hold:(cs.take (len*aB E.P elem)).length=len*aB E.P elem:=hol;have hlecs:len*aB E.P elem<=cs.length:=by rw[U0] at hold; omega
          have hor:OR j ⟨k.c,some (aB E.P elem,(len+n)*aB E.P elem,c.size)⟩ (.cells (cs.take (len*aB E.P elem)++new) (.more (aB E.P elem))) (.cells (aK c.toList (0+len*aB E.P elem) new').toArray el):=by
           refine OR.more (by rw[Uf,hold,hlen,hmul]) (by simp[cH]) hcs hsz (by unfold oB at *; simpa [cH] using c4) fun ix vx hix=>?_
           rw[UE,cD,UU]
           by_cases hlt:ix<len*aB E.P elem
           rw[U1 (by rw[hold]; exact hlt),VY,Ui hlt] at hix
           rw[WU]
           obtain⟨vx',q0,q2⟩:=c3 ix vx hix;exact⟨vx',by simpa using q0,q2⟩
           rw[UJ (by rw[hold]; omega),hold] at hix
           obtain⟨vx',q0,q2⟩:=hnew.get hix;have hlt':=(Uq.1 q0).1;rw[Ui ⟨by omega,by omega,by simp; omega⟩]
           exact⟨vx',q0,q2⟩
          have s1:=BM h hj (by rw[hg]; rfl) hor
          refine⟨_,_,.slice (some ⟨k.c,0,none⟩) (len+n) cap',?_,s1,.sliceM (k:=⟨k.c,some (aB E.P elem,(len+n)*aB E.P elem,c.size)⟩) (aL.cm _ _ _) rfl rfl (by rw[<-c0]; exact e2) (Ua _) hfits⟩
          rw[hrun];refine jX (happ w rfl) hfits ?_;rw[lJ];have:=fY (P:=E.P) new' w c (0+len*aB E.P elem) 0 c1 (by rw[hnl]; omega) (nV hnew hone)
          simpa using this
          
          have hol':m.dQ b 0 (len*aB E.P elem)=some (cs.take (len*aB E.P elem)):=by
           simp only[Xq.dQ,hg,Wu];rw[Ui hol]
          obtain⟨old',g1,g0⟩:=h.dQ hj hol';obtain⟨c6,rest,w0,h0,⟨hle,hmx⟩,hlr,hrp,hr⟩:=kS (P:=E.P) (zeros:=zeros) (s:=.slice (some ⟨k.c,0,none⟩) len cap') (x:=x') (base:=some ⟨k.c,0,none⟩) (sLen:=len) (sCap:=cap') (old:=old') happ
           (fun w0 h0=>g1 w0 h0) hfits hi hz' hfit hb hzs' hzp (by rw[<-g0.1]; exact hol) hnl
          have sk:=G7 h hj;obtain⟨j',s1,s2⟩:=jw sk.mr h0 (elem:=elem) (g0.append hnew) (n:=len+n) (by rw[Uf,hol,hlen,UR]) hlr hle hsz hrp hmx
          exact⟨j',_,_,by rw[hrun]; exact hr,sk.trans h s1,s2⟩
        cases e
       cases e
      ·
       rename_i htag
       split at e
       ·rename_i old hold;cases e;have hkm:∀k:Blk,j b=some k->k.more=none:=by
         intro k hj;have:=h.kindOf hj hg;cases tag with
         | more sz=>exact Uy rfl (htag sz)
         | ro=>exact this
         | own=>exact this
        cases hs with
        | slice hj hm=>exact hexact _ hj hm _ hold rfl rfl
        | sliceM hj hm e1 e2 hl hc=>rw[hkm _ hj] at hm; cases hm
       cases e
    cases e
   ·
    rename_i b o
    split at e
    cases e
    ·rename_i h5;have hlc:len=0/\cap=0:=by omega
     obtain⟨rfl,rfl⟩:=hlc;cases hs with
     | dry =>
     rename_i a'
     split at e
     rename_i hn; subst hn; cases e;have:new'=[]:=Vv (by rw[hnl]; simp)
     subst this;refine⟨j,w,_,?_,.refl h,.dry (a':=a')⟩;rw[hrun];exact jX (happ w rfl) (by omega) rfl
     rename_i hn; cases e;obtain⟨cap',rest,w0,h0,⟨hle,hmx⟩,hlr,hrp,hr⟩:=kS (P:=E.P) (zeros:=zeros) (s:=.slice (some a') 0 0) (x:=x') (base:=some a') (sLen:=0) (sCap:=0) (old:=[]) happ
      (fun w0 _=>by simp[Builtin.firstCells,loadCells,loadCellsFrom]) (by omega) hi hz' (by simpa using hfit) hb hzs' hzp (by simp) hnl
     obtain⟨j',s1,s2⟩:=jw h h0 (elem:=elem) hnew hlen (by simpa using hlr) (by omega) hsz hrp hmx
     refine⟨j',_,_,by rw[hrun]; exact hr,by simpa using s1,by simpa using s2⟩
   ·split at e
    ·rename_i hnil hmem hdry h5;obtain⟨rfl,rfl,rfl⟩:=h5;cases e;have:new'=[]:=Vv (by rw[hnl]; simp)
     subst this;cases hs with
     | snil=>exact Uy rfl hnil
     | slice hj hm=>exact Uy rfl (hmem _ _)
     | sliceM hj hm e1 e2 hl hc=>exact Uy rfl (hmem _ _)
     | dry=>exact Uy rfl (hdry _ _)
     | gR =>
      rename_i a' cap';refine⟨j,w,_,?_,.refl h,.gR (a':=a') (cap':=cap')⟩;rw[hrun];exact jX (happ w rfl) (by omega) rfl
    cases e
 cases e
def G3 (h:MR E j m w) {t:WK} {d d' s s' v:WJ} {m':Xq} (e:tJ E.P t d s m=some (v,m')) (hd:VR j d d') (hs:VR j s s') {ts:XD WK} (h0:ts[0]? = some t) (ty:WK) :
  ∃w' v',(Builtin.copy_ ts ty #[d',s']).run E.P w=.ok v' w'/\Sim E j m w j m' w'/\VR j v v':=by
 unfold tJ at e
 split at e
 ·rename_i elem base dLen dCap sa sLen sCap hu;simp only at e
  split at e
  cases e
  ·rename_i hk;have hk':known E.P elem=true:=by simpa using hk
   split at e
   cases e
   ·rename_i cells hsrc
    split at e
    cases e
    ·rename_i hone;have hone':bt cells=true:=by simpa using hone
     obtain⟨cells',hc1,hc2⟩:=yI h hsrc hs;have hlen:∀w0:WO,(Builtin.lenOf s').run E.P w0=.ok sLen w0:=by
      intro w0;cases hs<;>rfl
     have hbase:∃base' dCap',d'=.slice base' dLen dCap'/\(∀b o,base=some ⟨b,o,none⟩->∃k:Blk,j b=some k/\base'=some ⟨k.c,o,none⟩):=by
      cases hd with
      | snil=>exact⟨_,_,rfl,fun b o e=>by cases e⟩
      | slice hj hm=>exact⟨_,_,rfl,fun b o e=>by cases e; exact⟨_,hj,rfl⟩⟩
      | sliceM hj hm e1 e2 hl hc=>exact⟨_,_,rfl,fun b o e=>by cases e; exact⟨_,hj,rfl⟩⟩
      | gR=>exact⟨_,_,rfl,fun b o e=>by cases e⟩
      | dry=>exact⟨_,_,rfl,fun b o e=>by cases e⟩
     obtain⟨base',dCap',rfl,hb⟩:=hbase;have hrun0:∀K:WJ->WO->Result WJ,True:=fun _=>trivial
     split at e
     rename_i hn;cases e;have hcl:cells=[]:=by
      unfold cu at hsrc
      split at hsrc<;>first |(split at hsrc<;>first |(cases hsrc; rfl) |(cases hsrc; done) |(rename_i hne; exact Uy hn hne)) |(cases hsrc; done)
     subst hcl;have:cells'=[]:=hc2.dw;subst this;refine⟨w,.int .i64 0,?_,.refl h,.int _ _⟩;have hmin:Nat.min sLen dLen=0:=hn;simp only[Builtin.copy_,h0,UE,UA,U2,XF,XH hu,XE,hlen,hmin,cE hk'];rw[hn] at hc1;simp only[hc1 w rfl,XE];cases base'<;>rfl
     ·rename_i b o n hn;cases hst:m.dz b o cells with
      | none=>rw[hst] at e; cases e
      | some m1 =>
       rw[hst] at e; cases e;obtain⟨k,hj,rfl⟩:=hb b o rfl;obtain⟨w',g1,g2⟩:=jb h hj hc2 hone' hst;refine⟨w',.int .i64 (n+1:Nat),?_,g2,.int _ _⟩;have hmin:Nat.min sLen dLen=n+1:=hn;simp only[Builtin.copy_,h0,UE,UA,U2,XF,XH hu,XE,hlen,hmin,cE hk'];rw[hn] at hc1;simp only[hc1 w rfl,XE,g1,XG,goInt]
     cases e
 cases e
def GO(h:MR E j m w){t:WK}{x x' v:WJ}{m':Xq}(e:BO E.P t x m=some (v,m'))(hx:VR j x x'){ts:XD WK}(h0:ts[0]? = some t)(ty:WK) :
  ∃w' v',(Builtin.clear_ ts ty #[x']).run E.P w=.ok v' w'/\Sim E j m w j m' w'/\VR j v v':=by
 unfold BO at e
 split at e
 rename_i elem a c hu;cases e;refine⟨w,.tuple #[],?_,.refl h,VR.undef j⟩;cases hx<;>simp only[Builtin.clear_,h0,UE,UA,XF,XH hu,XE]<;>rfl
 ·rename_i elem b o n c hnz hu
  split at e
  ·rename_i zs hz
   split at e
   ·rename_i hp;cases hst:m.dz b o zs with
    | none=>rw[hst] at e; cases e
    | some m1 =>
     rw[hst] at e; cases e;obtain⟨z,hz1,hz2,hz3⟩:=jo hz;have hone:bt zs=true:=by
      unfold bt;rw[Ux] at hp ⊢;intro v hv;have:=hp v hv;cases v<;>first|rfl |(simp[aM] at this)
     have hn0:n≠0:=fun e=>hnz e;have hzc:(Builtin.zeroCells z.cells n).toList=zs:=by rw[hz3]; exact lQ n
     have hgo:∀k:Blk,j b=some k->∃w',(storeCells ⟨k.c,o,none⟩ zs).run E.P w=.ok () w'/\Sim E j m w j m' w':=fun k hj=>jb h hj (LR.plain hp) hone hst;cases hx with
     | slice hj hm =>
      obtain⟨w',g1,g2⟩:=hgo _ hj;refine⟨w',.tuple #[],?_,g2,VR.undef j⟩;simp only[Builtin.clear_,h0,UE,UA,XF,XH hu,XE];cases n with
      | zero=>exact Uy rfl hn0
      | succ n=>simp only[iR hz1,XE,hzc,g1,XG]
     | sliceM hj hm e1 e2 hl hc =>
      obtain⟨w',g1,g2⟩:=hgo _ hj;refine⟨w',.tuple #[],?_,g2,VR.undef j⟩;simp only[Builtin.clear_,h0,UE,UA,XF,XH hu,XE];cases n with
      | zero=>exact Uy rfl hn0
      | succ n=>simp only[iR hz1,XE,hzc,g1,XG]
   cases e
  cases e
 cases e
def rf:∀(vs vs':XB WJ) (k:IntKind) (a:Int) (v:WJ),eD (fun x y=>if y>x then y else x) k a vs=some v->LR j vs vs'->∀w,(vs'.foldlM Builtin.max2 (.int k a)).run E.P w=.ok v w
 | [],vs',k,a,v,e,hl,w=>by rw[hl.dw]; cases e; rfl
 | x::vs,vs',k,a,v,e,hl,w=>by
  obtain⟨y,ys,rfl,h1,h2⟩:=hl.cons_inv;cases x<;>simp only[eD] at e<;>first |(cases e; done)|skip
  cases h1;simp only[List.foldlM_cons,Builtin.max2,XF,XG,XE];exact rf vs ys k _ v e h2 w
def qS:∀(vs vs':XB WJ) (k:IntKind) (a:Int) (v:WJ),eD (fun x y=>if y<x then y else x) k a vs=some v->LR j vs vs'->∀w,(vs'.foldlM Builtin.min2 (.int k a)).run E.P w=.ok v w
 | [],vs',k,a,v,e,hl,w=>by rw[hl.dw]; cases e; rfl
 | x::vs,vs',k,a,v,e,hl,w=>by
  obtain⟨y,ys,rfl,h1,h2⟩:=hl.cons_inv;cases x<;>simp only[eD] at e<;>first |(cases e; done)|skip
  cases h1;simp only[List.foldlM_cons,Builtin.min2,XF,XG,XE];exact qS vs ys k _ v e h2 w
def k6(f:Int->Int->Int):∀(vs:XB WJ) (k:IntKind) (a:Int) (v:WJ),eD f k a vs=some v->∃n,v=.int k n
 | [],k,a,v,e=>by cases e; exact⟨a,rfl⟩
 | x::vs,k,a,v,e=>by
  cases x<;>simp only[eD] at e<;>first |(cases e; done)|exact k6 f vs k _ v e
def ER.len:∀{a:XB (WJ×WJ)} {b:XB MapEntry},ER j a b->a.length=b.length
 | [],[],_=>rfl
 | _::_,_::_,h=>by simp[ER.len h.2.2]
 | [],_::_,h=>h.elim
 | _::_,[],h=>h.elim
def zZ (h:MR E j m w) {b:Builtin} {ts:XD WK} {args args':XB WJ} {v:WJ} {m':Xq} (e:bw E.P b ts args m=some (v,m')) (ha:LR j args args') (ty:WK) (cs:XD Bool) :
  (m'=m/\(∀m2:Xq,((b=.len\/b=.cap)->∀x b0,args=[x]->fT x=some b0->m2.get b0=m.get b0)->bw E.P b ts args m2=some (v,m2))/\∃v',(builtin b ts ty cs args'.toArray).run E.P w=.ok (.value v') w/\VR j v v') \/
  ((b=.append\/b=.copy\/b=.clear\/b=.delete)/\∃j' w' v',(builtin b ts ty cs args'.toArray).run E.P w=.ok (.value v') w'/\Sim E j m w j' m' w'/\VR j' v v'):=by
 unfold bw at e
 split at e
 ·
  rename_i x;obtain⟨x',l,rfl,hx,hl⟩:=ha.cons_inv;rw[hl.dw];refine .inl ?_;have k0:∀n:Int,(Builtin.len_ ts ty [x'].toArray).run E.P w=.ok (.int .i64 n) w->∃v',(builtin .len ts ty cs [x'].toArray).run E.P w=.ok (.value v') w/\VR j (.int .i64 n) v' :=
   fun n hr=>⟨_,by simp only[builtin,XF,hr,XE,XG],.int _ _⟩
  cases ht:ts[0]? with
  | none=>rw[ht] at e; simp at e
  | some t =>
   rw[ht] at e;simp only[UQ] at e
   split at e
   rename_i hu; cases e; cases hx;exact⟨rfl,fun m2 h0=>by simp only[bw,ht,UQ,hu],k0 _ (by simp only[Builtin.len_,ht,UE,UA,XF,XH hu,XE,XG,goInt])⟩
   rename_i hu; cases e;exact⟨rfl,fun m2 h0=>by simp only[bw,ht,UQ,hu],k0 _ (by simp only[Builtin.len_,ht,UE,UA,XF,XH hu,XE,XG,goInt])⟩
   rename_i a hu
   split at e
   rename_i h5; cases e;exact⟨rfl,fun m2 h0=>by simp only[bw,ht,UQ,hu,h5],k0 _ (by simp only[Builtin.len_,ht,UE,UA,XF,XH hu,XH h5,XE,XG,goInt])⟩
   cases e
   rename_i hu; cases e;cases hx<;>exact⟨rfl,fun m2 h0=>by simp only[bw,ht,UQ,hu],k0 _ (by simp only[Builtin.len_,ht,UE,UA,XF,XH hu,XE,XG,goInt])⟩
   ·rename_i hu;cases hes:mapOf m _ with
    | none=>rw[hes] at e; cases e
    | some es =>
     rw[hes] at e; cases e;unfold mapOf at hes
     split at hes
     cases hes; cases hx;exact⟨rfl,fun m2 h0=>by simp only[bw,ht,UQ,hu,mapOf,Uh],k0 _ (by simp only[Builtin.len_,ht,UE,UA,XF,XH hu,XE,XG,goInt]; rfl)⟩
     ·rename_i r
      split at hes
      ·rename_i e0 hg;cases hes;cases hx with
       | map hj =>
       obtain⟨es',clock,h1,h2⟩:=h.E7 hj hg;have hlen:es.length=es'.size:=by
        simpa using ER.len h2
       exact⟨rfl,fun m2 h0=>by simp only[bw,ht,UQ,hu,mapOf,h0 (.inl rfl) _ _ rfl rfl,hg,Uh],k0 _ (by simp only[Builtin.len_,ht,UE,UA,XF,XH hu,XE,run_getObj_map h1,XG,goInt,hlen])⟩
      cases hes
     cases hes
   cases e
 ·
  rename_i x;obtain⟨x',l,rfl,hx,hl⟩:=ha.cons_inv;rw[hl.dw];refine .inl ?_;have k0:∀n:Int,(Builtin.cap_ ts ty [x'].toArray).run E.P w=.ok (.int .i64 n) w->∃v',(builtin .cap ts ty cs [x'].toArray).run E.P w=.ok (.value v') w/\VR j (.int .i64 n) v' :=
   fun n hr=>⟨_,by simp only[builtin,XF,hr,XE,XG],.int _ _⟩
  cases ht:ts[0]? with
  | none=>rw[ht] at e; simp at e
  | some t =>
   rw[ht] at e;simp only[UQ] at e
   split at e
   rename_i hu; cases e; cases hx;exact⟨rfl,fun m2 h0=>by simp only[bw,ht,UQ,hu],k0 _ (by simp only[Builtin.cap_,ht,UE,UA,XF,XH hu,XE,XG,goInt])⟩
   ·rename_i b0 o l0 n hu
    split at e
    cases e
    ·rename_i c0 tag htag hg;cases e;cases hx with
     | slice hj hm =>
      refine⟨rfl,fun m2 h0=>?_,k0 _ (by simp only[Builtin.cap_,ht,UE,UA,XF,XH hu,XE,XG,goInt])⟩
      have h6:m2.get b0=some (.cells c0 tag):=(h0 (.inr rfl) _ _ rfl rfl).trans hg;simp only[bw,ht,UQ,hu,h6]
     | sliceM hj hm e1 e2 hl hc =>
      have:=h.kindOf hj hg;cases tag with
      | more sz=>exact Uy rfl (htag sz)
      | ro=>simp only at this; rw[hm] at this; cases this
      | own=>simp only at this; rw[hm] at this; cases this
    cases e
   cases e
 
 rename_i s x;obtain⟨s',l,rfl,hs,hl⟩:=ha.cons_inv;obtain⟨x',l',rfl,hx,hl'⟩:=hl.cons_inv;rw[hl'.dw]
 split at e
 rename_i t ht;obtain⟨j',w',v',h1,h2,h3⟩:=CG h e hs hx ht rfl ty;exact .inr ⟨by simp,j',w',v',by simp only[builtin,XF]; rw[h1]; rfl,h2,h3⟩
 cases e
 
 rename_i d s;obtain⟨d',l,rfl,hd,hl⟩:=ha.cons_inv;obtain⟨s',l',rfl,hs,hl'⟩:=hl.cons_inv;rw[hl'.dw]
 split at e
 rename_i t ht;obtain⟨w',v',h1,h2,h3⟩:=G3 h e hd hs ht ty;exact .inr ⟨by simp,j,w',v',by simp only[builtin,XF]; rw[h1]; rfl,h2,h3⟩
 cases e
 
 rename_i x;obtain⟨x',l,rfl,hx,hl⟩:=ha.cons_inv;rw[hl.dw]
 split at e
 rename_i t ht;obtain⟨w',v',h1,h2,h3⟩:=GO h e hx ht ty;exact .inr ⟨by simp,j,w',v',by simp only[builtin,XF]; rw[h1]; rfl,h2,h3⟩
 cases e
 ·
  rename_i x k;obtain⟨x',l,rfl,hx,hl⟩:=ha.cons_inv;obtain⟨k',l',rfl,hk,hl'⟩:=hl.cons_inv;rw[hl'.dw]
  split at e
  ·rename_i t ht;cases hd:sE E.P t x k m with
   | none=>rw[hd] at e; cases e
   | some m1 =>
    rw[hd] at e; cases e;obtain⟨w',h1,h2⟩:=Ds h hd hx hk ts ht ty;exact .inr ⟨by simp,j,w',.tuple #[],by simp only[builtin,XF]; rw[h1]; rfl,h2,VR.undef j⟩
  cases e
 ·
  rename_i k a vs;obtain⟨x',l,rfl,hx,hl⟩:=ha.cons_inv;cases hx;cases hf:eD (fun x y=>if y>x then y else x) k a vs with
  | none=>rw[hf] at e; cases e
  | some r =>
   rw[hf] at e; cases e;obtain⟨n,rfl⟩:=k6 _ _ _ _ _ hf;refine .inl ⟨rfl,fun m2 _=>by simp only[bw,hf,Uh],.int k n,?_,.int _ _⟩
   have:=rf (E:=E) vs l k a _ hf hl w;simp only[builtin,XF,Builtin.max_,this,XE,XG]
 ·
  rename_i k a vs;obtain⟨x',l,rfl,hx,hl⟩:=ha.cons_inv;cases hx;cases hf:eD (fun x y=>if y<x then y else x) k a vs with
  | none=>rw[hf] at e; cases e
  | some r =>
   rw[hf] at e; cases e;obtain⟨n,rfl⟩:=k6 _ _ _ _ _ hf;refine .inl ⟨rfl,fun m2 _=>by simp only[bw,hf,Uh],.int k n,?_,.int _ _⟩
   have:=qS (E:=E) vs l k a _ hf hl w;simp only[builtin,XF,Builtin.min_,this,XE,XG]
 cases e
end
section
variable{E:Env}{j:aL}{m:Xq}{w:WO}{t:Tm}{n:Nat}{a:Act}
def aJ(h:MR E j m w)(ht:TR n j t a.tmps){x:WM}{v:WJ}(e:aq E t x=some v):VR j v (a.eval x):=by
 unfold aq at e
 split at e
 cases e; exact ht.2 _
 split at e
 rename_i hp; cases e; exact VR.bG hp
 cases e
 split at e
 rename_i hg; cases e; exact .ptr (h.glob _ hg)
 cases e
 cases e; exact .func rfl (fun i a _=>by simp at a) rfl (fun i a _=>by simp at a)
def eF(h:MR E j m w)(ht:TR n j t a.tmps):∀{xs:XB WM} {vs:XB WJ},bu E t xs=some vs->LR j vs (xs.map a.eval)
 | [],vs,e=>by cases e; exact .nil j
 | x::xs,vs,e=>by
  simp only[bu] at e
  split at e
  rename_i v vs' h1 h2;cases e;exact .cons (aJ h ht h1) (eF h ht h2)
  cases e
def jJ(h:MR E j m w)(ht:TR n j t a.tmps):∀{xs:XB (Nat×WM)} {vs:XB (Nat×WJ)},dn E t xs=some vs ->
  vs.map (·.1)=(xs.map fun p=>(p.1,a.eval p.2)).map (·.1)/\LR j (vs.map (·.2)) ((xs.map fun p=>(p.1,a.eval p.2)).map (·.2))
 | [],vs,e=>by cases e; exact⟨rfl,.nil j⟩
 |(i,x)::xs,vs,e=>by
  simp only[dn] at e
  split at e
  rename_i v vs' h1 h2;cases e;obtain⟨h3,h4⟩:=jJ h ht h2;exact⟨by simpa using h3,.cons (aJ h ht h1) h4⟩
  cases e
def oi(h:MR E j m w)(ht:TR n j t a.tmps){x:XA WM}{v:XA WJ}(e:dC E t x=some v):OVR j v (x.map a.eval):=by
 cases x with
 | none=>cases e; exact .none
 | some x =>
  simp only[dC] at e;cases hv:aq E t x with
  | none=>rw[hv] at e; cases e
  | some v0=>rw[hv] at e; cases e; exact .some (aJ h ht hv)
def kg(P:WN)(s:Sem Next)(v:WJ)(w w':WO):Prop:=s.run P w=.ok (.value v) w'\/(s.run P w=.ok .skip w'/\v=undef)
def kg.value{P:WN}{s:Sem WJ}{v:WJ}{w w':WO}(h:s.run P w=.ok v w'):kg P (do pure (.value (<-s))) v w w' :=
 .inl (by simp only[XF,h,XE,XG])
def kg.unit{P:WN}{s:Sem XC}{w w':WO}(h:s.run P w=.ok () w'):kg P (do s; pure .skip) undef w w' :=
 .inr ⟨by simp only[XF,h,XE,XG],rfl⟩
def map_some{α β:Type}{f:α->β}{x:XA α}{y:β}(h:x.map f=some y):∃a,x=some a/\y=f a:=by
 cases x with
 | none=>cases h
 | some a=>cases h; exact⟨a,rfl,rfl⟩
def Bw{m2 m:Xq}{b o n:Nat}(h:m2.get b=m.get b):m2.dQ b o n=m.dQ b o n:=by simp only[Xq.dQ,h]
def zK{P:WN}{t:WK}{p:WJ}{m2 m:Xq}(h:∀b0,fT p=some b0->m2.get b0=m.get b0):dJ P t p m2=dJ P t p m:=by
 unfold dJ
 split
 rename_i b o;have hb:=h b rfl;simp only[Bw hb,hb]
 rfl
def yT{P:WN}{t:WK}{p:WJ}{l hh k:XA WJ}{m2 m:Xq}(h:∀b0,fT p=some b0->m2.get b0=m.get b0):cP P t p l hh k m2=cP P t p l hh k m:=by
 unfold cP
 split
 rfl
 rename_i b o len cap _;simp only[h b rfl]
 rfl
 rename_i b o _;simp only[h b rfl]
 rfl
def uV{P:WN}{t:WK}{p q:WJ}{ok:Bool}{m2 m:Xq}(h:∀b0,fT p=some b0->m2.get b0=m.get b0):dX P t p q ok m2=dX P t p q ok m:=by
 have:mapOf m2 p=mapOf m p:=by
  unfold mapOf
  split
  rfl
  rename_i r; simp only[h r rfl]
  rfl
 unfold dX;simp only[this]
def MT(E:Env)(j:aL)(m:Xq)(w:WO)(t:Tm)(a:Act)(o:Oper)(v:WJ)(m':Xq):Prop :=
 m'=m/\(∀m2:Xq,(∀b0,aU E t o.op=some b0->m2.get b0=m.get b0)->cQ E t m2 o.op=some (v,m2))/\∃v',kg E.P (execOp a.eval o) v' w w/\VR j v v'
def Rb(E:Env)(j:aL)(m:Xq)(w:WO)(t:Tm)(a:Act)(o:Oper)(v:WJ)(m':Xq):Prop :=
 ∃(ao:Xs) (co:Obj) (vb:Nat->WJ) (v':WJ),v=vb m.next/\m'=m.alloc ao/\kg E.P (execOp a.eval o) v' w (w.alloc co)/\OR j ⟨w.heap.size,none⟩ ao co /\
  (∀(j':aL) (b:Nat),j' b=some ⟨w.heap.size,none⟩->VR j' (vb b) v')/\∀m2:Xq,cQ E t m2 o.op=some (vb m2.next,m2.alloc ao)
def ym(h:MR E j m w)(ht:TR n j t a.tmps){o:Oper}{v:WJ}{m':Xq}(e:cQ E t m o.op=some (v,m')) :
  MT E j m w t a o v m'\/Rb E j m w t a o v m'\/(aE o.op=true/\∃j' w' v',kg E.P (execOp a.eval o) v' w w'/\Sim E j m w j' m' w'/\VR j' v v'):=by
 have hpure:∀{s:Sem WJ} {f:Xq->XA WJ} {v0:WJ} {m0:Xq},(∀m2:Xq,cQ E t m2 o.op=(f m2).map fun v=>(v,m2))->(∀m2:Xq,(∀b0,aU E t o.op=some b0->m2.get b0=m.get b0)->f m2=f m) ->
   (∀v1,f m=some v1->∃v',s.run E.P w=.ok v' w/\VR j v1 v')->(f m).map (fun v=>(v,m))=some (v0,m0)->execOp a.eval o=(do pure (.value (<-s))) ->
   MT E j m w t a o v0 m0:=by
  intro s f v0 m0 hf hf2 h1 h2 hx;obtain⟨v1,hr,he⟩:=map_some h2;cases he;obtain⟨v',h3,h4⟩:=h1 _ hr;exact⟨rfl,fun m2 hm2=>by rw[hf,hf2 m2 hm2,hr]; rfl,v',by rw[hx]; exact .value h3,h4⟩
 cases hop:o.op<;>rw[hop] at e<;>simp only[cQ] at e<;>try(cases e; done)
 case move x =>
  refine .inl ⟨(by obtain⟨v1,hv,he⟩:=map_some e; cases he; rfl),fun m2 _=>?_,?_⟩
  rw[hop]; obtain⟨v1,hv,he⟩:=map_some e; cases he;simp only[cQ,hv,Uh]
  obtain⟨v1,hv,he⟩:=map_some e;cases he;exact⟨_,.inl (by simp only[execOp,hop]; rfl),aJ h ht hv⟩
 case assign x =>
  refine .inl ⟨(by obtain⟨v1,hv,he⟩:=map_some e; cases he; rfl),fun m2 _=>?_,?_⟩
  rw[hop]; obtain⟨v1,hv,he⟩:=map_some e; cases he;simp only[cQ,hv,Uh]
  obtain⟨v1,hv,he⟩:=map_some e;cases he;exact⟨_,.inl (by simp only[execOp,hop]; rfl),aJ h ht hv⟩
 case pick c x y =>
  have hx:execOp a.eval o=(do pure (.value (if <-asBool (a.eval c) then a.eval x else a.eval y))):=by simp only[execOp,hop]
  refine .inl ?_
  split at e
  rename_i hc;obtain⟨v1,hv,he⟩:=map_some e;cases he;have hb:=aJ h ht hc;refine⟨rfl,fun m2 _=>by rw[hop]; simp only[cQ,hc,hv,Uh],a.eval x,?_,aJ h ht hv⟩
  rw[hx];generalize a.eval c=cv at hb;cases hb;exact .inl rfl
  rename_i hc;obtain⟨v1,hv,he⟩:=map_some e;cases he;have hb:=aJ h ht hc;refine⟨rfl,fun m2 _=>by rw[hop]; simp only[cQ,hc,hv,Uh],a.eval y,?_,aJ h ht hv⟩
  rw[hx];generalize a.eval c=cv at hb;cases hb;exact .inl rfl
  cases e
 case alloc elem =>
  have hx:execOp a.eval o=(do pure (.value (<-Instr.alloc elem true (.tuple #[])))):=by simp only[execOp,hop]
  split at e
  rename_i z hz
  split at e
  rename_i hp;cases e;refine .inr (.inl ⟨_,.cells z.cells elem,fun b=>ptr b 0,.pointer (some ⟨w.heap.size,0,none⟩),rfl,rfl,?_,OR.own (gO (VR.bG hp)),fun j' b hb=>.ptr hb,fun m2=>by rw[hop]; simp only[cQ,hz,hp,if_true]⟩)
  rw[hx];refine .value ?_;simp only[Instr.alloc,XF,iR hz,XE,newVar,newRow,run_newObj,XG,World.alloc_eq]
  cases e
  cases e
 case box elem x =>
  have hx:execOp a.eval o=(do pure (.value (<-Instr.box elem (a.eval x)))):=by simp only[execOp,hop]
  obtain⟨v1,hv,he⟩:=map_some e;cases he;refine .inr (.inl ⟨_,.cells (a.eval x).cells elem,fun b=>ptr b 0,.pointer (some ⟨w.heap.size,0,none⟩),rfl,rfl,?_,OR.own (gO (aJ h ht hv)),fun j' b hb=>.ptr hb,fun m2=>by rw[hop]; simp only[cQ,hv,Uh]⟩)
  rw[hx];refine .value ?_;simp only[Instr.box,XF,newVar,newRow,run_newObj,XE,XG,World.alloc_eq]
 case build ty parts =>
  have hx:execOp a.eval o=(do pure (.value (<-Instr.build ty (parts.map fun(i,x)=>(i,a.eval x))))):=by simp only[execOp,hop]
  split at e
  rename_i ps z hps hz
  split at e
  rename_i hp;obtain⟨h1,h2⟩:=jJ h ht hps;refine .inl (hpure (f:=fun _=>kh E.P ty ps) (fun m2=>by rw[hop]; simp only[cQ,hps,hz,Ui hp]) (fun _ _=>rfl) (fun v1 hv1=>?_) e hx)
  obtain⟨v',h3,h4⟩:=GN hv1 h1 h2 hz hp;refine⟨v',?_,h4⟩;have:(parts.map fun(i,x)=>(i,a.eval x))=(parts.toList.map fun p=>(p.1,a.eval p.2)).toArray:=by
   apply U4.1; simp
  rw[this]; exact h3 w
  cases e
  cases e
 case buildSlice ty len parts =>
  have hx:execOp a.eval o=(do pure (.value (<-Instr.buildSlice ty len (parts.map fun(i,x)=>(i,a.eval x))))):=by simp only[execOp,hop]
  split at e
  rename_i elem ps hu hps
  split at e
  cases e
  rename_i hc;simp only[VH,U7,UL,not_or,Bool.not_eq_false] at hc;obtain⟨hk,hbig⟩:=hc
  split at e
  rename_i zs hz
  split at e
  rename_i hp;obtain⟨cs,hcs,he⟩:=map_some e;cases he;obtain⟨h1,h2⟩:=jJ h ht hps;obtain⟨z,hz1,hz2,hz3⟩:=jo hz;obtain⟨cs',h3,h4⟩:=o7 h1 h2 (LR.plain (j:=j) hp) hcs;have hparts:(parts.map fun(i,x)=>(i,a.eval x)).toList=parts.toList.map fun p=>(p.1,a.eval p.2):=by simp
  refine .inr (.inl ⟨_,.cells cs'.toArray elem,fun b=>.slice (some ⟨b,0,none⟩) len len,.slice (some ⟨w.heap.size,0,none⟩) len len,rfl,rfl,?_,OR.own (by simpa using h4),fun j' b hb=>.slice hb rfl,fun m2=>by rw[hop]; simp only[cQ,hu,hps,hk,hz,hp,hcs,Um hbig,Uj,Bool.or_self,Uu,if_true,if_false,Uh]⟩)
  rw[hx];refine .value ?_;have hc0:len*aB E.P elem=0->((Array.range (len*aB E.P elem)).map fun i=>(#[]:XD WJ)[i%(#[]:XD WJ).size]!)=zs.toArray:=by
   intro h0;apply U4.1;have:zs=[]:=by apply Vv; rw[hz3,fU,Wh,hz2,h0]
   simp[h0,this]
  have hc1:((Array.range (len*aB E.P elem)).map fun i=>z.cells[i%z.cells.size]!)=zs.toArray:=by
   apply U4.1;rw[hz3,<-hz2]; exact lQ len
  simp only[Instr.buildSlice,XF,XH hu,XE,cE hk,Sem.run_ite,Uk hbig,hparts]
  split
  rename_i h0;simp only[XG,XE,hc0 h0,h3,newRow,XF,run_newObj,World.alloc_eq]
  simp only[XF,iR hz1,XG,XE,hc1,h3,newRow,run_newObj,World.alloc_eq]
  cases e
  cases e
  cases e
 case load ty x =>
  have hx:execOp a.eval o=(do pure (.value (<-Instr.loadAt ty (a.eval x)))):=by simp only[execOp,hop]
  split at e
  rename_i p hp;refine .inl (hpure (f:=fun m2=>dJ E.P ty p m2) (fun m2=>by rw[hop]; simp only[cQ,hp]) (fun m2 hm2=>?_) (fun v1 hv1=>Bt h hv1 (aJ h ht hp)) e hx)
  rw[hop] at hm2;simp only[aU,hp,UQ] at hm2;exact zK hm2
  cases e
 case store ty x y =>
  have hx:execOp a.eval o=(do Instr.storeAt ty (a.eval x) (a.eval y); pure .skip):=by simp only[execOp,hop]
  rw[hx]
  split at e
  rename_i p v0 hp hv0;obtain⟨m1,hm1,he⟩:=map_some e;cases he;obtain⟨w',h1,h2⟩:=FV h hm1 (aJ h ht hp) (aJ h ht hv0);exact .inr (.inr ⟨rfl,j,w',undef,.unit h1,h2,VR.undef j⟩)
  cases e
 case nilCheck x =>
  split at e
  rename_i ad hp;cases e;have hv:=aJ h ht hp;refine .inl ⟨rfl,fun m2 _=>by rw[hop]; simp only[cQ,hp],a.eval x,.inl ?_,hv⟩
  generalize hxv:a.eval x=xv at hv;cases hv;simp only[execOp,hop,hxv,XG]
  rename_i f fs cs hp;cases e;have hv:=aJ h ht hp;refine .inl ⟨rfl,fun m2 _=>by rw[hop]; simp only[cQ,hp],a.eval x,.inl ?_,hv⟩
  generalize hxv:a.eval x=xv at hv;cases hv;simp only[execOp,hop,hxv,XG]
  rename_i f fs cs hp;cases e;have hv:=aJ h ht hp;refine .inl ⟨rfl,fun m2 _=>by rw[hop]; simp only[cQ,hp],a.eval x,.inl ?_,hv⟩
  generalize hxv:a.eval x=xv at hv;cases hv;simp only[execOp,hop,hxv,XG]
  cases e
 case binOp op xt x y yt =>
  have hx:execOp a.eval o=(do pure (.value (<-(do eqGuard op xt x y (a.eval x) (a.eval y); binOp op xt (a.eval x) (a.eval y))))):=by simp only[execOp,hop]
  split at e
  rename_i p q hp hq;refine .inl (hpure (f:=fun _=>bf op xt E.P p q) (fun m2=>by rw[hop]; simp only[cQ,hp,hq]) (fun _ _=>rfl) (fun v1 hv1=>?_) e hx)
  obtain⟨v',h1,h2⟩:=K0 hv1 (aJ h ht hp) (aJ h ht hq) x y;exact⟨v',h1 w,h2⟩
  cases e
 case unOp op xt x =>
  have hx:execOp a.eval o=(do pure (.value (<-Op.unary op (a.eval x)))):=by simp only[execOp,hop]
  split at e
  rename_i p hp;refine .inl (hpure (f:=fun _=>Cm op p) (fun m2=>by rw[hop]; simp only[cQ,hp]) (fun _ _=>rfl) (fun v1 hv1=>?_) e hx)
  obtain⟨v',h1,h2⟩:=Pr (P:=E.P) hv1 (aJ h ht hp);exact⟨v',h1 w,h2⟩
  cases e
 case convert s d x =>
  have hx:execOp a.eval o=(do pure (.value (<-convert s d (a.eval x)))):=by simp only[execOp,hop]
  split at e
  rename_i p hp;refine .inl (hpure (f:=fun _=>fL E.P s d p) (fun m2=>by rw[hop]; simp only[cQ,hp]) (fun _ _=>rfl) (fun v1 hv1=>?_) e hx)
  obtain⟨v',h1,h2⟩:=IQ hv1 (aJ h ht hp);exact⟨v',h1 w,h2⟩
  cases e
 case makeFunc fn first captured =>
  cases fn<;>simp only at e<;>try(cases e; done)
  rename_i f;have hx:execOp a.eval o=(do pure (.value (<-Instr.makeFunc (.func f) (first.map a.eval) (captured.map a.eval)))):=by simp only[execOp,hop]
  split at e
  rename_i fs cs h1 h2;cases e;have h3:=eF h ht h1;have h4:=eF h ht h2;have h3':LR j fs.toArray.toList (first.map a.eval).toList:=by simpa using h3
  have h4':LR j cs.toArray.toList (captured.map a.eval).toList:=by simpa using h4
  refine .inl ⟨rfl,fun m2 _=>by rw[hop]; simp only[cQ,h1,h2],_,?_,.func h3'.size h3'.arr h4'.size h4'.arr⟩
  rw[hx]; exact .value rfl
  cases e
 case makeMap ty r =>
  cases r with
  | some _=>simp at e
  | none =>
   simp only at e;cases e;have hx:execOp a.eval o=(do pure (.value (<-Instr.makeMap ty none))):=by simp only[execOp,hop]; rfl
   refine .inr (.inl ⟨.map [],.map #[] 0,fun b=>.map (some b),.map (some w.heap.size),rfl,rfl,?_,⟨trivial,FP _⟩,fun j' b hb=>.map hb,fun m2=>by rw[hop]; rfl⟩)
   rw[hx];refine .value ?_;simp only[Instr.makeMap,XF,run_newObj,XE,XG,World.alloc_eq]
 case makeSlice ty l c =>
  have hx:execOp a.eval o=(do pure (.value (<-Instr.makeSlice ty (a.eval l) (a.eval c)))):=by simp only[execOp,hop]
  split at e
  rename_i elem li ci hu hl hc
  split at e
  rename_i hcond;have hcond0:=hcond;obtain⟨h0l,hlc,hany,hk⟩:=hcond;simp only[Option.any_eq_true,T7,UL,bne_iff_ne,ne_eq] at hany;obtain⟨i,hi,hby,hb0⟩:=hany
  split at e
  rename_i zs hz
  split at e
  rename_i hp;cases e;obtain⟨z,hz1,hz2,hz3⟩:=jo hz;have hlv:=aJ h ht hl;have hcv:=aJ h ht hc;refine .inr (.inl ⟨_,.cells zs.toArray elem,fun b=>.slice (some ⟨b,0,none⟩) li.toNat ci.toNat,.slice (some ⟨w.heap.size,0,none⟩) li.toNat ci.toNat,rfl,rfl,?_,OR.own (LR.plain hp),fun j' b hb=>.slice hb rfl,fun m2=>by rw[hop]; simp only[cQ,hu,hl,hc]; rw[Ui hcond0]; simp only[hz,hp,if_true]⟩)
  rw[hx];refine .value ?_;generalize a.eval l=lv at hlv;generalize a.eval c=cv at hcv;cases hlv; cases hcv;have hci:ci<=2 ^ 40:=by
   have h1:(1:Int)<=(i.bytes:Int):=by exact_mod_cast Nat.one_le_iff_ne_zero.2 hb0
   have:1*ci<=(i.bytes:Int)*ci:=Int.mul_le_mul_of_nonneg_right h1 (by omega)
   omega
  have hwl:IntKind.i64.wrap li=li:=IntWalk.i64_in li (by omega)
  have hwc:IntKind.i64.wrap ci=ci:=IntWalk.i64_in ci (by omega)
  have hneg:¬(((ci<0 ||(i.bytes:Int)*ci>2 ^ 48)||li<0||li>ci)=true):=by
   simp only[VH,UL,not_or];omega
  have hc0:ci.toNat*aB E.P elem=0->((Array.range (ci.toNat*aB E.P elem)).map fun i=>(#[]:XD WJ)[i%(#[]:XD WJ).size]!)=zs.toArray:=by
   intro h0;apply U4.1;have:zs=[]:=by apply Vv; rw[hz3,fU,Wh,hz2,h0]
   simp[h0,this]
  have hc1:((Array.range (ci.toNat*aB E.P elem)).map fun i=>z.cells[i%z.cells.size]!)=zs.toArray:=by
   apply U4.1;rw[hz3,<-hz2]; exact lQ ci.toNat
  simp only[Instr.makeSlice,XF,XH hu,XE,asInt,asIntOf,XG,tO hi,hwl,hwc,Sem.run_ite,Uk hneg,run_askRoom,cE hk]
  split
  rename_i h0;simp only[XG,XE,hc0 h0,newRow,XF,run_newObj,World.alloc_eq]
  simp only[XF,iR hz1,XG,XE,hc1,newRow,run_newObj,World.alloc_eq]
  cases e
  cases e
  cases e
  cases e
 case slice ty x lo hi mx =>
  have hx:execOp a.eval o=(do pure (.value (<-Instr.sliceAt ty (a.eval x) (lo.map a.eval) (hi.map a.eval) (mx.map a.eval)))):=by simp only[execOp,hop]
  split at e
  rename_i p l hh k hp h1 h2 h3;refine .inl (hpure (f:=fun m2=>cP E.P ty p l hh k m2) (fun m2=>by rw[hop]; simp only[cQ,hp,h1,h2,h3]) (fun m2 hm2=>?_) (fun v1 hv1=>?_) e hx)
  rw[hop] at hm2;simp only[aU,hp,UQ] at hm2;exact yT hm2
  obtain⟨v',g1,g2⟩:=Gh h hv1 (aJ h ht hp) (oi h ht h1) (oi h ht h2) (oi h ht h3);exact⟨v',g1 w,g2⟩
  cases e
 case fieldAddr s x f =>
  have hx:execOp a.eval o=(do pure (.value (<-Instr.fieldAt s (a.eval x) f))):=by simp only[execOp,hop]
  split at e
  rename_i p hp;refine .inl (hpure (f:=fun _=>aR E.P s p f) (fun m2=>by rw[hop]; simp only[cQ,hp]) (fun _ _=>rfl) (fun v1 hv1=>?_) e hx)
  obtain⟨v',g1,g2⟩:=uY hv1 (aJ h ht hp);exact⟨v',g1 w,g2⟩
  cases e
 case field ty x f =>
  have hx:execOp a.eval o=(do pure (.value (<-Instr.field ty (a.eval x) f))):=by simp only[execOp,hop]
  split at e
  rename_i p hp;refine .inl (hpure (f:=fun _=>eY E.P ty p f) (fun m2=>by rw[hop]; simp only[cQ,hp]) (fun _ _=>rfl) (fun v1 hv1=>?_) e hx)
  obtain⟨v',g1,g2⟩:=Gr hv1 (aJ h ht hp);exact⟨v',g1 w,g2⟩
  cases e
 case sliceToArrayPointer ty x =>
  have hx:execOp a.eval o=(do pure (.value (<-Instr.arrayAt ty (a.eval x)))):=by simp only[execOp,hop]
  split at e
  rename_i p hp;refine .inl (hpure (f:=fun _=>Fb E.P ty p) (fun m2=>by rw[hop]; simp only[cQ,hp]) (fun _ _=>rfl) (fun v1 hv1=>?_) e hx)
  obtain⟨v',g1,g2⟩:=Jj hv1 (aJ h ht hp);exact⟨v',g1 w,g2⟩
  cases e
 case indexAddr ty x i =>
  have hx:execOp a.eval o=(do pure (.value (<-Instr.indexAt ty (a.eval x) (a.eval i)))):=by simp only[execOp,hop]
  split at e
  rename_i p q hp hq;refine .inl (hpure (f:=fun _=>bQ E.P ty p q) (fun m2=>by rw[hop]; simp only[cQ,hp,hq]) (fun _ _=>rfl) (fun v1 hv1=>?_) e hx)
  obtain⟨v',g1,g2⟩:=vd hv1 (aJ h ht hp) (aJ h ht hq);exact⟨v',g1 w,g2⟩
  cases e
 case index ty x i =>
  have hx:execOp a.eval o=(do pure (.value (<-Instr.index ty (a.eval x) (a.eval i)))):=by simp only[execOp,hop]
  split at e
  rename_i p q hp hq;refine .inl (hpure (f:=fun _=>fe E.P ty p q) (fun m2=>by rw[hop]; simp only[cQ,hp,hq]) (fun _ _=>rfl) (fun v1 hv1=>?_) e hx)
  obtain⟨v',g1,g2⟩:=Ge hv1 (aJ h ht hp) (aJ h ht hq);exact⟨v',g1 w,g2⟩
  cases e
 case lookup ty x i ok =>
  have hx:execOp a.eval o=(do pure (.value (<-Instr.lookup ty (a.eval x) (a.eval i) ok))):=by simp only[execOp,hop]
  split at e
  rename_i p q hp hq;refine .inl (hpure (f:=fun m2=>dX E.P ty p q ok m2) (fun m2=>by rw[hop]; simp only[cQ,hp,hq]) (fun m2 hm2=>?_) (fun v1 hv1=>C8 h hv1 (aJ h ht hp) (aJ h ht hq)) e hx)
  rw[hop] at hm2;simp only[aU,hp,UQ] at hm2;exact uV hm2
  cases e
 case mapUpdate ty x k y =>
  have hx:execOp a.eval o=(do Instr.mapUpdate ty (a.eval x) (a.eval k) (a.eval y); pure .skip):=by simp only[execOp,hop]
  rw[hx]
  split at e
  rename_i p q r hp hq hr;obtain⟨m1,hm1,he⟩:=map_some e;cases he;obtain⟨w',h1,h2⟩:=nR h hm1 (aJ h ht hp) (aJ h ht hq) (aJ h ht hr);exact .inr (.inr ⟨rfl,j,w',undef,.unit h1,h2,VR.undef j⟩)
  cases e
 case insert ty x k y =>
  have hx:execOp a.eval o=(do Instr.mapUpdate ty (a.eval x) (a.eval k) (a.eval y); pure .skip):=by simp only[execOp,hop]
  rw[hx]
  split at e
  rename_i p q r hp hq hr;obtain⟨m1,hm1,he⟩:=map_some e;cases he;obtain⟨w',h1,h2⟩:=nR h hm1 (aJ h ht hp) (aJ h ht hq) (aJ h ht hr);exact .inr (.inr ⟨rfl,j,w',undef,.unit h1,h2,VR.undef j⟩)
  cases e
 case extract x i =>
  have hx:execOp a.eval o=(do pure (.value (<-Instr.extract (a.eval x) i))):=by simp only[execOp,hop]
  split at e
  ·rename_i vs hp;refine .inl (hpure (f:=fun _=>vs[i]?) (fun m2=>by rw[hop]; simp only[cQ,hp]) (fun _ _=>rfl) (fun v1 hv1=>?_) e hx)
   have hv:=aJ h ht hp;generalize a.eval x=xv at hv;cases hv with
   | tuple h1 h2 =>
   rename_i ys;obtain⟨v',g1,g2⟩:=(LR.fa h1 h2).get (show vs.toList[i]? = some v1 by simpa using hv1)
   refine⟨v',?_,g2⟩;have g1':ys[i]? = some v':=by simpa using g1
   simp only[Instr.extract,g1',XG]
  cases e
 case call c =>
  split at e
  rename_i b hb
  split at e
  rename_i vs hvs;have hx:execOp a.eval o=(do let d <-resolve a.eval c o.type; invoke d.target d.args):=by simp only[execOp,hop]
  have hargs:c.args.map a.eval=(c.args.toList.map a.eval).toArray:=by apply U4.1; simp
  have hrun:∃cs,(execOp a.eval o).run E.P w=(builtin b c.argTypes o.type cs (c.args.toList.map a.eval).toArray).run E.P w :=
   ⟨_,by rw[hx]; simp only[resolve,hb,XF,XG,XE,invoke,hargs]; rfl⟩
  obtain⟨cs,hrun⟩:=hrun;rcases zZ h e (eF h ht hvs) o.type cs with⟨rfl,hm,v',h1,h2⟩|⟨hbb,j',w',v',h1,h2,h3⟩
  refine .inl ⟨rfl,fun m2 hm2=>?_,v',.inl (hrun.trans h1),h2⟩;rw[hop] at hm2 ⊢;simp only[cQ,hb,hvs];refine hm m2 fun hlc x b0 hx1 hx2=>hm2 b0 ?_;subst hx1;rcases hlc with rfl|rfl<;>simp only[aU,hb,hvs,hx2]
  refine .inr (.inr ⟨?_,j',w',v',.inl (hrun.trans h1),h2,h3⟩);rcases hbb with rfl|rfl|rfl|rfl<;>simp only[aE,hb]
  cases e
  cases e
def Iu(h:MR E j m w)(ht:TR n j t a.tmps){o:Oper}{v:WJ}{m':Xq}(e:cQ E t m o.op=some (v,m')) :
  ∃j' w' v',kg E.P (execOp a.eval o) v' w w'/\Sim E j m w j' m' w'/\VR j' v v':=by
 rcases ym h ht e with⟨rfl,_,v',h1,h2⟩|⟨ao,co,vb,v',rfl,rfl,h1,h2,h3,_⟩|⟨_,h1⟩
 exact⟨j,w,v',h1,.refl h,h2⟩
 exact⟨_,_,v',h1,mW h h2,h3 _ _ (aL.cm _ _ _)⟩
 exact h1
end
def JE:Xr->Exit
 | .normal=>.normal
 | .exit id=>.exit id
 | .ret=>.ret
def j6(F:Fence):Prop:=F=Fence.wide\/∃l,F=Fence.wide.inRound l
def j6.fn{F:Fence}(h:j6 F)(f:XI):F.fn f:=by
 rcases h with rfl|⟨l,rfl⟩<;>trivial
def j6.room{F:Fence}(h:j6 F)(n:Nat):F.room n:=by
 rcases h with rfl|⟨l,rfl⟩<;>intro d hd<;>simp[Fence.wide] at hd
def j6.depth{F:Fence}(h:j6 F){n:Nat}:F.depth.isSome=true->1<=n:=by
 rcases h with rfl|⟨l,rfl⟩<;>intro hd<;>simp[Fence.wide] at hd
def j6.calls{F:Fence}(h:j6 F){n:Nat}{P:WN}{f:XI}{args:XD WJ}{w:WO}{R:Ending->WO->Prop}(hc:CallsIn Fence.wide n P f args w R):CallsIn F n P f args w R:=by
 rcases h with rfl|⟨l,rfl⟩
 exact hc
 exact hc
def j6.KG{F:Fence}(h:j6 F){n:Nat}{P:WN}{l:Nat}{f:XI}{tmps:XD WJ}{x y:Code}{w:WO}{R:Ending->WO->Prop}(hc:RoundIn Fence.wide n P l f tmps x y w R):RoundIn F n P l f tmps x y w R:=by
 rcases h with rfl|⟨l,rfl⟩
 exact hc
 exact hc
def kl(j:aL)(r:XA Nat)(F:Fence):Prop :=
 match r with
 | none=>F=Fence.wide
 | some l=>∃k,j l=some k/\F=Fence.wide.inRound k.c
def kl.wide{j:aL}{r:XA Nat}{F:Fence}(h:kl j r F):j6 F:=by
 cases r with
 | none=>exact .inl h
 | some l=>obtain⟨k,_,rfl⟩:=h; exact .inr ⟨_,rfl⟩
def kl.mono{j j':aL}(hj:j.le j'){r:XA Nat}{F:Fence}(h:kl j r F):kl j' r F:=by
 cases r with
 | none=>exact h
 | some l=>obtain⟨k,h1,rfl⟩:=h; exact⟨k,hj _ _ h1,rfl⟩
def ti(r:Nat):Deferred:={ target:=.collected r,args:=#[]}
def Marks(N:Nat)(w:WO)(ds:XB Deferred):Prop:=∃rs:XB Nat,rs.Nodup/\ds=rs.map ti/\∀r∈rs,N<=r/\w.heap[r]? = some (.deferred (some []))
def Marks.nil(N:Nat)(w:WO):Marks N w []:=⟨[],List.nodup_nil,rfl,fun r h=>by simp at h⟩
def A8{E:Env}{j:aL}{m:Xq}{w:WO}(h:MR E j m w){r:Nat}(hr:w.heap[r]? = some (.deferred (some []))):∀b k,j b=some k->(m.get b).isSome=true->k.c≠r:=by
 intro b k hb hl he;cases hg:m.get b with
 | none=>rw[hg] at hl; cases hl
 | some o =>
  obtain⟨o',h1,h2⟩:=h.obj b o k hg hb;rw[he,hr] at h1;cases h1;cases o<;>exact h2.elim
def Marks.GX{E:Env}{j j':aL}{m m':Xq}{w w':WO}(h:MR E j m w)(s:Sim E j m w j' m' w'){N:Nat}{ds:XB Deferred}(hm:Marks N w ds):Marks N w' ds:=by
 obtain⟨rs,h1,h2,h3⟩:=hm;refine⟨rs,h1,h2,fun r hr=>⟨(h3 r hr).1,?_⟩⟩;have hh:=(h3 r hr).2;rw[s.frame r (Ut.1 hh).1 fun b k hb hl he=>Uy he (A8 h hh b k hb hl)];exact hh
def k8(E:Env)(j:aL)(m:Xq)(w:WO)(N n:Nat)(e:Xr)(t:Tm)(m':Xq):Exit->Act->WO->Prop:=fun e' a' w' =>
 e'=JE e/\∃j',Sim E j m w j' m' w'/\TR n j' t a'.tmps/\Marks N w' a'.defers
def DS(E:Env)(cs:Nat->WN->Fence->(Exit->Act->WO->Prop)->Act->WO->Prop)(fr:Fr)(m:Xq)(r:Res):Prop :=
 ∃e t m',r=.code e t m'/\∀(j:aL) (w:WO) (a:Act) (F:Fence) (N:Nat),MR E j m w->TR fr.n j fr.tmps a.tmps->kl j fr.round F->Marks N w a.defers->N<=w.heap.size ->
  cs 0 E.P F (k8 E j m w N fr.n e t m') a w
def dT(P:WN)(pr:Bool)(f:XI)(args:XD WJ)(w:WO)(R:WJ->WO->Prop):Prop :=
 ((callFunc f args).run P w=.ok (.enter f args) w/\CallsIn Fence.wide 0 P f args w (fun e w'=>∃v,e=.returned v/\R v w')) \/
  (pr=true/\∃v w',(callFunc f args).run P w=.ok (.value v) w'/\R v w')
def fH(E:Env)(j:aL)(m:Xq)(w:WO)(v:WJ)(m':Xq):WJ->WO->Prop:=fun v' w'=>∃j',Sim E j m w j' m' w'/\VR j' v v'
def MF(E:Env)(f:XI)(args:XB WJ)(m:Xq)(r:Res):Prop :=
 ∃v m',r=.val v m'/\∀(j:aL) (w:WO) (args':XB WJ),MR E j m w->LR j args args'->dT E.P (E.cT f).isSome f args'.toArray w (fH E j m w v m')
def Ig(E:Env)(l:Nat)(args:XB WJ)(m:Xq)(r:Res):Prop :=
 ∃v m',r=.val v m'/\∀(j:aL) (w:WO) (k:Blk) (args':XB WJ),MR E j m w->j l=some k->LR j args args' ->
  ∃fn tmps assign body,(Instr.yield k.c args'.toArray).run E.P w=.ok (.round k.c fn tmps assign body) w /\
   RoundIn Fence.wide 0 E.P k.c fn tmps assign body w (fun e w'=>∃v',e=.returned v'/\fH E j m w v m' v' w')
def ou(F:Fence)(n:Nat)(P:WN)(c:Code)(Q:Exit->Act->WO->Prop)(a:Act)(w:WO):Prop :=
 ∀(b:Frame) (k:XB Item) (cs:XB Frame),b.roundOf=F.round->F.fn b.fn->F.room (cs.length+1+n) ->
  ∃e a' w',Q e a' w'/\ArrivesIn (Machine.fenced P F) P (lone (b.atR a (.code c::.inLoop c::k)) cs w) b k cs e a' w'
def cM(E:Env):Task->Res->Prop
 | .code c fr m,r=>DS E (fun n P F Q a w=>c.wpIn F n P Q a w) fr m r
 | .loop c fr m,r=>DS E (fun n P F Q a w=>ou F n P c Q a w) fr m r
 | .call f args m,r=>MF E f args m r
 | .round l args m,r=>Ig E l args m r
structure EnvOk(E:Env):Prop where
 call:∀f fn c,E.P.funcs[f]? = some fn->fn.body=some c->∀args w,(callFunc f args).run E.P w=.ok (.enter f args) w
 mixed:E.P.follows .mixedOrders=true
 cT:∀f p,E.cT f=some p->∀args m v m',p.run args m=some (v,m')->∀(j:aL) (w:WO) (args':XB WJ),MR E j m w->LR j args args'->dT E.P (E.cT f).isSome f args'.toArray w (fH E j m w v m')
def dc{F:Fence}(hF:j6 F){P:WN}{o:Oper}{a:Act}{w w':WO}{v:WJ}{next:Act->WO->Prop}{Q:Exit->Act->WO->Prop}(hd:∀c,o.op≠.defer c)
  (h:kg P (execOp a.eval o) v w w') (hn:next (a.put o.dst v) w'):o.wpIn F 0 P a w next Q:=by
 refine⟨fun f _=>hF.fn f,?_⟩;rw[Oper.semAt_eq _ _ _ hd];rcases h with h|⟨h,rfl⟩
 rw[h]; exact hn
 rw[h]; exact hn
section
variable{E:Env}{k:K}
def mu{t:Tm}{m:Xq}{o:Op}{r:WJ×Xq}(h:cQ E t m o=some r):∀c,o≠.defer c:=by
 intro c e; subst e; simp[cQ] at h
def Does(P:WN)(s:Sem Next)(w:WO)(G:WJ->WO->Prop):Prop :=
 (∃v w',kg P s v w w'/\G v w') \/
 (∃f args,s.run P w=.ok (.enter f args) w/\CallsIn Fence.wide 0 P f args w (fun e w'=>∃v,e=.returned v/\G v w')) \/
 (∃l fn tmps x y,s.run P w=.ok (.round l fn tmps x y) w/\RoundIn Fence.wide 0 P l fn tmps x y w (fun e w'=>∃v,e=.returned v/\G v w'))
def Does.wpIn{F:Fence}(hF:j6 F){P:WN}{o:Oper}(hd:∀c,o.op≠.defer c){a:Act}{w:WO}{G:WJ->WO->Prop}(h:Does P (execOp a.eval o) w G){next:Act->WO->Prop}{Q:Exit->Act->WO->Prop}
  (hn:∀v' w',G v' w'->next (a.put o.dst v') w'):o.wpIn F 0 P a w next Q:=by
 rcases h with⟨v,w',h1,h2⟩|⟨f,args,h1,h2⟩|⟨l,fn,tmps,x,y,h1,h2⟩
 exact dc hF hd h1 (hn _ _ h2)
 refine⟨fun f _=>hF.fn f,?_⟩;rw[Oper.semAt_eq _ _ _ hd,h1];exact⟨hF.depth,CallsIn.mono (hF.calls h2) fun e' w' he=>by
  obtain⟨v',rfl,hq⟩:=he;exact hn v' w' hq⟩
 refine⟨fun f _=>hF.fn f,?_⟩;rw[Oper.semAt_eq _ _ _ hd,h1];exact⟨hF.depth,RoundIn.mono (hF.KG h2) fun e' w' he=>by
  obtain⟨v',rfl,hq⟩:=he;exact hn v' w' hq⟩
def Does.ends{P:WN}{s:Sem Next}{w:WO}{G:WJ->WO->Prop}(h:Does P s w G):∃v w',G v w':=by
 rcases h with⟨v,w',_,h2⟩|⟨f,args,_,h2⟩|⟨l,fn,tmps,x,y,_,h2⟩
 exact⟨v,w',h2⟩
 obtain⟨e,w',fr,⟨v,_,hq⟩,_⟩:=h2.2 [] (j6.room (.inl rfl) _);exact⟨v,w',hq⟩
 obtain⟨e,w',⟨v,_,hq⟩,_⟩:=h2.2 default [] (j6.room (.inl rfl) _);exact⟨v,w',hq⟩
def nK{t:Tm}{m:Xq}{o:Op}{r:WJ×Xq}(h:dZ k E t m o=some r):∀c,o≠.defer c:=by
 intro c e; subst e; simp[dZ,cQ] at h
def lZ(hk:∀tk r,k tk=some r->cM E tk r){j:aL}{m:Xq}{w:WO}{t:Tm}{n:Nat}{a:Act}(h:MR E j m w)(ht:TR n j t a.tmps){o:Oper}{v:WJ}{m':Xq}(e:dZ k E t m o.op=some (v,m')) :
  Does E.P (execOp a.eval o) w (fH E j m w v m'):=by
 have hplain:cQ E t m o.op=some (v,m')->Does E.P (execOp a.eval o) w (fH E j m w v m'):=by
  intro e;obtain⟨j',w',v',h1,h2,h3⟩:=Iu h ht e;exact .inl ⟨v',w',h1,j',h2,h3⟩
 unfold dZ at e
 split at e
 ·rename_i c hop
  split at e
  ·rename_i f hc
   split at e
   ·rename_i g first captured args hf hargs
    split at e
    ·rename_i v0 m0 hcall;cases e;obtain⟨v1,m1,hr,hsim⟩:=hk _ _ hcall;cases hr;have hfv:=aJ h ht hf;generalize hfe:a.eval f=fv at hfv;cases hfv with
     | func h1 h2 h3 h4 =>
     rename_i ys ds;have hl:LR j (first.toList++args++captured.toList) (ys.toList++(c.args.toList.map a.eval)++ds.toList) :=
      ((LR.fa h1 h2).append (eF h ht hargs)).append (LR.fa h3 h4)
     have hcs:=hsim j w _ h hl;have harr:(ys.toList++(c.args.toList.map a.eval)++ds.toList).toArray=ys++c.args.map a.eval++ds:=by apply U4.1; simp
     rw[harr] at hcs;have hexec:execOp a.eval o=(do let d <-resolve a.eval c o.type; invoke d.target d.args):=by simp only[execOp,hop]
     have hrun:(execOp a.eval o).run E.P w=(callFunc g (ys++c.args.map a.eval++ds)).run E.P w:=by
      rw[hexec];simp only[resolve,hc,hfe,Deferred.ofValue,XF,XG,XE,invoke]
     rcases hcs with⟨hr,hci⟩|⟨_,v',w',hr,hq⟩
     exact .inr (.inl ⟨_,_,hrun.trans hr,hci⟩)
     exact .inl ⟨v',w',.inl (hrun.trans hr),hq⟩
    cases e
   ·rename_i l first cap args hf hargs
    split at e
    ·rename_i v0 m0 hcall;cases e;obtain⟨v1,m1,hr,hsim⟩:=hk _ _ hcall;cases hr;have hfv:=aJ h ht hf;generalize hfe:a.eval f=fv at hfv;cases hfv with
     | yield hj h1 h2 =>
     rename_i kb ys ds;have hl:LR j (first.toList++args) (ys.toList++(c.args.toList.map a.eval)):=(LR.fa h1 h2).append (eF h ht hargs)
     obtain⟨fn,tmps,assign,body,hy,hro⟩:=hsim j w kb _ h hj hl;have harr:(ys.toList++(c.args.toList.map a.eval)).toArray=ys++c.args.map a.eval:=by apply U4.1; simp
     rw[harr] at hy;have hexec:execOp a.eval o=(do let d <-resolve a.eval c o.type; invoke d.target d.args):=by simp only[execOp,hop]
     have hrun:(execOp a.eval o).run E.P w=.ok (.round kb.c fn tmps assign body) w:=by
      rw[hexec];simp only[resolve,hc,hfe,Deferred.ofValue,XF,XG,XE,invoke,hy]
     exact .inr (.inr ⟨_,_,_,_,_,hrun,hro⟩)
    cases e
   cases e
  exact hplain e
 exact hplain e
def wZ(hk:∀tk r,k tk=some r->cM E tk r){j:aL}{m:Xq}{w:WO}{t:Tm}{n:Nat}{a:Act}(h:MR E j m w)(ht:TR n j t a.tmps){o:Oper}{v:WJ}{m':Xq}(e:dZ k E t m o.op=some (v,m'))
  {F:Fence} (hF:j6 F) {next:Act->WO->Prop} {Q:Exit->Act->WO->Prop} (hn:∀v' w',fH E j m w v m' v' w'->next (a.put o.dst v') w'):o.wpIn F 0 E.P a w next Q :=
 (lZ hk h ht e).wpIn hF (nK e) hn
def TR.put{n:Nat}{j:aL}{t t':Tm}{a:Act}{dst:XA Tmp}{v v':WJ}(h:TR n j t a.tmps)(hv:VR j v v')(hp:gz n t dst v=some t'):TR n j t' (a.put dst v').tmps:=by
 unfold gz at hp
 split at hp
 rename_i d
 split at hp
 rename_i hlt;cases hp;have hlt':d<n:=by simpa using hlt
 refine⟨by simp[Act.put,h.1],fun i=>?_⟩
 simp only[Act.put,Tm.at,Trie.cc]
 by_cases hi:i=d
 subst hi;simp only[Ui rfl];have:i<a.tmps.size:=by rw[h.1]; exact hlt'
 simp[this,hv]
 simp only[Uk hi];have:=h.2 i;simp only[Tm.at] at this
 simpa [VL (Ne.symm hi)] using this
 cases hp
 cases hp; exact h
def j5 {n:Nat} {j:aL} {t:Tm} {a:Act} (h:TR n j t a.tmps) (ops:XD Oper) (o:Oper):Region.wanted o (yielded ops a.tmps)=aX ops o t:=by
 unfold Region.wanted aX;cases hgd:o.guard with
 | none=>rfl
 | some p =>
  obtain⟨g,want⟩:=p;simp only;have key:yielded ops a.tmps g=cU ops t g:=by
   unfold yielded cU;cases hd:(ops[g]?).bind (·.dst) with
   | none=>rfl
   | some d =>
    simp only[UQ];have hv:=h.2 d;unfold Tm.at at hv;cases hg:t.get d with
    | none =>
     rw[hg] at hv;simp only[Option.getD_none] at hv;have:a.tmps[d]? = none\/a.tmps[d]? = some undef:=by
      cases ha:a.tmps[d]? with
      | none=>exact .inl rfl
      | some x =>
       right
       have:a.tmps.getD d undef=x:=by simp[ha]
       rw[this] at hv;have:x=undef:=iu (by rfl) hv
       rw[this]
     rcases this with e|e<;>rw[e]<;>rfl
    | some x =>
     rw[hg] at hv;simp only[Option.getD_some] at hv;cases ha:a.tmps[d]? with
     | none =>
      have:a.tmps.getD d undef=undef:=by simp[ha]
      rw[this] at hv;cases x<;>first|rfl|cases hv
     | some y =>
      have:a.tmps.getD d undef=y:=by simp[ha]
      rw[this] at hv;cases hv with
      | junk hj=>cases y<;>first|rfl |(simp[Ah,aM] at hj)
      | _=>rfl
  rw[key];cases cU ops t g with
  | none=>rfl
  | some b=>simp
def kr(hk:∀tk r,k tk=some r->cM E tk r){ops:XD Oper}{n:Nat}{F:Fence}(hF:j6 F){Q:Exit->Act->WO->Prop}{m0:Xq}{w0:WO}{j0:aL}(h0:MR E j0 m0 w0){tf:Tm}{mf:Xq}
  (ds:XB Deferred) (hQ:∀j' w' a',Sim E j0 m0 w0 j' mf w'->TR n j' tf a'.tmps->a'.defers=ds->Q .normal a' w') :
  ∀(os:XB Oper) (i:Nat) (t:Tm) (m:Xq) (j:aL) (w:WO) (a:Act),ops.toList.drop i=os->iC k E n ops os t m=some (tf,mf)->Sim E j0 m0 w0 j m w->TR n j t a.tmps->a.defers=ds ->
   wpOpsIn F 0 E.P ops Q (List.range' i (ops.size-i)) a w
 | [],i,t,m,j,w,a,hd,hr,s,ht,hds=>by
  cases hr;have hlen:ops.size<=i:=by
   have:=VB List.length hd;simp at this; omega
  rw[show ops.size-i=0 by omega]
  exact hQ j w a s ht hds
 | o::os,i,t,m,j,w,a,hd,hr,s,ht,hds=>by
  have hlt:i<ops.size:=by
   have:=VB List.length hd;simp at this; omega
  have ho:ops[i]? = some o:=by
   have:=VB (·[0]?) hd
   simpa [Vr] using this
  have hd':ops.toList.drop (i+1)=os:=by
   rw[<-Wf,hd]; rfl
  have hidx:List.range' i (ops.size-i)=i::List.range' (i+1) (ops.size-(i+1)):=by
   rw[show ops.size-i=(ops.size-(i+1))+1 by omega]; rfl
  rw[hidx];simp only[wpOpsIn,ho,j5 ht];simp only[iC] at hr
  split at hr
  rename_i hw;rw[Ui hw]
  split at hr
  rename_i v m' he
  split at hr
  rename_i t' hp;refine wZ hk s.mr ht he hF ?_;rintro v' w' ⟨j',s',hv⟩;exact kr hk hF h0 ds hQ os (i+1) t' m' j' w' _ hd' hr (s.trans h0 s') ((ht.mono s'.le).put hv hp) (by cases hds':o.dst<;>simp[Act.put,hds])
  cases hr
  cases hr
  rename_i hw;rw[Uk hw]
  split at hr
  rename_i t' hp;exact⟨fun f _=>hF.fn f,kr hk hF h0 ds hQ os (i+1) t' m j w _ hd' hr s (ht.put (VR.undef j) hp) (by cases hds':o.dst<;>simp[Act.put,hds])⟩
  cases hr
end
def zj(k:K)(E:Env)(n:Nat)(ops:XD Oper)(i:Nat)(t:Tm)(m:Xq)(v:WJ)(t':Tm)(m':Xq)(note:Note):Prop :=
 ∃o,ops[i]? = some o/\gz n t o.dst v=some t' /\
  ((aX ops o t=true/\∃r,dZ k E t { m with wl:=m.next} o.op=some (v,r)/\m' ={ r with wl:=min m.wl r.wl}/\note ={ read:=aU E t o.op,wl:=r.wl,next:=m.next,wrote:=dY E t o.op,kept:=hC m r}) \/
   (aX ops o t=false/\v=undef/\m'=m/\note ={ read:=none,wl:=m.next,next:=m.next,wrote:=none,kept:=fun _=>false}))
structure Tr(k:K)(E:Env)(n:Nat)(ops:XD Oper)(i L:Nat)(T:Nat->Tm)(M:Nat->Xq)(V:Nat->WJ)(ns:XB Note):Prop where
 len:ns.length=L
 step:∀x,x<L->∃note,ns[x]? = some note/\zj k E n ops (i+x) (T x) (M x) (V x) (T (x+1)) (M (x+1)) note
def H9{α:Type}(a:α)(f:Nat->α):Nat->α
 | 0=>a
 | x+1=>f x
def AQ{k:K}{E:Env}{n:Nat}{ops:XD Oper}:∀(os:XB Oper) (i:Nat) (t:Tm) (m:Xq) (tf:Tm) (mf:Xq) (ns:XB Note),ops.toList.drop i=os->dO k E n ops os t m=some (tf,mf,ns) ->
  ∃T M V,Tr k E n ops i os.length T M V ns/\T 0=t/\M 0=m/\T os.length=tf/\M os.length=mf
 | [],i,t,m,tf,mf,ns,_,h=>by
  cases h;exact⟨fun _=>t,fun _=>m,fun _=>undef,⟨rfl,fun x hx=>Uy hx (Wv _)⟩,rfl,rfl,rfl,rfl⟩
 | o::os,i,t,m,tf,mf,ns,hd,h=>by
  have ho:ops[i]? = some o:=by
   have:=VB (·[0]?) hd
   simpa [Vr] using this
  have hd':ops.toList.drop (i+1)=os:=by rw[<-Wf,hd]; rfl
  have cons:∀(v:WJ) (t1:Tm) (m1:Xq) (note:Note) (ns':XB Note),zj k E n ops i t m v t1 m1 note->dO k E n ops os t1 m1=some (tf,mf,ns')->ns=note::ns' ->
    ∃T M V,Tr k E n ops i (os.length+1) T M V ns/\T 0=t/\M 0=m/\T (os.length+1)=tf/\M (os.length+1)=mf:=by
   intro v t1 m1 note ns' hst hr hns;obtain⟨T,M,V,htr,h1,h2,h3,h4⟩:=AQ os (i+1) t1 m1 tf mf ns' hd' hr;refine⟨H9 t T,H9 m M,H9 v V,⟨by rw[hns]; simp[htr.len],fun x hx=>?_⟩,rfl,rfl,h3,h4⟩
   cases x with
   | zero =>
    refine⟨note,by rw[hns]; rfl,?_⟩
    show zj k E n ops i t m v (T 0) (M 0) note
    rw[h1,h2]; exact hst
   | succ x =>
    obtain⟨nt,h5,h6⟩:=htr.step x (by omega)
    refine⟨nt,by rw[hns]; simpa using h5,?_⟩
    show zj k E n ops (i+(x+1)) (T x) (M x) (V x) (T (x+1)) (M (x+1)) nt
    rw[show i+(x+1)=i+1+x by omega]; exact h6
  simp only[dO] at h
  split at h
  rename_i hw
  split at h
  rename_i v r he
  split at h
  rename_i t1 hp
  split at h
  rename_i t' m'' ns' hr;cases h;exact cons v t1 _ _ ns' ⟨o,ho,hp,.inl ⟨hw,r,he,rfl,rfl⟩⟩ hr rfl
  cases h
  cases h
  cases h
  rename_i hw
  split at h
  rename_i t1 hp
  split at h
  rename_i t' m'' ns' hr;cases h;exact cons undef t1 m _ ns' ⟨o,ho,hp,.inr ⟨by simpa using hw,rfl,rfl,rfl⟩⟩ hr rfl
  cases h
  cases h
def Sim.Qe{E:Env}{j j':aL}{m r:Xq}{w w':WO}(s:Sim E j { m with wl:=m.next} w j' r w'):Sim E j m w j' { r with wl:=min m.wl r.wl} w' where
 ext:=⟨s.ext.next,Nat.min_le_left _ _,fun b hb hw=>s.ext.same b hb (Uc hw (Nat.min_le_right _ _)),s.ext.dead⟩
 le:=s.le
 new:=s.new
 mr:=s.mr.vC
 size:=s.size
 full:=s.full
 away:=s.away
 fresh:=fun b k h h'=>(s.fresh b k h h').imp id fun⟨b0,k0,a1,a2,a3,a4⟩=>⟨b0,k0,a1,a2,a3,Ub (Nat.min_le_right _ _) a4⟩
 frame:=fun c hc H=>s.frame c hc fun b k hb hl he=>Uc (H b k hb hl he) (Nat.min_le_right _ _)
 calm:=s.calm
def aL.below(j:aL)(x:Nat):aL:=fun b=>if b<x then j b else none
def aL.bE{j:aL}{x b:Nat}{k:Blk}:j.below x b=some k↔b<x/\j b=some k:=by
 unfold aL.below
 split
 rename_i h; simp[h]
 rename_i h; simp[h]
def VR.cut{j jc:aL}{x:Nat}(hc:∀b k,jc b=some k->b<x):∀{v v':WJ},VR j v v'->∀{u:WJ},VR jc v u->VR (j.below x) v v':=by
 intro v v' h
 induction h with
 | junk h=>intro u _; exact .junk h
 | bool b=>intro u _; exact .bool b
 | int k n=>intro u _; exact .int k n
 | string s=>intro u _; exact .string s
 | pnil=>intro u _; exact .pnil
 | ptr h=>intro u hu; cases hu with
  | ptr h'=>exact .ptr (aL.bE.2 ⟨hc _ _ h',h⟩)
 | snil l c=>intro u _; exact .snil l c
 | slice h hm=>intro u hu; cases hu with
  | slice h' _=>exact .slice (aL.bE.2 ⟨hc _ _ h',h⟩) hm
  | sliceM h' _ _ _ _ _=>exact .slice (aL.bE.2 ⟨hc _ _ h',h⟩) hm
 | sliceM h hm h1 h2 hl hcap=>intro u hu; cases hu with
  | slice h' _=>exact .sliceM (aL.bE.2 ⟨hc _ _ h',h⟩) hm h1 h2 hl hcap
  | sliceM h' _ _ _ _ _=>exact .sliceM (aL.bE.2 ⟨hc _ _ h',h⟩) hm h1 h2 hl hcap
 | gR=>intro u _; exact .gR
 | dry=>intro u _; exact .dry
 | mnil=>intro u _; exact .mnil
 | map h=>intro u hu; cases hu with
  | map h'=>exact .map (aL.bE.2 ⟨hc _ _ h',h⟩)
 | func h1 _ h3 _ ih2 ih4=>intro u hu; cases hu with
  | func g1 g2 g3 g4=>exact .func h1 (fun i a b=>ih2 i a b (g2 i a (g1▸a))) h3 (fun i a b=>ih4 i a b (g4 i a (g3▸a)))
 | yield h h1 _ ih2=>intro u hu; cases hu with
  | yield g g1 g2=>exact .yield (aL.bE.2 ⟨hc _ _ g,h⟩) h1 (fun i a b=>ih2 i a b (g2 i a (g1▸a)))
 | nilFunc=>intro u _; exact .nilFunc
 | nilIface=>intro u _; exact .nilIface
 | agg h1 _ ih=>intro u hu; cases hu with
  | agg g1 g2=>exact .agg h1 (fun i a b=>ih i a b (g2 i a (g1▸a)))
 | tuple h1 _ ih=>intro u hu; cases hu with
  | tuple g1 g2=>exact .tuple h1 (fun i a b=>ih i a b (g2 i a (g1▸a)))
def ER.cut{j jc:aL}{x:Nat}(hc:∀b k,jc b=some k->b<x):∀{es:XB (WJ×WJ)} {fs gs:XB MapEntry},ER j es fs->ER jc es gs->ER (j.below x) es fs
 | [],[],_,_,_=>trivial
 | _::_,_::_,_::_,h,g=>⟨h.1.cut hc g.1,h.2.1.cut hc g.2.1,ER.cut hc h.2.2 g.2.2⟩
 | [],_::_,_,h,_=>h.elim
 | _::_,[],_,h,_=>h.elim
 | _::_,_::_,[],_,g=>g.elim
def OR.cut{j jc:aL}{x:Nat}(hc:∀b k,jc b=some k->b<x){k k':Blk}{o:Xs}{o1 o2:Obj}(h:OR j k o o1)(g:OR jc k' o o2):OR (j.below x) k o o1:=by
 cases o with
 | cells cs tag =>
  cases o1 with
  | cells c e fz =>
   cases o2 with
   | cells c2 e2 fz2 =>
    refine⟨h.1,fun i v hi=>?_⟩;obtain⟨v',a,b⟩:=h.2 i v hi;obtain⟨u,_,b2⟩:=g.2 i v hi;exact⟨v',a,b.cut hc b2⟩
   | _=>exact g.elim
  | _=>exact h.elim
 | map es =>
  cases o1 with
  | map c e =>
   cases o2 with
   | map c2 e2=>exact⟨ER.cut hc h.1 g.1,h.2⟩
   | _=>exact g.elim
  | _=>exact h.elim
 | loop r =>
  cases o1 with
  | loop r1 =>
   cases o2 with
   | loop r2 =>
    refine⟨h.1,h.2.1,h.2.2.1,h.2.2.2.1,h.2.2.2.2.1,h.2.2.2.2.2.1,fun i=>?_⟩;exact(h.2.2.2.2.2.2 i).cut hc (g.2.2.2.2.2.2 i)
   | _=>exact g.elim
  | _=>exact h.elim
def ff{E:Env}{t t':Tm}:∀{xs:XB WM},(∀x∈xs,aq E t x=aq E t' x)->bu E t xs=bu E t' xs
 | [],_=>rfl
 | x::xs,h=>by
  simp only[bu];rw[h x (by simp),ff fun y hy=>h y (by simp[hy])]
def gY{E:Env}{t t':Tm}:∀{xs:XB (Nat×WM)},(∀x∈xs,aq E t x.2=aq E t' x.2)->dn E t xs=dn E t' xs
 | [],_=>rfl
 |(i,x)::xs,h=>by
  simp only[dn];rw[h (i,x) (by simp),gY fun y hy=>h y (by simp[hy])]
def kQ{E:Env}{t t':Tm}{x:XA WM}(h:∀y,x=some y->aq E t y=aq E t' y):dC E t x=dC E t' x:=by
 cases x with
 | none=>rfl
 | some y=>simp only[dC,h y rfl]
def p9{E:Env}{t t':Tm}{m:Xq}{o:Op}(h:∀x∈o.operands.toList,aq E t x=aq E t' x):cQ E t m o=cQ E t' m o:=by
 cases o<;>simp only[Op.operands] at h<;>simp only[cQ]
 case build ty ps=>rw[gY fun x hx=>h x.2 (by simp; exact⟨x.1,by simpa using hx⟩)]
 case buildSlice ty n ps=>rw[gY fun x hx=>h x.2 (by simp; exact⟨x.1,by simpa using hx⟩)]
 case makeFunc fn first captured =>
  cases fn<;>simp only;rw[ff (xs:=first.toList) fun x hx=>h x (by simp at hx ⊢; exact .inl hx),ff (xs:=captured.toList) fun x hx=>h x (by simp at hx ⊢; exact .inr hx)]
 case makeMap ty r=>cases r<;>rfl
 case slice ty x lo hi mx =>
  rw[h x (by simp),kQ (x:=lo) fun y hy=>h y (by simp[hy]),kQ (x:=hi) fun y hy=>h y (by simp[hy]),kQ (x:=mx) fun y hy=>h y (by simp[hy])]
 case call c =>
  cases hc:c.callee<;>simp only;rw[ff (xs:=c.args.toList) fun x hx=>h x (by simp[Call.operands,hc]; simpa using hx)]
 all_goals first|rfl |(simp_all; done)
def AY{k:K}{E:Env}{t t':Tm}{m:Xq}{o:Op}(h:∀x∈o.operands.toList,aq E t x=aq E t' x):dZ k E t m o=dZ k E t' m o:=by
 have hop:=p9 (m:=m) h;unfold dZ;cases o with
 | call c =>
  simp only;cases hc:c.callee with
  | value f =>
   simp only;rw[h f (by simp[Op.operands,Call.operands,hc]),ff (xs:=c.args.toList) fun x hx=>h x (by simp[Op.operands,Call.operands,hc]; exact .inr (by simpa using hx))]
  | _=>exact hop
 | _=>exact hop
def ra(t:Tm):XB Tmp->Tm
 | []=>.nil
 | d::ds=>(ra t ds).set d (t.at d)
def mB(t:Tm):∀(S:XB Tmp) (d:Nat),(ra t S).at d=if d∈S then t.at d else undef
 | [],d=>by simp[ra,Tm.at,Trie.get_nil]
 | x::S,d=>by
  have ih:=mB t S d;simp only[Tm.at] at ih;simp only[ra,Tm.at,Trie.cc]
  by_cases h:d=x
  simp[h]
  simp only[UC,h,false_or]; exact ih
def k9(tm:XD WJ)(S:XB Tmp):XD WJ:=(Array.range tm.size).map fun d=>if d∈S then tm.getD d undef else undef
def kO(tm:XD WJ)(S:XB Tmp)(d:Nat):(k9 tm S).getD d undef=if d∈S then tm.getD d undef else undef:=by
 unfold k9
 by_cases h:d<tm.size
 simp[h]
 have:tm.getD d undef=undef:=by simp[h]
 simp[h]
def iI:∀{l:XB WM} {d:Tmp},d∈tmpsOf l↔Operand.tmp d∈l
 | [],d=>by simp[tmpsOf]
 | x::l,d=>by
  have ih:=iI (l:=l) (d:=d);cases x<;>simp[tmpsOf,ih]
def AB{k:K}{E:Env}(hk:∀tk r,k tk=some r->cM E tk r){j:aL}{m:Xq}{w:WO}{t:Tm}{a:Act}(h:MR E j m w){o:Oper}(ht:∀d∈tmpsOf o.op.operands.toList,VR j (t.at d) (a.tmps.getD d undef)){v:WJ}{m':Xq}
  (e:dZ k E t m o.op=some (v,m')):Does E.P (execOp a.eval o) w (fH E j m w v m'):=by
 have hT:TR (k9 a.tmps (tmpsOf o.op.operands.toList)).size j (ra t (tmpsOf o.op.operands.toList)) ({ tmps:=k9 a.tmps (tmpsOf o.op.operands.toList),defers:=a.defers}:Act).tmps:=by
  refine⟨rfl,fun d=>?_⟩
  show VR j _ ((k9 a.tmps _).getD d undef)
  rw[mB,kO]
  split
  rename_i hd; exact ht d hd
  exact VR.undef j
 have hev:∀x∈o.op.operands.toList,aq E (ra t (tmpsOf o.op.operands.toList)) x=aq E t x:=by
  intro x hx;cases x with
  | tmp d=>simp only[aq,mB,Ui (iI.2 hx)]
  | _=>rfl
 have hd:=lZ hk h hT (o:=o) (v:=v) (m':=m') ((AY hev).trans e);have hex:execOp ({ tmps:=k9 a.tmps (tmpsOf o.op.operands.toList),defers:=a.defers}:Act).eval o=execOp a.eval o:=by
  refine execOp_congr o (fun cs b hs=>?_) fun x hx=>?_
  rw[hs] at e; simp[dZ,cQ] at e
  ·cases x with
   | tmp d =>
    show(k9 a.tmps _).getD d undef=a.tmps.getD d undef
    rw[kO,Ui (iI.2 (by simpa using hx))]
   | _=>rfl
 rw[hex] at hd;exact hd
end Go.Ab
