/- A part of the proof. -/
import Derived.RangeFuncRecord
import Derived.RangeFuncLeaves
import Derived.Laws.Cells
import Derived.Laws.Entries
import Derived.Laws.StructEq
import Derived.IntWalk
import Derived.OrdersIn
import Derived.LeavingIn
set_option linter.all false
universe u
abbrev WA:=@Option
abbrev WB:=@List
abbrev WC:=Unit
abbrev WD:=@Array
abbrev SS:=@Int.toNat_natCast
abbrev SU:=@List.getElem?_eq_getElem
abbrev SW:=@Bool.and_eq_true
abbrev SX:=@Nat.le_refl
abbrev SY:=@Nat.lt_of_lt_of_le
abbrev SZ:=@Option.map_some
abbrev S0:=@Nat.eq_of_beq_eq_true
abbrev S3:=@Option.some.inj
abbrev S4:=@decide_eq_true
abbrev S5:=@List.length_append
abbrev S6:=@Nat.le_of_ble_eq_true
abbrev S7:=@if_pos
abbrev S8:=@if_neg
abbrev S9:=@Bool.not_true
abbrev Ta:=@decide_eq_false
abbrev Tb:=@Nat.le_trans
abbrev Tc:=@List.getElem?_eq_some_iff
abbrev Td:=@Nat.pow_le_pow_right
abbrev Te:=@Array.getElem?_eq_some_iff
abbrev Tf:=@Bool.false_eq_true
abbrev Tg:=@Nat.pos_of_ne_zero
abbrev Th:=@List.getD_eq_getElem?_getD
abbrev Ti:=@List.mem_of_getElem?
abbrev Tj:=@Nat.mul_comm
abbrev Tk:=@List.all_eq_true
abbrev Tl:=@absurd
abbrev Tn:=@List.getElem?_map
abbrev To:=@Bool.not_false
abbrev Tp:=@List.pairwise_cons
abbrev Tq:=@List.getElem?_cons_zero
abbrev Ts:=@Nat.mul_left_comm
abbrev Tt:=@List.mem_cons
abbrev Tu:=@List.getElem?_append_right
abbrev Tv:=@decide_eq_true_eq
abbrev Tw:=@List.length_map
abbrev Tx:=@List.getElem?_toArray
abbrev Ty:=@Nat.mul_assoc
abbrev Tz:=@List.length_cons
abbrev TA:=@Nat.mod_eq_of_lt
abbrev TB:=@List.mem_cons_of_mem
abbrev TC:=@List.length_singleton
abbrev TE:=@Nat.pow_succ
abbrev TF:=@Option.bind_some
abbrev TG:=@List.mem_singleton
abbrev TH:=@List.getElem?_append_left
abbrev TI:=@Nat.add_mul
abbrev TJ:=@Int.natAbs_natCast
abbrev TK:=@Nat.ble_eq_true_of_le
abbrev TL:=@List.getElem?_eq_none
abbrev TM:=@Nat.zero_add
abbrev TN:=@Nat.mod_lt
abbrev TO:=@Nat.lt_or_ge
abbrev TP:=@Nat.add_zero
abbrev TQ:=@List.length_set
abbrev TS:=@List.getElem?_cons_succ
abbrev TT:=@Nat.lt_of_le_of_lt
abbrev TU:=@Nat.mul_ne_zero
abbrev TW:=@List.length_take
abbrev TX:=@List.getElem?_replicate
abbrev TY:=@Array.toList_inj
abbrev TZ:=@Nat.div_lt_iff_lt_mul
abbrev T0:=@Nat.mul_le_mul
abbrev T1:=@Bool.not_eq_true'
abbrev T2:=@Nat.mul_le_mul_right
abbrev T3:=@Nat.min_eq_left
abbrev T4:=@List.flatten_cons
abbrev T5:=@List.mem_cons_self
abbrev T6:=@Nat.mul_le_mul_left
abbrev T7:=@List.mem_append
abbrev T8:=@List.append_nil
abbrev Ua:=@Int.toNat_of_nonneg
abbrev Ub:=@List.getElem?_set_self
abbrev Uc:=@List.getElem?_set_ne
abbrev Ud:=@Bool.and_self
abbrev Ue:=@Int.natCast_nonneg
abbrev Uf:=@Nat.mul_add
abbrev Ug:=@Decidable.byContradiction
abbrev Uh:=@List.replicate_succ
abbrev Ui:=@Nat.div_div_eq_div_mul
abbrev Uj:=@Nat.lt_succ_self
abbrev Uk:=@List.append_assoc
abbrev Ul:=@Bool.or_eq_true
abbrev Um:=@List.getElem?_drop
abbrev Un:=@List.eq_nil_of_length_eq_zero
abbrev Uo:=@List.all_cons
abbrev Up:=@congrArg
abbrev Uq:=@Nat.div_eq_of_lt
abbrev Ur:=@Nat.div_add_mod
abbrev Us:=@List.nil_append
abbrev Ut:=@Nat.pow_add
abbrev Uu:=@List.mem_append_left
abbrev Uv:=@Bool.false_ne_true
abbrev Uw:=@Nat.zero_le
abbrev Ux:=@List.length_eq_zero_iff
abbrev Uy:=@List.ext_getElem?
abbrev Uz:=@Option.map_eq_some_iff
abbrev UA:=@Nat.zero_mul
abbrev UB:=@Nat.pow_zero
abbrev UC:=@Array.getElem?_setIfInBounds_ne
abbrev UD:=@Nat.pow_lt_pow_right
abbrev UE:=@Nat.sub_self
abbrev UF:=@Nat.ne_of_beq_eq_false
abbrev UG:=@List.take_of_length_le
abbrev UH:=@List.mem_or_eq_of_mem_set
abbrev UI:=@Nat.blt_eq
abbrev UJ:=@Classical.choose_spec
abbrev UK:=@List.mem_range
abbrev UL:=@Nat.succ_mul
abbrev UM:=@Nat.div_mul_cancel
abbrev UN:=@List.getElem?_take
abbrev UO:=@List.pairwise_append
abbrev UP:=@Int.ofNat_eq_natCast
abbrev UQ:=@Nat.le_of_lt
abbrev UR:=@List.drop_eq_nil_of_le
abbrev US:=@List.length_pos_iff
abbrev UT:=@List.drop_eq_getElem_cons
abbrev UU:=@List.length_drop
abbrev UW:=@List.getElem_mem
abbrev UX:=@Array.eq_empty_of_size_eq_zero
abbrev UY:=@Nat.add_assoc
abbrev UZ:=@List.mem_map
abbrev U0:=@List.drop_drop
abbrev U1:=@Int.natCast_mul
abbrev U2:=@Array.length_toList
abbrev U3:=@Array.getElem?_push
abbrev U4:=@Nat.sub_zero
abbrev U5:=@Bool.true_or
abbrev U6:=@Bool.or_true
abbrev U7:=@Prod.mk.injEq
abbrev U8:=@Nat.pow_mul
abbrev U9:=@Nat.mul_one
abbrev Va:=@List.map_cons
abbrev Vb:=@List.drop_length
abbrev Vc:=@List.cons_append
abbrev Vd:=@List.drop_zero
abbrev Ve:=@Nat.not_lt_zero
abbrev Vf:=@List.nodup_cons
abbrev Vg:=@Bool.eq_iff_iff
abbrev Vh:=@Array.replicate
abbrev Vi:=@Nat.pow_pos
abbrev Vj:=WB (WB Int×WB (WB Int))
abbrev Vl:=Int×Int×Int×Int
abbrev Vm:=WB (Int×Int)
abbrev Vo:=WB (WB Int)
abbrev Vr:=Nat->Prop
def Vz{c:Prop}{h0:Decidable c}{α:Sort u}{t e:α}(h:¬c:=by omega):ite c t e=e:=if_neg h
def VA{c:Prop}{h0:Decidable c}{α:Sort u}{t e:α}(h:c:=by omega):ite c t e=t:=if_pos h
section
open Go
abbrev WE:=@Result.andThen_ok
abbrev WG:=@Sem.run_bind
abbrev WH:=@Sem.run_pure
abbrev WI:=@run_underlying
abbrev WJ:=FuncId
abbrev Vp:=WB (WB Value)
abbrev Vq:=WA Addr
abbrev Vs:=Value
abbrev Vt:=TypeId
abbrev Vu:=Operand
abbrev Vv:=Program
abbrev Vw:=World
abbrev Vx:=IntKind.wrap .i64
abbrev Vy:Nat:=(0:Int).toNat
end
namespace Go.Ab
open Go
structure F8(α:Type) where
 a:α
 b:α
 c:α
 d:α
 e:α
 f:α
 g:α
 h:α
def F8.all{α:Type}(x:α):F8 α:=⟨x,x,x,x,x,x,x,x⟩
def F8.JG{α:Type}(x:F8 α)(i:Nat):α :=
 match i with
 | 0=>x.a
 | 1=>x.b
 | 2=>x.c
 | 3=>x.d
 | 4=>x.e
 | 5=>x.f
 | 6=>x.g
 | _=>x.h
def F8.put{α:Type}(x:F8 α)(i:Nat)(v:α):F8 α :=
 match i with
 | 0=>{ x with a:=v}
 | 1=>{ x with b:=v}
 | 2=>{ x with c:=v}
 | 3=>{ x with d:=v}
 | 4=>{ x with e:=v}
 | 5=>{ x with f:=v}
 | 6=>{ x with g:=v}
 | _=>{ x with h:=v}
def F8.Df{α:Type}(x:F8 α)(i j:Nat)(v:α)(hi:i<8)(hj:j<8):(x.put i v).JG j=if j=i then v else x.JG j:=by
 have h1:i=0\/i=1\/i=2\/i=3\/i=4\/i=5\/i=6\/i=7:=by omega
 have h2:j=0\/j=1\/j=2\/j=3\/j=4\/j=5\/j=6\/j=7:=by omega
 rcases h1 with rfl|rfl|rfl|rfl|rfl|rfl|rfl|rfl<;>rcases h2 with rfl|rfl|rfl|rfl|rfl|rfl|rfl|rfl<;>rfl
def F8.q7{α:Type}(x:α)(i:Nat):(F8.all x).JG i=x:=by
 unfold F8.JG F8.all; split<;>rfl
def F8.getM{M β:Type}(sz:Nat)(g:M->Nat->β)(x:F8 M)(i:Nat):β:=g (x.JG (i/sz)) (i%sz)
def F8.Fj{M β:Type}(sz:Nat)(s:M->Nat->β->M)(x:F8 M)(i:Nat)(v:β):F8 M:=x.put (i/sz) (s (x.JG (i/sz)) (i%sz) v)
def F8.mB{M β:Type}{sz:Nat}{g:M->Nat->β}{s:M->Nat->β->M}(hsz:0<sz)(hl:∀m i j v,i<sz->j<sz->g (s m i v) j=if j=i then v else g m j)(x:F8 M)(i j:Nat)(v:β)(hi:i<8*sz)(hj:j<8*sz) :
  F8.getM sz g (F8.Fj sz s x i v) j=if j=i then v else F8.getM sz g x j:=by
 have h1:i/sz<8:=(TZ hsz).2 hi;have h2:j/sz<8:=(TZ hsz).2 hj;unfold F8.getM F8.Fj;rw[F8.Df _ _ _ _ h1 h2];have e1:=Ur i sz;have e2:=Ur j sz
 by_cases h:j/sz=i/sz
 rw[S7 h,hl _ _ _ _ (TN _ hsz) (TN _ hsz)]
 by_cases h':j%sz=i%sz
 have:j=i:=by rw[<-e1,<-e2,h,h']
 rw[S7 h',S7 this]
 have:j≠i:=fun e=>h' (by rw[e])
 rw[S8 h',S8 this,h]
 have:j≠i:=fun e=>h (by rw[e])
 rw[S8 h,S8 this]
abbrev Pb(α:Type):=F8 (F8 α)
abbrev A5(α:Type):=F8 (Pb α)
abbrev vf(α:Type):=F8 (A5 α)
abbrev pB(α:Type):=F8 (vf α)
def zM{α:Type}:Pb α->Nat->α:=F8.getM 8 F8.JG
def qh{α:Type}:A5 α->Nat->α:=F8.getM 64 zM
def oP{α:Type}:vf α->Nat->α:=F8.getM 512 qh
def lR{α:Type}:pB α->Nat->α:=F8.getM 4096 oP
def HI{α:Type}:Pb α->Nat->α->Pb α:=F8.Fj 8 F8.put
def wF{α:Type}:A5 α->Nat->α->A5 α:=F8.Fj 64 HI
def xq{α:Type}:vf α->Nat->α->vf α:=F8.Fj 512 wF
def yO{α:Type}:pB α->Nat->α->pB α:=F8.Fj 4096 xq
def FV{α:Type}(x:Pb α)(i j:Nat)(v:α)(hi:i<64)(hj:j<64):zM (HI x i v) j=if j=i then v else zM x j :=
 F8.mB (by omega) (fun m i j v hi hj=>F8.Df m i j v hi hj) x i j v (by omega) (by omega)
def tH{α:Type}(x:A5 α)(i j:Nat)(v:α)(hi:i<512)(hj:j<512):qh (wF x i v) j=if j=i then v else qh x j :=
 F8.mB (by omega) (fun m i j v hi hj=>FV m i j v hi hj) x i j v (by omega) (by omega)
def yN{α:Type}(x:vf α)(i j:Nat)(v:α)(hi:i<4096)(hj:j<4096):oP (xq x i v) j=if j=i then v else oP x j :=
 F8.mB (by omega) (fun m i j v hi hj=>tH m i j v hi hj) x i j v (by omega) (by omega)
def xo{α:Type}(x:pB α)(i j:Nat)(v:α)(hi:i<32768)(hj:j<32768):lR (yO x i v) j=if j=i then v else lR x j :=
 F8.mB (by omega) (fun m i j v hi hj=>yN m i j v hi hj) x i j v (by omega) (by omega)
def GH{α:Type}(x:α):Pb α:=F8.all (F8.all x)
def xD{α:Type}(x:α):A5 α:=F8.all (GH x)
def vZ{α:Type}(x:α):vf α:=F8.all (xD x)
def tO{α:Type}(x:α):pB α:=F8.all (vZ x)
def E7{α:Type}(x:α)(i:Nat):zM (GH x) i=x:=by simp[zM,GH,F8.getM,F8.q7]
def tw{α:Type}(x:α)(i:Nat):qh (xD x) i=x:=by simp[qh,xD,F8.getM,F8.q7,E7]
def Ar{α:Type}(x:α)(i:Nat):oP (vZ x) i=x:=by simp[oP,vZ,F8.getM,F8.q7,tw]
def xQ{α:Type}(x:α)(i:Nat):lR (tO x) i=x:=by simp[lR,tO,F8.getM,F8.q7,Ar]
def D6{α:Type}:WB (Nat×α)->Nat->WA α
 | [],_=>none
 |(i,v)::l,j=>if j=i then some v else D6 l j
structure Trie(α:Type) where
 lo:A5 (WA α)
 hi:WB (Nat×α)
def Trie.nil{α:Type}:Trie α:=⟨xD none,[]⟩
def Trie.get{α:Type}(t:Trie α)(n:Nat):WA α:=if n<512 then qh t.lo n else D6 t.hi n
def Trie.set{α:Type}(t:Trie α)(n:Nat)(v:α):Trie α:=if n<512 then{ t with lo:=wF t.lo n (some v)} else{ t with hi:=(n,v)::t.hi}
def Trie.get_nil{α:Type}(n:Nat):(Trie.nil:Trie α).get n=none:=by
 unfold Trie.get Trie.nil
 split
 exact tw _ _
 rfl
def Trie.bX{α:Type}(t:Trie α)(n m:Nat)(v:α):(t.set n v).get m=if m=n then some v else t.get m:=by
 unfold Trie.set Trie.get
 by_cases h1:n<512<;>by_cases h2:m<512<;>simp only[h1,h2,if_true,if_false]
 rw[tH _ _ _ _ h1 h2]
 rw[Vz]
 rw[Vz]
 rfl
structure Heap(α:Type) where
 lo:pB (WA α)
 hi:WB (Nat×α)
def Heap.nil{α:Type}:Heap α:=⟨tO none,[]⟩
def Heap.get{α:Type}(t:Heap α)(n:Nat):WA α:=if n<32768 then lR t.lo n else D6 t.hi n
def Heap.set{α:Type}(t:Heap α)(n:Nat)(v:α):Heap α:=if n<32768 then{ t with lo:=yO t.lo n (some v)} else{ t with hi:=(n,v)::t.hi}
def Heap.get_nil{α:Type}(n:Nat):(Heap.nil:Heap α).get n=none:=by
 unfold Heap.get Heap.nil
 split
 exact xQ _ _
 rfl
def Heap.bX{α:Type}(t:Heap α)(n m:Nat)(v:α):(t.set n v).get m=if m=n then some v else t.get m:=by
 unfold Heap.set Heap.get
 by_cases h1:n<32768<;>by_cases h2:m<32768<;>simp only[h1,h2,if_true,if_false]
 rw[xo _ _ _ _ h1 h2]
 rw[Vz]
 rw[Vz]
 rfl
def Trie.ofList{α:Type}:WB α->Nat->Trie α->Trie α
 | [],_,t=>t
 | v::vs,i,t=>Trie.ofList vs (i+1) (t.set i v)
abbrev Tm:=Trie Vs
def Tm.at(t:Tm)(i:Nat):Vs:=(Trie.get t i).getD undef
inductive Tag where
 | ro
 | own
 | more (sz:Nat)
 deriving DecidableEq
structure ALoop where
 state:LoopState
 pending:WA Code
 fn:WJ
 tmps:Tm
 n:Nat
 params:WD Tmp
 assign:Code
 body:Code
inductive V9 where
 | cells (cs:WB Vs) (tag:Tag)
 | map (es:WB (Vs×Vs))
 | loop (r:ALoop)
structure V7 where
 next:Nat
 wl:Nat
 bQ:Heap (WA V9)
 base:Nat->WA V9
def V7.get(m:V7)(b:Nat):WA V9 :=
 match m.bQ.get b with
 | some x=>x
 | none=>m.base b
def V7.set(m:V7)(b:Nat)(o:V9):V7:={ m with bQ:=m.bQ.set b (some o),wl:=min m.wl b}
def V7.kill(m:V7)(b:Nat):V7:={ m with bQ:=m.bQ.set b none,wl:=min m.wl b}
def V7.alloc(m:V7)(o:V9):V7:={ m with next:=m.next+1,bQ:=m.bQ.set m.next (some o)}
def ptr(b:Nat)(o:Nat):Vs:=.pointer (some ⟨b,o,none⟩)
def V7.cells(m:V7)(b:Nat):WA (WB Vs×Tag) :=
 match m.get b with
 | some (.cells cs tag)=>some (cs,tag)
 | _=>none
def V7.dK(m:V7)(b o n:Nat):WA (WB Vs) :=
 match m.get b with
 | some (.cells cs _)=>let l:=(cs.drop o).take n; if l.length=n then some l else none
 | _=>none
def aI:WB Vs->Nat->WB Vs->WB Vs
 | cs,0,[]=>cs
 | [],0,_=>[]
 | _::cs,0,v::vs=>v::aI cs 0 vs
 | [],_+1,_=>[]
 | c::cs,o+1,vs=>c::aI cs o vs
def V7.dj(m:V7)(b o:Nat)(vs:WB Vs):WA V7 :=
 match vs with
 | []=>some m
 | _=>match m.get b with
  | some (.cells _ .ro)=>none
  | some (.cells cs tag)=>if o+vs.length<=cs.length then some (m.set b (.cells (aI cs o vs) tag)) else none
  | _=>none
def lH:Vs->Bool
 | .agg _|.tuple _=>false
 | _=>true
def bo(vs:WB Vs):Bool:=vs.all lH
structure Prim where
 run:WB Vs->V7->WA (Vs×V7)
structure Env where
 P:Vv
 glob:Nat
 cQ:WJ->WA Prim
 mono:Prop:=True
def aL:Vs->Bool
 | .bool _|.int _ _|.string _|.pointer none|.slice none _ _|.map none|.nilFunc|.nilIface=>true
 | _=>false
def bw:Vs->Bool
 | .agg cs=>cs.toList.all aL
 | .tuple cs=>cs.toList.all aL
 | v=>aL v
def an(E:Env)(t:Tm):Vu->WA Vs
 | .tmp i=>some (t.at i)
 | .const v=>if bw v then some v else none
 | .global g=>if g<E.glob then some (ptr g 0) else none
 | .func f=>some (.func (.func f) #[] #[])
def bE(E:Env)(t:Tm):WB Vu->WA (WB Vs)
 | []=>some []
 | x::xs=>match an E t x,bE E t xs with
  | some v,some vs=>some (v::vs)
  | _,_=>none
def dZ(P:Vv)(t:Vt):Bool :=
 match P.underlying t with
 | some (.struct _)|some (.array _ _)=>true
 | _=>false
def known(P:Vv)(t:Vt):Bool:=(P.underlying t).isSome &&(P.info? t).isSome
def aA(P:Vv)(t:Vt):Nat:=P.cellsOf t
def bK(P:Vv)(t:Vt):WA Vs:=(P.info? t).bind (·.zero)
def eD(P:Vv)(t:Vt)(cs:WD Vs)(off:Nat):WA Vs :=
 if !known P t then none else
 if dZ P t then some (.agg (cs.extract off (off+aA P t)))
 else cs[off]?
def hZ(eq:Vt->Vs->Vs->WA Bool)(P:Vv)(xs ys:WD Vs):WB (Vt×Nat)->WA Bool
 | []=>some true
 | (t,off)::rest =>
  match eD P t xs off,eD P t ys off with
  | some x,some y=>match eq t x y with
   | some true=>hZ eq P xs ys rest
   | r=>r
  | _,_=>none
def kX(P:Vv):Nat->Vt->Vs->Vs->WA Bool
 | 0,_,_,_=>none
 | d+1,t,x,y =>
  match P.underlying t,x,y with
  | some .bool,.bool a,.bool b=>some (a==b)
  | some (.int _),.int k a,.int k' b=>if k=k' then some (a==b) else none
  | some .string,.string a,.string b=>some (a==b)
  | some (.pointer _),.pointer none,.pointer b=>some b.isNone
  | some (.pointer _),.pointer (some _),.pointer none=>some false
  | some (.slice _),.slice none _ _,.slice b _ _=>some b.isNone
  | some (.slice _),.slice (some _) _ _,.slice none _ _=>some false
  | some (.map _ _),.map none,.map b=>some b.isNone
  | some (.map _ _),.map (some _),.map none=>some false
  | some (.func _ _ _),.nilFunc,.nilFunc=>some true
  | some (.func _ _ _),.nilFunc,.func _ _ _=>some false
  | some (.func _ _ _),.func _ _ _,.nilFunc=>some false
  | some (.struct fs),.agg xs,.agg ys =>
   if P.stoodInHeld t || fs.any (·.name == "_") then none else
   hZ (kX P d) P xs ys (fs.toList.map fun f=>(f.type,f.offset))
  | some (.array len elem),.agg xs,.agg ys=>if known P elem then hZ (kX P d) P xs ys ((List.range len).map fun i=>(elem,i*aA P elem)) else none
  | _,_,_=>none
def bf(op:BinOp)(xType:Vt)(P:Vv)(x y:Vs):WA Vs :=
 match op,x,y with
 | .shl,.int k a,.int _ b=>if b<0 then none else some (.int k (k.wrap (a*2 ^ (min b.toNat k.bits))))
 | .shr,.int k a,.int _ b=>if b<0 then none else some (.int k (a.fdiv (2 ^ (min b.toNat k.bits))))
 | .eql,.int k a,.int k' b=>if k=k' then some (.bool (a==b)) else none
 | .neq,.int k a,.int k' b=>if k=k' then some (.bool (a != b)) else none
 | .lss,.int k a,.int k' b=>if k=k' then some (.bool (decide (a<b))) else none
 | .leq,.int k a,.int k' b=>if k=k' then some (.bool (decide (a<=b))) else none
 | .gtr,.int k a,.int k' b=>if k=k' then some (.bool (decide (a>b))) else none
 | .geq,.int k a,.int k' b=>if k=k' then some (.bool (decide (a≥b))) else none
 | .add,.int k a,.int k' b=>if k=k' then some (.int k (k.wrap (a+b))) else none
 | .sub,.int k a,.int k' b=>if k=k' then some (.int k (k.wrap (a-b))) else none
 | .mul,.int k a,.int k' b=>if k=k' then some (.int k (k.wrap (a*b))) else none
 | .quo,.int k a,.int k' b=>if k=k' then(if b=0 then none else some (.int k (k.wrap (a.tdiv b)))) else none
 | .rem,.int k a,.int k' b=>if k=k' then(if b=0 then none else some (.int k (a.tmod b))) else none
 | .and,.int k a,.int k' b=>if k=k' then some (.int k (k.wrap (BitVec.ofInt k.bits a &&& BitVec.ofInt k.bits b).toNat)) else none
 | .or,.int k a,.int k' b=>if k=k' then some (.int k (k.wrap (BitVec.ofInt k.bits a ||| BitVec.ofInt k.bits b).toNat)) else none
 | .xor,.int k a,.int k' b=>if k=k' then some (.int k (k.wrap (BitVec.ofInt k.bits a ^^^ BitVec.ofInt k.bits b).toNat)) else none
 | .andNot,.int k a,.int k' b=>if k=k' then some (.int k (k.wrap (BitVec.ofInt k.bits a &&& ~~~ BitVec.ofInt k.bits b).toNat)) else none
 | .eql,.string a,.string b=>some (.bool (a==b))
 | .neq,.string a,.string b=>some (.bool (a != b))
 | _,.string _,_=>none
 | .eql,.agg xs,.agg ys=>if P.eqGuardType P.depth xType then none else(kX P Op.maxDepth xType (.agg xs) (.agg ys)).map .bool
 | .neq,.agg xs,.agg ys=>if P.eqGuardType P.depth xType then none else(kX P Op.maxDepth xType (.agg xs) (.agg ys)).map fun b=>.bool (!b)
 | .eql,x,y=>match x with
  | .bool _|.pointer _|.slice _ _ _|.map _|.func _ _ _|.nilFunc=>(kX P Op.maxDepth xType x y).map .bool
  | _=>none
 | .neq,x,y=>match x with
  | .bool _|.pointer _|.slice _ _ _|.map _|.func _ _ _|.nilFunc=>(kX P Op.maxDepth xType x y).map fun b=>.bool (!b)
  | _=>none
 | _,_,_=>none
def BL(op:UnOp)(x:Vs):WA Vs :=
 match op,x with
 | .neg,.int k n=>some (.int k (k.wrap (0-n)))
 | .xor,.int k n=>some (.int k (k.wrap (BitVec.ofInt k.bits (if k.signed then -1 else k.max) ^^^ BitVec.ofInt k.bits n).toNat))
 | .not,.bool b=>some (.bool !b)
 | _,_=>none
def fI(P:Vv)(src dst:Vt)(x:Vs):WA Vs :=
 match P.underlying src,P.underlying dst,x with
 | some _,some (.int k),.int _ n=>some (.int k (k.wrap n))
 | some _,some .string,.string s=>some (.string s)
 | _,_,_=>none
def gS(place:Nat->WA (Nat×Nat))(cells:WB Vs):WB (Nat×Vs)->WA (WB Vs)
 | []=>some cells
 | (i,v)::rest =>
  match place i with
  | none=>none
  | some (off,size) =>
   if v.cells.size≠size||off+v.cells.size>cells.length then none
   else gS place (aI cells off v.cells.toList) rest
def df(E:Env)(t:Tm):WB (Nat×Vu)->WA (WB (Nat×Vs))
 | []=>some []
 |(i,x)::xs=>match an E t x,df E t xs with
  | some v,some vs=>some ((i,v)::vs)
  | _,_=>none
def kC(P:Vv)(t:Vt)(parts:WB (Nat×Vs)):WA Vs :=
 match bK P t,P.underlying t with
 | some z,some (.struct fields) =>
  if fields.toList.all (fun f=>known P f.type) then
   (gS (fun i=>(fields[i]?).map fun f=>(f.offset,aA P f.type)) z.cells.toList parts).map fun cs=>.agg cs.toArray
  else none
 | some z,some (.array _ elem) =>
  if known P elem then(gS (fun i=>some (i*aA P elem,aA P elem)) z.cells.toList parts).map fun cs=>.agg cs.toArray else none
 | _,_=>none
def cb(zero:WB Vs):Nat->WB Vs
 | 0=>[]
 | n+1=>zero++cb zero n
def fH(P:Vv)(elem:Vt)(n:Nat):WA (WB Vs) :=
 match bK P elem with
 | some z=>if z.cells.size=aA P elem then some (cb z.cells.toList n) else none
 | none=>none
def kD(x:Vs)(y:Nat):WA Nat :=
 match x with
 | .int _ i=>if 0<=i/\i<=y then some i.toNat else none
 | _=>none
def eQ(len cap:Nat)(low high max:WA Vs):WA (Nat×Nat×Nat) :=
 match(match max with|some v=>kD v cap|none=>some cap) with
 | none=>none
 | some m =>
  match(match high,max with|some v,_=>kD v m|none,none=>some len|none,some _=>none) with
  | none=>none
  | some h =>
   match(match low with|some v=>kD v h|none=>some 0) with
   | none=>none
   | some l=>some (l,h,m)
def gG(b:Nat):Vs:=.slice (some ⟨b,0,some 0⟩) 0 0
def di(E:Env)(t:Tm):WA Vu->WA (WA Vs)
 | none=>some none
 | some x=>(an E t x).map some
def cE(P:Vv)(xType:Vt)(x:Vs)(low high max:WA Vs)(m:V7):WA Vs :=
 match P.underlying xType,x with
 | some (.slice elem),.slice none len cap =>
  if known P elem then
   match eQ len cap low high max with
   | some (l,h,mx)=>some (.slice none (h-l) (mx-l))
   | none=>none
  else none
 | some (.slice elem),.slice (some ⟨b,o,none⟩) len cap =>
  if known P elem then
   match m.get b with
   | some (.cells _ (.more sz)) =>
    if sz≠aA P elem then none else
    match max with
    | none=>match eQ len cap low high none with
     | some (l,h,_)=>if cap=l then some (gG b) else some (.slice (some ⟨b,o+l*aA P elem,none⟩) (h-l) (cap-l))
     | none=>none
    | some mv =>
     match eQ len cap low high (some mv) with
     | some (l,h,mx)=>if mx=l/\h=l then some (.slice (some ⟨b,0,some 1⟩) 0 0) else some (.complex .f64 0 0)
     | none=>none
   | some (.cells _ _) =>
    match eQ len cap low high max with
    | some (l,h,mx)=>some (.slice (some (if mx=l then⟨b,o,none⟩ else⟨b,o+l*aA P elem,none⟩)) (h-l) (mx-l))
    | none=>none
   | _=>none
  else none
 | some (.slice elem),.slice (some ⟨b,_,some sp⟩) 0 0 =>
  if known P elem then
   match eQ 0 0 low high max with
   | some _=>some (.slice (some ⟨b,0,some sp⟩) 0 0)
   | none=>none
  else none
 | some (.array n elem),.pointer (some ⟨b,o,none⟩) =>
  if known P elem then
   match m.get b with
   | some (.cells _ (.more _))=>none
   | some (.cells _ _) =>
    match eQ n n low high max with
    | some (l,h,mx)=>some (.slice (some (if mx=l then⟨b,o,none⟩ else⟨b,o+l*aA P elem,none⟩)) (h-l) (mx-l))
    | none=>none
   | _=>none
  else none
 | _,_=>none
def aM(P:Vv)(s:Vt)(x:Vs)(f:Nat):WA Vs :=
 match P.underlying s,x with
 | some (.struct fields),.pointer (some ⟨b,o,none⟩) =>
  match fields[f]? with
  | some fl=>if known P fl.type&&aA P fl.type != 0 then some (ptr b (o+fl.offset)) else none
  | none=>none
 | _,_=>none
def bJ(P:Vv)(t:Vt)(x index:Vs):WA Vs :=
 match P.underlying t,x,index with
 | some (.array len elem),.pointer (some ⟨b,o,none⟩),.int _ i =>
  if known P elem&&decide (0<=i/\i<len) then some (ptr b (o+i.toNat*aA P elem)) else none
 | some (.slice elem),.slice (some ⟨b,o,none⟩) len _,.int _ i =>
  if known P elem&&decide (0<=i/\i<len) then some (ptr b (o+i.toNat*aA P elem)) else none
 | _,_,_=>none
def Es(P:Vv)(t:Vt)(x:Vs):WA Vs :=
 match P.underlying t,x with
 | some (.array n _),.slice (some ⟨b,o,none⟩) len _=>if n<=len then some (ptr b o) else none
 | _,_=>none
def eS(P:Vv)(t:Vt)(x index:Vs):WA Vs :=
 match P.underlying t,x,index with
 | some (.array len elem),.agg cs,.int _ i=>if 0<=i/\i<len then eD P elem cs (i.toNat*aA P elem) else none
 | some .string,.string s,.int _ i=>if 0<=i then(s[i.toNat]?).map fun b=>.int .u8 b.toNat else none
 | _,_,_=>none
def eW(P:Vv)(t:Vt)(x:Vs)(f:Nat):WA Vs :=
 match P.underlying t,x with
 | some (.struct fields),.agg cs =>
  match fields[f]? with
  | some fl=>eD P fl.type cs fl.offset
  | none=>none
 | _,_=>none
def dG(P:Vv)(t:Vt)(a:Vs)(m:V7):WA Vs :=
 match a with
 | .pointer (some ⟨b,o,none⟩) =>
  if !known P t then none else
  if dZ P t then(m.dK b o (aA P t)).map fun cs=>.agg cs.toArray
  else match m.get b with
   | some (.cells cs _)=>cs[o]?
   | _=>none
 | _=>none
def fj(P:Vv)(t:Vt)(a v:Vs)(m:V7):WA V7 :=
 match a with
 | .pointer (some ⟨b,o,none⟩) =>
  if known P t&&v.cells.size==aA P t&&bo v.cells.toList then m.dj b o v.cells.toList else none
 | _=>none
def iZ(P:Vv)(keyType:Vt)(k:Vs):WB (Vs×Vs)->Nat->WA (WA (Nat×Vs))
 | [],_=>some none
 | e::es,i =>
  match kX P Op.maxDepth keyType k e.1 with
  | some true=>some (some (i,e.2))
  | some false=>iZ P keyType k es (i+1)
  | none=>none
def gv(P:Vv)(t:Vt):Bool :=
 match P.underlying t with
 | some (.int _)|some .string|some .bool=>true
 | _=>false
def iY(P:Vv)(t:Vt)(v:Vs):Bool :=
 match P.underlying t,v with
 | some (.int _),.int _ _|some .string,.string _|some .bool,.bool _=>true
 | some (.array len elem),.agg cs=>gv P elem&&known P elem&&aA P elem==1&&cs.size==len&&cs.toList.all aL
 | some (.struct fs),.agg cs=>fs.toList.all (fun f=>gv P f.type&&known P f.type&&decide (f.offset<cs.size))&&cs.toList.all aL
 | _,_=>false
def mapOf(m:V7)(x:Vs):WA (WB (Vs×Vs)) :=
 match x with
 | .map none=>some []
 | .map (some r)=>match m.get r with
  | some (.map es)=>some es
  | _=>none
 | _=>none
def dQ(P:Vv)(xType:Vt)(x index:Vs)(commaOk:Bool)(m:V7):WA Vs :=
 match P.underlying xType with
 | some (.map key elem) =>
  match mapOf m x,bK P elem with
  | some es,some z =>
   if iY P key index then
    match iZ P key index es 0 with
    | some (some (_,v))=>some (if commaOk then .tuple #[v,.bool true] else v)
    | some none=>if bw z then some (if commaOk then .tuple #[z,.bool false] else z) else none
    | none=>none
   else none
  | _,_=>none
 | _=>none
def nr:WB (Vs×Vs)->Nat->Vs->Vs->WB (Vs×Vs)
 | [],_,k,v=>[(k,v)]
 | _::es,0,k,v=>(k,v)::es
 | e::es,n+1,k,v=>e::nr es n k v
def o9(es:WB (Vs×Vs))(i:Nat)(key:Vs):Bool :=
 match es[i]? with
 | some e=>bw e.1&&Instr.sameBits 10000 e.1 key
 | none=>false
def eF(P:Vv)(mapType:Vt)(x key value:Vs)(m:V7):WA V7 :=
 match P.underlying mapType,x with
 | some (.map kt _),.map (some r) =>
  match m.get r with
  | some (.map es) =>
   if iY P kt key then
    match iZ P kt key es 0 with
    | some (some (i,_)) =>
     if o9 es i key then some (m.set r (.map (nr es i key value))) else none
    | some none=>some (m.set r (.map (es++[(key,value)])))
    | none=>none
   else none
  | _=>none
 | _,_=>none
def qT(P:Vv)(mapType:Vt)(x key:Vs)(m:V7):WA V7 :=
 match P.underlying mapType,x with
 | some (.map kt _),.map (some r) =>
  match m.get r with
  | some (.map es) =>
   if iY P kt key then
    match iZ P kt key es 0 with
    | some (some (i,_))=>some (m.set r (.map (es.eraseIdx i)))
    | some none=>some m
    | none=>none
   else none
  | _=>none
 | _,_=>none
def cd(sz:Nat)(x:Vs)(n:Nat)(m:V7):WA (WB Vs) :=
 match x with
 | .slice none _ _=>if n=0 then some [] else none
 | .slice (some ⟨b,o,none⟩) _ _=>if n=0 then some [] else m.dK b o (n*sz)
 | .slice (some ⟨_,_,some _⟩) _ _=>if n=0 then some [] else none
 | _=>none
def gp(bytes need:Nat):Bool:=(2*need+2000)*bytes<=2 ^ 48
def iK(P:Vv)(elem:Vt)(xType:WA Vt)(x:Vs)(m:V7):WA (Nat×WB Vs) :=
 match xType.bind P.underlying,x with
 | some (.slice _),.slice a l c=>(cd (aA P elem) (.slice a l c) l m).map fun cs=>(l,cs)
 | some (.int _),.int _ l=>if 0<=l/\l<=2 ^ 40 then(fH P elem l.toNat).bind fun zs=>if zs.all aL then some (l.toNat,zs) else none else none
 | _,_=>none
def dB (P:Vv) (sType:Vt) (xType:WA Vt) (s x:Vs) (m:V7):WA (Vs × V7) :=
 match P.underlying sType,s,iK P (match P.underlying sType with|some (.slice e)=>e|_=>0) xType x m with
 | some (.slice elem),.slice base len cap,some (n,new) =>
  let sz:=aA P elem
  if !(known P elem)||sz==0 || !bo new || !(P.info? elem).any (fun i=>gp i.bytes (len+n)&&i.bytes != 0)||new.length != n*sz || !(bK P elem).any (fun z=>z.cells.size==sz&&z.cells.toList.all aL) then none else
  match base with
  | none =>
   if len≠0\/cap≠0 then none else
   if n=0 then some (.slice none 0 0,m)
   else some (.slice (some ⟨m.next,0,none⟩) n n,m.alloc (.cells new (.more sz)))
  | some ⟨b,o,none⟩ =>
   match m.get b with
   | some (.cells cs tag) =>
    if len+n<=cap then
     (m.dj b (o+len*sz) new).map fun m'=>(.slice (some ⟨b,o,none⟩) (len+n) cap,m')
    else match tag with
     | .more sz' =>
      if sz'=sz/\o=0 then
       let old:=cs.take (len*sz)
       if old.length=len*sz then some (.slice (some ⟨m.next,0,none⟩) (len+n) (len+n),(m.kill b).alloc (.cells (old++new) (.more sz))) else none
      else none
     | _ =>
      match m.dK b o (len*sz) with
      | some old=>some (.slice (some ⟨m.next,0,none⟩) (len+n) (len+n),m.alloc (.cells (old++new) (.more sz)))
      | none=>none
   | _=>none
  | some ⟨b,_,some 1⟩ =>
   if len≠0\/cap≠0 then none else
   if n=0 then some (.slice (some ⟨b,0,some 1⟩) 0 0,m)
   else some (.slice (some ⟨m.next,0,none⟩) n n,m.alloc (.cells new (.more sz)))
  | _=>if len=0/\cap=0/\n=0 then some (s,m) else none
 | _,_,_=>none
def td(P:Vv)(dType:Vt)(dst src:Vs)(m:V7):WA (Vs×V7) :=
 match P.underlying dType,dst,src with
 | some (.slice elem),.slice base dLen _,.slice _ sLen _ =>
  let n:=min sLen dLen
  if !(known P elem) then none else
  match cd (aA P elem) src n m with
  | none=>none
  | some cells =>
   if !bo cells then none else
   match base,n with
   | _,0=>some (.int .i64 0,m)
   | some ⟨b,o,none⟩,n+1=>(m.dj b o cells).map fun m'=>(.int .i64 (n+1:Nat),m')
   | _,_=>none
 | _,_,_=>none
def AT(P:Vv)(t:Vt)(x:Vs)(m:V7):WA (Vs×V7) :=
 match P.underlying t,x with
 | some (.slice _),.slice _ 0 _=>some (.tuple #[],m)
 | some (.slice elem),.slice (some ⟨b,o,none⟩) n _ =>
  match fH P elem n with
  | some zs=>if zs.all aL then(m.dj b o zs).map fun m'=>(.tuple #[],m') else none
  | none=>none
 | _,_=>none
def eg(f:Int->Int->Int):IntKind->Int->WB Vs->WA Vs
 | k,a,[]=>some (.int k a)
 | k,a,.int _ b::vs=>eg f k (f a b) vs
 | _,_,_=>none
def bp(P:Vv)(b:Builtin)(argTypes:WD Vt)(args:WB Vs)(m:V7):WA (Vs×V7) :=
 match b,args with
 | .len,[x] =>
  match(argTypes[0]?).bind P.underlying,x with
  | some .string,.string s=>some (.int .i64 s.size,m)
  | some (.array n _),_=>some (.int .i64 n,m)
  | some (.pointer a),_=>match P.underlying a with
   | some (.array n _)=>some (.int .i64 n,m)
   | _=>none
  | some (.slice _),.slice _ n _=>some (.int .i64 n,m)
  | some (.map _ _),x=>(mapOf m x).map fun es=>(.int .i64 es.length,m)
  | _,_=>none
 | .cap,[x] =>
  match(argTypes[0]?).bind P.underlying,x with
  | some (.slice _),.slice none _ n=>some (.int .i64 n,m)
  | some (.slice _),.slice (some ⟨b,_,none⟩) _ n=>match m.get b with
   | some (.cells _ (.more _))=>none
   | some (.cells _ _)=>some (.int .i64 n,m)
   | _=>none
  | _,_=>none
 | .append,[s,x]=>match argTypes[0]? with
  | some t=>dB P t argTypes[1]? s x m
  | none=>none
 | .copy,[d,s]=>match argTypes[0]? with
  | some t=>td P t d s m
  | none=>none
 | .clear,[x]=>match argTypes[0]? with
  | some t=>AT P t x m
  | none=>none
 | .delete,[x,k]=>match argTypes[0]? with
  | some t=>(qT P t x k m).map fun m'=>(.tuple #[],m')
  | none=>none
 | .max,.int k a::vs=>(eg (fun x y=>if y>x then y else x) k a vs).map fun v=>(v,m)
 | .min,.int k a::vs=>(eg (fun x y=>if y<x then y else x) k a vs).map fun v=>(v,m)
 | _,_=>none
def cH(E:Env)(t:Tm)(m:V7)(o:Op):WA (Vs×V7) :=
 let P:=E.P
 match o with
 | .move x|.assign x=>(an E t x).map fun v=>(v,m)
 | .pick c a b=>match an E t c with
  | some (.bool true)=>(an E t a).map fun v=>(v,m)
  | some (.bool false)=>(an E t b).map fun v=>(v,m)
  | _=>none
 | .alloc elem=>match bK P elem with
  | some z=>if bw z then some (ptr m.next 0,m.alloc (.cells z.cells.toList .own)) else none
  | none=>none
 | .box _ x=>(an E t x).map fun v=>(ptr m.next 0,m.alloc (.cells v.cells.toList .own))
 | .build ty parts=>match df E t parts.toList,bK P ty with
  | some ps,some z=>if bw z then(kC P ty ps).map fun v=>(v,m) else none
  | _,_=>none
 | .buildSlice ty len parts =>
  match P.underlying ty,df E t parts.toList with
  | some (.slice elem),some ps =>
   let sz:=aA P elem
   if !(known P elem)||len*sz>2 ^ 24 then none else
   match fH P elem len with
   | some zs=>if zs.all aL then(gS (fun i=>some (i*sz,sz)) zs ps).map fun cs=>(.slice (some ⟨m.next,0,none⟩) len len,m.alloc (.cells cs .own)) else none
   | none=>none
  | _,_=>none
 | .load ty a=>match an E t a with
  | some p=>(dG P ty p m).map fun v=>(v,m)
  | none=>none
 | .store ty a x=>match an E t a,an E t x with
  | some p,some v=>(fj P ty p v m).map fun m'=>(undef,m')
  | _,_=>none
 | .nilCheck x=>match an E t x with
  | some (.pointer (some a))=>some (.pointer (some a),m)
  | some (.func (.func f) a b)=>some (.func (.func f) a b,m)
  | some (.func (.yield f) a b)=>some (.func (.yield f) a b,m)
  | _=>none
 | .binOp op xType x y _=>match an E t x,an E t y with
  | some a,some b=>(bf op xType P a b).map fun v=>(v,m)
  | _,_=>none
 | .unOp op _ x=>match an E t x with
  | some a=>(BL op a).map fun v=>(v,m)
  | none=>none
 | .convert src dst x=>match an E t x with
  | some a=>(fI P src dst a).map fun v=>(v,m)
  | none=>none
 | .makeFunc (.func f) first captured=>match bE E t first.toList,bE E t captured.toList with
  | some fs,some cs=>some (.func (.func f) fs.toArray cs.toArray,m)
  | _,_=>none
 | .makeMap _ none=>some (.map (some m.next),m.alloc (.map []))
 | .makeSlice ty len cap=>match P.underlying ty,an E t len,an E t cap with
  | some (.slice elem),some (.int .i64 l),some (.int .i64 c) =>
   if 0<=l/\l<=c/\(P.info? elem).any (fun i=>i.bytes*c<=2 ^ 40&&i.bytes != 0)/\known P elem then
    match fH P elem c.toNat with
    | some zs=>if zs.all aL then some (.slice (some ⟨m.next,0,none⟩) l.toNat c.toNat,m.alloc (.cells zs .own)) else none
    | none=>none
   else none
  | _,_,_=>none
 | .slice ty x lo hi mx=>match an E t x,di E t lo,di E t hi,di E t mx with
  | some v,some l,some h,some k=>(cE P ty v l h k m).map fun v=>(v,m)
  | _,_,_,_=>none
 | .fieldAddr s x f=>match an E t x with
  | some v=>(aM P s v f).map fun v=>(v,m)
  | none=>none
 | .field ty x f=>match an E t x with
  | some v=>(eW P ty v f).map fun v=>(v,m)
  | none=>none
 | .sliceToArrayPointer ty x=>match an E t x with
  | some v=>(Es P ty v).map fun v=>(v,m)
  | none=>none
 | .indexAddr ty x i=>match an E t x,an E t i with
  | some v,some n=>(bJ P ty v n).map fun v=>(v,m)
  | _,_=>none
 | .index ty x i=>match an E t x,an E t i with
  | some v,some n=>(eS P ty v n).map fun v=>(v,m)
  | _,_=>none
 | .lookup ty x i ok=>match an E t x,an E t i with
  | some v,some n=>(dQ P ty v n ok m).map fun v=>(v,m)
  | _,_=>none
 | .mapUpdate ty x k v|.insert ty x k v=>match an E t x,an E t k,an E t v with
  | some x,some k,some v=>(eF P ty x k v m).map fun m'=>(undef,m')
  | _,_,_=>none
 | .extract x i=>match an E t x with
  | some (.tuple vs)=>(vs[i]?).map fun v=>(v,m)
  | _=>none
 | .call c=>match c.callee with
  | .builtin b=>match bE E t c.args.toList with
   | some vs=>bp P b c.argTypes vs m
   | none=>none
  | _=>none
 | _=>none
def aE:Op->Bool
 | .store .. | .mapUpdate .. | .insert ..=>true
 | .call c=>match c.callee with
  | .builtin .append|.builtin .copy|.builtin .delete|.builtin .clear=>true
  | .builtin _=>false
  | _=>true
 | _=>false
def oD:Op->Bool
 | .load .. | .lookup .. | .slice ..=>true
 | .call c=>match c.callee with
  | .builtin .len|.builtin .cap=>true
  | _=>false
 | _=>false
def tmpsOf:WB Vu->WB Tmp
 | []=>[]
 | .tmp t::xs=>t::tmpsOf xs
 | _::xs=>tmpsOf xs
def looks(ops:WD Oper)(o:Oper):WB Tmp :=
 tmpsOf o.op.operands.toList++(match o.guard with
  | some (g,_)=>((ops[g]?).bind (·.dst)).toList
  | none=>[])
def CW(ops:WD Oper):WB Nat:=(Region.before ops).toList
def rj(ops:WD Oper)(a b:Oper):Bool :=
 !(aE a.op&&aE b.op) &&
 (match a.dst with
  | some d=>!(looks ops b).contains d&&b.dst != some d
  | none=>true) &&
 (match b.dst with
  | some d=>!(looks ops a).contains d
  | none=>true)
def clash(a b:Oper):Bool:=(aE a.op&&oD b.op) ||(oD a.op&&aE b.op)
def wu:WB Nat->Bool
 | []=>true
 | x::xs=>!xs.contains x&&wu xs
def ff(o:Oper):WB Nat:=o.after.toList.filterMap fun e=>if Region.binds .any e then some e.on else none
def xa(ops:WD Oper)(bs:WB Nat):Bool :=
 wu (ops.toList.filterMap (·.dst)) &&
 (List.range ops.size).all fun j =>
  (ff (ops.getD j default)).all (fun e=>decide (e<j)) &&
  (match(ops.getD j default).guard with
   | none=>true
   | some (g,_)=>decide (g<j) &&(bs.getD j 0).testBit g) &&
  (List.range j).all fun i =>
   if(bs.getD j 0).testBit i then(ff (ops.getD j default)).any (fun e=>e==i ||(Nat.blt i e &&(bs.getD e 0).testBit i))
   else rj ops (ops.getD i default) (ops.getD j default)
def mA(ops:WD Oper)(bs:WB Nat):WB (Nat×Nat) :=
 (List.range ops.size).flatMap fun j=>((List.range j).filter fun i=>!(bs.getD j 0).testBit i&&clash (ops.getD i default) (ops.getD j default)).map fun i=>(i,j)
def jj(ops:WD Oper):WA (WB (Nat×Nat)) :=
 if xa ops (CW ops) then some (mA ops (CW ops)) else none
def fO:Vs->WA Nat
 | .pointer (some a)=>some a.block
 | .slice (some a) _ _=>some a.block
 | .map (some r)=>some r
 | _=>none
def aP(E:Env)(t:Tm)(o:Op):WA Nat :=
 match o with
 | .load _ a=>(an E t a).bind fO
 | .lookup _ x _ _=>(an E t x).bind fO
 | .slice _ x _ _ _=>(an E t x).bind fO
 | .call c=>match c.callee with
  | .builtin .len|.builtin .cap=>match bE E t c.args.toList with
   | some [v]=>fO v
   | _=>none
  | _=>none
 | _=>none
def dU(E:Env)(t:Tm)(o:Op):WA Nat :=
 match o with
 | .store _ a _=>match an E t a with
  | some (.pointer (some a))=>some a.block
  | _=>none
 | _=>none
def pG:Vs->Vs->Bool
 | .int k a,.int k' b=>decide (k=k')&&decide (a=b)
 | .bool a,.bool b=>a==b
 | .slice a l c,.slice a' l' c'=>decide (a=a') &&(Nat.beq l l'&&Nat.beq c c')
 | .map a,.map b=>decide (a=b)
 | .pointer a,.pointer b=>decide (a=b)
 | _,_=>false
def rK:WB Vs->WB Vs->Bool
 | [],[]=>true
 | v::vs,u::us=>pG v u&&rK vs us
 | _,_=>false
def vL:Vs->Vs->Bool
 | .func (.func f) a c,.func (.func f') a' c'=>Nat.beq f f' &&(rK a.toList a'.toList&&rK c.toList c'.toList)
 | v,u=>pG v u
def qu:WB Vs->WB Vs->Bool
 | [],[]=>true
 | v::vs,u::us=>vL v u&&qu vs us
 | _,_=>false
def xw:WB (Vs×Vs)->WB (Vs×Vs)->Bool
 | [],[]=>true
 | v::vs,u::us=>vL v.1 u.1&&vL v.2 u.2&&xw vs us
 | _,_=>false
def DX:WA V9->WA V9->Bool
 | some (.cells cs t),some (.cells cs' t')=>decide (t=t')&&qu cs cs'
 | some (.map es),some (.map es')=>xw es es'
 | _,_=>false
noncomputable def gQ (m m':V7) (b:Nat):Bool:=DX (m.get b) (m'.get b)||@decide (m.get b=m'.get b) (Classical.propDecidable _)
structure Note where
 read:WA Nat
 wl:Nat
 next:Nat
 wrote:WA Nat
 kept:Nat->Bool
def Note.ok(r e:Note):Bool :=
 match r.read with
 | none=>true
 | some b=>decide (b<e.wl)||decide (e.next<=b) ||(match e.wrote with
  | some b'=>b != b'
  | none=>false)||e.kept b
def db(a:Note):Bool :=
 match a.read with
 | none=>true
 | some b=>Nat.blt b a.next
def dv(notes:WB Note)(ops:WD Oper)(p:Nat×Nat):Bool :=
 match notes[p.1]?,notes[p.2]? with
 | some a,some b =>
  (!(aE (ops.getD p.2 default).op)||Note.ok a b) &&(!(aE (ops.getD p.1 default).op)||Note.ok b a)
 | _,_=>false
inductive V8 where
 | normal
 | exit (id:Nat)
 | ret
 deriving DecidableEq
structure Fr where
 tmps:Tm
 n:Nat
 fn:WJ
 round:WA Nat
inductive Task where
 | code (c:Code) (fr:Fr) (m:V7)
 | loop (c:Code) (fr:Fr) (m:V7)
 | call (f:WJ) (args:WB Vs) (m:V7)
 | round (l:Nat) (args:WB Vs) (m:V7)
inductive Res where
 | code (e:V8) (t:Tm) (m:V7)
 | val (v:Vs) (m:V7)
abbrev K:=Task->WA Res
def gb(n:Nat)(t:Tm)(dst:WA Tmp)(v:Vs):WA Tm :=
 match dst with
 | some d=>match Nat.blt d n with
  | true=>some (t.set d v)
  | false=>none
 | none=>some t
def dY(k:K)(E:Env)(t:Tm)(m:V7)(o:Op):WA (Vs×V7) :=
 match o with
 | .call c=>match c.callee with
  | .value f=>match an E t f,bE E t c.args.toList with
   | some (.func (.func g) first captured),some args=>match k (.call g (first.toList++args++captured.toList) m) with
    | some (.val v m')=>some (v,m')
    | _=>none
   | some (.func (.yield l) first _),some args=>match k (.round l (first.toList++args) m) with
    | some (.val v m')=>some (v,m')
    | _=>none
   | _,_=>none
  | _=>cH E t m o
 | _=>cH E t m o
def cP(ops:WD Oper)(t:Tm)(j:Nat):WA Bool :=
 match((ops[j]?).bind (·.dst)) with
 | some d=>match t.get d with
  | some (.bool b)=>some b
  | _=>none
 | none=>none
def aU(ops:WD Oper)(o:Oper)(t:Tm):Bool :=
 match o.guard with
 | none=>true
 | some (j,want)=>match cP ops t j with
  | some b=>b==want
  | none=>false
def iu(k:K)(E:Env)(n:Nat)(ops:WD Oper):WB Oper->Tm->V7->WA (Tm×V7)
 | [],t,m=>some (t,m)
 | o::os,t,m =>
  if aU ops o t then
   match dY k E t m o.op with
   | some (v,m')=>match gb n t o.dst v with
    | some t'=>iu k E n ops os t' m'
    | none=>none
   | none=>none
  else match gb n t o.dst undef with
   | some t'=>iu k E n ops os t' m
   | none=>none
noncomputable def dC (k:K) (E:Env) (n:Nat) (ops:WD Oper):WB Oper->Tm->V7->WA (Tm×V7×WB Note)
 | [],t,m=>some (t,m,[])
 | o::os,t,m =>
  if aU ops o t then
   match dY k E t { m with wl:=m.next} o.op with
   | some (v,m')=>match gb n t o.dst v with
    | some t1=>match dC k E n ops os t1 { m' with wl:=min m.wl m'.wl} with
     | some (t',m'',ns)=>some (t',m'',{ read:=aP E t o.op,wl:=m'.wl,next:=m.next,wrote:=dU E t o.op,kept:=gQ m m'}::ns)
     | none=>none
    | none=>none
   | none=>none
  else match gb n t o.dst undef with
   | some t1=>match dC k E n ops os t1 m with
    | some (t',m'',ns)=>some (t',m'',{ read:=none,wl:=m.next,next:=m.next,wrote:=none,kept:=fun _=>false}::ns)
    | none=>none
   | none=>none
def bT(E:Env)(t:Tm)(m:V7):WB ResultVar->WA (WB Vs)
 | []=>some []
 | .tmp i::rs=>(bT E t m rs).map fun vs=>t.at i::vs
 | .cell a ty::rs=>match dG E.P ty (t.at a) m,bT E t m rs with
  | some v,some vs=>some (v::vs)
  | _,_=>none
def fg:WB Vs->Vs
 | [v]=>v
 | vs=>.tuple vs.toArray
def fu(n:Nat)(t:Tm):WB Tmp->WB Vs->WA Tm
 | p::ps,v::vs=>match Nat.blt p n with
  | true=>fu n (t.set p v) ps vs
  | false=>none
 | _,_=>some t
def xy:V8->WA Code
 | .normal=>none
 | .exit id=>some (.exit id)
 | .ret=>some .ret
def jU(E:Env)(fr:Fr)(m:V7)(f:Vu):Bool :=
 (match an E fr.tmps f with
  | some (.func (.func g) _ _)=>(E.cQ g).isNone
  | _=>false) &&
 (match fr.round with
  | none=>true
  | some l=>match m.get l with
   | some (.loop _)=>true
   | _=>false)
def mT(E:Env)(f:WJ)(args:WB Vs)(m:V7):WA (Vs×V7):=(E.cQ f).bind fun p=>p.run args m
noncomputable def step (E:Env) (k:K):Task->WA Res
 | .code c fr m =>
  match c with
  | .skip=>some (.code .normal fr.tmps m)
  | .label _=>some (.code .normal fr.tmps m)
  | .seq a b=>match k (.code a fr m) with
   | some (.code .normal t m')=>k (.code b { fr with tmps:=t} m')
   | some (.code e t m')=>some (.code e t m')
   | _=>none
  | .cond x a b=>match an E fr.tmps x with
   | some (.bool true)=>k (.code a fr m)
   | some (.bool false)=>k (.code b fr m)
   | _=>none
  | .block id a=>match k (.code a fr m) with
   | some (.code (.exit id') t m')=>if id'=id then some (.code .normal t m') else some (.code (.exit id') t m')
   | some (.code e t m')=>some (.code e t m')
   | _=>none
  | .loop a=>k (.loop a fr m)
  | .exit id=>some (.code (.exit id) fr.tmps m)
  | .ret=>some (.code .ret fr.tmps m)
  | .scope a=>match k (.code a fr m) with
   | some (.code e t m')=>some (.code e t m')
   | _=>none
  | .region _ ops draw =>
   if draw then
    match jj ops with
    | some ps=>match dC k E fr.n ops ops.toList fr.tmps m with
     | some (t,m',ns)=>if ps.all (dv ns ops)&&ns.all db then some (.code .normal t m') else none
     | none=>none
    | none=>none
   else match iu k E fr.n ops ops.toList fr.tmps m with
    | some (t,m')=>some (.code .normal t m')
    | none=>none
  | .rangeFunc f params assign body =>
   match an E fr.tmps f,jU E fr m f with
   | some (.func (.func g) first captured),true =>
    let l:=m.next
    let m1:=m.alloc (.loop { state:=.ready,pending:=none,fn:=fr.fn,tmps:=fr.tmps,n:=fr.n,params,assign,body})
    match k (.call g (first.toList++[.func (.yield l) #[] #[]]++captured.toList) m1) with
    | some (.val _ m2)=>match m2.get l with
     | some (.loop r)=>match r.state with
      | .busy=>none
      | _ =>
       let m3:=m2.set l (.loop { r with state:=.exhausted})
       match r.pending with
       | none=>some (.code .normal fr.tmps m3)
       | some c=>match k (.code c fr m3) with
        | some (.code e t m')=>some (.code e t m')
        | _=>none
     | _=>none
    | _=>none
   | _,_=>none
  | _=>none
 | .loop c fr m=>match k (.code c fr m) with
  | some (.code .normal t m')=>k (.loop c { fr with tmps:=t} m')
  | some (.code e t m')=>some (.code e t m')
  | _=>none
 | .call f args m =>
  match mT E f args m with
  | some r=>some (.val r.1 r.2)
  | none =>
   match E.P.funcs[f]? with
   | some fn=>match fn.body with
    | some c=>match k (.code c { tmps:=Trie.ofList args 0 .nil,n:=max args.length fn.ntmps,fn:=f,round:=none} m) with
     | some (.code (.exit _) _ _)=>none
     | some (.code _ t m')=>(bT E t m' fn.results.toList).map fun vs=>.val (fg vs) m'
     | _=>none
    | none=>none
   | none=>none
 | .round l args m =>
  match m.get l with
  | some (.loop r)=>match r.state with
   | .ready =>
    if args.length≠r.params.size then none else
    match fu r.n r.tmps r.params.toList args with
    | none=>none
    | some t0=>match k (.code r.assign { tmps:=t0,n:=r.n,fn:=r.fn,round:=some l} m) with
    | some (.code .normal t1 m1)=>match m1.get l with
     | some (.loop r1)=>match r1.state with
      | .ready =>
       match k (.code r.body { tmps:=t1,n:=r.n,fn:=r.fn,round:=some l} (m1.set l (.loop { r1 with state:=.busy}))) with
       | some (.code e _ m2)=>match m2.get l with
        | some (.loop r2) =>
         let j:=xy e
         some (.val (.bool j.isNone) (m2.set l (.loop { r2 with state:=if j.isNone then .ready else .done,pending:=j})))
        | _=>none
       | _=>none
      | _=>none
     | _=>none
    | _=>none
   | _=>none
  | _=>none
noncomputable def run (E:Env):Nat->K
 | 0=>fun _=>none
 | n+1=>step E (run E n)
structure Blk where
 c:Nat
 more:WA (Nat×Nat×Nat)
abbrev aJ:=Nat->WA Blk
def Az(v:Vs):Bool:=lH v && !aL v
def uJ{v:Vs}(h:Az v=true):lH v=true:=by simp only[Az,SW] at h; exact h.1
inductive VR(j:aJ):Vs->Vs->Prop
 | junk {v':Vs} (h:Az v'=true):VR j (.complex .f64 0 0) v'
 | bool (b:Bool):VR j (.bool b) (.bool b)
 | int (k:IntKind) (n:Int):VR j (.int k n) (.int k n)
 | string (s:ByteArray):VR j (.string s) (.string s)
 | pnil:VR j (.pointer none) (.pointer none)
 | ptr {b o:Nat} {k:Blk} (h:j b=some k):VR j (.pointer (some ⟨b,o,none⟩)) (.pointer (some ⟨k.c,o,none⟩))
 | snil (l c:Nat):VR j (.slice none l c) (.slice none l c)
 | slice {b o len cap:Nat} {k:Blk} (h:j b=some k) (hm:k.more=none):VR j (.slice (some ⟨b,o,none⟩) len cap) (.slice (some ⟨k.c,o,none⟩) len cap)
 | sliceM {b o len cap cap' sz na nc:Nat} {k:Blk} (h:j b=some k) (hm:k.more=some (sz,na,nc)) (h1:cap*sz+o=na) (h2:cap'*sz+o=nc) (hl:len<=cap) (hc:cap<=cap') :
   VR j (.slice (some ⟨b,o,none⟩) len cap) (.slice (some ⟨k.c,o,none⟩) len cap')
 | gG {b:Nat} {a':Addr} {cap':Nat}:VR j (.slice (some ⟨b,0,some 0⟩) 0 0) (.slice (some a') 0 cap')
 | dry {b:Nat} {a':Addr}:VR j (.slice (some ⟨b,0,some 1⟩) 0 0) (.slice (some a') 0 0)
 | mnil:VR j (.map none) (.map none)
 | map {b:Nat} {k:Blk} (h:j b=some k):VR j (.map (some b)) (.map (some k.c))
 | func {f:WJ} {xs ys cs ds:WD Vs} (h1:xs.size=ys.size) (h2:∀(i:Nat) (a:i<xs.size) (b:i<ys.size),VR j xs[i] ys[i])
   (h3:cs.size=ds.size) (h4:∀(i:Nat) (a:i<cs.size) (b:i<ds.size),VR j cs[i] ds[i]):VR j (.func (.func f) xs cs) (.func (.func f) ys ds)
 | yield {l:Nat} {k:Blk} {xs ys cs ds:WD Vs} (h:j l=some k) (h1:xs.size=ys.size) (h2:∀(i:Nat) (a:i<xs.size) (b:i<ys.size),VR j xs[i] ys[i]) :
   VR j (.func (.yield l) xs cs) (.func (.yield k.c) ys ds)
 | nilFunc:VR j .nilFunc .nilFunc
 | nilIface:VR j .nilIface .nilIface
 | agg {xs ys:WD Vs} (h1:xs.size=ys.size) (h2:∀(i:Nat) (a:i<xs.size) (b:i<ys.size),VR j xs[i] ys[i]):VR j (.agg xs) (.agg ys)
 | tuple {xs ys:WD Vs} (h1:xs.size=ys.size) (h2:∀(i:Nat) (a:i<xs.size) (b:i<ys.size),VR j xs[i] ys[i]):VR j (.tuple xs) (.tuple ys)
def LR(j:aJ)(xs ys:WB Vs):Prop:=xs.length=ys.length/\∀(i:Nat) (v:Vs),xs[i]? = some v->∃v',ys[i]? = some v'/\VR j v v'
def LR.nil(j:aJ):LR j [] []:=⟨rfl,fun i v h=>by simp at h⟩
def LR.cons{j:aJ}{x y:Vs}{xs ys:WB Vs}(h:VR j x y)(hs:LR j xs ys):LR j (x::xs) (y::ys) :=
 ⟨by simp[hs.1],fun i v hi=>by
  cases i with
  | zero=>simp at hi; subst hi; exact⟨y,rfl,h⟩
  | succ i=>simpa using hs.2 i v (by simpa using hi)⟩
def LR.head{j:aJ}{x y:Vs}{xs ys:WB Vs}(h:LR j (x::xs) (y::ys)):VR j x y:=by
 obtain⟨v',hv,hr⟩:=h.2 0 x rfl;simp at hv; subst hv; exact hr
def LR.tail{j:aJ}{x y:Vs}{xs ys:WB Vs}(h:LR j (x::xs) (y::ys)):LR j xs ys :=
 ⟨by have:=h.1; simpa using this,fun i v hi=>by simpa using h.2 (i+1) v (by simpa using hi)⟩
def LR.cons_inv{j:aJ}{x:Vs}{xs l:WB Vs}(h:LR j (x::xs) l):∃y ys,l=y::ys/\VR j x y/\LR j xs ys:=by
 cases l with
 | nil=>exact Tl h.1 (by simp)
 | cons y ys=>exact⟨y,ys,rfl,h.head,h.tail⟩
def LR.dg{j:aJ}{l:WB Vs}(h:LR j [] l):l=[]:=by
 have:=h.1; simp at this; exact Ux.1 this.symm
def LR.append{j:aJ}{xs ys xs' ys':WB Vs}(h:LR j xs ys)(h':LR j xs' ys'):LR j (xs++xs') (ys++ys') :=
 ⟨by simp[h.1,h'.1],fun i v hi=>by
  by_cases hlt:i<xs.length
  rw[TH hlt] at hi;rw[TH (h.1▸hlt)];exact h.2 i v hi
  rw[Tu (by omega)] at hi
  rw[Tu (by have:=h.1; omega),<-h.1]
  exact h'.2 _ v hi⟩
def LR.drop{j:aJ}{xs ys:WB Vs}(h:LR j xs ys)(n:Nat):LR j (xs.drop n) (ys.drop n) :=
 ⟨by simp[h.1],fun i v hi=>by rw[Um] at *; exact h.2 _ v hi⟩
def LR.take{j:aJ}{xs ys:WB Vs}(h:LR j xs ys)(n:Nat):LR j (xs.take n) (ys.take n) :=
 ⟨by simp[h.1],fun i v hi=>by
  rw[UN] at *
  split at hi
  rename_i hlt; rw[S7 hlt]; exact h.2 _ v hi
  simp at hi⟩
def LR.get{j:aJ}{xs ys:WB Vs}(h:LR j xs ys){i:Nat}{v:Vs}(hi:xs[i]? = some v):∃v',ys[i]? = some v'/\VR j v v':=h.2 i v hi
def LR.eV{j:aJ}{xs ys:WD Vs}(h1:xs.size=ys.size)(h2:∀(i:Nat) (a:i<xs.size) (b:i<ys.size),VR j xs[i] ys[i]):LR j xs.toList ys.toList :=
 ⟨by simpa using h1,fun i v hi=>by
  have hlt:i<xs.toList.length:=(Tc.1 hi).1;have ha:i<xs.size:=by simpa using hlt
  have hb:i<ys.size:=h1▸ha;refine⟨ys[i],by simp[hb],?_⟩
  have:xs[i]=v:=by simpa [ha] using hi
  exact this▸h2 i ha hb⟩
def LR.arr{j:aJ}{xs ys:WD Vs}(h:LR j xs.toList ys.toList):∀(i:Nat) (a:i<xs.size) (b:i<ys.size),VR j xs[i] ys[i]:=fun i a b=>by
 obtain⟨v',hv,hr⟩:=h.2 i xs[i] (by simp[a])
 have:ys[i]=v':=by simpa [b] using hv
 exact this▸hr
def LR.size{j:aJ}{xs ys:WD Vs}(h:LR j xs.toList ys.toList):xs.size=ys.size:=by simpa using h.1
def VR.AZ{j:aJ}{xs ys:WD Vs}(h:LR j xs.toList ys.toList):VR j (.agg xs) (.agg ys):=.agg h.size h.arr
def VR.tuple'{j:aJ}{xs ys:WD Vs}(h:LR j xs.toList ys.toList):VR j (.tuple xs) (.tuple ys):=.tuple h.size h.arr
def VR.undef(j:aJ):VR j undef undef:=.tuple rfl (fun i a _=>by simp at a)
def aJ.le(j j':aJ):Prop:=∀b k,j b=some k->j' b=some k
def aJ.le.refl(j:aJ):j.le j:=fun _ _ h=>h
def aJ.le.trans{j j' j'':aJ}(h:j.le j')(h':j'.le j''):j.le j'':=fun b k e=>h' b k (h b k e)
def VR.mono{j j':aJ}(hj:j.le j'){v v':Vs}(h:VR j v v'):VR j' v v':=by
 induction h with
 | junk h=>exact .junk h
 | bool b=>exact .bool b
 | int k n=>exact .int k n
 | string s=>exact .string s
 | pnil=>exact .pnil
 | ptr h=>exact .ptr (hj _ _ h)
 | snil l c=>exact .snil l c
 | slice h hm=>exact .slice (hj _ _ h) hm
 | sliceM h hm h1 h2 hl hc=>exact .sliceM (hj _ _ h) hm h1 h2 hl hc
 | gG=>exact .gG
 | dry=>exact .dry
 | mnil=>exact .mnil
 | map h=>exact .map (hj _ _ h)
 | func h1 _ h3 _ ih2 ih4=>exact .func h1 ih2 h3 ih4
 | yield h h1 _ ih2=>exact .yield (hj _ _ h) h1 ih2
 | nilFunc=>exact .nilFunc
 | nilIface=>exact .nilIface
 | agg h1 _ ih=>exact .agg h1 ih
 | tuple h1 _ ih=>exact .tuple h1 ih
def LR.mono{j j':aJ}(hj:j.le j'){xs ys:WB Vs}(h:LR j xs ys):LR j' xs ys :=
 ⟨h.1,fun i v hi=>let⟨v',a,b⟩:=h.2 i v hi;⟨v',a,b.mono hj⟩⟩
def VR.aL{j:aJ}{v:Vs}(h:aL v=true):VR j v v:=by
 unfold Ab.aL at h
 split at h<;>first|constructor |(simp at h)
def LR.plain{j:aJ}{l:WB Vs}(h:l.all Ab.aL=true):LR j l l :=
 ⟨rfl,fun _ v hi=>⟨v,hi,VR.aL (Tk.1 h v (Ti hi))⟩⟩
def VR.bw{j:aJ}{v:Vs}(h:bw v=true):VR j v v:=by
 unfold Ab.bw at h
 split at h
 exact .AZ (LR.plain h)
 exact .tuple' (LR.plain h)
 exact .aL h
def ER(j:aJ):WB (Vs×Vs)->WB MapEntry->Prop
 | [],[]=>True
 | e::es,f::fs=>VR j e.1 f.key/\VR j e.2 f.val/\ER j es fs
 | _,_=>False
def ER.mono{j j':aJ}(hj:j.le j'):∀{es:WB (Vs×Vs)} {fs:WB MapEntry},ER j es fs->ER j' es fs
 | [],[],_=>trivial
 | _::_,_::_,h=>⟨h.1.mono hj,h.2.1.mono hj,ER.mono hj h.2.2⟩
 | [],_::_,h=>h.elim
 | _::_,[],h=>h.elim
def TR(n:Nat)(j:aJ)(t:Tm)(tmps:WD Vs):Prop:=tmps.size=n/\∀i,VR j (t.at i) (tmps.getD i undef)
def TR.mono{n:Nat}{j j':aJ}(hj:j.le j'){t:Tm}{tmps:WD Vs}(h:TR n j t tmps):TR n j' t tmps:=⟨h.1,fun i=>(h.2 i).mono hj⟩
def nL(sz:Nat)(c:WD Vs):Prop:=c.size<=sz*9223372036854775807
def oJ(k:Blk)(tag:Tag)(len:Nat)(c:WD Vs)(fz:Nat×Nat):Prop :=
 match tag with
 | .ro=>k.more=none/\c.size=len
 | .own=>k.more=none/\c.size=len/\fz=(0,0)
 | .more sz=>k.more=some (sz,len,c.size)/\len<=c.size/\fz=(0,0)/\0<sz/\nL sz c
def oJ.put{k:Blk}{tag:Tag}{len:Nat}{c c':WD Vs}{fz:Nat×Nat}(h:oJ k tag len c fz)(hs:c'.size=c.size)(hr:∀i,len<=i->c'[i]? = c[i]?):oJ k tag len c' fz:=by
 cases tag with
 | ro=>exact⟨h.1,hs.trans h.2⟩
 | own=>exact⟨h.1,hs.trans h.2.1,h.2.2⟩
 | more sz=>exact⟨by rw[hs]; exact h.1,by rw[hs]; exact h.2.1,h.2.2.1,h.2.2.2.1,by unfold nL; rw[hs]; exact h.2.2.2.2⟩
def JD(es:WD MapEntry)(clock:Nat):Prop:=(∀x∈es.toList,x.born<clock)/\(es.toList.map (·.born)).Nodup
def FP(c:Nat):JD #[] c:=⟨fun x hx=>by simp at hx,by simp⟩
def Gv{es:WD MapEntry}{clock:Nat}(h:JD es clock)(k v:Vs):JD (es.push { key:=k,val:=v,born:=clock}) (clock+1):=by
 refine⟨fun x hx=>?_,?_⟩
 rw[Array.toList_push,T7,TG] at hx;rcases hx with hx|rfl
 exact Nat.lt_succ_of_lt (h.1 x hx)
 exact Uj _
 rw[Array.toList_push,List.map_append,List.map_singleton];refine List.nodup_append.2 ⟨h.2,by simp,fun a ha b hb=>?_⟩
 rw[TG] at hb;obtain⟨x,hx,rfl⟩:=UZ.1 ha;have:=h.1 x hx;rw[hb]; exact Nat.ne_of_lt this
def B4{es:WD MapEntry}{clock:Nat}(h:JD es clock)(i:Nat)(f:MapEntry->MapEntry)(hf:∀e,(f e).born=e.born):JD (es.modify i f) clock:=by
 have e:(es.modify i f).toList.map (·.born)=es.toList.map (·.born):=by
  rw[Array.toList_modify];refine Uy fun t=>?_;rw[Tn,Tn,List.getElem?_modify];cases es.toList[t]? with
  | none=>rfl
  | some a =>
   show some ((if i=t then f a else a).born)=some a.born
   split
   rw[hf]
   rfl
 refine⟨fun x hx=>?_,by rw[e]; exact h.2⟩
 have hm:x.born∈es.toList.map (·.born):=e▸UZ.2 ⟨x,hx,rfl⟩;obtain⟨y,hy,he⟩:=UZ.1 hm;rw[<-he]; exact h.1 y hy
def Fe{es:WD MapEntry}{clock:Nat}(h:JD es clock)(i:Nat):JD (es.eraseIdxIfInBounds i) clock:=by
 have hs:(es.eraseIdxIfInBounds i).toList.Sublist es.toList:=by
  rw[Array.toList_eraseIdxIfInBounds]; exact List.eraseIdx_sublist _ _
 exact⟨fun x hx=>h.1 x (hs.subset hx),(hs.map _).nodup h.2⟩
def OR(j:aJ)(k:Blk):V9->Obj->Prop
 | .cells cs tag,.cells c _ fz=>oJ k tag cs.length c fz/\∀(i:Nat) (v:Vs),cs[i]? = some v->∃v',c[i]? = some v'/\VR j v v'
 | .map es,.map entries clock=>ER j es entries.toList/\JD entries clock
 | .loop r,.loop r'=>r.state=r'.state/\r.pending=r'.pending/\r.params=r'.params/\r.assign=r'.assign/\r.body=r'.body/\TR r.n j r.tmps r'.tmps
 | _,_=>False
def OR.mono{j j':aJ}(hj:j.le j'){k:Blk}{o:V9}{o':Obj}(h:OR j k o o'):OR j' k o o':=by
 cases o with
 | cells cs tag =>
  cases o' with
  | cells c e fz=>exact⟨h.1,fun i v hi=>let⟨v',a,b⟩:=h.2 i v hi;⟨v',a,b.mono hj⟩⟩
  | _=>exact h.elim
 | map es =>
  cases o' with
  | map c e=>exact⟨ER.mono hj h.1,h.2⟩
  | _=>exact h.elim
 | loop r =>
  cases o' with
  | loop c=>exact⟨h.1,h.2.1,h.2.2.1,h.2.2.2.1,h.2.2.2.2.1,h.2.2.2.2.2.mono hj⟩
  | _=>exact h.elim
structure MR(E:Env)(j:aJ)(m:V7)(w:Vw):Prop where
 lt:∀b k,j b=some k->b<m.next/\k.c<w.heap.size
 obj:∀b o k,m.get b=some o->j b=some k->∃o',w.heap[k.c]? = some o'/\OR j k o o'
 inj:∀b b' k k',j b=some k->j b'=some k'->(m.get b).isSome=true->(m.get b').isSome=true->k.c=k'.c->b=b'
 glob:∀g,g<E.glob->j g=some ⟨g,none⟩
structure AExt(m m':V7):Prop where
 next:m.next<=m'.next
 wl:m'.wl<=m.wl
 same:∀b,b<m.next->b<m'.wl->m'.get b=m.get b
 dead:∀b,b<m.next->m.get b=none->m'.get b=none
def AExt.refl(m:V7):AExt m m:=⟨SX _,SX _,fun _ _ _=>rfl,fun _ _ h=>h⟩
def AExt.trans{a b c:V7}(h:AExt a b)(h':AExt b c):AExt a c :=
 ⟨Tb h.next h'.next,Tb h'.wl h.wl,
  fun x hx hw=>(h'.same x (SY hx h.next) hw).trans (h.same x hx (SY hw h'.wl)),
  fun x hx hn=>h'.dead x (SY hx h.next) (h.dead x hx hn)⟩
abbrev Calm(w w':Vw):Prop:=w'.os=w.os/\w'.output=w.output/\w'.tape=w.tape/\w.drawn<=w'.drawn
abbrev iC(E:Env)(w w':Vw):Prop:=w'.os=w.os/\w'.output=w.output/\w'.tape=w.tape/\(E.mono->w.drawn<=w'.drawn)
def Calm.e{E:Env}{w w':Vw}(h:Calm w w'):iC E w w':=⟨h.1,h.2.1,h.2.2.1,fun _=>h.2.2.2⟩
def iC.refl{E:Env}(w:Vw):iC E w w:=⟨rfl,rfl,rfl,fun _=>SX _⟩
def iC.trans{E:Env}{a b c:Vw}(h:iC E a b)(g:iC E b c):iC E a c:=⟨g.1.trans h.1,g.2.1.trans h.2.1,g.2.2.1.trans h.2.2.1,fun e=>Tb (h.2.2.2 e) (g.2.2.2 e)⟩
structure Sim(E:Env)(j:aJ)(m:V7)(w:Vw)(j':aJ)(m':V7)(w':Vw):Prop where
 ext:AExt m m'
 le:j.le j'
 new:∀b k,j' b=some k->j b=none->m.next<=b
 mr:MR E j' m' w'
 size:w.heap.size<=w'.heap.size
 full:∀b,m.next<=b->b<m'.next->(m'.get b).isSome=true->∃k,j' b=some k
 away:∀b,b<m.next->j b=none->m'.get b=m.get b
 fresh:∀b k,j' b=some k->j b=none->w.heap.size<=k.c\/∃b0 k0,j b0=some k0/\(m.get b0).isSome=true/\k0.c=k.c/\m'.wl<=b0
 frame:∀c,c<w.heap.size->(∀b k,j b=some k->(m.get b).isSome=true->k.c=c->b<m'.wl)->w'.heap[c]? = w.heap[c]?
 calm:iC E w w'
def Sim.refl{E:Env}{j:aJ}{m:V7}{w:Vw}(h:MR E j m w):Sim E j m w j m w where
 ext:=.refl m
 le:=.refl j
 new:=fun b k h h'=>by simp[h'] at h
 mr:=h
 size:=SX _
 full:=fun b h h' _=>Tl h (by omega)
 away:=fun _ _ _=>rfl
 fresh:=fun b k h h'=>by simp[h'] at h
 frame:=fun _ _ _=>rfl
 calm:=.refl w
def Sim.trans{E:Env}{j j1 j2:aJ}{m m1 m2:V7}{w w1 w2:Vw}(h0:MR E j m w)(h:Sim E j m w j1 m1 w1)(h':Sim E j1 m1 w1 j2 m2 w2):Sim E j m w j2 m2 w2 where
 ext:=h.ext.trans h'.ext
 le:=h.le.trans h'.le
 mr:=h'.mr
 calm:=iC.trans h.calm h'.calm
 size:=Tb h.size h'.size
 full:=by
  intro b hb hb' hl;rcases TO b m1.next with hlt|hge
  ·have hl1:(m1.get b).isSome=true:=by
    cases hm:m1.get b with
    | some o=>rfl
    | none=>rw[h'.ext.dead b hlt hm] at hl; cases hl
   obtain⟨k,hk⟩:=h.full b hb hlt hl1;exact⟨k,h'.le b k hk⟩
  exact h'.full b hge hb' hl
 new:=by
  intro b k hk hn;cases h1:j1 b with
  | none=>exact Tb h.ext.next (h'.new b k hk h1)
  | some k1=>exact h.new b k1 h1 hn
 away:=by
  intro b hb hn;have h1:j1 b=none:=by
   cases h1:j1 b with
   | none=>rfl
   | some k1=>exact Tl (h.new b k1 h1 hn) (by omega)
  exact(h'.away b (SY hb h.ext.next) h1).trans (h.away b hb hn)
 fresh:=by
  intro b k hk hn;cases h1:j1 b with
  | some k1 =>
   have:=h'.le b k1 h1;rw[hk] at this; cases this;rcases h.fresh b k h1 hn with hf|⟨b0,k0,a1,a2,a3,a4⟩
   exact .inl hf
   exact .inr ⟨b0,k0,a1,a2,a3,Tb h'.ext.wl a4⟩
  | none =>
   rcases h'.fresh b k hk h1 with hf|⟨b0,k0,a1,a2,a3,a4⟩
   exact .inl (Tb h.size hf)
   ·cases hj0:j b0 with
    | some k0' =>
     have e:=h.le b0 k0' hj0;rw[a1] at e; cases e;refine .inr ⟨b0,k0,hj0,?_,a3,a4⟩;cases hm:m.get b0 with
     | some o=>rfl
     | none=>rw[h.ext.dead b0 (h0.lt b0 k0 hj0).1 hm] at a2; cases a2
    | none =>
     rcases h.fresh b0 k0 a1 hj0 with hf|⟨b1,k1,c1,c2,c3,c4⟩
     exact .inl (a3▸hf)
     exact .inr ⟨b1,k1,c1,c2,c3.trans a3,Tb h'.ext.wl c4⟩
 frame:=by
  intro c hc H;have s1:w1.heap[c]? = w.heap[c]?:=h.frame c hc fun b k hb hl he=>SY (H b k hb hl he) h'.ext.wl;refine(h'.frame c (SY hc h.size) ?_).trans s1;intro b k hb hl he;cases hj:j b with
  | some k' =>
   have e:=h.le b k' hj;rw[hb] at e; cases e;refine H b k hj ?_ he;cases hm:m.get b with
   | some o=>rfl
   | none=>rw[h.ext.dead b (h0.lt b k hj).1 hm] at hl; cases hl
  | none =>
   rcases h.fresh b k hb hj with hf|⟨b1,k1,c1,c2,c3,c4⟩
   omega
   have:=H b1 k1 c1 c2 (c3.trans he);have:=h'.ext.wl;omega
def aJ.set(j:aJ)(b:Nat)(k:Blk):aJ:=fun x=>if x=b then some k else j x
def aJ.cc(j:aJ)(b:Nat)(k:Blk):j.set b k b=some k:=by simp[aJ.set]
def aJ.bP(j:aJ){b x:Nat}(k:Blk)(h:x≠b):j.set b k x=j x:=by simp[aJ.set,h]
def aJ.nB{j:aJ}{b:Nat}(k:Blk)(h:j b=none):j.le (j.set b k):=fun x k' hx=>by
 by_cases e:x=b
 subst e; rw[h] at hx; cases hx
 rw[aJ.bP _ _ e]; exact hx
def V7.bg(m:V7)(o:V9)(b:Nat):(m.alloc o).get b=if b=m.next then some o else m.get b:=by
 unfold V7.alloc V7.get;simp only[Heap.bX]
 by_cases h:b=m.next<;>simp[h]
def V7.bX(m:V7)(b x:Nat)(o:V9):(m.set b o).get x=if x=b then some o else m.get x:=by
 unfold V7.set V7.get;simp only[Heap.bX]
 by_cases h:x=b<;>simp[h]
def V7.fP(m:V7)(b x:Nat):(m.kill b).get x=if x=b then none else m.get x:=by
 unfold V7.kill V7.get;simp only[Heap.bX]
 by_cases h:x=b<;>simp[h]
@[simp] theorem V7.next_alloc (m:V7) (o:V9):(m.alloc o).next=m.next+1:=rfl
@[simp] theorem V7.next_set (m:V7) (b:Nat) (o:V9):(m.set b o).next=m.next:=rfl
@[simp] theorem V7.next_kill (m:V7) (b:Nat):(m.kill b).next=m.next:=rfl
@[simp] theorem V7.wl_alloc (m:V7) (o:V9):(m.alloc o).wl=m.wl:=rfl
@[simp] theorem V7.wl_set (m:V7) (b:Nat) (o:V9):(m.set b o).wl=min m.wl b:=rfl
@[simp] theorem V7.wl_kill (m:V7) (b:Nat):(m.kill b).wl=min m.wl b:=rfl
def AExt.alloc(m:V7)(o:V9):AExt m (m.alloc o) :=
 ⟨Nat.le_succ _,SX _,fun b h _=>by rw[V7.bg,Vz],fun b h hn=>by rw[V7.bg,Vz]; exact hn⟩
def AExt.set{m:V7}{b:Nat}(o:V9)(hb:(m.get b).isSome=true):AExt m (m.set b o) :=
 ⟨SX _,Nat.min_le_left _ _,fun x _ h=>by
  rw[V7.bX,S8]; intro e; subst e; simp at h; omega,
 fun x _ hn=>by
  rw[V7.bX,S8]
  exact hn
  intro e; subst e; rw[hn] at hb; cases hb⟩
def AExt.kill(m:V7)(b:Nat):AExt m (m.kill b) :=
 ⟨SX _,Nat.min_le_left _ _,fun x _ h=>by
  rw[V7.fP,S8]; intro e; subst e; simp at h; omega,
 fun x _ hn=>by rw[V7.fP]; split<;>first|rfl|exact hn⟩
def Ag{j:aJ}{n:Nat}{k:Blk}{m':V7}:∀b,n<=b->b<n+1->(m'.get b).isSome=true->∃k',j.set n k b=some k':=fun b h1 h2 _=>by
 have:b=n:=by omega
 subst this;exact⟨k,aJ.cc _ _ _⟩
section
variable{E:Env}{j:aJ}{m:V7}{w:Vw}
def MR.me(h:MR E j m w):j m.next=none:=by
 cases e:j m.next with
 | none=>rfl
 | some k=>exact Tl (h.lt _ _ e).1 (Nat.lt_irrefl _)
def MR.of_heap{w':Vw}(h:MR E j m w)(e:w'.heap=w.heap):MR E j m w' :=
 ⟨by rw[e]; exact h.lt,by rw[e]; exact h.obj,h.inj,h.glob⟩
def Sim.of_heap{w':Vw}(h:MR E j m w)(e:w'.heap=w.heap)(e2:Calm w w':=by first|exact⟨rfl,rfl,rfl,SX _⟩|exact⟨rfl,rfl,rfl,Nat.le_succ _⟩):Sim E j m w j m w' :=
 { Sim.refl h with mr:=h.of_heap e,size:=by rw[e]; exact SX _,frame:=fun c _ _=>by rw[e],calm:=e2.e}
def MR.uW{x:Nat}(h:MR E j m w):MR E j { m with wl:=x} w:=⟨h.lt,h.obj,h.inj,h.glob⟩
def mh(h:MR E j m w){ao:V9}{co:Obj}{mo:WA (Nat×Nat×Nat)}(ho:OR j ⟨w.heap.size,mo⟩ ao co) :
  Sim E j m w (j.set m.next ⟨w.heap.size,mo⟩) (m.alloc ao) (w.alloc co):=by
 have hle:j.le (j.set m.next ⟨w.heap.size,mo⟩):=aJ.nB _ h.me
 have hlt:∀b k,j b=some k->b≠m.next:=fun b k e=>Nat.ne_of_lt (h.lt b k e).1
 refine⟨.alloc m ao,hle,?_,⟨?_,?_,?_,?_⟩,by simp,Ag,?_,?_,?_,⟨rfl,rfl,rfl,fun _=>SX _⟩⟩
 intro b k hb hn
 by_cases e:b=m.next
 exact Nat.le_of_eq e.symm
 rw[aJ.bP _ _ e,hn] at hb; cases hb
 intro b k hb
 by_cases e:b=m.next
 subst e; rw[aJ.cc] at hb; cases hb; simp
 rw[aJ.bP _ _ e] at hb;have:=h.lt b k hb;simp; omega
 intro b o k hg hb
 by_cases e:b=m.next
 subst e;rw[aJ.cc] at hb; cases hb;rw[V7.bg,S7 rfl] at hg; cases hg;exact⟨co,World.alloc_heap_new w co,ho.mono hle⟩
 rw[aJ.bP _ _ e] at hb;rw[V7.bg,S8 e] at hg;obtain⟨o',h1,h2⟩:=h.obj b o k hg hb;refine⟨o',?_,h2.mono hle⟩;have hk:=(h.lt b k hb).2
 show(w.heap.push co)[k.c]? = some o'
 rw[U3,Vz]; exact h1
 intro b b' k k' hb hb' hl hl' hc
 by_cases e:b=m.next<;>by_cases e':b'=m.next
 rw[e,e']
 subst e;rw[aJ.cc] at hb; cases hb;rw[aJ.bP _ _ e'] at hb';exact Tl (h.lt b' k' hb').2 (by simp at hc; omega)
 subst e';rw[aJ.cc] at hb'; cases hb';rw[aJ.bP _ _ e] at hb;exact Tl (h.lt b k hb).2 (by simp at hc; omega)
 rw[aJ.bP _ _ e] at hb;rw[aJ.bP _ _ e'] at hb';rw[V7.bg,S8 e] at hl;rw[V7.bg,S8 e'] at hl';exact h.inj b b' k k' hb hb' hl hl' hc
 intro g hg; exact hle _ _ (h.glob g hg)
 intro b hb _; rw[V7.bg,Vz]
 intro b k hb hn
 by_cases e:b=m.next
 subst e; rw[aJ.cc] at hb; cases hb; exact .inl (SX _)
 rw[aJ.bP _ _ e,hn] at hb; cases hb
 intro c hc _
 show(w.heap.push co)[c]? = w.heap[c]?
 rw[U3,Vz]
def kg(h:MR E j m w){b:Nat}{k:Blk}(hk:j b=some k)(hl:(m.get b).isSome=true){ao:V9}{co:Obj}(ho:OR j k ao co) :
  Sim E j m w j (m.set b ao) (w.putObj k.c co):=by
 refine⟨.set ao hl,.refl j,fun x k' e e'=>by simp[e'] at e,⟨?_,?_,?_,h.glob⟩,by simp,fun b h1 h2 _=>Tl h1 (by simp at h2; omega),?_,fun x k' e e'=>by simp[e'] at e,?_,⟨rfl,rfl,rfl,fun _=>SX _⟩⟩
 intro x k' e; simpa using h.lt x k' e
 intro x o k' hg e
 by_cases hx:x=b
 subst hx;rw[hk] at e; cases e;rw[V7.bX,S7 rfl] at hg; cases hg;exact⟨co,World.putObj_heap_same (h.lt x k hk).2,ho⟩
 rw[V7.bX,S8 hx] at hg;obtain⟨o',h1,h2⟩:=h.obj x o k' hg e;refine⟨o',?_,h2⟩;rw[World.putObj_heap_other]
 exact h1
 intro hc;exact hx (h.inj x b k' k e hk (by rw[hg]; rfl) hl hc)
 intro x x' k1 k2 e e' hl1 hl2 hc;refine h.inj x x' k1 k2 e e' ?_ ?_ hc
 rw[V7.bX] at hl1; split at hl1
 rename_i hx; subst hx; exact hl
 exact hl1
 rw[V7.bX] at hl2; split at hl2
 rename_i hx; subst hx; exact hl
 exact hl2
 intro x hx hn;rw[V7.bX,S8]; intro e; subst e; rw[hk] at hn; cases hn
 intro c hc H;apply World.putObj_heap_other;intro e;have:=H b k hk hl e.symm;simp at this; omega
def I8(h:MR E j m w){b:Nat}{k0:Blk}(hk0:j b=some k0):Sim E j m w j (m.kill b) w:=by
 refine⟨.kill m b,.refl j,fun x k' e e'=>by simp[e'] at e,⟨h.lt,?_,?_,h.glob⟩,SX _,fun b h1 h2 _=>Tl h1 (by simp at h2; omega),?_,fun x k' e e'=>by simp[e'] at e,fun _ _ _=>rfl,⟨rfl,rfl,rfl,fun _=>SX _⟩⟩
 intro x o k hg e;rw[V7.fP] at hg
 split at hg
 cases hg
 exact h.obj x o k hg e
 intro x x' k k' e e' hl hl' hc;rw[V7.fP] at hl hl'
 split at hl
 cases hl
 split at hl'
 cases hl'
 exact h.inj x x' k k' e e' hl hl' hc
 intro x hx hn;rw[V7.fP,S8];intro e; subst e; rw[hk0] at hn; cases hn
def Bf(h:MR E j m w){b:Nat}{k:Blk}(hk:j b=some k)(hl:(m.get b).isSome=true){ao:V9}{co:Obj}{mo:WA (Nat×Nat×Nat)}(ho:OR j ⟨k.c,mo⟩ ao co) :
  Sim E j m w (j.set m.next ⟨k.c,mo⟩) ((m.kill b).alloc ao) (w.putObj k.c co):=by
 have hle:j.le (j.set m.next ⟨k.c,mo⟩):=aJ.nB _ h.me
 have hbn:b<m.next:=(h.lt b k hk).1
 have hkc:k.c<w.heap.size:=(h.lt b k hk).2;have hget:∀x,((m.kill b).alloc ao).get x=if x=m.next then some ao else if x=b then none else m.get x:=by
  intro x; rw[V7.bg,V7.fP]; rfl
 refine⟨(AExt.kill m b).trans (AExt.alloc _ ao),hle,?_,⟨?_,?_,?_,fun g hg=>hle _ _ (h.glob g hg)⟩,by simp,Ag,?_,?_,?_,⟨rfl,rfl,rfl,fun _=>SX _⟩⟩
 intro x k' hx hn
 by_cases e:x=m.next
 exact Nat.le_of_eq e.symm
 rw[aJ.bP _ _ e,hn] at hx; cases hx
 intro x k' hx
 by_cases e:x=m.next
 subst e; rw[aJ.cc] at hx; cases hx; simp; exact hkc
 rw[aJ.bP _ _ e] at hx;have:=h.lt x k' hx;simp; omega
 intro x o k' hg hx;rw[hget] at hg
 by_cases e:x=m.next
 subst e;rw[aJ.cc] at hx; cases hx;rw[S7 rfl] at hg; cases hg;exact⟨co,World.putObj_heap_same hkc,ho.mono hle⟩
 rw[aJ.bP _ _ e] at hx;rw[S8 e] at hg
 split at hg
 cases hg
 rename_i hxb;obtain⟨o',h1,h2⟩:=h.obj x o k' hg hx;refine⟨o',?_,h2.mono hle⟩;rw[World.putObj_heap_other]
 exact h1
 intro hc;exact hxb (h.inj x b k' k hx hk (by rw[hg]; rfl) hl hc)
 intro x x' k1 k2 hx hx' hl1 hl2 hc;rw[hget] at hl1 hl2
 by_cases e:x=m.next<;>by_cases e':x'=m.next
 rw[e,e']
 subst e;rw[aJ.cc] at hx; cases hx;rw[aJ.bP _ _ e'] at hx';rw[S8 e'] at hl2
 split at hl2
 cases hl2
 rename_i hxb;exact Tl (h.inj x' b k2 k hx' hk hl2 hl hc.symm) hxb
 subst e';rw[aJ.cc] at hx'; cases hx';rw[aJ.bP _ _ e] at hx;rw[S8 e] at hl1
 split at hl1
 cases hl1
 rename_i hxb;exact Tl (h.inj x b k1 k hx hk hl1 hl hc) hxb
 rw[aJ.bP _ _ e] at hx;rw[aJ.bP _ _ e'] at hx';rw[S8 e] at hl1;rw[S8 e'] at hl2
 split at hl1
 cases hl1
 split at hl2
 cases hl2
 exact h.inj x x' k1 k2 hx hx' hl1 hl2 hc
 intro x hx hn;rw[hget,Vz,S8]
 intro e; subst e; rw[hk] at hn; cases hn
 intro x k' hx hn
 by_cases e:x=m.next
 subst e; rw[aJ.cc] at hx; cases hx;exact .inr ⟨b,k,hk,hl,rfl,by simp; omega⟩
 rw[aJ.bP _ _ e,hn] at hx; cases hx
 intro c hc H;apply World.putObj_heap_other;intro e;have:=H b k hk hl e.symm;simp at this; omega
def MR.rm(h:MR E j m w){b:Nat}{k:Blk}(hk:j b=some k){cs:WB Vs}{tag:Tag}(hg:m.get b=some (.cells cs tag)) :
  ∃c e fz,w.heap[k.c]? = some (.cells c e fz)/\oJ k tag cs.length c fz/\∀(i:Nat) (v:Vs),cs[i]? = some v->∃v',c[i]? = some v'/\VR j v v':=by
 obtain⟨o',h1,h2⟩:=h.obj b _ k hg hk;cases o' with
 | cells c e fz=>exact⟨c,e,fz,h1,h2.1,h2.2⟩
 | _=>exact h2.elim
def MR.cell(h:MR E j m w){b:Nat}{k:Blk}(hk:j b=some k){cs:WB Vs}{tag:Tag}(hg:m.get b=some (.cells cs tag)){o:Nat}{v:Vs}(hv:cs[o]? = some v) :
  ∃v',w.cell? ⟨k.c,o,none⟩=some v'/\VR j v v':=by
 obtain⟨c,e,fz,h1,_,h3⟩:=h.rm hk hg;obtain⟨v',h4,h5⟩:=h3 o v hv;exact⟨v',by simp[World.cell?,h1,h4],h5⟩
def lP(c o i:Nat):(⟨c,o,none⟩:Addr).add i=⟨c,o+i,none⟩:=by
 unfold Addr.add
 split
 rename_i e; subst e; rfl
 rfl
def se{b o n:Nat}{vs:WB Vs}(hm:m.dK b o n=some vs):∃cs tag,m.get b=some (.cells cs tag)/\vs=(cs.drop o).take n/\vs.length=n:=by
 unfold V7.dK at hm
 split at hm
 rename_i cs tag hg;simp only at hm
 split at hm
 rename_i hl;cases hm;exact⟨cs,tag,hg,rfl,hl⟩
 cases hm
 cases hm
def MR.dK(h:MR E j m w){b:Nat}{k:Blk}(hk:j b=some k){o n:Nat}{vs:WB Vs}(hm:m.dK b o n=some vs) :
  ∃vs',(∀w0:Vw,w0.heap=w.heap->(loadCells ⟨k.c,o,none⟩ n).run E.P w0=.ok vs'.toArray w0)/\LR j vs vs':=by
 obtain⟨cs,tag,hg,rfl,hl⟩:=se hm;obtain⟨c,e,fz,h1,_,h3⟩:=h.rm hk hg;have hcell:∀i,i<n->∃v v',cs[o+i]? = some v/\c[o+i]? = some v'/\VR j v v':=by
  intro i hi;have:o+i<cs.length:=by simp at hl; omega
  obtain⟨v',a,b⟩:=h3 (o+i) _ (SU this);exact⟨_,v',SU this,a,b⟩
 refine⟨(List.range n).map fun i=>c.getD (o+i) undef,fun w0 hw0=>run_loadCells w0 _ n _ ?_,?_⟩
 intro i hi;obtain⟨v,v',_,a,_⟩:=hcell i hi;rw[lP];simp[World.cell?,hw0,h1,a]
 refine⟨by simp; simpa using hl,fun i v hi=>?_⟩
 rw[UN] at hi
 split at hi
 rename_i hlt;rw[Um] at hi;obtain⟨v1,v',a,b,r⟩:=hcell i hlt;rw[hi] at a; cases a;refine⟨v',?_,r⟩;simp[hlt,b]
 cases hi
def ft(cs:WB Vs)(o:Nat):aI cs o []=cs:=by
 induction cs generalizing o with
 | nil=>cases o<;>rfl
 | cons c cs ih=>cases o<;>simp[aI,ih]
def cy:∀(cs:WB Vs) (o:Nat) (vs:WB Vs),(aI cs o vs).length=cs.length
 | [],0,[]=>rfl
 | [],0,_::_=>rfl
 | [],_+1,_=>rfl
 | _::_,0,[]=>rfl
 | _::cs,0,_::vs=>by simp[aI,cy cs 0 vs]
 | _::cs,o+1,vs=>by simp[aI,cy cs o vs]
def cu:∀(cs:WB Vs) (o:Nat) (vs:WB Vs) (i:Nat),(aI cs o vs)[i]? = if o<=i/\i<o+vs.length/\i<cs.length then vs[i-o]? else cs[i]?
 | [],0,[],i=>by simp[aI]
 | [],0,_::_,i=>by simp[aI]
 | [],_+1,_,i=>by simp[aI]
 | c::cs,0,[],i=>by simp[aI]
 | c::cs,0,v::vs,0=>by simp[aI]
 | c::cs,0,v::vs,i+1=>by
  have:=cu cs 0 vs i;simp only[aI,TS,this,Tz,Uw,true_and,TM,U4,Nat.add_lt_add_iff_right]
 | c::cs,o+1,vs,0=>by simp[aI]
 | c::cs,o+1,vs,i+1=>by
  have:=cu cs o vs i;simp only[aI,TS,this,Tz,Nat.add_le_add_iff_right,Nat.add_lt_add_iff_right,Nat.add_sub_add_right,Nat.add_right_comm o 1 vs.length]
def fY:∀(cs:WB Vs) (o:Nat) (v:Vs) (vs:WB Vs),o<cs.length->aI cs o (v::vs)=aI (cs.set o v) (o+1) vs
 | [],_,_,_,h=>by simp at h
 | c::cs,0,v,vs,_=>by simp[aI]
 | c::cs,o+1,v,vs,h=>by simp[aI,fY cs o v vs (by simpa using h)]
def tp{w:Vw}{B o:Nat}{c:WD Vs}{e:Vt}{fz:Nat×Nat}(h:w.heap[B]? = some (.cells c e fz))(v:Vs) :
  w.setCell ⟨B,o,none⟩ v=w.putObj B (.cells (c.setIfInBounds o v) e fz):=by
 unfold World.setCell World.putObj
 congr 1
 apply Array.ext_getElem?;intro i;rw[Array.getElem?_modify,Array.getElem?_setIfInBounds]
 by_cases hi:B=i
 subst hi;obtain⟨hlt,hv⟩:=Te.1 h;simp[hlt,hv]
 simp[hi]
def tX{w:Vw}{B:Nat}{o o':Obj}:(w.putObj B o).putObj B o'=w.putObj B o':=by
 unfold World.putObj;simp
def qm{w:Vw}{B:Nat}{o:Obj}(h:w.heap[B]? = some o):w.putObj B o=w:=by
 unfold World.putObj
 congr 1
 apply Array.ext_getElem?;intro i;rw[Array.getElem?_setIfInBounds]
 split
 rename_i hi; subst hi;obtain⟨hlt,hv⟩:=Te.1 h;simp[hlt,hv]
 rfl
def fL{P:Vv}{B:Nat}{e:Vt}:∀(vs:WB Vs) (w:Vw) (c:WD Vs) (off i:Nat),w.heap[B]? = some (.cells c e (0,0))->off+i+vs.length<=c.size ->
  bo vs=true->(storeCells ⟨B,off,none⟩ vs i).run P w=.ok () (w.putObj B (.cells (aI c.toList (off+i) vs).toArray e (0,0)))
 | [],w,c,off,i,h,_,_=>by
  simp only[storeCells,WH,ft];rw[show c.toList.toArray=c from rfl,qm h]
 | v::vs,w,c,off,i,h,hlen,hone=>by
  have hlen':off+i+(vs.length+1)<=c.size:=by simpa using hlen
  have hone':lH v=true/\bo vs=true:=by simpa [bo] using hone
  have hv:v.oneCell'=true:=by
   have:=hone'.1; cases v<;>first|rfl |(simp[lH] at this)
  have hcell:w.cell? ⟨B,off+i,none⟩=some c[off+i]:=by
   simp[World.cell?,h]
  have hfz:w.frozen? ⟨B,off+i,none⟩=false:=by simp[World.frozen?,h]
  have hh:(w.putObj B (.cells (c.setIfInBounds (off+i) v) e (0,0))).heap[B]? = some (.cells (c.setIfInBounds (off+i) v) e (0,0)) :=
   World.putObj_heap_same (Te.1 h).1
  have ih:=fL (P:=P) vs _ (c.setIfInBounds (off+i) v) off (i+1) hh (by simp; omega) hone'.2
  simp only[storeCells,WG,lP];rw[run_store _ _ _ _ _ hv];simp only[hcell,hfz,WE,Tf,if_false,tp h,ih,tX]
  congr 4
  rw[fY _ _ _ _ (by simp; omega)]
  simp[UY]
def Cb{j:aJ}{v v':Vs}(h:VR j v v')(ho:lH v=true):lH v'=true:=by
 cases h<;>first|rfl|exact uJ ‹_› |(simp[lH] at ho)
def nX{j:aJ}{vs vs':WB Vs}(h:LR j vs vs')(ho:bo vs=true):bo vs'=true:=by
 induction vs generalizing vs' with
 | nil=>rw[h.dg]; rfl
 | cons v vs ih =>
  obtain⟨y,ys,rfl,h1,h2⟩:=h.cons_inv;simp only[bo,Uo,SW] at ho ⊢;exact⟨Cb h1 ho.1,ih h2 ho.2⟩
def zk{b o:Nat}{vs:WB Vs}{m':V7}(hm:m.dj b o vs=some m') :
  (vs=[]/\m'=m)\/∃cs tag,m.get b=some (.cells cs tag)/\tag≠.ro/\o+vs.length<=cs.length/\m'=m.set b (.cells (aI cs o vs) tag):=by
 unfold V7.dj at hm
 split at hm
 cases hm; exact .inl ⟨rfl,rfl⟩
 split at hm
 cases hm
 rename_i cs tag hro hg
 split at hm
 rename_i hl;cases hm;exact .inr ⟨cs,tag,hg,fun e=>hro e,hl,rfl⟩
 cases hm
 cases hm
def iD(h:MR E j m w){b:Nat}{k:Blk}(hk:j b=some k){o:Nat}{vs vs':WB Vs}(hv:LR j vs vs')(ho:bo vs=true){m':V7}(hm:m.dj b o vs=some m') :
  ∃w',(storeCells ⟨k.c,o,none⟩ vs').run E.P w=.ok () w'/\Sim E j m w j m' w':=by
 rcases zk hm with⟨rfl,rfl⟩|⟨cs,tag,hg,hro,hl,rfl⟩
 rw[hv.dg];exact⟨w,rfl,.refl h⟩
 ·obtain⟨c,e,fz,h1,h2,h3⟩:=h.rm hk hg;have hfz:fz=(0,0)/\cs.length<=c.size:=by
   cases tag with
   | ro=>exact Tl rfl hro
   | own=>exact⟨h2.2.2,by rw[h2.2.1]; exact SX _⟩
   | more sz=>exact⟨h2.2.2.1,h2.2.1⟩
  obtain⟨rfl,hsz⟩:=hfz;refine⟨_,fL vs' w c o 0 h1 (by rw[<-hv.1]; simp; omega) (nX hv ho),kg h hk (by rw[hg]; rfl) ⟨?_,?_⟩⟩
  rw[cy];have:(aI c.toList (o+0) vs').toArray.size=c.size:=by simp[cy]
  exact h2.put this fun i hi=>by
   rw[Tx,cu,S8 (by rw[<-hv.1]; omega)]; simp
  intro i v hi;rw[cu] at hi;have:(aI c.toList (o+0) vs').toArray[i]? = if o<=i/\i<o+vs'.length/\i<c.size then vs'[i-o]? else c[i]?:=by
   rw[Tx,cu]; simp
  rw[this]
  by_cases hc:o<=i/\i<o+vs.length/\i<cs.length
  rw[S7 hc] at hi;rw[S7 ⟨hc.1,hv.1▸hc.2.1,by omega⟩]
  exact hv.2 _ v hi
  rw[S8 hc] at hi;have hi':=(Tc.1 hi).1;rw[S8 (by rw[<-hv.1]; omega)]
  exact h3 i v hi
end
section
variable{P:Vv}{w:Vw}
def rW{t:Vt}{i:TypeInfo}(h:P.info? t=some i)(w:Vw):(typeInfo t).run P w=.ok i w:=by simp[typeInfo,h]
def cx{t:Vt}(h:known P t=true)(w:Vw):(sizeOf t).run P w=.ok (aA P t) w:=by
 simp only[known,SW,Option.isSome_iff_exists] at h;obtain⟨_,i,hi⟩:=h;simp[sizeOf,rW hi,aA,Program.cellsOf,hi]
def oI{t:Vt}(h:known P t=true)(w:Vw):(isAgg t).run P w=.ok (dZ P t) w:=by
 simp only[known,SW,Option.isSome_iff_exists] at h;obtain⟨⟨d,hd⟩,_⟩:=h;simp only[isAgg,WG,WI hd,WE,dZ,hd];cases d<;>rfl
def ir{t:Vt}{z:Vs}(h:bK P t=some z)(w:Vw):(zeroValue t).run P w=.ok z w:=by
 unfold bK at h;cases hi:P.info? t with
 | none=>rw[hi] at h; cases h
 | some i =>
  rw[hi] at h;have hz:i.zero=some z:=h;simp[zeroValue,rW hi,hz]
def xI{t:Vt}{z:Vs}(h:bK P t=some z):∃i,P.info? t=some i/\i.zero=some z:=by
 unfold bK at h;cases hi:P.info? t with
 | none=>rw[hi] at h; cases h
 | some i=>rw[hi] at h; exact⟨i,rfl,h⟩
def LR.extract{j:aJ}{xs ys:WD Vs}(h:LR j xs.toList ys.toList)(a b:Nat):LR j (xs.extract a b).toList (ys.extract a b).toList:=by
 simp only[Array.toList_extract];exact(h.drop a).take (b-a)
def oZ{j:aJ}{t:Vt}{cs cs':WD Vs}{off:Nat}{v:Vs}(h:eD P t cs off=some v)(hc:LR j cs.toList cs'.toList) :
  ∃v',(∀w,(part t cs' off).run P w=.ok v' w)/\VR j v v':=by
 unfold eD at h
 split at h
 cases h
 rename_i hk;have hk':known P t=true:=by simpa using hk
 split at h
 rename_i ha;cases h;refine⟨.agg (cs'.extract off (off+aA P t)),fun w=>?_,.AZ (hc.extract _ _)⟩;simp[part,oI hk',ha,cx hk']
 rename_i ha;have:cs.toList[off]? = some v:=by simpa using h
 obtain⟨v',h1,h2⟩:=hc.get this;refine⟨v',fun w=>?_,h2⟩;have h1':cs'[off]? = some v':=by simpa using h1
 have ha':dZ P t=false:=by simpa using ha
 simp[part,oI hk',ha',h1']
def gF(d:Nat)(xs ys:WD Vs):WB (Vt×Nat)->Sem Bool
 | []=>pure true
 |(t,off)::rest=>do
  let a <-part t xs off
  let b <-part t ys off
  let r <-Op.equalIn d t a b
  if(!r)=true then pure false else gF d xs ys rest
def iy (d : Nat) (xs ys : WD Vs) : ∀ (fs : WB Field) (w : Vw), fs.any (·.name == "_") = false ->
  (Op.eqFields d xs ys fs).run P w=(gF d xs ys (fs.map fun f=>(f.type,f.offset))).run P w
 | [],_,_=>rfl
 | f::fs,w,h=>by
  simp only[List.any_cons,Bool.or_eq_false_iff] at h;have hn : f.name ≠ "_" := by simpa using h.1
  simp only[Op.eqFields,S7 hn,Va,gF,WG,Sem.run_ite]
  congr 1; funext a w1; congr 1; funext b w2; congr 1; funext r w3
  split
  rfl
  exact iy d xs ys fs w3 h.2
def run_equalIn_array(d:Nat)(t:Vt)(len:Nat)(elem:Vt)(xs ys:WD Vs)(ht:P.underlying t=some (.array len elem))(he:known P elem=true)(w:Vw) :
  (Op.equalIn (d+1) t (.agg xs) (.agg ys)).run P w=(gF d xs ys ((List.range len).map fun i=>(elem,i*aA P elem))).run P w:=by
 simp only[Op.equalIn,WG,WI ht,WE,cx he];rw[Std.Legacy.Range.forIn_eq_forIn_range'];simp only[Std.Legacy.Range.size,U4,Nat.add_sub_cancel,Nat.div_one];rw[<-List.range_eq_range'];generalize List.range len=is
 induction is generalizing w with
 | nil=>simp[gF]
 | cons i is ih =>
  simp only[List.forIn_cons,Va,gF,WG,Sem.run_ite];generalize(part elem xs (i*aA P elem)).run P w=r1;cases r1 with
  | ok a w1 =>
   simp only[WE];generalize(part elem ys (i*aA P elem)).run P w1=r2;cases r2 with
   | ok b w2 =>
    simp only[WE];generalize(Op.equalIn d elem a b).run P w2=r3;cases r3 with
    | ok r w3 =>
     cases r
     simp only[WE,To,if_true,WH]
     simp only[WE,S9,Tf,if_false,WH];exact ih w3
    | halt x w3=>simp[Result.andThen]
   | halt x w2=>simp[Result.andThen]
  | halt x w1=>simp[Result.andThen]
def kZ{j:aJ}{d:Nat}(ih:∀{t:Vt} {x y x' y':Vs} {b:Bool},kX P d t x y=some b->VR j x x'->VR j y y'->∀w,(Op.equalIn d t x' y').run P w=.ok b w)
  {xs ys xs' ys':WD Vs} (hx:LR j xs.toList xs'.toList) (hy:LR j ys.toList ys'.toList) :
  ∀(l:WB (Vt×Nat)) {b:Bool},hZ (kX P d) P xs ys l=some b->∀w,(gF d xs' ys' l).run P w=.ok b w
 | [],b,h,w=>by cases h; rfl
 | (t,off)::rest,b,h,w=>by
  simp only[hZ] at h
  split at h
  ·rename_i x y h1 h2;obtain⟨x',e1,r1⟩:=oZ h1 hx;obtain⟨y',e2,r2⟩:=oZ h2 hy;simp only[gF,WG,e1,e2,WE]
   split at h
   rename_i he;rw[ih he r1 r2 w];simp only[WE,S9,Tf,if_false];exact kZ ih hx hy rest h w
   ·rename_i hne;cases b with
    | true=>exact Tl h hne
    | false =>
     rw[ih h r1 r2 w];simp
  cases h
def kz{j:aJ}:∀(d:Nat) {t:Vt} {x y x' y':Vs} {b:Bool},kX P d t x y=some b->VR j x x'->VR j y y'->∀w,(Op.equalIn d t x' y').run P w=.ok b w
 | 0,_,_,_,_,_,_,h,_,_,_=>by cases h
 | d+1,t,x,y,x',y',b,h,hx,hy,w=>by
  unfold kX at h
  split at h
  rename_i ht; cases h; cases hx; cases hy; simp only[Op.equalIn,WG,WI ht,WE,WH]
  rename_i ht
  split at h
  rename_i hk; cases h; cases hx; cases hy; simp only[Op.equalIn,WG,WI ht,WE,WH,S7 hk]
  cases h
  rename_i ht; cases h; cases hx; cases hy; simp only[Op.equalIn,WG,WI ht,WE,WH]
  rename_i ht; cases h; cases hx; cases hy<;>simp only[Op.equalIn,WG,WI ht,WE,WH]<;>rfl
  rename_i ht; cases h; cases hx; cases hy; simp only[Op.equalIn,WG,WI ht,WE,WH]
  rename_i ht; cases h; cases hx; cases hy<;>simp only[Op.equalIn,WG,WI ht,WE,WH]<;>rfl
  rename_i ht; cases h; cases hy; cases hx<;>simp only[Op.equalIn,WG,WI ht,WE,WH]
  rename_i ht; cases h; cases hx; cases hy<;>simp only[Op.equalIn,WG,WI ht,WE,WH]<;>rfl
  rename_i ht; cases h; cases hy; cases hx<;>simp only[Op.equalIn,WG,WI ht,WE,WH]
  rename_i ht; cases h; cases hx; cases hy; simp only[Op.equalIn,WG,WI ht,WE,WH]
  rename_i ht; cases h; cases hx; cases hy<;>simp only[Op.equalIn,WG,WI ht,WE,WH]
  rename_i ht; cases h; cases hy; cases hx<;>simp only[Op.equalIn,WG,WI ht,WE,WH]
  ·rename_i fs xs ys ht
   split at h
   cases h
   ·rename_i hs;simp only[Ul,not_or,Bool.not_eq_true] at hs;cases hx with
    | agg h1 h2 =>
    cases hy with
    | agg h3 h4 =>
    have hf:P.fieldsOf t=fs:=by simp[Program.fieldsOf,ht]
    rw[run_equalIn_struct _ d t _ _ (by rw[hf]; exact ht) hs.1,hf,iy _ _ _ _ _ (by simpa using hs.2)]
    exact kZ (fun a b c w=>kz d a b c w) (LR.eV h1 h2) (LR.eV h3 h4) _ h w
  ·rename_i len elem xs ys ht
   split at h
   ·rename_i hk;cases hx with
    | agg h1 h2 =>
    cases hy with
    | agg h3 h4 =>
    rw[run_equalIn_array d t len elem _ _ ht hk];exact kZ (fun a b c w=>kz d a b c w) (LR.eV h1 h2) (LR.eV h3 h4) _ h w
   cases h
  cases h
end
def mR(P:Vv)(s:Sem Vs)(v:Vs):Prop:=∀w,s.run P w=.ok v w
section
variable{P:Vv}{j:aJ}
def dR(op:BinOp)(t:Vt)(x y:Vu){a b:Vs}(h1:∀xs ys,a=.agg xs->b=.agg ys->False)(h2:a≠.nilIface)(w:Vw) :
  (eqGuard op t x y a b).run P w=.ok () w:=by
 unfold eqGuard;cases op<;>simp only[To,S9,if_true,Tf,if_false,WH]<;>
  (split
   exact Tl rfl h2
   exact(h1 _ _ rfl rfl).elim
   rfl)
def mj:Vs->Bool
 | .bool _|.pointer _|.slice _ _ _|.map _|.func _ _ _|.nilFunc=>true
 | _=>false
def binOp_eql{t:Vt}{x y:Vs}(h:mj x=true):binOp .eql t x y=(do pure (.bool (<-Op.equal t x y))):=by
 cases x<;>first |(simp[mj] at h; done) |(cases y<;>rfl)
def binOp_neq{t:Vt}{x y:Vs}(h:mj x=true):binOp .neq t x y=(do pure (.bool (!(<-Op.equal t x y)))):=by
 cases x<;>first |(simp[mj] at h; done) |(cases y<;>rfl)
def LH {op:BinOp} {t:Vt} {x y x' y' v:Vs} (h:bf op t P x y=some v) (hx:VR j x x') (hy:VR j y y') (ox oy:Vu) :
  ∃v',mR P (do eqGuard op t ox oy x' y'; binOp op t x' y') v'/\VR j v v':=by
 unfold bf at h
 split at h
 case h_1 =>
  cases hx; cases hy
  split at h
  cases h
  rename_i hb;cases h;refine⟨_,fun w=>?_,.int _ _⟩;rw[WG,dR _ _ _ _ (by intro _ _ e; cases e) (by intro e; cases e)]
  simp only[WE,binOp,Op.shift,S8 hb,WH]
 case h_2 =>
  cases hx; cases hy
  split at h
  cases h
  rename_i hb;cases h;refine⟨_,fun w=>?_,.int _ _⟩;rw[WG,dR _ _ _ _ (by intro _ _ e; cases e) (by intro e; cases e)]
  simp only[WE,binOp,Op.shift,S8 hb,WH]
 case h_12 =>
  cases hx; cases hy
  split at h
  rename_i hk
  split at h
  cases h
  rename_i hb;cases h;refine⟨_,fun w=>?_,.int _ _⟩;rw[WG,dR _ _ _ _ (by intro _ _ e; cases e) (by intro e; cases e)]
  simp only[WE,binOp,hk,ne_eq,not_true_eq_false,if_false,Op.intDiv,S8 hb,WH]
  cases h
 case h_13 =>
  cases hx; cases hy
  split at h
  rename_i hk
  split at h
  cases h
  rename_i hb;cases h;refine⟨_,fun w=>?_,.int _ _⟩;rw[WG,dR _ _ _ _ (by intro _ _ e; cases e) (by intro e; cases e)]
  simp only[WE,binOp,hk,ne_eq,not_true_eq_false,if_false,Op.intDiv,S8 hb,WH]
  cases h
 case h_18 =>
  cases h; cases hx; cases hy;refine⟨_,fun w=>?_,.bool _⟩;rw[WG,dR _ _ _ _ (by intro _ _ e; cases e) (by intro e; cases e)]
  simp only[WE,binOp,Op.stringOp,WH,beq_toListBytes]
 case h_19 =>
  cases h; cases hx; cases hy;refine⟨_,fun w=>?_,.bool _⟩;rw[WG,dR _ _ _ _ (by intro _ _ e; cases e) (by intro e; cases e)]
  simp only[WE,binOp,Op.stringOp,WH,bne,beq_toListBytes]
 case h_20=>cases h
 case h_21 =>
  cases hx with
  | agg h1 h2 =>
  cases hy with
  | agg h3 h4 =>
  split at h
  cases h
  ·rename_i hg;cases he:kX P Op.maxDepth t (.agg _) (.agg _) with
   | none=>rw[he] at h; cases h
   | some b =>
    rw[he] at h; cases h;refine⟨_,fun w=>?_,.bool _⟩;have:=kz (P:=P) Op.maxDepth he (.agg h1 h2) (.agg h3 h4) w;have hg':P.eqGuardType P.depth t=false:=by simpa using hg
    rw[WG,run_eqGuard_agg w _ _ _ _ _ _ hg'];simp only[WE,binOp,Op.equal,WG,this,WH]
 case h_22 =>
  cases hx with
  | agg h1 h2 =>
  cases hy with
  | agg h3 h4 =>
  split at h
  cases h
  ·rename_i hg;cases he:kX P Op.maxDepth t (.agg _) (.agg _) with
   | none=>rw[he] at h; cases h
   | some b =>
    rw[he] at h; cases h;refine⟨_,fun w=>?_,.bool _⟩;have:=kz (P:=P) Op.maxDepth he (.agg h1 h2) (.agg h3 h4) w;have hg':P.eqGuardType P.depth t=false:=by simpa using hg
    rw[WG,run_eqGuard_agg w _ _ _ _ _ _ hg'];simp only[WE,binOp,Op.equal,WG,this,WH]
 case h_23 =>
  have key:mj x'=true/\∃b,kX P Op.maxDepth t x y=some b/\v=.bool b:=by
   split at h<;>first
    |(cases h; done)
    | (refine⟨?_,?_⟩
       cases hx<;>rfl
       ·cases he:kX P Op.maxDepth t _ y with
        | none=>rw[he] at h; cases h
        | some b=>rw[he] at h; cases h; exact⟨b,rfl,rfl⟩)
  obtain⟨hs,b,he,rfl⟩:=key;refine⟨_,fun w=>?_,.bool b⟩;rw[WG,dR _ _ _ _ (by intro _ _ e; subst e; cases hs) (by intro e; subst e; cases hs),WE,binOp_eql hs]
  simp only[Op.equal,WG,kz _ he hx hy,WE,WH]
 case h_24 =>
  have key:mj x'=true/\∃b,kX P Op.maxDepth t x y=some b/\v=.bool (!b):=by
   split at h<;>first
    |(cases h; done)
    | (refine⟨?_,?_⟩
       cases hx<;>rfl
       ·cases he:kX P Op.maxDepth t _ y with
        | none=>rw[he] at h; cases h
        | some b=>rw[he] at h; cases h; exact⟨b,rfl,rfl⟩)
  obtain⟨hs,b,he,rfl⟩:=key;refine⟨_,fun w=>?_,.bool (!b)⟩;rw[WG,dR _ _ _ _ (by intro _ _ e; subst e; cases hs) (by intro e; subst e; cases hs),WE,binOp_neq hs]
  simp only[Op.equal,WG,kz _ he hx hy,WE,WH]
 case h_25=>cases h
 all_goals
  cases hx; cases hy
  split at h
  rename_i hk;cases h;refine⟨_,fun w=>?_,(by first|exact .bool _|exact .int _ _)⟩
  rw[WG,dR _ _ _ _ (by intro _ _ e; cases e) (by intro e; cases e)]
  simp only[WE,binOp,hk,ne_eq,not_true_eq_false,if_false,Op.intArith,Op.intBits,Op.intCmp,WH]
  cases h
def ON{op:UnOp}{x x' v:Vs}(h:BL op x=some v)(hx:VR j x x'):∃v',mR P (Op.unary op x') v'/\VR j v v':=by
 unfold BL at h
 split at h
 cases h; cases hx; exact⟨_,fun w=>rfl,.int _ _⟩
 cases h; cases hx; exact⟨_,fun w=>rfl,.int _ _⟩
 cases h; cases hx; exact⟨_,fun w=>rfl,.bool _⟩
 cases h
def IW{s d:Vt}{x x' v:Vs}(h:fI P s d x=some v)(hx:VR j x x'):∃v',mR P (convert s d x') v'/\VR j v v':=by
 unfold fI at h
 split at h
 rename_i e1 e2;cases h; cases hx;refine⟨_,fun w=>?_,.int _ _⟩;simp only[convert,WG,WI e1,WI e2,WE,Conv.intToInt,WH]
 rename_i e1 e2;cases h; cases hx;refine⟨_,fun w=>?_,.string _⟩;simp only[convert,WG,WI e1,WI e2,WE]
 rfl
 cases h
def ES{v:Vs}(h:lH v=true):v.cells.toList=[v]:=by
 cases v<;>first|rfl |(simp[lH] at h)
def gx{v v':Vs}(h:VR j v v'):LR j v.cells.toList v'.cells.toList:=by
 cases h with
 | junk h=>rw[ES (uJ h)]; exact LR.cons (.junk h) (.nil j)
 | agg h1 h2=>exact LR.eV h1 h2
 | bool b=>exact LR.cons (.bool b) (.nil j)
 | int k n=>exact LR.cons (.int k n) (.nil j)
 | string s=>exact LR.cons (.string s) (.nil j)
 | pnil=>exact LR.cons .pnil (.nil j)
 | ptr h=>exact LR.cons (.ptr h) (.nil j)
 | snil l c=>exact LR.cons (.snil l c) (.nil j)
 | slice h hm=>exact LR.cons (.slice h hm) (.nil j)
 | sliceM h hm h1 h2 hl hc=>exact LR.cons (.sliceM h hm h1 h2 hl hc) (.nil j)
 | gG=>exact LR.cons .gG (.nil j)
 | dry=>exact LR.cons .dry (.nil j)
 | mnil=>exact LR.cons .mnil (.nil j)
 | map h=>exact LR.cons (.map h) (.nil j)
 | func h1 h2 h3 h4=>exact LR.cons (.func h1 h2 h3 h4) (.nil j)
 | yield h h1 h2=>exact LR.cons (.yield h h1 h2) (.nil j)
 | nilFunc=>exact LR.cons .nilFunc (.nil j)
 | nilIface=>exact LR.cons .nilIface (.nil j)
 | tuple h1 h2=>exact LR.cons (.tuple h1 h2) (.nil j)
def LR.Ny{cs cs' vs vs':WB Vs}(h:LR j cs cs')(hv:LR j vs vs')(o:Nat):LR j (aI cs o vs) (aI cs' o vs') :=
 ⟨by rw[cy,cy,h.1],fun i v hi=>by
  rw[cu] at hi ⊢;rw[<-hv.1,<-h.1]
  split at hi
  rename_i hc; rw[S7 hc]; exact hv.2 _ v hi
  rename_i hc; rw[S8 hc]; exact h.2 _ v hi⟩
def pf(off:Nat):∀(l:WB Vs) (k:Nat) (cs:WD Vs),off+k+l.length<=cs.size ->
  (l.zipIdx k).foldl (fun(cs:WD Vs) (x:Vs×Nat)=>cs.setIfInBounds (off+x.2) x.1) cs=(aI cs.toList (off+k) l).toArray
 | [],k,cs,_=>by simp[ft]
 | v::l,k,cs,h=>by
  have h':off+k+(l.length+1)<=cs.size:=by simpa using h
  simp only[List.zipIdx_cons,List.foldl_cons];rw[pf off l (k+1) _ (by simp; omega),fY _ _ _ _ (by simp; omega)]
  simp[UY]
def oF{place:Nat->WA (Nat×Nat)}:∀{ps:WB (Nat×Vs)} {ps':WB (Nat×Vs)} {cells cells' r:WB Vs},ps.map (·.1)=ps'.map (·.1)->LR j (ps.map (·.2)) (ps'.map (·.2)) ->
  LR j cells cells'->gS place cells ps=some r->∃r',Instr.fill place cells'.toArray ps'=some r'.toArray/\LR j r r'
 | [],ps',cells,cells',r,h1,_,hc,h=>by
  cases ps' with
  | nil=>cases h; exact⟨cells',rfl,hc⟩
  | cons _ _=>simp at h1
 | (i,v)::rest,ps',cells,cells',r,h1,h2,hc,h=>by
  cases ps' with
  | nil=>simp at h1
  | cons p rest' =>
   obtain⟨i',v'⟩:=p;simp only[Va,List.cons.injEq] at h1;obtain⟨rfl,h1⟩:=h1;have hv:=h2.head;have hrest:=h2.tail;simp only[gS] at h
   split at h
   cases h
   rename_i off size hp
   split at h
   cases h
   rename_i hcond;have hcells:=gx hv;have hsz:v.cells.size=v'.cells.size:=by simpa using hcells.1
   have hlen:cells.length=cells'.length:=hc.1;have hcond':¬((v'.cells.size≠size||off+v'.cells.size>cells'.toArray.size)=true):=by
    rw[<-hsz]; simpa [<-hlen] using hcond
   simp only[Instr.fill,hp,S8 hcond'];have hle:off+0+v'.cells.toList.length<=cells'.toArray.size:=by
    simp only[Ul,not_or,Tv] at hcond';simp; have:=hcond'.2; simp at this; omega
   have hfold:=pf off v'.cells.toList 0 cells'.toArray hle;have hz:v'.cells.zipIdx.foldl (fun cs x=>cs.setIfInBounds (off+x.2) x.1) cells'.toArray=(aI cells' off v'.cells.toList).toArray:=by
    rw[<-Array.foldl_toList,Array.toList_zipIdx];exact hfold
   rw[show(v'.cells.zipIdx.foldl (fun cs (x:Vs×Nat)=>match x with |(c,j)=>cs.setIfInBounds (off+j) c) cells'.toArray)=(aI cells' off v'.cells.toList).toArray from hz]
   exact oF h1 hrest (hc.Ny hcells off) h
def uE:∀(l:WB Field) (w:Vw),l.all (fun f=>known P f.type)=true ->
  (l.mapM fun(f:Field)=>(do pure (f.offset,<-sizeOf f.type):Sem (Nat×Nat))).run P w=.ok (l.map fun f=>(f.offset,aA P f.type)) w
 | [],w,_=>rfl
 | f::l,w,h=>by
  simp only[Uo,SW] at h;simp only[List.mapM_cons,WG,cx h.1,WE,WH,uE l w h.2,Va]
def IC(fields:WD Field)(h:fields.toList.all (fun f=>known P f.type)=true)(w:Vw) :
  (fields.mapM fun(f:Field)=>(do pure (f.offset,<-sizeOf f.type):Sem (Nat×Nat))).run P w=.ok (fields.map fun f=>(f.offset,aA P f.type)) w:=by
 obtain⟨l⟩:=fields;simp only[List.mapM_toArray,Sem.run_map,List.map_toArray];rw[uE l w h]; rfl
def Fv{t:Vt}{ps ps':WB (Nat×Vs)}{v:Vs}(h:kC P t ps=some v)(h1:ps.map (·.1)=ps'.map (·.1))(h2:LR j (ps.map (·.2)) (ps'.map (·.2)))
  {z:Vs} (hz:bK P t=some z) (hp:bw z=true):∃v',mR P (Instr.build t ps'.toArray) v'/\VR j v v':=by
 have hzc:LR j z.cells.toList z.cells.toList:=gx (VR.bw hp);unfold kC at h;rw[hz] at h
 split at h
 ·rename_i z0 fields hz0 hu;cases hz0
  split at h
  ·rename_i hall;cases hf:gS (fun i=>(fields[i]?).map fun f=>(f.offset,aA P f.type)) z.cells.toList ps with
   | none=>rw[hf] at h; cases h
   | some r =>
    rw[hf] at h; cases h;obtain⟨r',h3,h4⟩:=oF h1 h2 hzc hf;refine⟨.agg r'.toArray,fun w=>?_,.AZ (by simpa using h4)⟩
    have hpl:(fun(i:Nat)=>(fields.map fun(f:Field)=>(f.offset,aA P f.type))[i]?)=fun i=>(fields[i]?).map fun(f:Field)=>(f.offset,aA P f.type):=by
     funext i; simp
    simp only[Instr.build,WG,ir hz,WI hu,WE,IC fields hall,hpl];have h3':Instr.fill _ z.cells ps'=some r'.toArray:=h3;rw[h3']; rfl
  cases h
 ·rename_i z0 n elem hz0 hu;cases hz0
  split at h
  ·rename_i hk;cases hf:gS (fun i=>some (i*aA P elem,aA P elem)) z.cells.toList ps with
   | none=>rw[hf] at h; cases h
   | some r =>
    rw[hf] at h; cases h;obtain⟨r',h3,h4⟩:=oF h1 h2 hzc hf;refine⟨.agg r'.toArray,fun w=>?_,.AZ (by simpa using h4)⟩
    simp only[Instr.build,WG,ir hz,WI hu,WE,cx hk];have h3':Instr.fill _ z.cells ps'=some r'.toArray:=h3;rw[h3']; rfl
  cases h
 cases h
def ij{x x':Vs}{y l:Nat}(h:kD x y=some l)(hx:VR j x x'){y':Nat}(hy:y<=y')(code:BoundsCode)(w:Vw) :
  (Instr.sliceBound x' y' code).run P w=.ok l w/\l<=y:=by
 unfold kD at h
 split at h
 rename_i k i
 split at h
 rename_i hc;cases h;cases hx;refine⟨?_,by omega⟩
 simp only[Instr.sliceBound,asIntOf,WG,WH,WE];rw[S7 ⟨hc.1,by omega⟩]; rfl
 cases h
 cases h
def gD(mx:WA Vs)(c m:Nat):Nat:=match mx with|none=>c|some _=>m
inductive OVR(j:aJ):WA Vs->WA Vs->Prop
 | none:OVR j none none
 | some {v v':Vs} (h:VR j v v'):OVR j (some v) (some v')
def iz{len cap:Nat}{lo hi mx:WA Vs}{l h m:Nat}(e:eQ len cap lo hi mx=some (l,h,m)):l<=h/\m<=cap/\(hi.isSome=true->h<=m)/\(hi=none->h=len/\mx=none)/\(mx=none->m=cap):=by
 have hb:∀(x:Vs) (y l:Nat),kD x y=some l->l<=y:=by
  intro x y l h;unfold kD at h
  split at h
  split at h
  rename_i hc; cases h; omega
  cases h
  cases h
 unfold eQ at e
 split at e
 cases e
 ·rename_i m' hm
  split at e
  cases e
  ·rename_i h' hh
   split at e
   cases e
   ·rename_i l' hl;cases e;have h1:m<=cap:=by
     cases mx with
     | none=>simp at hm; omega
     | some v=>exact hb _ _ _ hm
    have h2:hi.isSome=true->h<=m:=by
     cases hi with
     | none=>intro e; cases e
     | some v=>intro _; cases mx<;>exact hb _ _ _ hh
    have h3:hi=none->h=len/\mx=none:=by
     intro e; subst e;cases mx with
     | none=>simp at hh; exact⟨hh.symm,rfl⟩
     | some v=>simp at hh
    have h4:l<=h:=by
     cases lo with
     | none=>simp at hl; omega
     | some v=>exact hb _ _ _ hl
    have h5:mx=none->m=cap:=by intro e; subst e; simpa using hm.symm
    exact⟨h4,h1,h2,h3,h5⟩
def ep {len cap cap':Nat} {lo hi mx lo' hi' mx':WA Vs} {l h m:Nat} (e:eQ len cap lo hi mx=some (l,h,m)) (h1:OVR j lo lo') (h2:OVR j hi hi') (h3:OVR j mx mx') (hc:cap<=cap') (b:Bool) (w:Vw) :
  (Instr.sliceBounds b len cap' lo' hi' mx').run P w=.ok (l,h,gD mx cap' m) w:=by
 unfold eQ at e
 split at e
 cases e
 ·rename_i m' hm
  split at e
  cases e
  ·rename_i h' hh
   split at e
   cases e
   ·rename_i l' hl;cases e;cases h3 with
    | none =>
     have hm':cap=m:=by simpa using hm
     subst hm';cases h2 with
     | none =>
      have hh':len=h:=by simpa using hh
      subst hh';cases h1 with
      | none =>
       have:0=l:=by simpa using hl
       subst this;simp only[gD,Instr.sliceBounds,WG,WH,WE]
      | some r1 =>
       have:=(ij (P:=P) (by simpa using hl) r1 (SX _) .sliceB w).1
       simp only[gD,Instr.sliceBounds,WG,WH,WE,Option.isSome_none,Tf,if_false,this]
     | some r2 =>
      have e2:=ij (P:=P) (by simpa using hh) r2 hc (if b then .sliceAcap else .sliceAlen) w
      cases h1 with
      | none =>
       have:0=l:=by simpa using hl
       subst this;simp only[gD,Instr.sliceBounds,WG,WH,WE,e2.1]
      | some r1 =>
       have:=(ij (P:=P) (by simpa using hl) r1 (SX _) .sliceB w).1
       simp only[gD,Instr.sliceBounds,WG,WH,WE,Option.isSome_none,Tf,if_false,e2.1,this]
    | some r3 =>
     have e3:=ij (P:=P) (by simpa using hm) r3 hc (if b then .slice3Acap else .slice3Alen) w
     cases h2 with
     | none=>simp at hh
     | some r2 =>
      have e2:=(ij (P:=P) (by simpa using hh) r2 (SX _) .slice3B w).1
      cases h1 with
      | none =>
       have:0=l:=by simpa using hl
       subst this;simp only[gD,Instr.sliceBounds,WG,WH,WE,e2,e3.1]
      | some r1 =>
       have:=(ij (P:=P) (by simpa using hl) r1 (SX _) .slice3C w).1
       simp only[gD,Instr.sliceBounds,WG,WH,WE,Option.isSome_some,if_true,e2,e3.1,this]
def eO(c o i:Nat):(⟨c,o,none⟩:Addr).add i=⟨c,o+i,none⟩:=by
 unfold Addr.add
 split
 rename_i e; subst e; rfl
 rfl
def MR.kindOf{E:Env}{m:V7}{w:Vw}(h:MR E j m w){b:Nat}{k:Blk}(hk:j b=some k){cs:WB Vs}{tag:Tag}(hg:m.get b=some (.cells cs tag)) :
  match tag with
  | .more sz=>∃nc,k.more=some (sz,cs.length,nc)/\0<sz
  | _=>k.more=none:=by
 obtain⟨o',h1,h2⟩:=h.obj b _ k hg hk;cases o' with
 | cells c e fz =>
  have:=h2.1;cases tag with
  | ro=>exact this.1
  | own=>exact this.1
  | more sz=>exact⟨_,this.1,this.2.2.2.1⟩
 | _=>exact h2.elim
def EJ {E:Env} {m:V7} {w:Vw} (h:MR E j m w) {t:Vt} {x x' v:Vs} {lo hi mx lo' hi' mx':WA Vs} (e:cE E.P t x lo hi mx m=some v) (hx:VR j x x') (h1:OVR j lo lo') (h2:OVR j hi hi') (h3:OVR j mx mx') :
  ∃v',mR E.P (Instr.sliceAt t x' lo' hi' mx') v'/\VR j v v':=by
 unfold cE at e
 split at e
 ·
  rename_i elem len cap hu
  split at e
  ·rename_i hk
   split at e
   ·rename_i l hh mm hb;cases e; cases hx;refine⟨_,fun w=>?_,.snil _ _⟩;have:=ep (P:=E.P) (cap':=cap) hb h1 h2 h3 (SX _) true w;have hm:gD mx cap mm=mm:=by
     cases mx with
     | none=>exact((iz hb).2.2.2.2 rfl).symm
     | some _=>rfl
    rw[hm] at this;simp only[Instr.sliceAt,Instr.slice,WG,WI hu,WE,this,cx hk,WH]
    split<;>rfl
   cases e
  cases e
 ·rename_i elem b o len cap hu
  split at e
  ·rename_i hk
   split at e
   ·rename_i cs sz hg
    split at e
    cases e
    ·rename_i hsz;have hsz:sz=aA E.P elem:=Decidable.of_not_not hsz;cases hx with
     | slice hj hm =>
      have:=h.kindOf hj hg;simp only at this;obtain⟨nc,hmm,_⟩:=this;rw[hm] at hmm; cases hmm
     | sliceM hj hm e1 e2 hl hc =>
      rename_i cap' sz' na nc k;have hkd:=h.kindOf hj hg;simp only at hkd;obtain⟨nc',hmm,hpos⟩:=hkd;rw[hm] at hmm; cases hmm;cases h3 with
      | none =>
       simp only at e
       split at e
       ·rename_i l hh mm hb;have hbl:=iz hb;have hrun:=fun w=>ep (P:=E.P) (cap':=cap') hb h1 h2 .none hc true w;have hlc:l<=cap:=by
         cases hi with
         | none=>have:=hbl.2.2.2.1 rfl; omega
         | some _=>have:=hbl.2.2.1 rfl; omega
        split at e
        ·rename_i hcl;cases e;refine⟨_,fun w=>?_,.gG (a':=if cap'=l then⟨k.c,o,none⟩ else⟨k.c,o+l*aA E.P elem,none⟩) (cap':=cap'-l)⟩
         have hhl:hh-l=0:=by
          cases hi with
          | none=>have:=hbl.2.2.2.1 rfl; omega
          | some _=>have:=hbl.2.2.1 rfl; omega
         simp only[Instr.sliceAt,Instr.slice,WG,WI hu,WE,hrun,cx hk,WH,hhl,gD]
         split
         rfl
         rw[SZ,eO]
        ·rename_i hcl;cases e;refine⟨.slice (some ⟨k.c,o+l*aA E.P elem,none⟩) (hh-l) (cap'-l),fun w=>?_,.sliceM hj hm ?_ ?_ ?_ ?_⟩
         have:¬cap'=l:=by omega
         simp only[Instr.sliceAt,Instr.slice,WG,WI hu,WE,hrun,cx hk,WH,S8 this,SZ,eO,gD]
         subst hsz; rw[<-e1,Nat.sub_mul]; have:l*aA E.P elem<=cap*aA E.P elem:=T2 _ hlc; omega
         subst hsz; rw[<-e2,Nat.sub_mul]; have:l*aA E.P elem<=cap'*aA E.P elem:=T2 _ (by omega); omega
         ·cases hi with
          | none=>have:=hbl.2.2.2.1 rfl; omega
          | some _=>have:=hbl.2.2.1 rfl; omega
         omega
       cases e
      | some r3 =>
       simp only at e
       split at e
       rename_i l hh mm hb
       split at e
       rename_i hcond;cases e;have hrun:=fun w=>ep (P:=E.P) (cap':=cap') hb h1 h2 (.some r3) hc true w;refine⟨_,fun w=>?_,.dry (a':=⟨k.c,o,none⟩)⟩;simp only[Instr.sliceAt,Instr.slice,WG,WI hu,WE,hrun,cx hk,WH,hcond.2,hcond.1,UE,gD];simp
       cases e;have hrun:=fun w=>ep (P:=E.P) (cap':=cap') hb h1 h2 (.some r3) hc true w;refine⟨.slice (some (if mm=l then⟨k.c,o,none⟩ else⟨k.c,o+l*aA E.P elem,none⟩)) (hh-l) (mm-l),fun w=>?_,.junk rfl⟩
       simp only[Instr.sliceAt,Instr.slice,WG,WI hu,WE,hrun,cx hk,WH,gD]
       split
       rfl
       rw[SZ,eO]
       cases e
   ·rename_i cs tag hnm hg
    split at e
    ·rename_i l hh mm hb;cases e;cases hx with
     | slice hj hm =>
      rename_i k;have hrun:=fun w=>ep (P:=E.P) (cap':=cap) hb h1 h2 h3 (SX _) true w;have hmm:gD mx cap mm=mm:=by
       cases mx with
       | none=>exact((iz hb).2.2.2.2 rfl).symm
       | some _=>rfl
      rw[hmm] at hrun;refine⟨.slice (some (if mm=l then⟨k.c,o,none⟩ else⟨k.c,o+l*aA E.P elem,none⟩)) (hh-l) (mm-l),fun w=>?_,?_⟩
      simp only[Instr.sliceAt,Instr.slice,WG,WI hu,WE,hrun,cx hk,WH]
      split
      rename_i hc; simp only[S7 hc]
      rename_i hc; simp only[SZ,eO]
      split
      exact .slice hj hm
      exact .slice hj hm
     | sliceM hj hm e1 e2 hl hc =>
      have hkd:=h.kindOf hj hg;cases tag with
      | more sz=>exact Tl rfl (hnm sz)
      | ro=>simp only at hkd; rw[hm] at hkd; cases hkd
      | own=>simp only at hkd; rw[hm] at hkd; cases hkd
    cases e
   cases e
  cases e
 ·
  rename_i elem b o sp hu
  split at e
  ·rename_i hk
   split at e
   ·rename_i r hb;obtain⟨l,hh,mm⟩:=r;cases e;have hbl:=iz hb;have hl0:l=0/\hh=0:=by
     cases hi with
     | none=>have:=hbl.2.2.2.1 rfl; omega
     | some _=>have:=hbl.2.2.1 rfl; omega
    cases hx with
    | gG =>
     rename_i a' cap';have hrun:=fun w=>ep (P:=E.P) (cap':=cap') hb h1 h2 h3 (Uw _) true w;refine⟨_,fun w=>?_,.gG (a':=a') (cap':=gD mx cap' mm)⟩;simp only[Instr.sliceAt,Instr.slice,WG,WI hu,WE,hrun,cx hk,WH,hl0.1,hl0.2,UE,UA,U4,SZ];simp[Addr.add]
    | dry =>
     rename_i a';have hrun:=fun w=>ep (P:=E.P) (cap':=0) hb h1 h2 h3 (Uw _) true w;have hmm:gD mx 0 mm=0:=by
      cases mx with
      | none=>rfl
      | some _=>have:=hbl.2.1; simp[gD]; omega
     rw[hmm] at hrun;refine⟨_,fun w=>?_,.dry (a':=a')⟩;simp only[Instr.sliceAt,Instr.slice,WG,WI hu,WE,hrun,cx hk,WH,hl0.1,hl0.2,UE,UA,SZ];simp
   cases e
  cases e
 ·
  rename_i n elem b o hu
  split at e
  ·rename_i hk
   split at e
   cases e
   ·rename_i cs tag hnm hg
    split at e
    ·rename_i l hh mm hb;cases e;cases hx with
     | ptr hj =>
      rename_i k;have hrun:=fun w=>ep (P:=E.P) (cap':=n) hb h1 h2 h3 (SX _) false w;have hmm:gD mx n mm=mm:=by
       cases mx with
       | none=>exact((iz hb).2.2.2.2 rfl).symm
       | some _=>rfl
      rw[hmm] at hrun;have hkd:=h.kindOf hj hg;have hm:k.more=none:=by
       cases tag with
       | more sz=>exact Tl rfl (hnm sz)
       | ro=>exact hkd
       | own=>exact hkd
      refine⟨.slice (some (if mm=l then⟨k.c,o,none⟩ else⟨k.c,o+l*aA E.P elem,none⟩)) (hh-l) (mm-l),fun w=>?_,?_⟩
      simp only[Instr.sliceAt,Instr.sureAddr,WG,WI hu,WE,hrun,cx hk,WH]
      split
      rename_i hc; simp only[S7 hc]
      rename_i hc; simp only[eO]
      split
      exact .slice hj hm
      exact .slice hj hm
    cases e
   cases e
  cases e
 cases e
def uj{t:Vt}{x x' v:Vs}{f:Nat}(e:aM P t x f=some v)(hx:VR j x x'):∃v',mR P (Instr.fieldAt t x' f) v'/\VR j v v':=by
 unfold aM at e
 split at e
 ·rename_i fields b o hu
  split at e
  ·rename_i fl hf
   split at e
   ·rename_i hk;simp only[SW,bne_iff_ne,ne_eq] at hk;cases e;cases hx with
    | ptr hj =>
    rename_i k;refine⟨_,fun w=>?_,.ptr hj⟩;simp only[Instr.fieldAt,WG,WI hu,WE,hf,Instr.sureAddr,WH,fieldPlace,cx hk.1,S8 hk.2,eO]
   cases e
  cases e
 cases e
def Iu{t:Vt}{x x' v:Vs}(e:Es P t x=some v)(hx:VR j x x'):∃v',mR P (Instr.arrayAt t x') v'/\VR j v v':=by
 unfold Es at e
 split at e
 ·rename_i n el b o len cap hu
  split at e
  ·rename_i hc;cases e;have hn:¬len<n:=by omega
   cases hx with
   | slice hj hm=>exact⟨_,fun w=>by simp only[Instr.arrayAt,WG,WI hu,WE,S8 hn,WH],.ptr hj⟩
   | sliceM hj hm h1 h2 hl hc2=>exact⟨_,fun w=>by simp only[Instr.arrayAt,WG,WI hu,WE,S8 hn,WH],.ptr hj⟩
  cases e
 cases e
def uu{t:Vt}{x x' y y' v:Vs}(e:bJ P t x y=some v)(hx:VR j x x')(hy:VR j y y'):∃v',mR P (Instr.indexAt t x' y') v'/\VR j v v':=by
 unfold bJ at e
 split at e
 ·rename_i len elem b o k i hu
  split at e
  ·rename_i hc;simp only[SW,Tv] at hc;cases e;cases hy;cases hx with
   | ptr hj =>
   refine⟨_,fun w=>?_,.ptr hj⟩;simp only[Instr.indexAt,asIntOf,WG,WI hu,WE,Instr.sureAddr,WH,cx hc.1,S7 hc.2,eO]
  cases e
 ·rename_i elem b o len cap k i hu
  split at e
  ·rename_i hc;simp only[SW,Tv] at hc;cases e;cases hy;cases hx with
   | slice hj hm =>
    refine⟨_,fun w=>?_,.ptr hj⟩;simp only[Instr.indexAt,asIntOf,WG,WI hu,WE,WH,cx hc.1,S7 hc.2,eO]
   | sliceM hj hm e1 e2 hl hcap =>
    refine⟨_,fun w=>?_,.ptr hj⟩;simp only[Instr.indexAt,asIntOf,WG,WI hu,WE,WH,cx hc.1,S7 hc.2,eO]
  cases e
 cases e
def Fu{t:Vt}{x x' y y' v:Vs}(e:eS P t x y=some v)(hx:VR j x x')(hy:VR j y y'):∃v',mR P (Instr.index t x' y') v'/\VR j v v':=by
 unfold eS at e
 split at e
 ·rename_i len elem cs k i hu
  split at e
  ·rename_i hc;cases hy;cases hx with
   | agg h1 h2 =>
   have hk:known P elem=true:=by
    unfold eD at e
    split at e
    cases e
    rename_i hk; simpa using hk
   obtain⟨v',h3,h4⟩:=oZ e (LR.eV h1 h2);refine⟨v',fun w=>?_,h4⟩;simp only[Instr.index,asIntOf,WG,WI hu,WE,WH,S7 hc,cx hk,h3]
  cases e
 ·rename_i s k i hu
  split at e
  ·rename_i hc;cases hy; cases hx;cases hs:s[i.toNat]? with
   | none=>rw[hs] at e; cases e
   | some b =>
    rw[hs] at e; cases e;refine⟨_,fun w=>?_,.int _ _⟩;simp only[Instr.index,asIntOf,WG,WI hu,WE,WH,S7 hc,hs]
  cases e
 cases e
def Fw{t:Vt}{x x' v:Vs}{f:Nat}(e:eW P t x f=some v)(hx:VR j x x'):∃v',mR P (Instr.field t x' f) v'/\VR j v v':=by
 unfold eW at e
 split at e
 ·rename_i fields cs hu
  split at e
  ·rename_i fl hf;cases hx with
   | agg h1 h2 =>
   obtain⟨v',h3,h4⟩:=oZ e (LR.eV h1 h2);refine⟨v',fun w=>?_,h4⟩;simp only[Instr.field,WG,WI hu,WE,hf,asAgg,WH,h3]
  cases e
 cases e
def zZ{E:Env}{m:V7}{w:Vw}(h:MR E j m w){t:Vt}{x x' v:Vs}(e:dG E.P t x m=some v)(hx:VR j x x') :
  ∃v',(Instr.loadAt t x').run E.P w=.ok v' w/\VR j v v':=by
 unfold dG at e
 split at e
 ·rename_i b o
  split at e
  cases e
  ·rename_i hk;have hk':known E.P t=true:=by simpa using hk
   cases hx with
   | ptr hj =>
   rename_i k
   split at e
   ·rename_i ha;cases hl:m.dK b o (aA E.P t) with
    | none=>rw[hl] at e; cases e
    | some vs =>
     rw[hl] at e; cases e;obtain⟨vs',h1,h2⟩:=h.dK hj hl;refine⟨.agg vs'.toArray,?_,.AZ (by simpa using h2)⟩
     simp only[Instr.loadAt,Instr.sureAddr,WG,WH,WE,loadVar,oI hk',ha,if_true,cx hk',h1 w rfl]
   rename_i ha;have ha':dZ E.P t=false:=by simpa using ha
   split at e
   rename_i cs tag hg;obtain⟨v',h1,h2⟩:=h.cell hj hg e;refine⟨v',?_,h2⟩;simp only[Instr.loadAt,Instr.sureAddr,WG,WH,WE,loadVar,oI hk',ha',Tf,if_false,run_load,h1]
   cases e
 cases e
end
section
variable{E:Env}{j:aJ}{m:V7}{w:Vw}
def OR.own{c:Nat}{cs:WB Vs}{c':WD Vs}{elem:Vt}(h:LR j cs c'.toList):OR j ⟨c,none⟩ (.cells cs .own) (.cells c' elem) :=
 ⟨⟨rfl,by simpa using h.1.symm,rfl⟩,fun i v hi=>by
  obtain⟨v',a,b⟩:=h.get hi;exact⟨v',by simpa using a,b⟩⟩
def lM{zero:WD Vs}:∀(n:Nat),((Array.range (n*zero.size)).map fun i=>zero[i%zero.size]!).toList=cb zero.toList n:=by
 intro n
 by_cases hz:zero.size=0
 ·have:zero=#[]:=UX hz;subst this;have:∀n,cb ([]:WB Vs) n=[]:=by
   intro n
   induction n with
   | zero=>rfl
   | succ n ih=>simpa [cb] using ih
  simp[this]
 ·have hpos:0<zero.size:=Tg hz;have hlen:∀n,(cb zero.toList n).length=n*zero.size:=by
   intro n
   induction n with
   | zero=>simp[cb]
   | succ n ih=>simp[cb,ih,UL,Nat.add_comm]
  have hget:∀n i,i<n*zero.size->(cb zero.toList n)[i]? = zero[i%zero.size]?:=by
   intro n
   induction n with
   | zero=>intro i hi; simp at hi
   | succ n ih =>
    intro i hi;simp only[cb]
    by_cases hlt:i<zero.size
    rw[TH (by simpa using hlt),TA hlt]; simp
    have hge:zero.size<=i:=by omega
    rw[Tu (by simpa using hge)]
    have:=ih (i-zero.size) (by rw[UL] at hi; omega)
    simp only[U2];rw[this,<-Nat.mod_eq_sub_mod hge]
  apply Uy;intro i
  by_cases hi:i<n*zero.size
  rw[hget n i hi];have hlt:i%zero.size<zero.size:=TN _ hpos;simp[hi,hlt]
  rw[TL (by simp; omega),TL (by rw[hlen]; omega)]
def jk{P:Vv}{elem:Vt}{n:Nat}{zs:WB Vs}(h:fH P elem n=some zs):∃z,bK P elem=some z/\z.cells.size=aA P elem/\zs=cb z.cells.toList n:=by
 unfold fH at h
 split at h
 rename_i z hz
 split at h
 rename_i hs; cases h; exact⟨z,hz,hs,rfl⟩
 cases h
 cases h
def fF(l:WB Vs)(n:Nat):(cb l n).length=n*l.length:=by
 induction n with
 | zero=>simp[cb]
 | succ n ih=>simp[cb,ih,UL,Nat.add_comm]
def ET(h:MR E j m w){t:Vt}{x x' v v':Vs}{m':V7}(e:fj E.P t x v m=some m')(hx:VR j x x')(hv:VR j v v') :
  ∃w',(Instr.storeAt t x' v').run E.P w=.ok () w'/\Sim E j m w j m' w':=by
 unfold fj at e
 split at e
 ·rename_i b o
  split at e
  ·rename_i hc;simp only[SW,beq_iff_eq] at hc;obtain⟨⟨hk,hs⟩,ho⟩:=hc;cases hx with
   | ptr hj =>
   have hvc:=gx hv;obtain⟨w',h1,h2⟩:=iD h hj hvc ho e;refine⟨w',?_,h2⟩;have hs':v'.cells.size=aA E.P t:=by have:=hvc.1; simp at this; omega
   have hne:¬v'.cells.size≠aA E.P t:=by simp[hs']
   simp only[Instr.storeAt,Instr.sureAddr,WG,WH,WE,storeVar,cx hk,S8 hne,h1]
  cases e
 cases e
def eL{v v':Vs}(hp:aL v=true)(h:VR j v v'):v'=v:=by
 cases h<;>first|rfl |(simp[aL] at hp)
def pF:∀{l l':WB Vs},l.all aL=true->LR j l l'->l'=l
 | [],_,_,h=>h.dg
 | v::l,l',hp,h=>by
  obtain⟨y,ys,rfl,h1,h2⟩:=h.cons_inv;simp only[Uo,SW] at hp;rw[eL hp.1 h1,pF hp.2 h2]
def ic{v v':Vs}(hp:bw v=true)(h:VR j v v'):v'=v:=by
 cases h with
 | agg h1 h2 =>
  have:=pF (by simpa [bw] using hp) (LR.eV h1 h2)
  exact Up Value.agg (TY.1 this)
 | tuple h1 h2 =>
  have:=pF (by simpa [bw] using hp) (LR.eV h1 h2)
  exact Up Value.tuple (TY.1 this)
 | func h1 h2 h3 h4=>simp[bw,aL] at hp
 | yield h h1 h2=>simp[bw,aL] at hp
 | _=>first|rfl |(simp[bw,aL] at hp)
def gz{P:Vv}{kt:Vt}{k:Vs}(h:iY P kt k=true):bw k=true:=by
 unfold iY at h
 split at h
 rfl
 rfl
 rfl
 simp only[SW] at h; exact h.2
 simp only[SW] at h; exact h.2
 cases h
def checkKind{P:Vv}{t:Vt}(ht:gv P t=true)(n:Nat)(v:Vs)(b:Bool)(w:Vw):(Instr.checkKey b (n+1) t v).run P w=.ok () w:=by
 unfold gv at ht;simp only[Instr.checkKey,WG];cases hu:P.underlying t with
 | none=>rw[hu] at ht; cases ht
 | some d =>
  rw[hu] at ht;simp only[WI hu,WE];cases d<;>first |(simp at ht; done)|rfl
def lC{P:Vv}{α:Type}(f:α->Sem WC)(w:Vw):∀(l:WB α),(∀x∈l,(f x).run P w=.ok () w) ->
  (forIn l PUnit.unit (fun x _=>do f x; pure (ForInStep.yield PUnit.unit)):Sem PUnit).run P w=.ok PUnit.unit w
 | [],_=>rfl
 | x::l,h=>by
  simp only[List.forIn_cons,WG,h x (by simp),WE,WH]
  exact lC f w l fun y hy=>h y (by simp[hy])
def Bs{P:Vv}{t:Vt}(h:gv P t=true):dZ P t=false:=by
 unfold gv at h;unfold dZ;cases hu:P.underlying t with
 | none=>rfl
 | some d=>rw[hu] at h; cases d<;>first|rfl |(simp at h)
def vr{P:Vv}{t:Vt}(h:gv P t=true)(hk:known P t=true){cs:WD Vs}{o:Nat}(ho:o<cs.size)(w:Vw):(part t cs o).run P w=.ok cs[o] w:=by
 simp[part,oI hk,Bs h,ho]
def dL{P:Vv}{kt:Vt}{k:Vs}(h:iY P kt k=true)(b:Bool)(w:Vw):(Instr.checkKey b 10000 kt k).run P w=.ok () w:=by
 unfold iY at h
 split at h
 rename_i hu; exact checkKind (by simp[gv,hu]) 9999 _ b w
 rename_i hu; exact checkKind (by simp[gv,hu]) 9999 _ b w
 rename_i hu; exact checkKind (by simp[gv,hu]) 9999 _ b w
 rename_i len elem cs hu;simp only[SW,beq_iff_eq] at h;obtain⟨⟨⟨⟨hek,hkn⟩,hsz⟩,hlen⟩,_⟩:=h;have key:∀n,(Instr.checkKey b (n+1+1) kt (.agg cs)).run P w=.ok () w:=by
  intro n;unfold Instr.checkKey;simp only[WG,WI hu,WE];rw[Std.Legacy.Range.forIn_eq_forIn_range'];simp only[Std.Legacy.Range.size,U4,Nat.add_sub_cancel,Nat.div_one];have:=lC (P:=P) (fun i=>do Instr.checkKey b (n+1) elem (<-part elem cs (i*(<-sizeOf elem)))) w (List.range' 0 len) (fun x hx=>by
   have hlt:x<cs.size:=by rw[List.mem_range'] at hx; obtain⟨i,h1,h2⟩:=hx; omega
   simp only[WG,cx hkn,hsz,U9,vr hek hkn hlt,WE];exact checkKind hek n _ b w)
  simp only[bind_assoc] at this;rw[this]; rfl
 exact key 9998
 ·rename_i fs cs hu;simp only[SW] at h;have key:∀n,(Instr.checkKey b (n+1+1) kt (.agg cs)).run P w=.ok () w:=by
   intro n;unfold Instr.checkKey;simp only[WG,WI hu,WE];rw[<-Array.forIn_toList];have hall:=h.1;generalize fs.toList=l at hall;clear hu
   induction l with
   | nil=>rfl
   | cons f l ih =>
    simp only[Uo,SW,Tv] at hall;obtain⟨⟨⟨h1,h2⟩,h3⟩,h4⟩:=hall;have ih':=ih (by simpa [SW] using h4)
    simp only[List.forIn_cons,WG,Sem.run_ite]
    split
    simp only[vr h1 h2 h3,WE,checkKind h1 n _ b w,WH];exact ih'
    simp only[WH,WE];exact ih'
  exact key 9998
 cases h
inductive FR(j:aJ):WA (Nat×Vs)->WA (Nat×Vs)->Prop
 | none:FR j none none
 | some {i:Nat} {v v':Vs} (h:VR j v v'):FR j (some (i,v)) (some (i,v'))
def mP{P:Vv}{kt:Vt}{k k':Vs}(hk:VR j k k'):∀{es:WB (Vs×Vs)} {es':WB MapEntry} {i:Nat} {r:WA (Nat×Vs)},iZ P kt k es i=some r->ER j es es' ->
  ∃r',(∀w,(Instr.findAsking kt k' es' i).run P w=.ok r' w)/\FR j r r'
 | [],[],i,r,h,_=>by cases h; exact⟨_,fun w=>rfl,.none⟩
 | e::es,f::fs,i,r,h,he=>by
  simp only[iZ] at h
  split at h
  rename_i hq;cases h;refine⟨some (i,f.val),fun w=>?_,.some he.2.1⟩;simp only[Instr.findAsking,WG,Op.equal,kz _ hq hk he.1,WE,if_true,WH]
  rename_i hq;obtain⟨r',h1,h2⟩:=mP hk h he.2.2;refine⟨r',fun w=>?_,h2⟩;simp only[Instr.findAsking,WG,Op.equal,kz _ hq hk he.1,WE,Tf,if_false,h1]
  cases h
 | [],_::_,_,_,_,he=>he.elim
 | _::_,[],_,_,_,he=>he.elim
def sA{P:Vv}{kt:Vt}{d:TypeDesc}{k k' x x':Vs}{b b':Bool}(hu:P.underlying kt=some d)(hk:VR j k k')(hx:VR j x x')(h:Instr.sameNow d k' x'=some b')(he:kX P Op.maxDepth kt k x=some b):b=b':=by
 have:=kz (P:=P) Op.maxDepth he hk hx default;rw[show Op.maxDepth=9999+1 from rfl] at this
 unfold Instr.sameNow at h
 split at h
 rename_i k0 k1 a k2 c
 split at h
 rename_i hkk;subst hkk;cases h;rw[run_equalIn_int _ 9999 kt _ _ a c hu] at this;injection this with h1 _; exact h1.symm
 cases h
 cases h;rw[run_equalIn_string _ 9999 kt _ _ hu,<-beq_toListBytes] at this;injection this with h1 _; exact h1.symm
 cases h;rw[run_equalIn_bool' _ 9999 kt _ _ hu] at this;injection this with h1 _; exact h1.symm
 cases h
def rY{P:Vv}{kt:Vt}{d:TypeDesc}{k k':Vs}(hu:P.underlying kt=some d)(hk:VR j k k'):∀{es:WB (Vs×Vs)} {es':WB MapEntry} {i:Nat} {r r':WA (Nat×Vs)},iZ P kt k es i=some r->ER j es es' ->
  Instr.findNow d k' es' i=some r'->FR j r r'
 | [],[],i,r,r',h,_,h'=>by cases h; cases h'; exact .none
 | e::es,f::fs,i,r,r',h,he,h'=>by
  simp only[iZ] at h;simp only[Instr.findNow] at h'
  split at h'
  rename_i hs;cases h'
  split at h
  cases h; exact .some he.2.1
  rename_i hq; cases sA hu hk he.1 hs hq
  cases h
  rename_i hs
  split at h
  rename_i hq; cases sA hu hk he.1 hs hq
  exact rY hu hk h he.2.2 h'
  cases h
  cases h'
 | [],_::_,_,_,_,_,he,_=>he.elim
 | _::_,[],_,_,_,_,he,_=>he.elim
def fX{P:Vv}{kt:Vt}{d:TypeDesc}{k k':Vs}(hu:P.underlying kt=some d)(hk:VR j k k'){es:WB (Vs×Vs)}{es':WB MapEntry}{r:WA (Nat×Vs)}(h:iZ P kt k es 0=some r)(he:ER j es es') :
  ∃r',(∀w,(Instr.findKey kt k' es').run P w=.ok r' w)/\FR j r r':=by
 cases hn:Instr.findNow d k' es' 0 with
 | some r' =>
  refine⟨r',fun w=>?_,rY hu hk h he hn⟩;simp only[Instr.findKey,WG,WI hu,WE,hn,WH]
 | none =>
  obtain⟨r',h1,h2⟩:=mP hk h he;refine⟨r',fun w=>?_,h2⟩;simp only[Instr.findKey,WG,WI hu,WE,hn,h1]
def lQ{P:Vv}{kt:Vt}{k:Vs}(h:iY P kt k=true):∃d,P.underlying kt=some d:=by
 unfold iY at h;cases hu:P.underlying kt with
 | some d=>exact⟨d,rfl⟩
 | none=>rw[hu] at h; simp at h
def MR.CB(h:MR E j m w){b:Nat}{k:Blk}(hk:j b=some k){es:WB (Vs×Vs)}(hg:m.get b=some (.map es)):∃es' clock,w.heap[k.c]? = some (.map es' clock)/\ER j es es'.toList:=by
 obtain⟨o',h1,h2⟩:=h.obj b _ k hg hk;cases o' with
 | map es' clock=>exact⟨es',clock,h1,h2.1⟩
 | _=>exact h2.elim
def MR.B3(h:MR E j m w){b:Nat}{k:Blk}(hk:j b=some k){es:WB (Vs×Vs)}(hg:m.get b=some (.map es)){es':WD MapEntry}{clock:Nat}(hw:w.heap[k.c]? = some (.map es' clock)):JD es' clock:=by
 obtain⟨o',h1,h2⟩:=h.obj b _ k hg hk;rw[hw] at h1;cases h1;exact h2.2
def run_getObj_map{P:Vv}{w:Vw}{r:Nat}{es:WD MapEntry}{c:Nat}(h:w.heap[r]? = some (.map es c)):(getObj r).run P w=.ok (.map es c) w:=by simp[getObj,Sem.run,h]
def run_setObj_map{P:Vv}{w:Vw}{r:Nat}{es:WD MapEntry}{c:Nat}(o:Obj)(h:w.heap[r]? = some (.map es c)):(setObj r o).run P w=.ok () (w.putObj r o):=by simp[setObj,Sem.run,h,World.putObj]
def Ce (h:MR E j m w) {t:Vt} {x x' y y' v:Vs} {ok:Bool} (e:dQ E.P t x y ok m=some v) (hx:VR j x x') (hy:VR j y y') :
  ∃v',(Instr.lookup t x' y' ok).run E.P w=.ok v' w/\VR j v v':=by
 unfold dQ at e
 split at e
 ·rename_i key elem hu
  split at e
  ·rename_i es z hes hz
   split at e
   ·rename_i hko;obtain⟨d,hd⟩:=lQ hko;have hy':y'=y:=ic (gz hko) hy;subst hy';have hmap:∃es':WD MapEntry,ER j es es'.toList/\((x'=.map none/\es'=#[])\/∃r c,x'=.map (some r)/\w.heap[r]? = some (.map es' c)):=by
     unfold mapOf at hes
     split at hes
     cases hes; cases hx;exact⟨#[],trivial,.inl ⟨rfl,rfl⟩⟩
     ·rename_i r
      split at hes
      ·rename_i es0 hg;cases hes;cases hx with
       | map hj =>
       obtain⟨es',clock,h1,h2⟩:=h.CB hj hg;exact⟨es',h2,.inr ⟨_,_,rfl,h1⟩⟩
      cases hes
     cases hes
    obtain⟨es',hes',hsh⟩:=hmap
    split at e
    ·rename_i i v0 hf;cases e;obtain⟨r',h1,h2⟩:=fX hd hy hf hes';cases h2 with
     | some hv =>
     rename_i v0';refine⟨if ok then .tuple #[v0',.bool true] else v0',?_,?_⟩
     rcases hsh with⟨rfl,rfl⟩|⟨r,c,rfl,h5⟩
     simp only[Instr.lookup,WG,WI hu,WE,WH,dL hko,h1]
     simp only[Instr.lookup,WG,WI hu,WE,run_getObj_map h5,WH,dL hko,h1]
     ·cases ok with
      | true=>exact .tuple' (by exact LR.cons hv (LR.cons (.bool true) (.nil j)))
      | false=>exact hv
    ·rename_i hf
     split at e
     ·rename_i hpz;cases e;obtain⟨r',h1,h2⟩:=fX hd hy hf hes';cases h2;refine⟨if ok then .tuple #[z,.bool false] else z,?_,?_⟩
      rcases hsh with⟨rfl,rfl⟩|⟨r,c,rfl,h5⟩
      simp only[Instr.lookup,WG,WI hu,WE,WH,dL hko,h1,ir hz]
      simp only[Instr.lookup,WG,WI hu,WE,run_getObj_map h5,WH,dL hko,h1,ir hz]
      ·cases ok with
       | true=>exact .tuple' (by exact LR.cons (VR.bw hpz) (LR.cons (.bool false) (.nil j)))
       | false=>exact VR.bw hpz
     cases e
    cases e
   cases e
  cases e
 cases e
def ER.get:∀{es:WB (Vs×Vs)} {fs:WB MapEntry} {i:Nat} {e:Vs×Vs},ER j es fs->es[i]? = some e->∃f,fs[i]? = some f/\VR j e.1 f.key/\VR j e.2 f.val
 | [],[],_,_,_,h=>by simp at h
 | x::es,f::fs,0,e,h,hi=>by simp at hi; subst hi; exact⟨f,rfl,h.1,h.2.1⟩
 | x::es,f::fs,i+1,e,h,hi=>by simpa using ER.get h.2.2 (by simpa using hi)
 | [],_::_,_,_,h,_=>h.elim
 | _::_,[],_,_,h,_=>h.elim
def ER.tG:∀{es:WB (Vs×Vs)} {fs:WB MapEntry} {e:Vs×Vs} {f:MapEntry},ER j es fs->VR j e.1 f.key->VR j e.2 f.val->ER j (es++[e]) (fs++[f])
 | [],[],_,_,_,h1,h2=>⟨h1,h2,trivial⟩
 | _::_,_::_,_,_,h,h1,h2=>⟨h.1,h.2.1,ER.tG h.2.2 h1 h2⟩
 | [],_::_,_,_,h,_,_=>h.elim
 | _::_,[],_,_,h,_,_=>h.elim
def ER.put:∀{es:WB (Vs×Vs)} {fs:WB MapEntry} {i:Nat} {k k' v v':Vs},ER j es fs->i<es.length->VR j k k'->VR j v v'->ER j (nr es i k v) (fs.modify i fun e=>{ e with key:=k',val:=v'})
 | x::es,f::fs,0,_,_,_,_,h,_,h1,h2=>⟨h1,h2,h.2.2⟩
 | x::es,f::fs,i+1,_,_,_,_,h,hi,h1,h2=>⟨h.1,h.2.1,ER.put h.2.2 (by simpa using hi) h1 h2⟩
 | [],_,_,_,_,_,_,_,hi,_,_=>by simp at hi
 | _::_,[],_,_,_,_,_,h,_,_,_=>h.elim
def ER.erase:∀{es:WB (Vs×Vs)} {fs:WB MapEntry} (i:Nat),ER j es fs->ER j (es.eraseIdx i) (fs.eraseIdx i)
 | [],[],_,_=>trivial
 | _::_,_::_,0,h=>h.2.2
 | _::_,_::_,i+1,h=>⟨h.1,h.2.1,ER.erase i h.2.2⟩
 | [],_::_,_,h=>h.elim
 | _::_,[],_,h=>h.elim
def mY (h:MR E j m w) {t:Vt} {x x' k k' v v':Vs} {m':V7} (e:eF E.P t x k v m=some m') (hx:VR j x x') (hk:VR j k k') (hv:VR j v v') :
  ∃w',(Instr.mapUpdate t x' k' v').run E.P w=.ok () w'/\Sim E j m w j m' w':=by
 unfold eF at e
 split at e
 ·rename_i kt et r hu
  split at e
  ·rename_i es hg
   split at e
   ·rename_i hko;obtain⟨d,hd⟩:=lQ hko;have hk':k'=k:=ic (gz hko) hk;cases hx with
    | map hj =>
    rename_i kb;obtain⟨es',clock,h1,h2⟩:=h.CB hj hg
    split at e
    ·rename_i i v0 hf
     split at e
     ·rename_i hsame;cases e;unfold o9 at hsame
      split at hsame
      ·rename_i e0 he0;simp only[SW] at hsame;obtain⟨r',h3,h4⟩:=fX hd hk hf h2;cases h4 with
       | some _ =>
       obtain⟨f0,g1,g2,g3⟩:=h2.get he0;have hf0:f0.key=e0.1:=ic hsame.1 g2;have hi:i<es.length:=(Tc.1 he0).1;refine⟨_,?_,kg h hj (by rw[hg]; rfl) (co:=.map (es'.modify i fun e=>{ e with key:=k,val:=v'}) clock) ?_⟩
       have g1':es'[i]? = some f0:=by simpa using g1
       simp only[Instr.mapUpdate,WG,WI hu,WE,run_getObj_map h1,hk',dL hko];rw[hk'] at h3;simp only[h3,WE,WG,g1',SZ,Option.getD_some,hf0,Instr.keyThatStays,hsame.2,if_true,WH,run_setObj_map _ h1]
       refine⟨?_,B4 (h.B3 hj hg h1) i _ fun _=>rfl⟩
       show ER j (nr es i k v) (es'.modify i fun e=>{ e with key:=k,val:=v'}).toList
       rw[Array.toList_modify];exact h2.put hi (VR.bw (gz hko)) hv
      cases hsame
     cases e
    rename_i hf;cases e;obtain⟨r',h3,h4⟩:=fX hd hk hf h2;cases h4;refine⟨_,?_,kg h hj (by rw[hg]; rfl) (co:=.map (es'.push { key:=k,val:=v',born:=clock}) (clock+1)) ?_⟩
    simp only[Instr.mapUpdate,WG,WI hu,WE,run_getObj_map h1,hk',dL hko];rw[hk'] at h3;simp only[h3,WE,run_setObj_map _ h1]
    refine⟨?_,Gv (h.B3 hj hg h1) k v'⟩
    show ER j (es++[(k,v)]) (es'.push { key:=k,val:=v',born:=clock}).toList
    rw[Array.toList_push];exact h2.tG (VR.bw (gz hko)) hv
    cases e
   cases e
  cases e
 cases e
def BQ(h:MR E j m w){t:Vt}{x x' k k':Vs}{m':V7}(e:qT E.P t x k m=some m')(hx:VR j x x')(hk:VR j k k')(ts:WD Vt)(hts:ts[0]? = some t)(ty:Vt) :
  ∃w',(Builtin.delete_ ts ty #[x',k']).run E.P w=.ok (.tuple #[]) w'/\Sim E j m w j m' w':=by
 unfold qT at e
 split at e
 ·rename_i kt et r hu
  split at e
  ·rename_i es hg
   split at e
   ·rename_i hko;obtain⟨d,hd⟩:=lQ hko;have hk':k'=k:=ic (gz hko) hk;cases hx with
    | map hj =>
    rename_i kb;obtain⟨es',clock,h1,h2⟩:=h.CB hj hg
    split at e
    ·rename_i i v0 hf;cases e;obtain⟨r',h3,h4⟩:=fX hd hk hf h2;cases h4 with
     | some _ =>
     refine⟨_,?_,kg h hj (by rw[hg]; rfl) (co:=.map (es'.eraseIdxIfInBounds i) clock) ?_⟩
     simp only[Builtin.delete_,hts,Tx,Tq,TS,WG,WI hu,WE,run_getObj_map h1,hk',dL hko];rw[hk'] at h3;simp only[h3,WE,WG,run_setObj_map _ h1,WH]
     refine⟨?_,Fe (h.B3 hj hg h1) i⟩
     show ER j (es.eraseIdx i) (es'.eraseIdxIfInBounds i).toList
     rw[Array.toList_eraseIdxIfInBounds];exact h2.erase i
    rename_i hf;cases e;obtain⟨r',h3,h4⟩:=fX hd hk hf h2;cases h4;refine⟨w,?_,.refl h⟩;simp only[Builtin.delete_,hts,Tx,Tq,TS,WG,WI hu,WE,run_getObj_map h1,hk',dL hko];rw[hk'] at h3;simp only[h3,WE,WG,run_setObj_map _ h1,WH,qm h1]
    cases e
   cases e
  cases e
 cases e
end
def uB(n:Nat):∀(r c:Nat),Builtin.growBy n r c<=max c (n+(n+768)/4)
 | 0,c=>by simp only[Builtin.growBy]; omega
 | r+1,c=>by
  simp only[Builtin.growBy]
  split
  omega
  have:=uB n r (c+(c+768)/4);omega
def nextslicecap_le{need cap:Nat}(h:cap<need):Builtin.nextslicecap need cap<=2*need+2000:=by
 unfold Builtin.nextslicecap
 split
 omega
 split
 omega
 have:=uB need 4 cap;omega
section
variable{E:Env}{j:aJ}{m:V7}{w:Vw}
def appendCore(elem:Vt)(size:Nat)(base:Vq)(sLen sCap n:Nat)(zeros:Bool)(s x:Vs)(appended:Sem (WD Vs)):Sem Vs:=do
 let need:=sLen+n
 if need<=sCap then
  let new <-appended
  if let some a:=base then storeCells (a.add (sLen*size)) new.toList
  pure (.slice base need sCap)
 else
  if (need : Int) > IntKind.i64.max /\ (zeros \/ (<- typeInfo elem).bytes = 0) then runtimePanic (.error "growslice: len out of range")
  if Builtin.nextslicecap need sCap * (<- typeInfo elem).bytes > 2 ^ 48 then (if zeros then runtimePanic (.error "growslice: len out of range") else do
   if !(<-Builtin.mayShare size sLen n base x) then mark .noRoom
   unsupported (.resourceLimit "append: a slice or a string whose bytes no memory bears"))
  let newCap <-choose (.appendCap need sCap elem)
  askRoom (newCap*(<-typeInfo elem).bytes)
  let old <-Builtin.firstCells size sLen s
  let new <-appended
  let rest:=Builtin.zeroCells (<-zeroValue elem).cells (newCap-need)
  pure (.slice (some (<-newRow elem (old++new++rest))) need newCap)
def jG{P:Vv}{elem:Vt}{size sLen sCap n:Nat}{zeros:Bool}{s x:Vs}{a:Addr}{app:Sem (WD Vs)}{new:WB Vs}{w w':Vw}
  (happ:app.run P w=.ok new.toArray w) (hfit:sLen+n<=sCap) (hst:(storeCells (a.add (sLen*size)) new).run P w=.ok () w') :
  (appendCore elem size (some a) sLen sCap n zeros s x app).run P w=.ok (.slice (some a) (sLen+n) sCap) w':=by
 simp only[appendCore,S7 hfit,WG,happ,WE,hst,WH]
def mL{l:WB Vs}(h:l.all aL=true):∀n,(cb l n).all aL=true
 | 0=>rfl
 | n+1=>by simp only[cb,List.all_append,h,mL h n,Ud]
def kr{P:Vv}{elem:Vt}{size sLen sCap n:Nat}{zeros:Bool}{s x:Vs}{base:Vq}{app:Sem (WD Vs)}{new old:WB Vs}{w:Vw}{i:TypeInfo}{z:Vs}
  (happ:∀w0:Vw,w0.heap=w.heap->app.run P w0=.ok new.toArray w0) (hold:∀w0:Vw,w0.heap=w.heap->(Builtin.firstCells size sLen s).run P w0=.ok old.toArray w0) (hgrow:¬sLen+n<=sCap)
  (hi:P.info? elem=some i) (hz:i.zero=some z) (hfit:gp i.bytes (sLen+n)=true) (hb:i.bytes≠0) (hzs:z.cells.size=size) (hzp:z.cells.toList.all aL=true) (ho:old.length=sLen*size) (hn:new.length=n*size) :
  ∃(cap:Nat) (rest:WB Vs) (w0:Vw),(w0.heap=w.heap/\Calm w w0)/\(sLen+n<=cap/\cap<=9223372036854775807)/\(old++new++rest).length=cap*size/\rest.all aL=true /\
   (appendCore elem size base sLen sCap n zeros s x app).run P w=.ok (.slice (some ⟨w.heap.size,0,none⟩) (sLen+n) cap) (w0.alloc (.cells (old++new++rest).toArray elem)):=by
 have hfit':(2*(sLen+n)+2000)*i.bytes<=2 ^ 48:=by simpa [gp] using hfit
 have h1:¬(((sLen+n:Nat):Int)>IntKind.i64.max/\(zeros=true\/i.bytes=0)):=by
  intro hc;have hbig:sLen+n<=2 ^ 48:=by
   have:1<=i.bytes:=Nat.one_le_iff_ne_zero.2 hb;have:(sLen+n)*1<=(2*(sLen+n)+2000)*i.bytes:=T0 (by omega) this
   omega
  have hmax:IntKind.i64.max=9223372036854775807:=by decide
  rw[hmax] at hc;omega
 have h2:¬Builtin.nextslicecap (sLen+n) sCap*i.bytes>2 ^ 48:=by
  have:=T2 i.bytes (nextslicecap_le (need:=sLen+n) (cap:=sCap) (by omega))
  omega
 have hzv:∀w0:Vw,(zeroValue elem).run P w0=.ok z w0:=fun w0=>ir (by simp[bK,hi,hz]) w0
 obtain⟨cap,hcap⟩:∃cap,cap=(Question.appendCap (sLen+n) sCap elem).cut (w.tape w.drawn (.appendCap (sLen+n) sCap elem)):=⟨_,rfl⟩;have hle:sLen+n<=cap:=by rw[hcap]; simp[Question.cut]
 have hmx:cap<=9223372036854775807:=by
  have hbig:sLen+n<=2 ^ 48:=by
   have:1<=i.bytes:=Nat.one_le_iff_ne_zero.2 hb;have:(sLen+n)*1<=(2*(sLen+n)+2000)*i.bytes:=T0 (by omega) this
   omega
  rw[hcap]
  show sLen+n+_%(2 ^ 63-(sLen+n))<=_
  have:=TN (w.tape w.drawn (.appendCap (sLen+n) sCap elem)) (show 0<2 ^ 63-(sLen+n) by omega)
  omega
 refine⟨cap,cb z.cells.toList (cap-(sLen+n)),w.drew,⟨rfl,rfl,rfl,rfl,Nat.le_succ _⟩,⟨hle,hmx⟩,?_,mL hzp _,?_⟩
 simp only[S5,fF,ho,hn,U2,hzs];rw[<-TI,<-TI]
 congr 1; omega
 have hzc:Builtin.zeroCells z.cells (cap-(sLen+n))=(cb z.cells.toList (cap-(sLen+n))).toArray:=by
  rw[<-lM (zero:=z.cells)]; rfl
 simp only[appendCore,S8 hgrow,WG,rW hi,WE,Sem.run_ite,S8 h1,S8 h2,WH,run_choose,Question.forced,Tf,if_false,World.drew_eq,run_askRoom,
  hold w.drew rfl,happ w.drew rfl,hzv,<-hcap,hzc,newRow,run_newObj,World.alloc_eq]
 simp
def xl(h:MR E j m w){sz n:Nat}{x x':Vs}{new:WB Vs}(e:cd sz x n m=some new)(hx:VR j x x') :
  ∃new',(∀w0:Vw,w0.heap=w.heap->(Builtin.firstCells sz n x').run E.P w0=.ok new'.toArray w0)/\LR j new new':=by
 unfold cd at e
 split at e
 split at e
 rename_i hn; subst hn; cases e; cases hx;exact⟨[],fun w0 _=>rfl,.nil j⟩
 cases e
 ·rename_i b o l c
  split at e
  rename_i hn; subst hn; cases e;refine⟨[],fun w0 _=>?_,.nil j⟩;cases hx<;>simp[Builtin.firstCells,loadCells,loadCellsFrom]
  ·have hgo:∀k:Blk,j b=some k->∃new',(∀w0:Vw,w0.heap=w.heap->(loadCells ⟨k.c,o,none⟩ (n*sz)).run E.P w0=.ok new'.toArray w0)/\LR j new new':=by
    intro k hj;exact h.dK hj e
   cases hx with
   | slice hj hm=>exact hgo _ hj
   | sliceM hj hm e1 e2 hl hc=>exact hgo _ hj
 split at e
 rename_i hn; subst hn; cases e;refine⟨[],fun w0 _=>?_,.nil j⟩;cases hx<;>simp[Builtin.firstCells,loadCells,loadCellsFrom]
 cases e
 cases e
def yb(h:MR E j m w){elem:Vt}{xt:WA Vt}{x x':Vs}{n:Nat}{new:WB Vs}(e:iK E.P elem xt x m=some (n,new))(hx:VR j x x')(hk:known E.P elem=true)
  {i:TypeInfo} (hi:E.P.info? elem=some i) (hbytes:n*i.bytes<=2 ^ 48) {sType:Vt} (hu:E.P.underlying sType=some (.slice elem)) {ts:WD Vt} (h0:ts[0]? = some sType) (h1:ts[1]? = xt) (ty:Vt) :
  ∃(new':WB Vs) (zeros:Bool) (app:Sem (WD Vs)),LR j new new'/\(∀w0:Vw,w0.heap=w.heap->app.run E.P w0=.ok new'.toArray w0) /\
   ∀base sLen sCap,(Builtin.append_ ts ty #[.slice base sLen sCap,x']).run E.P w=(appendCore elem (aA E.P elem) base sLen sCap n zeros (.slice base sLen sCap) x' app).run E.P w:=by
 unfold iK at e
 split at e
 ·rename_i et a l c hxt;cases hs:cd (aA E.P elem) (.slice a l c) l m with
  | none=>rw[hs] at e; cases e
  | some cs =>
   rw[hs] at e; cases e;obtain⟨new',h2,h3⟩:=xl h hs hx;refine⟨new',false,Builtin.firstCells (aA E.P elem) n x',h3,h2,fun base sLen sCap=>?_⟩;have hlen:∀w0:Vw,(Builtin.lenOf x').run E.P w0=.ok n w0:=by
    intro w0;cases hx<;>rfl
   obtain⟨xt',hxt',hu'⟩:∃xt',xt=some xt'/\E.P.underlying xt'=some (.slice et):=by
    cases xt with
    | none=>cases hxt
    | some xt'=>exact⟨xt',rfl,hxt⟩
   rw[hxt'] at h1;simp only[appendCore,Builtin.append_,h0,h1,Tx,Tq,TS,WG,WI hu,WI hu',WE,cx hk,WH,Tf,if_false,hlen,To,if_true]
   congr
 ·rename_i k l hxt
  split at e
  ·rename_i hl;cases hz:fH E.P elem l.toNat with
   | none=>rw[hz] at e; cases e
   | some zs =>
    rw[hz] at e;simp only[TF] at e
    split at e
    ·rename_i hp;cases e;cases hx;obtain⟨z,hz1,hz2,hz3⟩:=jk hz;obtain⟨xt',k',hxt',hu'⟩:∃xt' k',xt=some xt'/\E.P.underlying xt'=some (.int k'):=by
      cases xt with
      | none=>cases hxt
      | some xt'=>exact⟨xt',_,rfl,hxt⟩
     have hwrap:IntKind.i64.wrap l=l:=IntWalk.i64_in l (by have:=hl.1; have:=hl.2; omega)
     have hlb:¬(l*i.bytes>2 ^ 48):=by
      have:((l.toNat*i.bytes:Nat):Int)<=2 ^ 48:=by exact_mod_cast hbytes
      have h3:((l.toNat:Nat):Int)=l:=Ua hl.1;rw[U1,h3] at this;omega
     refine⟨new,true,if l.toNat*aA E.P elem=0 then pure #[] else do pure (Builtin.zeroCells (<-zeroValue elem).cells l.toNat),LR.plain hp,?_,fun base sLen sCap=>?_⟩
     intro w0 _;rw[Sem.run_ite]
     split
     rename_i h0;have:new=[]:=by
      apply Un;rw[hz3,fF,U2,hz2,h0]
     rw[this]; rfl
     simp only[WG,ir hz1,WE,WH];rw[hz3,<-lM (zero:=z.cells)]; rfl
     rw[hxt'] at h1;have hneg:¬l<0:=by have:=hl.1; omega
     simp only[appendCore,Builtin.append_,h0,h1,Tx,Tq,TS,WG,WI hu,WI hu',WE,cx hk,WH,if_true,asInt,asIntOf,hwrap,S8 hneg,rW hi,S8 hlb,S9,Tf,if_false]
     congr
    cases e
  cases e
 cases e
def OR.more{c na nc sz:Nat}{cs:WB Vs}{c':WD Vs}{elem:Vt}(h1:cs.length=na)(h2:c'.size=nc)(h3:na<=nc)(hsz:0<sz)(hr:nL sz c')(h:∀(i:Nat) (v:Vs),cs[i]? = some v->∃v',c'[i]? = some v'/\VR j v v') :
  OR j ⟨c,some (sz,na,nc)⟩ (.cells cs (.more sz)) (.cells c' elem) :=
 ⟨⟨by rw[h1,h2],by omega,rfl,hsz,hr⟩,h⟩
def jo(h:MR E j m w){w0:Vw}(hw3:w0.heap=w.heap/\Calm w w0){cs cs' rest:WB Vs}{elem:Vt}{sz n cap:Nat}(hc:LR j cs cs')(hl:cs.length=n*sz)(hr:(cs'++rest).length=cap*sz)(hn:n<=cap)(hsz:0<sz)(hp:rest.all aL=true)(hmx:cap<=9223372036854775807) :
  ∃j',Sim E j m w j' (m.alloc (.cells cs (.more sz))) (w0.alloc (.cells (cs'++rest).toArray elem))/\VR j' (.slice (some ⟨m.next,0,none⟩) n n) (.slice (some ⟨w.heap.size,0,none⟩) n cap):=by
 have hw:=hw3.1;have h0:=h.of_heap hw;have hle:n*sz<=cap*sz:=T2 _ hn;have ho:OR j ⟨w0.heap.size,some (sz,n*sz,cap*sz)⟩ (.cells cs (.more sz)) (.cells (cs'++rest).toArray elem):=by
  refine OR.more hl (by simpa using hr) hle hsz (by unfold nL; rw[List.size_toArray,hr,Tj]; exact T6 _ hmx) fun i v hi=>?_
  obtain⟨v',a,b⟩:=hc.get hi;refine⟨v',?_,b⟩;rw[Tx,TH (Tc.1 a).1];exact a
 have s:=mh h0 ho;refine⟨_,(Sim.of_heap h hw hw3.2).trans h s,?_⟩;have:VR (j.set m.next ⟨w0.heap.size,some (sz,n*sz,cap*sz)⟩) (.slice (some ⟨m.next,0,none⟩) n n) (.slice (some ⟨w0.heap.size,0,none⟩) n cap) :=
  .sliceM (k:=⟨w0.heap.size,some (sz,n*sz,cap*sz)⟩) (aJ.cc _ _ _) rfl rfl rfl (SX _) hn
 rw[hw] at this ⊢;exact this
def Cj (h:MR E j m w) {t:Vt} {xt:WA Vt} {s s' x x' v:Vs} {m':V7} (e:dB E.P t xt s x m=some (v,m')) (hs:VR j s s') (hx:VR j x x')
  {ts:WD Vt} (h6:ts[0]? = some t) (h1:ts[1]? = xt) (ty:Vt) :
  ∃j' w' v',(Builtin.append_ ts ty #[s',x']).run E.P w=.ok v' w'/\Sim E j m w j' m' w'/\VR j' v v':=by
 unfold dB at e
 split at e
 ·rename_i elem base len cap n new hu hnc;simp only[hu] at hnc;simp only at e
  split at e
  cases e
  ·rename_i hcond;simp only[Ul,T1,not_or,Bool.not_eq_false,beq_iff_eq,bne_iff_ne,ne_eq,Decidable.not_not,Option.any_eq_true] at hcond;obtain⟨⟨⟨⟨⟨hk,h7⟩,hone⟩,⟨i,hi,hfit⟩⟩,hlen⟩,⟨z,hz,hzs⟩⟩:=hcond;simp only[SW,bne_iff_ne,ne_eq] at hfit;obtain⟨hfit,hb⟩:=hfit;obtain⟨i',hi',hz'⟩:=xI hz;rw[hi] at hi'; cases hi';simp only[SW,beq_iff_eq] at hzs;have hzs':z.cells.size=aA E.P elem:=hzs.1;have hzp:=hzs.2;have hsz:0<aA E.P elem:=Tg h7;have hbytes:n*i.bytes<=2 ^ 48:=by
    have:(2*(len+n)+2000)*i.bytes<=2 ^ 48:=by simpa [gp] using hfit
    have:=T2 i.bytes (show n<=2*(len+n)+2000 by omega)
    omega
   obtain⟨new',zeros,app,hnew,happ,hrun⟩:=yb h hnc hx hk hi hbytes hu h6 h1 ty;have hnl:new'.length=n*aA E.P elem:=by rw[<-hnew.1]; exact hlen
   split at e
   
   split at e
   cases e
   rename_i h5;have hlc:len=0/\cap=0:=by omega
   obtain⟨rfl,rfl⟩:=hlc;cases hs
   split at e
   rename_i hn; cases e;subst hn;refine⟨j,w,.slice none 0 0,?_,.refl h,.snil 0 0⟩;rw[hrun];simp only[appendCore,TP,SX,if_true,WG,happ w rfl,WE,WH]
   rename_i hn; cases e;obtain⟨cap',rest,w0,h0,⟨hle,hmx⟩,hlr,hrp,hr⟩:=kr (P:=E.P) (zeros:=zeros) (s:=.slice none 0 0) (x:=x') (base:=none) (sLen:=0) (sCap:=0) (old:=[]) happ (fun w0 _=>rfl) (by omega) hi hz' (by simpa using hfit) hb hzs' hzp (by simp) hnl
   obtain⟨j',s1,s2⟩:=jo h h0 (elem:=elem) hnew hlen (by simpa using hlr) (by omega) hsz hrp hmx
   refine⟨j',_,_,by rw[hrun]; exact hr,by simpa using s1,by simpa using s2⟩
   ·rename_i b o
    split at e
    ·rename_i cs tag hg
     split at e
     ·
      rename_i hfits;cases hst:m.dj b (o+len*aA E.P elem) new with
      | none=>rw[hst] at e; cases e
      | some m1 =>
       rw[hst] at e; cases e;cases hs with
       | slice hj hm =>
        obtain⟨w',g1,g0⟩:=iD h hj hnew hone hst;refine⟨j,w',_,?_,g0,.slice hj hm⟩;rw[hrun];exact jG (happ w rfl) hfits (by rw[lP]; exact g1)
       | sliceM hj hm e1 e2 hl hc =>
        obtain⟨w',g1,g0⟩:=iD h hj hnew hone hst;refine⟨j,w',_,?_,g0,.sliceM hj hm e1 e2 hfits hc⟩;rw[hrun];exact jG (happ w rfl) (by omega) (by rw[lP]; exact g1)
     ·rename_i hno;have hexact:∀k:Blk,j b=some k->k.more=none->∀old,m.dK b o (len*aA E.P elem)=some old->v=.slice (some ⟨m.next,0,none⟩) (len+n) (len+n)->m'=m.alloc (.cells (old++new) (.more (aA E.P elem))) ->
        ∃j' w' v',(Builtin.append_ ts ty #[.slice (some ⟨k.c,o,none⟩) len cap,x']).run E.P w=.ok v' w'/\Sim E j m w j' m' w'/\VR j' v v':=by
       intro k hj hm old hold ev em;obtain⟨old',g1,g0⟩:=h.dK hj hold;have hol:old.length=len*aA E.P elem:=(se hold).choose_spec.choose_spec.2.2;obtain⟨cap',rest,w0,h0,⟨hle,hmx⟩,hlr,hrp,hr⟩:=kr (P:=E.P) (zeros:=zeros) (s:=.slice (some ⟨k.c,o,none⟩) len cap) (x:=x') (base:=some ⟨k.c,o,none⟩) (sLen:=len) (sCap:=cap) (old:=old') happ
        (fun w0 h0=>g1 w0 h0) hno hi hz' hfit hb hzs' hzp (by rw[<-g0.1]; exact hol) hnl
       obtain⟨j',s1,s2⟩:=jo h h0 (elem:=elem) (g0.append hnew) (n:=len+n) (by rw[S5,hol,hlen,TI]) hlr hle hsz hrp hmx
       exact⟨j',_,_,by rw[hrun]; exact hr,em▸s1,ev▸s2⟩
      split at e
      ·
       rename_i sz'
       split at e
       ·rename_i hso;obtain⟨rfl,rfl⟩:=hso
        split at e
        ·rename_i hol;cases e;cases hs with
         | slice hj hm =>
          have:=h.kindOf hj hg;simp only at this;obtain⟨nc,hmm,_⟩:=this;rw[hm] at hmm; cases hmm
         | sliceM hj hm e1 e2 hl hc =>
          rename_i cap' sz' na nc k;have hkd:=h.kindOf hj hg;simp only at hkd;obtain⟨nc',hmm,_⟩:=hkd;rw[hm] at hmm;simp only[Option.some.injEq,U7] at hmm;obtain⟨rfl,rfl,rfl⟩:=hmm
          by_cases hfits:len+n<=cap'
          
          obtain⟨c,el,fz,c1,c2,c3⟩:=h.rm hj hg;have c2':k.more=some (aA E.P elem,cs.length,c.size)/\cs.length<=c.size/\fz=(0,0)/\0<aA E.P elem/\nL (aA E.P elem) c:=c2;obtain⟨c0,c5,rfl,_,c4⟩:=c2';rw[hm] at c0;simp only[Option.some.injEq,U7,true_and] at c0;have hcs:(len+n)*aA E.P elem<=c.size:=by
           rw[<-c0,<-e2]; simp; exact T2 _ hfits
          have hmul:(len+n)*aA E.P elem=len*aA E.P elem+n*aA E.P elem:=TI _ _ _;have hst:=fL (P:=E.P) new' w c 0 (len*aA E.P elem) c1 (by rw[hnl]; omega) (nX hnew hone)
          have hold:(cs.take (len*aA E.P elem)).length=len*aA E.P elem:=hol;have hlecs:len*aA E.P elem<=cs.length:=by rw[TW] at hold; omega
          have hor:OR j ⟨k.c,some (aA E.P elem,(len+n)*aA E.P elem,c.size)⟩ (.cells (cs.take (len*aA E.P elem)++new) (.more (aA E.P elem))) (.cells (aI c.toList (0+len*aA E.P elem) new').toArray el):=by
           refine OR.more (by rw[S5,hold,hlen,hmul]) (by simp[cy]) hcs hsz (by unfold nL at *; simpa [cy] using c4) fun ix vx hix=>?_
           rw[Tx,cu,TM]
           by_cases hlt:ix<len*aA E.P elem
           rw[TH (by rw[hold]; exact hlt),UN,S7 hlt] at hix
           rw[Vz]
           obtain⟨vx',q0,q2⟩:=c3 ix vx hix;exact⟨vx',by simpa using q0,q2⟩
           rw[Tu (by rw[hold]; omega),hold] at hix
           obtain⟨vx',q0,q2⟩:=hnew.get hix;have hlt':=(Tc.1 q0).1;rw[S7 ⟨by omega,by omega,by simp; omega⟩]
           exact⟨vx',q0,q2⟩
          have s1:=Bf h hj (by rw[hg]; rfl) hor
          refine⟨_,_,.slice (some ⟨k.c,0,none⟩) (len+n) cap',?_,s1,.sliceM (k:=⟨k.c,some (aA E.P elem,(len+n)*aA E.P elem,c.size)⟩) (aJ.cc _ _ _) rfl rfl (by rw[<-c0]; exact e2) (SX _) hfits⟩
          rw[hrun];refine jG (happ w rfl) hfits ?_;rw[lP];have:=fL (P:=E.P) new' w c (0+len*aA E.P elem) 0 c1 (by rw[hnl]; omega) (nX hnew hone)
          simpa using this
          
          have hol':m.dK b 0 (len*aA E.P elem)=some (cs.take (len*aA E.P elem)):=by
           simp only[V7.dK,hg,Vd];rw[S7 hol]
          obtain⟨old',g1,g0⟩:=h.dK hj hol';obtain⟨c6,rest,w0,h0,⟨hle,hmx⟩,hlr,hrp,hr⟩:=kr (P:=E.P) (zeros:=zeros) (s:=.slice (some ⟨k.c,0,none⟩) len cap') (x:=x') (base:=some ⟨k.c,0,none⟩) (sLen:=len) (sCap:=cap') (old:=old') happ
           (fun w0 h0=>g1 w0 h0) hfits hi hz' hfit hb hzs' hzp (by rw[<-g0.1]; exact hol) hnl
          have sk:=I8 h hj;obtain⟨j',s1,s2⟩:=jo sk.mr h0 (elem:=elem) (g0.append hnew) (n:=len+n) (by rw[S5,hol,hlen,TI]) hlr hle hsz hrp hmx
          exact⟨j',_,_,by rw[hrun]; exact hr,sk.trans h s1,s2⟩
        cases e
       cases e
      ·
       rename_i htag
       split at e
       ·rename_i old hold;cases e;have hkm:∀k:Blk,j b=some k->k.more=none:=by
         intro k hj;have:=h.kindOf hj hg;cases tag with
         | more sz=>exact Tl rfl (htag sz)
         | ro=>exact this
         | own=>exact this
        cases hs with
        | slice hj hm=>exact hexact _ hj hm _ hold rfl rfl
        | sliceM hj hm e1 e2 hl hc=>rw[hkm _ hj] at hm; cases hm
       cases e
    cases e
   ·
    rename_i b o
    split at e
    cases e
    ·rename_i h5;have hlc:len=0/\cap=0:=by omega
     obtain⟨rfl,rfl⟩:=hlc;cases hs with
     | dry =>
     rename_i a'
     split at e
     rename_i hn; subst hn; cases e;have:new'=[]:=Un (by rw[hnl]; simp)
     subst this;refine⟨j,w,_,?_,.refl h,.dry (a':=a')⟩;rw[hrun];exact jG (happ w rfl) (by omega) rfl
     rename_i hn; cases e;obtain⟨cap',rest,w0,h0,⟨hle,hmx⟩,hlr,hrp,hr⟩:=kr (P:=E.P) (zeros:=zeros) (s:=.slice (some a') 0 0) (x:=x') (base:=some a') (sLen:=0) (sCap:=0) (old:=[]) happ
      (fun w0 _=>by simp[Builtin.firstCells,loadCells,loadCellsFrom]) (by omega) hi hz' (by simpa using hfit) hb hzs' hzp (by simp) hnl
     obtain⟨j',s1,s2⟩:=jo h h0 (elem:=elem) hnew hlen (by simpa using hlr) (by omega) hsz hrp hmx
     refine⟨j',_,_,by rw[hrun]; exact hr,by simpa using s1,by simpa using s2⟩
   ·split at e
    ·rename_i hnil hmem hdry h5;obtain⟨rfl,rfl,rfl⟩:=h5;cases e;have:new'=[]:=Un (by rw[hnl]; simp)
     subst this;cases hs with
     | snil=>exact Tl rfl hnil
     | slice hj hm=>exact Tl rfl (hmem _ _)
     | sliceM hj hm e1 e2 hl hc=>exact Tl rfl (hmem _ _)
     | dry=>exact Tl rfl (hdry _ _)
     | gG =>
      rename_i a' cap';refine⟨j,w,_,?_,.refl h,.gG (a':=a') (cap':=cap')⟩;rw[hrun];exact jG (happ w rfl) (by omega) rfl
    cases e
 cases e
def G0 (h:MR E j m w) {t:Vt} {d d' s s' v:Vs} {m':V7} (e:td E.P t d s m=some (v,m')) (hd:VR j d d') (hs:VR j s s') {ts:WD Vt} (h0:ts[0]? = some t) (ty:Vt) :
  ∃w' v',(Builtin.copy_ ts ty #[d',s']).run E.P w=.ok v' w'/\Sim E j m w j m' w'/\VR j v v':=by
 unfold td at e
 split at e
 ·rename_i elem base dLen dCap sa sLen sCap hu;simp only at e
  split at e
  cases e
  ·rename_i hk;have hk':known E.P elem=true:=by simpa using hk
   split at e
   cases e
   ·rename_i cells hsrc
    split at e
    cases e
    ·rename_i hone;have hone':bo cells=true:=by simpa using hone
     obtain⟨cells',hc1,hc2⟩:=xl h hsrc hs;have hlen:∀w0:Vw,(Builtin.lenOf s').run E.P w0=.ok sLen w0:=by
      intro w0;cases hs<;>rfl
     have hbase:∃base' dCap',d'=.slice base' dLen dCap'/\(∀b o,base=some ⟨b,o,none⟩->∃k:Blk,j b=some k/\base'=some ⟨k.c,o,none⟩):=by
      cases hd with
      | snil=>exact⟨_,_,rfl,fun b o e=>by cases e⟩
      | slice hj hm=>exact⟨_,_,rfl,fun b o e=>by cases e; exact⟨_,hj,rfl⟩⟩
      | sliceM hj hm e1 e2 hl hc=>exact⟨_,_,rfl,fun b o e=>by cases e; exact⟨_,hj,rfl⟩⟩
      | gG=>exact⟨_,_,rfl,fun b o e=>by cases e⟩
      | dry=>exact⟨_,_,rfl,fun b o e=>by cases e⟩
     obtain⟨base',dCap',rfl,hb⟩:=hbase;have hrun0:∀K:Vs->Vw->Result Vs,True:=fun _=>trivial
     split at e
     rename_i hn;cases e;have hcl:cells=[]:=by
      unfold cd at hsrc
      split at hsrc<;>first |(split at hsrc<;>first |(cases hsrc; rfl) |(cases hsrc; done) |(rename_i hne; exact Tl hn hne)) |(cases hsrc; done)
     subst hcl;have:cells'=[]:=hc2.dg;subst this;refine⟨w,.int .i64 0,?_,.refl h,.int _ _⟩;have hmin:Nat.min sLen dLen=0:=hn;simp only[Builtin.copy_,h0,Tx,Tq,TS,WG,WI hu,WE,hlen,hmin,cx hk'];rw[hn] at hc1;simp only[hc1 w rfl,WE];cases base'<;>rfl
     ·rename_i b o n hn;cases hst:m.dj b o cells with
      | none=>rw[hst] at e; cases e
      | some m1 =>
       rw[hst] at e; cases e;obtain⟨k,hj,rfl⟩:=hb b o rfl;obtain⟨w',g1,g2⟩:=iD h hj hc2 hone' hst;refine⟨w',.int .i64 (n+1:Nat),?_,g2,.int _ _⟩;have hmin:Nat.min sLen dLen=n+1:=hn;simp only[Builtin.copy_,h0,Tx,Tq,TS,WG,WI hu,WE,hlen,hmin,cx hk'];rw[hn] at hc1;simp only[hc1 w rfl,WE,g1,WH,goInt]
     cases e
 cases e
def EF(h:MR E j m w){t:Vt}{x x' v:Vs}{m':V7}(e:AT E.P t x m=some (v,m'))(hx:VR j x x'){ts:WD Vt}(h0:ts[0]? = some t)(ty:Vt) :
  ∃w' v',(Builtin.clear_ ts ty #[x']).run E.P w=.ok v' w'/\Sim E j m w j m' w'/\VR j v v':=by
 unfold AT at e
 split at e
 rename_i elem a c hu;cases e;refine⟨w,.tuple #[],?_,.refl h,VR.undef j⟩;cases hx<;>simp only[Builtin.clear_,h0,Tx,Tq,WG,WI hu,WE]<;>rfl
 ·rename_i elem b o n c hnz hu
  split at e
  ·rename_i zs hz
   split at e
   ·rename_i hp;cases hst:m.dj b o zs with
    | none=>rw[hst] at e; cases e
    | some m1 =>
     rw[hst] at e; cases e;obtain⟨z,hz1,hz2,hz3⟩:=jk hz;have hone:bo zs=true:=by
      unfold bo;rw[Tk] at hp ⊢;intro v hv;have:=hp v hv;cases v<;>first|rfl |(simp[aL] at this)
     have hn0:n≠0:=fun e=>hnz e;have hzc:(Builtin.zeroCells z.cells n).toList=zs:=by rw[hz3]; exact lM n
     have hgo:∀k:Blk,j b=some k->∃w',(storeCells ⟨k.c,o,none⟩ zs).run E.P w=.ok () w'/\Sim E j m w j m' w':=fun k hj=>iD h hj (LR.plain hp) hone hst;cases hx with
     | slice hj hm =>
      obtain⟨w',g1,g2⟩:=hgo _ hj;refine⟨w',.tuple #[],?_,g2,VR.undef j⟩;simp only[Builtin.clear_,h0,Tx,Tq,WG,WI hu,WE];cases n with
      | zero=>exact Tl rfl hn0
      | succ n=>simp only[ir hz1,WE,hzc,g1,WH]
     | sliceM hj hm e1 e2 hl hc =>
      obtain⟨w',g1,g2⟩:=hgo _ hj;refine⟨w',.tuple #[],?_,g2,VR.undef j⟩;simp only[Builtin.clear_,h0,Tx,Tq,WG,WI hu,WE];cases n with
      | zero=>exact Tl rfl hn0
      | succ n=>simp only[ir hz1,WE,hzc,g1,WH]
   cases e
  cases e
 cases e
def qq:∀(vs vs':WB Vs) (k:IntKind) (a:Int) (v:Vs),eg (fun x y=>if y>x then y else x) k a vs=some v->LR j vs vs'->∀w,(vs'.foldlM Builtin.max2 (.int k a)).run E.P w=.ok v w
 | [],vs',k,a,v,e,hl,w=>by rw[hl.dg]; cases e; rfl
 | x::vs,vs',k,a,v,e,hl,w=>by
  obtain⟨y,ys,rfl,h1,h2⟩:=hl.cons_inv;cases x<;>simp only[eg] at e<;>first |(cases e; done)|skip
  cases h1;simp only[List.foldlM_cons,Builtin.max2,WG,WH,WE];exact qq vs ys k _ v e h2 w
def qz:∀(vs vs':WB Vs) (k:IntKind) (a:Int) (v:Vs),eg (fun x y=>if y<x then y else x) k a vs=some v->LR j vs vs'->∀w,(vs'.foldlM Builtin.min2 (.int k a)).run E.P w=.ok v w
 | [],vs',k,a,v,e,hl,w=>by rw[hl.dg]; cases e; rfl
 | x::vs,vs',k,a,v,e,hl,w=>by
  obtain⟨y,ys,rfl,h1,h2⟩:=hl.cons_inv;cases x<;>simp only[eg] at e<;>first |(cases e; done)|skip
  cases h1;simp only[List.foldlM_cons,Builtin.min2,WG,WH,WE];exact qz vs ys k _ v e h2 w
def ku(f:Int->Int->Int):∀(vs:WB Vs) (k:IntKind) (a:Int) (v:Vs),eg f k a vs=some v->∃n,v=.int k n
 | [],k,a,v,e=>by cases e; exact⟨a,rfl⟩
 | x::vs,k,a,v,e=>by
  cases x<;>simp only[eg] at e<;>first |(cases e; done)|exact ku f vs k _ v e
def ER.len:∀{a:WB (Vs×Vs)} {b:WB MapEntry},ER j a b->a.length=b.length
 | [],[],_=>rfl
 | _::_,_::_,h=>by simp[ER.len h.2.2]
 | [],_::_,h=>h.elim
 | _::_,[],h=>h.elim
def yF (h:MR E j m w) {b:Builtin} {ts:WD Vt} {args args':WB Vs} {v:Vs} {m':V7} (e:bp E.P b ts args m=some (v,m')) (ha:LR j args args') (ty:Vt) (cs:WD Bool) :
  (m'=m/\(∀m2:V7,((b=.len\/b=.cap)->∀x b0,args=[x]->fO x=some b0->m2.get b0=m.get b0)->bp E.P b ts args m2=some (v,m2))/\∃v',(builtin b ts ty cs args'.toArray).run E.P w=.ok (.value v') w/\VR j v v') \/
  ((b=.append\/b=.copy\/b=.clear\/b=.delete)/\∃j' w' v',(builtin b ts ty cs args'.toArray).run E.P w=.ok (.value v') w'/\Sim E j m w j' m' w'/\VR j' v v'):=by
 unfold bp at e
 split at e
 ·
  rename_i x;obtain⟨x',l,rfl,hx,hl⟩:=ha.cons_inv;rw[hl.dg];refine .inl ?_;have k0:∀n:Int,(Builtin.len_ ts ty [x'].toArray).run E.P w=.ok (.int .i64 n) w->∃v',(builtin .len ts ty cs [x'].toArray).run E.P w=.ok (.value v') w/\VR j (.int .i64 n) v' :=
   fun n hr=>⟨_,by simp only[builtin,WG,hr,WE,WH],.int _ _⟩
  cases ht:ts[0]? with
  | none=>rw[ht] at e; simp at e
  | some t =>
   rw[ht] at e;simp only[TF] at e
   split at e
   rename_i hu; cases e; cases hx;exact⟨rfl,fun m2 h0=>by simp only[bp,ht,TF,hu],k0 _ (by simp only[Builtin.len_,ht,Tx,Tq,WG,WI hu,WE,WH,goInt])⟩
   rename_i hu; cases e;exact⟨rfl,fun m2 h0=>by simp only[bp,ht,TF,hu],k0 _ (by simp only[Builtin.len_,ht,Tx,Tq,WG,WI hu,WE,WH,goInt])⟩
   rename_i a hu
   split at e
   rename_i h5; cases e;exact⟨rfl,fun m2 h0=>by simp only[bp,ht,TF,hu,h5],k0 _ (by simp only[Builtin.len_,ht,Tx,Tq,WG,WI hu,WI h5,WE,WH,goInt])⟩
   cases e
   rename_i hu; cases e;cases hx<;>exact⟨rfl,fun m2 h0=>by simp only[bp,ht,TF,hu],k0 _ (by simp only[Builtin.len_,ht,Tx,Tq,WG,WI hu,WE,WH,goInt])⟩
   ·rename_i hu;cases hes:mapOf m _ with
    | none=>rw[hes] at e; cases e
    | some es =>
     rw[hes] at e; cases e;unfold mapOf at hes
     split at hes
     cases hes; cases hx;exact⟨rfl,fun m2 h0=>by simp only[bp,ht,TF,hu,mapOf,SZ],k0 _ (by simp only[Builtin.len_,ht,Tx,Tq,WG,WI hu,WE,WH,goInt]; rfl)⟩
     ·rename_i r
      split at hes
      ·rename_i e0 hg;cases hes;cases hx with
       | map hj =>
       obtain⟨es',clock,h1,h2⟩:=h.CB hj hg;have hlen:es.length=es'.size:=by
        simpa using ER.len h2
       exact⟨rfl,fun m2 h0=>by simp only[bp,ht,TF,hu,mapOf,h0 (.inl rfl) _ _ rfl rfl,hg,SZ],k0 _ (by simp only[Builtin.len_,ht,Tx,Tq,WG,WI hu,WE,run_getObj_map h1,WH,goInt,hlen])⟩
      cases hes
     cases hes
   cases e
 ·
  rename_i x;obtain⟨x',l,rfl,hx,hl⟩:=ha.cons_inv;rw[hl.dg];refine .inl ?_;have k0:∀n:Int,(Builtin.cap_ ts ty [x'].toArray).run E.P w=.ok (.int .i64 n) w->∃v',(builtin .cap ts ty cs [x'].toArray).run E.P w=.ok (.value v') w/\VR j (.int .i64 n) v' :=
   fun n hr=>⟨_,by simp only[builtin,WG,hr,WE,WH],.int _ _⟩
  cases ht:ts[0]? with
  | none=>rw[ht] at e; simp at e
  | some t =>
   rw[ht] at e;simp only[TF] at e
   split at e
   rename_i hu; cases e; cases hx;exact⟨rfl,fun m2 h0=>by simp only[bp,ht,TF,hu],k0 _ (by simp only[Builtin.cap_,ht,Tx,Tq,WG,WI hu,WE,WH,goInt])⟩
   ·rename_i b0 o l0 n hu
    split at e
    cases e
    ·rename_i c0 tag htag hg;cases e;cases hx with
     | slice hj hm =>
      refine⟨rfl,fun m2 h0=>?_,k0 _ (by simp only[Builtin.cap_,ht,Tx,Tq,WG,WI hu,WE,WH,goInt])⟩
      have h6:m2.get b0=some (.cells c0 tag):=(h0 (.inr rfl) _ _ rfl rfl).trans hg;simp only[bp,ht,TF,hu,h6]
     | sliceM hj hm e1 e2 hl hc =>
      have:=h.kindOf hj hg;cases tag with
      | more sz=>exact Tl rfl (htag sz)
      | ro=>simp only at this; rw[hm] at this; cases this
      | own=>simp only at this; rw[hm] at this; cases this
    cases e
   cases e
 
 rename_i s x;obtain⟨s',l,rfl,hs,hl⟩:=ha.cons_inv;obtain⟨x',l',rfl,hx,hl'⟩:=hl.cons_inv;rw[hl'.dg]
 split at e
 rename_i t ht;obtain⟨j',w',v',h1,h2,h3⟩:=Cj h e hs hx ht rfl ty;exact .inr ⟨by simp,j',w',v',by simp only[builtin,WG]; rw[h1]; rfl,h2,h3⟩
 cases e
 
 rename_i d s;obtain⟨d',l,rfl,hd,hl⟩:=ha.cons_inv;obtain⟨s',l',rfl,hs,hl'⟩:=hl.cons_inv;rw[hl'.dg]
 split at e
 rename_i t ht;obtain⟨w',v',h1,h2,h3⟩:=G0 h e hd hs ht ty;exact .inr ⟨by simp,j,w',v',by simp only[builtin,WG]; rw[h1]; rfl,h2,h3⟩
 cases e
 
 rename_i x;obtain⟨x',l,rfl,hx,hl⟩:=ha.cons_inv;rw[hl.dg]
 split at e
 rename_i t ht;obtain⟨w',v',h1,h2,h3⟩:=EF h e hx ht ty;exact .inr ⟨by simp,j,w',v',by simp only[builtin,WG]; rw[h1]; rfl,h2,h3⟩
 cases e
 ·
  rename_i x k;obtain⟨x',l,rfl,hx,hl⟩:=ha.cons_inv;obtain⟨k',l',rfl,hk,hl'⟩:=hl.cons_inv;rw[hl'.dg]
  split at e
  ·rename_i t ht;cases hd:qT E.P t x k m with
   | none=>rw[hd] at e; cases e
   | some m1 =>
    rw[hd] at e; cases e;obtain⟨w',h1,h2⟩:=BQ h hd hx hk ts ht ty;exact .inr ⟨by simp,j,w',.tuple #[],by simp only[builtin,WG]; rw[h1]; rfl,h2,VR.undef j⟩
  cases e
 ·
  rename_i k a vs;obtain⟨x',l,rfl,hx,hl⟩:=ha.cons_inv;cases hx;cases hf:eg (fun x y=>if y>x then y else x) k a vs with
  | none=>rw[hf] at e; cases e
  | some r =>
   rw[hf] at e; cases e;obtain⟨n,rfl⟩:=ku _ _ _ _ _ hf;refine .inl ⟨rfl,fun m2 _=>by simp only[bp,hf,SZ],.int k n,?_,.int _ _⟩
   have:=qq (E:=E) vs l k a _ hf hl w;simp only[builtin,WG,Builtin.max_,this,WE,WH]
 ·
  rename_i k a vs;obtain⟨x',l,rfl,hx,hl⟩:=ha.cons_inv;cases hx;cases hf:eg (fun x y=>if y<x then y else x) k a vs with
  | none=>rw[hf] at e; cases e
  | some r =>
   rw[hf] at e; cases e;obtain⟨n,rfl⟩:=ku _ _ _ _ _ hf;refine .inl ⟨rfl,fun m2 _=>by simp only[bp,hf,SZ],.int k n,?_,.int _ _⟩
   have:=qz (E:=E) vs l k a _ hf hl w;simp only[builtin,WG,Builtin.min_,this,WE,WH]
 cases e
end
section
variable{E:Env}{j:aJ}{m:V7}{w:Vw}{t:Tm}{n:Nat}{a:Act}
def aH(h:MR E j m w)(ht:TR n j t a.tmps){x:Vu}{v:Vs}(e:an E t x=some v):VR j v (a.eval x):=by
 unfold an at e
 split at e
 cases e; exact ht.2 _
 split at e
 rename_i hp; cases e; exact VR.bw hp
 cases e
 split at e
 rename_i hg; cases e; exact .ptr (h.glob _ hg)
 cases e
 cases e; exact .func rfl (fun i a _=>by simp at a) rfl (fun i a _=>by simp at a)
def eG(h:MR E j m w)(ht:TR n j t a.tmps):∀{xs:WB Vu} {vs:WB Vs},bE E t xs=some vs->LR j vs (xs.map a.eval)
 | [],vs,e=>by cases e; exact .nil j
 | x::xs,vs,e=>by
  simp only[bE] at e
  split at e
  rename_i v vs' h1 h2;cases e;exact .cons (aH h ht h1) (eG h ht h2)
  cases e
def jx(h:MR E j m w)(ht:TR n j t a.tmps):∀{xs:WB (Nat×Vu)} {vs:WB (Nat×Vs)},df E t xs=some vs ->
  vs.map (·.1)=(xs.map fun p=>(p.1,a.eval p.2)).map (·.1)/\LR j (vs.map (·.2)) ((xs.map fun p=>(p.1,a.eval p.2)).map (·.2))
 | [],vs,e=>by cases e; exact⟨rfl,.nil j⟩
 |(i,x)::xs,vs,e=>by
  simp only[df] at e
  split at e
  rename_i v vs' h1 h2;cases e;obtain⟨h3,h4⟩:=jx h ht h2;exact⟨by simpa using h3,.cons (aH h ht h1) h4⟩
  cases e
def nm(h:MR E j m w)(ht:TR n j t a.tmps){x:WA Vu}{v:WA Vs}(e:di E t x=some v):OVR j v (x.map a.eval):=by
 cases x with
 | none=>cases e; exact .none
 | some x =>
  simp only[di] at e;cases hv:an E t x with
  | none=>rw[hv] at e; cases e
  | some v0=>rw[hv] at e; cases e; exact .some (aH h ht hv)
def jY(P:Vv)(s:Sem Next)(v:Vs)(w w':Vw):Prop:=s.run P w=.ok (.value v) w'\/(s.run P w=.ok .skip w'/\v=undef)
def jY.value{P:Vv}{s:Sem Vs}{v:Vs}{w w':Vw}(h:s.run P w=.ok v w'):jY P (do pure (.value (<-s))) v w w' :=
 .inl (by simp only[WG,h,WE,WH])
def jY.unit{P:Vv}{s:Sem WC}{w w':Vw}(h:s.run P w=.ok () w'):jY P (do s; pure .skip) undef w w' :=
 .inr ⟨by simp only[WG,h,WE,WH],rfl⟩
def map_some{α β:Type}{f:α->β}{x:WA α}{y:β}(h:x.map f=some y):∃a,x=some a/\y=f a:=by
 cases x with
 | none=>cases h
 | some a=>cases h; exact⟨a,rfl,rfl⟩
def yZ{m2 m:V7}{b o n:Nat}(h:m2.get b=m.get b):m2.dK b o n=m.dK b o n:=by simp only[V7.dK,h]
def Af{P:Vv}{t:Vt}{p:Vs}{m2 m:V7}(h:∀b0,fO p=some b0->m2.get b0=m.get b0):dG P t p m2=dG P t p m:=by
 unfold dG
 split
 rename_i b o;have hb:=h b rfl;simp only[yZ hb,hb]
 rfl
def xZ{P:Vv}{t:Vt}{p:Vs}{l hh k:WA Vs}{m2 m:V7}(h:∀b0,fO p=some b0->m2.get b0=m.get b0):cE P t p l hh k m2=cE P t p l hh k m:=by
 unfold cE
 split
 rfl
 rename_i b o len cap _;simp only[h b rfl]
 rfl
 rename_i b o _;simp only[h b rfl]
 rfl
def uc{P:Vv}{t:Vt}{p q:Vs}{ok:Bool}{m2 m:V7}(h:∀b0,fO p=some b0->m2.get b0=m.get b0):dQ P t p q ok m2=dQ P t p q ok m:=by
 have:mapOf m2 p=mapOf m p:=by
  unfold mapOf
  split
  rfl
  rename_i r; simp only[h r rfl]
  rfl
 unfold dQ;simp only[this]
def Mg(E:Env)(j:aJ)(m:V7)(w:Vw)(t:Tm)(a:Act)(o:Oper)(v:Vs)(m':V7):Prop :=
 m'=m/\(∀m2:V7,(∀b0,aP E t o.op=some b0->m2.get b0=m.get b0)->cH E t m2 o.op=some (v,m2))/\∃v',jY E.P (execOp a.eval o) v' w w/\VR j v v'
def QY(E:Env)(j:aJ)(m:V7)(w:Vw)(t:Tm)(a:Act)(o:Oper)(v:Vs)(m':V7):Prop :=
 ∃(ao:V9) (co:Obj) (vb:Nat->Vs) (v':Vs),v=vb m.next/\m'=m.alloc ao/\jY E.P (execOp a.eval o) v' w (w.alloc co)/\OR j ⟨w.heap.size,none⟩ ao co /\
  (∀(j':aJ) (b:Nat),j' b=some ⟨w.heap.size,none⟩->VR j' (vb b) v')/\∀m2:V7,cH E t m2 o.op=some (vb m2.next,m2.alloc ao)
def vW(h:MR E j m w)(ht:TR n j t a.tmps){o:Oper}{v:Vs}{m':V7}(e:cH E t m o.op=some (v,m')) :
  Mg E j m w t a o v m'\/QY E j m w t a o v m'\/(aE o.op=true/\∃j' w' v',jY E.P (execOp a.eval o) v' w w'/\Sim E j m w j' m' w'/\VR j' v v'):=by
 have hpure:∀{s:Sem Vs} {f:V7->WA Vs} {v0:Vs} {m0:V7},(∀m2:V7,cH E t m2 o.op=(f m2).map fun v=>(v,m2))->(∀m2:V7,(∀b0,aP E t o.op=some b0->m2.get b0=m.get b0)->f m2=f m) ->
   (∀v1,f m=some v1->∃v',s.run E.P w=.ok v' w/\VR j v1 v')->(f m).map (fun v=>(v,m))=some (v0,m0)->execOp a.eval o=(do pure (.value (<-s))) ->
   Mg E j m w t a o v0 m0:=by
  intro s f v0 m0 hf hf2 h1 h2 hx;obtain⟨v1,hr,he⟩:=map_some h2;cases he;obtain⟨v',h3,h4⟩:=h1 _ hr;exact⟨rfl,fun m2 hm2=>by rw[hf,hf2 m2 hm2,hr]; rfl,v',by rw[hx]; exact .value h3,h4⟩
 cases hop:o.op<;>rw[hop] at e<;>simp only[cH] at e<;>try(cases e; done)
 case move x =>
  refine .inl ⟨(by obtain⟨v1,hv,he⟩:=map_some e; cases he; rfl),fun m2 _=>?_,?_⟩
  rw[hop]; obtain⟨v1,hv,he⟩:=map_some e; cases he;simp only[cH,hv,SZ]
  obtain⟨v1,hv,he⟩:=map_some e;cases he;exact⟨_,.inl (by simp only[execOp,hop]; rfl),aH h ht hv⟩
 case assign x =>
  refine .inl ⟨(by obtain⟨v1,hv,he⟩:=map_some e; cases he; rfl),fun m2 _=>?_,?_⟩
  rw[hop]; obtain⟨v1,hv,he⟩:=map_some e; cases he;simp only[cH,hv,SZ]
  obtain⟨v1,hv,he⟩:=map_some e;cases he;exact⟨_,.inl (by simp only[execOp,hop]; rfl),aH h ht hv⟩
 case pick c x y =>
  have hx:execOp a.eval o=(do pure (.value (if <-asBool (a.eval c) then a.eval x else a.eval y))):=by simp only[execOp,hop]
  refine .inl ?_
  split at e
  rename_i hc;obtain⟨v1,hv,he⟩:=map_some e;cases he;have hb:=aH h ht hc;refine⟨rfl,fun m2 _=>by rw[hop]; simp only[cH,hc,hv,SZ],a.eval x,?_,aH h ht hv⟩
  rw[hx];generalize a.eval c=cv at hb;cases hb;exact .inl rfl
  rename_i hc;obtain⟨v1,hv,he⟩:=map_some e;cases he;have hb:=aH h ht hc;refine⟨rfl,fun m2 _=>by rw[hop]; simp only[cH,hc,hv,SZ],a.eval y,?_,aH h ht hv⟩
  rw[hx];generalize a.eval c=cv at hb;cases hb;exact .inl rfl
  cases e
 case alloc elem =>
  have hx:execOp a.eval o=(do pure (.value (<-Instr.alloc elem true (.tuple #[])))):=by simp only[execOp,hop]
  split at e
  rename_i z hz
  split at e
  rename_i hp;cases e;refine .inr (.inl ⟨_,.cells z.cells elem,fun b=>ptr b 0,.pointer (some ⟨w.heap.size,0,none⟩),rfl,rfl,?_,OR.own (gx (VR.bw hp)),fun j' b hb=>.ptr hb,fun m2=>by rw[hop]; simp only[cH,hz,hp,if_true]⟩)
  rw[hx];refine .value ?_;simp only[Instr.alloc,WG,ir hz,WE,newVar,newRow,run_newObj,WH,World.alloc_eq]
  cases e
  cases e
 case box elem x =>
  have hx:execOp a.eval o=(do pure (.value (<-Instr.box elem (a.eval x)))):=by simp only[execOp,hop]
  obtain⟨v1,hv,he⟩:=map_some e;cases he;refine .inr (.inl ⟨_,.cells (a.eval x).cells elem,fun b=>ptr b 0,.pointer (some ⟨w.heap.size,0,none⟩),rfl,rfl,?_,OR.own (gx (aH h ht hv)),fun j' b hb=>.ptr hb,fun m2=>by rw[hop]; simp only[cH,hv,SZ]⟩)
  rw[hx];refine .value ?_;simp only[Instr.box,WG,newVar,newRow,run_newObj,WE,WH,World.alloc_eq]
 case build ty parts =>
  have hx:execOp a.eval o=(do pure (.value (<-Instr.build ty (parts.map fun(i,x)=>(i,a.eval x))))):=by simp only[execOp,hop]
  split at e
  rename_i ps z hps hz
  split at e
  rename_i hp;obtain⟨h1,h2⟩:=jx h ht hps;refine .inl (hpure (f:=fun _=>kC E.P ty ps) (fun m2=>by rw[hop]; simp only[cH,hps,hz,S7 hp]) (fun _ _=>rfl) (fun v1 hv1=>?_) e hx)
  obtain⟨v',h3,h4⟩:=Fv hv1 h1 h2 hz hp;refine⟨v',?_,h4⟩;have:(parts.map fun(i,x)=>(i,a.eval x))=(parts.toList.map fun p=>(p.1,a.eval p.2)).toArray:=by
   apply TY.1; simp
  rw[this]; exact h3 w
  cases e
  cases e
 case buildSlice ty len parts =>
  have hx:execOp a.eval o=(do pure (.value (<-Instr.buildSlice ty len (parts.map fun(i,x)=>(i,a.eval x))))):=by simp only[execOp,hop]
  split at e
  rename_i elem ps hu hps
  split at e
  cases e
  rename_i hc;simp only[Ul,T1,Tv,not_or,Bool.not_eq_false] at hc;obtain⟨hk,hbig⟩:=hc
  split at e
  rename_i zs hz
  split at e
  rename_i hp;obtain⟨cs,hcs,he⟩:=map_some e;cases he;obtain⟨h1,h2⟩:=jx h ht hps;obtain⟨z,hz1,hz2,hz3⟩:=jk hz;obtain⟨cs',h3,h4⟩:=oF h1 h2 (LR.plain (j:=j) hp) hcs;have hparts:(parts.map fun(i,x)=>(i,a.eval x)).toList=parts.toList.map fun p=>(p.1,a.eval p.2):=by simp
  refine .inr (.inl ⟨_,.cells cs'.toArray elem,fun b=>.slice (some ⟨b,0,none⟩) len len,.slice (some ⟨w.heap.size,0,none⟩) len len,rfl,rfl,?_,OR.own (by simpa using h4),fun j' b hb=>.slice hb rfl,fun m2=>by rw[hop]; simp only[cH,hu,hps,hk,hz,hp,hcs,Ta hbig,S9,Bool.or_self,Tf,if_true,if_false,SZ]⟩)
  rw[hx];refine .value ?_;have hc0:len*aA E.P elem=0->((Array.range (len*aA E.P elem)).map fun i=>(#[]:WD Vs)[i%(#[]:WD Vs).size]!)=zs.toArray:=by
   intro h0;apply TY.1;have:zs=[]:=by apply Un; rw[hz3,fF,U2,hz2,h0]
   simp[h0,this]
  have hc1:((Array.range (len*aA E.P elem)).map fun i=>z.cells[i%z.cells.size]!)=zs.toArray:=by
   apply TY.1;rw[hz3,<-hz2]; exact lM len
  simp only[Instr.buildSlice,WG,WI hu,WE,cx hk,Sem.run_ite,S8 hbig,hparts]
  split
  rename_i h0;simp only[WH,WE,hc0 h0,h3,newRow,WG,run_newObj,World.alloc_eq]
  simp only[WG,ir hz1,WH,WE,hc1,h3,newRow,run_newObj,World.alloc_eq]
  cases e
  cases e
  cases e
 case load ty x =>
  have hx:execOp a.eval o=(do pure (.value (<-Instr.loadAt ty (a.eval x)))):=by simp only[execOp,hop]
  split at e
  rename_i p hp;refine .inl (hpure (f:=fun m2=>dG E.P ty p m2) (fun m2=>by rw[hop]; simp only[cH,hp]) (fun m2 hm2=>?_) (fun v1 hv1=>zZ h hv1 (aH h ht hp)) e hx)
  rw[hop] at hm2;simp only[aP,hp,TF] at hm2;exact Af hm2
  cases e
 case store ty x y =>
  have hx:execOp a.eval o=(do Instr.storeAt ty (a.eval x) (a.eval y); pure .skip):=by simp only[execOp,hop]
  rw[hx]
  split at e
  rename_i p v0 hp hv0;obtain⟨m1,hm1,he⟩:=map_some e;cases he;obtain⟨w',h1,h2⟩:=ET h hm1 (aH h ht hp) (aH h ht hv0);exact .inr (.inr ⟨rfl,j,w',undef,.unit h1,h2,VR.undef j⟩)
  cases e
 case nilCheck x =>
  split at e
  rename_i ad hp;cases e;have hv:=aH h ht hp;refine .inl ⟨rfl,fun m2 _=>by rw[hop]; simp only[cH,hp],a.eval x,.inl ?_,hv⟩
  generalize hxv:a.eval x=xv at hv;cases hv;simp only[execOp,hop,hxv,WH]
  rename_i f fs cs hp;cases e;have hv:=aH h ht hp;refine .inl ⟨rfl,fun m2 _=>by rw[hop]; simp only[cH,hp],a.eval x,.inl ?_,hv⟩
  generalize hxv:a.eval x=xv at hv;cases hv;simp only[execOp,hop,hxv,WH]
  rename_i f fs cs hp;cases e;have hv:=aH h ht hp;refine .inl ⟨rfl,fun m2 _=>by rw[hop]; simp only[cH,hp],a.eval x,.inl ?_,hv⟩
  generalize hxv:a.eval x=xv at hv;cases hv;simp only[execOp,hop,hxv,WH]
  cases e
 case binOp op xt x y yt =>
  have hx:execOp a.eval o=(do pure (.value (<-(do eqGuard op xt x y (a.eval x) (a.eval y); binOp op xt (a.eval x) (a.eval y))))):=by simp only[execOp,hop]
  split at e
  rename_i p q hp hq;refine .inl (hpure (f:=fun _=>bf op xt E.P p q) (fun m2=>by rw[hop]; simp only[cH,hp,hq]) (fun _ _=>rfl) (fun v1 hv1=>?_) e hx)
  obtain⟨v',h1,h2⟩:=LH hv1 (aH h ht hp) (aH h ht hq) x y;exact⟨v',h1 w,h2⟩
  cases e
 case unOp op xt x =>
  have hx:execOp a.eval o=(do pure (.value (<-Op.unary op (a.eval x)))):=by simp only[execOp,hop]
  split at e
  rename_i p hp;refine .inl (hpure (f:=fun _=>BL op p) (fun m2=>by rw[hop]; simp only[cH,hp]) (fun _ _=>rfl) (fun v1 hv1=>?_) e hx)
  obtain⟨v',h1,h2⟩:=ON (P:=E.P) hv1 (aH h ht hp);exact⟨v',h1 w,h2⟩
  cases e
 case convert s d x =>
  have hx:execOp a.eval o=(do pure (.value (<-convert s d (a.eval x)))):=by simp only[execOp,hop]
  split at e
  rename_i p hp;refine .inl (hpure (f:=fun _=>fI E.P s d p) (fun m2=>by rw[hop]; simp only[cH,hp]) (fun _ _=>rfl) (fun v1 hv1=>?_) e hx)
  obtain⟨v',h1,h2⟩:=IW hv1 (aH h ht hp);exact⟨v',h1 w,h2⟩
  cases e
 case makeFunc fn first captured =>
  cases fn<;>simp only at e<;>try(cases e; done)
  rename_i f;have hx:execOp a.eval o=(do pure (.value (<-Instr.makeFunc (.func f) (first.map a.eval) (captured.map a.eval)))):=by simp only[execOp,hop]
  split at e
  rename_i fs cs h1 h2;cases e;have h3:=eG h ht h1;have h4:=eG h ht h2;have h3':LR j fs.toArray.toList (first.map a.eval).toList:=by simpa using h3
  have h4':LR j cs.toArray.toList (captured.map a.eval).toList:=by simpa using h4
  refine .inl ⟨rfl,fun m2 _=>by rw[hop]; simp only[cH,h1,h2],_,?_,.func h3'.size h3'.arr h4'.size h4'.arr⟩
  rw[hx]; exact .value rfl
  cases e
 case makeMap ty r =>
  cases r with
  | some _=>simp at e
  | none =>
   simp only at e;cases e;have hx:execOp a.eval o=(do pure (.value (<-Instr.makeMap ty none))):=by simp only[execOp,hop]; rfl
   refine .inr (.inl ⟨.map [],.map #[] 0,fun b=>.map (some b),.map (some w.heap.size),rfl,rfl,?_,⟨trivial,FP _⟩,fun j' b hb=>.map hb,fun m2=>by rw[hop]; rfl⟩)
   rw[hx];refine .value ?_;simp only[Instr.makeMap,WG,run_newObj,WE,WH,World.alloc_eq]
 case makeSlice ty l c =>
  have hx:execOp a.eval o=(do pure (.value (<-Instr.makeSlice ty (a.eval l) (a.eval c)))):=by simp only[execOp,hop]
  split at e
  rename_i elem li ci hu hl hc
  split at e
  rename_i hcond;have hcond0:=hcond;obtain⟨h0l,hlc,hany,hk⟩:=hcond;simp only[Option.any_eq_true,SW,Tv,bne_iff_ne,ne_eq] at hany;obtain⟨i,hi,hby,hb0⟩:=hany
  split at e
  rename_i zs hz
  split at e
  rename_i hp;cases e;obtain⟨z,hz1,hz2,hz3⟩:=jk hz;have hlv:=aH h ht hl;have hcv:=aH h ht hc;refine .inr (.inl ⟨_,.cells zs.toArray elem,fun b=>.slice (some ⟨b,0,none⟩) li.toNat ci.toNat,.slice (some ⟨w.heap.size,0,none⟩) li.toNat ci.toNat,rfl,rfl,?_,OR.own (LR.plain hp),fun j' b hb=>.slice hb rfl,fun m2=>by rw[hop]; simp only[cH,hu,hl,hc]; rw[S7 hcond0]; simp only[hz,hp,if_true]⟩)
  rw[hx];refine .value ?_;generalize a.eval l=lv at hlv;generalize a.eval c=cv at hcv;cases hlv; cases hcv;have hci:ci<=2 ^ 40:=by
   have h1:(1:Int)<=(i.bytes:Int):=by exact_mod_cast Nat.one_le_iff_ne_zero.2 hb0
   have:1*ci<=(i.bytes:Int)*ci:=Int.mul_le_mul_of_nonneg_right h1 (by omega)
   omega
  have hwl:IntKind.i64.wrap li=li:=IntWalk.i64_in li (by omega)
  have hwc:IntKind.i64.wrap ci=ci:=IntWalk.i64_in ci (by omega)
  have hneg:¬(((ci<0 ||(i.bytes:Int)*ci>2 ^ 48)||li<0||li>ci)=true):=by
   simp only[Ul,Tv,not_or];omega
  have hc0:ci.toNat*aA E.P elem=0->((Array.range (ci.toNat*aA E.P elem)).map fun i=>(#[]:WD Vs)[i%(#[]:WD Vs).size]!)=zs.toArray:=by
   intro h0;apply TY.1;have:zs=[]:=by apply Un; rw[hz3,fF,U2,hz2,h0]
   simp[h0,this]
  have hc1:((Array.range (ci.toNat*aA E.P elem)).map fun i=>z.cells[i%z.cells.size]!)=zs.toArray:=by
   apply TY.1;rw[hz3,<-hz2]; exact lM ci.toNat
  simp only[Instr.makeSlice,WG,WI hu,WE,asInt,asIntOf,WH,rW hi,hwl,hwc,Sem.run_ite,S8 hneg,run_askRoom,cx hk]
  split
  rename_i h0;simp only[WH,WE,hc0 h0,newRow,WG,run_newObj,World.alloc_eq]
  simp only[WG,ir hz1,WH,WE,hc1,newRow,run_newObj,World.alloc_eq]
  cases e
  cases e
  cases e
  cases e
 case slice ty x lo hi mx =>
  have hx:execOp a.eval o=(do pure (.value (<-Instr.sliceAt ty (a.eval x) (lo.map a.eval) (hi.map a.eval) (mx.map a.eval)))):=by simp only[execOp,hop]
  split at e
  rename_i p l hh k hp h1 h2 h3;refine .inl (hpure (f:=fun m2=>cE E.P ty p l hh k m2) (fun m2=>by rw[hop]; simp only[cH,hp,h1,h2,h3]) (fun m2 hm2=>?_) (fun v1 hv1=>?_) e hx)
  rw[hop] at hm2;simp only[aP,hp,TF] at hm2;exact xZ hm2
  obtain⟨v',g1,g2⟩:=EJ h hv1 (aH h ht hp) (nm h ht h1) (nm h ht h2) (nm h ht h3);exact⟨v',g1 w,g2⟩
  cases e
 case fieldAddr s x f =>
  have hx:execOp a.eval o=(do pure (.value (<-Instr.fieldAt s (a.eval x) f))):=by simp only[execOp,hop]
  split at e
  rename_i p hp;refine .inl (hpure (f:=fun _=>aM E.P s p f) (fun m2=>by rw[hop]; simp only[cH,hp]) (fun _ _=>rfl) (fun v1 hv1=>?_) e hx)
  obtain⟨v',g1,g2⟩:=uj hv1 (aH h ht hp);exact⟨v',g1 w,g2⟩
  cases e
 case field ty x f =>
  have hx:execOp a.eval o=(do pure (.value (<-Instr.field ty (a.eval x) f))):=by simp only[execOp,hop]
  split at e
  rename_i p hp;refine .inl (hpure (f:=fun _=>eW E.P ty p f) (fun m2=>by rw[hop]; simp only[cH,hp]) (fun _ _=>rfl) (fun v1 hv1=>?_) e hx)
  obtain⟨v',g1,g2⟩:=Fw hv1 (aH h ht hp);exact⟨v',g1 w,g2⟩
  cases e
 case sliceToArrayPointer ty x =>
  have hx:execOp a.eval o=(do pure (.value (<-Instr.arrayAt ty (a.eval x)))):=by simp only[execOp,hop]
  split at e
  rename_i p hp;refine .inl (hpure (f:=fun _=>Es E.P ty p) (fun m2=>by rw[hop]; simp only[cH,hp]) (fun _ _=>rfl) (fun v1 hv1=>?_) e hx)
  obtain⟨v',g1,g2⟩:=Iu hv1 (aH h ht hp);exact⟨v',g1 w,g2⟩
  cases e
 case indexAddr ty x i =>
  have hx:execOp a.eval o=(do pure (.value (<-Instr.indexAt ty (a.eval x) (a.eval i)))):=by simp only[execOp,hop]
  split at e
  rename_i p q hp hq;refine .inl (hpure (f:=fun _=>bJ E.P ty p q) (fun m2=>by rw[hop]; simp only[cH,hp,hq]) (fun _ _=>rfl) (fun v1 hv1=>?_) e hx)
  obtain⟨v',g1,g2⟩:=uu hv1 (aH h ht hp) (aH h ht hq);exact⟨v',g1 w,g2⟩
  cases e
 case index ty x i =>
  have hx:execOp a.eval o=(do pure (.value (<-Instr.index ty (a.eval x) (a.eval i)))):=by simp only[execOp,hop]
  split at e
  rename_i p q hp hq;refine .inl (hpure (f:=fun _=>eS E.P ty p q) (fun m2=>by rw[hop]; simp only[cH,hp,hq]) (fun _ _=>rfl) (fun v1 hv1=>?_) e hx)
  obtain⟨v',g1,g2⟩:=Fu hv1 (aH h ht hp) (aH h ht hq);exact⟨v',g1 w,g2⟩
  cases e
 case lookup ty x i ok =>
  have hx:execOp a.eval o=(do pure (.value (<-Instr.lookup ty (a.eval x) (a.eval i) ok))):=by simp only[execOp,hop]
  split at e
  rename_i p q hp hq;refine .inl (hpure (f:=fun m2=>dQ E.P ty p q ok m2) (fun m2=>by rw[hop]; simp only[cH,hp,hq]) (fun m2 hm2=>?_) (fun v1 hv1=>Ce h hv1 (aH h ht hp) (aH h ht hq)) e hx)
  rw[hop] at hm2;simp only[aP,hp,TF] at hm2;exact uc hm2
  cases e
 case mapUpdate ty x k y =>
  have hx:execOp a.eval o=(do Instr.mapUpdate ty (a.eval x) (a.eval k) (a.eval y); pure .skip):=by simp only[execOp,hop]
  rw[hx]
  split at e
  rename_i p q r hp hq hr;obtain⟨m1,hm1,he⟩:=map_some e;cases he;obtain⟨w',h1,h2⟩:=mY h hm1 (aH h ht hp) (aH h ht hq) (aH h ht hr);exact .inr (.inr ⟨rfl,j,w',undef,.unit h1,h2,VR.undef j⟩)
  cases e
 case insert ty x k y =>
  have hx:execOp a.eval o=(do Instr.mapUpdate ty (a.eval x) (a.eval k) (a.eval y); pure .skip):=by simp only[execOp,hop]
  rw[hx]
  split at e
  rename_i p q r hp hq hr;obtain⟨m1,hm1,he⟩:=map_some e;cases he;obtain⟨w',h1,h2⟩:=mY h hm1 (aH h ht hp) (aH h ht hq) (aH h ht hr);exact .inr (.inr ⟨rfl,j,w',undef,.unit h1,h2,VR.undef j⟩)
  cases e
 case extract x i =>
  have hx:execOp a.eval o=(do pure (.value (<-Instr.extract (a.eval x) i))):=by simp only[execOp,hop]
  split at e
  ·rename_i vs hp;refine .inl (hpure (f:=fun _=>vs[i]?) (fun m2=>by rw[hop]; simp only[cH,hp]) (fun _ _=>rfl) (fun v1 hv1=>?_) e hx)
   have hv:=aH h ht hp;generalize a.eval x=xv at hv;cases hv with
   | tuple h1 h2 =>
   rename_i ys;obtain⟨v',g1,g2⟩:=(LR.eV h1 h2).get (show vs.toList[i]? = some v1 by simpa using hv1)
   refine⟨v',?_,g2⟩;have g1':ys[i]? = some v':=by simpa using g1
   simp only[Instr.extract,g1',WH]
  cases e
 case call c =>
  split at e
  rename_i b hb
  split at e
  rename_i vs hvs;have hx:execOp a.eval o=(do let d <-resolve a.eval c o.type; invoke d.target d.args):=by simp only[execOp,hop]
  have hargs:c.args.map a.eval=(c.args.toList.map a.eval).toArray:=by apply TY.1; simp
  have hrun:∃cs,(execOp a.eval o).run E.P w=(builtin b c.argTypes o.type cs (c.args.toList.map a.eval).toArray).run E.P w :=
   ⟨_,by rw[hx]; simp only[resolve,hb,WG,WH,WE,invoke,hargs]; rfl⟩
  obtain⟨cs,hrun⟩:=hrun;rcases yF h e (eG h ht hvs) o.type cs with⟨rfl,hm,v',h1,h2⟩|⟨hbb,j',w',v',h1,h2,h3⟩
  refine .inl ⟨rfl,fun m2 hm2=>?_,v',.inl (hrun.trans h1),h2⟩;rw[hop] at hm2 ⊢;simp only[cH,hb,hvs];refine hm m2 fun hlc x b0 hx1 hx2=>hm2 b0 ?_;subst hx1;rcases hlc with rfl|rfl<;>simp only[aP,hb,hvs,hx2]
  refine .inr (.inr ⟨?_,j',w',v',.inl (hrun.trans h1),h2,h3⟩);rcases hbb with rfl|rfl|rfl|rfl<;>simp only[aE,hb]
  cases e
  cases e
def Iq(h:MR E j m w)(ht:TR n j t a.tmps){o:Oper}{v:Vs}{m':V7}(e:cH E t m o.op=some (v,m')) :
  ∃j' w' v',jY E.P (execOp a.eval o) v' w w'/\Sim E j m w j' m' w'/\VR j' v v':=by
 rcases vW h ht e with⟨rfl,_,v',h1,h2⟩|⟨ao,co,vb,v',rfl,rfl,h1,h2,h3,_⟩|⟨_,h1⟩
 exact⟨j,w,v',h1,.refl h,h2⟩
 exact⟨_,_,v',h1,mh h h2,h3 _ _ (aJ.cc _ _ _)⟩
 exact h1
end
def GJ:V8->Exit
 | .normal=>.normal
 | .exit id=>.exit id
 | .ret=>.ret
def jN(F:Fence):Prop:=F=Fence.wide\/∃l,F=Fence.wide.inRound l
def jN.fn{F:Fence}(h:jN F)(f:WJ):F.fn f:=by
 rcases h with rfl|⟨l,rfl⟩<;>trivial
def jN.room{F:Fence}(h:jN F)(n:Nat):F.room n:=by
 rcases h with rfl|⟨l,rfl⟩<;>intro d hd<;>simp[Fence.wide] at hd
def jN.depth{F:Fence}(h:jN F){n:Nat}:F.depth.isSome=true->1<=n:=by
 rcases h with rfl|⟨l,rfl⟩<;>intro hd<;>simp[Fence.wide] at hd
def jN.calls{F:Fence}(h:jN F){n:Nat}{P:Vv}{f:WJ}{args:WD Vs}{w:Vw}{R:Ending->Vw->Prop}(hc:CallsIn Fence.wide n P f args w R):CallsIn F n P f args w R:=by
 rcases h with rfl|⟨l,rfl⟩
 exact hc
 exact hc
def jN.J0{F:Fence}(h:jN F){n:Nat}{P:Vv}{l:Nat}{f:WJ}{tmps:WD Vs}{x y:Code}{w:Vw}{R:Ending->Vw->Prop}(hc:RoundIn Fence.wide n P l f tmps x y w R):RoundIn F n P l f tmps x y w R:=by
 rcases h with rfl|⟨l,rfl⟩
 exact hc
 exact hc
def jZ(j:aJ)(r:WA Nat)(F:Fence):Prop :=
 match r with
 | none=>F=Fence.wide
 | some l=>∃k,j l=some k/\F=Fence.wide.inRound k.c
def jZ.wide{j:aJ}{r:WA Nat}{F:Fence}(h:jZ j r F):jN F:=by
 cases r with
 | none=>exact .inl h
 | some l=>obtain⟨k,_,rfl⟩:=h; exact .inr ⟨_,rfl⟩
def jZ.mono{j j':aJ}(hj:j.le j'){r:WA Nat}{F:Fence}(h:jZ j r F):jZ j' r F:=by
 cases r with
 | none=>exact h
 | some l=>obtain⟨k,h1,rfl⟩:=h; exact⟨k,hj _ _ h1,rfl⟩
def sO(r:Nat):Deferred:={ target:=.collected r,args:=#[]}
def Marks(N:Nat)(w:Vw)(ds:WB Deferred):Prop:=∃rs:WB Nat,rs.Nodup/\ds=rs.map sO/\∀r∈rs,N<=r/\w.heap[r]? = some (.deferred (some []))
def Marks.nil(N:Nat)(w:Vw):Marks N w []:=⟨[],List.nodup_nil,rfl,fun r h=>by simp at h⟩
def za{E:Env}{j:aJ}{m:V7}{w:Vw}(h:MR E j m w){r:Nat}(hr:w.heap[r]? = some (.deferred (some []))):∀b k,j b=some k->(m.get b).isSome=true->k.c≠r:=by
 intro b k hb hl he;cases hg:m.get b with
 | none=>rw[hg] at hl; cases hl
 | some o =>
  obtain⟨o',h1,h2⟩:=h.obj b o k hg hb;rw[he,hr] at h1;cases h1;cases o<;>exact h2.elim
def Marks.FX{E:Env}{j j':aJ}{m m':V7}{w w':Vw}(h:MR E j m w)(s:Sim E j m w j' m' w'){N:Nat}{ds:WB Deferred}(hm:Marks N w ds):Marks N w' ds:=by
 obtain⟨rs,h1,h2,h3⟩:=hm;refine⟨rs,h1,h2,fun r hr=>⟨(h3 r hr).1,?_⟩⟩;have hh:=(h3 r hr).2;rw[s.frame r (Te.1 hh).1 fun b k hb hl he=>Tl he (za h hh b k hb hl)];exact hh
def kV(E:Env)(j:aJ)(m:V7)(w:Vw)(N n:Nat)(e:V8)(t:Tm)(m':V7):Exit->Act->Vw->Prop:=fun e' a' w' =>
 e'=GJ e/\∃j',Sim E j m w j' m' w'/\TR n j' t a'.tmps/\Marks N w' a'.defers
def Cw(E:Env)(cs:Nat->Vv->Fence->(Exit->Act->Vw->Prop)->Act->Vw->Prop)(fr:Fr)(m:V7)(r:Res):Prop :=
 ∃e t m',r=.code e t m'/\∀(j:aJ) (w:Vw) (a:Act) (F:Fence) (N:Nat),MR E j m w->TR fr.n j fr.tmps a.tmps->jZ j fr.round F->Marks N w a.defers->N<=w.heap.size ->
  cs 0 E.P F (kV E j m w N fr.n e t m') a w
def dN(P:Vv)(pr:Bool)(f:WJ)(args:WD Vs)(w:Vw)(R:Vs->Vw->Prop):Prop :=
 ((callFunc f args).run P w=.ok (.enter f args) w/\CallsIn Fence.wide 0 P f args w (fun e w'=>∃v,e=.returned v/\R v w')) \/
  (pr=true/\∃v w',(callFunc f args).run P w=.ok (.value v) w'/\R v w')
def fy(E:Env)(j:aJ)(m:V7)(w:Vw)(v:Vs)(m':V7):Vs->Vw->Prop:=fun v' w'=>∃j',Sim E j m w j' m' w'/\VR j' v v'
def J7(E:Env)(f:WJ)(args:WB Vs)(m:V7)(r:Res):Prop :=
 ∃v m',r=.val v m'/\∀(j:aJ) (w:Vw) (args':WB Vs),MR E j m w->LR j args args'->dN E.P (E.cQ f).isSome f args'.toArray w (fy E j m w v m')
def Gi(E:Env)(l:Nat)(args:WB Vs)(m:V7)(r:Res):Prop :=
 ∃v m',r=.val v m'/\∀(j:aJ) (w:Vw) (k:Blk) (args':WB Vs),MR E j m w->j l=some k->LR j args args' ->
  ∃fn tmps assign body,(Instr.yield k.c args'.toArray).run E.P w=.ok (.round k.c fn tmps assign body) w /\
   RoundIn Fence.wide 0 E.P k.c fn tmps assign body w (fun e w'=>∃v',e=.returned v'/\fy E j m w v m' v' w')
def np(F:Fence)(n:Nat)(P:Vv)(c:Code)(Q:Exit->Act->Vw->Prop)(a:Act)(w:Vw):Prop :=
 ∀(b:Frame) (k:WB Item) (cs:WB Frame),b.roundOf=F.round->F.fn b.fn->F.room (cs.length+1+n) ->
  ∃e a' w',Q e a' w'/\ArrivesIn (Machine.fenced P F) P (lone (b.atR a (.code c::.inLoop c::k)) cs w) b k cs e a' w'
def cC(E:Env):Task->Res->Prop
 | .code c fr m,r=>Cw E (fun n P F Q a w=>c.wpIn F n P Q a w) fr m r
 | .loop c fr m,r=>Cw E (fun n P F Q a w=>np F n P c Q a w) fr m r
 | .call f args m,r=>J7 E f args m r
 | .round l args m,r=>Gi E l args m r
structure EnvOk(E:Env):Prop where
 call:∀f fn c,E.P.funcs[f]? = some fn->fn.body=some c->∀args w,(callFunc f args).run E.P w=.ok (.enter f args) w
 mixed:E.P.follows .mixedOrders=true
 cQ:∀f p,E.cQ f=some p->∀args m v m',p.run args m=some (v,m')->∀(j:aJ) (w:Vw) (args':WB Vs),MR E j m w->LR j args args'->dN E.P (E.cQ f).isSome f args'.toArray w (fy E j m w v m')
def cL{F:Fence}(hF:jN F){P:Vv}{o:Oper}{a:Act}{w w':Vw}{v:Vs}{next:Act->Vw->Prop}{Q:Exit->Act->Vw->Prop}(hd:∀c,o.op≠.defer c)
  (h:jY P (execOp a.eval o) v w w') (hn:next (a.put o.dst v) w'):o.wpIn F 0 P a w next Q:=by
 refine⟨fun f _=>hF.fn f,?_⟩;rw[Oper.semAt_eq _ _ _ hd];rcases h with h|⟨h,rfl⟩
 rw[h]; exact hn
 rw[h]; exact hn
section
variable{E:Env}{k:K}
def lN{t:Tm}{m:V7}{o:Op}{r:Vs×V7}(h:cH E t m o=some r):∀c,o≠.defer c:=by
 intro c e; subst e; simp[cH] at h
def Does(P:Vv)(s:Sem Next)(w:Vw)(G:Vs->Vw->Prop):Prop :=
 (∃v w',jY P s v w w'/\G v w') \/
 (∃f args,s.run P w=.ok (.enter f args) w/\CallsIn Fence.wide 0 P f args w (fun e w'=>∃v,e=.returned v/\G v w')) \/
 (∃l fn tmps x y,s.run P w=.ok (.round l fn tmps x y) w/\RoundIn Fence.wide 0 P l fn tmps x y w (fun e w'=>∃v,e=.returned v/\G v w'))
def Does.wpIn{F:Fence}(hF:jN F){P:Vv}{o:Oper}(hd:∀c,o.op≠.defer c){a:Act}{w:Vw}{G:Vs->Vw->Prop}(h:Does P (execOp a.eval o) w G){next:Act->Vw->Prop}{Q:Exit->Act->Vw->Prop}
  (hn:∀v' w',G v' w'->next (a.put o.dst v') w'):o.wpIn F 0 P a w next Q:=by
 rcases h with⟨v,w',h1,h2⟩|⟨f,args,h1,h2⟩|⟨l,fn,tmps,x,y,h1,h2⟩
 exact cL hF hd h1 (hn _ _ h2)
 refine⟨fun f _=>hF.fn f,?_⟩;rw[Oper.semAt_eq _ _ _ hd,h1];exact⟨hF.depth,CallsIn.mono (hF.calls h2) fun e' w' he=>by
  obtain⟨v',rfl,hq⟩:=he;exact hn v' w' hq⟩
 refine⟨fun f _=>hF.fn f,?_⟩;rw[Oper.semAt_eq _ _ _ hd,h1];exact⟨hF.depth,RoundIn.mono (hF.J0 h2) fun e' w' he=>by
  obtain⟨v',rfl,hq⟩:=he;exact hn v' w' hq⟩
def Does.ends{P:Vv}{s:Sem Next}{w:Vw}{G:Vs->Vw->Prop}(h:Does P s w G):∃v w',G v w':=by
 rcases h with⟨v,w',_,h2⟩|⟨f,args,_,h2⟩|⟨l,fn,tmps,x,y,_,h2⟩
 exact⟨v,w',h2⟩
 obtain⟨e,w',fr,⟨v,_,hq⟩,_⟩:=h2.2 [] (jN.room (.inl rfl) _);exact⟨v,w',hq⟩
 obtain⟨e,w',⟨v,_,hq⟩,_⟩:=h2.2 default [] (jN.room (.inl rfl) _);exact⟨v,w',hq⟩
def mV{t:Tm}{m:V7}{o:Op}{r:Vs×V7}(h:dY k E t m o=some r):∀c,o≠.defer c:=by
 intro c e; subst e; simp[dY,cH] at h
def lz(hk:∀tk r,k tk=some r->cC E tk r){j:aJ}{m:V7}{w:Vw}{t:Tm}{n:Nat}{a:Act}(h:MR E j m w)(ht:TR n j t a.tmps){o:Oper}{v:Vs}{m':V7}(e:dY k E t m o.op=some (v,m')) :
  Does E.P (execOp a.eval o) w (fy E j m w v m'):=by
 have hplain:cH E t m o.op=some (v,m')->Does E.P (execOp a.eval o) w (fy E j m w v m'):=by
  intro e;obtain⟨j',w',v',h1,h2,h3⟩:=Iq h ht e;exact .inl ⟨v',w',h1,j',h2,h3⟩
 unfold dY at e
 split at e
 ·rename_i c hop
  split at e
  ·rename_i f hc
   split at e
   ·rename_i g first captured args hf hargs
    split at e
    ·rename_i v0 m0 hcall;cases e;obtain⟨v1,m1,hr,hsim⟩:=hk _ _ hcall;cases hr;have hfv:=aH h ht hf;generalize hfe:a.eval f=fv at hfv;cases hfv with
     | func h1 h2 h3 h4 =>
     rename_i ys ds;have hl:LR j (first.toList++args++captured.toList) (ys.toList++(c.args.toList.map a.eval)++ds.toList) :=
      ((LR.eV h1 h2).append (eG h ht hargs)).append (LR.eV h3 h4)
     have hcs:=hsim j w _ h hl;have harr:(ys.toList++(c.args.toList.map a.eval)++ds.toList).toArray=ys++c.args.map a.eval++ds:=by apply TY.1; simp
     rw[harr] at hcs;have hexec:execOp a.eval o=(do let d <-resolve a.eval c o.type; invoke d.target d.args):=by simp only[execOp,hop]
     have hrun:(execOp a.eval o).run E.P w=(callFunc g (ys++c.args.map a.eval++ds)).run E.P w:=by
      rw[hexec];simp only[resolve,hc,hfe,Deferred.ofValue,WG,WH,WE,invoke]
     rcases hcs with⟨hr,hci⟩|⟨_,v',w',hr,hq⟩
     exact .inr (.inl ⟨_,_,hrun.trans hr,hci⟩)
     exact .inl ⟨v',w',.inl (hrun.trans hr),hq⟩
    cases e
   ·rename_i l first cap args hf hargs
    split at e
    ·rename_i v0 m0 hcall;cases e;obtain⟨v1,m1,hr,hsim⟩:=hk _ _ hcall;cases hr;have hfv:=aH h ht hf;generalize hfe:a.eval f=fv at hfv;cases hfv with
     | yield hj h1 h2 =>
     rename_i kb ys ds;have hl:LR j (first.toList++args) (ys.toList++(c.args.toList.map a.eval)):=(LR.eV h1 h2).append (eG h ht hargs)
     obtain⟨fn,tmps,assign,body,hy,hro⟩:=hsim j w kb _ h hj hl;have harr:(ys.toList++(c.args.toList.map a.eval)).toArray=ys++c.args.map a.eval:=by apply TY.1; simp
     rw[harr] at hy;have hexec:execOp a.eval o=(do let d <-resolve a.eval c o.type; invoke d.target d.args):=by simp only[execOp,hop]
     have hrun:(execOp a.eval o).run E.P w=.ok (.round kb.c fn tmps assign body) w:=by
      rw[hexec];simp only[resolve,hc,hfe,Deferred.ofValue,WG,WH,WE,invoke,hy]
     exact .inr (.inr ⟨_,_,_,_,_,hrun,hro⟩)
    cases e
   cases e
  exact hplain e
 exact hplain e
def vD(hk:∀tk r,k tk=some r->cC E tk r){j:aJ}{m:V7}{w:Vw}{t:Tm}{n:Nat}{a:Act}(h:MR E j m w)(ht:TR n j t a.tmps){o:Oper}{v:Vs}{m':V7}(e:dY k E t m o.op=some (v,m'))
  {F:Fence} (hF:jN F) {next:Act->Vw->Prop} {Q:Exit->Act->Vw->Prop} (hn:∀v' w',fy E j m w v m' v' w'->next (a.put o.dst v') w'):o.wpIn F 0 E.P a w next Q :=
 (lz hk h ht e).wpIn hF (mV e) hn
def TR.put{n:Nat}{j:aJ}{t t':Tm}{a:Act}{dst:WA Tmp}{v v':Vs}(h:TR n j t a.tmps)(hv:VR j v v')(hp:gb n t dst v=some t'):TR n j t' (a.put dst v').tmps:=by
 unfold gb at hp
 split at hp
 rename_i d
 split at hp
 rename_i hlt;cases hp;have hlt':d<n:=by simpa using hlt
 refine⟨by simp[Act.put,h.1],fun i=>?_⟩
 simp only[Act.put,Tm.at,Trie.bX]
 by_cases hi:i=d
 subst hi;simp only[S7 rfl];have:i<a.tmps.size:=by rw[h.1]; exact hlt'
 simp[this,hv]
 simp only[S8 hi];have:=h.2 i;simp only[Tm.at] at this
 simpa [UC (Ne.symm hi)] using this
 cases hp
 cases hp; exact h
def jA {n:Nat} {j:aJ} {t:Tm} {a:Act} (h:TR n j t a.tmps) (ops:WD Oper) (o:Oper):Region.wanted o (yielded ops a.tmps)=aU ops o t:=by
 unfold Region.wanted aU;cases hgd:o.guard with
 | none=>rfl
 | some p =>
  obtain⟨g,want⟩:=p;simp only;have key:yielded ops a.tmps g=cP ops t g:=by
   unfold yielded cP;cases hd:(ops[g]?).bind (·.dst) with
   | none=>rfl
   | some d =>
    simp only[TF];have hv:=h.2 d;unfold Tm.at at hv;cases hg:t.get d with
    | none =>
     rw[hg] at hv;simp only[Option.getD_none] at hv;have:a.tmps[d]? = none\/a.tmps[d]? = some undef:=by
      cases ha:a.tmps[d]? with
      | none=>exact .inl rfl
      | some x =>
       right
       have:a.tmps.getD d undef=x:=by simp[ha]
       rw[this] at hv;have:x=undef:=ic (by rfl) hv
       rw[this]
     rcases this with e|e<;>rw[e]<;>rfl
    | some x =>
     rw[hg] at hv;simp only[Option.getD_some] at hv;cases ha:a.tmps[d]? with
     | none =>
      have:a.tmps.getD d undef=undef:=by simp[ha]
      rw[this] at hv;cases x<;>first|rfl|cases hv
     | some y =>
      have:a.tmps.getD d undef=y:=by simp[ha]
      rw[this] at hv;cases hv with
      | junk hj=>cases y<;>first|rfl |(simp[Az,aL] at hj)
      | _=>rfl
  rw[key];cases cP ops t g with
  | none=>rfl
  | some b=>simp
def j9(hk:∀tk r,k tk=some r->cC E tk r){ops:WD Oper}{n:Nat}{F:Fence}(hF:jN F){Q:Exit->Act->Vw->Prop}{m0:V7}{w0:Vw}{j0:aJ}(h0:MR E j0 m0 w0){tf:Tm}{mf:V7}
  (ds:WB Deferred) (hQ:∀j' w' a',Sim E j0 m0 w0 j' mf w'->TR n j' tf a'.tmps->a'.defers=ds->Q .normal a' w') :
  ∀(os:WB Oper) (i:Nat) (t:Tm) (m:V7) (j:aJ) (w:Vw) (a:Act),ops.toList.drop i=os->iu k E n ops os t m=some (tf,mf)->Sim E j0 m0 w0 j m w->TR n j t a.tmps->a.defers=ds ->
   wpOpsIn F 0 E.P ops Q (List.range' i (ops.size-i)) a w
 | [],i,t,m,j,w,a,hd,hr,s,ht,hds=>by
  cases hr;have hlen:ops.size<=i:=by
   have:=Up List.length hd;simp at this; omega
  rw[show ops.size-i=0 by omega]
  exact hQ j w a s ht hds
 | o::os,i,t,m,j,w,a,hd,hr,s,ht,hds=>by
  have hlt:i<ops.size:=by
   have:=Up List.length hd;simp at this; omega
  have ho:ops[i]? = some o:=by
   have:=Up (·[0]?) hd
   simpa [Um] using this
  have hd':ops.toList.drop (i+1)=os:=by
   rw[<-U0,hd]; rfl
  have hidx:List.range' i (ops.size-i)=i::List.range' (i+1) (ops.size-(i+1)):=by
   rw[show ops.size-i=(ops.size-(i+1))+1 by omega]; rfl
  rw[hidx];simp only[wpOpsIn,ho,jA ht];simp only[iu] at hr
  split at hr
  rename_i hw;rw[S7 hw]
  split at hr
  rename_i v m' he
  split at hr
  rename_i t' hp;refine vD hk s.mr ht he hF ?_;rintro v' w' ⟨j',s',hv⟩;exact j9 hk hF h0 ds hQ os (i+1) t' m' j' w' _ hd' hr (s.trans h0 s') ((ht.mono s'.le).put hv hp) (by cases hds':o.dst<;>simp[Act.put,hds])
  cases hr
  cases hr
  rename_i hw;rw[S8 hw]
  split at hr
  rename_i t' hp;exact⟨fun f _=>hF.fn f,j9 hk hF h0 ds hQ os (i+1) t' m j w _ hd' hr s (ht.put (VR.undef j) hp) (by cases hds':o.dst<;>simp[Act.put,hds])⟩
  cases hr
end
def xS(k:K)(E:Env)(n:Nat)(ops:WD Oper)(i:Nat)(t:Tm)(m:V7)(v:Vs)(t':Tm)(m':V7)(note:Note):Prop :=
 ∃o,ops[i]? = some o/\gb n t o.dst v=some t' /\
  ((aU ops o t=true/\∃r,dY k E t { m with wl:=m.next} o.op=some (v,r)/\m' ={ r with wl:=min m.wl r.wl}/\note ={ read:=aP E t o.op,wl:=r.wl,next:=m.next,wrote:=dU E t o.op,kept:=gQ m r}) \/
   (aU ops o t=false/\v=undef/\m'=m/\note ={ read:=none,wl:=m.next,next:=m.next,wrote:=none,kept:=fun _=>false}))
structure Tr(k:K)(E:Env)(n:Nat)(ops:WD Oper)(i L:Nat)(T:Nat->Tm)(M:Nat->V7)(V:Nat->Vs)(ns:WB Note):Prop where
 len:ns.length=L
 step:∀x,x<L->∃note,ns[x]? = some note/\xS k E n ops (i+x) (T x) (M x) (V x) (T (x+1)) (M (x+1)) note
def Jf{α:Type}(a:α)(f:Nat->α):Nat->α
 | 0=>a
 | x+1=>f x
def zU{k:K}{E:Env}{n:Nat}{ops:WD Oper}:∀(os:WB Oper) (i:Nat) (t:Tm) (m:V7) (tf:Tm) (mf:V7) (ns:WB Note),ops.toList.drop i=os->dC k E n ops os t m=some (tf,mf,ns) ->
  ∃T M V,Tr k E n ops i os.length T M V ns/\T 0=t/\M 0=m/\T os.length=tf/\M os.length=mf
 | [],i,t,m,tf,mf,ns,_,h=>by
  cases h;exact⟨fun _=>t,fun _=>m,fun _=>undef,⟨rfl,fun x hx=>Tl hx (Ve _)⟩,rfl,rfl,rfl,rfl⟩
 | o::os,i,t,m,tf,mf,ns,hd,h=>by
  have ho:ops[i]? = some o:=by
   have:=Up (·[0]?) hd
   simpa [Um] using this
  have hd':ops.toList.drop (i+1)=os:=by rw[<-U0,hd]; rfl
  have cons:∀(v:Vs) (t1:Tm) (m1:V7) (note:Note) (ns':WB Note),xS k E n ops i t m v t1 m1 note->dC k E n ops os t1 m1=some (tf,mf,ns')->ns=note::ns' ->
    ∃T M V,Tr k E n ops i (os.length+1) T M V ns/\T 0=t/\M 0=m/\T (os.length+1)=tf/\M (os.length+1)=mf:=by
   intro v t1 m1 note ns' hst hr hns;obtain⟨T,M,V,htr,h1,h2,h3,h4⟩:=zU os (i+1) t1 m1 tf mf ns' hd' hr;refine⟨Jf t T,Jf m M,Jf v V,⟨by rw[hns]; simp[htr.len],fun x hx=>?_⟩,rfl,rfl,h3,h4⟩
   cases x with
   | zero =>
    refine⟨note,by rw[hns]; rfl,?_⟩
    show xS k E n ops i t m v (T 0) (M 0) note
    rw[h1,h2]; exact hst
   | succ x =>
    obtain⟨nt,h5,h6⟩:=htr.step x (by omega)
    refine⟨nt,by rw[hns]; simpa using h5,?_⟩
    show xS k E n ops (i+(x+1)) (T x) (M x) (V x) (T (x+1)) (M (x+1)) nt
    rw[show i+(x+1)=i+1+x by omega]; exact h6
  simp only[dC] at h
  split at h
  rename_i hw
  split at h
  rename_i v r he
  split at h
  rename_i t1 hp
  split at h
  rename_i t' m'' ns' hr;cases h;exact cons v t1 _ _ ns' ⟨o,ho,hp,.inl ⟨hw,r,he,rfl,rfl⟩⟩ hr rfl
  cases h
  cases h
  cases h
  rename_i hw
  split at h
  rename_i t1 hp
  split at h
  rename_i t' m'' ns' hr;cases h;exact cons undef t1 m _ ns' ⟨o,ho,hp,.inr ⟨by simpa using hw,rfl,rfl,rfl⟩⟩ hr rfl
  cases h
  cases h
def Sim.QV{E:Env}{j j':aJ}{m r:V7}{w w':Vw}(s:Sim E j { m with wl:=m.next} w j' r w'):Sim E j m w j' { r with wl:=min m.wl r.wl} w' where
 ext:=⟨s.ext.next,Nat.min_le_left _ _,fun b hb hw=>s.ext.same b hb (SY hw (Nat.min_le_right _ _)),s.ext.dead⟩
 le:=s.le
 new:=s.new
 mr:=s.mr.uW
 size:=s.size
 full:=s.full
 away:=s.away
 fresh:=fun b k h h'=>(s.fresh b k h h').imp id fun⟨b0,k0,a1,a2,a3,a4⟩=>⟨b0,k0,a1,a2,a3,Tb (Nat.min_le_right _ _) a4⟩
 frame:=fun c hc H=>s.frame c hc fun b k hb hl he=>SY (H b k hb hl he) (Nat.min_le_right _ _)
 calm:=s.calm
def aJ.below(j:aJ)(x:Nat):aJ:=fun b=>if b<x then j b else none
def aJ.bz{j:aJ}{x b:Nat}{k:Blk}:j.below x b=some k↔b<x/\j b=some k:=by
 unfold aJ.below
 split
 rename_i h; simp[h]
 rename_i h; simp[h]
def VR.cut{j jc:aJ}{x:Nat}(hc:∀b k,jc b=some k->b<x):∀{v v':Vs},VR j v v'->∀{u:Vs},VR jc v u->VR (j.below x) v v':=by
 intro v v' h
 induction h with
 | junk h=>intro u _; exact .junk h
 | bool b=>intro u _; exact .bool b
 | int k n=>intro u _; exact .int k n
 | string s=>intro u _; exact .string s
 | pnil=>intro u _; exact .pnil
 | ptr h=>intro u hu; cases hu with
  | ptr h'=>exact .ptr (aJ.bz.2 ⟨hc _ _ h',h⟩)
 | snil l c=>intro u _; exact .snil l c
 | slice h hm=>intro u hu; cases hu with
  | slice h' _=>exact .slice (aJ.bz.2 ⟨hc _ _ h',h⟩) hm
  | sliceM h' _ _ _ _ _=>exact .slice (aJ.bz.2 ⟨hc _ _ h',h⟩) hm
 | sliceM h hm h1 h2 hl hcap=>intro u hu; cases hu with
  | slice h' _=>exact .sliceM (aJ.bz.2 ⟨hc _ _ h',h⟩) hm h1 h2 hl hcap
  | sliceM h' _ _ _ _ _=>exact .sliceM (aJ.bz.2 ⟨hc _ _ h',h⟩) hm h1 h2 hl hcap
 | gG=>intro u _; exact .gG
 | dry=>intro u _; exact .dry
 | mnil=>intro u _; exact .mnil
 | map h=>intro u hu; cases hu with
  | map h'=>exact .map (aJ.bz.2 ⟨hc _ _ h',h⟩)
 | func h1 _ h3 _ ih2 ih4=>intro u hu; cases hu with
  | func g1 g2 g3 g4=>exact .func h1 (fun i a b=>ih2 i a b (g2 i a (g1▸a))) h3 (fun i a b=>ih4 i a b (g4 i a (g3▸a)))
 | yield h h1 _ ih2=>intro u hu; cases hu with
  | yield g g1 g2=>exact .yield (aJ.bz.2 ⟨hc _ _ g,h⟩) h1 (fun i a b=>ih2 i a b (g2 i a (g1▸a)))
 | nilFunc=>intro u _; exact .nilFunc
 | nilIface=>intro u _; exact .nilIface
 | agg h1 _ ih=>intro u hu; cases hu with
  | agg g1 g2=>exact .agg h1 (fun i a b=>ih i a b (g2 i a (g1▸a)))
 | tuple h1 _ ih=>intro u hu; cases hu with
  | tuple g1 g2=>exact .tuple h1 (fun i a b=>ih i a b (g2 i a (g1▸a)))
def ER.cut{j jc:aJ}{x:Nat}(hc:∀b k,jc b=some k->b<x):∀{es:WB (Vs×Vs)} {fs gs:WB MapEntry},ER j es fs->ER jc es gs->ER (j.below x) es fs
 | [],[],_,_,_=>trivial
 | _::_,_::_,_::_,h,g=>⟨h.1.cut hc g.1,h.2.1.cut hc g.2.1,ER.cut hc h.2.2 g.2.2⟩
 | [],_::_,_,h,_=>h.elim
 | _::_,[],_,h,_=>h.elim
 | _::_,_::_,[],_,g=>g.elim
def OR.cut{j jc:aJ}{x:Nat}(hc:∀b k,jc b=some k->b<x){k k':Blk}{o:V9}{o1 o2:Obj}(h:OR j k o o1)(g:OR jc k' o o2):OR (j.below x) k o o1:=by
 cases o with
 | cells cs tag =>
  cases o1 with
  | cells c e fz =>
   cases o2 with
   | cells c2 e2 fz2 =>
    refine⟨h.1,fun i v hi=>?_⟩;obtain⟨v',a,b⟩:=h.2 i v hi;obtain⟨u,_,b2⟩:=g.2 i v hi;exact⟨v',a,b.cut hc b2⟩
   | _=>exact g.elim
  | _=>exact h.elim
 | map es =>
  cases o1 with
  | map c e =>
   cases o2 with
   | map c2 e2=>exact⟨ER.cut hc h.1 g.1,h.2⟩
   | _=>exact g.elim
  | _=>exact h.elim
 | loop r =>
  cases o1 with
  | loop r1 =>
   cases o2 with
   | loop r2 =>
    refine⟨h.1,h.2.1,h.2.2.1,h.2.2.2.1,h.2.2.2.2.1,h.2.2.2.2.2.1,fun i=>?_⟩;exact(h.2.2.2.2.2.2 i).cut hc (g.2.2.2.2.2.2 i)
   | _=>exact g.elim
  | _=>exact h.elim
def eZ{E:Env}{t t':Tm}:∀{xs:WB Vu},(∀x∈xs,an E t x=an E t' x)->bE E t xs=bE E t' xs
 | [],_=>rfl
 | x::xs,h=>by
  simp only[bE];rw[h x (by simp),eZ fun y hy=>h y (by simp[hy])]
def gO{E:Env}{t t':Tm}:∀{xs:WB (Nat×Vu)},(∀x∈xs,an E t x.2=an E t' x.2)->df E t xs=df E t' xs
 | [],_=>rfl
 |(i,x)::xs,h=>by
  simp only[df];rw[h (i,x) (by simp),gO fun y hy=>h y (by simp[hy])]
def kh{E:Env}{t t':Tm}{x:WA Vu}(h:∀y,x=some y->an E t y=an E t' y):di E t x=di E t' x:=by
 cases x with
 | none=>rfl
 | some y=>simp only[di,h y rfl]
def pL{E:Env}{t t':Tm}{m:V7}{o:Op}(h:∀x∈o.operands.toList,an E t x=an E t' x):cH E t m o=cH E t' m o:=by
 cases o<;>simp only[Op.operands] at h<;>simp only[cH]
 case build ty ps=>rw[gO fun x hx=>h x.2 (by simp; exact⟨x.1,by simpa using hx⟩)]
 case buildSlice ty n ps=>rw[gO fun x hx=>h x.2 (by simp; exact⟨x.1,by simpa using hx⟩)]
 case makeFunc fn first captured =>
  cases fn<;>simp only;rw[eZ (xs:=first.toList) fun x hx=>h x (by simp at hx ⊢; exact .inl hx),eZ (xs:=captured.toList) fun x hx=>h x (by simp at hx ⊢; exact .inr hx)]
 case makeMap ty r=>cases r<;>rfl
 case slice ty x lo hi mx =>
  rw[h x (by simp),kh (x:=lo) fun y hy=>h y (by simp[hy]),kh (x:=hi) fun y hy=>h y (by simp[hy]),kh (x:=mx) fun y hy=>h y (by simp[hy])]
 case call c =>
  cases hc:c.callee<;>simp only;rw[eZ (xs:=c.args.toList) fun x hx=>h x (by simp[Call.operands,hc]; simpa using hx)]
 all_goals first|rfl |(simp_all; done)
def zA{k:K}{E:Env}{t t':Tm}{m:V7}{o:Op}(h:∀x∈o.operands.toList,an E t x=an E t' x):dY k E t m o=dY k E t' m o:=by
 have hop:=pL (m:=m) h;unfold dY;cases o with
 | call c =>
  simp only;cases hc:c.callee with
  | value f =>
   simp only;rw[h f (by simp[Op.operands,Call.operands,hc]),eZ (xs:=c.args.toList) fun x hx=>h x (by simp[Op.operands,Call.operands,hc]; exact .inr (by simpa using hx))]
  | _=>exact hop
 | _=>exact hop
def qE(t:Tm):WB Tmp->Tm
 | []=>.nil
 | d::ds=>(qE t ds).set d (t.at d)
def lI(t:Tm):∀(S:WB Tmp) (d:Nat),(qE t S).at d=if d∈S then t.at d else undef
 | [],d=>by simp[qE,Tm.at,Trie.get_nil]
 | x::S,d=>by
  have ih:=lI t S d;simp only[Tm.at] at ih;simp only[qE,Tm.at,Trie.bX]
  by_cases h:d=x
  simp[h]
  simp only[Tt,h,false_or]; exact ih
def kS(tm:WD Vs)(S:WB Tmp):WD Vs:=(Array.range tm.size).map fun d=>if d∈S then tm.getD d undef else undef
def km(tm:WD Vs)(S:WB Tmp)(d:Nat):(kS tm S).getD d undef=if d∈S then tm.getD d undef else undef:=by
 unfold kS
 by_cases h:d<tm.size
 simp[h]
 have:tm.getD d undef=undef:=by simp[h]
 simp[h]
def iR:∀{l:WB Vu} {d:Tmp},d∈tmpsOf l↔Operand.tmp d∈l
 | [],d=>by simp[tmpsOf]
 | x::l,d=>by
  have ih:=iR (l:=l) (d:=d);cases x<;>simp[tmpsOf,ih]
def Ai{k:K}{E:Env}(hk:∀tk r,k tk=some r->cC E tk r){j:aJ}{m:V7}{w:Vw}{t:Tm}{a:Act}(h:MR E j m w){o:Oper}(ht:∀d∈tmpsOf o.op.operands.toList,VR j (t.at d) (a.tmps.getD d undef)){v:Vs}{m':V7}
  (e:dY k E t m o.op=some (v,m')):Does E.P (execOp a.eval o) w (fy E j m w v m'):=by
 have hT:TR (kS a.tmps (tmpsOf o.op.operands.toList)).size j (qE t (tmpsOf o.op.operands.toList)) ({ tmps:=kS a.tmps (tmpsOf o.op.operands.toList),defers:=a.defers}:Act).tmps:=by
  refine⟨rfl,fun d=>?_⟩
  show VR j _ ((kS a.tmps _).getD d undef)
  rw[lI,km]
  split
  rename_i hd; exact ht d hd
  exact VR.undef j
 have hev:∀x∈o.op.operands.toList,an E (qE t (tmpsOf o.op.operands.toList)) x=an E t x:=by
  intro x hx;cases x with
  | tmp d=>simp only[an,lI,S7 (iR.2 hx)]
  | _=>rfl
 have hd:=lz hk h hT (o:=o) (v:=v) (m':=m') ((zA hev).trans e);have hex:execOp ({ tmps:=kS a.tmps (tmpsOf o.op.operands.toList),defers:=a.defers}:Act).eval o=execOp a.eval o:=by
  refine execOp_congr o (fun cs b hs=>?_) fun x hx=>?_
  rw[hs] at e; simp[dY,cH] at e
  ·cases x with
   | tmp d =>
    show(kS a.tmps _).getD d undef=a.tmps.getD d undef
    rw[km,S7 (iR.2 (by simpa using hx))]
   | _=>rfl
 rw[hex] at hd;exact hd
end Go.Ab
