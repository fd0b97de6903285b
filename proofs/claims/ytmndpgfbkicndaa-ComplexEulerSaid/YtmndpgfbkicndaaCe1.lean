/- A part of the proof. -/
import Derived.RangeFuncRecord
import Derived.RangeFuncLeaves
import Derived.Laws.Cells
import Derived.Laws.Entries
import Derived.Laws.StructEq
import Derived.IntWalk
import Derived.OrdersIn
import Derived.LeavingIn
set_option linter.all false
universe u
abbrev YA:=@Option
abbrev YB:=@List
abbrev YC:=Unit
abbrev YD:=@Array
abbrev U3:=@if_neg
abbrev U4:=@List.getElem?_eq_getElem
abbrev U5:=@if_pos
abbrev U6:=@Decidable.byContradiction
abbrev U7:=@List.getD_eq_getElem?_getD
abbrev U8:=@Nat.le_refl
abbrev U9:=@Option.some.inj
abbrev Va:=@Bool.and_eq_true
abbrev Vb:=@List.mem_singleton
abbrev Vc:=@decide_eq_true
abbrev Vd:=@List.length_append
abbrev Ve:=@List.mem_cons_of_mem
abbrev Vf:=@List.length_map
abbrev Vg:=@List.getElem_mem
abbrev Vh:=@Array.getElem?_eq_some_iff
abbrev Vi:=@List.mem_map
abbrev Vj:=@decide_eq_false
abbrev Vl:=@List.mem_append_left
abbrev Vm:=@decide_eq_true_eq
abbrev Vn:=@List.getElem?_eq_some_iff
abbrev Vo:=@List.all_eq_true
abbrev Vp:=@List.mem_cons_self
abbrev Vq:=@List.mem_append
abbrev Vr:=@absurd
abbrev Vs:=@congrArg
abbrev Vt:=@Nat.lt_of_lt_of_le
abbrev Vu:=@List.mem_cons
abbrev Vv:=@List.mem_append_right
abbrev Vw:=@List.length_take
abbrev Vx:=@Option.map_some
abbrev Vy:=@List.mem_range
abbrev Vz:=@List.mem_iff_getElem
abbrev VA:=@List.pairwise_cons
abbrev VB:=@List.getElem?_cons_zero
abbrev VC:=@Nat.zero_add
abbrev VD:=@List.mem_of_getElem?
abbrev VE:=@Option.bind_some
abbrev VF:=@List.length_cons
abbrev VG:=@Bool.false_eq_true
abbrev VH:=@Int.toNat_natCast
abbrev VI:=@List.mem_flatMap
abbrev VJ:=@List.length_eq_zero_iff
abbrev VK:=@Nat.le_trans
abbrev VL:=@List.getElem?_toArray
abbrev VM:=@Nat.mod_lt
abbrev VN:=@Prod.ext
abbrev VO:=@List.getElem?_append_right
abbrev VP:=@Int.mul_nonneg
abbrev VQ:=@List.getElem?_map
abbrev VS:=@Bool.false_ne_true
abbrev VT:=@List.append_assoc
abbrev VU:=@List.getElem?_append_left
abbrev VV:=@List.getElem?_cons_succ
abbrev VW:=@Bool.not_false
abbrev VX:=@List.append_nil
abbrev VY:=@List.flatMap_cons
abbrev VZ:=@List.length_drop
abbrev V0:=@List.flatten_cons
abbrev V1:=@Nat.mul_le_mul_right
abbrev V2:=@Nat.succ_mul
abbrev V3:=@Nat.lt_or_ge
abbrev V4:=@Bool.not_true
abbrev V5:=@Bool.decide_and
abbrev V6:=@List.map_cons
abbrev V7:=@Nat.le_of_ble_eq_true
abbrev V8:=@List.getElem?_eq_none
abbrev V9:=@Nat.zero_le
abbrev Wa:=@Bool.not_eq_true'
abbrev Wb:=@Int.mul_nonneg_of_nonpos_of_nonpos
abbrev Wc:=@List.nil_append
abbrev Wd:=@List.pairwise_append
abbrev We:=@Int.mul_le_mul_of_nonneg_left
abbrev Wf:=@Nat.add_zero
abbrev Wg:=@List.ext_getElem?
abbrev Wh:=@Nat.eq_of_beq_eq_true
abbrev Wi:=@Classical.choose_spec
abbrev Wj:=@List.getElem?_take
abbrev Wl:=@List.getElem?_drop
abbrev Wp:=@Int.mul_eq_zero
abbrev Wq:=@Int.mul_pos
abbrev Wr:=@Nat.mul_le_mul
abbrev Ws:=@Int.toNat_of_nonneg
abbrev Wt:=@Int.mul_le_mul_of_nonneg_right
abbrev Wu:=@Rat.intCast_mul
abbrev Wv:=@Bool.or_eq_true
abbrev Ww:=@List.nodup_cons
abbrev Wx:=@Array.toList_inj
abbrev Wy:=@Bool.and_self
abbrev Wz:=@List.flatten_append
abbrev WA:=@Nat.mod_eq_of_lt
abbrev WB:=@List.head_eq_of_cons_eq
abbrev WC:=@List.mem_of_mem_take
abbrev WD:=@List.mem_of_mem_drop
abbrev WE:=@Array.getElem?_eq_getElem
abbrev WG:=@List.take_of_length_le
abbrev WH:=@Bool.true_and
abbrev WI:=@Array.getElem?_setIfInBounds_ne
abbrev WJ:=@List.length_nil
abbrev WK:=@Nat.sub_zero
abbrev WL:=@List.getElem!_eq_getElem?_getD
abbrev WM:=@Int.mul_neg_of_pos_of_neg
abbrev WN:=@Array.length_toList
abbrev WO:=@Array.getElem?_push
abbrev WQ:=@List.length_range
abbrev WR:=@List.eq_nil_of_length_eq_zero
abbrev WS:=@List.range_succ
abbrev WT:=@Int.mul_zero
abbrev WU:=@Int.le_of_lt
abbrev WV:=@Array.getElem?_setIfInBounds
abbrev WW:=@Nat.add_mul
abbrev WX:=@List.not_mem_nil
abbrev WY:=@List.cons_append
abbrev WZ:=@Int.eq_ofNat_of_zero_le
abbrev W0:=@List.all_cons
abbrev W1:=@Option.map_eq_some_iff
abbrev W2:=@List.size_toArray
abbrev W3:=@List.drop_zero
abbrev W4:=@Int.lt_trichotomy
abbrev W5:=@List.map_eq_nil_iff
abbrev W6:=@List.map_append
abbrev W7:=@List.length_set
abbrev W8:=@List.pairwise_iff_getElem
abbrev W9:=@List.drop_eq_getElem_cons
abbrev Xa:=@Int.mul_pos_of_neg_of_neg
abbrev Xb:=@Nat.lt_succ_self
abbrev Xd:=@List.getElem_map
abbrev Xe:=@Int.nonneg_of_mul_nonneg_right
abbrev Xf:=@Array.eq_empty_of_size_eq_zero
abbrev Xg:=@Nat.zero_mul
abbrev Xh:=@List.map_map
abbrev Xi:=@List.getElem?_append
abbrev Xj:=@List.drop_drop
abbrev Xk:=@Nat.lt_trichotomy
abbrev Xl:=@List.take_add_one
abbrev Xm:=@Rat.intCast_add
abbrev Xn:=@Nat.blt_eq
abbrev Xo:=@List.mergeSort_perm
abbrev Xp:=@List.length_pos_iff
abbrev Xq:=@Nat.ne_of_beq_eq_false
abbrev Xr:=@Nat.le_of_eq
abbrev Xs:=@Bool.true_or
abbrev Xt:=@Bool.or_true
abbrev Xu:=@Int.mul_add
abbrev Xv:=@Rat.mul_inv_cancel
abbrev Xw:=@Array.ext_getElem?
abbrev Xx:=@Option.any_some
abbrev Xy:=@Array.replicate
abbrev Xz:=@Nat.sub_self
abbrev XA:=@Int.mul_sub
abbrev XB:=YB (YB Int×YB (YB Int))
abbrev XC:=Int×Int×Int×Int
abbrev XD:=YB (Int×Int)
abbrev XE:=YB (YB Int)
abbrev XH:=Nat->Prop
def XP{c:Prop}{h0:Decidable c}{α:Sort u}{t e:α}(h:¬c:=by omega):ite c t e=e:=if_neg h
def XQ{c:Prop}{h0:Decidable c}{α:Sort u}{t e:α}(h:c:=by omega):ite c t e=t:=if_pos h
section
open Go
abbrev YE:=@Result.andThen_ok
abbrev YF:=@Sem.run_bind
abbrev YG:=@Sem.run_pure
abbrev YH:=@run_underlying
abbrev YI:=FuncId
abbrev XF:=YB (YB Value)
abbrev XG:=YA Addr
abbrev XI:=Value
abbrev XJ:=TypeId
abbrev XK:=Operand
abbrev XL:=Program
abbrev XM:=World
abbrev XN:=IntKind.wrap .i64
abbrev XO:Nat:=(0:Int).toNat
end
namespace Go.Ab
open Go
structure F8(α:Type) where
 a:α
 b:α
 c:α
 d:α
 e:α
 f:α
 g:α
 h:α
def F8.all{α:Type}(x:α):F8 α:=⟨x,x,x,x,x,x,x,x⟩
def F8.KL{α:Type}(x:F8 α)(i:Nat):α :=
 match i with
 | 0=>x.a
 | 1=>x.b
 | 2=>x.c
 | 3=>x.d
 | 4=>x.e
 | 5=>x.f
 | 6=>x.g
 | _=>x.h
def F8.put{α:Type}(x:F8 α)(i:Nat)(v:α):F8 α :=
 match i with
 | 0=>{ x with a:=v}
 | 1=>{ x with b:=v}
 | 2=>{ x with c:=v}
 | 3=>{ x with d:=v}
 | 4=>{ x with e:=v}
 | 5=>{ x with f:=v}
 | 6=>{ x with g:=v}
 | _=>{ x with h:=v}
def F8.EB{α:Type}(x:F8 α)(i j:Nat)(v:α)(hi:i<8)(hj:j<8):(x.put i v).KL j=if j=i then v else x.KL j:=by
 have h1:i=0\/i=1\/i=2\/i=3\/i=4\/i=5\/i=6\/i=7:=by omega
 have h2:j=0\/j=1\/j=2\/j=3\/j=4\/j=5\/j=6\/j=7:=by omega
 rcases h1 with rfl|rfl|rfl|rfl|rfl|rfl|rfl|rfl<;>rcases h2 with rfl|rfl|rfl|rfl|rfl|rfl|rfl|rfl<;>rfl
def F8.tV{α:Type}(x:α)(i:Nat):(F8.all x).KL i=x:=by
 unfold F8.KL F8.all; split<;>rfl
def F8.getM{M β:Type}(sz:Nat)(g:M->Nat->β)(x:F8 M)(i:Nat):β:=g (x.KL (i/sz)) (i%sz)
def F8.FN{M β:Type}(sz:Nat)(s:M->Nat->β->M)(x:F8 M)(i:Nat)(v:β):F8 M:=x.put (i/sz) (s (x.KL (i/sz)) (i%sz) v)
def F8.oZ{M β:Type}{sz:Nat}{g:M->Nat->β}{s:M->Nat->β->M}(hsz:0<sz)(hl:∀m i j v,i<sz->j<sz->g (s m i v) j=if j=i then v else g m j)(x:F8 M)(i j:Nat)(v:β)(hi:i<8*sz)(hj:j<8*sz) :
  F8.getM sz g (F8.FN sz s x i v) j=if j=i then v else F8.getM sz g x j:=by
 have h1:i/sz<8:=(Nat.div_lt_iff_lt_mul hsz).2 hi;have h2:j/sz<8:=(Nat.div_lt_iff_lt_mul hsz).2 hj;unfold F8.getM F8.FN;rw[F8.EB _ _ _ _ h1 h2];have e1:=Nat.div_add_mod i sz;have e2:=Nat.div_add_mod j sz
 by_cases h:j/sz=i/sz
 rw[U5 h,hl _ _ _ _ (VM _ hsz) (VM _ hsz)]
 by_cases h':j%sz=i%sz
 have:j=i:=by rw[<-e1,<-e2,h,h']
 rw[U5 h',U5 this]
 have:j≠i:=fun e=>h' (by rw[e])
 rw[U3 h',U3 this,h]
 have:j≠i:=fun e=>h (by rw[e])
 rw[U3 h,U3 this]
abbrev Fo(α:Type):=F8 (F8 α)
abbrev Dy(α:Type):=F8 (Fo α)
abbrev xf(α:Type):=F8 (Dy α)
abbrev rD(α:Type):=F8 (xf α)
def BU{α:Type}:Fo α->Nat->α:=F8.getM 8 F8.KL
def rC{α:Type}:Dy α->Nat->α:=F8.getM 64 BU
def qQ{α:Type}:xf α->Nat->α:=F8.getM 512 rC
def oi{α:Type}:rD α->Nat->α:=F8.getM 4096 qQ
def NS{α:Type}:Fo α->Nat->α->Fo α:=F8.FN 8 F8.put
def Ct{α:Type}:Dy α->Nat->α->Dy α:=F8.FN 64 NS
def ET{α:Type}:xf α->Nat->α->xf α:=F8.FN 512 Ct
def Ay{α:Type}:rD α->Nat->α->rD α:=F8.FN 4096 ET
def FL{α:Type}(x:Fo α)(i j:Nat)(v:α)(hi:i<64)(hj:j<64):BU (NS x i v) j=if j=i then v else BU x j :=
 F8.oZ (by omega) (fun m i j v hi hj=>F8.EB m i j v hi hj) x i j v (by omega) (by omega)
def uP{α:Type}(x:Dy α)(i j:Nat)(v:α)(hi:i<512)(hj:j<512):rC (Ct x i v) j=if j=i then v else rC x j :=
 F8.oZ (by omega) (fun m i j v hi hj=>FL m i j v hi hj) x i j v (by omega) (by omega)
def BH{α:Type}(x:xf α)(i j:Nat)(v:α)(hi:i<4096)(hj:j<4096):qQ (ET x i v) j=if j=i then v else qQ x j :=
 F8.oZ (by omega) (fun m i j v hi hj=>uP m i j v hi hj) x i j v (by omega) (by omega)
def yZ{α:Type}(x:rD α)(i j:Nat)(v:α)(hi:i<32768)(hj:j<32768):oi (Ay x i v) j=if j=i then v else oi x j :=
 F8.oZ (by omega) (fun m i j v hi hj=>BH m i j v hi hj) x i j v (by omega) (by omega)
def JR{α:Type}(x:α):Fo α:=F8.all (F8.all x)
def zR{α:Type}(x:α):Dy α:=F8.all (JR x)
def zD{α:Type}(x:α):xf α:=F8.all (zR x)
def uw{α:Type}(x:α):rD α:=F8.all (zD x)
def Fv{α:Type}(x:α)(i:Nat):BU (JR x) i=x:=by simp[BU,JR,F8.getM,F8.tV]
def uJ{α:Type}(x:α)(i:Nat):rC (zR x) i=x:=by simp[rC,zR,F8.getM,F8.tV,Fv]
def BX{α:Type}(x:α)(i:Nat):qQ (zD x) i=x:=by simp[qQ,zD,F8.getM,F8.tV,uJ]
def yD{α:Type}(x:α)(i:Nat):oi (uw x) i=x:=by simp[oi,uw,F8.getM,F8.tV,BX]
def HX{α:Type}:YB (Nat×α)->Nat->YA α
 | [],_=>none
 |(i,v)::l,j=>if j=i then some v else HX l j
structure Trie(α:Type) where
 lo:Dy (YA α)
 hi:YB (Nat×α)
def Trie.nil{α:Type}:Trie α:=⟨zR none,[]⟩
def Trie.get{α:Type}(t:Trie α)(n:Nat):YA α:=if n<512 then rC t.lo n else HX t.hi n
def Trie.set{α:Type}(t:Trie α)(n:Nat)(v:α):Trie α:=if n<512 then{ t with lo:=Ct t.lo n (some v)} else{ t with hi:=(n,v)::t.hi}
def Trie.get_nil{α:Type}(n:Nat):(Trie.nil:Trie α).get n=none:=by
 unfold Trie.get Trie.nil
 split
 exact uJ _ _
 rfl
def Trie.bz{α:Type}(t:Trie α)(n m:Nat)(v:α):(t.set n v).get m=if m=n then some v else t.get m:=by
 unfold Trie.set Trie.get
 by_cases h1:n<512<;>by_cases h2:m<512<;>simp only[h1,h2,if_true,if_false]
 rw[uP _ _ _ _ h1 h2]
 rw[XP]
 rw[XP]
 rfl
structure Heap(α:Type) where
 lo:rD (YA α)
 hi:YB (Nat×α)
def Heap.nil{α:Type}:Heap α:=⟨uw none,[]⟩
def Heap.get{α:Type}(t:Heap α)(n:Nat):YA α:=if n<32768 then oi t.lo n else HX t.hi n
def Heap.set{α:Type}(t:Heap α)(n:Nat)(v:α):Heap α:=if n<32768 then{ t with lo:=Ay t.lo n (some v)} else{ t with hi:=(n,v)::t.hi}
def Heap.get_nil{α:Type}(n:Nat):(Heap.nil:Heap α).get n=none:=by
 unfold Heap.get Heap.nil
 split
 exact yD _ _
 rfl
def Heap.bz{α:Type}(t:Heap α)(n m:Nat)(v:α):(t.set n v).get m=if m=n then some v else t.get m:=by
 unfold Heap.set Heap.get
 by_cases h1:n<32768<;>by_cases h2:m<32768<;>simp only[h1,h2,if_true,if_false]
 rw[yZ _ _ _ _ h1 h2]
 rw[XP]
 rw[XP]
 rfl
def Trie.ofList{α:Type}:YB α->Nat->Trie α->Trie α
 | [],_,t=>t
 | v::vs,i,t=>Trie.ofList vs (i+1) (t.set i v)
abbrev Tm:=Trie XI
def Tm.at(t:Tm)(i:Nat):XI:=(Trie.get t i).getD undef
inductive Tag where
 | ro
 | own
 | more (sz:Nat)
 deriving DecidableEq
structure ALoop where
 state:LoopState
 pending:YA Code
 fn:YI
 tmps:Tm
 n:Nat
 params:YD Tmp
 assign:Code
 body:Code
inductive Ys where
 | cells (cs:YB XI) (tag:Tag)
 | map (es:YB (XI×XI))
 | loop (r:ALoop)
structure Yq where
 next:Nat
 wl:Nat
 objs:Heap (YA Ys)
 base:Nat->YA Ys
def Yq.get(m:Yq)(b:Nat):YA Ys :=
 match m.objs.get b with
 | some x=>x
 | none=>m.base b
def Yq.set(m:Yq)(b:Nat)(o:Ys):Yq:={ m with objs:=m.objs.set b (some o),wl:=min m.wl b}
def Yq.kill(m:Yq)(b:Nat):Yq:={ m with objs:=m.objs.set b none,wl:=min m.wl b}
def Yq.alloc(m:Yq)(o:Ys):Yq:={ m with next:=m.next+1,objs:=m.objs.set m.next (some o)}
def ptr(b:Nat)(o:Nat):XI:=.pointer (some ⟨b,o,none⟩)
def Yq.cells(m:Yq)(b:Nat):YA (YB XI×Tag) :=
 match m.get b with
 | some (.cells cs tag)=>some (cs,tag)
 | _=>none
def Yq.ek(m:Yq)(b o n:Nat):YA (YB XI) :=
 match m.get b with
 | some (.cells cs _)=>let l:=(cs.drop o).take n; if l.length=n then some l else none
 | _=>none
def aB:YB XI->Nat->YB XI->YB XI
 | cs,0,[]=>cs
 | [],0,_=>[]
 | _::cs,0,v::vs=>v::aB cs 0 vs
 | [],_+1,_=>[]
 | c::cs,o+1,vs=>c::aB cs o vs
def Yq.cU(m:Yq)(b o:Nat)(vs:YB XI):YA Yq :=
 match vs with
 | []=>some m
 | _=>match m.get b with
  | some (.cells _ .ro)=>none
  | some (.cells cs tag)=>if o+vs.length<=cs.length then some (m.set b (.cells (aB cs o vs) tag)) else none
  | _=>none
def mh:XI->Bool
 | .agg _|.tuple _=>false
 | _=>true
def aZ(vs:YB XI):Bool:=vs.all mh
structure Prim where
 run:YB XI->Yq->YA (XI×Yq)
structure Env where
 P:XL
 glob:Nat
 cZ:YI->YA Prim
 mono:Prop:=True
def aP:XI->Bool
 | .bool _|.int _ _|.string _|.pointer none|.slice none _ _|.map none|.nilFunc|.nilIface=>true
 | _=>false
def bH:XI->Bool
 | .agg cs=>cs.toList.all aP
 | .tuple cs=>cs.toList.all aP
 | v=>aP v
def an(E:Env)(t:Tm):XK->YA XI
 | .tmp i=>some (t.at i)
 | .const v=>if bH v then some v else none
 | .global g=>if g<E.glob then some (ptr g 0) else none
 | .func f=>some (.func (.func f) #[] #[])
def bC(E:Env)(t:Tm):YB XK->YA (YB XI)
 | []=>some []
 | x::xs=>match an E t x,bC E t xs with
  | some v,some vs=>some (v::vs)
  | _,_=>none
def eh(P:XL)(t:XJ):Bool :=
 match P.underlying t with
 | some (.struct _)|some (.array _ _)=>true
 | _=>false
def known(P:XL)(t:XJ):Bool:=(P.underlying t).isSome &&(P.info? t).isSome
def aE(P:XL)(t:XJ):Nat:=P.cellsOf t
def bp(P:XL)(t:XJ):YA XI:=(P.info? t).bind (·.zero)
def dA(P:XL)(t:XJ)(cs:YD XI)(off:Nat):YA XI :=
 if !known P t then none else
 if eh P t then some (.agg (cs.extract off (off+aE P t)))
 else cs[off]?
def iL(eq:XJ->XI->XI->YA Bool)(P:XL)(xs ys:YD XI):YB (XJ×Nat)->YA Bool
 | []=>some true
 | (t,off)::rest =>
  match dA P t xs off,dA P t ys off with
  | some x,some y=>match eq t x y with
   | some true=>iL eq P xs ys rest
   | r=>r
  | _,_=>none
def k8(P:XL):Nat->XJ->XI->XI->YA Bool
 | 0,_,_,_=>none
 | d+1,t,x,y =>
  match P.underlying t,x,y with
  | some .bool,.bool a,.bool b=>some (a==b)
  | some (.int _),.int k a,.int k' b=>if k=k' then some (a==b) else none
  | some .string,.string a,.string b=>some (a==b)
  | some (.pointer _),.pointer none,.pointer b=>some b.isNone
  | some (.pointer _),.pointer (some _),.pointer none=>some false
  | some (.slice _),.slice none _ _,.slice b _ _=>some b.isNone
  | some (.slice _),.slice (some _) _ _,.slice none _ _=>some false
  | some (.map _ _),.map none,.map b=>some b.isNone
  | some (.map _ _),.map (some _),.map none=>some false
  | some (.func _ _ _),.nilFunc,.nilFunc=>some true
  | some (.func _ _ _),.nilFunc,.func _ _ _=>some false
  | some (.func _ _ _),.func _ _ _,.nilFunc=>some false
  | some (.struct fs),.agg xs,.agg ys =>
   if P.stoodInHeld t || fs.any (·.name == "_") then none else
   iL (k8 P d) P xs ys (fs.toList.map fun f=>(f.type,f.offset))
  | some (.array len elem),.agg xs,.agg ys=>if known P elem then iL (k8 P d) P xs ys ((List.range len).map fun i=>(elem,i*aE P elem)) else none
  | _,_,_=>none
def bW(op:BinOp)(xType:XJ)(P:XL)(x y:XI):YA XI :=
 match op,x,y with
 | .shl,.int k a,.int _ b=>if b<0 then none else some (.int k (k.wrap (a*2 ^ (min b.toNat k.bits))))
 | .shr,.int k a,.int _ b=>if b<0 then none else some (.int k (a.fdiv (2 ^ (min b.toNat k.bits))))
 | .eql,.int k a,.int k' b=>if k=k' then some (.bool (a==b)) else none
 | .neq,.int k a,.int k' b=>if k=k' then some (.bool (a != b)) else none
 | .lss,.int k a,.int k' b=>if k=k' then some (.bool (decide (a<b))) else none
 | .leq,.int k a,.int k' b=>if k=k' then some (.bool (decide (a<=b))) else none
 | .gtr,.int k a,.int k' b=>if k=k' then some (.bool (decide (a>b))) else none
 | .geq,.int k a,.int k' b=>if k=k' then some (.bool (decide (a≥b))) else none
 | .add,.int k a,.int k' b=>if k=k' then some (.int k (k.wrap (a+b))) else none
 | .sub,.int k a,.int k' b=>if k=k' then some (.int k (k.wrap (a-b))) else none
 | .mul,.int k a,.int k' b=>if k=k' then some (.int k (k.wrap (a*b))) else none
 | .quo,.int k a,.int k' b=>if k=k' then(if b=0 then none else some (.int k (k.wrap (a.tdiv b)))) else none
 | .rem,.int k a,.int k' b=>if k=k' then(if b=0 then none else some (.int k (a.tmod b))) else none
 | .and,.int k a,.int k' b=>if k=k' then some (.int k (k.wrap (BitVec.ofInt k.bits a &&& BitVec.ofInt k.bits b).toNat)) else none
 | .or,.int k a,.int k' b=>if k=k' then some (.int k (k.wrap (BitVec.ofInt k.bits a ||| BitVec.ofInt k.bits b).toNat)) else none
 | .xor,.int k a,.int k' b=>if k=k' then some (.int k (k.wrap (BitVec.ofInt k.bits a ^^^ BitVec.ofInt k.bits b).toNat)) else none
 | .andNot,.int k a,.int k' b=>if k=k' then some (.int k (k.wrap (BitVec.ofInt k.bits a &&& ~~~ BitVec.ofInt k.bits b).toNat)) else none
 | .eql,.string a,.string b=>some (.bool (a==b))
 | .neq,.string a,.string b=>some (.bool (a != b))
 | _,.string _,_=>none
 | .eql,.agg xs,.agg ys=>if P.eqGuardType P.depth xType then none else(k8 P Op.maxDepth xType (.agg xs) (.agg ys)).map .bool
 | .neq,.agg xs,.agg ys=>if P.eqGuardType P.depth xType then none else(k8 P Op.maxDepth xType (.agg xs) (.agg ys)).map fun b=>.bool (!b)
 | .eql,x,y=>match x with
  | .bool _|.pointer _|.slice _ _ _|.map _|.func _ _ _|.nilFunc=>(k8 P Op.maxDepth xType x y).map .bool
  | _=>none
 | .neq,x,y=>match x with
  | .bool _|.pointer _|.slice _ _ _|.map _|.func _ _ _|.nilFunc=>(k8 P Op.maxDepth xType x y).map fun b=>.bool (!b)
  | _=>none
 | _,_,_=>none
def Gq(op:UnOp)(x:XI):YA XI :=
 match op,x with
 | .neg,.int k n=>some (.int k (k.wrap (0-n)))
 | .xor,.int k n=>some (.int k (k.wrap (BitVec.ofInt k.bits (if k.signed then -1 else k.max) ^^^ BitVec.ofInt k.bits n).toNat))
 | .not,.bool b=>some (.bool !b)
 | _,_=>none
def lj(P:XL)(src dst:XJ)(x:XI):YA XI :=
 match P.underlying src,P.underlying dst,x with
 | some _,some (.int k),.int _ n=>some (.int k (k.wrap n))
 | some _,some .string,.string s=>some (.string s)
 | _,_,_=>none
def jZ(place:Nat->YA (Nat×Nat))(cells:YB XI):YB (Nat×XI)->YA (YB XI)
 | []=>some cells
 | (i,v)::rest =>
  match place i with
  | none=>none
  | some (off,size) =>
   if v.cells.size≠size||off+v.cells.size>cells.length then none
   else jZ place (aB cells off v.cells.toList) rest
def eT(E:Env)(t:Tm):YB (Nat×XK)->YA (YB (Nat×XI))
 | []=>some []
 |(i,x)::xs=>match an E t x,eT E t xs with
  | some v,some vs=>some ((i,v)::vs)
  | _,_=>none
def nw(P:XL)(t:XJ)(parts:YB (Nat×XI)):YA XI :=
 match bp P t,P.underlying t with
 | some z,some (.struct fields) =>
  if fields.toList.all (fun f=>known P f.type) then
   (jZ (fun i=>(fields[i]?).map fun f=>(f.offset,aE P f.type)) z.cells.toList parts).map fun cs=>.agg cs.toArray
  else none
 | some z,some (.array _ elem) =>
  if known P elem then(jZ (fun i=>some (i*aE P elem,aE P elem)) z.cells.toList parts).map fun cs=>.agg cs.toArray else none
 | _,_=>none
def bl(zero:YB XI):Nat->YB XI
 | 0=>[]
 | n+1=>zero++bl zero n
def gq(P:XL)(elem:XJ)(n:Nat):YA (YB XI) :=
 match bp P elem with
 | some z=>if z.cells.size=aE P elem then some (bl z.cells.toList n) else none
 | none=>none
def kg(x:XI)(y:Nat):YA Nat :=
 match x with
 | .int _ i=>if 0<=i/\i<=y then some i.toNat else none
 | _=>none
def bT(len cap:Nat)(low high max:YA XI):YA (Nat×Nat×Nat) :=
 match(match max with|some v=>kg v cap|none=>some cap) with
 | none=>none
 | some m =>
  match(match high,max with|some v,_=>kg v m|none,none=>some len|none,some _=>none) with
  | none=>none
  | some h =>
   match(match low with|some v=>kg v h|none=>some 0) with
   | none=>none
   | some l=>some (l,h,m)
def gV(b:Nat):XI:=.slice (some ⟨b,0,some 0⟩) 0 0
def dY(E:Env)(t:Tm):YA XK->YA (YA XI)
 | none=>some none
 | some x=>(an E t x).map some
def cd(P:XL)(xType:XJ)(x:XI)(low high max:YA XI)(m:Yq):YA XI :=
 match P.underlying xType,x with
 | some (.slice elem),.slice none len cap =>
  if known P elem then
   match bT len cap low high max with
   | some (l,h,mx)=>some (.slice none (h-l) (mx-l))
   | none=>none
  else none
 | some (.slice elem),.slice (some ⟨b,o,none⟩) len cap =>
  if known P elem then
   match m.get b with
   | some (.cells _ (.more sz)) =>
    if sz≠aE P elem then none else
    match max with
    | none=>match bT len cap low high none with
     | some (l,h,_)=>if cap=l then some (gV b) else some (.slice (some ⟨b,o+l*aE P elem,none⟩) (h-l) (cap-l))
     | none=>none
    | some mv =>
     match bT len cap low high (some mv) with
     | some (l,h,mx)=>if mx=l/\h=l then some (.slice (some ⟨b,0,some 1⟩) 0 0) else some (.complex .f64 0 0)
     | none=>none
   | some (.cells _ _) =>
    match bT len cap low high max with
    | some (l,h,mx)=>some (.slice (some (if mx=l then⟨b,o,none⟩ else⟨b,o+l*aE P elem,none⟩)) (h-l) (mx-l))
    | none=>none
   | _=>none
  else none
 | some (.slice elem),.slice (some ⟨b,_,some sp⟩) 0 0 =>
  if known P elem then
   match bT 0 0 low high max with
   | some _=>some (.slice (some ⟨b,0,some sp⟩) 0 0)
   | none=>none
  else none
 | some (.array n elem),.pointer (some ⟨b,o,none⟩) =>
  if known P elem then
   match m.get b with
   | some (.cells _ (.more _))=>none
   | some (.cells _ _) =>
    match bT n n low high max with
    | some (l,h,mx)=>some (.slice (some (if mx=l then⟨b,o,none⟩ else⟨b,o+l*aE P elem,none⟩)) (h-l) (mx-l))
    | none=>none
   | _=>none
  else none
 | _,_=>none
def aG(P:XL)(s:XJ)(x:XI)(f:Nat):YA XI :=
 match P.underlying s,x with
 | some (.struct fields),.pointer (some ⟨b,o,none⟩) =>
  match fields[f]? with
  | some fl=>if known P fl.type&&aE P fl.type != 0 then some (ptr b (o+fl.offset)) else none
  | none=>none
 | _,_=>none
def cq(P:XL)(t:XJ)(x index:XI):YA XI :=
 match P.underlying t,x,index with
 | some (.array len elem),.pointer (some ⟨b,o,none⟩),.int _ i =>
  if known P elem&&decide (0<=i/\i<len) then some (ptr b (o+i.toNat*aE P elem)) else none
 | some (.slice elem),.slice (some ⟨b,o,none⟩) len _,.int _ i =>
  if known P elem&&decide (0<=i/\i<len) then some (ptr b (o+i.toNat*aE P elem)) else none
 | _,_,_=>none
def Ea(P:XL)(t:XJ)(x:XI):YA XI :=
 match P.underlying t,x with
 | some (.array n _),.slice (some ⟨b,o,none⟩) len _=>if n<=len then some (ptr b o) else none
 | _,_=>none
def iB(P:XL)(t:XJ)(x index:XI):YA XI :=
 match P.underlying t,x,index with
 | some (.array len elem),.agg cs,.int _ i=>if 0<=i/\i<len then dA P elem cs (i.toNat*aE P elem) else none
 | some .string,.string s,.int _ i=>if 0<=i then(s[i.toNat]?).map fun b=>.int .u8 b.toNat else none
 | _,_,_=>none
def ji(P:XL)(t:XJ)(x:XI)(f:Nat):YA XI :=
 match P.underlying t,x with
 | some (.struct fields),.agg cs =>
  match fields[f]? with
  | some fl=>dA P fl.type cs fl.offset
  | none=>none
 | _,_=>none
def eB(P:XL)(t:XJ)(a:XI)(m:Yq):YA XI :=
 match a with
 | .pointer (some ⟨b,o,none⟩) =>
  if !known P t then none else
  if eh P t then(m.ek b o (aE P t)).map fun cs=>.agg cs.toArray
  else match m.get b with
   | some (.cells cs _)=>cs[o]?
   | _=>none
 | _=>none
def ik(P:XL)(t:XJ)(a v:XI)(m:Yq):YA Yq :=
 match a with
 | .pointer (some ⟨b,o,none⟩) =>
  if known P t&&v.cells.size==aE P t&&aZ v.cells.toList then m.cU b o v.cells.toList else none
 | _=>none
def nL(P:XL)(keyType:XJ)(k:XI):YB (XI×XI)->Nat->YA (YA (Nat×XI))
 | [],_=>some none
 | e::es,i =>
  match k8 P Op.maxDepth keyType k e.1 with
  | some true=>some (some (i,e.2))
  | some false=>nL P keyType k es (i+1)
  | none=>none
def dH(P:XL)(t:XJ):Bool :=
 match P.underlying t with
 | some (.int _)|some .string|some .bool=>true
 | _=>false
def lA(P:XL)(t:XJ)(v:XI):Bool :=
 match P.underlying t,v with
 | some (.int _),.int _ _|some .string,.string _|some .bool,.bool _=>true
 | some (.array len elem),.agg cs=>dH P elem&&known P elem&&aE P elem==1&&cs.size==len&&cs.toList.all aP
 | some (.struct fs),.agg cs=>fs.toList.all (fun f=>dH P f.type&&known P f.type&&decide (f.offset<cs.size))&&cs.toList.all aP
 | _,_=>false
def mapOf(m:Yq)(x:XI):YA (YB (XI×XI)) :=
 match x with
 | .map none=>some []
 | .map (some r)=>match m.get r with
  | some (.map es)=>some es
  | _=>none
 | _=>none
def jy(P:XL)(xType:XJ)(x index:XI)(commaOk:Bool)(m:Yq):YA XI :=
 match P.underlying xType with
 | some (.map key elem) =>
  match mapOf m x,bp P elem with
  | some es,some z =>
   if lA P key index then
    match nL P key index es 0 with
    | some (some (_,v))=>some (if commaOk then .tuple #[v,.bool true] else v)
    | some none=>if bH z then some (if commaOk then .tuple #[z,.bool false] else z) else none
    | none=>none
   else none
  | _,_=>none
 | _=>none
def sj:YB (XI×XI)->Nat->XI->XI->YB (XI×XI)
 | [],_,k,v=>[(k,v)]
 | _::es,0,k,v=>(k,v)::es
 | e::es,n+1,k,v=>e::sj es n k v
def tJ(es:YB (XI×XI))(i:Nat)(key:XI):Bool :=
 match es[i]? with
 | some e=>bH e.1&&Instr.sameBits 10000 e.1 key
 | none=>false
def j8(P:XL)(mapType:XJ)(x key value:XI)(m:Yq):YA Yq :=
 match P.underlying mapType,x with
 | some (.map kt _),.map (some r) =>
  match m.get r with
  | some (.map es) =>
   if lA P kt key then
    match nL P kt key es 0 with
    | some (some (i,_)) =>
     if tJ es i key then some (m.set r (.map (sj es i key value))) else none
    | some none=>some (m.set r (.map (es++[(key,value)])))
    | none=>none
   else none
  | _=>none
 | _,_=>none
def uk(P:XL)(mapType:XJ)(x key:XI)(m:Yq):YA Yq :=
 match P.underlying mapType,x with
 | some (.map kt _),.map (some r) =>
  match m.get r with
  | some (.map es) =>
   if lA P kt key then
    match nL P kt key es 0 with
    | some (some (i,_))=>some (m.set r (.map (es.eraseIdx i)))
    | some none=>some m
    | none=>none
   else none
  | _=>none
 | _,_=>none
def cW(sz:Nat)(x:XI)(n:Nat)(m:Yq):YA (YB XI) :=
 match x with
 | .slice none _ _=>if n=0 then some [] else none
 | .slice (some ⟨b,o,none⟩) _ _=>if n=0 then some [] else m.ek b o (n*sz)
 | .slice (some ⟨_,_,some _⟩) _ _=>if n=0 then some [] else none
 | _=>none
def cS(bytes need:Nat):Bool:=(2*need+2000)*bytes<=2 ^ 48
def dZ(P:XL)(elem:XJ)(xType:YA XJ)(x:XI)(m:Yq):YA (Nat×YB XI) :=
 match xType.bind P.underlying,x with
 | some (.slice _),.slice a l c=>(cW (aE P elem) (.slice a l c) l m).map fun cs=>(l,cs)
 | some (.int _),.int _ l=>if 0<=l/\l<=2 ^ 40 then(gq P elem l.toNat).bind fun zs=>if zs.all aP then some (l.toNat,zs) else none else none
 | _,_=>none
def bS (P:XL) (sType:XJ) (xType:YA XJ) (s x:XI) (m:Yq):YA (XI × Yq) :=
 match P.underlying sType,s,dZ P (match P.underlying sType with|some (.slice e)=>e|_=>0) xType x m with
 | some (.slice elem),.slice base len cap,some (n,new) =>
  let sz:=aE P elem
  if !(known P elem)||sz==0 || !aZ new || !(P.info? elem).any (fun i=>cS i.bytes (len+n)&&i.bytes != 0)||new.length != n*sz || !(bp P elem).any (fun z=>z.cells.size==sz&&z.cells.toList.all aP) then none else
  match base with
  | none =>
   if len≠0\/cap≠0 then none else
   if n=0 then some (.slice none 0 0,m)
   else some (.slice (some ⟨m.next,0,none⟩) n n,m.alloc (.cells new (.more sz)))
  | some ⟨b,o,none⟩ =>
   match m.get b with
   | some (.cells cs tag) =>
    if len+n<=cap then
     (m.cU b (o+len*sz) new).map fun m'=>(.slice (some ⟨b,o,none⟩) (len+n) cap,m')
    else match tag with
     | .more sz' =>
      if sz'=sz/\o=0 then
       let old:=cs.take (len*sz)
       if old.length=len*sz then some (.slice (some ⟨m.next,0,none⟩) (len+n) (len+n),(m.kill b).alloc (.cells (old++new) (.more sz))) else none
      else none
     | _ =>
      match m.ek b o (len*sz) with
      | some old=>some (.slice (some ⟨m.next,0,none⟩) (len+n) (len+n),m.alloc (.cells (old++new) (.more sz)))
      | none=>none
   | _=>none
  | some ⟨b,_,some 1⟩ =>
   if len≠0\/cap≠0 then none else
   if n=0 then some (.slice (some ⟨b,0,some 1⟩) 0 0,m)
   else some (.slice (some ⟨m.next,0,none⟩) n n,m.alloc (.cells new (.more sz)))
  | _=>if len=0/\cap=0/\n=0 then some (s,m) else none
 | _,_,_=>none
def HR(P:XL)(dType:XJ)(dst src:XI)(m:Yq):YA (XI×Yq) :=
 match P.underlying dType,dst,src with
 | some (.slice elem),.slice base dLen _,.slice _ sLen _ =>
  let n:=min sLen dLen
  if !(known P elem) then none else
  match cW (aE P elem) src n m with
  | none=>none
  | some cells =>
   if !aZ cells then none else
   match base,n with
   | _,0=>some (.int .i64 0,m)
   | some ⟨b,o,none⟩,n+1=>(m.cU b o cells).map fun m'=>(.int .i64 (n+1:Nat),m')
   | _,_=>none
 | _,_,_=>none
def zl(P:XL)(t:XJ)(x:XI)(m:Yq):YA (XI×Yq) :=
 match P.underlying t,x with
 | some (.slice _),.slice _ 0 _=>some (.tuple #[],m)
 | some (.slice elem),.slice (some ⟨b,o,none⟩) n _ =>
  match gq P elem n with
  | some zs=>if zs.all aP then(m.cU b o zs).map fun m'=>(.tuple #[],m') else none
  | none=>none
 | _,_=>none
def fi(f:Int->Int->Int):IntKind->Int->YB XI->YA XI
 | k,a,[]=>some (.int k a)
 | k,a,.int _ b::vs=>fi f k (f a b) vs
 | _,_,_=>none
def bg(P:XL)(b:Builtin)(argTypes:YD XJ)(args:YB XI)(m:Yq):YA (XI×Yq) :=
 match b,args with
 | .len,[x] =>
  match(argTypes[0]?).bind P.underlying,x with
  | some .string,.string s=>some (.int .i64 s.size,m)
  | some (.array n _),_=>some (.int .i64 n,m)
  | some (.pointer a),_=>match P.underlying a with
   | some (.array n _)=>some (.int .i64 n,m)
   | _=>none
  | some (.slice _),.slice _ n _=>some (.int .i64 n,m)
  | some (.map _ _),x=>(mapOf m x).map fun es=>(.int .i64 es.length,m)
  | _,_=>none
 | .cap,[x] =>
  match(argTypes[0]?).bind P.underlying,x with
  | some (.slice _),.slice none _ n=>some (.int .i64 n,m)
  | some (.slice _),.slice (some ⟨b,_,none⟩) _ n=>match m.get b with
   | some (.cells _ (.more _))=>none
   | some (.cells _ _)=>some (.int .i64 n,m)
   | _=>none
  | _,_=>none
 | .append,[s,x]=>match argTypes[0]? with
  | some t=>bS P t argTypes[1]? s x m
  | none=>none
 | .copy,[d,s]=>match argTypes[0]? with
  | some t=>HR P t d s m
  | none=>none
 | .clear,[x]=>match argTypes[0]? with
  | some t=>zl P t x m
  | none=>none
 | .delete,[x,k]=>match argTypes[0]? with
  | some t=>(uk P t x k m).map fun m'=>(.tuple #[],m')
  | none=>none
 | .max,.int k a::vs=>(fi (fun x y=>if y>x then y else x) k a vs).map fun v=>(v,m)
 | .min,.int k a::vs=>(fi (fun x y=>if y<x then y else x) k a vs).map fun v=>(v,m)
 | _,_=>none
def fM(E:Env)(t:Tm)(m:Yq)(o:Op):YA (XI×Yq) :=
 let P:=E.P
 match o with
 | .move x|.assign x=>(an E t x).map fun v=>(v,m)
 | .pick c a b=>match an E t c with
  | some (.bool true)=>(an E t a).map fun v=>(v,m)
  | some (.bool false)=>(an E t b).map fun v=>(v,m)
  | _=>none
 | .alloc elem=>match bp P elem with
  | some z=>if bH z then some (ptr m.next 0,m.alloc (.cells z.cells.toList .own)) else none
  | none=>none
 | .box _ x=>(an E t x).map fun v=>(ptr m.next 0,m.alloc (.cells v.cells.toList .own))
 | .build ty parts=>match eT E t parts.toList,bp P ty with
  | some ps,some z=>if bH z then(nw P ty ps).map fun v=>(v,m) else none
  | _,_=>none
 | .buildSlice ty len parts =>
  match P.underlying ty,eT E t parts.toList with
  | some (.slice elem),some ps =>
   let sz:=aE P elem
   if !(known P elem)||len*sz>2 ^ 24 then none else
   match gq P elem len with
   | some zs=>if zs.all aP then(jZ (fun i=>some (i*sz,sz)) zs ps).map fun cs=>(.slice (some ⟨m.next,0,none⟩) len len,m.alloc (.cells cs .own)) else none
   | none=>none
  | _,_=>none
 | .load ty a=>match an E t a with
  | some p=>(eB P ty p m).map fun v=>(v,m)
  | none=>none
 | .store ty a x=>match an E t a,an E t x with
  | some p,some v=>(ik P ty p v m).map fun m'=>(undef,m')
  | _,_=>none
 | .nilCheck x=>match an E t x with
  | some (.pointer (some a))=>some (.pointer (some a),m)
  | some (.func (.func f) a b)=>some (.func (.func f) a b,m)
  | some (.func (.yield f) a b)=>some (.func (.yield f) a b,m)
  | _=>none
 | .binOp op xType x y _=>match an E t x,an E t y with
  | some a,some b=>(bW op xType P a b).map fun v=>(v,m)
  | _,_=>none
 | .unOp op _ x=>match an E t x with
  | some a=>(Gq op a).map fun v=>(v,m)
  | none=>none
 | .convert src dst x=>match an E t x with
  | some a=>(lj P src dst a).map fun v=>(v,m)
  | none=>none
 | .makeFunc (.func f) first captured=>match bC E t first.toList,bC E t captured.toList with
  | some fs,some cs=>some (.func (.func f) fs.toArray cs.toArray,m)
  | _,_=>none
 | .makeMap _ none=>some (.map (some m.next),m.alloc (.map []))
 | .makeSlice ty len cap=>match P.underlying ty,an E t len,an E t cap with
  | some (.slice elem),some (.int .i64 l),some (.int .i64 c) =>
   if 0<=l/\l<=c/\(P.info? elem).any (fun i=>i.bytes*c<=2 ^ 40&&i.bytes != 0)/\known P elem then
    match gq P elem c.toNat with
    | some zs=>if zs.all aP then some (.slice (some ⟨m.next,0,none⟩) l.toNat c.toNat,m.alloc (.cells zs .own)) else none
    | none=>none
   else none
  | _,_,_=>none
 | .slice ty x lo hi mx=>match an E t x,dY E t lo,dY E t hi,dY E t mx with
  | some v,some l,some h,some k=>(cd P ty v l h k m).map fun v=>(v,m)
  | _,_,_,_=>none
 | .fieldAddr s x f=>match an E t x with
  | some v=>(aG P s v f).map fun v=>(v,m)
  | none=>none
 | .field ty x f=>match an E t x with
  | some v=>(ji P ty v f).map fun v=>(v,m)
  | none=>none
 | .sliceToArrayPointer ty x=>match an E t x with
  | some v=>(Ea P ty v).map fun v=>(v,m)
  | none=>none
 | .indexAddr ty x i=>match an E t x,an E t i with
  | some v,some n=>(cq P ty v n).map fun v=>(v,m)
  | _,_=>none
 | .index ty x i=>match an E t x,an E t i with
  | some v,some n=>(iB P ty v n).map fun v=>(v,m)
  | _,_=>none
 | .lookup ty x i ok=>match an E t x,an E t i with
  | some v,some n=>(jy P ty v n ok m).map fun v=>(v,m)
  | _,_=>none
 | .mapUpdate ty x k v|.insert ty x k v=>match an E t x,an E t k,an E t v with
  | some x,some k,some v=>(j8 P ty x k v m).map fun m'=>(undef,m')
  | _,_,_=>none
 | .extract x i=>match an E t x with
  | some (.tuple vs)=>(vs[i]?).map fun v=>(v,m)
  | _=>none
 | .call c=>match c.callee with
  | .builtin b=>match bC E t c.args.toList with
   | some vs=>bg P b c.argTypes vs m
   | none=>none
  | _=>none
 | _=>none
def aA:Op->Bool
 | .store .. | .mapUpdate .. | .insert ..=>true
 | .call c=>match c.callee with
  | .builtin .append|.builtin .copy|.builtin .delete|.builtin .clear=>true
  | .builtin _=>false
  | _=>true
 | _=>false
def qY:Op->Bool
 | .load .. | .lookup .. | .slice ..=>true
 | .call c=>match c.callee with
  | .builtin .len|.builtin .cap=>true
  | _=>false
 | _=>false
def tmpsOf:YB XK->YB Tmp
 | []=>[]
 | .tmp t::xs=>t::tmpsOf xs
 | _::xs=>tmpsOf xs
def looks(ops:YD Oper)(o:Oper):YB Tmp :=
 tmpsOf o.op.operands.toList++(match o.guard with
  | some (g,_)=>((ops[g]?).bind (·.dst)).toList
  | none=>[])
def D6(ops:YD Oper):YB Nat:=(Region.before ops).toList
def tW(ops:YD Oper)(a b:Oper):Bool :=
 !(aA a.op&&aA b.op) &&
 (match a.dst with
  | some d=>!(looks ops b).contains d&&b.dst != some d
  | none=>true) &&
 (match b.dst with
  | some d=>!(looks ops a).contains d
  | none=>true)
def clash(a b:Oper):Bool:=(aA a.op&&qY b.op) ||(qY a.op&&aA b.op)
def zm:YB Nat->Bool
 | []=>true
 | x::xs=>!xs.contains x&&zm xs
def cN(o:Oper):YB Nat:=o.after.toList.filterMap fun e=>if Region.binds .any e then some e.on else none
def yR(ops:YD Oper)(bs:YB Nat):Bool :=
 zm (ops.toList.filterMap (·.dst)) &&
 (List.range ops.size).all fun j =>
  (cN (ops.getD j default)).all (fun e=>decide (e<j)) &&
  (match(ops.getD j default).guard with
   | none=>true
   | some (g,_)=>decide (g<j) &&(bs.getD j 0).testBit g) &&
  (List.range j).all fun i =>
   if(bs.getD j 0).testBit i then(cN (ops.getD j default)).any (fun e=>e==i ||(Nat.blt i e &&(bs.getD e 0).testBit i))
   else tW ops (ops.getD i default) (ops.getD j default)
def oK(ops:YD Oper)(bs:YB Nat):YB (Nat×Nat) :=
 (List.range ops.size).flatMap fun j=>((List.range j).filter fun i=>!(bs.getD j 0).testBit i&&clash (ops.getD i default) (ops.getD j default)).map fun i=>(i,j)
def lQ(ops:YD Oper):YA (YB (Nat×Nat)) :=
 if yR ops (D6 ops) then some (oK ops (D6 ops)) else none
def dT:XI->YA Nat
 | .pointer (some a)=>some a.block
 | .slice (some a) _ _=>some a.block
 | .map (some r)=>some r
 | _=>none
def aM(E:Env)(t:Tm)(o:Op):YA Nat :=
 match o with
 | .load _ a=>(an E t a).bind dT
 | .lookup _ x _ _=>(an E t x).bind dT
 | .slice _ x _ _ _=>(an E t x).bind dT
 | .call c=>match c.callee with
  | .builtin .len|.builtin .cap=>match bC E t c.args.toList with
   | some [v]=>dT v
   | _=>none
  | _=>none
 | _=>none
def fj(E:Env)(t:Tm)(o:Op):YA Nat :=
 match o with
 | .store _ a _=>match an E t a with
  | some (.pointer (some a))=>some a.block
  | _=>none
 | _=>none
def yQ:XI->XI->Bool
 | .int k a,.int k' b=>decide (k=k')&&decide (a=b)
 | .bool a,.bool b=>a==b
 | .slice a l c,.slice a' l' c'=>decide (a=a') &&(Nat.beq l l'&&Nat.beq c c')
 | .map a,.map b=>decide (a=b)
 | .pointer a,.pointer b=>decide (a=b)
 | _,_=>false
def u0:YB XI->YB XI->Bool
 | [],[]=>true
 | v::vs,u::us=>yQ v u&&u0 vs us
 | _,_=>false
def AH:XI->XI->Bool
 | .func (.func f) a c,.func (.func f') a' c'=>Nat.beq f f' &&(u0 a.toList a'.toList&&u0 c.toList c'.toList)
 | v,u=>yQ v u
def Er:YB XI->YB XI->Bool
 | [],[]=>true
 | v::vs,u::us=>AH v u&&Er vs us
 | _,_=>false
def y9:YB (XI×XI)->YB (XI×XI)->Bool
 | [],[]=>true
 | v::vs,u::us=>AH v.1 u.1&&AH v.2 u.2&&y9 vs us
 | _,_=>false
def Jr:YA Ys->YA Ys->Bool
 | some (.cells cs t),some (.cells cs' t')=>decide (t=t')&&Er cs cs'
 | some (.map es),some (.map es')=>y9 es es'
 | _,_=>false
noncomputable def jX (m m':Yq) (b:Nat):Bool:=Jr (m.get b) (m'.get b)||@decide (m.get b=m'.get b) (Classical.propDecidable _)
structure Note where
 read:YA Nat
 wl:Nat
 next:Nat
 wrote:YA Nat
 kept:Nat->Bool
def Note.ok(r e:Note):Bool :=
 match r.read with
 | none=>true
 | some b=>decide (b<e.wl)||decide (e.next<=b) ||(match e.wrote with
  | some b'=>b != b'
  | none=>false)||e.kept b
def gi(a:Note):Bool :=
 match a.read with
 | none=>true
 | some b=>Nat.blt b a.next
def eu(notes:YB Note)(ops:YD Oper)(p:Nat×Nat):Bool :=
 match notes[p.1]?,notes[p.2]? with
 | some a,some b =>
  (!(aA (ops.getD p.2 default).op)||Note.ok a b) &&(!(aA (ops.getD p.1 default).op)||Note.ok b a)
 | _,_=>false
inductive Yr where
 | normal
 | exit (id:Nat)
 | ret
 deriving DecidableEq
structure Fr where
 tmps:Tm
 n:Nat
 fn:YI
 round:YA Nat
inductive Task where
 | code (c:Code) (fr:Fr) (m:Yq)
 | loop (c:Code) (fr:Fr) (m:Yq)
 | call (f:YI) (args:YB XI) (m:Yq)
 | round (l:Nat) (args:YB XI) (m:Yq)
inductive Res where
 | code (e:Yr) (t:Tm) (m:Yq)
 | val (v:XI) (m:Yq)
abbrev K:=Task->YA Res
def kZ(n:Nat)(t:Tm)(dst:YA Tmp)(v:XI):YA Tm :=
 match dst with
 | some d=>match Nat.blt d n with
  | true=>some (t.set d v)
  | false=>none
 | none=>some t
def eO(k:K)(E:Env)(t:Tm)(m:Yq)(o:Op):YA (XI×Yq) :=
 match o with
 | .call c=>match c.callee with
  | .value f=>match an E t f,bC E t c.args.toList with
   | some (.func (.func g) first captured),some args=>match k (.call g (first.toList++args++captured.toList) m) with
    | some (.val v m')=>some (v,m')
    | _=>none
   | some (.func (.yield l) first _),some args=>match k (.round l (first.toList++args) m) with
    | some (.val v m')=>some (v,m')
    | _=>none
   | _,_=>none
  | _=>fM E t m o
 | _=>fM E t m o
def fS(ops:YD Oper)(t:Tm)(j:Nat):YA Bool :=
 match((ops[j]?).bind (·.dst)) with
 | some d=>match t.get d with
  | some (.bool b)=>some b
  | _=>none
 | none=>none
def cg(ops:YD Oper)(o:Oper)(t:Tm):Bool :=
 match o.guard with
 | none=>true
 | some (j,want)=>match fS ops t j with
  | some b=>b==want
  | none=>false
def jI(k:K)(E:Env)(n:Nat)(ops:YD Oper):YB Oper->Tm->Yq->YA (Tm×Yq)
 | [],t,m=>some (t,m)
 | o::os,t,m =>
  if cg ops o t then
   match eO k E t m o.op with
   | some (v,m')=>match kZ n t o.dst v with
    | some t'=>jI k E n ops os t' m'
    | none=>none
   | none=>none
  else match kZ n t o.dst undef with
   | some t'=>jI k E n ops os t' m
   | none=>none
noncomputable def er (k:K) (E:Env) (n:Nat) (ops:YD Oper):YB Oper->Tm->Yq->YA (Tm×Yq×YB Note)
 | [],t,m=>some (t,m,[])
 | o::os,t,m =>
  if cg ops o t then
   match eO k E t { m with wl:=m.next} o.op with
   | some (v,m')=>match kZ n t o.dst v with
    | some t1=>match er k E n ops os t1 { m' with wl:=min m.wl m'.wl} with
     | some (t',m'',ns)=>some (t',m'',{ read:=aM E t o.op,wl:=m'.wl,next:=m.next,wrote:=fj E t o.op,kept:=jX m m'}::ns)
     | none=>none
    | none=>none
   | none=>none
  else match kZ n t o.dst undef with
   | some t1=>match er k E n ops os t1 m with
    | some (t',m'',ns)=>some (t',m'',{ read:=none,wl:=m.next,next:=m.next,wrote:=none,kept:=fun _=>false}::ns)
    | none=>none
   | none=>none
def cT(E:Env)(t:Tm)(m:Yq):YB ResultVar->YA (YB XI)
 | []=>some []
 | .tmp i::rs=>(cT E t m rs).map fun vs=>t.at i::vs
 | .cell a ty::rs=>match eB E.P ty (t.at a) m,cT E t m rs with
  | some v,some vs=>some (v::vs)
  | _,_=>none
def jr:YB XI->XI
 | [v]=>v
 | vs=>.tuple vs.toArray
def jF(n:Nat)(t:Tm):YB Tmp->YB XI->YA Tm
 | p::ps,v::vs=>match Nat.blt p n with
  | true=>jF n (t.set p v) ps vs
  | false=>none
 | _,_=>some t
def jN:Yr->YA Code
 | .normal=>none
 | .exit id=>some (.exit id)
 | .ret=>some .ret
def lE(E:Env)(fr:Fr)(m:Yq)(f:XK):Bool :=
 (match an E fr.tmps f with
  | some (.func (.func g) _ _)=>(E.cZ g).isNone
  | _=>false) &&
 (match fr.round with
  | none=>true
  | some l=>match m.get l with
   | some (.loop _)=>true
   | _=>false)
def xK(E:Env)(f:YI)(args:YB XI)(m:Yq):YA (XI×Yq):=(E.cZ f).bind fun p=>p.run args m
noncomputable def step (E:Env) (k:K):Task->YA Res
 | .code c fr m =>
  match c with
  | .skip=>some (.code .normal fr.tmps m)
  | .label _=>some (.code .normal fr.tmps m)
  | .seq a b=>match k (.code a fr m) with
   | some (.code .normal t m')=>k (.code b { fr with tmps:=t} m')
   | some (.code e t m')=>some (.code e t m')
   | _=>none
  | .cond x a b=>match an E fr.tmps x with
   | some (.bool true)=>k (.code a fr m)
   | some (.bool false)=>k (.code b fr m)
   | _=>none
  | .block id a=>match k (.code a fr m) with
   | some (.code (.exit id') t m')=>if id'=id then some (.code .normal t m') else some (.code (.exit id') t m')
   | some (.code e t m')=>some (.code e t m')
   | _=>none
  | .loop a=>k (.loop a fr m)
  | .exit id=>some (.code (.exit id) fr.tmps m)
  | .ret=>some (.code .ret fr.tmps m)
  | .scope a=>match k (.code a fr m) with
   | some (.code e t m')=>some (.code e t m')
   | _=>none
  | .region _ ops draw =>
   if draw then
    match lQ ops with
    | some ps=>match er k E fr.n ops ops.toList fr.tmps m with
     | some (t,m',ns)=>if ps.all (eu ns ops)&&ns.all gi then some (.code .normal t m') else none
     | none=>none
    | none=>none
   else match jI k E fr.n ops ops.toList fr.tmps m with
    | some (t,m')=>some (.code .normal t m')
    | none=>none
  | .rangeFunc f params assign body =>
   match an E fr.tmps f,lE E fr m f with
   | some (.func (.func g) first captured),true =>
    let l:=m.next
    let m1:=m.alloc (.loop { state:=.ready,pending:=none,fn:=fr.fn,tmps:=fr.tmps,n:=fr.n,params,assign,body})
    match k (.call g (first.toList++[.func (.yield l) #[] #[]]++captured.toList) m1) with
    | some (.val _ m2)=>match m2.get l with
     | some (.loop r)=>match r.state with
      | .busy=>none
      | _ =>
       let m3:=m2.set l (.loop { r with state:=.exhausted})
       match r.pending with
       | none=>some (.code .normal fr.tmps m3)
       | some c=>match k (.code c fr m3) with
        | some (.code e t m')=>some (.code e t m')
        | _=>none
     | _=>none
    | _=>none
   | _,_=>none
  | _=>none
 | .loop c fr m=>match k (.code c fr m) with
  | some (.code .normal t m')=>k (.loop c { fr with tmps:=t} m')
  | some (.code e t m')=>some (.code e t m')
  | _=>none
 | .call f args m =>
  match xK E f args m with
  | some r=>some (.val r.1 r.2)
  | none =>
   match E.P.funcs[f]? with
   | some fn=>match fn.body with
    | some c=>match k (.code c { tmps:=Trie.ofList args 0 .nil,n:=max args.length fn.ntmps,fn:=f,round:=none} m) with
     | some (.code (.exit _) _ _)=>none
     | some (.code _ t m')=>(cT E t m' fn.results.toList).map fun vs=>.val (jr vs) m'
     | _=>none
    | none=>none
   | none=>none
 | .round l args m =>
  match m.get l with
  | some (.loop r)=>match r.state with
   | .ready =>
    if args.length≠r.params.size then none else
    match jF r.n r.tmps r.params.toList args with
    | none=>none
    | some t0=>match k (.code r.assign { tmps:=t0,n:=r.n,fn:=r.fn,round:=some l} m) with
    | some (.code .normal t1 m1)=>match m1.get l with
     | some (.loop r1)=>match r1.state with
      | .ready =>
       match k (.code r.body { tmps:=t1,n:=r.n,fn:=r.fn,round:=some l} (m1.set l (.loop { r1 with state:=.busy}))) with
       | some (.code e _ m2)=>match m2.get l with
        | some (.loop r2) =>
         let j:=jN e
         some (.val (.bool j.isNone) (m2.set l (.loop { r2 with state:=if j.isNone then .ready else .done,pending:=j})))
        | _=>none
       | _=>none
      | _=>none
     | _=>none
    | _=>none
   | _=>none
  | _=>none
noncomputable def run (E:Env):Nat->K
 | 0=>fun _=>none
 | n+1=>step E (run E n)
structure Blk where
 c:Nat
 more:YA (Nat×Nat×Nat)
abbrev aR:=Nat->YA Blk
def AG(v:XI):Bool:=mh v && !aP v
def xn{v:XI}(h:AG v=true):mh v=true:=by simp only[AG,Va] at h; exact h.1
inductive VR(j:aR):XI->XI->Prop
 | junk {v':XI} (h:AG v'=true):VR j (.complex .f64 0 0) v'
 | bool (b:Bool):VR j (.bool b) (.bool b)
 | int (k:IntKind) (n:Int):VR j (.int k n) (.int k n)
 | string (s:ByteArray):VR j (.string s) (.string s)
 | pnil:VR j (.pointer none) (.pointer none)
 | ptr {b o:Nat} {k:Blk} (h:j b=some k):VR j (.pointer (some ⟨b,o,none⟩)) (.pointer (some ⟨k.c,o,none⟩))
 | snil (l c:Nat):VR j (.slice none l c) (.slice none l c)
 | slice {b o len cap:Nat} {k:Blk} (h:j b=some k) (hm:k.more=none):VR j (.slice (some ⟨b,o,none⟩) len cap) (.slice (some ⟨k.c,o,none⟩) len cap)
 | sliceM {b o len cap cap' sz na nc:Nat} {k:Blk} (h:j b=some k) (hm:k.more=some (sz,na,nc)) (h1:cap*sz+o=na) (h2:cap'*sz+o=nc) (hl:len<=cap) (hc:cap<=cap') :
   VR j (.slice (some ⟨b,o,none⟩) len cap) (.slice (some ⟨k.c,o,none⟩) len cap')
 | gV {b:Nat} {a':Addr} {cap':Nat}:VR j (.slice (some ⟨b,0,some 0⟩) 0 0) (.slice (some a') 0 cap')
 | dry {b:Nat} {a':Addr}:VR j (.slice (some ⟨b,0,some 1⟩) 0 0) (.slice (some a') 0 0)
 | mnil:VR j (.map none) (.map none)
 | map {b:Nat} {k:Blk} (h:j b=some k):VR j (.map (some b)) (.map (some k.c))
 | func {f:YI} {xs ys cs ds:YD XI} (h1:xs.size=ys.size) (h2:∀(i:Nat) (a:i<xs.size) (b:i<ys.size),VR j xs[i] ys[i])
   (h3:cs.size=ds.size) (h4:∀(i:Nat) (a:i<cs.size) (b:i<ds.size),VR j cs[i] ds[i]):VR j (.func (.func f) xs cs) (.func (.func f) ys ds)
 | yield {l:Nat} {k:Blk} {xs ys cs ds:YD XI} (h:j l=some k) (h1:xs.size=ys.size) (h2:∀(i:Nat) (a:i<xs.size) (b:i<ys.size),VR j xs[i] ys[i]) :
   VR j (.func (.yield l) xs cs) (.func (.yield k.c) ys ds)
 | nilFunc:VR j .nilFunc .nilFunc
 | nilIface:VR j .nilIface .nilIface
 | agg {xs ys:YD XI} (h1:xs.size=ys.size) (h2:∀(i:Nat) (a:i<xs.size) (b:i<ys.size),VR j xs[i] ys[i]):VR j (.agg xs) (.agg ys)
 | tuple {xs ys:YD XI} (h1:xs.size=ys.size) (h2:∀(i:Nat) (a:i<xs.size) (b:i<ys.size),VR j xs[i] ys[i]):VR j (.tuple xs) (.tuple ys)
def LR(j:aR)(xs ys:YB XI):Prop:=xs.length=ys.length/\∀(i:Nat) (v:XI),xs[i]? = some v->∃v',ys[i]? = some v'/\VR j v v'
def LR.nil(j:aR):LR j [] []:=⟨rfl,fun i v h=>by simp at h⟩
def LR.cons{j:aR}{x y:XI}{xs ys:YB XI}(h:VR j x y)(hs:LR j xs ys):LR j (x::xs) (y::ys) :=
 ⟨by simp[hs.1],fun i v hi=>by
  cases i with
  | zero=>simp at hi; subst hi; exact⟨y,rfl,h⟩
  | succ i=>simpa using hs.2 i v (by simpa using hi)⟩
def LR.head{j:aR}{x y:XI}{xs ys:YB XI}(h:LR j (x::xs) (y::ys)):VR j x y:=by
 obtain⟨v',hv,hr⟩:=h.2 0 x rfl;simp at hv; subst hv; exact hr
def LR.tail{j:aR}{x y:XI}{xs ys:YB XI}(h:LR j (x::xs) (y::ys)):LR j xs ys :=
 ⟨by have:=h.1; simpa using this,fun i v hi=>by simpa using h.2 (i+1) v (by simpa using hi)⟩
def LR.cons_inv{j:aR}{x:XI}{xs l:YB XI}(h:LR j (x::xs) l):∃y ys,l=y::ys/\VR j x y/\LR j xs ys:=by
 cases l with
 | nil=>exact Vr h.1 (by simp)
 | cons y ys=>exact⟨y,ys,rfl,h.head,h.tail⟩
def LR.dI{j:aR}{l:YB XI}(h:LR j [] l):l=[]:=by
 have:=h.1; simp at this; exact VJ.1 this.symm
def LR.append{j:aR}{xs ys xs' ys':YB XI}(h:LR j xs ys)(h':LR j xs' ys'):LR j (xs++xs') (ys++ys') :=
 ⟨by simp[h.1,h'.1],fun i v hi=>by
  by_cases hlt:i<xs.length
  rw[VU hlt] at hi;rw[VU (h.1▸hlt)];exact h.2 i v hi
  rw[VO (by omega)] at hi
  rw[VO (by have:=h.1; omega),<-h.1]
  exact h'.2 _ v hi⟩
def LR.drop{j:aR}{xs ys:YB XI}(h:LR j xs ys)(n:Nat):LR j (xs.drop n) (ys.drop n) :=
 ⟨by simp[h.1],fun i v hi=>by rw[Wl] at *; exact h.2 _ v hi⟩
def LR.take{j:aR}{xs ys:YB XI}(h:LR j xs ys)(n:Nat):LR j (xs.take n) (ys.take n) :=
 ⟨by simp[h.1],fun i v hi=>by
  rw[Wj] at *
  split at hi
  rename_i hlt; rw[U5 hlt]; exact h.2 _ v hi
  simp at hi⟩
def LR.get{j:aR}{xs ys:YB XI}(h:LR j xs ys){i:Nat}{v:XI}(hi:xs[i]? = some v):∃v',ys[i]? = some v'/\VR j v v':=h.2 i v hi
def LR.gB{j:aR}{xs ys:YD XI}(h1:xs.size=ys.size)(h2:∀(i:Nat) (a:i<xs.size) (b:i<ys.size),VR j xs[i] ys[i]):LR j xs.toList ys.toList :=
 ⟨by simpa using h1,fun i v hi=>by
  have hlt:i<xs.toList.length:=(Vn.1 hi).1;have ha:i<xs.size:=by simpa using hlt
  have hb:i<ys.size:=h1▸ha;refine⟨ys[i],by simp[hb],?_⟩
  have:xs[i]=v:=by simpa [ha] using hi
  exact this▸h2 i ha hb⟩
def LR.arr{j:aR}{xs ys:YD XI}(h:LR j xs.toList ys.toList):∀(i:Nat) (a:i<xs.size) (b:i<ys.size),VR j xs[i] ys[i]:=fun i a b=>by
 obtain⟨v',hv,hr⟩:=h.2 i xs[i] (by simp[a])
 have:ys[i]=v':=by simpa [b] using hv
 exact this▸hr
def LR.size{j:aR}{xs ys:YD XI}(h:LR j xs.toList ys.toList):xs.size=ys.size:=by simpa using h.1
def VR.F5{j:aR}{xs ys:YD XI}(h:LR j xs.toList ys.toList):VR j (.agg xs) (.agg ys):=.agg h.size h.arr
def VR.tuple'{j:aR}{xs ys:YD XI}(h:LR j xs.toList ys.toList):VR j (.tuple xs) (.tuple ys):=.tuple h.size h.arr
def VR.undef(j:aR):VR j undef undef:=.tuple rfl (fun i a _=>by simp at a)
def aR.le(j j':aR):Prop:=∀b k,j b=some k->j' b=some k
def aR.le.refl(j:aR):j.le j:=fun _ _ h=>h
def aR.le.trans{j j' j'':aR}(h:j.le j')(h':j'.le j''):j.le j'':=fun b k e=>h' b k (h b k e)
def VR.mono{j j':aR}(hj:j.le j'){v v':XI}(h:VR j v v'):VR j' v v':=by
 induction h with
 | junk h=>exact .junk h
 | bool b=>exact .bool b
 | int k n=>exact .int k n
 | string s=>exact .string s
 | pnil=>exact .pnil
 | ptr h=>exact .ptr (hj _ _ h)
 | snil l c=>exact .snil l c
 | slice h hm=>exact .slice (hj _ _ h) hm
 | sliceM h hm h1 h2 hl hc=>exact .sliceM (hj _ _ h) hm h1 h2 hl hc
 | gV=>exact .gV
 | dry=>exact .dry
 | mnil=>exact .mnil
 | map h=>exact .map (hj _ _ h)
 | func h1 _ h3 _ ih2 ih4=>exact .func h1 ih2 h3 ih4
 | yield h h1 _ ih2=>exact .yield (hj _ _ h) h1 ih2
 | nilFunc=>exact .nilFunc
 | nilIface=>exact .nilIface
 | agg h1 _ ih=>exact .agg h1 ih
 | tuple h1 _ ih=>exact .tuple h1 ih
def LR.mono{j j':aR}(hj:j.le j'){xs ys:YB XI}(h:LR j xs ys):LR j' xs ys :=
 ⟨h.1,fun i v hi=>let⟨v',a,b⟩:=h.2 i v hi;⟨v',a,b.mono hj⟩⟩
def VR.aP{j:aR}{v:XI}(h:aP v=true):VR j v v:=by
 unfold Ab.aP at h
 split at h<;>first|constructor |(simp at h)
def LR.plain{j:aR}{l:YB XI}(h:l.all Ab.aP=true):LR j l l :=
 ⟨rfl,fun _ v hi=>⟨v,hi,VR.aP (Vo.1 h v (VD hi))⟩⟩
def VR.bH{j:aR}{v:XI}(h:bH v=true):VR j v v:=by
 unfold Ab.bH at h
 split at h
 exact .F5 (LR.plain h)
 exact .tuple' (LR.plain h)
 exact .aP h
def ER(j:aR):YB (XI×XI)->YB MapEntry->Prop
 | [],[]=>True
 | e::es,f::fs=>VR j e.1 f.key/\VR j e.2 f.val/\ER j es fs
 | _,_=>False
def ER.mono{j j':aR}(hj:j.le j'):∀{es:YB (XI×XI)} {fs:YB MapEntry},ER j es fs->ER j' es fs
 | [],[],_=>trivial
 | _::_,_::_,h=>⟨h.1.mono hj,h.2.1.mono hj,ER.mono hj h.2.2⟩
 | [],_::_,h=>h.elim
 | _::_,[],h=>h.elim
def TR(n:Nat)(j:aR)(t:Tm)(tmps:YD XI):Prop:=tmps.size=n/\∀i,VR j (t.at i) (tmps.getD i undef)
def TR.mono{n:Nat}{j j':aR}(hj:j.le j'){t:Tm}{tmps:YD XI}(h:TR n j t tmps):TR n j' t tmps:=⟨h.1,fun i=>(h.2 i).mono hj⟩
def jj(sz:Nat)(c:YD XI):Prop:=c.size<=sz*9223372036854775807
def qR(k:Blk)(tag:Tag)(len:Nat)(c:YD XI)(fz:Nat×Nat):Prop :=
 match tag with
 | .ro=>k.more=none/\c.size=len
 | .own=>k.more=none/\c.size=len/\fz=(0,0)
 | .more sz=>k.more=some (sz,len,c.size)/\len<=c.size/\fz=(0,0)/\0<sz/\jj sz c
def qR.put{k:Blk}{tag:Tag}{len:Nat}{c c':YD XI}{fz:Nat×Nat}(h:qR k tag len c fz)(hs:c'.size=c.size)(hr:∀i,len<=i->c'[i]? = c[i]?):qR k tag len c' fz:=by
 cases tag with
 | ro=>exact⟨h.1,hs.trans h.2⟩
 | own=>exact⟨h.1,hs.trans h.2.1,h.2.2⟩
 | more sz=>exact⟨by rw[hs]; exact h.1,by rw[hs]; exact h.2.1,h.2.2.1,h.2.2.2.1,by unfold jj; rw[hs]; exact h.2.2.2.2⟩
def rz(es:YD MapEntry)(clock:Nat):Prop:=(∀x∈es.toList,x.born<clock)/\(es.toList.map (·.born)).Nodup
def Fp(c:Nat):rz #[] c:=⟨fun x hx=>by simp at hx,by simp⟩
def I4{es:YD MapEntry}{clock:Nat}(h:rz es clock)(k v:XI):rz (es.push { key:=k,val:=v,born:=clock}) (clock+1):=by
 refine⟨fun x hx=>?_,?_⟩
 rw[Array.toList_push,Vq,Vb] at hx;rcases hx with hx|rfl
 exact Nat.lt_succ_of_lt (h.1 x hx)
 exact Xb _
 rw[Array.toList_push,W6,List.map_singleton];refine List.nodup_append.2 ⟨h.2,by simp,fun a ha b hb=>?_⟩
 rw[Vb] at hb;obtain⟨x,hx,rfl⟩:=Vi.1 ha;have:=h.1 x hx;rw[hb]; exact Nat.ne_of_lt this
def CO{es:YD MapEntry}{clock:Nat}(h:rz es clock)(i:Nat)(f:MapEntry->MapEntry)(hf:∀e,(f e).born=e.born):rz (es.modify i f) clock:=by
 have e:(es.modify i f).toList.map (·.born)=es.toList.map (·.born):=by
  rw[Array.toList_modify];refine Wg fun t=>?_;rw[VQ,VQ,List.getElem?_modify];cases es.toList[t]? with
  | none=>rfl
  | some a =>
   show some ((if i=t then f a else a).born)=some a.born
   split
   rw[hf]
   rfl
 refine⟨fun x hx=>?_,by rw[e]; exact h.2⟩
 have hm:x.born∈es.toList.map (·.born):=e▸Vi.2 ⟨x,hx,rfl⟩;obtain⟨y,hy,he⟩:=Vi.1 hm;rw[<-he]; exact h.1 y hy
def Ff{es:YD MapEntry}{clock:Nat}(h:rz es clock)(i:Nat):rz (es.eraseIdxIfInBounds i) clock:=by
 have hs:(es.eraseIdxIfInBounds i).toList.Sublist es.toList:=by
  rw[Array.toList_eraseIdxIfInBounds]; exact List.eraseIdx_sublist _ _
 exact⟨fun x hx=>h.1 x (hs.subset hx),(hs.map _).nodup h.2⟩
def OR(j:aR)(k:Blk):Ys->Obj->Prop
 | .cells cs tag,.cells c _ fz=>qR k tag cs.length c fz/\∀(i:Nat) (v:XI),cs[i]? = some v->∃v',c[i]? = some v'/\VR j v v'
 | .map es,.map entries clock=>ER j es entries.toList/\rz entries clock
 | .loop r,.loop r'=>r.state=r'.state/\r.pending=r'.pending/\r.params=r'.params/\r.assign=r'.assign/\r.body=r'.body/\TR r.n j r.tmps r'.tmps
 | _,_=>False
def OR.mono{j j':aR}(hj:j.le j'){k:Blk}{o:Ys}{o':Obj}(h:OR j k o o'):OR j' k o o':=by
 cases o with
 | cells cs tag =>
  cases o' with
  | cells c e fz=>exact⟨h.1,fun i v hi=>let⟨v',a,b⟩:=h.2 i v hi;⟨v',a,b.mono hj⟩⟩
  | _=>exact h.elim
 | map es =>
  cases o' with
  | map c e=>exact⟨ER.mono hj h.1,h.2⟩
  | _=>exact h.elim
 | loop r =>
  cases o' with
  | loop c=>exact⟨h.1,h.2.1,h.2.2.1,h.2.2.2.1,h.2.2.2.2.1,h.2.2.2.2.2.mono hj⟩
  | _=>exact h.elim
structure MR(E:Env)(j:aR)(m:Yq)(w:XM):Prop where
 lt:∀b k,j b=some k->b<m.next/\k.c<w.heap.size
 obj:∀b o k,m.get b=some o->j b=some k->∃o',w.heap[k.c]? = some o'/\OR j k o o'
 inj:∀b b' k k',j b=some k->j b'=some k'->(m.get b).isSome=true->(m.get b').isSome=true->k.c=k'.c->b=b'
 glob:∀g,g<E.glob->j g=some ⟨g,none⟩
structure AExt(m m':Yq):Prop where
 next:m.next<=m'.next
 wl:m'.wl<=m.wl
 same:∀b,b<m.next->b<m'.wl->m'.get b=m.get b
 dead:∀b,b<m.next->m.get b=none->m'.get b=none
def AExt.refl(m:Yq):AExt m m:=⟨U8 _,U8 _,fun _ _ _=>rfl,fun _ _ h=>h⟩
def AExt.trans{a b c:Yq}(h:AExt a b)(h':AExt b c):AExt a c :=
 ⟨VK h.next h'.next,VK h'.wl h.wl,
  fun x hx hw=>(h'.same x (Vt hx h.next) hw).trans (h.same x hx (Vt hw h'.wl)),
  fun x hx hn=>h'.dead x (Vt hx h.next) (h.dead x hx hn)⟩
abbrev Calm(w w':XM):Prop:=w'.os=w.os/\w'.output=w.output/\w'.tape=w.tape/\w.drawn<=w'.drawn
abbrev j6(E:Env)(w w':XM):Prop:=w'.os=w.os/\w'.output=w.output/\w'.tape=w.tape/\(E.mono->w.drawn<=w'.drawn)
def Calm.e{E:Env}{w w':XM}(h:Calm w w'):j6 E w w':=⟨h.1,h.2.1,h.2.2.1,fun _=>h.2.2.2⟩
def j6.refl{E:Env}(w:XM):j6 E w w:=⟨rfl,rfl,rfl,fun _=>U8 _⟩
def j6.trans{E:Env}{a b c:XM}(h:j6 E a b)(g:j6 E b c):j6 E a c:=⟨g.1.trans h.1,g.2.1.trans h.2.1,g.2.2.1.trans h.2.2.1,fun e=>VK (h.2.2.2 e) (g.2.2.2 e)⟩
structure Sim(E:Env)(j:aR)(m:Yq)(w:XM)(j':aR)(m':Yq)(w':XM):Prop where
 ext:AExt m m'
 le:j.le j'
 new:∀b k,j' b=some k->j b=none->m.next<=b
 mr:MR E j' m' w'
 size:w.heap.size<=w'.heap.size
 full:∀b,m.next<=b->b<m'.next->(m'.get b).isSome=true->∃k,j' b=some k
 away:∀b,b<m.next->j b=none->m'.get b=m.get b
 fresh:∀b k,j' b=some k->j b=none->w.heap.size<=k.c\/∃b0 k0,j b0=some k0/\(m.get b0).isSome=true/\k0.c=k.c/\m'.wl<=b0
 frame:∀c,c<w.heap.size->(∀b k,j b=some k->(m.get b).isSome=true->k.c=c->b<m'.wl)->w'.heap[c]? = w.heap[c]?
 calm:j6 E w w'
def Sim.refl{E:Env}{j:aR}{m:Yq}{w:XM}(h:MR E j m w):Sim E j m w j m w where
 ext:=.refl m
 le:=.refl j
 new:=fun b k h h'=>by simp[h'] at h
 mr:=h
 size:=U8 _
 full:=fun b h h' _=>Vr h (by omega)
 away:=fun _ _ _=>rfl
 fresh:=fun b k h h'=>by simp[h'] at h
 frame:=fun _ _ _=>rfl
 calm:=.refl w
def Sim.trans{E:Env}{j j1 j2:aR}{m m1 m2:Yq}{w w1 w2:XM}(h0:MR E j m w)(h:Sim E j m w j1 m1 w1)(h':Sim E j1 m1 w1 j2 m2 w2):Sim E j m w j2 m2 w2 where
 ext:=h.ext.trans h'.ext
 le:=h.le.trans h'.le
 mr:=h'.mr
 calm:=j6.trans h.calm h'.calm
 size:=VK h.size h'.size
 full:=by
  intro b hb hb' hl;rcases V3 b m1.next with hlt|hge
  ·have hl1:(m1.get b).isSome=true:=by
    cases hm:m1.get b with
    | some o=>rfl
    | none=>rw[h'.ext.dead b hlt hm] at hl; cases hl
   obtain⟨k,hk⟩:=h.full b hb hlt hl1;exact⟨k,h'.le b k hk⟩
  exact h'.full b hge hb' hl
 new:=by
  intro b k hk hn;cases h1:j1 b with
  | none=>exact VK h.ext.next (h'.new b k hk h1)
  | some k1=>exact h.new b k1 h1 hn
 away:=by
  intro b hb hn;have h1:j1 b=none:=by
   cases h1:j1 b with
   | none=>rfl
   | some k1=>exact Vr (h.new b k1 h1 hn) (by omega)
  exact(h'.away b (Vt hb h.ext.next) h1).trans (h.away b hb hn)
 fresh:=by
  intro b k hk hn;cases h1:j1 b with
  | some k1 =>
   have:=h'.le b k1 h1;rw[hk] at this; cases this;rcases h.fresh b k h1 hn with hf|⟨b0,k0,a1,a2,a3,a4⟩
   exact .inl hf
   exact .inr ⟨b0,k0,a1,a2,a3,VK h'.ext.wl a4⟩
  | none =>
   rcases h'.fresh b k hk h1 with hf|⟨b0,k0,a1,a2,a3,a4⟩
   exact .inl (VK h.size hf)
   ·cases hj0:j b0 with
    | some k0' =>
     have e:=h.le b0 k0' hj0;rw[a1] at e; cases e;refine .inr ⟨b0,k0,hj0,?_,a3,a4⟩;cases hm:m.get b0 with
     | some o=>rfl
     | none=>rw[h.ext.dead b0 (h0.lt b0 k0 hj0).1 hm] at a2; cases a2
    | none =>
     rcases h.fresh b0 k0 a1 hj0 with hf|⟨b1,k1,c1,c2,c3,c4⟩
     exact .inl (a3▸hf)
     exact .inr ⟨b1,k1,c1,c2,c3.trans a3,VK h'.ext.wl c4⟩
 frame:=by
  intro c hc H;have s1:w1.heap[c]? = w.heap[c]?:=h.frame c hc fun b k hb hl he=>Vt (H b k hb hl he) h'.ext.wl;refine(h'.frame c (Vt hc h.size) ?_).trans s1;intro b k hb hl he;cases hj:j b with
  | some k' =>
   have e:=h.le b k' hj;rw[hb] at e; cases e;refine H b k hj ?_ he;cases hm:m.get b with
   | some o=>rfl
   | none=>rw[h.ext.dead b (h0.lt b k hj).1 hm] at hl; cases hl
  | none =>
   rcases h.fresh b k hb hj with hf|⟨b1,k1,c1,c2,c3,c4⟩
   omega
   have:=H b1 k1 c1 c2 (c3.trans he);have:=h'.ext.wl;omega
def aR.set(j:aR)(b:Nat)(k:Blk):aR:=fun x=>if x=b then some k else j x
def aR.cn(j:aR)(b:Nat)(k:Blk):j.set b k b=some k:=by simp[aR.set]
def aR.bV(j:aR){b x:Nat}(k:Blk)(h:x≠b):j.set b k x=j x:=by simp[aR.set,h]
def aR.qw{j:aR}{b:Nat}(k:Blk)(h:j b=none):j.le (j.set b k):=fun x k' hx=>by
 by_cases e:x=b
 subst e; rw[h] at hx; cases hx
 rw[aR.bV _ _ e]; exact hx
def Yq.aU(m:Yq)(o:Ys)(b:Nat):(m.alloc o).get b=if b=m.next then some o else m.get b:=by
 unfold Yq.alloc Yq.get;simp only[Heap.bz]
 by_cases h:b=m.next<;>simp[h]
def Yq.bz(m:Yq)(b x:Nat)(o:Ys):(m.set b o).get x=if x=b then some o else m.get x:=by
 unfold Yq.set Yq.get;simp only[Heap.bz]
 by_cases h:x=b<;>simp[h]
def Yq.dv(m:Yq)(b x:Nat):(m.kill b).get x=if x=b then none else m.get x:=by
 unfold Yq.kill Yq.get;simp only[Heap.bz]
 by_cases h:x=b<;>simp[h]
@[simp] theorem Yq.next_alloc (m:Yq) (o:Ys):(m.alloc o).next=m.next+1:=rfl
@[simp] theorem Yq.next_set (m:Yq) (b:Nat) (o:Ys):(m.set b o).next=m.next:=rfl
@[simp] theorem Yq.next_kill (m:Yq) (b:Nat):(m.kill b).next=m.next:=rfl
@[simp] theorem Yq.wl_alloc (m:Yq) (o:Ys):(m.alloc o).wl=m.wl:=rfl
@[simp] theorem Yq.wl_set (m:Yq) (b:Nat) (o:Ys):(m.set b o).wl=min m.wl b:=rfl
@[simp] theorem Yq.wl_kill (m:Yq) (b:Nat):(m.kill b).wl=min m.wl b:=rfl
def AExt.alloc(m:Yq)(o:Ys):AExt m (m.alloc o) :=
 ⟨Nat.le_succ _,U8 _,fun b h _=>by rw[Yq.aU,XP],fun b h hn=>by rw[Yq.aU,XP]; exact hn⟩
def AExt.set{m:Yq}{b:Nat}(o:Ys)(hb:(m.get b).isSome=true):AExt m (m.set b o) :=
 ⟨U8 _,Nat.min_le_left _ _,fun x _ h=>by
  rw[Yq.bz,U3]; intro e; subst e; simp at h; omega,
 fun x _ hn=>by
  rw[Yq.bz,U3]
  exact hn
  intro e; subst e; rw[hn] at hb; cases hb⟩
def AExt.kill(m:Yq)(b:Nat):AExt m (m.kill b) :=
 ⟨U8 _,Nat.min_le_left _ _,fun x _ h=>by
  rw[Yq.dv,U3]; intro e; subst e; simp at h; omega,
 fun x _ hn=>by rw[Yq.dv]; split<;>first|rfl|exact hn⟩
def Bp{j:aR}{n:Nat}{k:Blk}{m':Yq}:∀b,n<=b->b<n+1->(m'.get b).isSome=true->∃k',j.set n k b=some k':=fun b h1 h2 _=>by
 have:b=n:=by omega
 subst this;exact⟨k,aR.cn _ _ _⟩
section
variable{E:Env}{j:aR}{m:Yq}{w:XM}
def MR.oI(h:MR E j m w):j m.next=none:=by
 cases e:j m.next with
 | none=>rfl
 | some k=>exact Vr (h.lt _ _ e).1 (Nat.lt_irrefl _)
def MR.of_heap{w':XM}(h:MR E j m w)(e:w'.heap=w.heap):MR E j m w' :=
 ⟨by rw[e]; exact h.lt,by rw[e]; exact h.obj,h.inj,h.glob⟩
def Sim.of_heap{w':XM}(h:MR E j m w)(e:w'.heap=w.heap)(e2:Calm w w':=by first|exact⟨rfl,rfl,rfl,U8 _⟩|exact⟨rfl,rfl,rfl,Nat.le_succ _⟩):Sim E j m w j m w' :=
 { Sim.refl h with mr:=h.of_heap e,size:=by rw[e]; exact U8 _,frame:=fun c _ _=>by rw[e],calm:=e2.e}
def MR.xU{x:Nat}(h:MR E j m w):MR E j { m with wl:=x} w:=⟨h.lt,h.obj,h.inj,h.glob⟩
def oU(h:MR E j m w){ao:Ys}{co:Obj}{mo:YA (Nat×Nat×Nat)}(ho:OR j ⟨w.heap.size,mo⟩ ao co) :
  Sim E j m w (j.set m.next ⟨w.heap.size,mo⟩) (m.alloc ao) (w.alloc co):=by
 have hle:j.le (j.set m.next ⟨w.heap.size,mo⟩):=aR.qw _ h.oI
 have hlt:∀b k,j b=some k->b≠m.next:=fun b k e=>Nat.ne_of_lt (h.lt b k e).1
 refine⟨.alloc m ao,hle,?_,⟨?_,?_,?_,?_⟩,by simp,Bp,?_,?_,?_,⟨rfl,rfl,rfl,fun _=>U8 _⟩⟩
 intro b k hb hn
 by_cases e:b=m.next
 exact Xr e.symm
 rw[aR.bV _ _ e,hn] at hb; cases hb
 intro b k hb
 by_cases e:b=m.next
 subst e; rw[aR.cn] at hb; cases hb; simp
 rw[aR.bV _ _ e] at hb;have:=h.lt b k hb;simp; omega
 intro b o k hg hb
 by_cases e:b=m.next
 subst e;rw[aR.cn] at hb; cases hb;rw[Yq.aU,U5 rfl] at hg; cases hg;exact⟨co,World.alloc_heap_new w co,ho.mono hle⟩
 rw[aR.bV _ _ e] at hb;rw[Yq.aU,U3 e] at hg;obtain⟨o',h1,h2⟩:=h.obj b o k hg hb;refine⟨o',?_,h2.mono hle⟩;have hk:=(h.lt b k hb).2
 show(w.heap.push co)[k.c]? = some o'
 rw[WO,XP]; exact h1
 intro b b' k k' hb hb' hl hl' hc
 by_cases e:b=m.next<;>by_cases e':b'=m.next
 rw[e,e']
 subst e;rw[aR.cn] at hb; cases hb;rw[aR.bV _ _ e'] at hb';exact Vr (h.lt b' k' hb').2 (by simp at hc; omega)
 subst e';rw[aR.cn] at hb'; cases hb';rw[aR.bV _ _ e] at hb;exact Vr (h.lt b k hb).2 (by simp at hc; omega)
 rw[aR.bV _ _ e] at hb;rw[aR.bV _ _ e'] at hb';rw[Yq.aU,U3 e] at hl;rw[Yq.aU,U3 e'] at hl';exact h.inj b b' k k' hb hb' hl hl' hc
 intro g hg; exact hle _ _ (h.glob g hg)
 intro b hb _; rw[Yq.aU,XP]
 intro b k hb hn
 by_cases e:b=m.next
 subst e; rw[aR.cn] at hb; cases hb; exact .inl (U8 _)
 rw[aR.bV _ _ e,hn] at hb; cases hb
 intro c hc _
 show(w.heap.push co)[c]? = w.heap[c]?
 rw[WO,XP]
def jx(h:MR E j m w){b:Nat}{k:Blk}(hk:j b=some k)(hl:(m.get b).isSome=true){ao:Ys}{co:Obj}(ho:OR j k ao co) :
  Sim E j m w j (m.set b ao) (w.putObj k.c co):=by
 refine⟨.set ao hl,.refl j,fun x k' e e'=>by simp[e'] at e,⟨?_,?_,?_,h.glob⟩,by simp,fun b h1 h2 _=>Vr h1 (by simp at h2; omega),?_,fun x k' e e'=>by simp[e'] at e,?_,⟨rfl,rfl,rfl,fun _=>U8 _⟩⟩
 intro x k' e; simpa using h.lt x k' e
 intro x o k' hg e
 by_cases hx:x=b
 subst hx;rw[hk] at e; cases e;rw[Yq.bz,U5 rfl] at hg; cases hg;exact⟨co,World.putObj_heap_same (h.lt x k hk).2,ho⟩
 rw[Yq.bz,U3 hx] at hg;obtain⟨o',h1,h2⟩:=h.obj x o k' hg e;refine⟨o',?_,h2⟩;rw[World.putObj_heap_other]
 exact h1
 intro hc;exact hx (h.inj x b k' k e hk (by rw[hg]; rfl) hl hc)
 intro x x' k1 k2 e e' hl1 hl2 hc;refine h.inj x x' k1 k2 e e' ?_ ?_ hc
 rw[Yq.bz] at hl1; split at hl1
 rename_i hx; subst hx; exact hl
 exact hl1
 rw[Yq.bz] at hl2; split at hl2
 rename_i hx; subst hx; exact hl
 exact hl2
 intro x hx hn;rw[Yq.bz,U3]; intro e; subst e; rw[hk] at hn; cases hn
 intro c hc H;apply World.putObj_heap_other;intro e;have:=H b k hk hl e.symm;simp at this; omega
def Bq(h:MR E j m w){b:Nat}{k0:Blk}(hk0:j b=some k0):Sim E j m w j (m.kill b) w:=by
 refine⟨.kill m b,.refl j,fun x k' e e'=>by simp[e'] at e,⟨h.lt,?_,?_,h.glob⟩,U8 _,fun b h1 h2 _=>Vr h1 (by simp at h2; omega),?_,fun x k' e e'=>by simp[e'] at e,fun _ _ _=>rfl,⟨rfl,rfl,rfl,fun _=>U8 _⟩⟩
 intro x o k hg e;rw[Yq.dv] at hg
 split at hg
 cases hg
 exact h.obj x o k hg e
 intro x x' k k' e e' hl hl' hc;rw[Yq.dv] at hl hl'
 split at hl
 cases hl
 split at hl'
 cases hl'
 exact h.inj x x' k k' e e' hl hl' hc
 intro x hx hn;rw[Yq.dv,U3];intro e; subst e; rw[hk0] at hn; cases hn
def vi(h:MR E j m w){b:Nat}{k:Blk}(hk:j b=some k)(hl:(m.get b).isSome=true){ao:Ys}{co:Obj}{mo:YA (Nat×Nat×Nat)}(ho:OR j ⟨k.c,mo⟩ ao co) :
  Sim E j m w (j.set m.next ⟨k.c,mo⟩) ((m.kill b).alloc ao) (w.putObj k.c co):=by
 have hle:j.le (j.set m.next ⟨k.c,mo⟩):=aR.qw _ h.oI
 have hbn:b<m.next:=(h.lt b k hk).1
 have hkc:k.c<w.heap.size:=(h.lt b k hk).2;have hget:∀x,((m.kill b).alloc ao).get x=if x=m.next then some ao else if x=b then none else m.get x:=by
  intro x; rw[Yq.aU,Yq.dv]; rfl
 refine⟨(AExt.kill m b).trans (AExt.alloc _ ao),hle,?_,⟨?_,?_,?_,fun g hg=>hle _ _ (h.glob g hg)⟩,by simp,Bp,?_,?_,?_,⟨rfl,rfl,rfl,fun _=>U8 _⟩⟩
 intro x k' hx hn
 by_cases e:x=m.next
 exact Xr e.symm
 rw[aR.bV _ _ e,hn] at hx; cases hx
 intro x k' hx
 by_cases e:x=m.next
 subst e; rw[aR.cn] at hx; cases hx; simp; exact hkc
 rw[aR.bV _ _ e] at hx;have:=h.lt x k' hx;simp; omega
 intro x o k' hg hx;rw[hget] at hg
 by_cases e:x=m.next
 subst e;rw[aR.cn] at hx; cases hx;rw[U5 rfl] at hg; cases hg;exact⟨co,World.putObj_heap_same hkc,ho.mono hle⟩
 rw[aR.bV _ _ e] at hx;rw[U3 e] at hg
 split at hg
 cases hg
 rename_i hxb;obtain⟨o',h1,h2⟩:=h.obj x o k' hg hx;refine⟨o',?_,h2.mono hle⟩;rw[World.putObj_heap_other]
 exact h1
 intro hc;exact hxb (h.inj x b k' k hx hk (by rw[hg]; rfl) hl hc)
 intro x x' k1 k2 hx hx' hl1 hl2 hc;rw[hget] at hl1 hl2
 by_cases e:x=m.next<;>by_cases e':x'=m.next
 rw[e,e']
 subst e;rw[aR.cn] at hx; cases hx;rw[aR.bV _ _ e'] at hx';rw[U3 e'] at hl2
 split at hl2
 cases hl2
 rename_i hxb;exact Vr (h.inj x' b k2 k hx' hk hl2 hl hc.symm) hxb
 subst e';rw[aR.cn] at hx'; cases hx';rw[aR.bV _ _ e] at hx;rw[U3 e] at hl1
 split at hl1
 cases hl1
 rename_i hxb;exact Vr (h.inj x b k1 k hx hk hl1 hl hc) hxb
 rw[aR.bV _ _ e] at hx;rw[aR.bV _ _ e'] at hx';rw[U3 e] at hl1;rw[U3 e'] at hl2
 split at hl1
 cases hl1
 split at hl2
 cases hl2
 exact h.inj x x' k1 k2 hx hx' hl1 hl2 hc
 intro x hx hn;rw[hget,XP,U3]
 intro e; subst e; rw[hk] at hn; cases hn
 intro x k' hx hn
 by_cases e:x=m.next
 subst e; rw[aR.cn] at hx; cases hx;exact .inr ⟨b,k,hk,hl,rfl,by simp; omega⟩
 rw[aR.bV _ _ e,hn] at hx; cases hx
 intro c hc H;apply World.putObj_heap_other;intro e;have:=H b k hk hl e.symm;simp at this; omega
def MR.gP(h:MR E j m w){b:Nat}{k:Blk}(hk:j b=some k){cs:YB XI}{tag:Tag}(hg:m.get b=some (.cells cs tag)) :
  ∃c e fz,w.heap[k.c]? = some (.cells c e fz)/\qR k tag cs.length c fz/\∀(i:Nat) (v:XI),cs[i]? = some v->∃v',c[i]? = some v'/\VR j v v':=by
 obtain⟨o',h1,h2⟩:=h.obj b _ k hg hk;cases o' with
 | cells c e fz=>exact⟨c,e,fz,h1,h2.1,h2.2⟩
 | _=>exact h2.elim
def MR.cell(h:MR E j m w){b:Nat}{k:Blk}(hk:j b=some k){cs:YB XI}{tag:Tag}(hg:m.get b=some (.cells cs tag)){o:Nat}{v:XI}(hv:cs[o]? = some v) :
  ∃v',w.cell? ⟨k.c,o,none⟩=some v'/\VR j v v':=by
 obtain⟨c,e,fz,h1,_,h3⟩:=h.gP hk hg;obtain⟨v',h4,h5⟩:=h3 o v hv;exact⟨v',by simp[World.cell?,h1,h4],h5⟩
def nJ(c o i:Nat):(⟨c,o,none⟩:Addr).add i=⟨c,o+i,none⟩:=by
 unfold Addr.add
 split
 rename_i e; subst e; rfl
 rfl
def uB{b o n:Nat}{vs:YB XI}(hm:m.ek b o n=some vs):∃cs tag,m.get b=some (.cells cs tag)/\vs=(cs.drop o).take n/\vs.length=n:=by
 unfold Yq.ek at hm
 split at hm
 rename_i cs tag hg;simp only at hm
 split at hm
 rename_i hl;cases hm;exact⟨cs,tag,hg,rfl,hl⟩
 cases hm
 cases hm
def MR.ek(h:MR E j m w){b:Nat}{k:Blk}(hk:j b=some k){o n:Nat}{vs:YB XI}(hm:m.ek b o n=some vs) :
  ∃vs',(∀w0:XM,w0.heap=w.heap->(loadCells ⟨k.c,o,none⟩ n).run E.P w0=.ok vs'.toArray w0)/\LR j vs vs':=by
 obtain⟨cs,tag,hg,rfl,hl⟩:=uB hm;obtain⟨c,e,fz,h1,_,h3⟩:=h.gP hk hg;have hcell:∀i,i<n->∃v v',cs[o+i]? = some v/\c[o+i]? = some v'/\VR j v v':=by
  intro i hi;have:o+i<cs.length:=by simp at hl; omega
  obtain⟨v',a,b⟩:=h3 (o+i) _ (U4 this);exact⟨_,v',U4 this,a,b⟩
 refine⟨(List.range n).map fun i=>c.getD (o+i) undef,fun w0 hw0=>run_loadCells w0 _ n _ ?_,?_⟩
 intro i hi;obtain⟨v,v',_,a,_⟩:=hcell i hi;rw[nJ];simp[World.cell?,hw0,h1,a]
 refine⟨by simp; simpa using hl,fun i v hi=>?_⟩
 rw[Wj] at hi
 split at hi
 rename_i hlt;rw[Wl] at hi;obtain⟨v1,v',a,b,r⟩:=hcell i hlt;rw[hi] at a; cases a;refine⟨v',?_,r⟩;simp[hlt,b]
 cases hi
def s7(cs:YB XI)(o:Nat):aB cs o []=cs:=by
 induction cs generalizing o with
 | nil=>cases o<;>rfl
 | cons c cs ih=>cases o<;>simp[aB,ih]
def bc:∀(cs:YB XI) (o:Nat) (vs:YB XI),(aB cs o vs).length=cs.length
 | [],0,[]=>rfl
 | [],0,_::_=>rfl
 | [],_+1,_=>rfl
 | _::_,0,[]=>rfl
 | _::cs,0,_::vs=>by simp[aB,bc cs 0 vs]
 | _::cs,o+1,vs=>by simp[aB,bc cs o vs]
def aQ:∀(cs:YB XI) (o:Nat) (vs:YB XI) (i:Nat),(aB cs o vs)[i]? = if o<=i/\i<o+vs.length/\i<cs.length then vs[i-o]? else cs[i]?
 | [],0,[],i=>by simp[aB]
 | [],0,_::_,i=>by simp[aB]
 | [],_+1,_,i=>by simp[aB]
 | c::cs,0,[],i=>by simp[aB]
 | c::cs,0,v::vs,0=>by simp[aB]
 | c::cs,0,v::vs,i+1=>by
  have:=aQ cs 0 vs i;simp only[aB,VV,this,VF,V9,true_and,VC,WK,Nat.add_lt_add_iff_right]
 | c::cs,o+1,vs,0=>by simp[aB]
 | c::cs,o+1,vs,i+1=>by
  have:=aQ cs o vs i;simp only[aB,VV,this,VF,Nat.add_le_add_iff_right,Nat.add_lt_add_iff_right,Nat.add_sub_add_right,Nat.add_right_comm o 1 vs.length]
def ee:∀(cs:YB XI) (o:Nat) (v:XI) (vs:YB XI),o<cs.length->aB cs o (v::vs)=aB (cs.set o v) (o+1) vs
 | [],_,_,_,h=>by simp at h
 | c::cs,0,v,vs,_=>by simp[aB]
 | c::cs,o+1,v,vs,h=>by simp[aB,ee cs o v vs (by simpa using h)]
def uQ{w:XM}{B o:Nat}{c:YD XI}{e:XJ}{fz:Nat×Nat}(h:w.heap[B]? = some (.cells c e fz))(v:XI) :
  w.setCell ⟨B,o,none⟩ v=w.putObj B (.cells (c.setIfInBounds o v) e fz):=by
 unfold World.setCell World.putObj
 congr 1
 apply Xw;intro i;rw[Array.getElem?_modify,WV]
 by_cases hi:B=i
 subst hi;obtain⟨hlt,hv⟩:=Vh.1 h;simp[hlt,hv]
 simp[hi]
def kS{w:XM}{B:Nat}{o o':Obj}:(w.putObj B o).putObj B o'=w.putObj B o':=by
 unfold World.putObj;simp
def nR{w:XM}{B:Nat}{o:Obj}(h:w.heap[B]? = some o):w.putObj B o=w:=by
 unfold World.putObj
 congr 1
 apply Xw;intro i;rw[WV]
 split
 rename_i hi; subst hi;obtain⟨hlt,hv⟩:=Vh.1 h;simp[hlt,hv]
 rfl
def gY{P:XL}{B:Nat}{e:XJ}:∀(vs:YB XI) (w:XM) (c:YD XI) (off i:Nat),w.heap[B]? = some (.cells c e (0,0))->off+i+vs.length<=c.size ->
  aZ vs=true->(storeCells ⟨B,off,none⟩ vs i).run P w=.ok () (w.putObj B (.cells (aB c.toList (off+i) vs).toArray e (0,0)))
 | [],w,c,off,i,h,_,_=>by
  simp only[storeCells,YG,s7];rw[show c.toList.toArray=c from rfl,nR h]
 | v::vs,w,c,off,i,h,hlen,hone=>by
  have hlen':off+i+(vs.length+1)<=c.size:=by simpa using hlen
  have hone':mh v=true/\aZ vs=true:=by simpa [aZ] using hone
  have hv:v.oneCell'=true:=by
   have:=hone'.1; cases v<;>first|rfl |(simp[mh] at this)
  have hcell:w.cell? ⟨B,off+i,none⟩=some c[off+i]:=by
   simp[World.cell?,h]
  have hfz:w.frozen? ⟨B,off+i,none⟩=false:=by simp[World.frozen?,h]
  have hh:(w.putObj B (.cells (c.setIfInBounds (off+i) v) e (0,0))).heap[B]? = some (.cells (c.setIfInBounds (off+i) v) e (0,0)) :=
   World.putObj_heap_same (Vh.1 h).1
  have ih:=gY (P:=P) vs _ (c.setIfInBounds (off+i) v) off (i+1) hh (by simp; omega) hone'.2
  simp only[storeCells,YF,nJ];rw[run_store _ _ _ _ _ hv];simp only[hcell,hfz,YE,VG,if_false,uQ h,ih,kS]
  congr 4
  rw[ee _ _ _ _ (by simp; omega)]
  simp[Nat.add_assoc]
def uA{j:aR}{v v':XI}(h:VR j v v')(ho:mh v=true):mh v'=true:=by
 cases h<;>first|rfl|exact xn ‹_› |(simp[mh] at ho)
def qe{j:aR}{vs vs':YB XI}(h:LR j vs vs')(ho:aZ vs=true):aZ vs'=true:=by
 induction vs generalizing vs' with
 | nil=>rw[h.dI]; rfl
 | cons v vs ih =>
  obtain⟨y,ys,rfl,h1,h2⟩:=h.cons_inv;simp only[aZ,W0,Va] at ho ⊢;exact⟨uA h1 ho.1,ih h2 ho.2⟩
def A9{b o:Nat}{vs:YB XI}{m':Yq}(hm:m.cU b o vs=some m') :
  (vs=[]/\m'=m)\/∃cs tag,m.get b=some (.cells cs tag)/\tag≠.ro/\o+vs.length<=cs.length/\m'=m.set b (.cells (aB cs o vs) tag):=by
 unfold Yq.cU at hm
 split at hm
 cases hm; exact .inl ⟨rfl,rfl⟩
 split at hm
 cases hm
 rename_i cs tag hro hg
 split at hm
 rename_i hl;cases hm;exact .inr ⟨cs,tag,hg,fun e=>hro e,hl,rfl⟩
 cases hm
 cases hm
def jY(h:MR E j m w){b:Nat}{k:Blk}(hk:j b=some k){o:Nat}{vs vs':YB XI}(hv:LR j vs vs')(ho:aZ vs=true){m':Yq}(hm:m.cU b o vs=some m') :
  ∃w',(storeCells ⟨k.c,o,none⟩ vs').run E.P w=.ok () w'/\Sim E j m w j m' w':=by
 rcases A9 hm with⟨rfl,rfl⟩|⟨cs,tag,hg,hro,hl,rfl⟩
 rw[hv.dI];exact⟨w,rfl,.refl h⟩
 ·obtain⟨c,e,fz,h1,h2,h3⟩:=h.gP hk hg;have hfz:fz=(0,0)/\cs.length<=c.size:=by
   cases tag with
   | ro=>exact Vr rfl hro
   | own=>exact⟨h2.2.2,by rw[h2.2.1]; exact U8 _⟩
   | more sz=>exact⟨h2.2.2.1,h2.2.1⟩
  obtain⟨rfl,hsz⟩:=hfz;refine⟨_,gY vs' w c o 0 h1 (by rw[<-hv.1]; simp; omega) (qe hv ho),jx h hk (by rw[hg]; rfl) ⟨?_,?_⟩⟩
  rw[bc];have:(aB c.toList (o+0) vs').toArray.size=c.size:=by simp[bc]
  exact h2.put this fun i hi=>by
   rw[VL,aQ,U3 (by rw[<-hv.1]; omega)]; simp
  intro i v hi;rw[aQ] at hi;have:(aB c.toList (o+0) vs').toArray[i]? = if o<=i/\i<o+vs'.length/\i<c.size then vs'[i-o]? else c[i]?:=by
   rw[VL,aQ]; simp
  rw[this]
  by_cases hc:o<=i/\i<o+vs.length/\i<cs.length
  rw[U5 hc] at hi;rw[U5 ⟨hc.1,hv.1▸hc.2.1,by omega⟩]
  exact hv.2 _ v hi
  rw[U3 hc] at hi;have hi':=(Vn.1 hi).1;rw[U3 (by rw[<-hv.1]; omega)]
  exact h3 i v hi
end
section
variable{P:XL}{w:XM}
def vJ{t:XJ}{i:TypeInfo}(h:P.info? t=some i)(w:XM):(typeInfo t).run P w=.ok i w:=by simp[typeInfo,h]
def cL{t:XJ}(h:known P t=true)(w:XM):(sizeOf t).run P w=.ok (aE P t) w:=by
 simp only[known,Va,Option.isSome_iff_exists] at h;obtain⟨_,i,hi⟩:=h;simp[sizeOf,vJ hi,aE,Program.cellsOf,hi]
def pd{t:XJ}(h:known P t=true)(w:XM):(isAgg t).run P w=.ok (eh P t) w:=by
 simp only[known,Va,Option.isSome_iff_exists] at h;obtain⟨⟨d,hd⟩,_⟩:=h;simp only[isAgg,YF,YH hd,YE,eh,hd];cases d<;>rfl
def jW{t:XJ}{z:XI}(h:bp P t=some z)(w:XM):(zeroValue t).run P w=.ok z w:=by
 unfold bp at h;cases hi:P.info? t with
 | none=>rw[hi] at h; cases h
 | some i =>
  rw[hi] at h;have hz:i.zero=some z:=h;simp[zeroValue,vJ hi,hz]
def yf{t:XJ}{z:XI}(h:bp P t=some z):∃i,P.info? t=some i/\i.zero=some z:=by
 unfold bp at h;cases hi:P.info? t with
 | none=>rw[hi] at h; cases h
 | some i=>rw[hi] at h; exact⟨i,rfl,h⟩
def LR.extract{j:aR}{xs ys:YD XI}(h:LR j xs.toList ys.toList)(a b:Nat):LR j (xs.extract a b).toList (ys.extract a b).toList:=by
 simp only[Array.toList_extract];exact(h.drop a).take (b-a)
def re{j:aR}{t:XJ}{cs cs':YD XI}{off:Nat}{v:XI}(h:dA P t cs off=some v)(hc:LR j cs.toList cs'.toList) :
  ∃v',(∀w,(part t cs' off).run P w=.ok v' w)/\VR j v v':=by
 unfold dA at h
 split at h
 cases h
 rename_i hk;have hk':known P t=true:=by simpa using hk
 split at h
 rename_i ha;cases h;refine⟨.agg (cs'.extract off (off+aE P t)),fun w=>?_,.F5 (hc.extract _ _)⟩;simp[part,pd hk',ha,cL hk']
 rename_i ha;have:cs.toList[off]? = some v:=by simpa using h
 obtain⟨v',h1,h2⟩:=hc.get this;refine⟨v',fun w=>?_,h2⟩;have h1':cs'[off]? = some v':=by simpa using h1
 have ha':eh P t=false:=by simpa using ha
 simp[part,pd hk',ha',h1']
def je(d:Nat)(xs ys:YD XI):YB (XJ×Nat)->Sem Bool
 | []=>pure true
 |(t,off)::rest=>do
  let a <-part t xs off
  let b <-part t ys off
  let r <-Op.equalIn d t a b
  if(!r)=true then pure false else je d xs ys rest
def jT (d : Nat) (xs ys : YD XI) : ∀ (fs : YB Field) (w : XM), fs.any (·.name == "_") = false ->
  (Op.eqFields d xs ys fs).run P w=(je d xs ys (fs.map fun f=>(f.type,f.offset))).run P w
 | [],_,_=>rfl
 | f::fs,w,h=>by
  simp only[List.any_cons,Bool.or_eq_false_iff] at h;have hn : f.name ≠ "_" := by simpa using h.1
  simp only[Op.eqFields,U5 hn,V6,je,YF,Sem.run_ite]
  congr 1; funext a w1; congr 1; funext b w2; congr 1; funext r w3
  split
  rfl
  exact jT d xs ys fs w3 h.2
def run_equalIn_array(d:Nat)(t:XJ)(len:Nat)(elem:XJ)(xs ys:YD XI)(ht:P.underlying t=some (.array len elem))(he:known P elem=true)(w:XM) :
  (Op.equalIn (d+1) t (.agg xs) (.agg ys)).run P w=(je d xs ys ((List.range len).map fun i=>(elem,i*aE P elem))).run P w:=by
 simp only[Op.equalIn,YF,YH ht,YE,cL he];rw[Std.Legacy.Range.forIn_eq_forIn_range'];simp only[Std.Legacy.Range.size,WK,Nat.add_sub_cancel,Nat.div_one];rw[<-List.range_eq_range'];generalize List.range len=is
 induction is generalizing w with
 | nil=>simp[je]
 | cons i is ih =>
  simp only[List.forIn_cons,V6,je,YF,Sem.run_ite];generalize(part elem xs (i*aE P elem)).run P w=r1;cases r1 with
  | ok a w1 =>
   simp only[YE];generalize(part elem ys (i*aE P elem)).run P w1=r2;cases r2 with
   | ok b w2 =>
    simp only[YE];generalize(Op.equalIn d elem a b).run P w2=r3;cases r3 with
    | ok r w3 =>
     cases r
     simp only[YE,VW,if_true,YG]
     simp only[YE,V4,VG,if_false,YG];exact ih w3
    | halt x w3=>simp[Result.andThen]
   | halt x w2=>simp[Result.andThen]
  | halt x w1=>simp[Result.andThen]
def nz{j:aR}{d:Nat}(ih:∀{t:XJ} {x y x' y':XI} {b:Bool},k8 P d t x y=some b->VR j x x'->VR j y y'->∀w,(Op.equalIn d t x' y').run P w=.ok b w)
  {xs ys xs' ys':YD XI} (hx:LR j xs.toList xs'.toList) (hy:LR j ys.toList ys'.toList) :
  ∀(l:YB (XJ×Nat)) {b:Bool},iL (k8 P d) P xs ys l=some b->∀w,(je d xs' ys' l).run P w=.ok b w
 | [],b,h,w=>by cases h; rfl
 | (t,off)::rest,b,h,w=>by
  simp only[iL] at h
  split at h
  ·rename_i x y h1 h2;obtain⟨x',e1,r1⟩:=re h1 hx;obtain⟨y',e2,r2⟩:=re h2 hy;simp only[je,YF,e1,e2,YE]
   split at h
   rename_i he;rw[ih he r1 r2 w];simp only[YE,V4,VG,if_false];exact nz ih hx hy rest h w
   ·rename_i hne;cases b with
    | true=>exact Vr h hne
    | false =>
     rw[ih h r1 r2 w];simp
  cases h
def lX{j:aR}:∀(d:Nat) {t:XJ} {x y x' y':XI} {b:Bool},k8 P d t x y=some b->VR j x x'->VR j y y'->∀w,(Op.equalIn d t x' y').run P w=.ok b w
 | 0,_,_,_,_,_,_,h,_,_,_=>by cases h
 | d+1,t,x,y,x',y',b,h,hx,hy,w=>by
  unfold k8 at h
  split at h
  rename_i ht; cases h; cases hx; cases hy; simp only[Op.equalIn,YF,YH ht,YE,YG]
  rename_i ht
  split at h
  rename_i hk; cases h; cases hx; cases hy; simp only[Op.equalIn,YF,YH ht,YE,YG,U5 hk]
  cases h
  rename_i ht; cases h; cases hx; cases hy; simp only[Op.equalIn,YF,YH ht,YE,YG]
  rename_i ht; cases h; cases hx; cases hy<;>simp only[Op.equalIn,YF,YH ht,YE,YG]<;>rfl
  rename_i ht; cases h; cases hx; cases hy; simp only[Op.equalIn,YF,YH ht,YE,YG]
  rename_i ht; cases h; cases hx; cases hy<;>simp only[Op.equalIn,YF,YH ht,YE,YG]<;>rfl
  rename_i ht; cases h; cases hy; cases hx<;>simp only[Op.equalIn,YF,YH ht,YE,YG]
  rename_i ht; cases h; cases hx; cases hy<;>simp only[Op.equalIn,YF,YH ht,YE,YG]<;>rfl
  rename_i ht; cases h; cases hy; cases hx<;>simp only[Op.equalIn,YF,YH ht,YE,YG]
  rename_i ht; cases h; cases hx; cases hy; simp only[Op.equalIn,YF,YH ht,YE,YG]
  rename_i ht; cases h; cases hx; cases hy<;>simp only[Op.equalIn,YF,YH ht,YE,YG]
  rename_i ht; cases h; cases hy; cases hx<;>simp only[Op.equalIn,YF,YH ht,YE,YG]
  ·rename_i fs xs ys ht
   split at h
   cases h
   ·rename_i hs;simp only[Wv,not_or,Bool.not_eq_true] at hs;cases hx with
    | agg h1 h2 =>
    cases hy with
    | agg h3 h4 =>
    have hf:P.fieldsOf t=fs:=by simp[Program.fieldsOf,ht]
    rw[run_equalIn_struct _ d t _ _ (by rw[hf]; exact ht) hs.1,hf,jT _ _ _ _ _ (by simpa using hs.2)]
    exact nz (fun a b c w=>lX d a b c w) (LR.gB h1 h2) (LR.gB h3 h4) _ h w
  ·rename_i len elem xs ys ht
   split at h
   ·rename_i hk;cases hx with
    | agg h1 h2 =>
    cases hy with
    | agg h3 h4 =>
    rw[run_equalIn_array d t len elem _ _ ht hk];exact nz (fun a b c w=>lX d a b c w) (LR.gB h1 h2) (LR.gB h3 h4) _ h w
   cases h
  cases h
end
def pR(P:XL)(s:Sem XI)(v:XI):Prop:=∀w,s.run P w=.ok v w
section
variable{P:XL}{j:aR}
def eC(op:BinOp)(t:XJ)(x y:XK){a b:XI}(h1:∀xs ys,a=.agg xs->b=.agg ys->False)(h2:a≠.nilIface)(w:XM) :
  (eqGuard op t x y a b).run P w=.ok () w:=by
 unfold eqGuard;cases op<;>simp only[VW,V4,if_true,VG,if_false,YG]<;>
  (split
   exact Vr rfl h2
   exact(h1 _ _ rfl rfl).elim
   rfl)
def oT:XI->Bool
 | .bool _|.pointer _|.slice _ _ _|.map _|.func _ _ _|.nilFunc=>true
 | _=>false
def binOp_eql{t:XJ}{x y:XI}(h:oT x=true):binOp .eql t x y=(do pure (.bool (<-Op.equal t x y))):=by
 cases x<;>first |(simp[oT] at h; done) |(cases y<;>rfl)
def binOp_neq{t:XJ}{x y:XI}(h:oT x=true):binOp .neq t x y=(do pure (.bool (!(<-Op.equal t x y)))):=by
 cases x<;>first |(simp[oT] at h; done) |(cases y<;>rfl)
def LG {op:BinOp} {t:XJ} {x y x' y' v:XI} (h:bW op t P x y=some v) (hx:VR j x x') (hy:VR j y y') (ox oy:XK) :
  ∃v',pR P (do eqGuard op t ox oy x' y'; binOp op t x' y') v'/\VR j v v':=by
 unfold bW at h
 split at h
 case h_1 =>
  cases hx; cases hy
  split at h
  cases h
  rename_i hb;cases h;refine⟨_,fun w=>?_,.int _ _⟩;rw[YF,eC _ _ _ _ (by intro _ _ e; cases e) (by intro e; cases e)]
  simp only[YE,binOp,Op.shift,U3 hb,YG]
 case h_2 =>
  cases hx; cases hy
  split at h
  cases h
  rename_i hb;cases h;refine⟨_,fun w=>?_,.int _ _⟩;rw[YF,eC _ _ _ _ (by intro _ _ e; cases e) (by intro e; cases e)]
  simp only[YE,binOp,Op.shift,U3 hb,YG]
 case h_12 =>
  cases hx; cases hy
  split at h
  rename_i hk
  split at h
  cases h
  rename_i hb;cases h;refine⟨_,fun w=>?_,.int _ _⟩;rw[YF,eC _ _ _ _ (by intro _ _ e; cases e) (by intro e; cases e)]
  simp only[YE,binOp,hk,ne_eq,not_true_eq_false,if_false,Op.intDiv,U3 hb,YG]
  cases h
 case h_13 =>
  cases hx; cases hy
  split at h
  rename_i hk
  split at h
  cases h
  rename_i hb;cases h;refine⟨_,fun w=>?_,.int _ _⟩;rw[YF,eC _ _ _ _ (by intro _ _ e; cases e) (by intro e; cases e)]
  simp only[YE,binOp,hk,ne_eq,not_true_eq_false,if_false,Op.intDiv,U3 hb,YG]
  cases h
 case h_18 =>
  cases h; cases hx; cases hy;refine⟨_,fun w=>?_,.bool _⟩;rw[YF,eC _ _ _ _ (by intro _ _ e; cases e) (by intro e; cases e)]
  simp only[YE,binOp,Op.stringOp,YG,beq_toListBytes]
 case h_19 =>
  cases h; cases hx; cases hy;refine⟨_,fun w=>?_,.bool _⟩;rw[YF,eC _ _ _ _ (by intro _ _ e; cases e) (by intro e; cases e)]
  simp only[YE,binOp,Op.stringOp,YG,bne,beq_toListBytes]
 case h_20=>cases h
 case h_21 =>
  cases hx with
  | agg h1 h2 =>
  cases hy with
  | agg h3 h4 =>
  split at h
  cases h
  ·rename_i hg;cases he:k8 P Op.maxDepth t (.agg _) (.agg _) with
   | none=>rw[he] at h; cases h
   | some b =>
    rw[he] at h; cases h;refine⟨_,fun w=>?_,.bool _⟩;have:=lX (P:=P) Op.maxDepth he (.agg h1 h2) (.agg h3 h4) w;have hg':P.eqGuardType P.depth t=false:=by simpa using hg
    rw[YF,run_eqGuard_agg w _ _ _ _ _ _ hg'];simp only[YE,binOp,Op.equal,YF,this,YG]
 case h_22 =>
  cases hx with
  | agg h1 h2 =>
  cases hy with
  | agg h3 h4 =>
  split at h
  cases h
  ·rename_i hg;cases he:k8 P Op.maxDepth t (.agg _) (.agg _) with
   | none=>rw[he] at h; cases h
   | some b =>
    rw[he] at h; cases h;refine⟨_,fun w=>?_,.bool _⟩;have:=lX (P:=P) Op.maxDepth he (.agg h1 h2) (.agg h3 h4) w;have hg':P.eqGuardType P.depth t=false:=by simpa using hg
    rw[YF,run_eqGuard_agg w _ _ _ _ _ _ hg'];simp only[YE,binOp,Op.equal,YF,this,YG]
 case h_23 =>
  have key:oT x'=true/\∃b,k8 P Op.maxDepth t x y=some b/\v=.bool b:=by
   split at h<;>first
    |(cases h; done)
    | (refine⟨?_,?_⟩
       cases hx<;>rfl
       ·cases he:k8 P Op.maxDepth t _ y with
        | none=>rw[he] at h; cases h
        | some b=>rw[he] at h; cases h; exact⟨b,rfl,rfl⟩)
  obtain⟨hs,b,he,rfl⟩:=key;refine⟨_,fun w=>?_,.bool b⟩;rw[YF,eC _ _ _ _ (by intro _ _ e; subst e; cases hs) (by intro e; subst e; cases hs),YE,binOp_eql hs]
  simp only[Op.equal,YF,lX _ he hx hy,YE,YG]
 case h_24 =>
  have key:oT x'=true/\∃b,k8 P Op.maxDepth t x y=some b/\v=.bool (!b):=by
   split at h<;>first
    |(cases h; done)
    | (refine⟨?_,?_⟩
       cases hx<;>rfl
       ·cases he:k8 P Op.maxDepth t _ y with
        | none=>rw[he] at h; cases h
        | some b=>rw[he] at h; cases h; exact⟨b,rfl,rfl⟩)
  obtain⟨hs,b,he,rfl⟩:=key;refine⟨_,fun w=>?_,.bool (!b)⟩;rw[YF,eC _ _ _ _ (by intro _ _ e; subst e; cases hs) (by intro e; subst e; cases hs),YE,binOp_neq hs]
  simp only[Op.equal,YF,lX _ he hx hy,YE,YG]
 case h_25=>cases h
 all_goals
  cases hx; cases hy
  split at h
  rename_i hk;cases h;refine⟨_,fun w=>?_,(by first|exact .bool _|exact .int _ _)⟩
  rw[YF,eC _ _ _ _ (by intro _ _ e; cases e) (by intro e; cases e)]
  simp only[YE,binOp,hk,ne_eq,not_true_eq_false,if_false,Op.intArith,Op.intBits,Op.intCmp,YG]
  cases h
def Qc{op:UnOp}{x x' v:XI}(h:Gq op x=some v)(hx:VR j x x'):∃v',pR P (Op.unary op x') v'/\VR j v v':=by
 unfold Gq at h
 split at h
 cases h; cases hx; exact⟨_,fun w=>rfl,.int _ _⟩
 cases h; cases hx; exact⟨_,fun w=>rfl,.int _ _⟩
 cases h; cases hx; exact⟨_,fun w=>rfl,.bool _⟩
 cases h
def GY{s d:XJ}{x x' v:XI}(h:lj P s d x=some v)(hx:VR j x x'):∃v',pR P (convert s d x') v'/\VR j v v':=by
 unfold lj at h
 split at h
 rename_i e1 e2;cases h; cases hx;refine⟨_,fun w=>?_,.int _ _⟩;simp only[convert,YF,YH e1,YH e2,YE,Conv.intToInt,YG]
 rename_i e1 e2;cases h; cases hx;refine⟨_,fun w=>?_,.string _⟩;simp only[convert,YF,YH e1,YH e2,YE]
 rfl
 cases h
end
section
variable{P:XL}{j:aR}
def cells_one{v:XI}(h:mh v=true):v.cells.toList=[v]:=by
 cases v<;>first|rfl |(simp[mh] at h)
def iU{v v':XI}(h:VR j v v'):LR j v.cells.toList v'.cells.toList:=by
 cases h with
 | junk h=>rw[cells_one (xn h)]; exact LR.cons (.junk h) (.nil j)
 | agg h1 h2=>exact LR.gB h1 h2
 | bool b=>exact LR.cons (.bool b) (.nil j)
 | int k n=>exact LR.cons (.int k n) (.nil j)
 | string s=>exact LR.cons (.string s) (.nil j)
 | pnil=>exact LR.cons .pnil (.nil j)
 | ptr h=>exact LR.cons (.ptr h) (.nil j)
 | snil l c=>exact LR.cons (.snil l c) (.nil j)
 | slice h hm=>exact LR.cons (.slice h hm) (.nil j)
 | sliceM h hm h1 h2 hl hc=>exact LR.cons (.sliceM h hm h1 h2 hl hc) (.nil j)
 | gV=>exact LR.cons .gV (.nil j)
 | dry=>exact LR.cons .dry (.nil j)
 | mnil=>exact LR.cons .mnil (.nil j)
 | map h=>exact LR.cons (.map h) (.nil j)
 | func h1 h2 h3 h4=>exact LR.cons (.func h1 h2 h3 h4) (.nil j)
 | yield h h1 h2=>exact LR.cons (.yield h h1 h2) (.nil j)
 | nilFunc=>exact LR.cons .nilFunc (.nil j)
 | nilIface=>exact LR.cons .nilIface (.nil j)
 | tuple h1 h2=>exact LR.cons (.tuple h1 h2) (.nil j)
def LR.Po{cs cs' vs vs':YB XI}(h:LR j cs cs')(hv:LR j vs vs')(o:Nat):LR j (aB cs o vs) (aB cs' o vs') :=
 ⟨by rw[bc,bc,h.1],fun i v hi=>by
  rw[aQ] at hi ⊢;rw[<-hv.1,<-h.1]
  split at hi
  rename_i hc; rw[U5 hc]; exact hv.2 _ v hi
  rename_i hc; rw[U3 hc]; exact h.2 _ v hi⟩
def rq(off:Nat):∀(l:YB XI) (k:Nat) (cs:YD XI),off+k+l.length<=cs.size ->
  (l.zipIdx k).foldl (fun(cs:YD XI) (x:XI×Nat)=>cs.setIfInBounds (off+x.2) x.1) cs=(aB cs.toList (off+k) l).toArray
 | [],k,cs,_=>by simp[s7]
 | v::l,k,cs,h=>by
  have h':off+k+(l.length+1)<=cs.size:=by simpa using h
  simp only[List.zipIdx_cons,List.foldl_cons];rw[rq off l (k+1) _ (by simp; omega),ee _ _ _ _ (by simp; omega)]
  simp[Nat.add_assoc]
def qN{place:Nat->YA (Nat×Nat)}:∀{ps:YB (Nat×XI)} {ps':YB (Nat×XI)} {cells cells' r:YB XI},ps.map (·.1)=ps'.map (·.1)->LR j (ps.map (·.2)) (ps'.map (·.2)) ->
  LR j cells cells'->jZ place cells ps=some r->∃r',Instr.fill place cells'.toArray ps'=some r'.toArray/\LR j r r'
 | [],ps',cells,cells',r,h1,_,hc,h=>by
  cases ps' with
  | nil=>cases h; exact⟨cells',rfl,hc⟩
  | cons _ _=>simp at h1
 | (i,v)::rest,ps',cells,cells',r,h1,h2,hc,h=>by
  cases ps' with
  | nil=>simp at h1
  | cons p rest' =>
   obtain⟨i',v'⟩:=p;simp only[V6,List.cons.injEq] at h1;obtain⟨rfl,h1⟩:=h1;have hv:=h2.head;have hrest:=h2.tail;simp only[jZ] at h
   split at h
   cases h
   rename_i off size hp
   split at h
   cases h
   rename_i hcond;have hcells:=iU hv;have hsz:v.cells.size=v'.cells.size:=by simpa using hcells.1
   have hlen:cells.length=cells'.length:=hc.1;have hcond':¬((v'.cells.size≠size||off+v'.cells.size>cells'.toArray.size)=true):=by
    rw[<-hsz]; simpa [<-hlen] using hcond
   simp only[Instr.fill,hp,U3 hcond'];have hle:off+0+v'.cells.toList.length<=cells'.toArray.size:=by
    simp only[Wv,not_or,Vm] at hcond';simp; have:=hcond'.2; simp at this; omega
   have hfold:=rq off v'.cells.toList 0 cells'.toArray hle;have hz:v'.cells.zipIdx.foldl (fun cs x=>cs.setIfInBounds (off+x.2) x.1) cells'.toArray=(aB cells' off v'.cells.toList).toArray:=by
    rw[<-Array.foldl_toList,Array.toList_zipIdx];exact hfold
   rw[show(v'.cells.zipIdx.foldl (fun cs (x:XI×Nat)=>match x with |(c,j)=>cs.setIfInBounds (off+j) c) cells'.toArray)=(aB cells' off v'.cells.toList).toArray from hz]
   exact qN h1 hrest (hc.Po hcells off) h
def xh:∀(l:YB Field) (w:XM),l.all (fun f=>known P f.type)=true ->
  (l.mapM fun(f:Field)=>(do pure (f.offset,<-sizeOf f.type):Sem (Nat×Nat))).run P w=.ok (l.map fun f=>(f.offset,aE P f.type)) w
 | [],w,_=>rfl
 | f::l,w,h=>by
  simp only[W0,Va] at h;simp only[List.mapM_cons,YF,cL h.1,YE,YG,xh l w h.2,V6]
def JM(fields:YD Field)(h:fields.toList.all (fun f=>known P f.type)=true)(w:XM) :
  (fields.mapM fun(f:Field)=>(do pure (f.offset,<-sizeOf f.type):Sem (Nat×Nat))).run P w=.ok (fields.map fun f=>(f.offset,aE P f.type)) w:=by
 obtain⟨l⟩:=fields;simp only[List.mapM_toArray,Sem.run_map,List.map_toArray];rw[xh l w h]; rfl
def Gl{t:XJ}{ps ps':YB (Nat×XI)}{v:XI}(h:nw P t ps=some v)(h1:ps.map (·.1)=ps'.map (·.1))(h2:LR j (ps.map (·.2)) (ps'.map (·.2)))
  {z:XI} (hz:bp P t=some z) (hp:bH z=true):∃v',pR P (Instr.build t ps'.toArray) v'/\VR j v v':=by
 have hzc:LR j z.cells.toList z.cells.toList:=iU (VR.bH hp);unfold nw at h;rw[hz] at h
 split at h
 ·rename_i z0 fields hz0 hu;cases hz0
  split at h
  ·rename_i hall;cases hf:jZ (fun i=>(fields[i]?).map fun f=>(f.offset,aE P f.type)) z.cells.toList ps with
   | none=>rw[hf] at h; cases h
   | some r =>
    rw[hf] at h; cases h;obtain⟨r',h3,h4⟩:=qN h1 h2 hzc hf;refine⟨.agg r'.toArray,fun w=>?_,.F5 (by simpa using h4)⟩
    have hpl:(fun(i:Nat)=>(fields.map fun(f:Field)=>(f.offset,aE P f.type))[i]?)=fun i=>(fields[i]?).map fun(f:Field)=>(f.offset,aE P f.type):=by
     funext i; simp
    simp only[Instr.build,YF,jW hz,YH hu,YE,JM fields hall,hpl];have h3':Instr.fill _ z.cells ps'=some r'.toArray:=h3;rw[h3']; rfl
  cases h
 ·rename_i z0 n elem hz0 hu;cases hz0
  split at h
  ·rename_i hk;cases hf:jZ (fun i=>some (i*aE P elem,aE P elem)) z.cells.toList ps with
   | none=>rw[hf] at h; cases h
   | some r =>
    rw[hf] at h; cases h;obtain⟨r',h3,h4⟩:=qN h1 h2 hzc hf;refine⟨.agg r'.toArray,fun w=>?_,.F5 (by simpa using h4)⟩
    simp only[Instr.build,YF,jW hz,YH hu,YE,cL hk];have h3':Instr.fill _ z.cells ps'=some r'.toArray:=h3;rw[h3']; rfl
  cases h
 cases h
def jE{x x':XI}{y l:Nat}(h:kg x y=some l)(hx:VR j x x'){y':Nat}(hy:y<=y')(code:BoundsCode)(w:XM) :
  (Instr.sliceBound x' y' code).run P w=.ok l w/\l<=y:=by
 unfold kg at h
 split at h
 rename_i k i
 split at h
 rename_i hc;cases h;cases hx;refine⟨?_,by omega⟩
 simp only[Instr.sliceBound,asIntOf,YF,YG,YE];rw[U5 ⟨hc.1,by omega⟩]; rfl
 cases h
 cases h
def iZ(mx:YA XI)(c m:Nat):Nat:=match mx with|none=>c|some _=>m
inductive OVR(j:aR):YA XI->YA XI->Prop
 | none:OVR j none none
 | some {v v':XI} (h:VR j v v'):OVR j (some v) (some v')
def jP{len cap:Nat}{lo hi mx:YA XI}{l h m:Nat}(e:bT len cap lo hi mx=some (l,h,m)):l<=h/\m<=cap/\(hi.isSome=true->h<=m)/\(hi=none->h=len/\mx=none)/\(mx=none->m=cap):=by
 have hb:∀(x:XI) (y l:Nat),kg x y=some l->l<=y:=by
  intro x y l h;unfold kg at h
  split at h
  split at h
  rename_i hc; cases h; omega
  cases h
  cases h
 unfold bT at e
 split at e
 cases e
 ·rename_i m' hm
  split at e
  cases e
  ·rename_i h' hh
   split at e
   cases e
   ·rename_i l' hl;cases e;have h1:m<=cap:=by
     cases mx with
     | none=>simp at hm; omega
     | some v=>exact hb _ _ _ hm
    have h2:hi.isSome=true->h<=m:=by
     cases hi with
     | none=>intro e; cases e
     | some v=>intro _; cases mx<;>exact hb _ _ _ hh
    have h3:hi=none->h=len/\mx=none:=by
     intro e; subst e;cases mx with
     | none=>simp at hh; exact⟨hh.symm,rfl⟩
     | some v=>simp at hh
    have h4:l<=h:=by
     cases lo with
     | none=>simp at hl; omega
     | some v=>exact hb _ _ _ hl
    have h5:mx=none->m=cap:=by intro e; subst e; simpa using hm.symm
    exact⟨h4,h1,h2,h3,h5⟩
def fp {len cap cap':Nat} {lo hi mx lo' hi' mx':YA XI} {l h m:Nat} (e:bT len cap lo hi mx=some (l,h,m)) (h1:OVR j lo lo') (h2:OVR j hi hi') (h3:OVR j mx mx') (hc:cap<=cap') (b:Bool) (w:XM) :
  (Instr.sliceBounds b len cap' lo' hi' mx').run P w=.ok (l,h,iZ mx cap' m) w:=by
 unfold bT at e
 split at e
 cases e
 ·rename_i m' hm
  split at e
  cases e
  ·rename_i h' hh
   split at e
   cases e
   ·rename_i l' hl;cases e;cases h3 with
    | none =>
     have hm':cap=m:=by simpa using hm
     subst hm';cases h2 with
     | none =>
      have hh':len=h:=by simpa using hh
      subst hh';cases h1 with
      | none =>
       have:0=l:=by simpa using hl
       subst this;simp only[iZ,Instr.sliceBounds,YF,YG,YE]
      | some r1 =>
       have:=(jE (P:=P) (by simpa using hl) r1 (U8 _) .sliceB w).1
       simp only[iZ,Instr.sliceBounds,YF,YG,YE,Option.isSome_none,VG,if_false,this]
     | some r2 =>
      have e2:=jE (P:=P) (by simpa using hh) r2 hc (if b then .sliceAcap else .sliceAlen) w
      cases h1 with
      | none =>
       have:0=l:=by simpa using hl
       subst this;simp only[iZ,Instr.sliceBounds,YF,YG,YE,e2.1]
      | some r1 =>
       have:=(jE (P:=P) (by simpa using hl) r1 (U8 _) .sliceB w).1
       simp only[iZ,Instr.sliceBounds,YF,YG,YE,Option.isSome_none,VG,if_false,e2.1,this]
    | some r3 =>
     have e3:=jE (P:=P) (by simpa using hm) r3 hc (if b then .slice3Acap else .slice3Alen) w
     cases h2 with
     | none=>simp at hh
     | some r2 =>
      have e2:=(jE (P:=P) (by simpa using hh) r2 (U8 _) .slice3B w).1
      cases h1 with
      | none =>
       have:0=l:=by simpa using hl
       subst this;simp only[iZ,Instr.sliceBounds,YF,YG,YE,e2,e3.1]
      | some r1 =>
       have:=(jE (P:=P) (by simpa using hl) r1 (U8 _) .slice3C w).1
       simp only[iZ,Instr.sliceBounds,YF,YG,YE,Option.isSome_some,if_true,e2,e3.1,this]
def fD(c o i:Nat):(⟨c,o,none⟩:Addr).add i=⟨c,o+i,none⟩:=by
 unfold Addr.add
 split
 rename_i e; subst e; rfl
 rfl
def MR.kindOf{E:Env}{m:Yq}{w:XM}(h:MR E j m w){b:Nat}{k:Blk}(hk:j b=some k){cs:YB XI}{tag:Tag}(hg:m.get b=some (.cells cs tag)) :
  match tag with
  | .more sz=>∃nc,k.more=some (sz,cs.length,nc)/\0<sz
  | _=>k.more=none:=by
 obtain⟨o',h1,h2⟩:=h.obj b _ k hg hk;cases o' with
 | cells c e fz =>
  have:=h2.1;cases tag with
  | ro=>exact this.1
  | own=>exact this.1
  | more sz=>exact⟨_,this.1,this.2.2.2.1⟩
 | _=>exact h2.elim
def Fw {E:Env} {m:Yq} {w:XM} (h:MR E j m w) {t:XJ} {x x' v:XI} {lo hi mx lo' hi' mx':YA XI} (e:cd E.P t x lo hi mx m=some v) (hx:VR j x x') (h1:OVR j lo lo') (h2:OVR j hi hi') (h3:OVR j mx mx') :
  ∃v',pR E.P (Instr.sliceAt t x' lo' hi' mx') v'/\VR j v v':=by
 unfold cd at e
 split at e
 ·
  rename_i elem len cap hu
  split at e
  ·rename_i hk
   split at e
   ·rename_i l hh mm hb;cases e; cases hx;refine⟨_,fun w=>?_,.snil _ _⟩;have:=fp (P:=E.P) (cap':=cap) hb h1 h2 h3 (U8 _) true w;have hm:iZ mx cap mm=mm:=by
     cases mx with
     | none=>exact((jP hb).2.2.2.2 rfl).symm
     | some _=>rfl
    rw[hm] at this;simp only[Instr.sliceAt,Instr.slice,YF,YH hu,YE,this,cL hk,YG]
    split<;>rfl
   cases e
  cases e
 ·rename_i elem b o len cap hu
  split at e
  ·rename_i hk
   split at e
   ·rename_i cs sz hg
    split at e
    cases e
    ·rename_i hsz;have hsz:sz=aE E.P elem:=Decidable.of_not_not hsz;cases hx with
     | slice hj hm =>
      have:=h.kindOf hj hg;simp only at this;obtain⟨nc,hmm,_⟩:=this;rw[hm] at hmm; cases hmm
     | sliceM hj hm e1 e2 hl hc =>
      rename_i cap' sz' na nc k;have hkd:=h.kindOf hj hg;simp only at hkd;obtain⟨nc',hmm,hpos⟩:=hkd;rw[hm] at hmm; cases hmm;cases h3 with
      | none =>
       simp only at e
       split at e
       ·rename_i l hh mm hb;have hbl:=jP hb;have hrun:=fun w=>fp (P:=E.P) (cap':=cap') hb h1 h2 .none hc true w;have hlc:l<=cap:=by
         cases hi with
         | none=>have:=hbl.2.2.2.1 rfl; omega
         | some _=>have:=hbl.2.2.1 rfl; omega
        split at e
        ·rename_i hcl;cases e;refine⟨_,fun w=>?_,.gV (a':=if cap'=l then⟨k.c,o,none⟩ else⟨k.c,o+l*aE E.P elem,none⟩) (cap':=cap'-l)⟩
         have hhl:hh-l=0:=by
          cases hi with
          | none=>have:=hbl.2.2.2.1 rfl; omega
          | some _=>have:=hbl.2.2.1 rfl; omega
         simp only[Instr.sliceAt,Instr.slice,YF,YH hu,YE,hrun,cL hk,YG,hhl,iZ]
         split
         rfl
         rw[Vx,fD]
        ·rename_i hcl;cases e;refine⟨.slice (some ⟨k.c,o+l*aE E.P elem,none⟩) (hh-l) (cap'-l),fun w=>?_,.sliceM hj hm ?_ ?_ ?_ ?_⟩
         have:¬cap'=l:=by omega
         simp only[Instr.sliceAt,Instr.slice,YF,YH hu,YE,hrun,cL hk,YG,U3 this,Vx,fD,iZ]
         subst hsz; rw[<-e1,Nat.sub_mul]; have:l*aE E.P elem<=cap*aE E.P elem:=V1 _ hlc; omega
         subst hsz; rw[<-e2,Nat.sub_mul]; have:l*aE E.P elem<=cap'*aE E.P elem:=V1 _ (by omega); omega
         ·cases hi with
          | none=>have:=hbl.2.2.2.1 rfl; omega
          | some _=>have:=hbl.2.2.1 rfl; omega
         omega
       cases e
      | some r3 =>
       simp only at e
       split at e
       rename_i l hh mm hb
       split at e
       rename_i hcond;cases e;have hrun:=fun w=>fp (P:=E.P) (cap':=cap') hb h1 h2 (.some r3) hc true w;refine⟨_,fun w=>?_,.dry (a':=⟨k.c,o,none⟩)⟩;simp only[Instr.sliceAt,Instr.slice,YF,YH hu,YE,hrun,cL hk,YG,hcond.2,hcond.1,Xz,iZ];simp
       cases e;have hrun:=fun w=>fp (P:=E.P) (cap':=cap') hb h1 h2 (.some r3) hc true w;refine⟨.slice (some (if mm=l then⟨k.c,o,none⟩ else⟨k.c,o+l*aE E.P elem,none⟩)) (hh-l) (mm-l),fun w=>?_,.junk rfl⟩
       simp only[Instr.sliceAt,Instr.slice,YF,YH hu,YE,hrun,cL hk,YG,iZ]
       split
       rfl
       rw[Vx,fD]
       cases e
   ·rename_i cs tag hnm hg
    split at e
    ·rename_i l hh mm hb;cases e;cases hx with
     | slice hj hm =>
      rename_i k;have hrun:=fun w=>fp (P:=E.P) (cap':=cap) hb h1 h2 h3 (U8 _) true w;have hmm:iZ mx cap mm=mm:=by
       cases mx with
       | none=>exact((jP hb).2.2.2.2 rfl).symm
       | some _=>rfl
      rw[hmm] at hrun;refine⟨.slice (some (if mm=l then⟨k.c,o,none⟩ else⟨k.c,o+l*aE E.P elem,none⟩)) (hh-l) (mm-l),fun w=>?_,?_⟩
      simp only[Instr.sliceAt,Instr.slice,YF,YH hu,YE,hrun,cL hk,YG]
      split
      rename_i hc; simp only[U5 hc]
      rename_i hc; simp only[Vx,fD]
      split
      exact .slice hj hm
      exact .slice hj hm
     | sliceM hj hm e1 e2 hl hc =>
      have hkd:=h.kindOf hj hg;cases tag with
      | more sz=>exact Vr rfl (hnm sz)
      | ro=>simp only at hkd; rw[hm] at hkd; cases hkd
      | own=>simp only at hkd; rw[hm] at hkd; cases hkd
    cases e
   cases e
  cases e
 ·
  rename_i elem b o sp hu
  split at e
  ·rename_i hk
   split at e
   ·rename_i r hb;obtain⟨l,hh,mm⟩:=r;cases e;have hbl:=jP hb;have hl0:l=0/\hh=0:=by
     cases hi with
     | none=>have:=hbl.2.2.2.1 rfl; omega
     | some _=>have:=hbl.2.2.1 rfl; omega
    cases hx with
    | gV =>
     rename_i a' cap';have hrun:=fun w=>fp (P:=E.P) (cap':=cap') hb h1 h2 h3 (V9 _) true w;refine⟨_,fun w=>?_,.gV (a':=a') (cap':=iZ mx cap' mm)⟩;simp only[Instr.sliceAt,Instr.slice,YF,YH hu,YE,hrun,cL hk,YG,hl0.1,hl0.2,Xz,Xg,WK,Vx];simp[Addr.add]
    | dry =>
     rename_i a';have hrun:=fun w=>fp (P:=E.P) (cap':=0) hb h1 h2 h3 (V9 _) true w;have hmm:iZ mx 0 mm=0:=by
      cases mx with
      | none=>rfl
      | some _=>have:=hbl.2.1; simp[iZ]; omega
     rw[hmm] at hrun;refine⟨_,fun w=>?_,.dry (a':=a')⟩;simp only[Instr.sliceAt,Instr.slice,YF,YH hu,YE,hrun,cL hk,YG,hl0.1,hl0.2,Xz,Xg,Vx];simp
   cases e
  cases e
 ·
  rename_i n elem b o hu
  split at e
  ·rename_i hk
   split at e
   cases e
   ·rename_i cs tag hnm hg
    split at e
    ·rename_i l hh mm hb;cases e;cases hx with
     | ptr hj =>
      rename_i k;have hrun:=fun w=>fp (P:=E.P) (cap':=n) hb h1 h2 h3 (U8 _) false w;have hmm:iZ mx n mm=mm:=by
       cases mx with
       | none=>exact((jP hb).2.2.2.2 rfl).symm
       | some _=>rfl
      rw[hmm] at hrun;have hkd:=h.kindOf hj hg;have hm:k.more=none:=by
       cases tag with
       | more sz=>exact Vr rfl (hnm sz)
       | ro=>exact hkd
       | own=>exact hkd
      refine⟨.slice (some (if mm=l then⟨k.c,o,none⟩ else⟨k.c,o+l*aE E.P elem,none⟩)) (hh-l) (mm-l),fun w=>?_,?_⟩
      simp only[Instr.sliceAt,Instr.sureAddr,YF,YH hu,YE,hrun,cL hk,YG]
      split
      rename_i hc; simp only[U5 hc]
      rename_i hc; simp only[fD]
      split
      exact .slice hj hm
      exact .slice hj hm
    cases e
   cases e
  cases e
 cases e
def wL{t:XJ}{x x' v:XI}{f:Nat}(e:aG P t x f=some v)(hx:VR j x x'):∃v',pR P (Instr.fieldAt t x' f) v'/\VR j v v':=by
 unfold aG at e
 split at e
 ·rename_i fields b o hu
  split at e
  ·rename_i fl hf
   split at e
   ·rename_i hk;simp only[Va,bne_iff_ne,ne_eq] at hk;cases e;cases hx with
    | ptr hj =>
    rename_i k;refine⟨_,fun w=>?_,.ptr hj⟩;simp only[Instr.fieldAt,YF,YH hu,YE,hf,Instr.sureAddr,YG,fieldPlace,cL hk.1,U3 hk.2,fD]
   cases e
  cases e
 cases e
def GL{t:XJ}{x x' v:XI}(e:Ea P t x=some v)(hx:VR j x x'):∃v',pR P (Instr.arrayAt t x') v'/\VR j v v':=by
 unfold Ea at e
 split at e
 ·rename_i n el b o len cap hu
  split at e
  ·rename_i hc;cases e;have hn:¬len<n:=by omega
   cases hx with
   | slice hj hm=>exact⟨_,fun w=>by simp only[Instr.arrayAt,YF,YH hu,YE,U3 hn,YG],.ptr hj⟩
   | sliceM hj hm h1 h2 hl hc2=>exact⟨_,fun w=>by simp only[Instr.arrayAt,YF,YH hu,YE,U3 hn,YG],.ptr hj⟩
  cases e
 cases e
def wO{t:XJ}{x x' y y' v:XI}(e:cq P t x y=some v)(hx:VR j x x')(hy:VR j y y'):∃v',pR P (Instr.indexAt t x' y') v'/\VR j v v':=by
 unfold cq at e
 split at e
 ·rename_i len elem b o k i hu
  split at e
  ·rename_i hc;simp only[Va,Vm] at hc;cases e;cases hy;cases hx with
   | ptr hj =>
   refine⟨_,fun w=>?_,.ptr hj⟩;simp only[Instr.indexAt,asIntOf,YF,YH hu,YE,Instr.sureAddr,YG,cL hc.1,U5 hc.2,fD]
  cases e
 ·rename_i elem b o len cap k i hu
  split at e
  ·rename_i hc;simp only[Va,Vm] at hc;cases e;cases hy;cases hx with
   | slice hj hm =>
    refine⟨_,fun w=>?_,.ptr hj⟩;simp only[Instr.indexAt,asIntOf,YF,YH hu,YE,YG,cL hc.1,U5 hc.2,fD]
   | sliceM hj hm e1 e2 hl hcap =>
    refine⟨_,fun w=>?_,.ptr hj⟩;simp only[Instr.indexAt,asIntOf,YF,YH hu,YE,YG,cL hc.1,U5 hc.2,fD]
  cases e
 cases e
def FP{t:XJ}{x x' y y' v:XI}(e:iB P t x y=some v)(hx:VR j x x')(hy:VR j y y'):∃v',pR P (Instr.index t x' y') v'/\VR j v v':=by
 unfold iB at e
 split at e
 ·rename_i len elem cs k i hu
  split at e
  ·rename_i hc;cases hy;cases hx with
   | agg h1 h2 =>
   have hk:known P elem=true:=by
    unfold dA at e
    split at e
    cases e
    rename_i hk; simpa using hk
   obtain⟨v',h3,h4⟩:=re e (LR.gB h1 h2);refine⟨v',fun w=>?_,h4⟩;simp only[Instr.index,asIntOf,YF,YH hu,YE,YG,U5 hc,cL hk,h3]
  cases e
 ·rename_i s k i hu
  split at e
  ·rename_i hc;cases hy; cases hx;cases hs:s[i.toNat]? with
   | none=>rw[hs] at e; cases e
   | some b =>
    rw[hs] at e; cases e;refine⟨_,fun w=>?_,.int _ _⟩;simp only[Instr.index,asIntOf,YF,YH hu,YE,YG,U5 hc,hs]
  cases e
 cases e
def F0{t:XJ}{x x' v:XI}{f:Nat}(e:ji P t x f=some v)(hx:VR j x x'):∃v',pR P (Instr.field t x' f) v'/\VR j v v':=by
 unfold ji at e
 split at e
 ·rename_i fields cs hu
  split at e
  ·rename_i fl hf;cases hx with
   | agg h1 h2 =>
   obtain⟨v',h3,h4⟩:=re e (LR.gB h1 h2);refine⟨v',fun w=>?_,h4⟩;simp only[Instr.field,YF,YH hu,YE,hf,asAgg,YG,h3]
  cases e
 cases e
def Ba{E:Env}{m:Yq}{w:XM}(h:MR E j m w){t:XJ}{x x' v:XI}(e:eB E.P t x m=some v)(hx:VR j x x') :
  ∃v',(Instr.loadAt t x').run E.P w=.ok v' w/\VR j v v':=by
 unfold eB at e
 split at e
 ·rename_i b o
  split at e
  cases e
  ·rename_i hk;have hk':known E.P t=true:=by simpa using hk
   cases hx with
   | ptr hj =>
   rename_i k
   split at e
   ·rename_i ha;cases hl:m.ek b o (aE E.P t) with
    | none=>rw[hl] at e; cases e
    | some vs =>
     rw[hl] at e; cases e;obtain⟨vs',h1,h2⟩:=h.ek hj hl;refine⟨.agg vs'.toArray,?_,.F5 (by simpa using h2)⟩
     simp only[Instr.loadAt,Instr.sureAddr,YF,YG,YE,loadVar,pd hk',ha,if_true,cL hk',h1 w rfl]
   rename_i ha;have ha':eh E.P t=false:=by simpa using ha
   split at e
   rename_i cs tag hg;obtain⟨v',h1,h2⟩:=h.cell hj hg e;refine⟨v',?_,h2⟩;simp only[Instr.loadAt,Instr.sureAddr,YF,YG,YE,loadVar,pd hk',ha',VG,if_false,run_load,h1]
   cases e
 cases e
end
section
variable{E:Env}{j:aR}{m:Yq}{w:XM}
def OR.own{c:Nat}{cs:YB XI}{c':YD XI}{elem:XJ}(h:LR j cs c'.toList):OR j ⟨c,none⟩ (.cells cs .own) (.cells c' elem) :=
 ⟨⟨rfl,by simpa using h.1.symm,rfl⟩,fun i v hi=>by
  obtain⟨v',a,b⟩:=h.get hi;exact⟨v',by simpa using a,b⟩⟩
def lC{zero:YD XI}:∀(n:Nat),((Array.range (n*zero.size)).map fun i=>zero[i%zero.size]!).toList=bl zero.toList n:=by
 intro n
 by_cases hz:zero.size=0
 ·have:zero=#[]:=Xf hz;subst this;have:∀n,bl ([]:YB XI) n=[]:=by
   intro n
   induction n with
   | zero=>rfl
   | succ n ih=>simpa [bl] using ih
  simp[this]
 ·have hpos:0<zero.size:=Nat.pos_of_ne_zero hz;have hlen:∀n,(bl zero.toList n).length=n*zero.size:=by
   intro n
   induction n with
   | zero=>simp[bl]
   | succ n ih=>simp[bl,ih,V2,Nat.add_comm]
  have hget:∀n i,i<n*zero.size->(bl zero.toList n)[i]? = zero[i%zero.size]?:=by
   intro n
   induction n with
   | zero=>intro i hi; simp at hi
   | succ n ih =>
    intro i hi;simp only[bl]
    by_cases hlt:i<zero.size
    rw[VU (by simpa using hlt),WA hlt]; simp
    have hge:zero.size<=i:=by omega
    rw[VO (by simpa using hge)]
    have:=ih (i-zero.size) (by rw[V2] at hi; omega)
    simp only[WN];rw[this,<-Nat.mod_eq_sub_mod hge]
  apply Wg;intro i
  by_cases hi:i<n*zero.size
  rw[hget n i hi];have hlt:i%zero.size<zero.size:=VM _ hpos;simp[hi,hlt]
  rw[V8 (by simp; omega),V8 (by rw[hlen]; omega)]
def ku{P:XL}{elem:XJ}{n:Nat}{zs:YB XI}(h:gq P elem n=some zs):∃z,bp P elem=some z/\z.cells.size=aE P elem/\zs=bl z.cells.toList n:=by
 unfold gq at h
 split at h
 rename_i z hz
 split at h
 rename_i hs; cases h; exact⟨z,hz,hs,rfl⟩
 cases h
 cases h
def bO(l:YB XI)(n:Nat):(bl l n).length=n*l.length:=by
 induction n with
 | zero=>simp[bl]
 | succ n ih=>simp[bl,ih,V2,Nat.add_comm]
def Gn(h:MR E j m w){t:XJ}{x x' v v':XI}{m':Yq}(e:ik E.P t x v m=some m')(hx:VR j x x')(hv:VR j v v') :
  ∃w',(Instr.storeAt t x' v').run E.P w=.ok () w'/\Sim E j m w j m' w':=by
 unfold ik at e
 split at e
 ·rename_i b o
  split at e
  ·rename_i hc;simp only[Va,beq_iff_eq] at hc;obtain⟨⟨hk,hs⟩,ho⟩:=hc;cases hx with
   | ptr hj =>
   have hvc:=iU hv;obtain⟨w',h1,h2⟩:=jY h hj hvc ho e;refine⟨w',?_,h2⟩;have hs':v'.cells.size=aE E.P t:=by have:=hvc.1; simp at this; omega
   have hne:¬v'.cells.size≠aE E.P t:=by simp[hs']
   simp only[Instr.storeAt,Instr.sureAddr,YF,YG,YE,storeVar,cL hk,U3 hne,h1]
  cases e
 cases e
def gI{v v':XI}(hp:aP v=true)(h:VR j v v'):v'=v:=by
 cases h<;>first|rfl |(simp[aP] at hp)
def rU:∀{l l':YB XI},l.all aP=true->LR j l l'->l'=l
 | [],_,_,h=>h.dI
 | v::l,l',hp,h=>by
  obtain⟨y,ys,rfl,h1,h2⟩:=h.cons_inv;simp only[W0,Va] at hp;rw[gI hp.1 h1,rU hp.2 h2]
def iE{v v':XI}(hp:bH v=true)(h:VR j v v'):v'=v:=by
 cases h with
 | agg h1 h2 =>
  have:=rU (by simpa [bH] using hp) (LR.gB h1 h2)
  exact Vs Value.agg (Wx.1 this)
 | tuple h1 h2 =>
  have:=rU (by simpa [bH] using hp) (LR.gB h1 h2)
  exact Vs Value.tuple (Wx.1 this)
 | func h1 h2 h3 h4=>simp[bH,aP] at hp
 | yield h h1 h2=>simp[bH,aP] at hp
 | _=>first|rfl |(simp[bH,aP] at hp)
def iO{P:XL}{kt:XJ}{k:XI}(h:lA P kt k=true):bH k=true:=by
 unfold lA at h
 split at h
 rfl
 rfl
 rfl
 simp only[Va] at h; exact h.2
 simp only[Va] at h; exact h.2
 cases h
def checkKind{P:XL}{t:XJ}(ht:dH P t=true)(n:Nat)(v:XI)(b:Bool)(w:XM):(Instr.checkKey b (n+1) t v).run P w=.ok () w:=by
 unfold dH at ht;simp only[Instr.checkKey,YF];cases hu:P.underlying t with
 | none=>rw[hu] at ht; cases ht
 | some d =>
  rw[hu] at ht;simp only[YH hu,YE];cases d<;>first |(simp at ht; done)|rfl
def nT{P:XL}{α:Type}(f:α->Sem YC)(w:XM):∀(l:YB α),(∀x∈l,(f x).run P w=.ok () w) ->
  (forIn l PUnit.unit (fun x _=>do f x; pure (ForInStep.yield PUnit.unit)):Sem PUnit).run P w=.ok PUnit.unit w
 | [],_=>rfl
 | x::l,h=>by
  simp only[List.forIn_cons,YF,h x (by simp),YE,YG]
  exact nT f w l fun y hy=>h y (by simp[hy])
def CJ{P:XL}{t:XJ}(h:dH P t=true):eh P t=false:=by
 unfold dH at h;unfold eh;cases hu:P.underlying t with
 | none=>rfl
 | some d=>rw[hu] at h; cases d<;>first|rfl |(simp at h)
def xj{P:XL}{t:XJ}(h:dH P t=true)(hk:known P t=true){cs:YD XI}{o:Nat}(ho:o<cs.size)(w:XM):(part t cs o).run P w=.ok cs[o] w:=by
 simp[part,pd hk,CJ h,ho]
def eA{P:XL}{kt:XJ}{k:XI}(h:lA P kt k=true)(b:Bool)(w:XM):(Instr.checkKey b 10000 kt k).run P w=.ok () w:=by
 unfold lA at h
 split at h
 rename_i hu; exact checkKind (by simp[dH,hu]) 9999 _ b w
 rename_i hu; exact checkKind (by simp[dH,hu]) 9999 _ b w
 rename_i hu; exact checkKind (by simp[dH,hu]) 9999 _ b w
 rename_i len elem cs hu;simp only[Va,beq_iff_eq] at h;obtain⟨⟨⟨⟨hek,hkn⟩,hsz⟩,hlen⟩,_⟩:=h;have key:∀n,(Instr.checkKey b (n+1+1) kt (.agg cs)).run P w=.ok () w:=by
  intro n;unfold Instr.checkKey;simp only[YF,YH hu,YE];rw[Std.Legacy.Range.forIn_eq_forIn_range'];simp only[Std.Legacy.Range.size,WK,Nat.add_sub_cancel,Nat.div_one];have:=nT (P:=P) (fun i=>do Instr.checkKey b (n+1) elem (<-part elem cs (i*(<-sizeOf elem)))) w (List.range' 0 len) (fun x hx=>by
   have hlt:x<cs.size:=by rw[List.mem_range'] at hx; obtain⟨i,h1,h2⟩:=hx; omega
   simp only[YF,cL hkn,hsz,Nat.mul_one,xj hek hkn hlt,YE];exact checkKind hek n _ b w)
  simp only[bind_assoc] at this;rw[this]; rfl
 exact key 9998
 ·rename_i fs cs hu;simp only[Va] at h;have key:∀n,(Instr.checkKey b (n+1+1) kt (.agg cs)).run P w=.ok () w:=by
   intro n;unfold Instr.checkKey;simp only[YF,YH hu,YE];rw[<-Array.forIn_toList];have hall:=h.1;generalize fs.toList=l at hall;clear hu
   induction l with
   | nil=>rfl
   | cons f l ih =>
    simp only[W0,Va,Vm] at hall;obtain⟨⟨⟨h1,h2⟩,h3⟩,h4⟩:=hall;have ih':=ih (by simpa [Va] using h4)
    simp only[List.forIn_cons,YF,Sem.run_ite]
    split
    simp only[xj h1 h2 h3,YE,checkKind h1 n _ b w,YG];exact ih'
    simp only[YG,YE];exact ih'
  exact key 9998
 cases h
inductive FR(j:aR):YA (Nat×XI)->YA (Nat×XI)->Prop
 | none:FR j none none
 | some {i:Nat} {v v':XI} (h:VR j v v'):FR j (some (i,v)) (some (i,v'))
def p7{P:XL}{kt:XJ}{k k':XI}(hk:VR j k k'):∀{es:YB (XI×XI)} {es':YB MapEntry} {i:Nat} {r:YA (Nat×XI)},nL P kt k es i=some r->ER j es es' ->
  ∃r',(∀w,(Instr.findAsking kt k' es' i).run P w=.ok r' w)/\FR j r r'
 | [],[],i,r,h,_=>by cases h; exact⟨_,fun w=>rfl,.none⟩
 | e::es,f::fs,i,r,h,he=>by
  simp only[nL] at h
  split at h
  rename_i hq;cases h;refine⟨some (i,f.val),fun w=>?_,.some he.2.1⟩;simp only[Instr.findAsking,YF,Op.equal,lX _ hq hk he.1,YE,if_true,YG]
  rename_i hq;obtain⟨r',h1,h2⟩:=p7 hk h he.2.2;refine⟨r',fun w=>?_,h2⟩;simp only[Instr.findAsking,YF,Op.equal,lX _ hq hk he.1,YE,VG,if_false,h1]
  cases h
 | [],_::_,_,_,_,he=>he.elim
 | _::_,[],_,_,_,he=>he.elim
def vK{P:XL}{kt:XJ}{d:TypeDesc}{k k' x x':XI}{b b':Bool}(hu:P.underlying kt=some d)(hk:VR j k k')(hx:VR j x x')(h:Instr.sameNow d k' x'=some b')(he:k8 P Op.maxDepth kt k x=some b):b=b':=by
 have:=lX (P:=P) Op.maxDepth he hk hx default;rw[show Op.maxDepth=9999+1 from rfl] at this
 unfold Instr.sameNow at h
 split at h
 rename_i k0 k1 a k2 c
 split at h
 rename_i hkk;subst hkk;cases h;rw[run_equalIn_int _ 9999 kt _ _ a c hu] at this;injection this with h1 _; exact h1.symm
 cases h
 cases h;rw[run_equalIn_string _ 9999 kt _ _ hu,<-beq_toListBytes] at this;injection this with h1 _; exact h1.symm
 cases h;rw[run_equalIn_bool' _ 9999 kt _ _ hu] at this;injection this with h1 _; exact h1.symm
 cases h
def u9{P:XL}{kt:XJ}{d:TypeDesc}{k k':XI}(hu:P.underlying kt=some d)(hk:VR j k k'):∀{es:YB (XI×XI)} {es':YB MapEntry} {i:Nat} {r r':YA (Nat×XI)},nL P kt k es i=some r->ER j es es' ->
  Instr.findNow d k' es' i=some r'->FR j r r'
 | [],[],i,r,r',h,_,h'=>by cases h; cases h'; exact .none
 | e::es,f::fs,i,r,r',h,he,h'=>by
  simp only[nL] at h;simp only[Instr.findNow] at h'
  split at h'
  rename_i hs;cases h'
  split at h
  cases h; exact .some he.2.1
  rename_i hq; cases vK hu hk he.1 hs hq
  cases h
  rename_i hs
  split at h
  rename_i hq; cases vK hu hk he.1 hs hq
  exact u9 hu hk h he.2.2 h'
  cases h
  cases h'
 | [],_::_,_,_,_,_,he,_=>he.elim
 | _::_,[],_,_,_,_,he,_=>he.elim
def ij{P:XL}{kt:XJ}{d:TypeDesc}{k k':XI}(hu:P.underlying kt=some d)(hk:VR j k k'){es:YB (XI×XI)}{es':YB MapEntry}{r:YA (Nat×XI)}(h:nL P kt k es 0=some r)(he:ER j es es') :
  ∃r',(∀w,(Instr.findKey kt k' es').run P w=.ok r' w)/\FR j r r':=by
 cases hn:Instr.findNow d k' es' 0 with
 | some r' =>
  refine⟨r',fun w=>?_,u9 hu hk h he hn⟩;simp only[Instr.findKey,YF,YH hu,YE,hn,YG]
 | none =>
  obtain⟨r',h1,h2⟩:=p7 hk h he;refine⟨r',fun w=>?_,h2⟩;simp only[Instr.findKey,YF,YH hu,YE,hn,h1]
def mZ{P:XL}{kt:XJ}{k:XI}(h:lA P kt k=true):∃d,P.underlying kt=some d:=by
 unfold lA at h;cases hu:P.underlying kt with
 | some d=>exact⟨d,rfl⟩
 | none=>rw[hu] at h; simp at h
def MR.Eh(h:MR E j m w){b:Nat}{k:Blk}(hk:j b=some k){es:YB (XI×XI)}(hg:m.get b=some (.map es)):∃es' clock,w.heap[k.c]? = some (.map es' clock)/\ER j es es'.toList:=by
 obtain⟨o',h1,h2⟩:=h.obj b _ k hg hk;cases o' with
 | map es' clock=>exact⟨es',clock,h1,h2.1⟩
 | _=>exact h2.elim
def MR.C4(h:MR E j m w){b:Nat}{k:Blk}(hk:j b=some k){es:YB (XI×XI)}(hg:m.get b=some (.map es)){es':YD MapEntry}{clock:Nat}(hw:w.heap[k.c]? = some (.map es' clock)):rz es' clock:=by
 obtain⟨o',h1,h2⟩:=h.obj b _ k hg hk;rw[hw] at h1;cases h1;exact h2.2
def run_getObj_map{P:XL}{w:XM}{r:Nat}{es:YD MapEntry}{c:Nat}(h:w.heap[r]? = some (.map es c)):(getObj r).run P w=.ok (.map es c) w:=by simp[getObj,Sem.run,h]
def run_setObj_map{P:XL}{w:XM}{r:Nat}{es:YD MapEntry}{c:Nat}(o:Obj)(h:w.heap[r]? = some (.map es c)):(setObj r o).run P w=.ok () (w.putObj r o):=by simp[setObj,Sem.run,h,World.putObj]
def Cy (h:MR E j m w) {t:XJ} {x x' y y' v:XI} {ok:Bool} (e:jy E.P t x y ok m=some v) (hx:VR j x x') (hy:VR j y y') :
  ∃v',(Instr.lookup t x' y' ok).run E.P w=.ok v' w/\VR j v v':=by
 unfold jy at e
 split at e
 ·rename_i key elem hu
  split at e
  ·rename_i es z hes hz
   split at e
   ·rename_i hko;obtain⟨d,hd⟩:=mZ hko;have hy':y'=y:=iE (iO hko) hy;subst hy';have hmap:∃es':YD MapEntry,ER j es es'.toList/\((x'=.map none/\es'=#[])\/∃r c,x'=.map (some r)/\w.heap[r]? = some (.map es' c)):=by
     unfold mapOf at hes
     split at hes
     cases hes; cases hx;exact⟨#[],trivial,.inl ⟨rfl,rfl⟩⟩
     ·rename_i r
      split at hes
      ·rename_i es0 hg;cases hes;cases hx with
       | map hj =>
       obtain⟨es',clock,h1,h2⟩:=h.Eh hj hg;exact⟨es',h2,.inr ⟨_,_,rfl,h1⟩⟩
      cases hes
     cases hes
    obtain⟨es',hes',hsh⟩:=hmap
    split at e
    ·rename_i i v0 hf;cases e;obtain⟨r',h1,h2⟩:=ij hd hy hf hes';cases h2 with
     | some hv =>
     rename_i v0';refine⟨if ok then .tuple #[v0',.bool true] else v0',?_,?_⟩
     rcases hsh with⟨rfl,rfl⟩|⟨r,c,rfl,h5⟩
     simp only[Instr.lookup,YF,YH hu,YE,YG,eA hko,h1]
     simp only[Instr.lookup,YF,YH hu,YE,run_getObj_map h5,YG,eA hko,h1]
     ·cases ok with
      | true=>exact .tuple' (by exact LR.cons hv (LR.cons (.bool true) (.nil j)))
      | false=>exact hv
    ·rename_i hf
     split at e
     ·rename_i hpz;cases e;obtain⟨r',h1,h2⟩:=ij hd hy hf hes';cases h2;refine⟨if ok then .tuple #[z,.bool false] else z,?_,?_⟩
      rcases hsh with⟨rfl,rfl⟩|⟨r,c,rfl,h5⟩
      simp only[Instr.lookup,YF,YH hu,YE,YG,eA hko,h1,jW hz]
      simp only[Instr.lookup,YF,YH hu,YE,run_getObj_map h5,YG,eA hko,h1,jW hz]
      ·cases ok with
       | true=>exact .tuple' (by exact LR.cons (VR.bH hpz) (LR.cons (.bool false) (.nil j)))
       | false=>exact VR.bH hpz
     cases e
    cases e
   cases e
  cases e
 cases e
def ER.get:∀{es:YB (XI×XI)} {fs:YB MapEntry} {i:Nat} {e:XI×XI},ER j es fs->es[i]? = some e->∃f,fs[i]? = some f/\VR j e.1 f.key/\VR j e.2 f.val
 | [],[],_,_,_,h=>by simp at h
 | x::es,f::fs,0,e,h,hi=>by simp at hi; subst hi; exact⟨f,rfl,h.1,h.2.1⟩
 | x::es,f::fs,i+1,e,h,hi=>by simpa using ER.get h.2.2 (by simpa using hi)
 | [],_::_,_,_,h,_=>h.elim
 | _::_,[],_,_,h,_=>h.elim
def ER.vH:∀{es:YB (XI×XI)} {fs:YB MapEntry} {e:XI×XI} {f:MapEntry},ER j es fs->VR j e.1 f.key->VR j e.2 f.val->ER j (es++[e]) (fs++[f])
 | [],[],_,_,_,h1,h2=>⟨h1,h2,trivial⟩
 | _::_,_::_,_,_,h,h1,h2=>⟨h.1,h.2.1,ER.vH h.2.2 h1 h2⟩
 | [],_::_,_,_,h,_,_=>h.elim
 | _::_,[],_,_,h,_,_=>h.elim
def ER.put:∀{es:YB (XI×XI)} {fs:YB MapEntry} {i:Nat} {k k' v v':XI},ER j es fs->i<es.length->VR j k k'->VR j v v'->ER j (sj es i k v) (fs.modify i fun e=>{ e with key:=k',val:=v'})
 | x::es,f::fs,0,_,_,_,_,h,_,h1,h2=>⟨h1,h2,h.2.2⟩
 | x::es,f::fs,i+1,_,_,_,_,h,hi,h1,h2=>⟨h.1,h.2.1,ER.put h.2.2 (by simpa using hi) h1 h2⟩
 | [],_,_,_,_,_,_,_,hi,_,_=>by simp at hi
 | _::_,[],_,_,_,_,_,h,_,_,_=>h.elim
def ER.erase:∀{es:YB (XI×XI)} {fs:YB MapEntry} (i:Nat),ER j es fs->ER j (es.eraseIdx i) (fs.eraseIdx i)
 | [],[],_,_=>trivial
 | _::_,_::_,0,h=>h.2.2
 | _::_,_::_,i+1,h=>⟨h.1,h.2.1,ER.erase i h.2.2⟩
 | [],_::_,_,h=>h.elim
 | _::_,[],_,h=>h.elim
def qa (h:MR E j m w) {t:XJ} {x x' k k' v v':XI} {m':Yq} (e:j8 E.P t x k v m=some m') (hx:VR j x x') (hk:VR j k k') (hv:VR j v v') :
  ∃w',(Instr.mapUpdate t x' k' v').run E.P w=.ok () w'/\Sim E j m w j m' w':=by
 unfold j8 at e
 split at e
 ·rename_i kt et r hu
  split at e
  ·rename_i es hg
   split at e
   ·rename_i hko;obtain⟨d,hd⟩:=mZ hko;have hk':k'=k:=iE (iO hko) hk;cases hx with
    | map hj =>
    rename_i kb;obtain⟨es',clock,h1,h2⟩:=h.Eh hj hg
    split at e
    ·rename_i i v0 hf
     split at e
     ·rename_i hsame;cases e;unfold tJ at hsame
      split at hsame
      ·rename_i e0 he0;simp only[Va] at hsame;obtain⟨r',h3,h4⟩:=ij hd hk hf h2;cases h4 with
       | some _ =>
       obtain⟨f0,g1,g2,g3⟩:=h2.get he0;have hf0:f0.key=e0.1:=iE hsame.1 g2;have hi:i<es.length:=(Vn.1 he0).1;refine⟨_,?_,jx h hj (by rw[hg]; rfl) (co:=.map (es'.modify i fun e=>{ e with key:=k,val:=v'}) clock) ?_⟩
       have g1':es'[i]? = some f0:=by simpa using g1
       simp only[Instr.mapUpdate,YF,YH hu,YE,run_getObj_map h1,hk',eA hko];rw[hk'] at h3;simp only[h3,YE,YF,g1',Vx,Option.getD_some,hf0,Instr.keyThatStays,hsame.2,if_true,YG,run_setObj_map _ h1]
       refine⟨?_,CO (h.C4 hj hg h1) i _ fun _=>rfl⟩
       show ER j (sj es i k v) (es'.modify i fun e=>{ e with key:=k,val:=v'}).toList
       rw[Array.toList_modify];exact h2.put hi (VR.bH (iO hko)) hv
      cases hsame
     cases e
    rename_i hf;cases e;obtain⟨r',h3,h4⟩:=ij hd hk hf h2;cases h4;refine⟨_,?_,jx h hj (by rw[hg]; rfl) (co:=.map (es'.push { key:=k,val:=v',born:=clock}) (clock+1)) ?_⟩
    simp only[Instr.mapUpdate,YF,YH hu,YE,run_getObj_map h1,hk',eA hko];rw[hk'] at h3;simp only[h3,YE,run_setObj_map _ h1]
    refine⟨?_,I4 (h.C4 hj hg h1) k v'⟩
    show ER j (es++[(k,v)]) (es'.push { key:=k,val:=v',born:=clock}).toList
    rw[Array.toList_push];exact h2.vH (VR.bH (iO hko)) hv
    cases e
   cases e
  cases e
 cases e
def DH(h:MR E j m w){t:XJ}{x x' k k':XI}{m':Yq}(e:uk E.P t x k m=some m')(hx:VR j x x')(hk:VR j k k')(ts:YD XJ)(hts:ts[0]? = some t)(ty:XJ) :
  ∃w',(Builtin.delete_ ts ty #[x',k']).run E.P w=.ok (.tuple #[]) w'/\Sim E j m w j m' w':=by
 unfold uk at e
 split at e
 ·rename_i kt et r hu
  split at e
  ·rename_i es hg
   split at e
   ·rename_i hko;obtain⟨d,hd⟩:=mZ hko;have hk':k'=k:=iE (iO hko) hk;cases hx with
    | map hj =>
    rename_i kb;obtain⟨es',clock,h1,h2⟩:=h.Eh hj hg
    split at e
    ·rename_i i v0 hf;cases e;obtain⟨r',h3,h4⟩:=ij hd hk hf h2;cases h4 with
     | some _ =>
     refine⟨_,?_,jx h hj (by rw[hg]; rfl) (co:=.map (es'.eraseIdxIfInBounds i) clock) ?_⟩
     simp only[Builtin.delete_,hts,VL,VB,VV,YF,YH hu,YE,run_getObj_map h1,hk',eA hko];rw[hk'] at h3;simp only[h3,YE,YF,run_setObj_map _ h1,YG]
     refine⟨?_,Ff (h.C4 hj hg h1) i⟩
     show ER j (es.eraseIdx i) (es'.eraseIdxIfInBounds i).toList
     rw[Array.toList_eraseIdxIfInBounds];exact h2.erase i
    rename_i hf;cases e;obtain⟨r',h3,h4⟩:=ij hd hk hf h2;cases h4;refine⟨w,?_,.refl h⟩;simp only[Builtin.delete_,hts,VL,VB,VV,YF,YH hu,YE,run_getObj_map h1,hk',eA hko];rw[hk'] at h3;simp only[h3,YE,YF,run_setObj_map _ h1,YG,nR h1]
    cases e
   cases e
  cases e
 cases e
end
def xH(n:Nat):∀(r c:Nat),Builtin.growBy n r c<=max c (n+(n+768)/4)
 | 0,c=>by simp only[Builtin.growBy]; omega
 | r+1,c=>by
  simp only[Builtin.growBy]
  split
  omega
  have:=xH n r (c+(c+768)/4);omega
def nextslicecap_le{need cap:Nat}(h:cap<need):Builtin.nextslicecap need cap<=2*need+2000:=by
 unfold Builtin.nextslicecap
 split
 omega
 split
 omega
 have:=xH need 4 cap;omega
section
variable{E:Env}{j:aR}{m:Yq}{w:XM}
def appendCore(elem:XJ)(size:Nat)(base:XG)(sLen sCap n:Nat)(zeros:Bool)(s x:XI)(appended:Sem (YD XI)):Sem XI:=do
 let need:=sLen+n
 if need<=sCap then
  let new <-appended
  if let some a:=base then storeCells (a.add (sLen*size)) new.toList
  pure (.slice base need sCap)
 else
  if (need : Int) > IntKind.i64.max /\ (zeros \/ (<- typeInfo elem).bytes = 0) then runtimePanic (.error "growslice: len out of range")
  if Builtin.nextslicecap need sCap * (<- typeInfo elem).bytes > 2 ^ 48 then (if zeros then runtimePanic (.error "growslice: len out of range") else do
   if !(<-Builtin.mayShare size sLen n base x) then mark .noRoom
   unsupported (.resourceLimit "append: a slice or a string whose bytes no memory bears"))
  let newCap <-choose (.appendCap need sCap elem)
  askRoom (newCap*(<-typeInfo elem).bytes)
  let old <-Builtin.firstCells size sLen s
  let new <-appended
  let rest:=Builtin.zeroCells (<-zeroValue elem).cells (newCap-need)
  pure (.slice (some (<-newRow elem (old++new++rest))) need newCap)
def ll{P:XL}{elem:XJ}{size sLen sCap n:Nat}{zeros:Bool}{s x:XI}{a:Addr}{app:Sem (YD XI)}{new:YB XI}{w w':XM}
  (happ:app.run P w=.ok new.toArray w) (hfit:sLen+n<=sCap) (hst:(storeCells (a.add (sLen*size)) new).run P w=.ok () w') :
  (appendCore elem size (some a) sLen sCap n zeros s x app).run P w=.ok (.slice (some a) (sLen+n) sCap) w':=by
 simp only[appendCore,U5 hfit,YF,happ,YE,hst,YG]
def eS{l:YB XI}(h:l.all aP=true):∀n,(bl l n).all aP=true
 | 0=>rfl
 | n+1=>by simp only[bl,List.all_append,h,eS h n,Wy]
def me{P:XL}{elem:XJ}{size sLen sCap n:Nat}{zeros:Bool}{s x:XI}{base:XG}{app:Sem (YD XI)}{new old:YB XI}{w:XM}{i:TypeInfo}{z:XI}
  (happ:∀w0:XM,w0.heap=w.heap->app.run P w0=.ok new.toArray w0) (hold:∀w0:XM,w0.heap=w.heap->(Builtin.firstCells size sLen s).run P w0=.ok old.toArray w0) (hgrow:¬sLen+n<=sCap)
  (hi:P.info? elem=some i) (hz:i.zero=some z) (hfit:cS i.bytes (sLen+n)=true) (hb:i.bytes≠0) (hzs:z.cells.size=size) (hzp:z.cells.toList.all aP=true) (ho:old.length=sLen*size) (hn:new.length=n*size) :
  ∃(cap:Nat) (rest:YB XI) (w0:XM),(w0.heap=w.heap/\Calm w w0)/\(sLen+n<=cap/\cap<=9223372036854775807)/\(old++new++rest).length=cap*size/\rest.all aP=true /\
   (appendCore elem size base sLen sCap n zeros s x app).run P w=.ok (.slice (some ⟨w.heap.size,0,none⟩) (sLen+n) cap) (w0.alloc (.cells (old++new++rest).toArray elem)):=by
 have hfit':(2*(sLen+n)+2000)*i.bytes<=2 ^ 48:=by simpa [cS] using hfit
 have h1:¬(((sLen+n:Nat):Int)>IntKind.i64.max/\(zeros=true\/i.bytes=0)):=by
  intro hc;have hbig:sLen+n<=2 ^ 48:=by
   have:1<=i.bytes:=Nat.one_le_iff_ne_zero.2 hb;have:(sLen+n)*1<=(2*(sLen+n)+2000)*i.bytes:=Wr (by omega) this
   omega
  have hmax:IntKind.i64.max=9223372036854775807:=by decide
  rw[hmax] at hc;omega
 have h2:¬Builtin.nextslicecap (sLen+n) sCap*i.bytes>2 ^ 48:=by
  have:=V1 i.bytes (nextslicecap_le (need:=sLen+n) (cap:=sCap) (by omega))
  omega
 have hzv:∀w0:XM,(zeroValue elem).run P w0=.ok z w0:=fun w0=>jW (by simp[bp,hi,hz]) w0
 obtain⟨cap,hcap⟩:∃cap,cap=(Question.appendCap (sLen+n) sCap elem).cut (w.tape w.drawn (.appendCap (sLen+n) sCap elem)):=⟨_,rfl⟩;have hle:sLen+n<=cap:=by rw[hcap]; simp[Question.cut]
 have hmx:cap<=9223372036854775807:=by
  have hbig:sLen+n<=2 ^ 48:=by
   have:1<=i.bytes:=Nat.one_le_iff_ne_zero.2 hb;have:(sLen+n)*1<=(2*(sLen+n)+2000)*i.bytes:=Wr (by omega) this
   omega
  rw[hcap]
  show sLen+n+_%(2 ^ 63-(sLen+n))<=_
  have:=VM (w.tape w.drawn (.appendCap (sLen+n) sCap elem)) (show 0<2 ^ 63-(sLen+n) by omega)
  omega
 refine⟨cap,bl z.cells.toList (cap-(sLen+n)),w.drew,⟨rfl,rfl,rfl,rfl,Nat.le_succ _⟩,⟨hle,hmx⟩,?_,eS hzp _,?_⟩
 simp only[Vd,bO,ho,hn,WN,hzs];rw[<-WW,<-WW]
 congr 1; omega
 have hzc:Builtin.zeroCells z.cells (cap-(sLen+n))=(bl z.cells.toList (cap-(sLen+n))).toArray:=by
  rw[<-lC (zero:=z.cells)]; rfl
 simp only[appendCore,U3 hgrow,YF,vJ hi,YE,Sem.run_ite,U3 h1,U3 h2,YG,run_choose,Question.forced,VG,if_false,World.drew_eq,run_askRoom,
  hold w.drew rfl,happ w.drew rfl,hzv,<-hcap,hzc,newRow,run_newObj,World.alloc_eq]
 simp
def Ex(h:MR E j m w){sz n:Nat}{x x':XI}{new:YB XI}(e:cW sz x n m=some new)(hx:VR j x x') :
  ∃new',(∀w0:XM,w0.heap=w.heap->(Builtin.firstCells sz n x').run E.P w0=.ok new'.toArray w0)/\LR j new new':=by
 unfold cW at e
 split at e
 split at e
 rename_i hn; subst hn; cases e; cases hx;exact⟨[],fun w0 _=>rfl,.nil j⟩
 cases e
 ·rename_i b o l c
  split at e
  rename_i hn; subst hn; cases e;refine⟨[],fun w0 _=>?_,.nil j⟩;cases hx<;>simp[Builtin.firstCells,loadCells,loadCellsFrom]
  ·have hgo:∀k:Blk,j b=some k->∃new',(∀w0:XM,w0.heap=w.heap->(loadCells ⟨k.c,o,none⟩ (n*sz)).run E.P w0=.ok new'.toArray w0)/\LR j new new':=by
    intro k hj;exact h.ek hj e
   cases hx with
   | slice hj hm=>exact hgo _ hj
   | sliceM hj hm e1 e2 hl hc=>exact hgo _ hj
 split at e
 rename_i hn; subst hn; cases e;refine⟨[],fun w0 _=>?_,.nil j⟩;cases hx<;>simp[Builtin.firstCells,loadCells,loadCellsFrom]
 cases e
 cases e
def yr(h:MR E j m w){elem:XJ}{xt:YA XJ}{x x':XI}{n:Nat}{new:YB XI}(e:dZ E.P elem xt x m=some (n,new))(hx:VR j x x')(hk:known E.P elem=true)
  {i:TypeInfo} (hi:E.P.info? elem=some i) (hbytes:n*i.bytes<=2 ^ 48) {sType:XJ} (hu:E.P.underlying sType=some (.slice elem)) {ts:YD XJ} (h0:ts[0]? = some sType) (h1:ts[1]? = xt) (ty:XJ) :
  ∃(new':YB XI) (zeros:Bool) (app:Sem (YD XI)),LR j new new'/\(∀w0:XM,w0.heap=w.heap->app.run E.P w0=.ok new'.toArray w0) /\
   ∀base sLen sCap,(Builtin.append_ ts ty #[.slice base sLen sCap,x']).run E.P w=(appendCore elem (aE E.P elem) base sLen sCap n zeros (.slice base sLen sCap) x' app).run E.P w:=by
 unfold dZ at e
 split at e
 ·rename_i et a l c hxt;cases hs:cW (aE E.P elem) (.slice a l c) l m with
  | none=>rw[hs] at e; cases e
  | some cs =>
   rw[hs] at e; cases e;obtain⟨new',h2,h3⟩:=Ex h hs hx;refine⟨new',false,Builtin.firstCells (aE E.P elem) n x',h3,h2,fun base sLen sCap=>?_⟩;have hlen:∀w0:XM,(Builtin.lenOf x').run E.P w0=.ok n w0:=by
    intro w0;cases hx<;>rfl
   obtain⟨xt',hxt',hu'⟩:∃xt',xt=some xt'/\E.P.underlying xt'=some (.slice et):=by
    cases xt with
    | none=>cases hxt
    | some xt'=>exact⟨xt',rfl,hxt⟩
   rw[hxt'] at h1;simp only[appendCore,Builtin.append_,h0,h1,VL,VB,VV,YF,YH hu,YH hu',YE,cL hk,YG,VG,if_false,hlen,VW,if_true]
   congr
 ·rename_i k l hxt
  split at e
  ·rename_i hl;cases hz:gq E.P elem l.toNat with
   | none=>rw[hz] at e; cases e
   | some zs =>
    rw[hz] at e;simp only[VE] at e
    split at e
    ·rename_i hp;cases e;cases hx;obtain⟨z,hz1,hz2,hz3⟩:=ku hz;obtain⟨xt',k',hxt',hu'⟩:∃xt' k',xt=some xt'/\E.P.underlying xt'=some (.int k'):=by
      cases xt with
      | none=>cases hxt
      | some xt'=>exact⟨xt',_,rfl,hxt⟩
     have hwrap:IntKind.i64.wrap l=l:=IntWalk.i64_in l (by have:=hl.1; have:=hl.2; omega)
     have hlb:¬(l*i.bytes>2 ^ 48):=by
      have:((l.toNat*i.bytes:Nat):Int)<=2 ^ 48:=by exact_mod_cast hbytes
      have h3:((l.toNat:Nat):Int)=l:=Ws hl.1;rw[Int.natCast_mul,h3] at this;omega
     refine⟨new,true,if l.toNat*aE E.P elem=0 then pure #[] else do pure (Builtin.zeroCells (<-zeroValue elem).cells l.toNat),LR.plain hp,?_,fun base sLen sCap=>?_⟩
     intro w0 _;rw[Sem.run_ite]
     split
     rename_i h0;have:new=[]:=by
      apply WR;rw[hz3,bO,WN,hz2,h0]
     rw[this]; rfl
     simp only[YF,jW hz1,YE,YG];rw[hz3,<-lC (zero:=z.cells)]; rfl
     rw[hxt'] at h1;have hneg:¬l<0:=by have:=hl.1; omega
     simp only[appendCore,Builtin.append_,h0,h1,VL,VB,VV,YF,YH hu,YH hu',YE,cL hk,YG,if_true,asInt,asIntOf,hwrap,U3 hneg,vJ hi,U3 hlb,V4,VG,if_false]
     congr
    cases e
  cases e
 cases e
def OR.more{c na nc sz:Nat}{cs:YB XI}{c':YD XI}{elem:XJ}(h1:cs.length=na)(h2:c'.size=nc)(h3:na<=nc)(hsz:0<sz)(hr:jj sz c')(h:∀(i:Nat) (v:XI),cs[i]? = some v->∃v',c'[i]? = some v'/\VR j v v') :
  OR j ⟨c,some (sz,na,nc)⟩ (.cells cs (.more sz)) (.cells c' elem) :=
 ⟨⟨by rw[h1,h2],by omega,rfl,hsz,hr⟩,h⟩
def gK(h:MR E j m w){w0:XM}(hw3:w0.heap=w.heap/\Calm w w0){cs cs' rest:YB XI}{elem:XJ}{sz n cap:Nat}(hc:LR j cs cs')(hl:cs.length=n*sz)(hr:(cs'++rest).length=cap*sz)(hn:n<=cap)(hsz:0<sz)(hp:rest.all aP=true)(hmx:cap<=9223372036854775807) :
  ∃j',Sim E j m w j' (m.alloc (.cells cs (.more sz))) (w0.alloc (.cells (cs'++rest).toArray elem))/\VR j' (.slice (some ⟨m.next,0,none⟩) n n) (.slice (some ⟨w.heap.size,0,none⟩) n cap):=by
 have hw:=hw3.1;have h0:=h.of_heap hw;have hle:n*sz<=cap*sz:=V1 _ hn;have ho:OR j ⟨w0.heap.size,some (sz,n*sz,cap*sz)⟩ (.cells cs (.more sz)) (.cells (cs'++rest).toArray elem):=by
  refine OR.more hl (by simpa using hr) hle hsz (by unfold jj; rw[W2,hr,Nat.mul_comm]; exact Nat.mul_le_mul_left _ hmx) fun i v hi=>?_
  obtain⟨v',a,b⟩:=hc.get hi;refine⟨v',?_,b⟩;rw[VL,VU (Vn.1 a).1];exact a
 have s:=oU h0 ho;refine⟨_,(Sim.of_heap h hw hw3.2).trans h s,?_⟩;have:VR (j.set m.next ⟨w0.heap.size,some (sz,n*sz,cap*sz)⟩) (.slice (some ⟨m.next,0,none⟩) n n) (.slice (some ⟨w0.heap.size,0,none⟩) n cap) :=
  .sliceM (k:=⟨w0.heap.size,some (sz,n*sz,cap*sz)⟩) (aR.cn _ _ _) rfl rfl rfl (U8 _) hn
 rw[hw] at this ⊢;exact this
def CW (h:MR E j m w) {t:XJ} {xt:YA XJ} {s s' x x' v:XI} {m':Yq} (e:bS E.P t xt s x m=some (v,m')) (hs:VR j s s') (hx:VR j x x')
  {ts:YD XJ} (h2:ts[0]? = some t) (h3:ts[1]? = xt) (ty:XJ) :
  ∃j' w' v',(Builtin.append_ ts ty #[s',x']).run E.P w=.ok v' w'/\Sim E j m w j' m' w'/\VR j' v v':=by
 unfold bS at e
 split at e
 ·rename_i elem base len cap n new hu hnc;simp only[hu] at hnc;simp only at e
  split at e
  cases e
  ·rename_i hcond;simp only[Wv,Wa,not_or,Bool.not_eq_false,beq_iff_eq,bne_iff_ne,ne_eq,Decidable.not_not,Option.any_eq_true] at hcond;obtain⟨⟨⟨⟨⟨hk,h4⟩,hone⟩,⟨i,hi,hfit⟩⟩,hlen⟩,⟨z,hz,hzs⟩⟩:=hcond;simp only[Va,bne_iff_ne,ne_eq] at hfit;obtain⟨hfit,hb⟩:=hfit;obtain⟨i',hi',hz'⟩:=yf hz;rw[hi] at hi'; cases hi';simp only[Va,beq_iff_eq] at hzs;have hzs':z.cells.size=aE E.P elem:=hzs.1;have hzp:=hzs.2;have hsz:0<aE E.P elem:=Nat.pos_of_ne_zero h4;have hbytes:n*i.bytes<=2 ^ 48:=by
    have:(2*(len+n)+2000)*i.bytes<=2 ^ 48:=by simpa [cS] using hfit
    have:=V1 i.bytes (show n<=2*(len+n)+2000 by omega)
    omega
   obtain⟨new',zeros,app,hnew,happ,hrun⟩:=yr h hnc hx hk hi hbytes hu h2 h3 ty;have hnl:new'.length=n*aE E.P elem:=by rw[<-hnew.1]; exact hlen
   split at e
   
   split at e
   cases e
   rename_i h1;have hlc:len=0/\cap=0:=by omega
   obtain⟨rfl,rfl⟩:=hlc;cases hs
   split at e
   rename_i hn; cases e;subst hn;refine⟨j,w,.slice none 0 0,?_,.refl h,.snil 0 0⟩;rw[hrun];simp only[appendCore,Wf,U8,if_true,YF,happ w rfl,YE,YG]
   rename_i hn; cases e;obtain⟨cap',rest,w0,h0,⟨hle,hmx⟩,hlr,hrp,hr⟩:=me (P:=E.P) (zeros:=zeros) (s:=.slice none 0 0) (x:=x') (base:=none) (sLen:=0) (sCap:=0) (old:=[]) happ (fun w0 _=>rfl) (by omega) hi hz' (by simpa using hfit) hb hzs' hzp (by simp) hnl
   obtain⟨j',s1,s2⟩:=gK h h0 (elem:=elem) hnew hlen (by simpa using hlr) (by omega) hsz hrp hmx
   refine⟨j',_,_,by rw[hrun]; exact hr,by simpa using s1,by simpa using s2⟩
   ·rename_i b o
    split at e
    ·rename_i cs tag hg
     split at e
     ·
      rename_i hfits;cases hst:m.cU b (o+len*aE E.P elem) new with
      | none=>rw[hst] at e; cases e
      | some m1 =>
       rw[hst] at e; cases e;cases hs with
       | slice hj hm =>
        obtain⟨w',g0,g2⟩:=jY h hj hnew hone hst;refine⟨j,w',_,?_,g2,.slice hj hm⟩;rw[hrun];exact ll (happ w rfl) hfits (by rw[nJ]; exact g0)
       | sliceM hj hm e0 e2 hl hc =>
        obtain⟨w',g0,g2⟩:=jY h hj hnew hone hst;refine⟨j,w',_,?_,g2,.sliceM hj hm e0 e2 hfits hc⟩;rw[hrun];exact ll (happ w rfl) (by omega) (by rw[nJ]; exact g0)
     ·rename_i hno;have hexact:∀k:Blk,j b=some k->k.more=none->∀old,m.ek b o (len*aE E.P elem)=some old->v=.slice (some ⟨m.next,0,none⟩) (len+n) (len+n)->m'=m.alloc (.cells (old++new) (.more (aE E.P elem))) ->
        ∃j' w' v',(Builtin.append_ ts ty #[.slice (some ⟨k.c,o,none⟩) len cap,x']).run E.P w=.ok v' w'/\Sim E j m w j' m' w'/\VR j' v v':=by
       intro k hj hm old hold ev em;obtain⟨old',g0,g2⟩:=h.ek hj hold;have hol:old.length=len*aE E.P elem:=(uB hold).choose_spec.choose_spec.2.2;obtain⟨cap',rest,w0,h0,⟨hle,hmx⟩,hlr,hrp,hr⟩:=me (P:=E.P) (zeros:=zeros) (s:=.slice (some ⟨k.c,o,none⟩) len cap) (x:=x') (base:=some ⟨k.c,o,none⟩) (sLen:=len) (sCap:=cap) (old:=old') happ
        (fun w0 h0=>g0 w0 h0) hno hi hz' hfit hb hzs' hzp (by rw[<-g2.1]; exact hol) hnl
       obtain⟨j',s1,s2⟩:=gK h h0 (elem:=elem) (g2.append hnew) (n:=len+n) (by rw[Vd,hol,hlen,WW]) hlr hle hsz hrp hmx
       exact⟨j',_,_,by rw[hrun]; exact hr,em▸s1,ev▸s2⟩
      split at e
      ·
       rename_i sz'
       split at e
       ·rename_i hso;obtain⟨rfl,rfl⟩:=hso
        split at e
        ·rename_i hol;cases e;cases hs with
         | slice hj hm =>
          have:=h.kindOf hj hg;simp only at this;obtain⟨nc,hmm,_⟩:=this;rw[hm] at hmm; cases hmm
         | sliceM hj hm e0 e2 hl hc =>
          rename_i cap' sz' na nc k;have hkd:=h.kindOf hj hg;simp only at hkd;obtain⟨nc',hmm,_⟩:=hkd;rw[hm] at hmm;simp only[Option.some.injEq,Prod.mk.injEq] at hmm;obtain⟨rfl,rfl,rfl⟩:=hmm
          by_cases hfits:len+n<=cap'
          
          obtain⟨c,el,fz,c1,c2,c3⟩:=h.gP hj hg;have c2':k.more=some (aE E.P elem,cs.length,c.size)/\cs.length<=c.size/\fz=(0,0)/\0<aE E.P elem/\jj (aE E.P elem) c:=c2;obtain⟨c0,c5,rfl,_,c4⟩:=c2';rw[hm] at c0;simp only[Option.some.injEq,Prod.mk.injEq,true_and] at c0;have hcs:(len+n)*aE E.P elem<=c.size:=by
           rw[<-c0,<-e2]; simp; exact V1 _ hfits
          have hmul:(len+n)*aE E.P elem=len*aE E.P elem+n*aE E.P elem:=WW _ _ _;have hst:=gY (P:=E.P) new' w c 0 (len*aE E.P elem) c1 (by rw[hnl]; omega) (qe hnew hone)
          have hold:(cs.take (len*aE E.P elem)).length=len*aE E.P elem:=hol;have hlecs:len*aE E.P elem<=cs.length:=by rw[Vw] at hold; omega
          have hor:OR j ⟨k.c,some (aE E.P elem,(len+n)*aE E.P elem,c.size)⟩ (.cells (cs.take (len*aE E.P elem)++new) (.more (aE E.P elem))) (.cells (aB c.toList (0+len*aE E.P elem) new').toArray el):=by
           refine OR.more (by rw[Vd,hold,hlen,hmul]) (by simp[bc]) hcs hsz (by unfold jj at *; simpa [bc] using c4) fun ix vx hix=>?_
           rw[VL,aQ,VC]
           by_cases hlt:ix<len*aE E.P elem
           rw[VU (by rw[hold]; exact hlt),Wj,U5 hlt] at hix
           rw[XP]
           obtain⟨vx',q1,q2⟩:=c3 ix vx hix;exact⟨vx',by simpa using q1,q2⟩
           rw[VO (by rw[hold]; omega),hold] at hix
           obtain⟨vx',q1,q2⟩:=hnew.get hix;have hlt':=(Vn.1 q1).1;rw[U5 ⟨by omega,by omega,by simp; omega⟩]
           exact⟨vx',q1,q2⟩
          have s1:=vi h hj (by rw[hg]; rfl) hor
          refine⟨_,_,.slice (some ⟨k.c,0,none⟩) (len+n) cap',?_,s1,.sliceM (k:=⟨k.c,some (aE E.P elem,(len+n)*aE E.P elem,c.size)⟩) (aR.cn _ _ _) rfl rfl (by rw[<-c0]; exact e2) (U8 _) hfits⟩
          rw[hrun];refine ll (happ w rfl) hfits ?_;rw[nJ];have:=gY (P:=E.P) new' w c (0+len*aE E.P elem) 0 c1 (by rw[hnl]; omega) (qe hnew hone)
          simpa using this
          
          have hol':m.ek b 0 (len*aE E.P elem)=some (cs.take (len*aE E.P elem)):=by
           simp only[Yq.ek,hg,W3];rw[U5 hol]
          obtain⟨old',g0,g2⟩:=h.ek hj hol';obtain⟨c6,rest,w0,h0,⟨hle,hmx⟩,hlr,hrp,hr⟩:=me (P:=E.P) (zeros:=zeros) (s:=.slice (some ⟨k.c,0,none⟩) len cap') (x:=x') (base:=some ⟨k.c,0,none⟩) (sLen:=len) (sCap:=cap') (old:=old') happ
           (fun w0 h0=>g0 w0 h0) hfits hi hz' hfit hb hzs' hzp (by rw[<-g2.1]; exact hol) hnl
          have sk:=Bq h hj;obtain⟨j',s1,s2⟩:=gK sk.mr h0 (elem:=elem) (g2.append hnew) (n:=len+n) (by rw[Vd,hol,hlen,WW]) hlr hle hsz hrp hmx
          exact⟨j',_,_,by rw[hrun]; exact hr,sk.trans h s1,s2⟩
        cases e
       cases e
      ·
       rename_i htag
       split at e
       ·rename_i old hold;cases e;have hkm:∀k:Blk,j b=some k->k.more=none:=by
         intro k hj;have:=h.kindOf hj hg;cases tag with
         | more sz=>exact Vr rfl (htag sz)
         | ro=>exact this
         | own=>exact this
        cases hs with
        | slice hj hm=>exact hexact _ hj hm _ hold rfl rfl
        | sliceM hj hm e0 e2 hl hc=>rw[hkm _ hj] at hm; cases hm
       cases e
    cases e
   ·
    rename_i b o
    split at e
    cases e
    ·rename_i h1;have hlc:len=0/\cap=0:=by omega
     obtain⟨rfl,rfl⟩:=hlc;cases hs with
     | dry =>
     rename_i a'
     split at e
     rename_i hn; subst hn; cases e;have:new'=[]:=WR (by rw[hnl]; simp)
     subst this;refine⟨j,w,_,?_,.refl h,.dry (a':=a')⟩;rw[hrun];exact ll (happ w rfl) (by omega) rfl
     rename_i hn; cases e;obtain⟨cap',rest,w0,h0,⟨hle,hmx⟩,hlr,hrp,hr⟩:=me (P:=E.P) (zeros:=zeros) (s:=.slice (some a') 0 0) (x:=x') (base:=some a') (sLen:=0) (sCap:=0) (old:=[]) happ
      (fun w0 _=>by simp[Builtin.firstCells,loadCells,loadCellsFrom]) (by omega) hi hz' (by simpa using hfit) hb hzs' hzp (by simp) hnl
     obtain⟨j',s1,s2⟩:=gK h h0 (elem:=elem) hnew hlen (by simpa using hlr) (by omega) hsz hrp hmx
     refine⟨j',_,_,by rw[hrun]; exact hr,by simpa using s1,by simpa using s2⟩
   ·split at e
    ·rename_i hnil hmem hdry h1;obtain⟨rfl,rfl,rfl⟩:=h1;cases e;have:new'=[]:=WR (by rw[hnl]; simp)
     subst this;cases hs with
     | snil=>exact Vr rfl hnil
     | slice hj hm=>exact Vr rfl (hmem _ _)
     | sliceM hj hm e0 e2 hl hc=>exact Vr rfl (hmem _ _)
     | dry=>exact Vr rfl (hdry _ _)
     | gV =>
      rename_i a' cap';refine⟨j,w,_,?_,.refl h,.gV (a':=a') (cap':=cap')⟩;rw[hrun];exact ll (happ w rfl) (by omega) rfl
    cases e
 cases e
end
section
variable{E:Env}{j:aR}{m:Yq}{w:XM}
def Kg (h:MR E j m w) {t:XJ} {d d' s s' v:XI} {m':Yq} (e:HR E.P t d s m=some (v,m')) (hd:VR j d d') (hs:VR j s s') {ts:YD XJ} (h0:ts[0]? = some t) (ty:XJ) :
  ∃w' v',(Builtin.copy_ ts ty #[d',s']).run E.P w=.ok v' w'/\Sim E j m w j m' w'/\VR j v v':=by
 unfold HR at e
 split at e
 ·rename_i elem base dLen dCap sa sLen sCap hu;simp only at e
  split at e
  cases e
  ·rename_i hk;have hk':known E.P elem=true:=by simpa using hk
   split at e
   cases e
   ·rename_i cells hsrc
    split at e
    cases e
    ·rename_i hone;have hone':aZ cells=true:=by simpa using hone
     obtain⟨cells',hc1,hc2⟩:=Ex h hsrc hs;have hlen:∀w0:XM,(Builtin.lenOf s').run E.P w0=.ok sLen w0:=by
      intro w0;cases hs<;>rfl
     have hbase:∃base' dCap',d'=.slice base' dLen dCap'/\(∀b o,base=some ⟨b,o,none⟩->∃k:Blk,j b=some k/\base'=some ⟨k.c,o,none⟩):=by
      cases hd with
      | snil=>exact⟨_,_,rfl,fun b o e=>by cases e⟩
      | slice hj hm=>exact⟨_,_,rfl,fun b o e=>by cases e; exact⟨_,hj,rfl⟩⟩
      | sliceM hj hm e1 e2 hl hc=>exact⟨_,_,rfl,fun b o e=>by cases e; exact⟨_,hj,rfl⟩⟩
      | gV=>exact⟨_,_,rfl,fun b o e=>by cases e⟩
      | dry=>exact⟨_,_,rfl,fun b o e=>by cases e⟩
     obtain⟨base',dCap',rfl,hb⟩:=hbase;have hrun0:∀K:XI->XM->Result XI,True:=fun _=>trivial
     split at e
     rename_i hn;cases e;have hcl:cells=[]:=by
      unfold cW at hsrc
      split at hsrc<;>first |(split at hsrc<;>first |(cases hsrc; rfl) |(cases hsrc; done) |(rename_i hne; exact Vr hn hne)) |(cases hsrc; done)
     subst hcl;have:cells'=[]:=hc2.dI;subst this;refine⟨w,.int .i64 0,?_,.refl h,.int _ _⟩;have hmin:Nat.min sLen dLen=0:=hn;simp only[Builtin.copy_,h0,VL,VB,VV,YF,YH hu,YE,hlen,hmin,cL hk'];rw[hn] at hc1;simp only[hc1 w rfl,YE];cases base'<;>rfl
     ·rename_i b o n hn;cases hst:m.cU b o cells with
      | none=>rw[hst] at e; cases e
      | some m1 =>
       rw[hst] at e; cases e;obtain⟨k,hj,rfl⟩:=hb b o rfl;obtain⟨w',g1,g2⟩:=jY h hj hc2 hone' hst;refine⟨w',.int .i64 (n+1:Nat),?_,g2,.int _ _⟩;have hmin:Nat.min sLen dLen=n+1:=hn;simp only[Builtin.copy_,h0,VL,VB,VV,YF,YH hu,YE,hlen,hmin,cL hk'];rw[hn] at hc1;simp only[hc1 w rfl,YE,g1,YG,goInt]
     cases e
 cases e
def FV(h:MR E j m w){t:XJ}{x x' v:XI}{m':Yq}(e:zl E.P t x m=some (v,m'))(hx:VR j x x'){ts:YD XJ}(h0:ts[0]? = some t)(ty:XJ) :
  ∃w' v',(Builtin.clear_ ts ty #[x']).run E.P w=.ok v' w'/\Sim E j m w j m' w'/\VR j v v':=by
 unfold zl at e
 split at e
 rename_i elem a c hu;cases e;refine⟨w,.tuple #[],?_,.refl h,VR.undef j⟩;cases hx<;>simp only[Builtin.clear_,h0,VL,VB,YF,YH hu,YE]<;>rfl
 ·rename_i elem b o n c hnz hu
  split at e
  ·rename_i zs hz
   split at e
   ·rename_i hp;cases hst:m.cU b o zs with
    | none=>rw[hst] at e; cases e
    | some m1 =>
     rw[hst] at e; cases e;obtain⟨z,hz1,hz2,hz3⟩:=ku hz;have hone:aZ zs=true:=by
      unfold aZ;rw[Vo] at hp ⊢;intro v hv;have:=hp v hv;cases v<;>first|rfl |(simp[aP] at this)
     have hn0:n≠0:=fun e=>hnz e;have hzc:(Builtin.zeroCells z.cells n).toList=zs:=by rw[hz3]; exact lC n
     have hgo:∀k:Blk,j b=some k->∃w',(storeCells ⟨k.c,o,none⟩ zs).run E.P w=.ok () w'/\Sim E j m w j m' w':=fun k hj=>jY h hj (LR.plain hp) hone hst;cases hx with
     | slice hj hm =>
      obtain⟨w',g1,g2⟩:=hgo _ hj;refine⟨w',.tuple #[],?_,g2,VR.undef j⟩;simp only[Builtin.clear_,h0,VL,VB,YF,YH hu,YE];cases n with
      | zero=>exact Vr rfl hn0
      | succ n=>simp only[jW hz1,YE,hzc,g1,YG]
     | sliceM hj hm e1 e2 hl hc =>
      obtain⟨w',g1,g2⟩:=hgo _ hj;refine⟨w',.tuple #[],?_,g2,VR.undef j⟩;simp only[Builtin.clear_,h0,VL,VB,YF,YH hu,YE];cases n with
      | zero=>exact Vr rfl hn0
      | succ n=>simp only[jW hz1,YE,hzc,g1,YG]
   cases e
  cases e
 cases e
def sT:∀(vs vs':YB XI) (k:IntKind) (a:Int) (v:XI),fi (fun x y=>if y>x then y else x) k a vs=some v->LR j vs vs'->∀w,(vs'.foldlM Builtin.max2 (.int k a)).run E.P w=.ok v w
 | [],vs',k,a,v,e,hl,w=>by rw[hl.dI]; cases e; rfl
 | x::vs,vs',k,a,v,e,hl,w=>by
  obtain⟨y,ys,rfl,h1,h2⟩:=hl.cons_inv;cases x<;>simp only[fi] at e<;>first |(cases e; done)|skip
  cases h1;simp only[List.foldlM_cons,Builtin.max2,YF,YG,YE];exact sT vs ys k _ v e h2 w
def th:∀(vs vs':YB XI) (k:IntKind) (a:Int) (v:XI),fi (fun x y=>if y<x then y else x) k a vs=some v->LR j vs vs'->∀w,(vs'.foldlM Builtin.min2 (.int k a)).run E.P w=.ok v w
 | [],vs',k,a,v,e,hl,w=>by rw[hl.dI]; cases e; rfl
 | x::vs,vs',k,a,v,e,hl,w=>by
  obtain⟨y,ys,rfl,h1,h2⟩:=hl.cons_inv;cases x<;>simp only[fi] at e<;>first |(cases e; done)|skip
  cases h1;simp only[List.foldlM_cons,Builtin.min2,YF,YG,YE];exact th vs ys k _ v e h2 w
def mB(f:Int->Int->Int):∀(vs:YB XI) (k:IntKind) (a:Int) (v:XI),fi f k a vs=some v->∃n,v=.int k n
 | [],k,a,v,e=>by cases e; exact⟨a,rfl⟩
 | x::vs,k,a,v,e=>by
  cases x<;>simp only[fi] at e<;>first |(cases e; done)|exact mB f vs k _ v e
def ER.len:∀{a:YB (XI×XI)} {b:YB MapEntry},ER j a b->a.length=b.length
 | [],[],_=>rfl
 | _::_,_::_,h=>by simp[ER.len h.2.2]
 | [],_::_,h=>h.elim
 | _::_,[],h=>h.elim
def Bt (h:MR E j m w) {b:Builtin} {ts:YD XJ} {args args':YB XI} {v:XI} {m':Yq} (e:bg E.P b ts args m=some (v,m')) (ha:LR j args args') (ty:XJ) (cs:YD Bool) :
  (m'=m/\(∀m2:Yq,((b=.len\/b=.cap)->∀x b0,args=[x]->dT x=some b0->m2.get b0=m.get b0)->bg E.P b ts args m2=some (v,m2))/\∃v',(builtin b ts ty cs args'.toArray).run E.P w=.ok (.value v') w/\VR j v v') \/
  ((b=.append\/b=.copy\/b=.clear\/b=.delete)/\∃j' w' v',(builtin b ts ty cs args'.toArray).run E.P w=.ok (.value v') w'/\Sim E j m w j' m' w'/\VR j' v v'):=by
 unfold bg at e
 split at e
 ·
  rename_i x;obtain⟨x',l,rfl,hx,hl⟩:=ha.cons_inv;rw[hl.dI];refine .inl ?_;have k3:∀n:Int,(Builtin.len_ ts ty [x'].toArray).run E.P w=.ok (.int .i64 n) w->∃v',(builtin .len ts ty cs [x'].toArray).run E.P w=.ok (.value v') w/\VR j (.int .i64 n) v' :=
   fun n hr=>⟨_,by simp only[builtin,YF,hr,YE,YG],.int _ _⟩
  cases ht:ts[0]? with
  | none=>rw[ht] at e; simp at e
  | some t =>
   rw[ht] at e;simp only[VE] at e
   split at e
   rename_i hu; cases e; cases hx;exact⟨rfl,fun m2 h0=>by simp only[bg,ht,VE,hu],k3 _ (by simp only[Builtin.len_,ht,VL,VB,YF,YH hu,YE,YG,goInt])⟩
   rename_i hu; cases e;exact⟨rfl,fun m2 h0=>by simp only[bg,ht,VE,hu],k3 _ (by simp only[Builtin.len_,ht,VL,VB,YF,YH hu,YE,YG,goInt])⟩
   rename_i a hu
   split at e
   rename_i h4; cases e;exact⟨rfl,fun m2 h0=>by simp only[bg,ht,VE,hu,h4],k3 _ (by simp only[Builtin.len_,ht,VL,VB,YF,YH hu,YH h4,YE,YG,goInt])⟩
   cases e
   rename_i hu; cases e;cases hx<;>exact⟨rfl,fun m2 h0=>by simp only[bg,ht,VE,hu],k3 _ (by simp only[Builtin.len_,ht,VL,VB,YF,YH hu,YE,YG,goInt])⟩
   ·rename_i hu;cases hes:mapOf m _ with
    | none=>rw[hes] at e; cases e
    | some es =>
     rw[hes] at e; cases e;unfold mapOf at hes
     split at hes
     cases hes; cases hx;exact⟨rfl,fun m2 h0=>by simp only[bg,ht,VE,hu,mapOf,Vx],k3 _ (by simp only[Builtin.len_,ht,VL,VB,YF,YH hu,YE,YG,goInt]; rfl)⟩
     ·rename_i r
      split at hes
      ·rename_i e0 hg;cases hes;cases hx with
       | map hj =>
       obtain⟨es',clock,h1,h2⟩:=h.Eh hj hg;have hlen:es.length=es'.size:=by
        simpa using ER.len h2
       exact⟨rfl,fun m2 h0=>by simp only[bg,ht,VE,hu,mapOf,h0 (.inl rfl) _ _ rfl rfl,hg,Vx],k3 _ (by simp only[Builtin.len_,ht,VL,VB,YF,YH hu,YE,run_getObj_map h1,YG,goInt,hlen])⟩
      cases hes
     cases hes
   cases e
 ·
  rename_i x;obtain⟨x',l,rfl,hx,hl⟩:=ha.cons_inv;rw[hl.dI];refine .inl ?_;have k3:∀n:Int,(Builtin.cap_ ts ty [x'].toArray).run E.P w=.ok (.int .i64 n) w->∃v',(builtin .cap ts ty cs [x'].toArray).run E.P w=.ok (.value v') w/\VR j (.int .i64 n) v' :=
   fun n hr=>⟨_,by simp only[builtin,YF,hr,YE,YG],.int _ _⟩
  cases ht:ts[0]? with
  | none=>rw[ht] at e; simp at e
  | some t =>
   rw[ht] at e;simp only[VE] at e
   split at e
   rename_i hu; cases e; cases hx;exact⟨rfl,fun m2 h0=>by simp only[bg,ht,VE,hu],k3 _ (by simp only[Builtin.cap_,ht,VL,VB,YF,YH hu,YE,YG,goInt])⟩
   ·rename_i b0 o l0 n hu
    split at e
    cases e
    ·rename_i c0 tag htag hg;cases e;cases hx with
     | slice hj hm =>
      refine⟨rfl,fun m2 h0=>?_,k3 _ (by simp only[Builtin.cap_,ht,VL,VB,YF,YH hu,YE,YG,goInt])⟩
      have h5:m2.get b0=some (.cells c0 tag):=(h0 (.inr rfl) _ _ rfl rfl).trans hg;simp only[bg,ht,VE,hu,h5]
     | sliceM hj hm e1 e2 hl hc =>
      have:=h.kindOf hj hg;cases tag with
      | more sz=>exact Vr rfl (htag sz)
      | ro=>simp only at this; rw[hm] at this; cases this
      | own=>simp only at this; rw[hm] at this; cases this
    cases e
   cases e
 
 rename_i s x;obtain⟨s',l,rfl,hs,hl⟩:=ha.cons_inv;obtain⟨x',l',rfl,hx,hl'⟩:=hl.cons_inv;rw[hl'.dI]
 split at e
 rename_i t ht;obtain⟨j',w',v',h1,h2,h3⟩:=CW h e hs hx ht rfl ty;exact .inr ⟨by simp,j',w',v',by simp only[builtin,YF]; rw[h1]; rfl,h2,h3⟩
 cases e
 
 rename_i d s;obtain⟨d',l,rfl,hd,hl⟩:=ha.cons_inv;obtain⟨s',l',rfl,hs,hl'⟩:=hl.cons_inv;rw[hl'.dI]
 split at e
 rename_i t ht;obtain⟨w',v',h1,h2,h3⟩:=Kg h e hd hs ht ty;exact .inr ⟨by simp,j,w',v',by simp only[builtin,YF]; rw[h1]; rfl,h2,h3⟩
 cases e
 
 rename_i x;obtain⟨x',l,rfl,hx,hl⟩:=ha.cons_inv;rw[hl.dI]
 split at e
 rename_i t ht;obtain⟨w',v',h1,h2,h3⟩:=FV h e hx ht ty;exact .inr ⟨by simp,j,w',v',by simp only[builtin,YF]; rw[h1]; rfl,h2,h3⟩
 cases e
 ·
  rename_i x k;obtain⟨x',l,rfl,hx,hl⟩:=ha.cons_inv;obtain⟨k',l',rfl,hk,hl'⟩:=hl.cons_inv;rw[hl'.dI]
  split at e
  ·rename_i t ht;cases hd:uk E.P t x k m with
   | none=>rw[hd] at e; cases e
   | some m1 =>
    rw[hd] at e; cases e;obtain⟨w',h1,h2⟩:=DH h hd hx hk ts ht ty;exact .inr ⟨by simp,j,w',.tuple #[],by simp only[builtin,YF]; rw[h1]; rfl,h2,VR.undef j⟩
  cases e
 ·
  rename_i k a vs;obtain⟨x',l,rfl,hx,hl⟩:=ha.cons_inv;cases hx;cases hf:fi (fun x y=>if y>x then y else x) k a vs with
  | none=>rw[hf] at e; cases e
  | some r =>
   rw[hf] at e; cases e;obtain⟨n,rfl⟩:=mB _ _ _ _ _ hf;refine .inl ⟨rfl,fun m2 _=>by simp only[bg,hf,Vx],.int k n,?_,.int _ _⟩
   have:=sT (E:=E) vs l k a _ hf hl w;simp only[builtin,YF,Builtin.max_,this,YE,YG]
 ·
  rename_i k a vs;obtain⟨x',l,rfl,hx,hl⟩:=ha.cons_inv;cases hx;cases hf:fi (fun x y=>if y<x then y else x) k a vs with
  | none=>rw[hf] at e; cases e
  | some r =>
   rw[hf] at e; cases e;obtain⟨n,rfl⟩:=mB _ _ _ _ _ hf;refine .inl ⟨rfl,fun m2 _=>by simp only[bg,hf,Vx],.int k n,?_,.int _ _⟩
   have:=th (E:=E) vs l k a _ hf hl w;simp only[builtin,YF,Builtin.min_,this,YE,YG]
 cases e
end
section
variable{E:Env}{j:aR}{m:Yq}{w:XM}{t:Tm}{n:Nat}{a:Act}
def aV(h:MR E j m w)(ht:TR n j t a.tmps){x:XK}{v:XI}(e:an E t x=some v):VR j v (a.eval x):=by
 unfold an at e
 split at e
 cases e; exact ht.2 _
 split at e
 rename_i hp; cases e; exact VR.bH hp
 cases e
 split at e
 rename_i hg; cases e; exact .ptr (h.glob _ hg)
 cases e
 cases e; exact .func rfl (fun i a _=>by simp at a) rfl (fun i a _=>by simp at a)
def gC(h:MR E j m w)(ht:TR n j t a.tmps):∀{xs:YB XK} {vs:YB XI},bC E t xs=some vs->LR j vs (xs.map a.eval)
 | [],vs,e=>by cases e; exact .nil j
 | x::xs,vs,e=>by
  simp only[bC] at e
  split at e
  rename_i v vs' h1 h2;cases e;exact .cons (aV h ht h1) (gC h ht h2)
  cases e
def kM(h:MR E j m w)(ht:TR n j t a.tmps):∀{xs:YB (Nat×XK)} {vs:YB (Nat×XI)},eT E t xs=some vs ->
  vs.map (·.1)=(xs.map fun p=>(p.1,a.eval p.2)).map (·.1)/\LR j (vs.map (·.2)) ((xs.map fun p=>(p.1,a.eval p.2)).map (·.2))
 | [],vs,e=>by cases e; exact⟨rfl,.nil j⟩
 |(i,x)::xs,vs,e=>by
  simp only[eT] at e
  split at e
  rename_i v vs' h1 h2;cases e;obtain⟨h3,h4⟩:=kM h ht h2;exact⟨by simpa using h3,.cons (aV h ht h1) h4⟩
  cases e
def qA(h:MR E j m w)(ht:TR n j t a.tmps){x:YA XK}{v:YA XI}(e:dY E t x=some v):OVR j v (x.map a.eval):=by
 cases x with
 | none=>cases e; exact .none
 | some x =>
  simp only[dY] at e;cases hv:an E t x with
  | none=>rw[hv] at e; cases e
  | some v0=>rw[hv] at e; cases e; exact .some (aV h ht hv)
def mX(P:XL)(s:Sem Next)(v:XI)(w w':XM):Prop:=s.run P w=.ok (.value v) w'\/(s.run P w=.ok .skip w'/\v=undef)
def mX.value{P:XL}{s:Sem XI}{v:XI}{w w':XM}(h:s.run P w=.ok v w'):mX P (do pure (.value (<-s))) v w w' :=
 .inl (by simp only[YF,h,YE,YG])
def mX.unit{P:XL}{s:Sem YC}{w w':XM}(h:s.run P w=.ok () w'):mX P (do s; pure .skip) undef w w' :=
 .inr ⟨by simp only[YF,h,YE,YG],rfl⟩
def map_some{α β:Type}{f:α->β}{x:YA α}{y:β}(h:x.map f=some y):∃a,x=some a/\y=f a:=by
 cases x with
 | none=>cases h
 | some a=>cases h; exact⟨a,rfl,rfl⟩
def Bo{m2 m:Yq}{b o n:Nat}(h:m2.get b=m.get b):m2.ek b o n=m.ek b o n:=by simp only[Yq.ek,h]
def AN{P:XL}{t:XJ}{p:XI}{m2 m:Yq}(h:∀b0,dT p=some b0->m2.get b0=m.get b0):eB P t p m2=eB P t p m:=by
 unfold eB
 split
 rename_i b o;have hb:=h b rfl;simp only[Bo hb,hb]
 rfl
def yl{P:XL}{t:XJ}{p:XI}{l hh k:YA XI}{m2 m:Yq}(h:∀b0,dT p=some b0->m2.get b0=m.get b0):cd P t p l hh k m2=cd P t p l hh k m:=by
 unfold cd
 split
 rfl
 rename_i b o len cap _;simp only[h b rfl]
 rfl
 rename_i b o _;simp only[h b rfl]
 rfl
def wI{P:XL}{t:XJ}{p q:XI}{ok:Bool}{m2 m:Yq}(h:∀b0,dT p=some b0->m2.get b0=m.get b0):jy P t p q ok m2=jy P t p q ok m:=by
 have:mapOf m2 p=mapOf m p:=by
  unfold mapOf
  split
  rfl
  rename_i r; simp only[h r rfl]
  rfl
 unfold jy;simp only[this]
def Quiet(E:Env)(j:aR)(m:Yq)(w:XM)(t:Tm)(a:Act)(o:Oper)(v:XI)(m':Yq):Prop :=
 m'=m/\(∀m2:Yq,(∀b0,aM E t o.op=some b0->m2.get b0=m.get b0)->fM E t m2 o.op=some (v,m2))/\∃v',mX E.P (execOp a.eval o) v' w w/\VR j v v'
def Se(E:Env)(j:aR)(m:Yq)(w:XM)(t:Tm)(a:Act)(o:Oper)(v:XI)(m':Yq):Prop :=
 ∃(ao:Ys) (co:Obj) (vb:Nat->XI) (v':XI),v=vb m.next/\m'=m.alloc ao/\mX E.P (execOp a.eval o) v' w (w.alloc co)/\OR j ⟨w.heap.size,none⟩ ao co /\
  (∀(j':aR) (b:Nat),j' b=some ⟨w.heap.size,none⟩->VR j' (vb b) v')/\∀m2:Yq,fM E t m2 o.op=some (vb m2.next,m2.alloc ao)
def yF(h:MR E j m w)(ht:TR n j t a.tmps){o:Oper}{v:XI}{m':Yq}(e:fM E t m o.op=some (v,m')) :
  Quiet E j m w t a o v m'\/Se E j m w t a o v m'\/(aA o.op=true/\∃j' w' v',mX E.P (execOp a.eval o) v' w w'/\Sim E j m w j' m' w'/\VR j' v v'):=by
 have hpure:∀{s:Sem XI} {f:Yq->YA XI} {v0:XI} {m0:Yq},(∀m2:Yq,fM E t m2 o.op=(f m2).map fun v=>(v,m2))->(∀m2:Yq,(∀b0,aM E t o.op=some b0->m2.get b0=m.get b0)->f m2=f m) ->
   (∀v1,f m=some v1->∃v',s.run E.P w=.ok v' w/\VR j v1 v')->(f m).map (fun v=>(v,m))=some (v0,m0)->execOp a.eval o=(do pure (.value (<-s))) ->
   Quiet E j m w t a o v0 m0:=by
  intro s f v0 m0 hf hf2 h1 h2 hx;obtain⟨v1,hr,he⟩:=map_some h2;cases he;obtain⟨v',h3,h4⟩:=h1 _ hr;exact⟨rfl,fun m2 hm2=>by rw[hf,hf2 m2 hm2,hr]; rfl,v',by rw[hx]; exact .value h3,h4⟩
 cases hop:o.op<;>rw[hop] at e<;>simp only[fM] at e<;>try(cases e; done)
 case move x =>
  refine .inl ⟨(by obtain⟨v1,hv,he⟩:=map_some e; cases he; rfl),fun m2 _=>?_,?_⟩
  rw[hop]; obtain⟨v1,hv,he⟩:=map_some e; cases he;simp only[fM,hv,Vx]
  obtain⟨v1,hv,he⟩:=map_some e;cases he;exact⟨_,.inl (by simp only[execOp,hop]; rfl),aV h ht hv⟩
 case assign x =>
  refine .inl ⟨(by obtain⟨v1,hv,he⟩:=map_some e; cases he; rfl),fun m2 _=>?_,?_⟩
  rw[hop]; obtain⟨v1,hv,he⟩:=map_some e; cases he;simp only[fM,hv,Vx]
  obtain⟨v1,hv,he⟩:=map_some e;cases he;exact⟨_,.inl (by simp only[execOp,hop]; rfl),aV h ht hv⟩
 case pick c x y =>
  have hx:execOp a.eval o=(do pure (.value (if <-asBool (a.eval c) then a.eval x else a.eval y))):=by simp only[execOp,hop]
  refine .inl ?_
  split at e
  rename_i hc;obtain⟨v1,hv,he⟩:=map_some e;cases he;have hb:=aV h ht hc;refine⟨rfl,fun m2 _=>by rw[hop]; simp only[fM,hc,hv,Vx],a.eval x,?_,aV h ht hv⟩
  rw[hx];generalize a.eval c=cv at hb;cases hb;exact .inl rfl
  rename_i hc;obtain⟨v1,hv,he⟩:=map_some e;cases he;have hb:=aV h ht hc;refine⟨rfl,fun m2 _=>by rw[hop]; simp only[fM,hc,hv,Vx],a.eval y,?_,aV h ht hv⟩
  rw[hx];generalize a.eval c=cv at hb;cases hb;exact .inl rfl
  cases e
 case alloc elem =>
  have hx:execOp a.eval o=(do pure (.value (<-Instr.alloc elem true (.tuple #[])))):=by simp only[execOp,hop]
  split at e
  rename_i z hz
  split at e
  rename_i hp;cases e;refine .inr (.inl ⟨_,.cells z.cells elem,fun b=>ptr b 0,.pointer (some ⟨w.heap.size,0,none⟩),rfl,rfl,?_,OR.own (iU (VR.bH hp)),fun j' b hb=>.ptr hb,fun m2=>by rw[hop]; simp only[fM,hz,hp,if_true]⟩)
  rw[hx];refine .value ?_;simp only[Instr.alloc,YF,jW hz,YE,newVar,newRow,run_newObj,YG,World.alloc_eq]
  cases e
  cases e
 case box elem x =>
  have hx:execOp a.eval o=(do pure (.value (<-Instr.box elem (a.eval x)))):=by simp only[execOp,hop]
  obtain⟨v1,hv,he⟩:=map_some e;cases he;refine .inr (.inl ⟨_,.cells (a.eval x).cells elem,fun b=>ptr b 0,.pointer (some ⟨w.heap.size,0,none⟩),rfl,rfl,?_,OR.own (iU (aV h ht hv)),fun j' b hb=>.ptr hb,fun m2=>by rw[hop]; simp only[fM,hv,Vx]⟩)
  rw[hx];refine .value ?_;simp only[Instr.box,YF,newVar,newRow,run_newObj,YE,YG,World.alloc_eq]
 case build ty parts =>
  have hx:execOp a.eval o=(do pure (.value (<-Instr.build ty (parts.map fun(i,x)=>(i,a.eval x))))):=by simp only[execOp,hop]
  split at e
  rename_i ps z hps hz
  split at e
  rename_i hp;obtain⟨h1,h2⟩:=kM h ht hps;refine .inl (hpure (f:=fun _=>nw E.P ty ps) (fun m2=>by rw[hop]; simp only[fM,hps,hz,U5 hp]) (fun _ _=>rfl) (fun v1 hv1=>?_) e hx)
  obtain⟨v',h3,h4⟩:=Gl hv1 h1 h2 hz hp;refine⟨v',?_,h4⟩;have:(parts.map fun(i,x)=>(i,a.eval x))=(parts.toList.map fun p=>(p.1,a.eval p.2)).toArray:=by
   apply Wx.1; simp
  rw[this]; exact h3 w
  cases e
  cases e
 case buildSlice ty len parts =>
  have hx:execOp a.eval o=(do pure (.value (<-Instr.buildSlice ty len (parts.map fun(i,x)=>(i,a.eval x))))):=by simp only[execOp,hop]
  split at e
  rename_i elem ps hu hps
  split at e
  cases e
  rename_i hc;simp only[Wv,Wa,Vm,not_or,Bool.not_eq_false] at hc;obtain⟨hk,hbig⟩:=hc
  split at e
  rename_i zs hz
  split at e
  rename_i hp;obtain⟨cs,hcs,he⟩:=map_some e;cases he;obtain⟨h1,h2⟩:=kM h ht hps;obtain⟨z,hz1,hz2,hz3⟩:=ku hz;obtain⟨cs',h3,h4⟩:=qN h1 h2 (LR.plain (j:=j) hp) hcs;have hparts:(parts.map fun(i,x)=>(i,a.eval x)).toList=parts.toList.map fun p=>(p.1,a.eval p.2):=by simp
  refine .inr (.inl ⟨_,.cells cs'.toArray elem,fun b=>.slice (some ⟨b,0,none⟩) len len,.slice (some ⟨w.heap.size,0,none⟩) len len,rfl,rfl,?_,OR.own (by simpa using h4),fun j' b hb=>.slice hb rfl,fun m2=>by rw[hop]; simp only[fM,hu,hps,hk,hz,hp,hcs,Vj hbig,V4,Bool.or_self,VG,if_true,if_false,Vx]⟩)
  rw[hx];refine .value ?_;have hc0:len*aE E.P elem=0->((Array.range (len*aE E.P elem)).map fun i=>(#[]:YD XI)[i%(#[]:YD XI).size]!)=zs.toArray:=by
   intro h0;apply Wx.1;have:zs=[]:=by apply WR; rw[hz3,bO,WN,hz2,h0]
   simp[h0,this]
  have hc1:((Array.range (len*aE E.P elem)).map fun i=>z.cells[i%z.cells.size]!)=zs.toArray:=by
   apply Wx.1;rw[hz3,<-hz2]; exact lC len
  simp only[Instr.buildSlice,YF,YH hu,YE,cL hk,Sem.run_ite,U3 hbig,hparts]
  split
  rename_i h0;simp only[YG,YE,hc0 h0,h3,newRow,YF,run_newObj,World.alloc_eq]
  simp only[YF,jW hz1,YG,YE,hc1,h3,newRow,run_newObj,World.alloc_eq]
  cases e
  cases e
  cases e
 case load ty x =>
  have hx:execOp a.eval o=(do pure (.value (<-Instr.loadAt ty (a.eval x)))):=by simp only[execOp,hop]
  split at e
  rename_i p hp;refine .inl (hpure (f:=fun m2=>eB E.P ty p m2) (fun m2=>by rw[hop]; simp only[fM,hp]) (fun m2 hm2=>?_) (fun v1 hv1=>Ba h hv1 (aV h ht hp)) e hx)
  rw[hop] at hm2;simp only[aM,hp,VE] at hm2;exact AN hm2
  cases e
 case store ty x y =>
  have hx:execOp a.eval o=(do Instr.storeAt ty (a.eval x) (a.eval y); pure .skip):=by simp only[execOp,hop]
  rw[hx]
  split at e
  rename_i p v0 hp hv0;obtain⟨m1,hm1,he⟩:=map_some e;cases he;obtain⟨w',h1,h2⟩:=Gn h hm1 (aV h ht hp) (aV h ht hv0);exact .inr (.inr ⟨rfl,j,w',undef,.unit h1,h2,VR.undef j⟩)
  cases e
 case nilCheck x =>
  split at e
  rename_i ad hp;cases e;have hv:=aV h ht hp;refine .inl ⟨rfl,fun m2 _=>by rw[hop]; simp only[fM,hp],a.eval x,.inl ?_,hv⟩
  generalize hxv:a.eval x=xv at hv;cases hv;simp only[execOp,hop,hxv,YG]
  rename_i f fs cs hp;cases e;have hv:=aV h ht hp;refine .inl ⟨rfl,fun m2 _=>by rw[hop]; simp only[fM,hp],a.eval x,.inl ?_,hv⟩
  generalize hxv:a.eval x=xv at hv;cases hv;simp only[execOp,hop,hxv,YG]
  rename_i f fs cs hp;cases e;have hv:=aV h ht hp;refine .inl ⟨rfl,fun m2 _=>by rw[hop]; simp only[fM,hp],a.eval x,.inl ?_,hv⟩
  generalize hxv:a.eval x=xv at hv;cases hv;simp only[execOp,hop,hxv,YG]
  cases e
 case binOp op xt x y yt =>
  have hx:execOp a.eval o=(do pure (.value (<-(do eqGuard op xt x y (a.eval x) (a.eval y); binOp op xt (a.eval x) (a.eval y))))):=by simp only[execOp,hop]
  split at e
  rename_i p q hp hq;refine .inl (hpure (f:=fun _=>bW op xt E.P p q) (fun m2=>by rw[hop]; simp only[fM,hp,hq]) (fun _ _=>rfl) (fun v1 hv1=>?_) e hx)
  obtain⟨v',h1,h2⟩:=LG hv1 (aV h ht hp) (aV h ht hq) x y;exact⟨v',h1 w,h2⟩
  cases e
 case unOp op xt x =>
  have hx:execOp a.eval o=(do pure (.value (<-Op.unary op (a.eval x)))):=by simp only[execOp,hop]
  split at e
  rename_i p hp;refine .inl (hpure (f:=fun _=>Gq op p) (fun m2=>by rw[hop]; simp only[fM,hp]) (fun _ _=>rfl) (fun v1 hv1=>?_) e hx)
  obtain⟨v',h1,h2⟩:=Qc (P:=E.P) hv1 (aV h ht hp);exact⟨v',h1 w,h2⟩
  cases e
 case convert s d x =>
  have hx:execOp a.eval o=(do pure (.value (<-convert s d (a.eval x)))):=by simp only[execOp,hop]
  split at e
  rename_i p hp;refine .inl (hpure (f:=fun _=>lj E.P s d p) (fun m2=>by rw[hop]; simp only[fM,hp]) (fun _ _=>rfl) (fun v1 hv1=>?_) e hx)
  obtain⟨v',h1,h2⟩:=GY hv1 (aV h ht hp);exact⟨v',h1 w,h2⟩
  cases e
 case makeFunc fn first captured =>
  cases fn<;>simp only at e<;>try(cases e; done)
  rename_i f;have hx:execOp a.eval o=(do pure (.value (<-Instr.makeFunc (.func f) (first.map a.eval) (captured.map a.eval)))):=by simp only[execOp,hop]
  split at e
  rename_i fs cs h1 h2;cases e;have h3:=gC h ht h1;have h4:=gC h ht h2;have h3':LR j fs.toArray.toList (first.map a.eval).toList:=by simpa using h3
  have h4':LR j cs.toArray.toList (captured.map a.eval).toList:=by simpa using h4
  refine .inl ⟨rfl,fun m2 _=>by rw[hop]; simp only[fM,h1,h2],_,?_,.func h3'.size h3'.arr h4'.size h4'.arr⟩
  rw[hx]; exact .value rfl
  cases e
 case makeMap ty r =>
  cases r with
  | some _=>simp at e
  | none =>
   simp only at e;cases e;have hx:execOp a.eval o=(do pure (.value (<-Instr.makeMap ty none))):=by simp only[execOp,hop]; rfl
   refine .inr (.inl ⟨.map [],.map #[] 0,fun b=>.map (some b),.map (some w.heap.size),rfl,rfl,?_,⟨trivial,Fp _⟩,fun j' b hb=>.map hb,fun m2=>by rw[hop]; rfl⟩)
   rw[hx];refine .value ?_;simp only[Instr.makeMap,YF,run_newObj,YE,YG,World.alloc_eq]
 case makeSlice ty l c =>
  have hx:execOp a.eval o=(do pure (.value (<-Instr.makeSlice ty (a.eval l) (a.eval c)))):=by simp only[execOp,hop]
  split at e
  rename_i elem li ci hu hl hc
  split at e
  rename_i hcond;have hcond0:=hcond;obtain⟨h0l,hlc,hany,hk⟩:=hcond;simp only[Option.any_eq_true,Va,Vm,bne_iff_ne,ne_eq] at hany;obtain⟨i,hi,hby,hb0⟩:=hany
  split at e
  rename_i zs hz
  split at e
  rename_i hp;cases e;obtain⟨z,hz1,hz2,hz3⟩:=ku hz;have hlv:=aV h ht hl;have hcv:=aV h ht hc;refine .inr (.inl ⟨_,.cells zs.toArray elem,fun b=>.slice (some ⟨b,0,none⟩) li.toNat ci.toNat,.slice (some ⟨w.heap.size,0,none⟩) li.toNat ci.toNat,rfl,rfl,?_,OR.own (LR.plain hp),fun j' b hb=>.slice hb rfl,fun m2=>by rw[hop]; simp only[fM,hu,hl,hc]; rw[U5 hcond0]; simp only[hz,hp,if_true]⟩)
  rw[hx];refine .value ?_;generalize a.eval l=lv at hlv;generalize a.eval c=cv at hcv;cases hlv; cases hcv;have hci:ci<=2 ^ 40:=by
   have h1:(1:Int)<=(i.bytes:Int):=by exact_mod_cast Nat.one_le_iff_ne_zero.2 hb0
   have:1*ci<=(i.bytes:Int)*ci:=Wt h1 (by omega)
   omega
  have hwl:IntKind.i64.wrap li=li:=IntWalk.i64_in li (by omega)
  have hwc:IntKind.i64.wrap ci=ci:=IntWalk.i64_in ci (by omega)
  have hneg:¬(((ci<0 ||(i.bytes:Int)*ci>2 ^ 48)||li<0||li>ci)=true):=by
   simp only[Wv,Vm,not_or];omega
  have hc0:ci.toNat*aE E.P elem=0->((Array.range (ci.toNat*aE E.P elem)).map fun i=>(#[]:YD XI)[i%(#[]:YD XI).size]!)=zs.toArray:=by
   intro h0;apply Wx.1;have:zs=[]:=by apply WR; rw[hz3,bO,WN,hz2,h0]
   simp[h0,this]
  have hc1:((Array.range (ci.toNat*aE E.P elem)).map fun i=>z.cells[i%z.cells.size]!)=zs.toArray:=by
   apply Wx.1;rw[hz3,<-hz2]; exact lC ci.toNat
  simp only[Instr.makeSlice,YF,YH hu,YE,asInt,asIntOf,YG,vJ hi,hwl,hwc,Sem.run_ite,U3 hneg,run_askRoom,cL hk]
  split
  rename_i h0;simp only[YG,YE,hc0 h0,newRow,YF,run_newObj,World.alloc_eq]
  simp only[YF,jW hz1,YG,YE,hc1,newRow,run_newObj,World.alloc_eq]
  cases e
  cases e
  cases e
  cases e
 case slice ty x lo hi mx =>
  have hx:execOp a.eval o=(do pure (.value (<-Instr.sliceAt ty (a.eval x) (lo.map a.eval) (hi.map a.eval) (mx.map a.eval)))):=by simp only[execOp,hop]
  split at e
  rename_i p l hh k hp h1 h2 h3;refine .inl (hpure (f:=fun m2=>cd E.P ty p l hh k m2) (fun m2=>by rw[hop]; simp only[fM,hp,h1,h2,h3]) (fun m2 hm2=>?_) (fun v1 hv1=>?_) e hx)
  rw[hop] at hm2;simp only[aM,hp,VE] at hm2;exact yl hm2
  obtain⟨v',g1,g2⟩:=Fw h hv1 (aV h ht hp) (qA h ht h1) (qA h ht h2) (qA h ht h3);exact⟨v',g1 w,g2⟩
  cases e
 case fieldAddr s x f =>
  have hx:execOp a.eval o=(do pure (.value (<-Instr.fieldAt s (a.eval x) f))):=by simp only[execOp,hop]
  split at e
  rename_i p hp;refine .inl (hpure (f:=fun _=>aG E.P s p f) (fun m2=>by rw[hop]; simp only[fM,hp]) (fun _ _=>rfl) (fun v1 hv1=>?_) e hx)
  obtain⟨v',g1,g2⟩:=wL hv1 (aV h ht hp);exact⟨v',g1 w,g2⟩
  cases e
 case field ty x f =>
  have hx:execOp a.eval o=(do pure (.value (<-Instr.field ty (a.eval x) f))):=by simp only[execOp,hop]
  split at e
  rename_i p hp;refine .inl (hpure (f:=fun _=>ji E.P ty p f) (fun m2=>by rw[hop]; simp only[fM,hp]) (fun _ _=>rfl) (fun v1 hv1=>?_) e hx)
  obtain⟨v',g1,g2⟩:=F0 hv1 (aV h ht hp);exact⟨v',g1 w,g2⟩
  cases e
 case sliceToArrayPointer ty x =>
  have hx:execOp a.eval o=(do pure (.value (<-Instr.arrayAt ty (a.eval x)))):=by simp only[execOp,hop]
  split at e
  rename_i p hp;refine .inl (hpure (f:=fun _=>Ea E.P ty p) (fun m2=>by rw[hop]; simp only[fM,hp]) (fun _ _=>rfl) (fun v1 hv1=>?_) e hx)
  obtain⟨v',g1,g2⟩:=GL hv1 (aV h ht hp);exact⟨v',g1 w,g2⟩
  cases e
 case indexAddr ty x i =>
  have hx:execOp a.eval o=(do pure (.value (<-Instr.indexAt ty (a.eval x) (a.eval i)))):=by simp only[execOp,hop]
  split at e
  rename_i p q hp hq;refine .inl (hpure (f:=fun _=>cq E.P ty p q) (fun m2=>by rw[hop]; simp only[fM,hp,hq]) (fun _ _=>rfl) (fun v1 hv1=>?_) e hx)
  obtain⟨v',g1,g2⟩:=wO hv1 (aV h ht hp) (aV h ht hq);exact⟨v',g1 w,g2⟩
  cases e
 case index ty x i =>
  have hx:execOp a.eval o=(do pure (.value (<-Instr.index ty (a.eval x) (a.eval i)))):=by simp only[execOp,hop]
  split at e
  rename_i p q hp hq;refine .inl (hpure (f:=fun _=>iB E.P ty p q) (fun m2=>by rw[hop]; simp only[fM,hp,hq]) (fun _ _=>rfl) (fun v1 hv1=>?_) e hx)
  obtain⟨v',g1,g2⟩:=FP hv1 (aV h ht hp) (aV h ht hq);exact⟨v',g1 w,g2⟩
  cases e
 case lookup ty x i ok =>
  have hx:execOp a.eval o=(do pure (.value (<-Instr.lookup ty (a.eval x) (a.eval i) ok))):=by simp only[execOp,hop]
  split at e
  rename_i p q hp hq;refine .inl (hpure (f:=fun m2=>jy E.P ty p q ok m2) (fun m2=>by rw[hop]; simp only[fM,hp,hq]) (fun m2 hm2=>?_) (fun v1 hv1=>Cy h hv1 (aV h ht hp) (aV h ht hq)) e hx)
  rw[hop] at hm2;simp only[aM,hp,VE] at hm2;exact wI hm2
  cases e
 case mapUpdate ty x k y =>
  have hx:execOp a.eval o=(do Instr.mapUpdate ty (a.eval x) (a.eval k) (a.eval y); pure .skip):=by simp only[execOp,hop]
  rw[hx]
  split at e
  rename_i p q r hp hq hr;obtain⟨m1,hm1,he⟩:=map_some e;cases he;obtain⟨w',h1,h2⟩:=qa h hm1 (aV h ht hp) (aV h ht hq) (aV h ht hr);exact .inr (.inr ⟨rfl,j,w',undef,.unit h1,h2,VR.undef j⟩)
  cases e
 case insert ty x k y =>
  have hx:execOp a.eval o=(do Instr.mapUpdate ty (a.eval x) (a.eval k) (a.eval y); pure .skip):=by simp only[execOp,hop]
  rw[hx]
  split at e
  rename_i p q r hp hq hr;obtain⟨m1,hm1,he⟩:=map_some e;cases he;obtain⟨w',h1,h2⟩:=qa h hm1 (aV h ht hp) (aV h ht hq) (aV h ht hr);exact .inr (.inr ⟨rfl,j,w',undef,.unit h1,h2,VR.undef j⟩)
  cases e
 case extract x i =>
  have hx:execOp a.eval o=(do pure (.value (<-Instr.extract (a.eval x) i))):=by simp only[execOp,hop]
  split at e
  ·rename_i vs hp;refine .inl (hpure (f:=fun _=>vs[i]?) (fun m2=>by rw[hop]; simp only[fM,hp]) (fun _ _=>rfl) (fun v1 hv1=>?_) e hx)
   have hv:=aV h ht hp;generalize a.eval x=xv at hv;cases hv with
   | tuple h1 h2 =>
   rename_i ys;obtain⟨v',g1,g2⟩:=(LR.gB h1 h2).get (show vs.toList[i]? = some v1 by simpa using hv1)
   refine⟨v',?_,g2⟩;have g1':ys[i]? = some v':=by simpa using g1
   simp only[Instr.extract,g1',YG]
  cases e
 case call c =>
  split at e
  rename_i b hb
  split at e
  rename_i vs hvs;have hx:execOp a.eval o=(do let d <-resolve a.eval c o.type; invoke d.target d.args):=by simp only[execOp,hop]
  have hargs:c.args.map a.eval=(c.args.toList.map a.eval).toArray:=by apply Wx.1; simp
  have hrun:∃cs,(execOp a.eval o).run E.P w=(builtin b c.argTypes o.type cs (c.args.toList.map a.eval).toArray).run E.P w :=
   ⟨_,by rw[hx]; simp only[resolve,hb,YF,YG,YE,invoke,hargs]; rfl⟩
  obtain⟨cs,hrun⟩:=hrun;rcases Bt h e (gC h ht hvs) o.type cs with⟨rfl,hm,v',h1,h2⟩|⟨hbb,j',w',v',h1,h2,h3⟩
  refine .inl ⟨rfl,fun m2 hm2=>?_,v',.inl (hrun.trans h1),h2⟩;rw[hop] at hm2 ⊢;simp only[fM,hb,hvs];refine hm m2 fun hlc x b0 hx1 hx2=>hm2 b0 ?_;subst hx1;rcases hlc with rfl|rfl<;>simp only[aM,hb,hvs,hx2]
  refine .inr (.inr ⟨?_,j',w',v',.inl (hrun.trans h1),h2,h3⟩);rcases hbb with rfl|rfl|rfl|rfl<;>simp only[aA,hb]
  cases e
  cases e
def Hk(h:MR E j m w)(ht:TR n j t a.tmps){o:Oper}{v:XI}{m':Yq}(e:fM E t m o.op=some (v,m')) :
  ∃j' w' v',mX E.P (execOp a.eval o) v' w w'/\Sim E j m w j' m' w'/\VR j' v v':=by
 rcases yF h ht e with⟨rfl,_,v',h1,h2⟩|⟨ao,co,vb,v',rfl,rfl,h1,h2,h3,_⟩|⟨_,h1⟩
 exact⟨j,w,v',h1,.refl h,h2⟩
 exact⟨_,_,v',h1,oU h h2,h3 _ _ (aR.cn _ _ _)⟩
 exact h1
end
def IA:Yr->Exit
 | .normal=>.normal
 | .exit id=>.exit id
 | .ret=>.ret
def mG(F:Fence):Prop:=F=Fence.wide\/∃l,F=Fence.wide.inRound l
def mG.fn{F:Fence}(h:mG F)(f:YI):F.fn f:=by
 rcases h with rfl|⟨l,rfl⟩<;>trivial
def mG.room{F:Fence}(h:mG F)(n:Nat):F.room n:=by
 rcases h with rfl|⟨l,rfl⟩<;>intro d hd<;>simp[Fence.wide] at hd
def mG.depth{F:Fence}(h:mG F){n:Nat}:F.depth.isSome=true->1<=n:=by
 rcases h with rfl|⟨l,rfl⟩<;>intro hd<;>simp[Fence.wide] at hd
def mG.calls{F:Fence}(h:mG F){n:Nat}{P:XL}{f:YI}{args:YD XI}{w:XM}{R:Ending->XM->Prop}(hc:CallsIn Fence.wide n P f args w R):CallsIn F n P f args w R:=by
 rcases h with rfl|⟨l,rfl⟩
 exact hc
 exact hc
def mG.MB{F:Fence}(h:mG F){n:Nat}{P:XL}{l:Nat}{f:YI}{tmps:YD XI}{x y:Code}{w:XM}{R:Ending->XM->Prop}(hc:RoundIn Fence.wide n P l f tmps x y w R):RoundIn F n P l f tmps x y w R:=by
 rcases h with rfl|⟨l,rfl⟩
 exact hc
 exact hc
def lJ(j:aR)(r:YA Nat)(F:Fence):Prop :=
 match r with
 | none=>F=Fence.wide
 | some l=>∃k,j l=some k/\F=Fence.wide.inRound k.c
def lJ.wide{j:aR}{r:YA Nat}{F:Fence}(h:lJ j r F):mG F:=by
 cases r with
 | none=>exact .inl h
 | some l=>obtain⟨k,_,rfl⟩:=h; exact .inr ⟨_,rfl⟩
def lJ.mono{j j':aR}(hj:j.le j'){r:YA Nat}{F:Fence}(h:lJ j r F):lJ j' r F:=by
 cases r with
 | none=>exact h
 | some l=>obtain⟨k,h1,rfl⟩:=h; exact⟨k,hj _ _ h1,rfl⟩
def uM(r:Nat):Deferred:={ target:=.collected r,args:=#[]}
def Marks(N:Nat)(w:XM)(ds:YB Deferred):Prop:=∃rs:YB Nat,rs.Nodup/\ds=rs.map uM/\∀r∈rs,N<=r/\w.heap[r]? = some (.deferred (some []))
def Marks.nil(N:Nat)(w:XM):Marks N w []:=⟨[],List.nodup_nil,rfl,fun r h=>by simp at h⟩
def Cf{E:Env}{j:aR}{m:Yq}{w:XM}(h:MR E j m w){r:Nat}(hr:w.heap[r]? = some (.deferred (some []))):∀b k,j b=some k->(m.get b).isSome=true->k.c≠r:=by
 intro b k hb hl he;cases hg:m.get b with
 | none=>rw[hg] at hl; cases hl
 | some o =>
  obtain⟨o',h1,h2⟩:=h.obj b o k hg hb;rw[he,hr] at h1;cases h1;cases o<;>exact h2.elim
def Marks.Ie{E:Env}{j j':aR}{m m':Yq}{w w':XM}(h:MR E j m w)(s:Sim E j m w j' m' w'){N:Nat}{ds:YB Deferred}(hm:Marks N w ds):Marks N w' ds:=by
 obtain⟨rs,h1,h2,h3⟩:=hm;refine⟨rs,h1,h2,fun r hr=>⟨(h3 r hr).1,?_⟩⟩;have hh:=(h3 r hr).2;rw[s.frame r (Vh.1 hh).1 fun b k hb hl he=>Vr he (Cf h hh b k hb hl)];exact hh
def nG(E:Env)(j:aR)(m:Yq)(w:XM)(N n:Nat)(e:Yr)(t:Tm)(m':Yq):Exit->Act->XM->Prop:=fun e' a' w' =>
 e'=IA e/\∃j',Sim E j m w j' m' w'/\TR n j' t a'.tmps/\Marks N w' a'.defers
def Ej(E:Env)(cs:Nat->XL->Fence->(Exit->Act->XM->Prop)->Act->XM->Prop)(fr:Fr)(m:Yq)(r:Res):Prop :=
 ∃e t m',r=.code e t m'/\∀(j:aR) (w:XM) (a:Act) (F:Fence) (N:Nat),MR E j m w->TR fr.n j fr.tmps a.tmps->lJ j fr.round F->Marks N w a.defers->N<=w.heap.size ->
  cs 0 E.P F (nG E j m w N fr.n e t m') a w
def iy(P:XL)(pr:Bool)(f:YI)(args:YD XI)(w:XM)(R:XI->XM->Prop):Prop :=
 ((callFunc f args).run P w=.ok (.enter f args) w/\CallsIn Fence.wide 0 P f args w (fun e w'=>∃v,e=.returned v/\R v w')) \/
  (pr=true/\∃v w',(callFunc f args).run P w=.ok (.value v) w'/\R v w')
def jR(E:Env)(j:aR)(m:Yq)(w:XM)(v:XI)(m':Yq):XI->XM->Prop:=fun v' w'=>∃j',Sim E j m w j' m' w'/\VR j' v v'
def LF(E:Env)(f:YI)(args:YB XI)(m:Yq)(r:Res):Prop :=
 ∃v m',r=.val v m'/\∀(j:aR) (w:XM) (args':YB XI),MR E j m w->LR j args args'->iy E.P (E.cZ f).isSome f args'.toArray w (jR E j m w v m')
def Hb(E:Env)(l:Nat)(args:YB XI)(m:Yq)(r:Res):Prop :=
 ∃v m',r=.val v m'/\∀(j:aR) (w:XM) (k:Blk) (args':YB XI),MR E j m w->j l=some k->LR j args args' ->
  ∃fn tmps assign body,(Instr.yield k.c args'.toArray).run E.P w=.ok (.round k.c fn tmps assign body) w /\
   RoundIn Fence.wide 0 E.P k.c fn tmps assign body w (fun e w'=>∃v',e=.returned v'/\jR E j m w v m' v' w')
def qh(F:Fence)(n:Nat)(P:XL)(c:Code)(Q:Exit->Act->XM->Prop)(a:Act)(w:XM):Prop :=
 ∀(b:Frame) (k:YB Item) (cs:YB Frame),b.roundOf=F.round->F.fn b.fn->F.room (cs.length+1+n) ->
  ∃e a' w',Q e a' w'/\ArrivesIn (Machine.fenced P F) P (lone (b.atR a (.code c::.inLoop c::k)) cs w) b k cs e a' w'
def cX(E:Env):Task->Res->Prop
 | .code c fr m,r=>Ej E (fun n P F Q a w=>c.wpIn F n P Q a w) fr m r
 | .loop c fr m,r=>Ej E (fun n P F Q a w=>qh F n P c Q a w) fr m r
 | .call f args m,r=>LF E f args m r
 | .round l args m,r=>Hb E l args m r
structure EnvOk(E:Env):Prop where
 call:∀f fn c,E.P.funcs[f]? = some fn->fn.body=some c->∀args w,(callFunc f args).run E.P w=.ok (.enter f args) w
 mixed:E.P.follows .mixedOrders=true
 cZ:∀f p,E.cZ f=some p->∀args m v m',p.run args m=some (v,m')->∀(j:aR) (w:XM) (args':YB XI),MR E j m w->LR j args args'->iy E.P (E.cZ f).isSome f args'.toArray w (jR E j m w v m')
def dS{F:Fence}(hF:mG F){P:XL}{o:Oper}{a:Act}{w w':XM}{v:XI}{next:Act->XM->Prop}{Q:Exit->Act->XM->Prop}(hd:∀c,o.op≠.defer c)
  (h:mX P (execOp a.eval o) v w w') (hn:next (a.put o.dst v) w'):o.wpIn F 0 P a w next Q:=by
 refine⟨fun f _=>hF.fn f,?_⟩;rw[Oper.semAt_eq _ _ _ hd];rcases h with h|⟨h,rfl⟩
 rw[h]; exact hn
 rw[h]; exact hn
section
variable{E:Env}{k:K}
def oA{t:Tm}{m:Yq}{o:Op}{r:XI×Yq}(h:fM E t m o=some r):∀c,o≠.defer c:=by
 intro c e; subst e; simp[fM] at h
def Does(P:XL)(s:Sem Next)(w:XM)(G:XI->XM->Prop):Prop :=
 (∃v w',mX P s v w w'/\G v w') \/
 (∃f args,s.run P w=.ok (.enter f args) w/\CallsIn Fence.wide 0 P f args w (fun e w'=>∃v,e=.returned v/\G v w')) \/
 (∃l fn tmps x y,s.run P w=.ok (.round l fn tmps x y) w/\RoundIn Fence.wide 0 P l fn tmps x y w (fun e w'=>∃v,e=.returned v/\G v w'))
def Does.wpIn{F:Fence}(hF:mG F){P:XL}{o:Oper}(hd:∀c,o.op≠.defer c){a:Act}{w:XM}{G:XI->XM->Prop}(h:Does P (execOp a.eval o) w G){next:Act->XM->Prop}{Q:Exit->Act->XM->Prop}
  (hn:∀v' w',G v' w'->next (a.put o.dst v') w'):o.wpIn F 0 P a w next Q:=by
 rcases h with⟨v,w',h1,h2⟩|⟨f,args,h1,h2⟩|⟨l,fn,tmps,x,y,h1,h2⟩
 exact dS hF hd h1 (hn _ _ h2)
 refine⟨fun f _=>hF.fn f,?_⟩;rw[Oper.semAt_eq _ _ _ hd,h1];exact⟨hF.depth,CallsIn.mono (hF.calls h2) fun e' w' he=>by
  obtain⟨v',rfl,hq⟩:=he;exact hn v' w' hq⟩
 refine⟨fun f _=>hF.fn f,?_⟩;rw[Oper.semAt_eq _ _ _ hd,h1];exact⟨hF.depth,RoundIn.mono (hF.MB h2) fun e' w' he=>by
  obtain⟨v',rfl,hq⟩:=he;exact hn v' w' hq⟩
def Does.ends{P:XL}{s:Sem Next}{w:XM}{G:XI->XM->Prop}(h:Does P s w G):∃v w',G v w':=by
 rcases h with⟨v,w',_,h2⟩|⟨f,args,_,h2⟩|⟨l,fn,tmps,x,y,_,h2⟩
 exact⟨v,w',h2⟩
 obtain⟨e,w',fr,⟨v,_,hq⟩,_⟩:=h2.2 [] (mG.room (.inl rfl) _);exact⟨v,w',hq⟩
 obtain⟨e,w',⟨v,_,hq⟩,_⟩:=h2.2 default [] (mG.room (.inl rfl) _);exact⟨v,w',hq⟩
def pY{t:Tm}{m:Yq}{o:Op}{r:XI×Yq}(h:eO k E t m o=some r):∀c,o≠.defer c:=by
 intro c e; subst e; simp[eO,fM] at h
def nv(hk:∀tk r,k tk=some r->cX E tk r){j:aR}{m:Yq}{w:XM}{t:Tm}{n:Nat}{a:Act}(h:MR E j m w)(ht:TR n j t a.tmps){o:Oper}{v:XI}{m':Yq}(e:eO k E t m o.op=some (v,m')) :
  Does E.P (execOp a.eval o) w (jR E j m w v m'):=by
 have hplain:fM E t m o.op=some (v,m')->Does E.P (execOp a.eval o) w (jR E j m w v m'):=by
  intro e;obtain⟨j',w',v',h1,h2,h3⟩:=Hk h ht e;exact .inl ⟨v',w',h1,j',h2,h3⟩
 unfold eO at e
 split at e
 ·rename_i c hop
  split at e
  ·rename_i f hc
   split at e
   ·rename_i g first captured args hf hargs
    split at e
    ·rename_i v0 m0 hcall;cases e;obtain⟨v1,m1,hr,hsim⟩:=hk _ _ hcall;cases hr;have hfv:=aV h ht hf;generalize hfe:a.eval f=fv at hfv;cases hfv with
     | func h1 h2 h3 h4 =>
     rename_i ys ds;have hl:LR j (first.toList++args++captured.toList) (ys.toList++(c.args.toList.map a.eval)++ds.toList) :=
      ((LR.gB h1 h2).append (gC h ht hargs)).append (LR.gB h3 h4)
     have hcs:=hsim j w _ h hl;have harr:(ys.toList++(c.args.toList.map a.eval)++ds.toList).toArray=ys++c.args.map a.eval++ds:=by apply Wx.1; simp
     rw[harr] at hcs;have hexec:execOp a.eval o=(do let d <-resolve a.eval c o.type; invoke d.target d.args):=by simp only[execOp,hop]
     have hrun:(execOp a.eval o).run E.P w=(callFunc g (ys++c.args.map a.eval++ds)).run E.P w:=by
      rw[hexec];simp only[resolve,hc,hfe,Deferred.ofValue,YF,YG,YE,invoke]
     rcases hcs with⟨hr,hci⟩|⟨_,v',w',hr,hq⟩
     exact .inr (.inl ⟨_,_,hrun.trans hr,hci⟩)
     exact .inl ⟨v',w',.inl (hrun.trans hr),hq⟩
    cases e
   ·rename_i l first cap args hf hargs
    split at e
    ·rename_i v0 m0 hcall;cases e;obtain⟨v1,m1,hr,hsim⟩:=hk _ _ hcall;cases hr;have hfv:=aV h ht hf;generalize hfe:a.eval f=fv at hfv;cases hfv with
     | yield hj h1 h2 =>
     rename_i kb ys ds;have hl:LR j (first.toList++args) (ys.toList++(c.args.toList.map a.eval)):=(LR.gB h1 h2).append (gC h ht hargs)
     obtain⟨fn,tmps,assign,body,hy,hro⟩:=hsim j w kb _ h hj hl;have harr:(ys.toList++(c.args.toList.map a.eval)).toArray=ys++c.args.map a.eval:=by apply Wx.1; simp
     rw[harr] at hy;have hexec:execOp a.eval o=(do let d <-resolve a.eval c o.type; invoke d.target d.args):=by simp only[execOp,hop]
     have hrun:(execOp a.eval o).run E.P w=.ok (.round kb.c fn tmps assign body) w:=by
      rw[hexec];simp only[resolve,hc,hfe,Deferred.ofValue,YF,YG,YE,invoke,hy]
     exact .inr (.inr ⟨_,_,_,_,_,hrun,hro⟩)
    cases e
   cases e
  exact hplain e
 exact hplain e
def F2(hk:∀tk r,k tk=some r->cX E tk r){j:aR}{m:Yq}{w:XM}{t:Tm}{n:Nat}{a:Act}(h:MR E j m w)(ht:TR n j t a.tmps){o:Oper}{v:XI}{m':Yq}(e:eO k E t m o.op=some (v,m'))
  {F:Fence} (hF:mG F) {next:Act->XM->Prop} {Q:Exit->Act->XM->Prop} (hn:∀v' w',jR E j m w v m' v' w'->next (a.put o.dst v') w'):o.wpIn F 0 E.P a w next Q :=
 (nv hk h ht e).wpIn hF (pY e) hn
def TR.put{n:Nat}{j:aR}{t t':Tm}{a:Act}{dst:YA Tmp}{v v':XI}(h:TR n j t a.tmps)(hv:VR j v v')(hp:kZ n t dst v=some t'):TR n j t' (a.put dst v').tmps:=by
 unfold kZ at hp
 split at hp
 rename_i d
 split at hp
 rename_i hlt;cases hp;have hlt':d<n:=by simpa using hlt
 refine⟨by simp[Act.put,h.1],fun i=>?_⟩
 simp only[Act.put,Tm.at,Trie.bz]
 by_cases hi:i=d
 subst hi;simp only[U5 rfl];have:i<a.tmps.size:=by rw[h.1]; exact hlt'
 simp[this,hv]
 simp only[U3 hi];have:=h.2 i;simp only[Tm.at] at this
 simpa [WI (Ne.symm hi)] using this
 cases hp
 cases hp; exact h
def FO {n:Nat} {j:aR} {t:Tm} {a:Act} (h:TR n j t a.tmps) (ops:YD Oper) (o:Oper):Region.wanted o (yielded ops a.tmps)=cg ops o t:=by
 unfold Region.wanted cg;cases hgd:o.guard with
 | none=>rfl
 | some p =>
  obtain⟨g,want⟩:=p;simp only;have key:yielded ops a.tmps g=fS ops t g:=by
   unfold yielded fS;cases hd:(ops[g]?).bind (·.dst) with
   | none=>rfl
   | some d =>
    simp only[VE];have hv:=h.2 d;unfold Tm.at at hv;cases hg:t.get d with
    | none =>
     rw[hg] at hv;simp only[Option.getD_none] at hv;have:a.tmps[d]? = none\/a.tmps[d]? = some undef:=by
      cases ha:a.tmps[d]? with
      | none=>exact .inl rfl
      | some x =>
       right
       have:a.tmps.getD d undef=x:=by simp[ha]
       rw[this] at hv;have:x=undef:=iE (by rfl) hv
       rw[this]
     rcases this with e|e<;>rw[e]<;>rfl
    | some x =>
     rw[hg] at hv;simp only[Option.getD_some] at hv;cases ha:a.tmps[d]? with
     | none =>
      have:a.tmps.getD d undef=undef:=by simp[ha]
      rw[this] at hv;cases x<;>first|rfl|cases hv
     | some y =>
      have:a.tmps.getD d undef=y:=by simp[ha]
      rw[this] at hv;cases hv with
      | junk hj=>cases y<;>first|rfl |(simp[AG,aP] at hj)
      | _=>rfl
  rw[key];cases fS ops t g with
  | none=>rfl
  | some b=>simp
def lO(hk:∀tk r,k tk=some r->cX E tk r){ops:YD Oper}{n:Nat}{F:Fence}(hF:mG F){Q:Exit->Act->XM->Prop}{m0:Yq}{w0:XM}{j0:aR}(h0:MR E j0 m0 w0){tf:Tm}{mf:Yq}
  (ds:YB Deferred) (hQ:∀j' w' a',Sim E j0 m0 w0 j' mf w'->TR n j' tf a'.tmps->a'.defers=ds->Q .normal a' w') :
  ∀(os:YB Oper) (i:Nat) (t:Tm) (m:Yq) (j:aR) (w:XM) (a:Act),ops.toList.drop i=os->jI k E n ops os t m=some (tf,mf)->Sim E j0 m0 w0 j m w->TR n j t a.tmps->a.defers=ds ->
   wpOpsIn F 0 E.P ops Q (List.range' i (ops.size-i)) a w
 | [],i,t,m,j,w,a,hd,hr,s,ht,hds=>by
  cases hr;have hlen:ops.size<=i:=by
   have:=Vs List.length hd;simp at this; omega
  rw[show ops.size-i=0 by omega]
  exact hQ j w a s ht hds
 | o::os,i,t,m,j,w,a,hd,hr,s,ht,hds=>by
  have hlt:i<ops.size:=by
   have:=Vs List.length hd;simp at this; omega
  have ho:ops[i]? = some o:=by
   have:=Vs (·[0]?) hd
   simpa [Wl] using this
  have hd':ops.toList.drop (i+1)=os:=by
   rw[<-Xj,hd]; rfl
  have hidx:List.range' i (ops.size-i)=i::List.range' (i+1) (ops.size-(i+1)):=by
   rw[show ops.size-i=(ops.size-(i+1))+1 by omega]; rfl
  rw[hidx];simp only[wpOpsIn,ho,FO ht];simp only[jI] at hr
  split at hr
  rename_i hw;rw[U5 hw]
  split at hr
  rename_i v m' he
  split at hr
  rename_i t' hp;refine F2 hk s.mr ht he hF ?_;rintro v' w' ⟨j',s',hv⟩;exact lO hk hF h0 ds hQ os (i+1) t' m' j' w' _ hd' hr (s.trans h0 s') ((ht.mono s'.le).put hv hp) (by cases hds':o.dst<;>simp[Act.put,hds])
  cases hr
  cases hr
  rename_i hw;rw[U3 hw]
  split at hr
  rename_i t' hp;exact⟨fun f _=>hF.fn f,lO hk hF h0 ds hQ os (i+1) t' m j w _ hd' hr s (ht.put (VR.undef j) hp) (by cases hds':o.dst<;>simp[Act.put,hds])⟩
  cases hr
end
def za(k:K)(E:Env)(n:Nat)(ops:YD Oper)(i:Nat)(t:Tm)(m:Yq)(v:XI)(t':Tm)(m':Yq)(note:Note):Prop :=
 ∃o,ops[i]? = some o/\kZ n t o.dst v=some t' /\
  ((cg ops o t=true/\∃r,eO k E t { m with wl:=m.next} o.op=some (v,r)/\m' ={ r with wl:=min m.wl r.wl}/\note ={ read:=aM E t o.op,wl:=r.wl,next:=m.next,wrote:=fj E t o.op,kept:=jX m r}) \/
   (cg ops o t=false/\v=undef/\m'=m/\note ={ read:=none,wl:=m.next,next:=m.next,wrote:=none,kept:=fun _=>false}))
structure Tr(k:K)(E:Env)(n:Nat)(ops:YD Oper)(i L:Nat)(T:Nat->Tm)(M:Nat->Yq)(V:Nat->XI)(ns:YB Note):Prop where
 len:ns.length=L
 step:∀x,x<L->∃note,ns[x]? = some note/\za k E n ops (i+x) (T x) (M x) (V x) (T (x+1)) (M (x+1)) note
def G0{α:Type}(a:α)(f:Nat->α):Nat->α
 | 0=>a
 | x+1=>f x
def BM{k:K}{E:Env}{n:Nat}{ops:YD Oper}:∀(os:YB Oper) (i:Nat) (t:Tm) (m:Yq) (tf:Tm) (mf:Yq) (ns:YB Note),ops.toList.drop i=os->er k E n ops os t m=some (tf,mf,ns) ->
  ∃T M V,Tr k E n ops i os.length T M V ns/\T 0=t/\M 0=m/\T os.length=tf/\M os.length=mf
 | [],i,t,m,tf,mf,ns,_,h=>by
  cases h;exact⟨fun _=>t,fun _=>m,fun _=>undef,⟨rfl,fun x hx=>Vr hx (Nat.not_lt_zero _)⟩,rfl,rfl,rfl,rfl⟩
 | o::os,i,t,m,tf,mf,ns,hd,h=>by
  have ho:ops[i]? = some o:=by
   have:=Vs (·[0]?) hd
   simpa [Wl] using this
  have hd':ops.toList.drop (i+1)=os:=by rw[<-Xj,hd]; rfl
  have cons:∀(v:XI) (t1:Tm) (m1:Yq) (note:Note) (ns':YB Note),za k E n ops i t m v t1 m1 note->er k E n ops os t1 m1=some (tf,mf,ns')->ns=note::ns' ->
    ∃T M V,Tr k E n ops i (os.length+1) T M V ns/\T 0=t/\M 0=m/\T (os.length+1)=tf/\M (os.length+1)=mf:=by
   intro v t1 m1 note ns' hst hr hns;obtain⟨T,M,V,htr,h1,h2,h3,h4⟩:=BM os (i+1) t1 m1 tf mf ns' hd' hr;refine⟨G0 t T,G0 m M,G0 v V,⟨by rw[hns]; simp[htr.len],fun x hx=>?_⟩,rfl,rfl,h3,h4⟩
   cases x with
   | zero =>
    refine⟨note,by rw[hns]; rfl,?_⟩
    show za k E n ops i t m v (T 0) (M 0) note
    rw[h1,h2]; exact hst
   | succ x =>
    obtain⟨nt,h5,h6⟩:=htr.step x (by omega)
    refine⟨nt,by rw[hns]; simpa using h5,?_⟩
    show za k E n ops (i+(x+1)) (T x) (M x) (V x) (T (x+1)) (M (x+1)) nt
    rw[show i+(x+1)=i+1+x by omega]; exact h6
  simp only[er] at h
  split at h
  rename_i hw
  split at h
  rename_i v r he
  split at h
  rename_i t1 hp
  split at h
  rename_i t' m'' ns' hr;cases h;exact cons v t1 _ _ ns' ⟨o,ho,hp,.inl ⟨hw,r,he,rfl,rfl⟩⟩ hr rfl
  cases h
  cases h
  cases h
  rename_i hw
  split at h
  rename_i t1 hp
  split at h
  rename_i t' m'' ns' hr;cases h;exact cons undef t1 m _ ns' ⟨o,ho,hp,.inr ⟨by simpa using hw,rfl,rfl,rfl⟩⟩ hr rfl
  cases h
  cases h
def Sim.QQ{E:Env}{j j':aR}{m r:Yq}{w w':XM}(s:Sim E j { m with wl:=m.next} w j' r w'):Sim E j m w j' { r with wl:=min m.wl r.wl} w' where
 ext:=⟨s.ext.next,Nat.min_le_left _ _,fun b hb hw=>s.ext.same b hb (Vt hw (Nat.min_le_right _ _)),s.ext.dead⟩
 le:=s.le
 new:=s.new
 mr:=s.mr.xU
 size:=s.size
 full:=s.full
 away:=s.away
 fresh:=fun b k h h'=>(s.fresh b k h h').imp id fun⟨b0,k0,a1,a2,a3,a4⟩=>⟨b0,k0,a1,a2,a3,VK (Nat.min_le_right _ _) a4⟩
 frame:=fun c hc H=>s.frame c hc fun b k hb hl he=>Vt (H b k hb hl he) (Nat.min_le_right _ _)
 calm:=s.calm
def aR.below(j:aR)(x:Nat):aR:=fun b=>if b<x then j b else none
def aR.bB{j:aR}{x b:Nat}{k:Blk}:j.below x b=some k↔b<x/\j b=some k:=by
 unfold aR.below
 split
 rename_i h; simp[h]
 rename_i h; simp[h]
def VR.cut{j jc:aR}{x:Nat}(hc:∀b k,jc b=some k->b<x):∀{v v':XI},VR j v v'->∀{u:XI},VR jc v u->VR (j.below x) v v':=by
 intro v v' h
 induction h with
 | junk h=>intro u _; exact .junk h
 | bool b=>intro u _; exact .bool b
 | int k n=>intro u _; exact .int k n
 | string s=>intro u _; exact .string s
 | pnil=>intro u _; exact .pnil
 | ptr h=>intro u hu; cases hu with
  | ptr h'=>exact .ptr (aR.bB.2 ⟨hc _ _ h',h⟩)
 | snil l c=>intro u _; exact .snil l c
 | slice h hm=>intro u hu; cases hu with
  | slice h' _=>exact .slice (aR.bB.2 ⟨hc _ _ h',h⟩) hm
  | sliceM h' _ _ _ _ _=>exact .slice (aR.bB.2 ⟨hc _ _ h',h⟩) hm
 | sliceM h hm h1 h2 hl hcap=>intro u hu; cases hu with
  | slice h' _=>exact .sliceM (aR.bB.2 ⟨hc _ _ h',h⟩) hm h1 h2 hl hcap
  | sliceM h' _ _ _ _ _=>exact .sliceM (aR.bB.2 ⟨hc _ _ h',h⟩) hm h1 h2 hl hcap
 | gV=>intro u _; exact .gV
 | dry=>intro u _; exact .dry
 | mnil=>intro u _; exact .mnil
 | map h=>intro u hu; cases hu with
  | map h'=>exact .map (aR.bB.2 ⟨hc _ _ h',h⟩)
 | func h1 _ h3 _ ih2 ih4=>intro u hu; cases hu with
  | func g1 g2 g3 g4=>exact .func h1 (fun i a b=>ih2 i a b (g2 i a (g1▸a))) h3 (fun i a b=>ih4 i a b (g4 i a (g3▸a)))
 | yield h h1 _ ih2=>intro u hu; cases hu with
  | yield g g1 g2=>exact .yield (aR.bB.2 ⟨hc _ _ g,h⟩) h1 (fun i a b=>ih2 i a b (g2 i a (g1▸a)))
 | nilFunc=>intro u _; exact .nilFunc
 | nilIface=>intro u _; exact .nilIface
 | agg h1 _ ih=>intro u hu; cases hu with
  | agg g1 g2=>exact .agg h1 (fun i a b=>ih i a b (g2 i a (g1▸a)))
 | tuple h1 _ ih=>intro u hu; cases hu with
  | tuple g1 g2=>exact .tuple h1 (fun i a b=>ih i a b (g2 i a (g1▸a)))
def ER.cut{j jc:aR}{x:Nat}(hc:∀b k,jc b=some k->b<x):∀{es:YB (XI×XI)} {fs gs:YB MapEntry},ER j es fs->ER jc es gs->ER (j.below x) es fs
 | [],[],_,_,_=>trivial
 | _::_,_::_,_::_,h,g=>⟨h.1.cut hc g.1,h.2.1.cut hc g.2.1,ER.cut hc h.2.2 g.2.2⟩
 | [],_::_,_,h,_=>h.elim
 | _::_,[],_,h,_=>h.elim
 | _::_,_::_,[],_,g=>g.elim
def OR.cut{j jc:aR}{x:Nat}(hc:∀b k,jc b=some k->b<x){k k':Blk}{o:Ys}{o1 o2:Obj}(h:OR j k o o1)(g:OR jc k' o o2):OR (j.below x) k o o1:=by
 cases o with
 | cells cs tag =>
  cases o1 with
  | cells c e fz =>
   cases o2 with
   | cells c2 e2 fz2 =>
    refine⟨h.1,fun i v hi=>?_⟩;obtain⟨v',a,b⟩:=h.2 i v hi;obtain⟨u,_,b2⟩:=g.2 i v hi;exact⟨v',a,b.cut hc b2⟩
   | _=>exact g.elim
  | _=>exact h.elim
 | map es =>
  cases o1 with
  | map c e =>
   cases o2 with
   | map c2 e2=>exact⟨ER.cut hc h.1 g.1,h.2⟩
   | _=>exact g.elim
  | _=>exact h.elim
 | loop r =>
  cases o1 with
  | loop r1 =>
   cases o2 with
   | loop r2 =>
    refine⟨h.1,h.2.1,h.2.2.1,h.2.2.2.1,h.2.2.2.2.1,h.2.2.2.2.2.1,fun i=>?_⟩;exact(h.2.2.2.2.2.2 i).cut hc (g.2.2.2.2.2.2 i)
   | _=>exact g.elim
  | _=>exact h.elim
def fO{E:Env}{t t':Tm}:∀{xs:YB XK},(∀x∈xs,an E t x=an E t' x)->bC E t xs=bC E t' xs
 | [],_=>rfl
 | x::xs,h=>by
  simp only[bC];rw[h x (by simp),fO fun y hy=>h y (by simp[hy])]
def jl{E:Env}{t t':Tm}:∀{xs:YB (Nat×XK)},(∀x∈xs,an E t x.2=an E t' x.2)->eT E t xs=eT E t' xs
 | [],_=>rfl
 |(i,x)::xs,h=>by
  simp only[eT];rw[h (i,x) (by simp),jl fun y hy=>h y (by simp[hy])]
def lR{E:Env}{t t':Tm}{x:YA XK}(h:∀y,x=some y->an E t y=an E t' y):dY E t x=dY E t' x:=by
 cases x with
 | none=>rfl
 | some y=>simp only[dY,h y rfl]
def sB{E:Env}{t t':Tm}{m:Yq}{o:Op}(h:∀x∈o.operands.toList,an E t x=an E t' x):fM E t m o=fM E t' m o:=by
 cases o<;>simp only[Op.operands] at h<;>simp only[fM]
 case build ty ps=>rw[jl fun x hx=>h x.2 (by simp; exact⟨x.1,by simpa using hx⟩)]
 case buildSlice ty n ps=>rw[jl fun x hx=>h x.2 (by simp; exact⟨x.1,by simpa using hx⟩)]
 case makeFunc fn first captured =>
  cases fn<;>simp only;rw[fO (xs:=first.toList) fun x hx=>h x (by simp at hx ⊢; exact .inl hx),fO (xs:=captured.toList) fun x hx=>h x (by simp at hx ⊢; exact .inr hx)]
 case makeMap ty r=>cases r<;>rfl
 case slice ty x lo hi mx =>
  rw[h x (by simp),lR (x:=lo) fun y hy=>h y (by simp[hy]),lR (x:=hi) fun y hy=>h y (by simp[hy]),lR (x:=mx) fun y hy=>h y (by simp[hy])]
 case call c =>
  cases hc:c.callee<;>simp only;rw[fO (xs:=c.args.toList) fun x hx=>h x (by simp[Call.operands,hc]; simpa using hx)]
 all_goals first|rfl |(simp_all; done)
def Bh{k:K}{E:Env}{t t':Tm}{m:Yq}{o:Op}(h:∀x∈o.operands.toList,an E t x=an E t' x):eO k E t m o=eO k E t' m o:=by
 have hop:=sB (m:=m) h;unfold eO;cases o with
 | call c =>
  simp only;cases hc:c.callee with
  | value f =>
   simp only;rw[h f (by simp[Op.operands,Call.operands,hc]),fO (xs:=c.args.toList) fun x hx=>h x (by simp[Op.operands,Call.operands,hc]; exact .inr (by simpa using hx))]
  | _=>exact hop
 | _=>exact hop
def tl(t:Tm):YB Tmp->Tm
 | []=>.nil
 | d::ds=>(tl t ds).set d (t.at d)
def nH(t:Tm):∀(S:YB Tmp) (d:Nat),(tl t S).at d=if d∈S then t.at d else undef
 | [],d=>by simp[tl,Tm.at,Trie.get_nil]
 | x::S,d=>by
  have ih:=nH t S d;simp only[Tm.at] at ih;simp only[tl,Tm.at,Trie.bz]
  by_cases h:d=x
  simp[h]
  simp only[Vu,h,false_or]; exact ih
def mL(tm:YD XI)(S:YB Tmp):YD XI:=(Array.range tm.size).map fun d=>if d∈S then tm.getD d undef else undef
def mA(tm:YD XI)(S:YB Tmp)(d:Nat):(mL tm S).getD d undef=if d∈S then tm.getD d undef else undef:=by
 unfold mL
 by_cases h:d<tm.size
 simp[h]
 have:tm.getD d undef=undef:=by simp[h]
 simp[h]
def jU:∀{l:YB XK} {d:Tmp},d∈tmpsOf l↔Operand.tmp d∈l
 | [],d=>by simp[tmpsOf]
 | x::l,d=>by
  have ih:=jU (l:=l) (d:=d);cases x<;>simp[tmpsOf,ih]
def AE{k:K}{E:Env}(hk:∀tk r,k tk=some r->cX E tk r){j:aR}{m:Yq}{w:XM}{t:Tm}{a:Act}(h:MR E j m w){o:Oper}(ht:∀d∈tmpsOf o.op.operands.toList,VR j (t.at d) (a.tmps.getD d undef)){v:XI}{m':Yq}
  (e:eO k E t m o.op=some (v,m')):Does E.P (execOp a.eval o) w (jR E j m w v m'):=by
 have hT:TR (mL a.tmps (tmpsOf o.op.operands.toList)).size j (tl t (tmpsOf o.op.operands.toList)) ({ tmps:=mL a.tmps (tmpsOf o.op.operands.toList),defers:=a.defers}:Act).tmps:=by
  refine⟨rfl,fun d=>?_⟩
  show VR j _ ((mL a.tmps _).getD d undef)
  rw[nH,mA]
  split
  rename_i hd; exact ht d hd
  exact VR.undef j
 have hev:∀x∈o.op.operands.toList,an E (tl t (tmpsOf o.op.operands.toList)) x=an E t x:=by
  intro x hx;cases x with
  | tmp d=>simp only[an,nH,U5 (jU.2 hx)]
  | _=>rfl
 have hd:=nv hk h hT (o:=o) (v:=v) (m':=m') ((Bh hev).trans e);have hex:execOp ({ tmps:=mL a.tmps (tmpsOf o.op.operands.toList),defers:=a.defers}:Act).eval o=execOp a.eval o:=by
  refine execOp_congr o (fun cs b hs=>?_) fun x hx=>?_
  rw[hs] at e; simp[eO,fM] at e
  ·cases x with
   | tmp d =>
    show(mL a.tmps _).getD d undef=a.tmps.getD d undef
    rw[mA,U5 (jU.2 (by simpa using hx))]
   | _=>rfl
 rw[hex] at hd;exact hd
end Go.Ab
