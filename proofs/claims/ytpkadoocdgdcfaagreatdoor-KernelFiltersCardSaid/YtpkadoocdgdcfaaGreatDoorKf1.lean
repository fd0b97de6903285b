/- A part of the proof. -/
import Derived.RangeFuncRecord
import Derived.RangeFuncLeaves
import Derived.Laws.Cells
import Derived.Laws.Entries
import Derived.Laws.StructEq
import Derived.IntWalk
import Derived.OrdersIn
import Derived.LeavingIn
set_option linter.all false
universe u
abbrev RI:=@Option
abbrev RR:=@List
abbrev RS:=Unit
abbrev RU:=@Array
abbrev OC:=@Int.toNat_natCast
abbrev OD:=@Bool.and_eq_true
abbrev OE:=@Nat.eq_of_beq_eq_true
abbrev OF:=@Nat.le_refl
abbrev OG:=@List.getElem?_eq_getElem
abbrev OH:=@Nat.lt_of_lt_of_le
abbrev OI:=@Option.map_some
abbrev OJ:=@if_neg
abbrev OK:=@Option.some.inj
abbrev OL:=@Nat.le_of_ble_eq_true
abbrev OM:=@if_pos
abbrev ON:=@Nat.mul_comm
abbrev OO:=@Nat.mul_assoc
abbrev OP:=@Nat.mul_left_comm
abbrev OQ:=@Array.getElem?_eq_some_iff
abbrev OS:=@Bool.not_true
abbrev OT:=@Bool.false_eq_true
abbrev OU:=@List.length_append
abbrev OV:=@List.all_eq_true
abbrev OW:=@Nat.pos_of_ne_zero
abbrev OX:=@List.getElem?_eq_some_iff
abbrev OY:=@decide_eq_true
abbrev OZ:=@List.getElem?_cons_zero
abbrev O0:=@List.getElem?_toArray
abbrev O1:=@List.getElem?_map
abbrev O2:=@List.getElem?_append_right
abbrev O3:=@Nat.le_trans
abbrev O4:=@Nat.mod_eq_of_lt
abbrev O5:=@decide_eq_true_eq
abbrev O6:=@absurd
abbrev O7:=@List.length_map
abbrev O8:=@Nat.pow_le_pow_right
abbrev O9:=@Nat.ble_eq_true_of_le
abbrev Pa:=@Nat.mul_ne_zero
abbrev Pb:=@List.mem_cons
abbrev Pd:=@Int.natAbs_natCast
abbrev Pe:=@Nat.mul_le_mul
abbrev Pf:=@Option.bind_some
abbrev Pg:=@List.length_cons
abbrev Ph:=@Nat.mul_le_mul_right
abbrev Pj:=@List.getElem?_append_left
abbrev Pk:=@Nat.lt_or_ge
abbrev Pl:=@List.mem_of_getElem?
abbrev Pm:=@decide_eq_false
abbrev Pn:=@List.getElem?_cons_succ
abbrev Po:=@Nat.add_mul
abbrev Pp:=@List.getElem?_eq_none
abbrev Pq:=@Array.toList_inj
abbrev Pr:=@Nat.zero_add
abbrev Ps:=@Nat.min_eq_left
abbrev Pt:=@Nat.div_lt_iff_lt_mul
abbrev Pu:=@Nat.lt_of_le_of_lt
abbrev Pv:=@Bool.not_eq_true'
abbrev Pw:=@Nat.mod_lt
abbrev Px:=@List.flatten_cons
abbrev Py:=@Nat.add_zero
abbrev Pz:=@List.getElem?_set_self
abbrev PA:=@Bool.and_self
abbrev PB:=@List.getD_eq_getElem?_getD
abbrev PC:=@Bool.not_false
abbrev PD:=@Nat.lt_succ_self
abbrev PE:=@List.pairwise_cons
abbrev PF:=@Int.natCast_nonneg
abbrev PG:=@Decidable.byContradiction
abbrev PH:=@Nat.mul_le_mul_left
abbrev PI:=@List.all_cons
abbrev PJ:=@List.mem_singleton
abbrev PK:=@Nat.pow_succ
abbrev PL:=@List.eq_nil_of_length_eq_zero
abbrev PM:=@List.nil_append
abbrev PN:=@Bool.or_eq_true
abbrev PO:=@Nat.mul_add
abbrev PQ:=@List.getElem?_set_ne
abbrev PR:=@Bool.false_ne_true
abbrev PS:=@List.length_singleton
abbrev PT:=@List.replicate_succ
abbrev PU:=@Nat.div_eq_of_lt
abbrev PV:=@List.length_take
abbrev PW:=@List.getElem?_replicate
abbrev PX:=@congrArg
abbrev PY:=@Nat.div_mul_cancel
abbrev PZ:=@List.getElem?_drop
abbrev P1:=@List.mem_append
abbrev P2:=@List.append_nil
abbrev P3:=@Nat.le_of_lt
abbrev P4:=@List.length_eq_zero_iff
abbrev P5:=@Array.getElem?_setIfInBounds_ne
abbrev P6:=@Nat.zero_le
abbrev P7:=@List.mem_range
abbrev P8:=@Nat.div_add_mod
abbrev P9:=@Option.map_eq_some_iff
abbrev Qa:=@Nat.sub_self
abbrev Qb:=@Nat.ne_of_beq_eq_false
abbrev Qc:=@Nat.div_div_eq_div_mul
abbrev Qd:=@Nat.blt_eq
abbrev Qe:=@Nat.pow_add
abbrev Qf:=@Nat.mul_one
abbrev Qg:=@List.ext_getElem?
abbrev Qh:=@Classical.choose_spec
abbrev Qi:=@Nat.zero_mul
abbrev Qj:=@List.length_set
abbrev Qk:=@Int.natCast_mul
abbrev Ql:=@List.getElem_mem
abbrev Qm:=@Int.ofNat_eq_natCast
abbrev Qn:=@Nat.succ_mul
abbrev Qo:=@Int.toNat_of_nonneg
abbrev Qp:=@List.mem_cons_self
abbrev Qq:=@List.getElem?_take
abbrev Qr:=@Array.eq_empty_of_size_eq_zero
abbrev Qs:=@List.drop_drop
abbrev Qt:=@Array.length_toList
abbrev Qu:=@Array.getElem?_push
abbrev Qv:=@Nat.sub_zero
abbrev Qw:=@List.mem_map
abbrev Qx:=@List.drop_eq_nil_of_le
abbrev Qy:=@Bool.true_or
abbrev Qz:=@Bool.or_true
abbrev QA:=@Prod.mk.injEq
abbrev QB:=@Nat.add_assoc
abbrev QC:=@List.length_drop
abbrev QD:=@List.drop_length
abbrev QE:=@List.cons_append
abbrev QF:=@List.nodup_cons
abbrev QG:=@Array.replicate
abbrev QH:=@List.map_cons
abbrev QI:=RR (RR Int×RR (RR Int))
abbrev QJ:=Int×Int×Int×Int
abbrev QK:=RR (Int×Int)
abbrev QL:=RR (RR Int)
abbrev QO:=Nat->Prop
def QW{c:Prop}{h0:Decidable c}{α:Sort u}{t e:α}(h:¬c:=by omega):ite c t e=e:=if_neg h
def QX{c:Prop}{h0:Decidable c}{α:Sort u}{t e:α}(h:c:=by omega):ite c t e=t:=if_pos h
section
open Go
abbrev RV:=@Result.andThen_ok
abbrev RX:=@Sem.run_bind
abbrev RY:=@Sem.run_pure
abbrev RZ:=@run_underlying
abbrev R2:=FuncId
abbrev QM:=RR (RR Value)
abbrev QN:=RI Addr
abbrev QP:=Value
abbrev QQ:=TypeId
abbrev QR:=Operand
abbrev QS:=Program
abbrev QT:=World
abbrev QU:=IntKind.wrap .i64
abbrev QV:Nat:=(0:Int).toNat
end
namespace Go.Ab
open Go
structure F8(α:Type) where
 a:α
 b:α
 c:α
 d:α
 e:α
 f:α
 g:α
 h:α
def F8.all{α:Type}(x:α):F8 α:=⟨x,x,x,x,x,x,x,x⟩
def F8.G0{α:Type}(x:F8 α)(i:Nat):α :=
 match i with
 | 0=>x.a
 | 1=>x.b
 | 2=>x.c
 | 3=>x.d
 | 4=>x.e
 | 5=>x.f
 | 6=>x.g
 | _=>x.h
def F8.put{α:Type}(x:F8 α)(i:Nat)(v:α):F8 α :=
 match i with
 | 0=>{ x with a:=v}
 | 1=>{ x with b:=v}
 | 2=>{ x with c:=v}
 | 3=>{ x with d:=v}
 | 4=>{ x with e:=v}
 | 5=>{ x with f:=v}
 | 6=>{ x with g:=v}
 | _=>{ x with h:=v}
def F8.Bm{α:Type}(x:F8 α)(i j:Nat)(v:α)(hi:i<8)(hj:j<8):(x.put i v).G0 j=if j=i then v else x.G0 j:=by
 have h1:i=0\/i=1\/i=2\/i=3\/i=4\/i=5\/i=6\/i=7:=by omega
 have h2:j=0\/j=1\/j=2\/j=3\/j=4\/j=5\/j=6\/j=7:=by omega
 rcases h1 with rfl|rfl|rfl|rfl|rfl|rfl|rfl|rfl<;>rcases h2 with rfl|rfl|rfl|rfl|rfl|rfl|rfl|rfl<;>rfl
def F8.qv{α:Type}(x:α)(i:Nat):(F8.all x).G0 i=x:=by
 unfold F8.G0 F8.all; split<;>rfl
def F8.getM{M β:Type}(sz:Nat)(g:M->Nat->β)(x:F8 M)(i:Nat):β:=g (x.G0 (i/sz)) (i%sz)
def F8.DD{M β:Type}(sz:Nat)(s:M->Nat->β->M)(x:F8 M)(i:Nat)(v:β):F8 M:=x.put (i/sz) (s (x.G0 (i/sz)) (i%sz) v)
def F8.mq{M β:Type}{sz:Nat}{g:M->Nat->β}{s:M->Nat->β->M}(hsz:0<sz)(hl:∀m i j v,i<sz->j<sz->g (s m i v) j=if j=i then v else g m j)(x:F8 M)(i j:Nat)(v:β)(hi:i<8*sz)(hj:j<8*sz) :
  F8.getM sz g (F8.DD sz s x i v) j=if j=i then v else F8.getM sz g x j:=by
 have h1:i/sz<8:=(Pt hsz).2 hi;have h2:j/sz<8:=(Pt hsz).2 hj;unfold F8.getM F8.DD;rw[F8.Bm _ _ _ _ h1 h2];have e1:=P8 i sz;have e2:=P8 j sz
 by_cases h:j/sz=i/sz
 rw[OM h,hl _ _ _ _ (Pw _ hsz) (Pw _ hsz)]
 by_cases h':j%sz=i%sz
 have:j=i:=by rw[<-e1,<-e2,h,h']
 rw[OM h',OM this]
 have:j≠i:=fun e=>h' (by rw[e])
 rw[OJ h',OJ this,h]
 have:j≠i:=fun e=>h (by rw[e])
 rw[OJ h,OJ this]
abbrev L6(α:Type):=F8 (F8 α)
abbrev zw(α:Type):=F8 (L6 α)
abbrev uO(α:Type):=F8 (zw α)
abbrev pf(α:Type):=F8 (uO α)
def xw{α:Type}:L6 α->Nat->α:=F8.getM 8 F8.G0
def o7{α:Type}:zw α->Nat->α:=F8.getM 64 xw
def nR{α:Type}:uO α->Nat->α:=F8.getM 512 o7
def lD{α:Type}:pf α->Nat->α:=F8.getM 4096 nR
def Gd{α:Type}:L6 α->Nat->α->L6 α:=F8.DD 8 F8.put
def vo{α:Type}:zw α->Nat->α->zw α:=F8.DD 64 Gd
def vv{α:Type}:uO α->Nat->α->uO α:=F8.DD 512 vo
def yC{α:Type}:pf α->Nat->α->pf α:=F8.DD 4096 vv
def CQ{α:Type}(x:L6 α)(i j:Nat)(v:α)(hi:i<64)(hj:j<64):xw (Gd x i v) j=if j=i then v else xw x j :=
 F8.mq (by omega) (fun m i j v hi hj=>F8.Bm m i j v hi hj) x i j v (by omega) (by omega)
def se{α:Type}(x:zw α)(i j:Nat)(v:α)(hi:i<512)(hj:j<512):o7 (vo x i v) j=if j=i then v else o7 x j :=
 F8.mq (by omega) (fun m i j v hi hj=>CQ m i j v hi hj) x i j v (by omega) (by omega)
def yA{α:Type}(x:uO α)(i j:Nat)(v:α)(hi:i<4096)(hj:j<4096):nR (vv x i v) j=if j=i then v else nR x j :=
 F8.mq (by omega) (fun m i j v hi hj=>se m i j v hi hj) x i j v (by omega) (by omega)
def vO{α:Type}(x:pf α)(i j:Nat)(v:α)(hi:i<32768)(hj:j<32768):lD (yC x i v) j=if j=i then v else lD x j :=
 F8.mq (by omega) (fun m i j v hi hj=>yA m i j v hi hj) x i j v (by omega) (by omega)
def D6{α:Type}(x:α):L6 α:=F8.all (F8.all x)
def vQ{α:Type}(x:α):zw α:=F8.all (D6 x)
def xf{α:Type}(x:α):uO α:=F8.all (vQ x)
def rT{α:Type}(x:α):pf α:=F8.all (xf x)
def DH{α:Type}(x:α)(i:Nat):xw (D6 x) i=x:=by simp[xw,D6,F8.getM,F8.qv]
def sd{α:Type}(x:α)(i:Nat):o7 (vQ x) i=x:=by simp[o7,vQ,F8.getM,F8.qv,DH]
def xn{α:Type}(x:α)(i:Nat):nR (xf x) i=x:=by simp[nR,xf,F8.getM,F8.qv,sd]
def vy{α:Type}(x:α)(i:Nat):lD (rT x) i=x:=by simp[lD,rT,F8.getM,F8.qv,xn]
def BN{α:Type}:RR (Nat×α)->Nat->RI α
 | [],_=>none
 |(i,v)::l,j=>if j=i then some v else BN l j
structure Trie(α:Type) where
 lo:zw (RI α)
 hi:RR (Nat×α)
def Trie.nil{α:Type}:Trie α:=⟨vQ none,[]⟩
def Trie.get{α:Type}(t:Trie α)(n:Nat):RI α:=if n<512 then o7 t.lo n else BN t.hi n
def Trie.set{α:Type}(t:Trie α)(n:Nat)(v:α):Trie α:=if n<512 then{ t with lo:=vo t.lo n (some v)} else{ t with hi:=(n,v)::t.hi}
def Trie.get_nil{α:Type}(n:Nat):(Trie.nil:Trie α).get n=none:=by
 unfold Trie.get Trie.nil
 split
 exact sd _ _
 rfl
def Trie.cu{α:Type}(t:Trie α)(n m:Nat)(v:α):(t.set n v).get m=if m=n then some v else t.get m:=by
 unfold Trie.set Trie.get
 by_cases h1:n<512<;>by_cases h2:m<512<;>simp only[h1,h2,if_true,if_false]
 rw[se _ _ _ _ h1 h2]
 rw[QW]
 rw[QW]
 rfl
structure Heap(α:Type) where
 lo:pf (RI α)
 hi:RR (Nat×α)
def Heap.nil{α:Type}:Heap α:=⟨rT none,[]⟩
def Heap.get{α:Type}(t:Heap α)(n:Nat):RI α:=if n<32768 then lD t.lo n else BN t.hi n
def Heap.set{α:Type}(t:Heap α)(n:Nat)(v:α):Heap α:=if n<32768 then{ t with lo:=yC t.lo n (some v)} else{ t with hi:=(n,v)::t.hi}
def Heap.get_nil{α:Type}(n:Nat):(Heap.nil:Heap α).get n=none:=by
 unfold Heap.get Heap.nil
 split
 exact vy _ _
 rfl
def Heap.cu{α:Type}(t:Heap α)(n m:Nat)(v:α):(t.set n v).get m=if m=n then some v else t.get m:=by
 unfold Heap.set Heap.get
 by_cases h1:n<32768<;>by_cases h2:m<32768<;>simp only[h1,h2,if_true,if_false]
 rw[vO _ _ _ _ h1 h2]
 rw[QW]
 rw[QW]
 rfl
def Trie.ofList{α:Type}:RR α->Nat->Trie α->Trie α
 | [],_,t=>t
 | v::vs,i,t=>Trie.ofList vs (i+1) (t.set i v)
abbrev Tm:=Trie QP
def Tm.at(t:Tm)(i:Nat):QP:=(Trie.get t i).getD undef
inductive Tag where
 | ro
 | own
 | more (sz:Nat)
 deriving DecidableEq
structure ALoop where
 state:LoopState
 pending:RI Code
 fn:R2
 tmps:Tm
 n:Nat
 params:RU Tmp
 assign:Code
 body:Code
inductive RP where
 | cells (cs:RR QP) (tag:Tag)
 | map (es:RR (QP×QP))
 | loop (r:ALoop)
structure RN where
 next:Nat
 wl:Nat
 cd:Heap (RI RP)
 base:Nat->RI RP
def RN.get(m:RN)(b:Nat):RI RP :=
 match m.cd.get b with
 | some x=>x
 | none=>m.base b
def RN.set(m:RN)(b:Nat)(o:RP):RN:={ m with cd:=m.cd.set b (some o),wl:=min m.wl b}
def RN.kill(m:RN)(b:Nat):RN:={ m with cd:=m.cd.set b none,wl:=min m.wl b}
def RN.alloc(m:RN)(o:RP):RN:={ m with next:=m.next+1,cd:=m.cd.set m.next (some o)}
def ptr(b:Nat)(o:Nat):QP:=.pointer (some ⟨b,o,none⟩)
def RN.cells(m:RN)(b:Nat):RI (RR QP×Tag) :=
 match m.get b with
 | some (.cells cs tag)=>some (cs,tag)
 | _=>none
def RN.dP(m:RN)(b o n:Nat):RI (RR QP) :=
 match m.get b with
 | some (.cells cs _)=>let l:=(cs.drop o).take n; if l.length=n then some l else none
 | _=>none
def aR:RR QP->Nat->RR QP->RR QP
 | cs,0,[]=>cs
 | [],0,_=>[]
 | _::cs,0,v::vs=>v::aR cs 0 vs
 | [],_+1,_=>[]
 | c::cs,o+1,vs=>c::aR cs o vs
def RN.dB(m:RN)(b o:Nat)(vs:RR QP):RI RN :=
 match vs with
 | []=>some m
 | _=>match m.get b with
  | some (.cells _ .ro)=>none
  | some (.cells cs tag)=>if o+vs.length<=cs.length then some (m.set b (.cells (aR cs o vs) tag)) else none
  | _=>none
def mA:QP->Bool
 | .agg _|.tuple _=>false
 | _=>true
def bG(vs:RR QP):Bool:=vs.all mA
structure Prim where
 run:RR QP->RN->RI (QP×RN)
structure Env where
 P:QS
 glob:Nat
 dj:R2->RI Prim
 mono:Prop:=True
def aX:QP->Bool
 | .bool _|.int _ _|.string _|.pointer none|.slice none _ _|.map none|.nilFunc|.nilIface=>true
 | _=>false
def bO:QP->Bool
 | .agg cs=>cs.toList.all aX
 | .tuple cs=>cs.toList.all aX
 | v=>aX v
def ax(E:Env)(t:Tm):QR->RI QP
 | .tmp i=>some (t.at i)
 | .const v=>if bO v then some v else none
 | .global g=>if g<E.glob then some (ptr g 0) else none
 | .func f=>some (.func (.func f) #[] #[])
def bH(E:Env)(t:Tm):RR QR->RI (RR QP)
 | []=>some []
 | x::xs=>match ax E t x,bH E t xs with
  | some v,some vs=>some (v::vs)
  | _,_=>none
def eu(P:QS)(t:QQ):Bool :=
 match P.underlying t with
 | some (.struct _)|some (.array _ _)=>true
 | _=>false
def known(P:QS)(t:QQ):Bool:=(P.underlying t).isSome &&(P.info? t).isSome
def aC(P:QS)(t:QQ):Nat:=P.cellsOf t
def cg(P:QS)(t:QQ):RI QP:=(P.info? t).bind (·.zero)
def eT(P:QS)(t:QQ)(cs:RU QP)(off:Nat):RI QP :=
 if !known P t then none else
 if eu P t then some (.agg (cs.extract off (off+aC P t)))
 else cs[off]?
def hB(eq:QQ->QP->QP->RI Bool)(P:QS)(xs ys:RU QP):RR (QQ×Nat)->RI Bool
 | []=>some true
 | (t,off)::rest =>
  match eT P t xs off,eT P t ys off with
  | some x,some y=>match eq t x y with
   | some true=>hB eq P xs ys rest
   | r=>r
  | _,_=>none
def kV(P:QS):Nat->QQ->QP->QP->RI Bool
 | 0,_,_,_=>none
 | d+1,t,x,y =>
  match P.underlying t,x,y with
  | some .bool,.bool a,.bool b=>some (a==b)
  | some (.int _),.int k a,.int k' b=>if k=k' then some (a==b) else none
  | some .string,.string a,.string b=>some (a==b)
  | some (.pointer _),.pointer none,.pointer b=>some b.isNone
  | some (.pointer _),.pointer (some _),.pointer none=>some false
  | some (.slice _),.slice none _ _,.slice b _ _=>some b.isNone
  | some (.slice _),.slice (some _) _ _,.slice none _ _=>some false
  | some (.map _ _),.map none,.map b=>some b.isNone
  | some (.map _ _),.map (some _),.map none=>some false
  | some (.func _ _ _),.nilFunc,.nilFunc=>some true
  | some (.func _ _ _),.nilFunc,.func _ _ _=>some false
  | some (.func _ _ _),.func _ _ _,.nilFunc=>some false
  | some (.struct fs),.agg xs,.agg ys =>
   if P.stoodInHeld t || fs.any (·.name == "_") then none else
   hB (kV P d) P xs ys (fs.toList.map fun f=>(f.type,f.offset))
  | some (.array len elem),.agg xs,.agg ys=>if known P elem then hB (kV P d) P xs ys ((List.range len).map fun i=>(elem,i*aC P elem)) else none
  | _,_,_=>none
def bS(op:BinOp)(xType:QQ)(P:QS)(x y:QP):RI QP :=
 match op,x,y with
 | .shl,.int k a,.int _ b=>if b<0 then none else some (.int k (k.wrap (a*2 ^ (min b.toNat k.bits))))
 | .shr,.int k a,.int _ b=>if b<0 then none else some (.int k (a.fdiv (2 ^ (min b.toNat k.bits))))
 | .eql,.int k a,.int k' b=>if k=k' then some (.bool (a==b)) else none
 | .neq,.int k a,.int k' b=>if k=k' then some (.bool (a != b)) else none
 | .lss,.int k a,.int k' b=>if k=k' then some (.bool (decide (a<b))) else none
 | .leq,.int k a,.int k' b=>if k=k' then some (.bool (decide (a<=b))) else none
 | .gtr,.int k a,.int k' b=>if k=k' then some (.bool (decide (a>b))) else none
 | .geq,.int k a,.int k' b=>if k=k' then some (.bool (decide (a≥b))) else none
 | .add,.int k a,.int k' b=>if k=k' then some (.int k (k.wrap (a+b))) else none
 | .sub,.int k a,.int k' b=>if k=k' then some (.int k (k.wrap (a-b))) else none
 | .mul,.int k a,.int k' b=>if k=k' then some (.int k (k.wrap (a*b))) else none
 | .quo,.int k a,.int k' b=>if k=k' then(if b=0 then none else some (.int k (k.wrap (a.tdiv b)))) else none
 | .rem,.int k a,.int k' b=>if k=k' then(if b=0 then none else some (.int k (a.tmod b))) else none
 | .and,.int k a,.int k' b=>if k=k' then some (.int k (k.wrap (BitVec.ofInt k.bits a &&& BitVec.ofInt k.bits b).toNat)) else none
 | .or,.int k a,.int k' b=>if k=k' then some (.int k (k.wrap (BitVec.ofInt k.bits a ||| BitVec.ofInt k.bits b).toNat)) else none
 | .xor,.int k a,.int k' b=>if k=k' then some (.int k (k.wrap (BitVec.ofInt k.bits a ^^^ BitVec.ofInt k.bits b).toNat)) else none
 | .andNot,.int k a,.int k' b=>if k=k' then some (.int k (k.wrap (BitVec.ofInt k.bits a &&& ~~~ BitVec.ofInt k.bits b).toNat)) else none
 | .eql,.string a,.string b=>some (.bool (a==b))
 | .neq,.string a,.string b=>some (.bool (a != b))
 | _,.string _,_=>none
 | .eql,.agg xs,.agg ys=>if P.eqGuardType P.depth xType then none else(kV P Op.maxDepth xType (.agg xs) (.agg ys)).map .bool
 | .neq,.agg xs,.agg ys=>if P.eqGuardType P.depth xType then none else(kV P Op.maxDepth xType (.agg xs) (.agg ys)).map fun b=>.bool (!b)
 | .eql,x,y=>match x with
  | .bool _|.pointer _|.slice _ _ _|.map _|.func _ _ _|.nilFunc=>(kV P Op.maxDepth xType x y).map .bool
  | _=>none
 | .neq,x,y=>match x with
  | .bool _|.pointer _|.slice _ _ _|.map _|.func _ _ _|.nilFunc=>(kV P Op.maxDepth xType x y).map fun b=>.bool (!b)
  | _=>none
 | _,_,_=>none
def Al(op:UnOp)(x:QP):RI QP :=
 match op,x with
 | .neg,.int k n=>some (.int k (k.wrap (0-n)))
 | .xor,.int k n=>some (.int k (k.wrap (BitVec.ofInt k.bits (if k.signed then -1 else k.max) ^^^ BitVec.ofInt k.bits n).toNat))
 | .not,.bool b=>some (.bool !b)
 | _,_=>none
def fF(P:QS)(src dst:QQ)(x:QP):RI QP :=
 match P.underlying src,P.underlying dst,x with
 | some _,some (.int k),.int _ n=>some (.int k (k.wrap n))
 | some _,some .string,.string s=>some (.string s)
 | _,_,_=>none
def gT(place:Nat->RI (Nat×Nat))(cells:RR QP):RR (Nat×QP)->RI (RR QP)
 | []=>some cells
 | (i,v)::rest =>
  match place i with
  | none=>none
  | some (off,size) =>
   if v.cells.size≠size||off+v.cells.size>cells.length then none
   else gT place (aR cells off v.cells.toList) rest
def dw(E:Env)(t:Tm):RR (Nat×QR)->RI (RR (Nat×QP))
 | []=>some []
 |(i,x)::xs=>match ax E t x,dw E t xs with
  | some v,some vs=>some ((i,v)::vs)
  | _,_=>none
def j9(P:QS)(t:QQ)(parts:RR (Nat×QP)):RI QP :=
 match cg P t,P.underlying t with
 | some z,some (.struct fields) =>
  if fields.toList.all (fun f=>known P f.type) then
   (gT (fun i=>(fields[i]?).map fun f=>(f.offset,aC P f.type)) z.cells.toList parts).map fun cs=>.agg cs.toArray
  else none
 | some z,some (.array _ elem) =>
  if known P elem then(gT (fun i=>some (i*aC P elem,aC P elem)) z.cells.toList parts).map fun cs=>.agg cs.toArray else none
 | _,_=>none
def cC(zero:RR QP):Nat->RR QP
 | 0=>[]
 | n+1=>zero++cC zero n
def fH(P:QS)(elem:QQ)(n:Nat):RI (RR QP) :=
 match cg P elem with
 | some z=>if z.cells.size=aC P elem then some (cC z.cells.toList n) else none
 | none=>none
def jS(x:QP)(y:Nat):RI Nat :=
 match x with
 | .int _ i=>if 0<=i/\i<=y then some i.toNat else none
 | _=>none
def eM(len cap:Nat)(low high max:RI QP):RI (Nat×Nat×Nat) :=
 match(match max with|some v=>jS v cap|none=>some cap) with
 | none=>none
 | some m =>
  match(match high,max with|some v,_=>jS v m|none,none=>some len|none,some _=>none) with
  | none=>none
  | some h =>
   match(match low with|some v=>jS v h|none=>some 0) with
   | none=>none
   | some l=>some (l,h,m)
def gL(b:Nat):QP:=.slice (some ⟨b,0,some 0⟩) 0 0
def dH(E:Env)(t:Tm):RI QR->RI (RI QP)
 | none=>some none
 | some x=>(ax E t x).map some
def cU(P:QS)(xType:QQ)(x:QP)(low high max:RI QP)(m:RN):RI QP :=
 match P.underlying xType,x with
 | some (.slice elem),.slice none len cap =>
  if known P elem then
   match eM len cap low high max with
   | some (l,h,mx)=>some (.slice none (h-l) (mx-l))
   | none=>none
  else none
 | some (.slice elem),.slice (some ⟨b,o,none⟩) len cap =>
  if known P elem then
   match m.get b with
   | some (.cells _ (.more sz)) =>
    if sz≠aC P elem then none else
    match max with
    | none=>match eM len cap low high none with
     | some (l,h,_)=>if cap=l then some (gL b) else some (.slice (some ⟨b,o+l*aC P elem,none⟩) (h-l) (cap-l))
     | none=>none
    | some mv =>
     match eM len cap low high (some mv) with
     | some (l,h,mx)=>if mx=l/\h=l then some (.slice (some ⟨b,0,some 1⟩) 0 0) else some (.complex .f64 0 0)
     | none=>none
   | some (.cells _ _) =>
    match eM len cap low high max with
    | some (l,h,mx)=>some (.slice (some (if mx=l then⟨b,o,none⟩ else⟨b,o+l*aC P elem,none⟩)) (h-l) (mx-l))
    | none=>none
   | _=>none
  else none
 | some (.slice elem),.slice (some ⟨b,_,some sp⟩) 0 0 =>
  if known P elem then
   match eM 0 0 low high max with
   | some _=>some (.slice (some ⟨b,0,some sp⟩) 0 0)
   | none=>none
  else none
 | some (.array n elem),.pointer (some ⟨b,o,none⟩) =>
  if known P elem then
   match m.get b with
   | some (.cells _ (.more _))=>none
   | some (.cells _ _) =>
    match eM n n low high max with
    | some (l,h,mx)=>some (.slice (some (if mx=l then⟨b,o,none⟩ else⟨b,o+l*aC P elem,none⟩)) (h-l) (mx-l))
    | none=>none
   | _=>none
  else none
 | _,_=>none
def bh(P:QS)(s:QQ)(x:QP)(f:Nat):RI QP :=
 match P.underlying s,x with
 | some (.struct fields),.pointer (some ⟨b,o,none⟩) =>
  match fields[f]? with
  | some fl=>if known P fl.type&&aC P fl.type != 0 then some (ptr b (o+fl.offset)) else none
  | none=>none
 | _,_=>none
def bV(P:QS)(t:QQ)(x index:QP):RI QP :=
 match P.underlying t,x,index with
 | some (.array len elem),.pointer (some ⟨b,o,none⟩),.int _ i =>
  if known P elem&&decide (0<=i/\i<len) then some (ptr b (o+i.toNat*aC P elem)) else none
 | some (.slice elem),.slice (some ⟨b,o,none⟩) len _,.int _ i =>
  if known P elem&&decide (0<=i/\i<len) then some (ptr b (o+i.toNat*aC P elem)) else none
 | _,_,_=>none
def BS(P:QS)(t:QQ)(x:QP):RI QP :=
 match P.underlying t,x with
 | some (.array n _),.slice (some ⟨b,o,none⟩) len _=>if n<=len then some (ptr b o) else none
 | _,_=>none
def gj(P:QS)(t:QQ)(x index:QP):RI QP :=
 match P.underlying t,x,index with
 | some (.array len elem),.agg cs,.int _ i=>if 0<=i/\i<len then eT P elem cs (i.toNat*aC P elem) else none
 | some .string,.string s,.int _ i=>if 0<=i then(s[i.toNat]?).map fun b=>.int .u8 b.toNat else none
 | _,_,_=>none
def eX(P:QS)(t:QQ)(x:QP)(f:Nat):RI QP :=
 match P.underlying t,x with
 | some (.struct fields),.agg cs =>
  match fields[f]? with
  | some fl=>eT P fl.type cs fl.offset
  | none=>none
 | _,_=>none
def dO(P:QS)(t:QQ)(a:QP)(m:RN):RI QP :=
 match a with
 | .pointer (some ⟨b,o,none⟩) =>
  if !known P t then none else
  if eu P t then(m.dP b o (aC P t)).map fun cs=>.agg cs.toArray
  else match m.get b with
   | some (.cells cs _)=>cs[o]?
   | _=>none
 | _=>none
def fk(P:QS)(t:QQ)(a v:QP)(m:RN):RI RN :=
 match a with
 | .pointer (some ⟨b,o,none⟩) =>
  if known P t&&v.cells.size==aC P t&&bG v.cells.toList then m.dB b o v.cells.toList else none
 | _=>none
def iT(P:QS)(keyType:QQ)(k:QP):RR (QP×QP)->Nat->RI (RI (Nat×QP))
 | [],_=>some none
 | e::es,i =>
  match kV P Op.maxDepth keyType k e.1 with
  | some true=>some (some (i,e.2))
  | some false=>iT P keyType k es (i+1)
  | none=>none
def gw(P:QS)(t:QQ):Bool :=
 match P.underlying t with
 | some (.int _)|some .string|some .bool=>true
 | _=>false
def iW(P:QS)(t:QQ)(v:QP):Bool :=
 match P.underlying t,v with
 | some (.int _),.int _ _|some .string,.string _|some .bool,.bool _=>true
 | some (.array len elem),.agg cs=>gw P elem&&known P elem&&aC P elem==1&&cs.size==len&&cs.toList.all aX
 | some (.struct fs),.agg cs=>fs.toList.all (fun f=>gw P f.type&&known P f.type&&decide (f.offset<cs.size))&&cs.toList.all aX
 | _,_=>false
def mapOf(m:RN)(x:QP):RI (RR (QP×QP)) :=
 match x with
 | .map none=>some []
 | .map (some r)=>match m.get r with
  | some (.map es)=>some es
  | _=>none
 | _=>none
def dY(P:QS)(xType:QQ)(x index:QP)(commaOk:Bool)(m:RN):RI QP :=
 match P.underlying xType with
 | some (.map key elem) =>
  match mapOf m x,cg P elem with
  | some es,some z =>
   if iW P key index then
    match iT P key index es 0 with
    | some (some (_,v))=>some (if commaOk then .tuple #[v,.bool true] else v)
    | some none=>if bO z then some (if commaOk then .tuple #[z,.bool false] else z) else none
    | none=>none
   else none
  | _,_=>none
 | _=>none
def mU:RR (QP×QP)->Nat->QP->QP->RR (QP×QP)
 | [],_,k,v=>[(k,v)]
 | _::es,0,k,v=>(k,v)::es
 | e::es,n+1,k,v=>e::mU es n k v
def nI(es:RR (QP×QP))(i:Nat)(key:QP):Bool :=
 match es[i]? with
 | some e=>bO e.1&&Instr.sameBits 10000 e.1 key
 | none=>false
def eF(P:QS)(mapType:QQ)(x key value:QP)(m:RN):RI RN :=
 match P.underlying mapType,x with
 | some (.map kt _),.map (some r) =>
  match m.get r with
  | some (.map es) =>
   if iW P kt key then
    match iT P kt key es 0 with
    | some (some (i,_)) =>
     if nI es i key then some (m.set r (.map (mU es i key value))) else none
    | some none=>some (m.set r (.map (es++[(key,value)])))
    | none=>none
   else none
  | _=>none
 | _,_=>none
def qB(P:QS)(mapType:QQ)(x key:QP)(m:RN):RI RN :=
 match P.underlying mapType,x with
 | some (.map kt _),.map (some r) =>
  match m.get r with
  | some (.map es) =>
   if iW P kt key then
    match iT P kt key es 0 with
    | some (some (i,_))=>some (m.set r (.map (es.eraseIdx i)))
    | some none=>some m
    | none=>none
   else none
  | _=>none
 | _,_=>none
def cD(sz:Nat)(x:QP)(n:Nat)(m:RN):RI (RR QP) :=
 match x with
 | .slice none _ _=>if n=0 then some [] else none
 | .slice (some ⟨b,o,none⟩) _ _=>if n=0 then some [] else m.dP b o (n*sz)
 | .slice (some ⟨_,_,some _⟩) _ _=>if n=0 then some [] else none
 | _=>none
def gr(bytes need:Nat):Bool:=(2*need+2000)*bytes<=2 ^ 48
def ir(P:QS)(elem:QQ)(xType:RI QQ)(x:QP)(m:RN):RI (Nat×RR QP) :=
 match xType.bind P.underlying,x with
 | some (.slice _),.slice a l c=>(cD (aC P elem) (.slice a l c) l m).map fun cs=>(l,cs)
 | some (.int _),.int _ l=>if 0<=l/\l<=2 ^ 40 then(fH P elem l.toNat).bind fun zs=>if zs.all aX then some (l.toNat,zs) else none else none
 | _,_=>none
def dN (P:QS) (sType:QQ) (xType:RI QQ) (s x:QP) (m:RN):RI (QP × RN) :=
 match P.underlying sType,s,ir P (match P.underlying sType with|some (.slice e)=>e|_=>0) xType x m with
 | some (.slice elem),.slice base len cap,some (n,new) =>
  let sz:=aC P elem
  if !(known P elem)||sz==0 || !bG new || !(P.info? elem).any (fun i=>gr i.bytes (len+n)&&i.bytes != 0)||new.length != n*sz || !(cg P elem).any (fun z=>z.cells.size==sz&&z.cells.toList.all aX) then none else
  match base with
  | none =>
   if len≠0\/cap≠0 then none else
   if n=0 then some (.slice none 0 0,m)
   else some (.slice (some ⟨m.next,0,none⟩) n n,m.alloc (.cells new (.more sz)))
  | some ⟨b,o,none⟩ =>
   match m.get b with
   | some (.cells cs tag) =>
    if len+n<=cap then
     (m.dB b (o+len*sz) new).map fun m'=>(.slice (some ⟨b,o,none⟩) (len+n) cap,m')
    else match tag with
     | .more sz' =>
      if sz'=sz/\o=0 then
       let old:=cs.take (len*sz)
       if old.length=len*sz then some (.slice (some ⟨m.next,0,none⟩) (len+n) (len+n),(m.kill b).alloc (.cells (old++new) (.more sz))) else none
      else none
     | _ =>
      match m.dP b o (len*sz) with
      | some old=>some (.slice (some ⟨m.next,0,none⟩) (len+n) (len+n),m.alloc (.cells (old++new) (.more sz)))
      | none=>none
   | _=>none
  | some ⟨b,_,some 1⟩ =>
   if len≠0\/cap≠0 then none else
   if n=0 then some (.slice (some ⟨b,0,some 1⟩) 0 0,m)
   else some (.slice (some ⟨m.next,0,none⟩) n n,m.alloc (.cells new (.more sz)))
  | _=>if len=0/\cap=0/\n=0 then some (s,m) else none
 | _,_,_=>none
def rv(P:QS)(dType:QQ)(dst src:QP)(m:RN):RI (QP×RN) :=
 match P.underlying dType,dst,src with
 | some (.slice elem),.slice base dLen _,.slice _ sLen _ =>
  let n:=min sLen dLen
  if !(known P elem) then none else
  match cD (aC P elem) src n m with
  | none=>none
  | some cells =>
   if !bG cells then none else
   match base,n with
   | _,0=>some (.int .i64 0,m)
   | some ⟨b,o,none⟩,n+1=>(m.dB b o cells).map fun m'=>(.int .i64 (n+1:Nat),m')
   | _,_=>none
 | _,_,_=>none
def z7(P:QS)(t:QQ)(x:QP)(m:RN):RI (QP×RN) :=
 match P.underlying t,x with
 | some (.slice _),.slice _ 0 _=>some (.tuple #[],m)
 | some (.slice elem),.slice (some ⟨b,o,none⟩) n _ =>
  match fH P elem n with
  | some zs=>if zs.all aX then(m.dB b o zs).map fun m'=>(.tuple #[],m') else none
  | none=>none
 | _,_=>none
def eC(f:Int->Int->Int):IntKind->Int->RR QP->RI QP
 | k,a,[]=>some (.int k a)
 | k,a,.int _ b::vs=>eC f k (f a b) vs
 | _,_,_=>none
def bP(P:QS)(b:Builtin)(argTypes:RU QQ)(args:RR QP)(m:RN):RI (QP×RN) :=
 match b,args with
 | .len,[x] =>
  match(argTypes[0]?).bind P.underlying,x with
  | some .string,.string s=>some (.int .i64 s.size,m)
  | some (.array n _),_=>some (.int .i64 n,m)
  | some (.pointer a),_=>match P.underlying a with
   | some (.array n _)=>some (.int .i64 n,m)
   | _=>none
  | some (.slice _),.slice _ n _=>some (.int .i64 n,m)
  | some (.map _ _),x=>(mapOf m x).map fun es=>(.int .i64 es.length,m)
  | _,_=>none
 | .cap,[x] =>
  match(argTypes[0]?).bind P.underlying,x with
  | some (.slice _),.slice none _ n=>some (.int .i64 n,m)
  | some (.slice _),.slice (some ⟨b,_,none⟩) _ n=>match m.get b with
   | some (.cells _ (.more _))=>none
   | some (.cells _ _)=>some (.int .i64 n,m)
   | _=>none
  | _,_=>none
 | .append,[s,x]=>match argTypes[0]? with
  | some t=>dN P t argTypes[1]? s x m
  | none=>none
 | .copy,[d,s]=>match argTypes[0]? with
  | some t=>rv P t d s m
  | none=>none
 | .clear,[x]=>match argTypes[0]? with
  | some t=>z7 P t x m
  | none=>none
 | .delete,[x,k]=>match argTypes[0]? with
  | some t=>(qB P t x k m).map fun m'=>(.tuple #[],m')
  | none=>none
 | .max,.int k a::vs=>(eC (fun x y=>if y>x then y else x) k a vs).map fun v=>(v,m)
 | .min,.int k a::vs=>(eC (fun x y=>if y<x then y else x) k a vs).map fun v=>(v,m)
 | _,_=>none
def cY(E:Env)(t:Tm)(m:RN)(o:Op):RI (QP×RN) :=
 let P:=E.P
 match o with
 | .move x|.assign x=>(ax E t x).map fun v=>(v,m)
 | .pick c a b=>match ax E t c with
  | some (.bool true)=>(ax E t a).map fun v=>(v,m)
  | some (.bool false)=>(ax E t b).map fun v=>(v,m)
  | _=>none
 | .alloc elem=>match cg P elem with
  | some z=>if bO z then some (ptr m.next 0,m.alloc (.cells z.cells.toList .own)) else none
  | none=>none
 | .box _ x=>(ax E t x).map fun v=>(ptr m.next 0,m.alloc (.cells v.cells.toList .own))
 | .build ty parts=>match dw E t parts.toList,cg P ty with
  | some ps,some z=>if bO z then(j9 P ty ps).map fun v=>(v,m) else none
  | _,_=>none
 | .buildSlice ty len parts =>
  match P.underlying ty,dw E t parts.toList with
  | some (.slice elem),some ps =>
   let sz:=aC P elem
   if !(known P elem)||len*sz>2 ^ 24 then none else
   match fH P elem len with
   | some zs=>if zs.all aX then(gT (fun i=>some (i*sz,sz)) zs ps).map fun cs=>(.slice (some ⟨m.next,0,none⟩) len len,m.alloc (.cells cs .own)) else none
   | none=>none
  | _,_=>none
 | .load ty a=>match ax E t a with
  | some p=>(dO P ty p m).map fun v=>(v,m)
  | none=>none
 | .store ty a x=>match ax E t a,ax E t x with
  | some p,some v=>(fk P ty p v m).map fun m'=>(undef,m')
  | _,_=>none
 | .nilCheck x=>match ax E t x with
  | some (.pointer (some a))=>some (.pointer (some a),m)
  | some (.func (.func f) a b)=>some (.func (.func f) a b,m)
  | some (.func (.yield f) a b)=>some (.func (.yield f) a b,m)
  | _=>none
 | .binOp op xType x y _=>match ax E t x,ax E t y with
  | some a,some b=>(bS op xType P a b).map fun v=>(v,m)
  | _,_=>none
 | .unOp op _ x=>match ax E t x with
  | some a=>(Al op a).map fun v=>(v,m)
  | none=>none
 | .convert src dst x=>match ax E t x with
  | some a=>(fF P src dst a).map fun v=>(v,m)
  | none=>none
 | .makeFunc (.func f) first captured=>match bH E t first.toList,bH E t captured.toList with
  | some fs,some cs=>some (.func (.func f) fs.toArray cs.toArray,m)
  | _,_=>none
 | .makeMap _ none=>some (.map (some m.next),m.alloc (.map []))
 | .makeSlice ty len cap=>match P.underlying ty,ax E t len,ax E t cap with
  | some (.slice elem),some (.int .i64 l),some (.int .i64 c) =>
   if 0<=l/\l<=c/\(P.info? elem).any (fun i=>i.bytes*c<=2 ^ 40&&i.bytes != 0)/\known P elem then
    match fH P elem c.toNat with
    | some zs=>if zs.all aX then some (.slice (some ⟨m.next,0,none⟩) l.toNat c.toNat,m.alloc (.cells zs .own)) else none
    | none=>none
   else none
  | _,_,_=>none
 | .slice ty x lo hi mx=>match ax E t x,dH E t lo,dH E t hi,dH E t mx with
  | some v,some l,some h,some k=>(cU P ty v l h k m).map fun v=>(v,m)
  | _,_,_,_=>none
 | .fieldAddr s x f=>match ax E t x with
  | some v=>(bh P s v f).map fun v=>(v,m)
  | none=>none
 | .field ty x f=>match ax E t x with
  | some v=>(eX P ty v f).map fun v=>(v,m)
  | none=>none
 | .sliceToArrayPointer ty x=>match ax E t x with
  | some v=>(BS P ty v).map fun v=>(v,m)
  | none=>none
 | .indexAddr ty x i=>match ax E t x,ax E t i with
  | some v,some n=>(bV P ty v n).map fun v=>(v,m)
  | _,_=>none
 | .index ty x i=>match ax E t x,ax E t i with
  | some v,some n=>(gj P ty v n).map fun v=>(v,m)
  | _,_=>none
 | .lookup ty x i ok=>match ax E t x,ax E t i with
  | some v,some n=>(dY P ty v n ok m).map fun v=>(v,m)
  | _,_=>none
 | .mapUpdate ty x k v|.insert ty x k v=>match ax E t x,ax E t k,ax E t v with
  | some x,some k,some v=>(eF P ty x k v m).map fun m'=>(undef,m')
  | _,_,_=>none
 | .extract x i=>match ax E t x with
  | some (.tuple vs)=>(vs[i]?).map fun v=>(v,m)
  | _=>none
 | .call c=>match c.callee with
  | .builtin b=>match bH E t c.args.toList with
   | some vs=>bP P b c.argTypes vs m
   | none=>none
  | _=>none
 | _=>none
def aK:Op->Bool
 | .store .. | .mapUpdate .. | .insert ..=>true
 | .call c=>match c.callee with
  | .builtin .append|.builtin .copy|.builtin .delete|.builtin .clear=>true
  | .builtin _=>false
  | _=>true
 | _=>false
def nP:Op->Bool
 | .load .. | .lookup .. | .slice ..=>true
 | .call c=>match c.callee with
  | .builtin .len|.builtin .cap=>true
  | _=>false
 | _=>false
def tmpsOf:RR QR->RR Tmp
 | []=>[]
 | .tmp t::xs=>t::tmpsOf xs
 | _::xs=>tmpsOf xs
def looks(ops:RU Oper)(o:Oper):RR Tmp :=
 tmpsOf o.op.operands.toList++(match o.guard with
  | some (g,_)=>((ops[g]?).bind (·.dst)).toList
  | none=>[])
def Ca(ops:RU Oper):RR Nat:=(Region.before ops).toList
def qK(ops:RU Oper)(a b:Oper):Bool :=
 !(aK a.op&&aK b.op) &&
 (match a.dst with
  | some d=>!(looks ops b).contains d&&b.dst != some d
  | none=>true) &&
 (match b.dst with
  | some d=>!(looks ops a).contains d
  | none=>true)
def clash(a b:Oper):Bool:=(aK a.op&&nP b.op) ||(nP a.op&&aK b.op)
def uZ:RR Nat->Bool
 | []=>true
 | x::xs=>!xs.contains x&&uZ xs
def fh(o:Oper):RR Nat:=o.after.toList.filterMap fun e=>if Region.binds .any e then some e.on else none
def wh(ops:RU Oper)(bs:RR Nat):Bool :=
 uZ (ops.toList.filterMap (·.dst)) &&
 (List.range ops.size).all fun j =>
  (fh (ops.getD j default)).all (fun e=>decide (e<j)) &&
  (match(ops.getD j default).guard with
   | none=>true
   | some (g,_)=>decide (g<j) &&(bs.getD j 0).testBit g) &&
  (List.range j).all fun i =>
   if(bs.getD j 0).testBit i then(fh (ops.getD j default)).any (fun e=>e==i ||(Nat.blt i e &&(bs.getD e 0).testBit i))
   else qK ops (ops.getD i default) (ops.getD j default)
def mj(ops:RU Oper)(bs:RR Nat):RR (Nat×Nat) :=
 (List.range ops.size).flatMap fun j=>((List.range j).filter fun i=>!(bs.getD j 0).testBit i&&clash (ops.getD i default) (ops.getD j default)).map fun i=>(i,j)
def iQ(ops:RU Oper):RI (RR (Nat×Nat)) :=
 if wh ops (Ca ops) then some (mj ops (Ca ops)) else none
def fO:QP->RI Nat
 | .pointer (some a)=>some a.block
 | .slice (some a) _ _=>some a.block
 | .map (some r)=>some r
 | _=>none
def bg(E:Env)(t:Tm)(o:Op):RI Nat :=
 match o with
 | .load _ a=>(ax E t a).bind fO
 | .lookup _ x _ _=>(ax E t x).bind fO
 | .slice _ x _ _ _=>(ax E t x).bind fO
 | .call c=>match c.callee with
  | .builtin .len|.builtin .cap=>match bH E t c.args.toList with
   | some [v]=>fO v
   | _=>none
  | _=>none
 | _=>none
def ek(E:Env)(t:Tm)(o:Op):RI Nat :=
 match o with
 | .store _ a _=>match ax E t a with
  | some (.pointer (some a))=>some a.block
  | _=>none
 | _=>none
def ph:QP->QP->Bool
 | .int k a,.int k' b=>decide (k=k')&&decide (a=b)
 | .bool a,.bool b=>a==b
 | .slice a l c,.slice a' l' c'=>decide (a=a') &&(Nat.beq l l'&&Nat.beq c c')
 | .map a,.map b=>decide (a=b)
 | .pointer a,.pointer b=>decide (a=b)
 | _,_=>false
def rp:RR QP->RR QP->Bool
 | [],[]=>true
 | v::vs,u::us=>ph v u&&rp vs us
 | _,_=>false
def uh:QP->QP->Bool
 | .func (.func f) a c,.func (.func f') a' c'=>Nat.beq f f' &&(rp a.toList a'.toList&&rp c.toList c'.toList)
 | v,u=>ph v u
def pP:RR QP->RR QP->Bool
 | [],[]=>true
 | v::vs,u::us=>uh v u&&pP vs us
 | _,_=>false
def vY:RR (QP×QP)->RR (QP×QP)->Bool
 | [],[]=>true
 | v::vs,u::us=>uh v.1 u.1&&uh v.2 u.2&&vY vs us
 | _,_=>false
def BJ:RI RP->RI RP->Bool
 | some (.cells cs t),some (.cells cs' t')=>decide (t=t')&&pP cs cs'
 | some (.map es),some (.map es')=>vY es es'
 | _,_=>false
noncomputable def gY (m m':RN) (b:Nat):Bool:=BJ (m.get b) (m'.get b)||@decide (m.get b=m'.get b) (Classical.propDecidable _)
structure Note where
 read:RI Nat
 wl:Nat
 next:Nat
 wrote:RI Nat
 kept:Nat->Bool
def Note.ok(r e:Note):Bool :=
 match r.read with
 | none=>true
 | some b=>decide (b<e.wl)||decide (e.next<=b) ||(match e.wrote with
  | some b'=>b != b'
  | none=>false)||e.kept b
def du(a:Note):Bool :=
 match a.read with
 | none=>true
 | some b=>Nat.blt b a.next
def dD(notes:RR Note)(ops:RU Oper)(p:Nat×Nat):Bool :=
 match notes[p.1]?,notes[p.2]? with
 | some a,some b =>
  (!(aK (ops.getD p.2 default).op)||Note.ok a b) &&(!(aK (ops.getD p.1 default).op)||Note.ok b a)
 | _,_=>false
inductive RO where
 | normal
 | exit (id:Nat)
 | ret
 deriving DecidableEq
structure Fr where
 tmps:Tm
 n:Nat
 fn:R2
 round:RI Nat
inductive Task where
 | code (c:Code) (fr:Fr) (m:RN)
 | loop (c:Code) (fr:Fr) (m:RN)
 | call (f:R2) (args:RR QP) (m:RN)
 | round (l:Nat) (args:RR QP) (m:RN)
inductive Res where
 | code (e:RO) (t:Tm) (m:RN)
 | val (v:QP) (m:RN)
abbrev K:=Task->RI Res
def gb(n:Nat)(t:Tm)(dst:RI Tmp)(v:QP):RI Tm :=
 match dst with
 | some d=>match Nat.blt d n with
  | true=>some (t.set d v)
  | false=>none
 | none=>some t
def er(k:K)(E:Env)(t:Tm)(m:RN)(o:Op):RI (QP×RN) :=
 match o with
 | .call c=>match c.callee with
  | .value f=>match ax E t f,bH E t c.args.toList with
   | some (.func (.func g) first captured),some args=>match k (.call g (first.toList++args++captured.toList) m) with
    | some (.val v m')=>some (v,m')
    | _=>none
   | some (.func (.yield l) first _),some args=>match k (.round l (first.toList++args) m) with
    | some (.val v m')=>some (v,m')
    | _=>none
   | _,_=>none
  | _=>cY E t m o
 | _=>cY E t m o
def dc(ops:RU Oper)(t:Tm)(j:Nat):RI Bool :=
 match((ops[j]?).bind (·.dst)) with
 | some d=>match t.get d with
  | some (.bool b)=>some b
  | _=>none
 | none=>none
def bt(ops:RU Oper)(o:Oper)(t:Tm):Bool :=
 match o.guard with
 | none=>true
 | some (j,want)=>match dc ops t j with
  | some b=>b==want
  | none=>false
def iy(k:K)(E:Env)(n:Nat)(ops:RU Oper):RR Oper->Tm->RN->RI (Tm×RN)
 | [],t,m=>some (t,m)
 | o::os,t,m =>
  if bt ops o t then
   match er k E t m o.op with
   | some (v,m')=>match gb n t o.dst v with
    | some t'=>iy k E n ops os t' m'
    | none=>none
   | none=>none
  else match gb n t o.dst undef with
   | some t'=>iy k E n ops os t' m
   | none=>none
noncomputable def dR (k:K) (E:Env) (n:Nat) (ops:RU Oper):RR Oper->Tm->RN->RI (Tm×RN×RR Note)
 | [],t,m=>some (t,m,[])
 | o::os,t,m =>
  if bt ops o t then
   match er k E t { m with wl:=m.next} o.op with
   | some (v,m')=>match gb n t o.dst v with
    | some t1=>match dR k E n ops os t1 { m' with wl:=min m.wl m'.wl} with
     | some (t',m'',ns)=>some (t',m'',{ read:=bg E t o.op,wl:=m'.wl,next:=m.next,wrote:=ek E t o.op,kept:=gY m m'}::ns)
     | none=>none
    | none=>none
   | none=>none
  else match gb n t o.dst undef with
   | some t1=>match dR k E n ops os t1 m with
    | some (t',m'',ns)=>some (t',m'',{ read:=none,wl:=m.next,next:=m.next,wrote:=none,kept:=fun _=>false}::ns)
    | none=>none
   | none=>none
def cj(E:Env)(t:Tm)(m:RN):RR ResultVar->RI (RR QP)
 | []=>some []
 | .tmp i::rs=>(cj E t m rs).map fun vs=>t.at i::vs
 | .cell a ty::rs=>match dO E.P ty (t.at a) m,cj E t m rs with
  | some v,some vs=>some (v::vs)
  | _,_=>none
def gp:RR QP->QP
 | [v]=>v
 | vs=>.tuple vs.toArray
def fq(n:Nat)(t:Tm):RR Tmp->RR QP->RI Tm
 | p::ps,v::vs=>match Nat.blt p n with
  | true=>fq n (t.set p v) ps vs
  | false=>none
 | _,_=>some t
def wO:RO->RI Code
 | .normal=>none
 | .exit id=>some (.exit id)
 | .ret=>some .ret
def jA(E:Env)(fr:Fr)(m:RN)(f:QR):Bool :=
 (match ax E fr.tmps f with
  | some (.func (.func g) _ _)=>(E.dj g).isNone
  | _=>false) &&
 (match fr.round with
  | none=>true
  | some l=>match m.get l with
   | some (.loop _)=>true
   | _=>false)
def mQ(E:Env)(f:R2)(args:RR QP)(m:RN):RI (QP×RN):=(E.dj f).bind fun p=>p.run args m
noncomputable def step (E:Env) (k:K):Task->RI Res
 | .code c fr m =>
  match c with
  | .skip=>some (.code .normal fr.tmps m)
  | .label _=>some (.code .normal fr.tmps m)
  | .seq a b=>match k (.code a fr m) with
   | some (.code .normal t m')=>k (.code b { fr with tmps:=t} m')
   | some (.code e t m')=>some (.code e t m')
   | _=>none
  | .cond x a b=>match ax E fr.tmps x with
   | some (.bool true)=>k (.code a fr m)
   | some (.bool false)=>k (.code b fr m)
   | _=>none
  | .block id a=>match k (.code a fr m) with
   | some (.code (.exit id') t m')=>if id'=id then some (.code .normal t m') else some (.code (.exit id') t m')
   | some (.code e t m')=>some (.code e t m')
   | _=>none
  | .loop a=>k (.loop a fr m)
  | .exit id=>some (.code (.exit id) fr.tmps m)
  | .ret=>some (.code .ret fr.tmps m)
  | .scope a=>match k (.code a fr m) with
   | some (.code e t m')=>some (.code e t m')
   | _=>none
  | .region _ ops draw =>
   if draw then
    match iQ ops with
    | some ps=>match dR k E fr.n ops ops.toList fr.tmps m with
     | some (t,m',ns)=>if ps.all (dD ns ops)&&ns.all du then some (.code .normal t m') else none
     | none=>none
    | none=>none
   else match iy k E fr.n ops ops.toList fr.tmps m with
    | some (t,m')=>some (.code .normal t m')
    | none=>none
  | .rangeFunc f params assign body =>
   match ax E fr.tmps f,jA E fr m f with
   | some (.func (.func g) first captured),true =>
    let l:=m.next
    let m1:=m.alloc (.loop { state:=.ready,pending:=none,fn:=fr.fn,tmps:=fr.tmps,n:=fr.n,params,assign,body})
    match k (.call g (first.toList++[.func (.yield l) #[] #[]]++captured.toList) m1) with
    | some (.val _ m2)=>match m2.get l with
     | some (.loop r)=>match r.state with
      | .busy=>none
      | _ =>
       let m3:=m2.set l (.loop { r with state:=.exhausted})
       match r.pending with
       | none=>some (.code .normal fr.tmps m3)
       | some c=>match k (.code c fr m3) with
        | some (.code e t m')=>some (.code e t m')
        | _=>none
     | _=>none
    | _=>none
   | _,_=>none
  | _=>none
 | .loop c fr m=>match k (.code c fr m) with
  | some (.code .normal t m')=>k (.loop c { fr with tmps:=t} m')
  | some (.code e t m')=>some (.code e t m')
  | _=>none
 | .call f args m =>
  match mQ E f args m with
  | some r=>some (.val r.1 r.2)
  | none =>
   match E.P.funcs[f]? with
   | some fn=>match fn.body with
    | some c=>match k (.code c { tmps:=Trie.ofList args 0 .nil,n:=max args.length fn.ntmps,fn:=f,round:=none} m) with
     | some (.code (.exit _) _ _)=>none
     | some (.code _ t m')=>(cj E t m' fn.results.toList).map fun vs=>.val (gp vs) m'
     | _=>none
    | none=>none
   | none=>none
 | .round l args m =>
  match m.get l with
  | some (.loop r)=>match r.state with
   | .ready =>
    if args.length≠r.params.size then none else
    match fq r.n r.tmps r.params.toList args with
    | none=>none
    | some t0=>match k (.code r.assign { tmps:=t0,n:=r.n,fn:=r.fn,round:=some l} m) with
    | some (.code .normal t1 m1)=>match m1.get l with
     | some (.loop r1)=>match r1.state with
      | .ready =>
       match k (.code r.body { tmps:=t1,n:=r.n,fn:=r.fn,round:=some l} (m1.set l (.loop { r1 with state:=.busy}))) with
       | some (.code e _ m2)=>match m2.get l with
        | some (.loop r2) =>
         let j:=wO e
         some (.val (.bool j.isNone) (m2.set l (.loop { r2 with state:=if j.isNone then .ready else .done,pending:=j})))
        | _=>none
       | _=>none
      | _=>none
     | _=>none
    | _=>none
   | _=>none
  | _=>none
noncomputable def run (E:Env):Nat->K
 | 0=>fun _=>none
 | n+1=>step E (run E n)
structure Blk where
 c:Nat
 more:RI (Nat×Nat×Nat)
abbrev aT:=Nat->RI Blk
def yn(v:QP):Bool:=mA v && !aX v
def tS{v:QP}(h:yn v=true):mA v=true:=by simp only[yn,OD] at h; exact h.1
inductive VR(j:aT):QP->QP->Prop
 | junk {v':QP} (h:yn v'=true):VR j (.complex .f64 0 0) v'
 | bool (b:Bool):VR j (.bool b) (.bool b)
 | int (k:IntKind) (n:Int):VR j (.int k n) (.int k n)
 | string (s:ByteArray):VR j (.string s) (.string s)
 | pnil:VR j (.pointer none) (.pointer none)
 | ptr {b o:Nat} {k:Blk} (h:j b=some k):VR j (.pointer (some ⟨b,o,none⟩)) (.pointer (some ⟨k.c,o,none⟩))
 | snil (l c:Nat):VR j (.slice none l c) (.slice none l c)
 | slice {b o len cap:Nat} {k:Blk} (h:j b=some k) (hm:k.more=none):VR j (.slice (some ⟨b,o,none⟩) len cap) (.slice (some ⟨k.c,o,none⟩) len cap)
 | sliceM {b o len cap cap' sz na nc:Nat} {k:Blk} (h:j b=some k) (hm:k.more=some (sz,na,nc)) (h1:cap*sz+o=na) (h2:cap'*sz+o=nc) (hl:len<=cap) (hc:cap<=cap') :
   VR j (.slice (some ⟨b,o,none⟩) len cap) (.slice (some ⟨k.c,o,none⟩) len cap')
 | gL {b:Nat} {a':Addr} {cap':Nat}:VR j (.slice (some ⟨b,0,some 0⟩) 0 0) (.slice (some a') 0 cap')
 | dry {b:Nat} {a':Addr}:VR j (.slice (some ⟨b,0,some 1⟩) 0 0) (.slice (some a') 0 0)
 | mnil:VR j (.map none) (.map none)
 | map {b:Nat} {k:Blk} (h:j b=some k):VR j (.map (some b)) (.map (some k.c))
 | func {f:R2} {xs ys cs ds:RU QP} (h1:xs.size=ys.size) (h2:∀(i:Nat) (a:i<xs.size) (b:i<ys.size),VR j xs[i] ys[i])
   (h3:cs.size=ds.size) (h4:∀(i:Nat) (a:i<cs.size) (b:i<ds.size),VR j cs[i] ds[i]):VR j (.func (.func f) xs cs) (.func (.func f) ys ds)
 | yield {l:Nat} {k:Blk} {xs ys cs ds:RU QP} (h:j l=some k) (h1:xs.size=ys.size) (h2:∀(i:Nat) (a:i<xs.size) (b:i<ys.size),VR j xs[i] ys[i]) :
   VR j (.func (.yield l) xs cs) (.func (.yield k.c) ys ds)
 | nilFunc:VR j .nilFunc .nilFunc
 | nilIface:VR j .nilIface .nilIface
 | agg {xs ys:RU QP} (h1:xs.size=ys.size) (h2:∀(i:Nat) (a:i<xs.size) (b:i<ys.size),VR j xs[i] ys[i]):VR j (.agg xs) (.agg ys)
 | tuple {xs ys:RU QP} (h1:xs.size=ys.size) (h2:∀(i:Nat) (a:i<xs.size) (b:i<ys.size),VR j xs[i] ys[i]):VR j (.tuple xs) (.tuple ys)
def LR(j:aT)(xs ys:RR QP):Prop:=xs.length=ys.length/\∀(i:Nat) (v:QP),xs[i]? = some v->∃v',ys[i]? = some v'/\VR j v v'
def LR.nil(j:aT):LR j [] []:=⟨rfl,fun i v h=>by simp at h⟩
def LR.cons{j:aT}{x y:QP}{xs ys:RR QP}(h:VR j x y)(hs:LR j xs ys):LR j (x::xs) (y::ys) :=
 ⟨by simp[hs.1],fun i v hi=>by
  cases i with
  | zero=>simp at hi; subst hi; exact⟨y,rfl,h⟩
  | succ i=>simpa using hs.2 i v (by simpa using hi)⟩
def LR.head{j:aT}{x y:QP}{xs ys:RR QP}(h:LR j (x::xs) (y::ys)):VR j x y:=by
 obtain⟨v',hv,hr⟩:=h.2 0 x rfl;simp at hv; subst hv; exact hr
def LR.tail{j:aT}{x y:QP}{xs ys:RR QP}(h:LR j (x::xs) (y::ys)):LR j xs ys :=
 ⟨by have:=h.1; simpa using this,fun i v hi=>by simpa using h.2 (i+1) v (by simpa using hi)⟩
def LR.cons_inv{j:aT}{x:QP}{xs l:RR QP}(h:LR j (x::xs) l):∃y ys,l=y::ys/\VR j x y/\LR j xs ys:=by
 cases l with
 | nil=>exact O6 h.1 (by simp)
 | cons y ys=>exact⟨y,ys,rfl,h.head,h.tail⟩
def LR.dz{j:aT}{l:RR QP}(h:LR j [] l):l=[]:=by
 have:=h.1; simp at this; exact P4.1 this.symm
def LR.append{j:aT}{xs ys xs' ys':RR QP}(h:LR j xs ys)(h':LR j xs' ys'):LR j (xs++xs') (ys++ys') :=
 ⟨by simp[h.1,h'.1],fun i v hi=>by
  by_cases hlt:i<xs.length
  rw[Pj hlt] at hi;rw[Pj (h.1▸hlt)];exact h.2 i v hi
  rw[O2 (by omega)] at hi
  rw[O2 (by have:=h.1; omega),<-h.1]
  exact h'.2 _ v hi⟩
def LR.drop{j:aT}{xs ys:RR QP}(h:LR j xs ys)(n:Nat):LR j (xs.drop n) (ys.drop n) :=
 ⟨by simp[h.1],fun i v hi=>by rw[PZ] at *; exact h.2 _ v hi⟩
def LR.take{j:aT}{xs ys:RR QP}(h:LR j xs ys)(n:Nat):LR j (xs.take n) (ys.take n) :=
 ⟨by simp[h.1],fun i v hi=>by
  rw[Qq] at *
  split at hi
  rename_i hlt; rw[OM hlt]; exact h.2 _ v hi
  simp at hi⟩
def LR.get{j:aT}{xs ys:RR QP}(h:LR j xs ys){i:Nat}{v:QP}(hi:xs[i]? = some v):∃v',ys[i]? = some v'/\VR j v v':=h.2 i v hi
def LR.eW{j:aT}{xs ys:RU QP}(h1:xs.size=ys.size)(h2:∀(i:Nat) (a:i<xs.size) (b:i<ys.size),VR j xs[i] ys[i]):LR j xs.toList ys.toList :=
 ⟨by simpa using h1,fun i v hi=>by
  have hlt:i<xs.toList.length:=(OX.1 hi).1;have ha:i<xs.size:=by simpa using hlt
  have hb:i<ys.size:=h1▸ha;refine⟨ys[i],by simp[hb],?_⟩
  have:xs[i]=v:=by simpa [ha] using hi
  exact this▸h2 i ha hb⟩
def LR.arr{j:aT}{xs ys:RU QP}(h:LR j xs.toList ys.toList):∀(i:Nat) (a:i<xs.size) (b:i<ys.size),VR j xs[i] ys[i]:=fun i a b=>by
 obtain⟨v',hv,hr⟩:=h.2 i xs[i] (by simp[a])
 have:ys[i]=v':=by simpa [b] using hv
 exact this▸hr
def LR.size{j:aT}{xs ys:RU QP}(h:LR j xs.toList ys.toList):xs.size=ys.size:=by simpa using h.1
def VR.z8{j:aT}{xs ys:RU QP}(h:LR j xs.toList ys.toList):VR j (.agg xs) (.agg ys):=.agg h.size h.arr
def VR.tuple'{j:aT}{xs ys:RU QP}(h:LR j xs.toList ys.toList):VR j (.tuple xs) (.tuple ys):=.tuple h.size h.arr
def VR.undef(j:aT):VR j undef undef:=.tuple rfl (fun i a _=>by simp at a)
def aT.le(j j':aT):Prop:=∀b k,j b=some k->j' b=some k
def aT.le.refl(j:aT):j.le j:=fun _ _ h=>h
def aT.le.trans{j j' j'':aT}(h:j.le j')(h':j'.le j''):j.le j'':=fun b k e=>h' b k (h b k e)
def VR.mono{j j':aT}(hj:j.le j'){v v':QP}(h:VR j v v'):VR j' v v':=by
 induction h with
 | junk h=>exact .junk h
 | bool b=>exact .bool b
 | int k n=>exact .int k n
 | string s=>exact .string s
 | pnil=>exact .pnil
 | ptr h=>exact .ptr (hj _ _ h)
 | snil l c=>exact .snil l c
 | slice h hm=>exact .slice (hj _ _ h) hm
 | sliceM h hm h1 h2 hl hc=>exact .sliceM (hj _ _ h) hm h1 h2 hl hc
 | gL=>exact .gL
 | dry=>exact .dry
 | mnil=>exact .mnil
 | map h=>exact .map (hj _ _ h)
 | func h1 _ h3 _ ih2 ih4=>exact .func h1 ih2 h3 ih4
 | yield h h1 _ ih2=>exact .yield (hj _ _ h) h1 ih2
 | nilFunc=>exact .nilFunc
 | nilIface=>exact .nilIface
 | agg h1 _ ih=>exact .agg h1 ih
 | tuple h1 _ ih=>exact .tuple h1 ih
def LR.mono{j j':aT}(hj:j.le j'){xs ys:RR QP}(h:LR j xs ys):LR j' xs ys :=
 ⟨h.1,fun i v hi=>let⟨v',a,b⟩:=h.2 i v hi;⟨v',a,b.mono hj⟩⟩
def VR.aX{j:aT}{v:QP}(h:aX v=true):VR j v v:=by
 unfold Ab.aX at h
 split at h<;>first|constructor |(simp at h)
def LR.plain{j:aT}{l:RR QP}(h:l.all Ab.aX=true):LR j l l :=
 ⟨rfl,fun _ v hi=>⟨v,hi,VR.aX (OV.1 h v (Pl hi))⟩⟩
def VR.bO{j:aT}{v:QP}(h:bO v=true):VR j v v:=by
 unfold Ab.bO at h
 split at h
 exact .z8 (LR.plain h)
 exact .tuple' (LR.plain h)
 exact .aX h
def ER(j:aT):RR (QP×QP)->RR MapEntry->Prop
 | [],[]=>True
 | e::es,f::fs=>VR j e.1 f.key/\VR j e.2 f.val/\ER j es fs
 | _,_=>False
def ER.mono{j j':aT}(hj:j.le j'):∀{es:RR (QP×QP)} {fs:RR MapEntry},ER j es fs->ER j' es fs
 | [],[],_=>trivial
 | _::_,_::_,h=>⟨h.1.mono hj,h.2.1.mono hj,ER.mono hj h.2.2⟩
 | [],_::_,h=>h.elim
 | _::_,[],h=>h.elim
def TR(n:Nat)(j:aT)(t:Tm)(tmps:RU QP):Prop:=tmps.size=n/\∀i,VR j (t.at i) (tmps.getD i undef)
def TR.mono{n:Nat}{j j':aT}(hj:j.le j'){t:Tm}{tmps:RU QP}(h:TR n j t tmps):TR n j' t tmps:=⟨h.1,fun i=>(h.2 i).mono hj⟩
def nr(sz:Nat)(c:RU QP):Prop:=c.size<=sz*9223372036854775807
def oh(k:Blk)(tag:Tag)(len:Nat)(c:RU QP)(fz:Nat×Nat):Prop :=
 match tag with
 | .ro=>k.more=none/\c.size=len
 | .own=>k.more=none/\c.size=len/\fz=(0,0)
 | .more sz=>k.more=some (sz,len,c.size)/\len<=c.size/\fz=(0,0)/\0<sz/\nr sz c
def oh.put{k:Blk}{tag:Tag}{len:Nat}{c c':RU QP}{fz:Nat×Nat}(h:oh k tag len c fz)(hs:c'.size=c.size)(hr:∀i,len<=i->c'[i]? = c[i]?):oh k tag len c' fz:=by
 cases tag with
 | ro=>exact⟨h.1,hs.trans h.2⟩
 | own=>exact⟨h.1,hs.trans h.2.1,h.2.2⟩
 | more sz=>exact⟨by rw[hs]; exact h.1,by rw[hs]; exact h.2.1,h.2.2.1,h.2.2.2.1,by unfold nr; rw[hs]; exact h.2.2.2.2⟩
def G2(es:RU MapEntry)(clock:Nat):Prop:=(∀x∈es.toList,x.born<clock)/\(es.toList.map (·.born)).Nodup
def CT(c:Nat):G2 #[] c:=⟨fun x hx=>by simp at hx,by simp⟩
def FK{es:RU MapEntry}{clock:Nat}(h:G2 es clock)(k v:QP):G2 (es.push { key:=k,val:=v,born:=clock}) (clock+1):=by
 refine⟨fun x hx=>?_,?_⟩
 rw[Array.toList_push,P1,PJ] at hx;rcases hx with hx|rfl
 exact Nat.lt_succ_of_lt (h.1 x hx)
 exact PD _
 rw[Array.toList_push,List.map_append,List.map_singleton];refine List.nodup_append.2 ⟨h.2,by simp,fun a ha b hb=>?_⟩
 rw[PJ] at hb;obtain⟨x,hx,rfl⟩:=Qw.1 ha;have:=h.1 x hx;rw[hb]; exact Nat.ne_of_lt this
def AA{es:RU MapEntry}{clock:Nat}(h:G2 es clock)(i:Nat)(f:MapEntry->MapEntry)(hf:∀e,(f e).born=e.born):G2 (es.modify i f) clock:=by
 have e:(es.modify i f).toList.map (·.born)=es.toList.map (·.born):=by
  rw[Array.toList_modify];refine Qg fun t=>?_;rw[O1,O1,List.getElem?_modify];cases es.toList[t]? with
  | none=>rfl
  | some a =>
   show some ((if i=t then f a else a).born)=some a.born
   split
   rw[hf]
   rfl
 refine⟨fun x hx=>?_,by rw[e]; exact h.2⟩
 have hm:x.born∈es.toList.map (·.born):=e▸Qw.2 ⟨x,hx,rfl⟩;obtain⟨y,hy,he⟩:=Qw.1 hm;rw[<-he]; exact h.1 y hy
def Db{es:RU MapEntry}{clock:Nat}(h:G2 es clock)(i:Nat):G2 (es.eraseIdxIfInBounds i) clock:=by
 have hs:(es.eraseIdxIfInBounds i).toList.Sublist es.toList:=by
  rw[Array.toList_eraseIdxIfInBounds]; exact List.eraseIdx_sublist _ _
 exact⟨fun x hx=>h.1 x (hs.subset hx),(hs.map _).nodup h.2⟩
def OR(j:aT)(k:Blk):RP->Obj->Prop
 | .cells cs tag,.cells c _ fz=>oh k tag cs.length c fz/\∀(i:Nat) (v:QP),cs[i]? = some v->∃v',c[i]? = some v'/\VR j v v'
 | .map es,.map entries clock=>ER j es entries.toList/\G2 entries clock
 | .loop r,.loop r'=>r.state=r'.state/\r.pending=r'.pending/\r.params=r'.params/\r.assign=r'.assign/\r.body=r'.body/\TR r.n j r.tmps r'.tmps
 | _,_=>False
def OR.mono{j j':aT}(hj:j.le j'){k:Blk}{o:RP}{o':Obj}(h:OR j k o o'):OR j' k o o':=by
 cases o with
 | cells cs tag =>
  cases o' with
  | cells c e fz=>exact⟨h.1,fun i v hi=>let⟨v',a,b⟩:=h.2 i v hi;⟨v',a,b.mono hj⟩⟩
  | _=>exact h.elim
 | map es =>
  cases o' with
  | map c e=>exact⟨ER.mono hj h.1,h.2⟩
  | _=>exact h.elim
 | loop r =>
  cases o' with
  | loop c=>exact⟨h.1,h.2.1,h.2.2.1,h.2.2.2.1,h.2.2.2.2.1,h.2.2.2.2.2.mono hj⟩
  | _=>exact h.elim
structure MR(E:Env)(j:aT)(m:RN)(w:QT):Prop where
 lt:∀b k,j b=some k->b<m.next/\k.c<w.heap.size
 obj:∀b o k,m.get b=some o->j b=some k->∃o',w.heap[k.c]? = some o'/\OR j k o o'
 inj:∀b b' k k',j b=some k->j b'=some k'->(m.get b).isSome=true->(m.get b').isSome=true->k.c=k'.c->b=b'
 glob:∀g,g<E.glob->j g=some ⟨g,none⟩
structure AExt(m m':RN):Prop where
 next:m.next<=m'.next
 wl:m'.wl<=m.wl
 same:∀b,b<m.next->b<m'.wl->m'.get b=m.get b
 dead:∀b,b<m.next->m.get b=none->m'.get b=none
def AExt.refl(m:RN):AExt m m:=⟨OF _,OF _,fun _ _ _=>rfl,fun _ _ h=>h⟩
def AExt.trans{a b c:RN}(h:AExt a b)(h':AExt b c):AExt a c :=
 ⟨O3 h.next h'.next,O3 h'.wl h.wl,
  fun x hx hw=>(h'.same x (OH hx h.next) hw).trans (h.same x hx (OH hw h'.wl)),
  fun x hx hn=>h'.dead x (OH hx h.next) (h.dead x hx hn)⟩
abbrev Calm(w w':QT):Prop:=w'.os=w.os/\w'.output=w.output/\w'.tape=w.tape/\w.drawn<=w'.drawn
abbrev iH(E:Env)(w w':QT):Prop:=w'.os=w.os/\w'.output=w.output/\w'.tape=w.tape/\(E.mono->w.drawn<=w'.drawn)
def Calm.e{E:Env}{w w':QT}(h:Calm w w'):iH E w w':=⟨h.1,h.2.1,h.2.2.1,fun _=>h.2.2.2⟩
def iH.refl{E:Env}(w:QT):iH E w w:=⟨rfl,rfl,rfl,fun _=>OF _⟩
def iH.trans{E:Env}{a b c:QT}(h:iH E a b)(g:iH E b c):iH E a c:=⟨g.1.trans h.1,g.2.1.trans h.2.1,g.2.2.1.trans h.2.2.1,fun e=>O3 (h.2.2.2 e) (g.2.2.2 e)⟩
structure Sim(E:Env)(j:aT)(m:RN)(w:QT)(j':aT)(m':RN)(w':QT):Prop where
 ext:AExt m m'
 le:j.le j'
 new:∀b k,j' b=some k->j b=none->m.next<=b
 mr:MR E j' m' w'
 size:w.heap.size<=w'.heap.size
 full:∀b,m.next<=b->b<m'.next->(m'.get b).isSome=true->∃k,j' b=some k
 away:∀b,b<m.next->j b=none->m'.get b=m.get b
 fresh:∀b k,j' b=some k->j b=none->w.heap.size<=k.c\/∃b0 k0,j b0=some k0/\(m.get b0).isSome=true/\k0.c=k.c/\m'.wl<=b0
 frame:∀c,c<w.heap.size->(∀b k,j b=some k->(m.get b).isSome=true->k.c=c->b<m'.wl)->w'.heap[c]? = w.heap[c]?
 calm:iH E w w'
def Sim.refl{E:Env}{j:aT}{m:RN}{w:QT}(h:MR E j m w):Sim E j m w j m w where
 ext:=.refl m
 le:=.refl j
 new:=fun b k h h'=>by simp[h'] at h
 mr:=h
 size:=OF _
 full:=fun b h h' _=>O6 h (by omega)
 away:=fun _ _ _=>rfl
 fresh:=fun b k h h'=>by simp[h'] at h
 frame:=fun _ _ _=>rfl
 calm:=.refl w
def Sim.trans{E:Env}{j j1 j2:aT}{m m1 m2:RN}{w w1 w2:QT}(h0:MR E j m w)(h:Sim E j m w j1 m1 w1)(h':Sim E j1 m1 w1 j2 m2 w2):Sim E j m w j2 m2 w2 where
 ext:=h.ext.trans h'.ext
 le:=h.le.trans h'.le
 mr:=h'.mr
 calm:=iH.trans h.calm h'.calm
 size:=O3 h.size h'.size
 full:=by
  intro b hb hb' hl;rcases Pk b m1.next with hlt|hge
  ·have hl1:(m1.get b).isSome=true:=by
    cases hm:m1.get b with
    | some o=>rfl
    | none=>rw[h'.ext.dead b hlt hm] at hl; cases hl
   obtain⟨k,hk⟩:=h.full b hb hlt hl1;exact⟨k,h'.le b k hk⟩
  exact h'.full b hge hb' hl
 new:=by
  intro b k hk hn;cases h1:j1 b with
  | none=>exact O3 h.ext.next (h'.new b k hk h1)
  | some k1=>exact h.new b k1 h1 hn
 away:=by
  intro b hb hn;have h1:j1 b=none:=by
   cases h1:j1 b with
   | none=>rfl
   | some k1=>exact O6 (h.new b k1 h1 hn) (by omega)
  exact(h'.away b (OH hb h.ext.next) h1).trans (h.away b hb hn)
 fresh:=by
  intro b k hk hn;cases h1:j1 b with
  | some k1 =>
   have:=h'.le b k1 h1;rw[hk] at this; cases this;rcases h.fresh b k h1 hn with hf|⟨b0,k0,a1,a2,a3,a4⟩
   exact .inl hf
   exact .inr ⟨b0,k0,a1,a2,a3,O3 h'.ext.wl a4⟩
  | none =>
   rcases h'.fresh b k hk h1 with hf|⟨b0,k0,a1,a2,a3,a4⟩
   exact .inl (O3 h.size hf)
   ·cases hj0:j b0 with
    | some k0' =>
     have e:=h.le b0 k0' hj0;rw[a1] at e; cases e;refine .inr ⟨b0,k0,hj0,?_,a3,a4⟩;cases hm:m.get b0 with
     | some o=>rfl
     | none=>rw[h.ext.dead b0 (h0.lt b0 k0 hj0).1 hm] at a2; cases a2
    | none =>
     rcases h.fresh b0 k0 a1 hj0 with hf|⟨b1,k1,c1,c2,c3,c4⟩
     exact .inl (a3▸hf)
     exact .inr ⟨b1,k1,c1,c2,c3.trans a3,O3 h'.ext.wl c4⟩
 frame:=by
  intro c hc H;have s1:w1.heap[c]? = w.heap[c]?:=h.frame c hc fun b k hb hl he=>OH (H b k hb hl he) h'.ext.wl;refine(h'.frame c (OH hc h.size) ?_).trans s1;intro b k hb hl he;cases hj:j b with
  | some k' =>
   have e:=h.le b k' hj;rw[hb] at e; cases e;refine H b k hj ?_ he;cases hm:m.get b with
   | some o=>rfl
   | none=>rw[h.ext.dead b (h0.lt b k hj).1 hm] at hl; cases hl
  | none =>
   rcases h.fresh b k hb hj with hf|⟨b1,k1,c1,c2,c3,c4⟩
   omega
   have:=H b1 k1 c1 c2 (c3.trans he);have:=h'.ext.wl;omega
def aT.set(j:aT)(b:Nat)(k:Blk):aT:=fun x=>if x=b then some k else j x
def aT.cA(j:aT)(b:Nat)(k:Blk):j.set b k b=some k:=by simp[aT.set]
def aT.cb(j:aT){b x:Nat}(k:Blk)(h:x≠b):j.set b k x=j x:=by simp[aT.set,h]
def aT.mX{j:aT}{b:Nat}(k:Blk)(h:j b=none):j.le (j.set b k):=fun x k' hx=>by
 by_cases e:x=b
 subst e; rw[h] at hx; cases hx
 rw[aT.cb _ _ e]; exact hx
def RN.bD(m:RN)(o:RP)(b:Nat):(m.alloc o).get b=if b=m.next then some o else m.get b:=by
 unfold RN.alloc RN.get;simp only[Heap.cu]
 by_cases h:b=m.next<;>simp[h]
def RN.cu(m:RN)(b x:Nat)(o:RP):(m.set b o).get x=if x=b then some o else m.get x:=by
 unfold RN.set RN.get;simp only[Heap.cu]
 by_cases h:x=b<;>simp[h]
def RN.fE(m:RN)(b x:Nat):(m.kill b).get x=if x=b then none else m.get x:=by
 unfold RN.kill RN.get;simp only[Heap.cu]
 by_cases h:x=b<;>simp[h]
@[simp] theorem RN.next_alloc (m:RN) (o:RP):(m.alloc o).next=m.next+1:=rfl
@[simp] theorem RN.next_set (m:RN) (b:Nat) (o:RP):(m.set b o).next=m.next:=rfl
@[simp] theorem RN.next_kill (m:RN) (b:Nat):(m.kill b).next=m.next:=rfl
@[simp] theorem RN.wl_alloc (m:RN) (o:RP):(m.alloc o).wl=m.wl:=rfl
@[simp] theorem RN.wl_set (m:RN) (b:Nat) (o:RP):(m.set b o).wl=min m.wl b:=rfl
@[simp] theorem RN.wl_kill (m:RN) (b:Nat):(m.kill b).wl=min m.wl b:=rfl
def AExt.alloc(m:RN)(o:RP):AExt m (m.alloc o) :=
 ⟨Nat.le_succ _,OF _,fun b h _=>by rw[RN.bD,QW],fun b h hn=>by rw[RN.bD,QW]; exact hn⟩
def AExt.set{m:RN}{b:Nat}(o:RP)(hb:(m.get b).isSome=true):AExt m (m.set b o) :=
 ⟨OF _,Nat.min_le_left _ _,fun x _ h=>by
  rw[RN.cu,OJ]; intro e; subst e; simp at h; omega,
 fun x _ hn=>by
  rw[RN.cu,OJ]
  exact hn
  intro e; subst e; rw[hn] at hb; cases hb⟩
def AExt.kill(m:RN)(b:Nat):AExt m (m.kill b) :=
 ⟨OF _,Nat.min_le_left _ _,fun x _ h=>by
  rw[RN.fE,OJ]; intro e; subst e; simp at h; omega,
 fun x _ hn=>by rw[RN.fE]; split<;>first|rfl|exact hn⟩
def yV{j:aT}{n:Nat}{k:Blk}{m':RN}:∀b,n<=b->b<n+1->(m'.get b).isSome=true->∃k',j.set n k b=some k':=fun b h1 h2 _=>by
 have:b=n:=by omega
 subst this;exact⟨k,aT.cA _ _ _⟩
section
variable{E:Env}{j:aT}{m:RN}{w:QT}
def MR.lX(h:MR E j m w):j m.next=none:=by
 cases e:j m.next with
 | none=>rfl
 | some k=>exact O6 (h.lt _ _ e).1 (Nat.lt_irrefl _)
def MR.of_heap{w':QT}(h:MR E j m w)(e:w'.heap=w.heap):MR E j m w' :=
 ⟨by rw[e]; exact h.lt,by rw[e]; exact h.obj,h.inj,h.glob⟩
def Sim.of_heap{w':QT}(h:MR E j m w)(e:w'.heap=w.heap)(e2:Calm w w':=by first|exact⟨rfl,rfl,rfl,OF _⟩|exact⟨rfl,rfl,rfl,Nat.le_succ _⟩):Sim E j m w j m w' :=
 { Sim.refl h with mr:=h.of_heap e,size:=by rw[e]; exact OF _,frame:=fun c _ _=>by rw[e],calm:=e2.e}
def MR.uL{x:Nat}(h:MR E j m w):MR E j { m with wl:=x} w:=⟨h.lt,h.obj,h.inj,h.glob⟩
def lZ(h:MR E j m w){ao:RP}{co:Obj}{mo:RI (Nat×Nat×Nat)}(ho:OR j ⟨w.heap.size,mo⟩ ao co) :
  Sim E j m w (j.set m.next ⟨w.heap.size,mo⟩) (m.alloc ao) (w.alloc co):=by
 have hle:j.le (j.set m.next ⟨w.heap.size,mo⟩):=aT.mX _ h.lX
 have hlt:∀b k,j b=some k->b≠m.next:=fun b k e=>Nat.ne_of_lt (h.lt b k e).1
 refine⟨.alloc m ao,hle,?_,⟨?_,?_,?_,?_⟩,by simp,yV,?_,?_,?_,⟨rfl,rfl,rfl,fun _=>OF _⟩⟩
 intro b k hb hn
 by_cases e:b=m.next
 exact Nat.le_of_eq e.symm
 rw[aT.cb _ _ e,hn] at hb; cases hb
 intro b k hb
 by_cases e:b=m.next
 subst e; rw[aT.cA] at hb; cases hb; simp
 rw[aT.cb _ _ e] at hb;have:=h.lt b k hb;simp; omega
 intro b o k hg hb
 by_cases e:b=m.next
 subst e;rw[aT.cA] at hb; cases hb;rw[RN.bD,OM rfl] at hg; cases hg;exact⟨co,World.alloc_heap_new w co,ho.mono hle⟩
 rw[aT.cb _ _ e] at hb;rw[RN.bD,OJ e] at hg;obtain⟨o',h1,h2⟩:=h.obj b o k hg hb;refine⟨o',?_,h2.mono hle⟩;have hk:=(h.lt b k hb).2
 show(w.heap.push co)[k.c]? = some o'
 rw[Qu,QW]; exact h1
 intro b b' k k' hb hb' hl hl' hc
 by_cases e:b=m.next<;>by_cases e':b'=m.next
 rw[e,e']
 subst e;rw[aT.cA] at hb; cases hb;rw[aT.cb _ _ e'] at hb';exact O6 (h.lt b' k' hb').2 (by simp at hc; omega)
 subst e';rw[aT.cA] at hb'; cases hb';rw[aT.cb _ _ e] at hb;exact O6 (h.lt b k hb).2 (by simp at hc; omega)
 rw[aT.cb _ _ e] at hb;rw[aT.cb _ _ e'] at hb';rw[RN.bD,OJ e] at hl;rw[RN.bD,OJ e'] at hl';exact h.inj b b' k k' hb hb' hl hl' hc
 intro g hg; exact hle _ _ (h.glob g hg)
 intro b hb _; rw[RN.bD,QW]
 intro b k hb hn
 by_cases e:b=m.next
 subst e; rw[aT.cA] at hb; cases hb; exact .inl (OF _)
 rw[aT.cb _ _ e,hn] at hb; cases hb
 intro c hc _
 show(w.heap.push co)[c]? = w.heap[c]?
 rw[Qu,QW]
def kB(h:MR E j m w){b:Nat}{k:Blk}(hk:j b=some k)(hl:(m.get b).isSome=true){ao:RP}{co:Obj}(ho:OR j k ao co) :
  Sim E j m w j (m.set b ao) (w.putObj k.c co):=by
 refine⟨.set ao hl,.refl j,fun x k' e e'=>by simp[e'] at e,⟨?_,?_,?_,h.glob⟩,by simp,fun b h1 h2 _=>O6 h1 (by simp at h2; omega),?_,fun x k' e e'=>by simp[e'] at e,?_,⟨rfl,rfl,rfl,fun _=>OF _⟩⟩
 intro x k' e; simpa using h.lt x k' e
 intro x o k' hg e
 by_cases hx:x=b
 subst hx;rw[hk] at e; cases e;rw[RN.cu,OM rfl] at hg; cases hg;exact⟨co,World.putObj_heap_same (h.lt x k hk).2,ho⟩
 rw[RN.cu,OJ hx] at hg;obtain⟨o',h1,h2⟩:=h.obj x o k' hg e;refine⟨o',?_,h2⟩;rw[World.putObj_heap_other]
 exact h1
 intro hc;exact hx (h.inj x b k' k e hk (by rw[hg]; rfl) hl hc)
 intro x x' k1 k2 e e' hl1 hl2 hc;refine h.inj x x' k1 k2 e e' ?_ ?_ hc
 rw[RN.cu] at hl1; split at hl1
 rename_i hx; subst hx; exact hl
 exact hl1
 rw[RN.cu] at hl2; split at hl2
 rename_i hx; subst hx; exact hl
 exact hl2
 intro x hx hn;rw[RN.cu,OJ]; intro e; subst e; rw[hk] at hn; cases hn
 intro c hc H;apply World.putObj_heap_other;intro e;have:=H b k hk hl e.symm;simp at this; omega
def EY(h:MR E j m w){b:Nat}{k0:Blk}(hk0:j b=some k0):Sim E j m w j (m.kill b) w:=by
 refine⟨.kill m b,.refl j,fun x k' e e'=>by simp[e'] at e,⟨h.lt,?_,?_,h.glob⟩,OF _,fun b h1 h2 _=>O6 h1 (by simp at h2; omega),?_,fun x k' e e'=>by simp[e'] at e,fun _ _ _=>rfl,⟨rfl,rfl,rfl,fun _=>OF _⟩⟩
 intro x o k hg e;rw[RN.fE] at hg
 split at hg
 cases hg
 exact h.obj x o k hg e
 intro x x' k k' e e' hl hl' hc;rw[RN.fE] at hl hl'
 split at hl
 cases hl
 split at hl'
 cases hl'
 exact h.inj x x' k k' e e' hl hl' hc
 intro x hx hn;rw[RN.fE,OJ];intro e; subst e; rw[hk0] at hn; cases hn
def A7(h:MR E j m w){b:Nat}{k:Blk}(hk:j b=some k)(hl:(m.get b).isSome=true){ao:RP}{co:Obj}{mo:RI (Nat×Nat×Nat)}(ho:OR j ⟨k.c,mo⟩ ao co) :
  Sim E j m w (j.set m.next ⟨k.c,mo⟩) ((m.kill b).alloc ao) (w.putObj k.c co):=by
 have hle:j.le (j.set m.next ⟨k.c,mo⟩):=aT.mX _ h.lX
 have hbn:b<m.next:=(h.lt b k hk).1
 have hkc:k.c<w.heap.size:=(h.lt b k hk).2;have hget:∀x,((m.kill b).alloc ao).get x=if x=m.next then some ao else if x=b then none else m.get x:=by
  intro x; rw[RN.bD,RN.fE]; rfl
 refine⟨(AExt.kill m b).trans (AExt.alloc _ ao),hle,?_,⟨?_,?_,?_,fun g hg=>hle _ _ (h.glob g hg)⟩,by simp,yV,?_,?_,?_,⟨rfl,rfl,rfl,fun _=>OF _⟩⟩
 intro x k' hx hn
 by_cases e:x=m.next
 exact Nat.le_of_eq e.symm
 rw[aT.cb _ _ e,hn] at hx; cases hx
 intro x k' hx
 by_cases e:x=m.next
 subst e; rw[aT.cA] at hx; cases hx; simp; exact hkc
 rw[aT.cb _ _ e] at hx;have:=h.lt x k' hx;simp; omega
 intro x o k' hg hx;rw[hget] at hg
 by_cases e:x=m.next
 subst e;rw[aT.cA] at hx; cases hx;rw[OM rfl] at hg; cases hg;exact⟨co,World.putObj_heap_same hkc,ho.mono hle⟩
 rw[aT.cb _ _ e] at hx;rw[OJ e] at hg
 split at hg
 cases hg
 rename_i hxb;obtain⟨o',h1,h2⟩:=h.obj x o k' hg hx;refine⟨o',?_,h2.mono hle⟩;rw[World.putObj_heap_other]
 exact h1
 intro hc;exact hxb (h.inj x b k' k hx hk (by rw[hg]; rfl) hl hc)
 intro x x' k1 k2 hx hx' hl1 hl2 hc;rw[hget] at hl1 hl2
 by_cases e:x=m.next<;>by_cases e':x'=m.next
 rw[e,e']
 subst e;rw[aT.cA] at hx; cases hx;rw[aT.cb _ _ e'] at hx';rw[OJ e'] at hl2
 split at hl2
 cases hl2
 rename_i hxb;exact O6 (h.inj x' b k2 k hx' hk hl2 hl hc.symm) hxb
 subst e';rw[aT.cA] at hx'; cases hx';rw[aT.cb _ _ e] at hx;rw[OJ e] at hl1
 split at hl1
 cases hl1
 rename_i hxb;exact O6 (h.inj x b k1 k hx hk hl1 hl hc) hxb
 rw[aT.cb _ _ e] at hx;rw[aT.cb _ _ e'] at hx';rw[OJ e] at hl1;rw[OJ e'] at hl2
 split at hl1
 cases hl1
 split at hl2
 cases hl2
 exact h.inj x x' k1 k2 hx hx' hl1 hl2 hc
 intro x hx hn;rw[hget,QW,OJ]
 intro e; subst e; rw[hk] at hn; cases hn
 intro x k' hx hn
 by_cases e:x=m.next
 subst e; rw[aT.cA] at hx; cases hx;exact .inr ⟨b,k,hk,hl,rfl,by simp; omega⟩
 rw[aT.cb _ _ e,hn] at hx; cases hx
 intro c hc H;apply World.putObj_heap_other;intro e;have:=H b k hk hl e.symm;simp at this; omega
def MR.qI(h:MR E j m w){b:Nat}{k:Blk}(hk:j b=some k){cs:RR QP}{tag:Tag}(hg:m.get b=some (.cells cs tag)) :
  ∃c e fz,w.heap[k.c]? = some (.cells c e fz)/\oh k tag cs.length c fz/\∀(i:Nat) (v:QP),cs[i]? = some v->∃v',c[i]? = some v'/\VR j v v':=by
 obtain⟨o',h1,h2⟩:=h.obj b _ k hg hk;cases o' with
 | cells c e fz=>exact⟨c,e,fz,h1,h2.1,h2.2⟩
 | _=>exact h2.elim
def MR.cell(h:MR E j m w){b:Nat}{k:Blk}(hk:j b=some k){cs:RR QP}{tag:Tag}(hg:m.get b=some (.cells cs tag)){o:Nat}{v:QP}(hv:cs[o]? = some v) :
  ∃v',w.cell? ⟨k.c,o,none⟩=some v'/\VR j v v':=by
 obtain⟨c,e,fz,h1,_,h3⟩:=h.qI hk hg;obtain⟨v',h4,h5⟩:=h3 o v hv;exact⟨v',by simp[World.cell?,h1,h4],h5⟩
def lR(c o i:Nat):(⟨c,o,none⟩:Addr).add i=⟨c,o+i,none⟩:=by
 unfold Addr.add
 split
 rename_i e; subst e; rfl
 rfl
def rV{b o n:Nat}{vs:RR QP}(hm:m.dP b o n=some vs):∃cs tag,m.get b=some (.cells cs tag)/\vs=(cs.drop o).take n/\vs.length=n:=by
 unfold RN.dP at hm
 split at hm
 rename_i cs tag hg;simp only at hm
 split at hm
 rename_i hl;cases hm;exact⟨cs,tag,hg,rfl,hl⟩
 cases hm
 cases hm
def MR.dP(h:MR E j m w){b:Nat}{k:Blk}(hk:j b=some k){o n:Nat}{vs:RR QP}(hm:m.dP b o n=some vs) :
  ∃vs',(∀w0:QT,w0.heap=w.heap->(loadCells ⟨k.c,o,none⟩ n).run E.P w0=.ok vs'.toArray w0)/\LR j vs vs':=by
 obtain⟨cs,tag,hg,rfl,hl⟩:=rV hm;obtain⟨c,e,fz,h1,_,h3⟩:=h.qI hk hg;have hcell:∀i,i<n->∃v v',cs[o+i]? = some v/\c[o+i]? = some v'/\VR j v v':=by
  intro i hi;have:o+i<cs.length:=by simp at hl; omega
  obtain⟨v',a,b⟩:=h3 (o+i) _ (OG this);exact⟨_,v',OG this,a,b⟩
 refine⟨(List.range n).map fun i=>c.getD (o+i) undef,fun w0 hw0=>run_loadCells w0 _ n _ ?_,?_⟩
 intro i hi;obtain⟨v,v',_,a,_⟩:=hcell i hi;rw[lR];simp[World.cell?,hw0,h1,a]
 refine⟨by simp; simpa using hl,fun i v hi=>?_⟩
 rw[Qq] at hi
 split at hi
 rename_i hlt;rw[PZ] at hi;obtain⟨v1,v',a,b,r⟩:=hcell i hlt;rw[hi] at a; cases a;refine⟨v',?_,r⟩;simp[hlt,b]
 cases hi
def fx(cs:RR QP)(o:Nat):aR cs o []=cs:=by
 induction cs generalizing o with
 | nil=>cases o<;>rfl
 | cons c cs ih=>cases o<;>simp[aR,ih]
def cO:∀(cs:RR QP) (o:Nat) (vs:RR QP),(aR cs o vs).length=cs.length
 | [],0,[]=>rfl
 | [],0,_::_=>rfl
 | [],_+1,_=>rfl
 | _::_,0,[]=>rfl
 | _::cs,0,_::vs=>by simp[aR,cO cs 0 vs]
 | _::cs,o+1,vs=>by simp[aR,cO cs o vs]
def cJ:∀(cs:RR QP) (o:Nat) (vs:RR QP) (i:Nat),(aR cs o vs)[i]? = if o<=i/\i<o+vs.length/\i<cs.length then vs[i-o]? else cs[i]?
 | [],0,[],i=>by simp[aR]
 | [],0,_::_,i=>by simp[aR]
 | [],_+1,_,i=>by simp[aR]
 | c::cs,0,[],i=>by simp[aR]
 | c::cs,0,v::vs,0=>by simp[aR]
 | c::cs,0,v::vs,i+1=>by
  have:=cJ cs 0 vs i;simp only[aR,Pn,this,Pg,P6,true_and,Pr,Qv,Nat.add_lt_add_iff_right]
 | c::cs,o+1,vs,0=>by simp[aR]
 | c::cs,o+1,vs,i+1=>by
  have:=cJ cs o vs i;simp only[aR,Pn,this,Pg,Nat.add_le_add_iff_right,Nat.add_lt_add_iff_right,Nat.add_sub_add_right,Nat.add_right_comm o 1 vs.length]
def fY:∀(cs:RR QP) (o:Nat) (v:QP) (vs:RR QP),o<cs.length->aR cs o (v::vs)=aR (cs.set o v) (o+1) vs
 | [],_,_,_,h=>by simp at h
 | c::cs,0,v,vs,_=>by simp[aR]
 | c::cs,o+1,v,vs,h=>by simp[aR,fY cs o v vs (by simpa using h)]
def rZ{w:QT}{B o:Nat}{c:RU QP}{e:QQ}{fz:Nat×Nat}(h:w.heap[B]? = some (.cells c e fz))(v:QP) :
  w.setCell ⟨B,o,none⟩ v=w.putObj B (.cells (c.setIfInBounds o v) e fz):=by
 unfold World.setCell World.putObj
 congr 1
 apply Array.ext_getElem?;intro i;rw[Array.getElem?_modify,Array.getElem?_setIfInBounds]
 by_cases hi:B=i
 subst hi;obtain⟨hlt,hv⟩:=OQ.1 h;simp[hlt,hv]
 simp[hi]
def s7{w:QT}{B:Nat}{o o':Obj}:(w.putObj B o).putObj B o'=w.putObj B o':=by
 unfold World.putObj;simp
def pQ{w:QT}{B:Nat}{o:Obj}(h:w.heap[B]? = some o):w.putObj B o=w:=by
 unfold World.putObj
 congr 1
 apply Array.ext_getElem?;intro i;rw[Array.getElem?_setIfInBounds]
 split
 rename_i hi; subst hi;obtain⟨hlt,hv⟩:=OQ.1 h;simp[hlt,hv]
 rfl
def fS{P:QS}{B:Nat}{e:QQ}:∀(vs:RR QP) (w:QT) (c:RU QP) (off i:Nat),w.heap[B]? = some (.cells c e (0,0))->off+i+vs.length<=c.size ->
  bG vs=true->(storeCells ⟨B,off,none⟩ vs i).run P w=.ok () (w.putObj B (.cells (aR c.toList (off+i) vs).toArray e (0,0)))
 | [],w,c,off,i,h,_,_=>by
  simp only[storeCells,RY,fx];rw[show c.toList.toArray=c from rfl,pQ h]
 | v::vs,w,c,off,i,h,hlen,hone=>by
  have hlen':off+i+(vs.length+1)<=c.size:=by simpa using hlen
  have hone':mA v=true/\bG vs=true:=by simpa [bG] using hone
  have hv:v.oneCell'=true:=by
   have:=hone'.1; cases v<;>first|rfl |(simp[mA] at this)
  have hcell:w.cell? ⟨B,off+i,none⟩=some c[off+i]:=by
   simp[World.cell?,h]
  have hfz:w.frozen? ⟨B,off+i,none⟩=false:=by simp[World.frozen?,h]
  have hh:(w.putObj B (.cells (c.setIfInBounds (off+i) v) e (0,0))).heap[B]? = some (.cells (c.setIfInBounds (off+i) v) e (0,0)) :=
   World.putObj_heap_same (OQ.1 h).1
  have ih:=fS (P:=P) vs _ (c.setIfInBounds (off+i) v) off (i+1) hh (by simp; omega) hone'.2
  simp only[storeCells,RX,lR];rw[run_store _ _ _ _ _ hv];simp only[hcell,hfz,RV,OT,if_false,rZ h,ih,s7]
  congr 4
  rw[fY _ _ _ _ (by simp; omega)]
  simp[QB]
def A6{j:aT}{v v':QP}(h:VR j v v')(ho:mA v=true):mA v'=true:=by
 cases h<;>first|rfl|exact tS ‹_› |(simp[mA] at ho)
def np{j:aT}{vs vs':RR QP}(h:LR j vs vs')(ho:bG vs=true):bG vs'=true:=by
 induction vs generalizing vs' with
 | nil=>rw[h.dz]; rfl
 | cons v vs ih =>
  obtain⟨y,ys,rfl,h1,h2⟩:=h.cons_inv;simp only[bG,PI,OD] at ho ⊢;exact⟨A6 h1 ho.1,ih h2 ho.2⟩
def yG{b o:Nat}{vs:RR QP}{m':RN}(hm:m.dB b o vs=some m') :
  (vs=[]/\m'=m)\/∃cs tag,m.get b=some (.cells cs tag)/\tag≠.ro/\o+vs.length<=cs.length/\m'=m.set b (.cells (aR cs o vs) tag):=by
 unfold RN.dB at hm
 split at hm
 cases hm; exact .inl ⟨rfl,rfl⟩
 split at hm
 cases hm
 rename_i cs tag hro hg
 split at hm
 rename_i hl;cases hm;exact .inr ⟨cs,tag,hg,fun e=>hro e,hl,rfl⟩
 cases hm
 cases hm
def iJ(h:MR E j m w){b:Nat}{k:Blk}(hk:j b=some k){o:Nat}{vs vs':RR QP}(hv:LR j vs vs')(ho:bG vs=true){m':RN}(hm:m.dB b o vs=some m') :
  ∃w',(storeCells ⟨k.c,o,none⟩ vs').run E.P w=.ok () w'/\Sim E j m w j m' w':=by
 rcases yG hm with⟨rfl,rfl⟩|⟨cs,tag,hg,hro,hl,rfl⟩
 rw[hv.dz];exact⟨w,rfl,.refl h⟩
 ·obtain⟨c,e,fz,h1,h2,h3⟩:=h.qI hk hg;have hfz:fz=(0,0)/\cs.length<=c.size:=by
   cases tag with
   | ro=>exact O6 rfl hro
   | own=>exact⟨h2.2.2,by rw[h2.2.1]; exact OF _⟩
   | more sz=>exact⟨h2.2.2.1,h2.2.1⟩
  obtain⟨rfl,hsz⟩:=hfz;refine⟨_,fS vs' w c o 0 h1 (by rw[<-hv.1]; simp; omega) (np hv ho),kB h hk (by rw[hg]; rfl) ⟨?_,?_⟩⟩
  rw[cO];have:(aR c.toList (o+0) vs').toArray.size=c.size:=by simp[cO]
  exact h2.put this fun i hi=>by
   rw[O0,cJ,OJ (by rw[<-hv.1]; omega)]; simp
  intro i v hi;rw[cJ] at hi;have:(aR c.toList (o+0) vs').toArray[i]? = if o<=i/\i<o+vs'.length/\i<c.size then vs'[i-o]? else c[i]?:=by
   rw[O0,cJ]; simp
  rw[this]
  by_cases hc:o<=i/\i<o+vs.length/\i<cs.length
  rw[OM hc] at hi;rw[OM ⟨hc.1,hv.1▸hc.2.1,by omega⟩]
  exact hv.2 _ v hi
  rw[OJ hc] at hi;have hi':=(OX.1 hi).1;rw[OJ (by rw[<-hv.1]; omega)]
  exact h3 i v hi
end
section
variable{P:QS}{w:QT}
def qU{t:QQ}{i:TypeInfo}(h:P.info? t=some i)(w:QT):(typeInfo t).run P w=.ok i w:=by simp[typeInfo,h]
def cK{t:QQ}(h:known P t=true)(w:QT):(sizeOf t).run P w=.ok (aC P t) w:=by
 simp only[known,OD,Option.isSome_iff_exists] at h;obtain⟨_,i,hi⟩:=h;simp[sizeOf,qU hi,aC,Program.cellsOf,hi]
def nE{t:QQ}(h:known P t=true)(w:QT):(isAgg t).run P w=.ok (eu P t) w:=by
 simp only[known,OD,Option.isSome_iff_exists] at h;obtain⟨⟨d,hd⟩,_⟩:=h;simp only[isAgg,RX,RZ hd,RV,eu,hd];cases d<;>rfl
def iw{t:QQ}{z:QP}(h:cg P t=some z)(w:QT):(zeroValue t).run P w=.ok z w:=by
 unfold cg at h;cases hi:P.info? t with
 | none=>rw[hi] at h; cases h
 | some i =>
  rw[hi] at h;have hz:i.zero=some z:=h;simp[zeroValue,qU hi,hz]
def w7{t:QQ}{z:QP}(h:cg P t=some z):∃i,P.info? t=some i/\i.zero=some z:=by
 unfold cg at h;cases hi:P.info? t with
 | none=>rw[hi] at h; cases h
 | some i=>rw[hi] at h; exact⟨i,rfl,h⟩
def LR.extract{j:aT}{xs ys:RU QP}(h:LR j xs.toList ys.toList)(a b:Nat):LR j (xs.extract a b).toList (ys.extract a b).toList:=by
 simp only[Array.toList_extract];exact(h.drop a).take (b-a)
def nH{j:aT}{t:QQ}{cs cs':RU QP}{off:Nat}{v:QP}(h:eT P t cs off=some v)(hc:LR j cs.toList cs'.toList) :
  ∃v',(∀w,(part t cs' off).run P w=.ok v' w)/\VR j v v':=by
 unfold eT at h
 split at h
 cases h
 rename_i hk;have hk':known P t=true:=by simpa using hk
 split at h
 rename_i ha;cases h;refine⟨.agg (cs'.extract off (off+aC P t)),fun w=>?_,.z8 (hc.extract _ _)⟩;simp[part,nE hk',ha,cK hk']
 rename_i ha;have:cs.toList[off]? = some v:=by simpa using h
 obtain⟨v',h1,h2⟩:=hc.get this;refine⟨v',fun w=>?_,h2⟩;have h1':cs'[off]? = some v':=by simpa using h1
 have ha':eu P t=false:=by simpa using ha
 simp[part,nE hk',ha',h1']
def gH(d:Nat)(xs ys:RU QP):RR (QQ×Nat)->Sem Bool
 | []=>pure true
 |(t,off)::rest=>do
  let a <-part t xs off
  let b <-part t ys off
  let r <-Op.equalIn d t a b
  if(!r)=true then pure false else gH d xs ys rest
def ij (d : Nat) (xs ys : RU QP) : ∀ (fs : RR Field) (w : QT), fs.any (·.name == "_") = false ->
  (Op.eqFields d xs ys fs).run P w=(gH d xs ys (fs.map fun f=>(f.type,f.offset))).run P w
 | [],_,_=>rfl
 | f::fs,w,h=>by
  simp only[List.any_cons,Bool.or_eq_false_iff] at h;have hn : f.name ≠ "_" := by simpa using h.1
  simp only[Op.eqFields,OM hn,QH,gH,RX,Sem.run_ite]
  congr 1; funext a w1; congr 1; funext b w2; congr 1; funext r w3
  split
  rfl
  exact ij d xs ys fs w3 h.2
def run_equalIn_array(d:Nat)(t:QQ)(len:Nat)(elem:QQ)(xs ys:RU QP)(ht:P.underlying t=some (.array len elem))(he:known P elem=true)(w:QT) :
  (Op.equalIn (d+1) t (.agg xs) (.agg ys)).run P w=(gH d xs ys ((List.range len).map fun i=>(elem,i*aC P elem))).run P w:=by
 simp only[Op.equalIn,RX,RZ ht,RV,cK he];rw[Std.Legacy.Range.forIn_eq_forIn_range'];simp only[Std.Legacy.Range.size,Qv,Nat.add_sub_cancel,Nat.div_one];rw[<-List.range_eq_range'];generalize List.range len=is
 induction is generalizing w with
 | nil=>simp[gH]
 | cons i is ih =>
  simp only[List.forIn_cons,QH,gH,RX,Sem.run_ite];generalize(part elem xs (i*aC P elem)).run P w=r1;cases r1 with
  | ok a w1 =>
   simp only[RV];generalize(part elem ys (i*aC P elem)).run P w1=r2;cases r2 with
   | ok b w2 =>
    simp only[RV];generalize(Op.equalIn d elem a b).run P w2=r3;cases r3 with
    | ok r w3 =>
     cases r
     simp only[RV,PC,if_true,RY]
     simp only[RV,OS,OT,if_false,RY];exact ih w3
    | halt x w3=>simp[Result.andThen]
   | halt x w2=>simp[Result.andThen]
  | halt x w1=>simp[Result.andThen]
def lr{j:aT}{d:Nat}(ih:∀{t:QQ} {x y x' y':QP} {b:Bool},kV P d t x y=some b->VR j x x'->VR j y y'->∀w,(Op.equalIn d t x' y').run P w=.ok b w)
  {xs ys xs' ys':RU QP} (hx:LR j xs.toList xs'.toList) (hy:LR j ys.toList ys'.toList) :
  ∀(l:RR (QQ×Nat)) {b:Bool},hB (kV P d) P xs ys l=some b->∀w,(gH d xs' ys' l).run P w=.ok b w
 | [],b,h,w=>by cases h; rfl
 | (t,off)::rest,b,h,w=>by
  simp only[hB] at h
  split at h
  ·rename_i x y h1 h2;obtain⟨x',e1,r1⟩:=nH h1 hx;obtain⟨y',e2,r2⟩:=nH h2 hy;simp only[gH,RX,e1,e2,RV]
   split at h
   rename_i he;rw[ih he r1 r2 w];simp only[RV,OS,OT,if_false];exact lr ih hx hy rest h w
   ·rename_i hne;cases b with
    | true=>exact O6 h hne
    | false =>
     rw[ih h r1 r2 w];simp
  cases h
def jP{j:aT}:∀(d:Nat) {t:QQ} {x y x' y':QP} {b:Bool},kV P d t x y=some b->VR j x x'->VR j y y'->∀w,(Op.equalIn d t x' y').run P w=.ok b w
 | 0,_,_,_,_,_,_,h,_,_,_=>by cases h
 | d+1,t,x,y,x',y',b,h,hx,hy,w=>by
  unfold kV at h
  split at h
  rename_i ht; cases h; cases hx; cases hy; simp only[Op.equalIn,RX,RZ ht,RV,RY]
  rename_i ht
  split at h
  rename_i hk; cases h; cases hx; cases hy; simp only[Op.equalIn,RX,RZ ht,RV,RY,OM hk]
  cases h
  rename_i ht; cases h; cases hx; cases hy; simp only[Op.equalIn,RX,RZ ht,RV,RY]
  rename_i ht; cases h; cases hx; cases hy<;>simp only[Op.equalIn,RX,RZ ht,RV,RY]<;>rfl
  rename_i ht; cases h; cases hx; cases hy; simp only[Op.equalIn,RX,RZ ht,RV,RY]
  rename_i ht; cases h; cases hx; cases hy<;>simp only[Op.equalIn,RX,RZ ht,RV,RY]<;>rfl
  rename_i ht; cases h; cases hy; cases hx<;>simp only[Op.equalIn,RX,RZ ht,RV,RY]
  rename_i ht; cases h; cases hx; cases hy<;>simp only[Op.equalIn,RX,RZ ht,RV,RY]<;>rfl
  rename_i ht; cases h; cases hy; cases hx<;>simp only[Op.equalIn,RX,RZ ht,RV,RY]
  rename_i ht; cases h; cases hx; cases hy; simp only[Op.equalIn,RX,RZ ht,RV,RY]
  rename_i ht; cases h; cases hx; cases hy<;>simp only[Op.equalIn,RX,RZ ht,RV,RY]
  rename_i ht; cases h; cases hy; cases hx<;>simp only[Op.equalIn,RX,RZ ht,RV,RY]
  ·rename_i fs xs ys ht
   split at h
   cases h
   ·rename_i hs;simp only[PN,not_or,Bool.not_eq_true] at hs;cases hx with
    | agg h1 h2 =>
    cases hy with
    | agg h3 h4 =>
    have hf:P.fieldsOf t=fs:=by simp[Program.fieldsOf,ht]
    rw[run_equalIn_struct _ d t _ _ (by rw[hf]; exact ht) hs.1,hf,ij _ _ _ _ _ (by simpa using hs.2)]
    exact lr (fun a b c w=>jP d a b c w) (LR.eW h1 h2) (LR.eW h3 h4) _ h w
  ·rename_i len elem xs ys ht
   split at h
   ·rename_i hk;cases hx with
    | agg h1 h2 =>
    cases hy with
    | agg h3 h4 =>
    rw[run_equalIn_array d t len elem _ _ ht hk];exact lr (fun a b c w=>jP d a b c w) (LR.eW h1 h2) (LR.eW h3 h4) _ h w
   cases h
  cases h
end
def mB(P:QS)(s:Sem QP)(v:QP):Prop:=∀w,s.run P w=.ok v w
section
variable{P:QS}{j:aT}
def eg(op:BinOp)(t:QQ)(x y:QR){a b:QP}(h1:∀xs ys,a=.agg xs->b=.agg ys->False)(h2:a≠.nilIface)(w:QT) :
  (eqGuard op t x y a b).run P w=.ok () w:=by
 unfold eqGuard;cases op<;>simp only[PC,OS,if_true,OT,if_false,RY]<;>
  (split
   exact O6 rfl h2
   exact(h1 _ _ rfl rfl).elim
   rfl)
def me:QP->Bool
 | .bool _|.pointer _|.slice _ _ _|.map _|.func _ _ _|.nilFunc=>true
 | _=>false
def binOp_eql{t:QQ}{x y:QP}(h:me x=true):binOp .eql t x y=(do pure (.bool (<-Op.equal t x y))):=by
 cases x<;>first |(simp[me] at h; done) |(cases y<;>rfl)
def binOp_neq{t:QQ}{x y:QP}(h:me x=true):binOp .neq t x y=(do pure (.bool (!(<-Op.equal t x y)))):=by
 cases x<;>first |(simp[me] at h; done) |(cases y<;>rfl)
def Iq {op:BinOp} {t:QQ} {x y x' y' v:QP} (h:bS op t P x y=some v) (hx:VR j x x') (hy:VR j y y') (ox oy:QR) :
  ∃v',mB P (do eqGuard op t ox oy x' y'; binOp op t x' y') v'/\VR j v v':=by
 unfold bS at h
 split at h
 case h_1 =>
  cases hx; cases hy
  split at h
  cases h
  rename_i hb;cases h;refine⟨_,fun w=>?_,.int _ _⟩;rw[RX,eg _ _ _ _ (by intro _ _ e; cases e) (by intro e; cases e)]
  simp only[RV,binOp,Op.shift,OJ hb,RY]
 case h_2 =>
  cases hx; cases hy
  split at h
  cases h
  rename_i hb;cases h;refine⟨_,fun w=>?_,.int _ _⟩;rw[RX,eg _ _ _ _ (by intro _ _ e; cases e) (by intro e; cases e)]
  simp only[RV,binOp,Op.shift,OJ hb,RY]
 case h_12 =>
  cases hx; cases hy
  split at h
  rename_i hk
  split at h
  cases h
  rename_i hb;cases h;refine⟨_,fun w=>?_,.int _ _⟩;rw[RX,eg _ _ _ _ (by intro _ _ e; cases e) (by intro e; cases e)]
  simp only[RV,binOp,hk,ne_eq,not_true_eq_false,if_false,Op.intDiv,OJ hb,RY]
  cases h
 case h_13 =>
  cases hx; cases hy
  split at h
  rename_i hk
  split at h
  cases h
  rename_i hb;cases h;refine⟨_,fun w=>?_,.int _ _⟩;rw[RX,eg _ _ _ _ (by intro _ _ e; cases e) (by intro e; cases e)]
  simp only[RV,binOp,hk,ne_eq,not_true_eq_false,if_false,Op.intDiv,OJ hb,RY]
  cases h
 case h_18 =>
  cases h; cases hx; cases hy;refine⟨_,fun w=>?_,.bool _⟩;rw[RX,eg _ _ _ _ (by intro _ _ e; cases e) (by intro e; cases e)]
  simp only[RV,binOp,Op.stringOp,RY,beq_toListBytes]
 case h_19 =>
  cases h; cases hx; cases hy;refine⟨_,fun w=>?_,.bool _⟩;rw[RX,eg _ _ _ _ (by intro _ _ e; cases e) (by intro e; cases e)]
  simp only[RV,binOp,Op.stringOp,RY,bne,beq_toListBytes]
 case h_20=>cases h
 case h_21 =>
  cases hx with
  | agg h1 h2 =>
  cases hy with
  | agg h3 h4 =>
  split at h
  cases h
  ·rename_i hg;cases he:kV P Op.maxDepth t (.agg _) (.agg _) with
   | none=>rw[he] at h; cases h
   | some b =>
    rw[he] at h; cases h;refine⟨_,fun w=>?_,.bool _⟩;have:=jP (P:=P) Op.maxDepth he (.agg h1 h2) (.agg h3 h4) w;have hg':P.eqGuardType P.depth t=false:=by simpa using hg
    rw[RX,run_eqGuard_agg w _ _ _ _ _ _ hg'];simp only[RV,binOp,Op.equal,RX,this,RY]
 case h_22 =>
  cases hx with
  | agg h1 h2 =>
  cases hy with
  | agg h3 h4 =>
  split at h
  cases h
  ·rename_i hg;cases he:kV P Op.maxDepth t (.agg _) (.agg _) with
   | none=>rw[he] at h; cases h
   | some b =>
    rw[he] at h; cases h;refine⟨_,fun w=>?_,.bool _⟩;have:=jP (P:=P) Op.maxDepth he (.agg h1 h2) (.agg h3 h4) w;have hg':P.eqGuardType P.depth t=false:=by simpa using hg
    rw[RX,run_eqGuard_agg w _ _ _ _ _ _ hg'];simp only[RV,binOp,Op.equal,RX,this,RY]
 case h_23 =>
  have key:me x'=true/\∃b,kV P Op.maxDepth t x y=some b/\v=.bool b:=by
   split at h<;>first
    |(cases h; done)
    | (refine⟨?_,?_⟩
       cases hx<;>rfl
       ·cases he:kV P Op.maxDepth t _ y with
        | none=>rw[he] at h; cases h
        | some b=>rw[he] at h; cases h; exact⟨b,rfl,rfl⟩)
  obtain⟨hs,b,he,rfl⟩:=key;refine⟨_,fun w=>?_,.bool b⟩;rw[RX,eg _ _ _ _ (by intro _ _ e; subst e; cases hs) (by intro e; subst e; cases hs),RV,binOp_eql hs]
  simp only[Op.equal,RX,jP _ he hx hy,RV,RY]
 case h_24 =>
  have key:me x'=true/\∃b,kV P Op.maxDepth t x y=some b/\v=.bool (!b):=by
   split at h<;>first
    |(cases h; done)
    | (refine⟨?_,?_⟩
       cases hx<;>rfl
       ·cases he:kV P Op.maxDepth t _ y with
        | none=>rw[he] at h; cases h
        | some b=>rw[he] at h; cases h; exact⟨b,rfl,rfl⟩)
  obtain⟨hs,b,he,rfl⟩:=key;refine⟨_,fun w=>?_,.bool (!b)⟩;rw[RX,eg _ _ _ _ (by intro _ _ e; subst e; cases hs) (by intro e; subst e; cases hs),RV,binOp_neq hs]
  simp only[Op.equal,RX,jP _ he hx hy,RV,RY]
 case h_25=>cases h
 all_goals
  cases hx; cases hy
  split at h
  rename_i hk;cases h;refine⟨_,fun w=>?_,(by first|exact .bool _|exact .int _ _)⟩
  rw[RX,eg _ _ _ _ (by intro _ _ e; cases e) (by intro e; cases e)]
  simp only[RV,binOp,hk,ne_eq,not_true_eq_false,if_false,Op.intArith,Op.intBits,Op.intCmp,RY]
  cases h
def LI{op:UnOp}{x x' v:QP}(h:Al op x=some v)(hx:VR j x x'):∃v',mB P (Op.unary op x') v'/\VR j v v':=by
 unfold Al at h
 split at h
 cases h; cases hx; exact⟨_,fun w=>rfl,.int _ _⟩
 cases h; cases hx; exact⟨_,fun w=>rfl,.int _ _⟩
 cases h; cases hx; exact⟨_,fun w=>rfl,.bool _⟩
 cases h
def FN{s d:QQ}{x x' v:QP}(h:fF P s d x=some v)(hx:VR j x x'):∃v',mB P (convert s d x') v'/\VR j v v':=by
 unfold fF at h
 split at h
 rename_i e1 e2;cases h; cases hx;refine⟨_,fun w=>?_,.int _ _⟩;simp only[convert,RX,RZ e1,RZ e2,RV,Conv.intToInt,RY]
 rename_i e1 e2;cases h; cases hx;refine⟨_,fun w=>?_,.string _⟩;simp only[convert,RX,RZ e1,RZ e2,RV]
 rfl
 cases h
end
section
variable{P:QS}{j:aT}
def DL{v:QP}(h:mA v=true):v.cells.toList=[v]:=by
 cases v<;>first|rfl |(simp[mA] at h)
def gG{v v':QP}(h:VR j v v'):LR j v.cells.toList v'.cells.toList:=by
 cases h with
 | junk h=>rw[DL (tS h)]; exact LR.cons (.junk h) (.nil j)
 | agg h1 h2=>exact LR.eW h1 h2
 | bool b=>exact LR.cons (.bool b) (.nil j)
 | int k n=>exact LR.cons (.int k n) (.nil j)
 | string s=>exact LR.cons (.string s) (.nil j)
 | pnil=>exact LR.cons .pnil (.nil j)
 | ptr h=>exact LR.cons (.ptr h) (.nil j)
 | snil l c=>exact LR.cons (.snil l c) (.nil j)
 | slice h hm=>exact LR.cons (.slice h hm) (.nil j)
 | sliceM h hm h1 h2 hl hc=>exact LR.cons (.sliceM h hm h1 h2 hl hc) (.nil j)
 | gL=>exact LR.cons .gL (.nil j)
 | dry=>exact LR.cons .dry (.nil j)
 | mnil=>exact LR.cons .mnil (.nil j)
 | map h=>exact LR.cons (.map h) (.nil j)
 | func h1 h2 h3 h4=>exact LR.cons (.func h1 h2 h3 h4) (.nil j)
 | yield h h1 h2=>exact LR.cons (.yield h h1 h2) (.nil j)
 | nilFunc=>exact LR.cons .nilFunc (.nil j)
 | nilIface=>exact LR.cons .nilIface (.nil j)
 | tuple h1 h2=>exact LR.cons (.tuple h1 h2) (.nil j)
def LR.Kf{cs cs' vs vs':RR QP}(h:LR j cs cs')(hv:LR j vs vs')(o:Nat):LR j (aR cs o vs) (aR cs' o vs') :=
 ⟨by rw[cO,cO,h.1],fun i v hi=>by
  rw[cJ] at hi ⊢;rw[<-hv.1,<-h.1]
  split at hi
  rename_i hc; rw[OM hc]; exact hv.2 _ v hi
  rename_i hc; rw[OJ hc]; exact h.2 _ v hi⟩
def nD(off:Nat):∀(l:RR QP) (k:Nat) (cs:RU QP),off+k+l.length<=cs.size ->
  (l.zipIdx k).foldl (fun(cs:RU QP) (x:QP×Nat)=>cs.setIfInBounds (off+x.2) x.1) cs=(aR cs.toList (off+k) l).toArray
 | [],k,cs,_=>by simp[fx]
 | v::l,k,cs,h=>by
  have h':off+k+(l.length+1)<=cs.size:=by simpa using h
  simp only[List.zipIdx_cons,List.foldl_cons];rw[nD off l (k+1) _ (by simp; omega),fY _ _ _ _ (by simp; omega)]
  simp[QB]
def nX{place:Nat->RI (Nat×Nat)}:∀{ps:RR (Nat×QP)} {ps':RR (Nat×QP)} {cells cells' r:RR QP},ps.map (·.1)=ps'.map (·.1)->LR j (ps.map (·.2)) (ps'.map (·.2)) ->
  LR j cells cells'->gT place cells ps=some r->∃r',Instr.fill place cells'.toArray ps'=some r'.toArray/\LR j r r'
 | [],ps',cells,cells',r,h1,_,hc,h=>by
  cases ps' with
  | nil=>cases h; exact⟨cells',rfl,hc⟩
  | cons _ _=>simp at h1
 | (i,v)::rest,ps',cells,cells',r,h1,h2,hc,h=>by
  cases ps' with
  | nil=>simp at h1
  | cons p rest' =>
   obtain⟨i',v'⟩:=p;simp only[QH,List.cons.injEq] at h1;obtain⟨rfl,h1⟩:=h1;have hv:=h2.head;have hrest:=h2.tail;simp only[gT] at h
   split at h
   cases h
   rename_i off size hp
   split at h
   cases h
   rename_i hcond;have hcells:=gG hv;have hsz:v.cells.size=v'.cells.size:=by simpa using hcells.1
   have hlen:cells.length=cells'.length:=hc.1;have hcond':¬((v'.cells.size≠size||off+v'.cells.size>cells'.toArray.size)=true):=by
    rw[<-hsz]; simpa [<-hlen] using hcond
   simp only[Instr.fill,hp,OJ hcond'];have hle:off+0+v'.cells.toList.length<=cells'.toArray.size:=by
    simp only[PN,not_or,O5] at hcond';simp; have:=hcond'.2; simp at this; omega
   have hfold:=nD off v'.cells.toList 0 cells'.toArray hle;have hz:v'.cells.zipIdx.foldl (fun cs x=>cs.setIfInBounds (off+x.2) x.1) cells'.toArray=(aR cells' off v'.cells.toList).toArray:=by
    rw[<-Array.foldl_toList,Array.toList_zipIdx];exact hfold
   rw[show(v'.cells.zipIdx.foldl (fun cs (x:QP×Nat)=>match x with |(c,j)=>cs.setIfInBounds (off+j) c) cells'.toArray)=(aR cells' off v'.cells.toList).toArray from hz]
   exact nX h1 hrest (hc.Kf hcells off) h
def uF:∀(l:RR Field) (w:QT),l.all (fun f=>known P f.type)=true ->
  (l.mapM fun(f:Field)=>(do pure (f.offset,<-sizeOf f.type):Sem (Nat×Nat))).run P w=.ok (l.map fun f=>(f.offset,aC P f.type)) w
 | [],w,_=>rfl
 | f::l,w,h=>by
  simp only[PI,OD] at h;simp only[List.mapM_cons,RX,cK h.1,RV,RY,uF l w h.2,QH]
def GH(fields:RU Field)(h:fields.toList.all (fun f=>known P f.type)=true)(w:QT) :
  (fields.mapM fun(f:Field)=>(do pure (f.offset,<-sizeOf f.type):Sem (Nat×Nat))).run P w=.ok (fields.map fun f=>(f.offset,aC P f.type)) w:=by
 obtain⟨l⟩:=fields;simp only[List.mapM_toArray,Sem.run_map,List.map_toArray];rw[uF l w h]; rfl
def CN{t:QQ}{ps ps':RR (Nat×QP)}{v:QP}(h:j9 P t ps=some v)(h1:ps.map (·.1)=ps'.map (·.1))(h2:LR j (ps.map (·.2)) (ps'.map (·.2)))
  {z:QP} (hz:cg P t=some z) (hp:bO z=true):∃v',mB P (Instr.build t ps'.toArray) v'/\VR j v v':=by
 have hzc:LR j z.cells.toList z.cells.toList:=gG (VR.bO hp);unfold j9 at h;rw[hz] at h
 split at h
 ·rename_i z0 fields hz0 hu;cases hz0
  split at h
  ·rename_i hall;cases hf:gT (fun i=>(fields[i]?).map fun f=>(f.offset,aC P f.type)) z.cells.toList ps with
   | none=>rw[hf] at h; cases h
   | some r =>
    rw[hf] at h; cases h;obtain⟨r',h3,h4⟩:=nX h1 h2 hzc hf;refine⟨.agg r'.toArray,fun w=>?_,.z8 (by simpa using h4)⟩
    have hpl:(fun(i:Nat)=>(fields.map fun(f:Field)=>(f.offset,aC P f.type))[i]?)=fun i=>(fields[i]?).map fun(f:Field)=>(f.offset,aC P f.type):=by
     funext i; simp
    simp only[Instr.build,RX,iw hz,RZ hu,RV,GH fields hall,hpl];have h3':Instr.fill _ z.cells ps'=some r'.toArray:=h3;rw[h3']; rfl
  cases h
 ·rename_i z0 n elem hz0 hu;cases hz0
  split at h
  ·rename_i hk;cases hf:gT (fun i=>some (i*aC P elem,aC P elem)) z.cells.toList ps with
   | none=>rw[hf] at h; cases h
   | some r =>
    rw[hf] at h; cases h;obtain⟨r',h3,h4⟩:=nX h1 h2 hzc hf;refine⟨.agg r'.toArray,fun w=>?_,.z8 (by simpa using h4)⟩
    simp only[Instr.build,RX,iw hz,RZ hu,RV,cK hk];have h3':Instr.fill _ z.cells ps'=some r'.toArray:=h3;rw[h3']; rfl
  cases h
 cases h
def ia{x x':QP}{y l:Nat}(h:jS x y=some l)(hx:VR j x x'){y':Nat}(hy:y<=y')(code:BoundsCode)(w:QT) :
  (Instr.sliceBound x' y' code).run P w=.ok l w/\l<=y:=by
 unfold jS at h
 split at h
 rename_i k i
 split at h
 rename_i hc;cases h;cases hx;refine⟨?_,by omega⟩
 simp only[Instr.sliceBound,asIntOf,RX,RY,RV];rw[OM ⟨hc.1,by omega⟩]; rfl
 cases h
 cases h
def gE(mx:RI QP)(c m:Nat):Nat:=match mx with|none=>c|some _=>m
inductive OVR(j:aT):RI QP->RI QP->Prop
 | none:OVR j none none
 | some {v v':QP} (h:VR j v v'):OVR j (some v) (some v')
def im{len cap:Nat}{lo hi mx:RI QP}{l h m:Nat}(e:eM len cap lo hi mx=some (l,h,m)):l<=h/\m<=cap/\(hi.isSome=true->h<=m)/\(hi=none->h=len/\mx=none)/\(mx=none->m=cap):=by
 have hb:∀(x:QP) (y l:Nat),jS x y=some l->l<=y:=by
  intro x y l h;unfold jS at h
  split at h
  split at h
  rename_i hc; cases h; omega
  cases h
  cases h
 unfold eM at e
 split at e
 cases e
 ·rename_i m' hm
  split at e
  cases e
  ·rename_i h' hh
   split at e
   cases e
   ·rename_i l' hl;cases e;have h1:m<=cap:=by
     cases mx with
     | none=>simp at hm; omega
     | some v=>exact hb _ _ _ hm
    have h2:hi.isSome=true->h<=m:=by
     cases hi with
     | none=>intro e; cases e
     | some v=>intro _; cases mx<;>exact hb _ _ _ hh
    have h3:hi=none->h=len/\mx=none:=by
     intro e; subst e;cases mx with
     | none=>simp at hh; exact⟨hh.symm,rfl⟩
     | some v=>simp at hh
    have h4:l<=h:=by
     cases lo with
     | none=>simp at hl; omega
     | some v=>exact hb _ _ _ hl
    have h5:mx=none->m=cap:=by intro e; subst e; simpa using hm.symm
    exact⟨h4,h1,h2,h3,h5⟩
def eD {len cap cap':Nat} {lo hi mx lo' hi' mx':RI QP} {l h m:Nat} (e:eM len cap lo hi mx=some (l,h,m)) (h1:OVR j lo lo') (h2:OVR j hi hi') (h3:OVR j mx mx') (hc:cap<=cap') (b:Bool) (w:QT) :
  (Instr.sliceBounds b len cap' lo' hi' mx').run P w=.ok (l,h,gE mx cap' m) w:=by
 unfold eM at e
 split at e
 cases e
 ·rename_i m' hm
  split at e
  cases e
  ·rename_i h' hh
   split at e
   cases e
   ·rename_i l' hl;cases e;cases h3 with
    | none =>
     have hm':cap=m:=by simpa using hm
     subst hm';cases h2 with
     | none =>
      have hh':len=h:=by simpa using hh
      subst hh';cases h1 with
      | none =>
       have:0=l:=by simpa using hl
       subst this;simp only[gE,Instr.sliceBounds,RX,RY,RV]
      | some r1 =>
       have:=(ia (P:=P) (by simpa using hl) r1 (OF _) .sliceB w).1
       simp only[gE,Instr.sliceBounds,RX,RY,RV,Option.isSome_none,OT,if_false,this]
     | some r2 =>
      have e2:=ia (P:=P) (by simpa using hh) r2 hc (if b then .sliceAcap else .sliceAlen) w
      cases h1 with
      | none =>
       have:0=l:=by simpa using hl
       subst this;simp only[gE,Instr.sliceBounds,RX,RY,RV,e2.1]
      | some r1 =>
       have:=(ia (P:=P) (by simpa using hl) r1 (OF _) .sliceB w).1
       simp only[gE,Instr.sliceBounds,RX,RY,RV,Option.isSome_none,OT,if_false,e2.1,this]
    | some r3 =>
     have e3:=ia (P:=P) (by simpa using hm) r3 hc (if b then .slice3Acap else .slice3Alen) w
     cases h2 with
     | none=>simp at hh
     | some r2 =>
      have e2:=(ia (P:=P) (by simpa using hh) r2 (OF _) .slice3B w).1
      cases h1 with
      | none =>
       have:0=l:=by simpa using hl
       subst this;simp only[gE,Instr.sliceBounds,RX,RY,RV,e2,e3.1]
      | some r1 =>
       have:=(ia (P:=P) (by simpa using hl) r1 (OF _) .slice3C w).1
       simp only[gE,Instr.sliceBounds,RX,RY,RV,Option.isSome_some,if_true,e2,e3.1,this]
def eQ(c o i:Nat):(⟨c,o,none⟩:Addr).add i=⟨c,o+i,none⟩:=by
 unfold Addr.add
 split
 rename_i e; subst e; rfl
 rfl
def MR.kindOf{E:Env}{m:RN}{w:QT}(h:MR E j m w){b:Nat}{k:Blk}(hk:j b=some k){cs:RR QP}{tag:Tag}(hg:m.get b=some (.cells cs tag)) :
  match tag with
  | .more sz=>∃nc,k.more=some (sz,cs.length,nc)/\0<sz
  | _=>k.more=none:=by
 obtain⟨o',h1,h2⟩:=h.obj b _ k hg hk;cases o' with
 | cells c e fz =>
  have:=h2.1;cases tag with
  | ro=>exact this.1
  | own=>exact this.1
  | more sz=>exact⟨_,this.1,this.2.2.2.1⟩
 | _=>exact h2.elim
def Dm {E:Env} {m:RN} {w:QT} (h:MR E j m w) {t:QQ} {x x' v:QP} {lo hi mx lo' hi' mx':RI QP} (e:cU E.P t x lo hi mx m=some v) (hx:VR j x x') (h1:OVR j lo lo') (h2:OVR j hi hi') (h3:OVR j mx mx') :
  ∃v',mB E.P (Instr.sliceAt t x' lo' hi' mx') v'/\VR j v v':=by
 unfold cU at e
 split at e
 ·
  rename_i elem len cap hu
  split at e
  ·rename_i hk
   split at e
   ·rename_i l hh mm hb;cases e; cases hx;refine⟨_,fun w=>?_,.snil _ _⟩;have:=eD (P:=E.P) (cap':=cap) hb h1 h2 h3 (OF _) true w;have hm:gE mx cap mm=mm:=by
     cases mx with
     | none=>exact((im hb).2.2.2.2 rfl).symm
     | some _=>rfl
    rw[hm] at this;simp only[Instr.sliceAt,Instr.slice,RX,RZ hu,RV,this,cK hk,RY]
    split<;>rfl
   cases e
  cases e
 ·rename_i elem b o len cap hu
  split at e
  ·rename_i hk
   split at e
   ·rename_i cs sz hg
    split at e
    cases e
    ·rename_i hsz;have hsz:sz=aC E.P elem:=Decidable.of_not_not hsz;cases hx with
     | slice hj hm =>
      have:=h.kindOf hj hg;simp only at this;obtain⟨nc,hmm,_⟩:=this;rw[hm] at hmm; cases hmm
     | sliceM hj hm e1 e2 hl hc =>
      rename_i cap' sz' na nc k;have hkd:=h.kindOf hj hg;simp only at hkd;obtain⟨nc',hmm,hpos⟩:=hkd;rw[hm] at hmm; cases hmm;cases h3 with
      | none =>
       simp only at e
       split at e
       ·rename_i l hh mm hb;have hbl:=im hb;have hrun:=fun w=>eD (P:=E.P) (cap':=cap') hb h1 h2 .none hc true w;have hlc:l<=cap:=by
         cases hi with
         | none=>have:=hbl.2.2.2.1 rfl; omega
         | some _=>have:=hbl.2.2.1 rfl; omega
        split at e
        ·rename_i hcl;cases e;refine⟨_,fun w=>?_,.gL (a':=if cap'=l then⟨k.c,o,none⟩ else⟨k.c,o+l*aC E.P elem,none⟩) (cap':=cap'-l)⟩
         have hhl:hh-l=0:=by
          cases hi with
          | none=>have:=hbl.2.2.2.1 rfl; omega
          | some _=>have:=hbl.2.2.1 rfl; omega
         simp only[Instr.sliceAt,Instr.slice,RX,RZ hu,RV,hrun,cK hk,RY,hhl,gE]
         split
         rfl
         rw[OI,eQ]
        ·rename_i hcl;cases e;refine⟨.slice (some ⟨k.c,o+l*aC E.P elem,none⟩) (hh-l) (cap'-l),fun w=>?_,.sliceM hj hm ?_ ?_ ?_ ?_⟩
         have:¬cap'=l:=by omega
         simp only[Instr.sliceAt,Instr.slice,RX,RZ hu,RV,hrun,cK hk,RY,OJ this,OI,eQ,gE]
         subst hsz; rw[<-e1,Nat.sub_mul]; have:l*aC E.P elem<=cap*aC E.P elem:=Ph _ hlc; omega
         subst hsz; rw[<-e2,Nat.sub_mul]; have:l*aC E.P elem<=cap'*aC E.P elem:=Ph _ (by omega); omega
         ·cases hi with
          | none=>have:=hbl.2.2.2.1 rfl; omega
          | some _=>have:=hbl.2.2.1 rfl; omega
         omega
       cases e
      | some r3 =>
       simp only at e
       split at e
       rename_i l hh mm hb
       split at e
       rename_i hcond;cases e;have hrun:=fun w=>eD (P:=E.P) (cap':=cap') hb h1 h2 (.some r3) hc true w;refine⟨_,fun w=>?_,.dry (a':=⟨k.c,o,none⟩)⟩;simp only[Instr.sliceAt,Instr.slice,RX,RZ hu,RV,hrun,cK hk,RY,hcond.2,hcond.1,Qa,gE];simp
       cases e;have hrun:=fun w=>eD (P:=E.P) (cap':=cap') hb h1 h2 (.some r3) hc true w;refine⟨.slice (some (if mm=l then⟨k.c,o,none⟩ else⟨k.c,o+l*aC E.P elem,none⟩)) (hh-l) (mm-l),fun w=>?_,.junk rfl⟩
       simp only[Instr.sliceAt,Instr.slice,RX,RZ hu,RV,hrun,cK hk,RY,gE]
       split
       rfl
       rw[OI,eQ]
       cases e
   ·rename_i cs tag hnm hg
    split at e
    ·rename_i l hh mm hb;cases e;cases hx with
     | slice hj hm =>
      rename_i k;have hrun:=fun w=>eD (P:=E.P) (cap':=cap) hb h1 h2 h3 (OF _) true w;have hmm:gE mx cap mm=mm:=by
       cases mx with
       | none=>exact((im hb).2.2.2.2 rfl).symm
       | some _=>rfl
      rw[hmm] at hrun;refine⟨.slice (some (if mm=l then⟨k.c,o,none⟩ else⟨k.c,o+l*aC E.P elem,none⟩)) (hh-l) (mm-l),fun w=>?_,?_⟩
      simp only[Instr.sliceAt,Instr.slice,RX,RZ hu,RV,hrun,cK hk,RY]
      split
      rename_i hc; simp only[OM hc]
      rename_i hc; simp only[OI,eQ]
      split
      exact .slice hj hm
      exact .slice hj hm
     | sliceM hj hm e1 e2 hl hc =>
      have hkd:=h.kindOf hj hg;cases tag with
      | more sz=>exact O6 rfl (hnm sz)
      | ro=>simp only at hkd; rw[hm] at hkd; cases hkd
      | own=>simp only at hkd; rw[hm] at hkd; cases hkd
    cases e
   cases e
  cases e
 ·
  rename_i elem b o sp hu
  split at e
  ·rename_i hk
   split at e
   ·rename_i r hb;obtain⟨l,hh,mm⟩:=r;cases e;have hbl:=im hb;have hl0:l=0/\hh=0:=by
     cases hi with
     | none=>have:=hbl.2.2.2.1 rfl; omega
     | some _=>have:=hbl.2.2.1 rfl; omega
    cases hx with
    | gL =>
     rename_i a' cap';have hrun:=fun w=>eD (P:=E.P) (cap':=cap') hb h1 h2 h3 (P6 _) true w;refine⟨_,fun w=>?_,.gL (a':=a') (cap':=gE mx cap' mm)⟩;simp only[Instr.sliceAt,Instr.slice,RX,RZ hu,RV,hrun,cK hk,RY,hl0.1,hl0.2,Qa,Qi,Qv,OI];simp[Addr.add]
    | dry =>
     rename_i a';have hrun:=fun w=>eD (P:=E.P) (cap':=0) hb h1 h2 h3 (P6 _) true w;have hmm:gE mx 0 mm=0:=by
      cases mx with
      | none=>rfl
      | some _=>have:=hbl.2.1; simp[gE]; omega
     rw[hmm] at hrun;refine⟨_,fun w=>?_,.dry (a':=a')⟩;simp only[Instr.sliceAt,Instr.slice,RX,RZ hu,RV,hrun,cK hk,RY,hl0.1,hl0.2,Qa,Qi,OI];simp
   cases e
  cases e
 ·
  rename_i n elem b o hu
  split at e
  ·rename_i hk
   split at e
   cases e
   ·rename_i cs tag hnm hg
    split at e
    ·rename_i l hh mm hb;cases e;cases hx with
     | ptr hj =>
      rename_i k;have hrun:=fun w=>eD (P:=E.P) (cap':=n) hb h1 h2 h3 (OF _) false w;have hmm:gE mx n mm=mm:=by
       cases mx with
       | none=>exact((im hb).2.2.2.2 rfl).symm
       | some _=>rfl
      rw[hmm] at hrun;have hkd:=h.kindOf hj hg;have hm:k.more=none:=by
       cases tag with
       | more sz=>exact O6 rfl (hnm sz)
       | ro=>exact hkd
       | own=>exact hkd
      refine⟨.slice (some (if mm=l then⟨k.c,o,none⟩ else⟨k.c,o+l*aC E.P elem,none⟩)) (hh-l) (mm-l),fun w=>?_,?_⟩
      simp only[Instr.sliceAt,Instr.sureAddr,RX,RZ hu,RV,hrun,cK hk,RY]
      split
      rename_i hc; simp only[OM hc]
      rename_i hc; simp only[eQ]
      split
      exact .slice hj hm
      exact .slice hj hm
    cases e
   cases e
  cases e
 cases e
def tq{t:QQ}{x x' v:QP}{f:Nat}(e:bh P t x f=some v)(hx:VR j x x'):∃v',mB P (Instr.fieldAt t x' f) v'/\VR j v v':=by
 unfold bh at e
 split at e
 ·rename_i fields b o hu
  split at e
  ·rename_i fl hf
   split at e
   ·rename_i hk;simp only[OD,bne_iff_ne,ne_eq] at hk;cases e;cases hx with
    | ptr hj =>
    rename_i k;refine⟨_,fun w=>?_,.ptr hj⟩;simp only[Instr.fieldAt,RX,RZ hu,RV,hf,Instr.sureAddr,RY,fieldPlace,cK hk.1,OJ hk.2,eQ]
   cases e
  cases e
 cases e
def Gy{t:QQ}{x x' v:QP}(e:BS P t x=some v)(hx:VR j x x'):∃v',mB P (Instr.arrayAt t x') v'/\VR j v v':=by
 unfold BS at e
 split at e
 ·rename_i n el b o len cap hu
  split at e
  ·rename_i hc;cases e;have hn:¬len<n:=by omega
   cases hx with
   | slice hj hm=>exact⟨_,fun w=>by simp only[Instr.arrayAt,RX,RZ hu,RV,OJ hn,RY],.ptr hj⟩
   | sliceM hj hm h1 h2 hl hc2=>exact⟨_,fun w=>by simp only[Instr.arrayAt,RX,RZ hu,RV,OJ hn,RY],.ptr hj⟩
  cases e
 cases e
def tj{t:QQ}{x x' y y' v:QP}(e:bV P t x y=some v)(hx:VR j x x')(hy:VR j y y'):∃v',mB P (Instr.indexAt t x' y') v'/\VR j v v':=by
 unfold bV at e
 split at e
 ·rename_i len elem b o k i hu
  split at e
  ·rename_i hc;simp only[OD,O5] at hc;cases e;cases hy;cases hx with
   | ptr hj =>
   refine⟨_,fun w=>?_,.ptr hj⟩;simp only[Instr.indexAt,asIntOf,RX,RZ hu,RV,Instr.sureAddr,RY,cK hc.1,OM hc.2,eQ]
  cases e
 ·rename_i elem b o len cap k i hu
  split at e
  ·rename_i hc;simp only[OD,O5] at hc;cases e;cases hy;cases hx with
   | slice hj hm =>
    refine⟨_,fun w=>?_,.ptr hj⟩;simp only[Instr.indexAt,asIntOf,RX,RZ hu,RV,RY,cK hc.1,OM hc.2,eQ]
   | sliceM hj hm e1 e2 hl hcap =>
    refine⟨_,fun w=>?_,.ptr hj⟩;simp only[Instr.indexAt,asIntOf,RX,RZ hu,RV,RY,cK hc.1,OM hc.2,eQ]
  cases e
 cases e
def DX{t:QQ}{x x' y y' v:QP}(e:gj P t x y=some v)(hx:VR j x x')(hy:VR j y y'):∃v',mB P (Instr.index t x' y') v'/\VR j v v':=by
 unfold gj at e
 split at e
 ·rename_i len elem cs k i hu
  split at e
  ·rename_i hc;cases hy;cases hx with
   | agg h1 h2 =>
   have hk:known P elem=true:=by
    unfold eT at e
    split at e
    cases e
    rename_i hk; simpa using hk
   obtain⟨v',h3,h4⟩:=nH e (LR.eW h1 h2);refine⟨v',fun w=>?_,h4⟩;simp only[Instr.index,asIntOf,RX,RZ hu,RV,RY,OM hc,cK hk,h3]
  cases e
 ·rename_i s k i hu
  split at e
  ·rename_i hc;cases hy; cases hx;cases hs:s[i.toNat]? with
   | none=>rw[hs] at e; cases e
   | some b =>
    rw[hs] at e; cases e;refine⟨_,fun w=>?_,.int _ _⟩;simp only[Instr.index,asIntOf,RX,RZ hu,RV,RY,OM hc,hs]
  cases e
 cases e
def DB{t:QQ}{x x' v:QP}{f:Nat}(e:eX P t x f=some v)(hx:VR j x x'):∃v',mB P (Instr.field t x' f) v'/\VR j v v':=by
 unfold eX at e
 split at e
 ·rename_i fields cs hu
  split at e
  ·rename_i fl hf;cases hx with
   | agg h1 h2 =>
   obtain⟨v',h3,h4⟩:=nH e (LR.eW h1 h2);refine⟨v',fun w=>?_,h4⟩;simp only[Instr.field,RX,RZ hu,RV,hf,asAgg,RY,h3]
  cases e
 cases e
def yp{E:Env}{m:RN}{w:QT}(h:MR E j m w){t:QQ}{x x' v:QP}(e:dO E.P t x m=some v)(hx:VR j x x') :
  ∃v',(Instr.loadAt t x').run E.P w=.ok v' w/\VR j v v':=by
 unfold dO at e
 split at e
 ·rename_i b o
  split at e
  cases e
  ·rename_i hk;have hk':known E.P t=true:=by simpa using hk
   cases hx with
   | ptr hj =>
   rename_i k
   split at e
   ·rename_i ha;cases hl:m.dP b o (aC E.P t) with
    | none=>rw[hl] at e; cases e
    | some vs =>
     rw[hl] at e; cases e;obtain⟨vs',h1,h2⟩:=h.dP hj hl;refine⟨.agg vs'.toArray,?_,.z8 (by simpa using h2)⟩
     simp only[Instr.loadAt,Instr.sureAddr,RX,RY,RV,loadVar,nE hk',ha,if_true,cK hk',h1 w rfl]
   rename_i ha;have ha':eu E.P t=false:=by simpa using ha
   split at e
   rename_i cs tag hg;obtain⟨v',h1,h2⟩:=h.cell hj hg e;refine⟨v',?_,h2⟩;simp only[Instr.loadAt,Instr.sureAddr,RX,RY,RV,loadVar,nE hk',ha',OT,if_false,run_load,h1]
   cases e
 cases e
end
section
variable{E:Env}{j:aT}{m:RN}{w:QT}
def OR.own{c:Nat}{cs:RR QP}{c':RU QP}{elem:QQ}(h:LR j cs c'.toList):OR j ⟨c,none⟩ (.cells cs .own) (.cells c' elem) :=
 ⟨⟨rfl,by simpa using h.1.symm,rfl⟩,fun i v hi=>by
  obtain⟨v',a,b⟩:=h.get hi;exact⟨v',by simpa using a,b⟩⟩
def k8{zero:RU QP}:∀(n:Nat),((Array.range (n*zero.size)).map fun i=>zero[i%zero.size]!).toList=cC zero.toList n:=by
 intro n
 by_cases hz:zero.size=0
 ·have:zero=#[]:=Qr hz;subst this;have:∀n,cC ([]:RR QP) n=[]:=by
   intro n
   induction n with
   | zero=>rfl
   | succ n ih=>simpa [cC] using ih
  simp[this]
 ·have hpos:0<zero.size:=OW hz;have hlen:∀n,(cC zero.toList n).length=n*zero.size:=by
   intro n
   induction n with
   | zero=>simp[cC]
   | succ n ih=>simp[cC,ih,Qn,Nat.add_comm]
  have hget:∀n i,i<n*zero.size->(cC zero.toList n)[i]? = zero[i%zero.size]?:=by
   intro n
   induction n with
   | zero=>intro i hi; simp at hi
   | succ n ih =>
    intro i hi;simp only[cC]
    by_cases hlt:i<zero.size
    rw[Pj (by simpa using hlt),O4 hlt]; simp
    have hge:zero.size<=i:=by omega
    rw[O2 (by simpa using hge)]
    have:=ih (i-zero.size) (by rw[Qn] at hi; omega)
    simp only[Qt];rw[this,<-Nat.mod_eq_sub_mod hge]
  apply Qg;intro i
  by_cases hi:i<n*zero.size
  rw[hget n i hi];have hlt:i%zero.size<zero.size:=Pw _ hpos;simp[hi,hlt]
  rw[Pp (by simp; omega),Pp (by rw[hlen]; omega)]
def iV{P:QS}{elem:QQ}{n:Nat}{zs:RR QP}(h:fH P elem n=some zs):∃z,cg P elem=some z/\z.cells.size=aC P elem/\zs=cC z.cells.toList n:=by
 unfold fH at h
 split at h
 rename_i z hz
 split at h
 rename_i hs; cases h; exact⟨z,hz,hs,rfl⟩
 cases h
 cases h
def fG(l:RR QP)(n:Nat):(cC l n).length=n*l.length:=by
 induction n with
 | zero=>simp[cC]
 | succ n ih=>simp[cC,ih,Qn,Nat.add_comm]
def CU(h:MR E j m w){t:QQ}{x x' v v':QP}{m':RN}(e:fk E.P t x v m=some m')(hx:VR j x x')(hv:VR j v v') :
  ∃w',(Instr.storeAt t x' v').run E.P w=.ok () w'/\Sim E j m w j m' w':=by
 unfold fk at e
 split at e
 ·rename_i b o
  split at e
  ·rename_i hc;simp only[OD,beq_iff_eq] at hc;obtain⟨⟨hk,hs⟩,ho⟩:=hc;cases hx with
   | ptr hj =>
   have hvc:=gG hv;obtain⟨w',h1,h2⟩:=iJ h hj hvc ho e;refine⟨w',?_,h2⟩;have hs':v'.cells.size=aC E.P t:=by have:=hvc.1; simp at this; omega
   have hne:¬v'.cells.size≠aC E.P t:=by simp[hs']
   simp only[Instr.storeAt,Instr.sureAddr,RX,RY,RV,storeVar,cK hk,OJ hne,h1]
  cases e
 cases e
def eL{v v':QP}(hp:aX v=true)(h:VR j v v'):v'=v:=by
 cases h<;>first|rfl |(simp[aX] at hp)
def pg:∀{l l':RR QP},l.all aX=true->LR j l l'->l'=l
 | [],_,_,h=>h.dz
 | v::l,l',hp,h=>by
  obtain⟨y,ys,rfl,h1,h2⟩:=h.cons_inv;simp only[PI,OD] at hp;rw[eL hp.1 h1,pg hp.2 h2]
def ic{v v':QP}(hp:bO v=true)(h:VR j v v'):v'=v:=by
 cases h with
 | agg h1 h2 =>
  have:=pg (by simpa [bO] using hp) (LR.eW h1 h2)
  exact PX Value.agg (Pq.1 this)
 | tuple h1 h2 =>
  have:=pg (by simpa [bO] using hp) (LR.eW h1 h2)
  exact PX Value.tuple (Pq.1 this)
 | func h1 h2 h3 h4=>simp[bO,aX] at hp
 | yield h h1 h2=>simp[bO,aX] at hp
 | _=>first|rfl |(simp[bO,aX] at hp)
def gO{P:QS}{kt:QQ}{k:QP}(h:iW P kt k=true):bO k=true:=by
 unfold iW at h
 split at h
 rfl
 rfl
 rfl
 simp only[OD] at h; exact h.2
 simp only[OD] at h; exact h.2
 cases h
def checkKind{P:QS}{t:QQ}(ht:gw P t=true)(n:Nat)(v:QP)(b:Bool)(w:QT):(Instr.checkKey b (n+1) t v).run P w=.ok () w:=by
 unfold gw at ht;simp only[Instr.checkKey,RX];cases hu:P.underlying t with
 | none=>rw[hu] at ht; cases ht
 | some d =>
  rw[hu] at ht;simp only[RZ hu,RV];cases d<;>first |(simp at ht; done)|rfl
def lF{P:QS}{α:Type}(f:α->Sem RS)(w:QT):∀(l:RR α),(∀x∈l,(f x).run P w=.ok () w) ->
  (forIn l PUnit.unit (fun x _=>do f x; pure (ForInStep.yield PUnit.unit)):Sem PUnit).run P w=.ok PUnit.unit w
 | [],_=>rfl
 | x::l,h=>by
  simp only[List.forIn_cons,RX,h x (by simp),RV,RY]
  exact lF f w l fun y hy=>h y (by simp[hy])
def As{P:QS}{t:QQ}(h:gw P t=true):eu P t=false:=by
 unfold gw at h;unfold eu;cases hu:P.underlying t with
 | none=>rfl
 | some d=>rw[hu] at h; cases d<;>first|rfl |(simp at h)
def uc{P:QS}{t:QQ}(h:gw P t=true)(hk:known P t=true){cs:RU QP}{o:Nat}(ho:o<cs.size)(w:QT):(part t cs o).run P w=.ok cs[o] w:=by
 simp[part,nE hk,As h,ho]
def dU{P:QS}{kt:QQ}{k:QP}(h:iW P kt k=true)(b:Bool)(w:QT):(Instr.checkKey b 10000 kt k).run P w=.ok () w:=by
 unfold iW at h
 split at h
 rename_i hu; exact checkKind (by simp[gw,hu]) 9999 _ b w
 rename_i hu; exact checkKind (by simp[gw,hu]) 9999 _ b w
 rename_i hu; exact checkKind (by simp[gw,hu]) 9999 _ b w
 rename_i len elem cs hu;simp only[OD,beq_iff_eq] at h;obtain⟨⟨⟨⟨hek,hkn⟩,hsz⟩,hlen⟩,_⟩:=h;have key:∀n,(Instr.checkKey b (n+1+1) kt (.agg cs)).run P w=.ok () w:=by
  intro n;unfold Instr.checkKey;simp only[RX,RZ hu,RV];rw[Std.Legacy.Range.forIn_eq_forIn_range'];simp only[Std.Legacy.Range.size,Qv,Nat.add_sub_cancel,Nat.div_one];have:=lF (P:=P) (fun i=>do Instr.checkKey b (n+1) elem (<-part elem cs (i*(<-sizeOf elem)))) w (List.range' 0 len) (fun x hx=>by
   have hlt:x<cs.size:=by rw[List.mem_range'] at hx; obtain⟨i,h1,h2⟩:=hx; omega
   simp only[RX,cK hkn,hsz,Qf,uc hek hkn hlt,RV];exact checkKind hek n _ b w)
  simp only[bind_assoc] at this;rw[this]; rfl
 exact key 9998
 ·rename_i fs cs hu;simp only[OD] at h;have key:∀n,(Instr.checkKey b (n+1+1) kt (.agg cs)).run P w=.ok () w:=by
   intro n;unfold Instr.checkKey;simp only[RX,RZ hu,RV];rw[<-Array.forIn_toList];have hall:=h.1;generalize fs.toList=l at hall;clear hu
   induction l with
   | nil=>rfl
   | cons f l ih =>
    simp only[PI,OD,O5] at hall;obtain⟨⟨⟨h1,h2⟩,h3⟩,h4⟩:=hall;have ih':=ih (by simpa [OD] using h4)
    simp only[List.forIn_cons,RX,Sem.run_ite]
    split
    simp only[uc h1 h2 h3,RV,checkKind h1 n _ b w,RY];exact ih'
    simp only[RY,RV];exact ih'
  exact key 9998
 cases h
inductive FR(j:aT):RI (Nat×QP)->RI (Nat×QP)->Prop
 | none:FR j none none
 | some {i:Nat} {v v':QP} (h:VR j v v'):FR j (some (i,v)) (some (i,v'))
def mM{P:QS}{kt:QQ}{k k':QP}(hk:VR j k k'):∀{es:RR (QP×QP)} {es':RR MapEntry} {i:Nat} {r:RI (Nat×QP)},iT P kt k es i=some r->ER j es es' ->
  ∃r',(∀w,(Instr.findAsking kt k' es' i).run P w=.ok r' w)/\FR j r r'
 | [],[],i,r,h,_=>by cases h; exact⟨_,fun w=>rfl,.none⟩
 | e::es,f::fs,i,r,h,he=>by
  simp only[iT] at h
  split at h
  rename_i hq;cases h;refine⟨some (i,f.val),fun w=>?_,.some he.2.1⟩;simp only[Instr.findAsking,RX,Op.equal,jP _ hq hk he.1,RV,if_true,RY]
  rename_i hq;obtain⟨r',h1,h2⟩:=mM hk h he.2.2;refine⟨r',fun w=>?_,h2⟩;simp only[Instr.findAsking,RX,Op.equal,jP _ hq hk he.1,RV,OT,if_false,h1]
  cases h
 | [],_::_,_,_,_,he=>he.elim
 | _::_,[],_,_,_,he=>he.elim
def sO{P:QS}{kt:QQ}{d:TypeDesc}{k k' x x':QP}{b b':Bool}(hu:P.underlying kt=some d)(hk:VR j k k')(hx:VR j x x')(h:Instr.sameNow d k' x'=some b')(he:kV P Op.maxDepth kt k x=some b):b=b':=by
 have:=jP (P:=P) Op.maxDepth he hk hx default;rw[show Op.maxDepth=9999+1 from rfl] at this
 unfold Instr.sameNow at h
 split at h
 rename_i k0 k1 a k2 c
 split at h
 rename_i hkk;subst hkk;cases h;rw[run_equalIn_int _ 9999 kt _ _ a c hu] at this;injection this with h1 _; exact h1.symm
 cases h
 cases h;rw[run_equalIn_string _ 9999 kt _ _ hu,<-beq_toListBytes] at this;injection this with h1 _; exact h1.symm
 cases h;rw[run_equalIn_bool' _ 9999 kt _ _ hu] at this;injection this with h1 _; exact h1.symm
 cases h
def q7{P:QS}{kt:QQ}{d:TypeDesc}{k k':QP}(hu:P.underlying kt=some d)(hk:VR j k k'):∀{es:RR (QP×QP)} {es':RR MapEntry} {i:Nat} {r r':RI (Nat×QP)},iT P kt k es i=some r->ER j es es' ->
  Instr.findNow d k' es' i=some r'->FR j r r'
 | [],[],i,r,r',h,_,h'=>by cases h; cases h'; exact .none
 | e::es,f::fs,i,r,r',h,he,h'=>by
  simp only[iT] at h;simp only[Instr.findNow] at h'
  split at h'
  rename_i hs;cases h'
  split at h
  cases h; exact .some he.2.1
  rename_i hq; cases sO hu hk he.1 hs hq
  cases h
  rename_i hs
  split at h
  rename_i hq; cases sO hu hk he.1 hs hq
  exact q7 hu hk h he.2.2 h'
  cases h
  cases h'
 | [],_::_,_,_,_,_,he,_=>he.elim
 | _::_,[],_,_,_,_,he,_=>he.elim
def ga{P:QS}{kt:QQ}{d:TypeDesc}{k k':QP}(hu:P.underlying kt=some d)(hk:VR j k k'){es:RR (QP×QP)}{es':RR MapEntry}{r:RI (Nat×QP)}(h:iT P kt k es 0=some r)(he:ER j es es') :
  ∃r',(∀w,(Instr.findKey kt k' es').run P w=.ok r' w)/\FR j r r':=by
 cases hn:Instr.findNow d k' es' 0 with
 | some r' =>
  refine⟨r',fun w=>?_,q7 hu hk h he hn⟩;simp only[Instr.findKey,RX,RZ hu,RV,hn,RY]
 | none =>
  obtain⟨r',h1,h2⟩:=mM hk h he;refine⟨r',fun w=>?_,h2⟩;simp only[Instr.findKey,RX,RZ hu,RV,hn,h1]
def kP{P:QS}{kt:QQ}{k:QP}(h:iW P kt k=true):∃d,P.underlying kt=some d:=by
 unfold iW at h;cases hu:P.underlying kt with
 | some d=>exact⟨d,rfl⟩
 | none=>rw[hu] at h; simp at h
def MR.BU(h:MR E j m w){b:Nat}{k:Blk}(hk:j b=some k){es:RR (QP×QP)}(hg:m.get b=some (.map es)):∃es' clock,w.heap[k.c]? = some (.map es' clock)/\ER j es es'.toList:=by
 obtain⟨o',h1,h2⟩:=h.obj b _ k hg hk;cases o' with
 | map es' clock=>exact⟨es',clock,h1,h2.1⟩
 | _=>exact h2.elim
def MR.Au(h:MR E j m w){b:Nat}{k:Blk}(hk:j b=some k){es:RR (QP×QP)}(hg:m.get b=some (.map es)){es':RU MapEntry}{clock:Nat}(hw:w.heap[k.c]? = some (.map es' clock)):G2 es' clock:=by
 obtain⟨o',h1,h2⟩:=h.obj b _ k hg hk;rw[hw] at h1;cases h1;exact h2.2
def run_getObj_map{P:QS}{w:QT}{r:Nat}{es:RU MapEntry}{c:Nat}(h:w.heap[r]? = some (.map es c)):(getObj r).run P w=.ok (.map es c) w:=by simp[getObj,Sem.run,h]
def run_setObj_map{P:QS}{w:QT}{r:Nat}{es:RU MapEntry}{c:Nat}(o:Obj)(h:w.heap[r]? = some (.map es c)):(setObj r o).run P w=.ok () (w.putObj r o):=by simp[setObj,Sem.run,h,World.putObj]
def Am (h:MR E j m w) {t:QQ} {x x' y y' v:QP} {ok:Bool} (e:dY E.P t x y ok m=some v) (hx:VR j x x') (hy:VR j y y') :
  ∃v',(Instr.lookup t x' y' ok).run E.P w=.ok v' w/\VR j v v':=by
 unfold dY at e
 split at e
 ·rename_i key elem hu
  split at e
  ·rename_i es z hes hz
   split at e
   ·rename_i hko;obtain⟨d,hd⟩:=kP hko;have hy':y'=y:=ic (gO hko) hy;subst hy';have hmap:∃es':RU MapEntry,ER j es es'.toList/\((x'=.map none/\es'=#[])\/∃r c,x'=.map (some r)/\w.heap[r]? = some (.map es' c)):=by
     unfold mapOf at hes
     split at hes
     cases hes; cases hx;exact⟨#[],trivial,.inl ⟨rfl,rfl⟩⟩
     ·rename_i r
      split at hes
      ·rename_i es0 hg;cases hes;cases hx with
       | map hj =>
       obtain⟨es',clock,h1,h2⟩:=h.BU hj hg;exact⟨es',h2,.inr ⟨_,_,rfl,h1⟩⟩
      cases hes
     cases hes
    obtain⟨es',hes',hsh⟩:=hmap
    split at e
    ·rename_i i v0 hf;cases e;obtain⟨r',h1,h2⟩:=ga hd hy hf hes';cases h2 with
     | some hv =>
     rename_i v0';refine⟨if ok then .tuple #[v0',.bool true] else v0',?_,?_⟩
     rcases hsh with⟨rfl,rfl⟩|⟨r,c,rfl,h5⟩
     simp only[Instr.lookup,RX,RZ hu,RV,RY,dU hko,h1]
     simp only[Instr.lookup,RX,RZ hu,RV,run_getObj_map h5,RY,dU hko,h1]
     ·cases ok with
      | true=>exact .tuple' (by exact LR.cons hv (LR.cons (.bool true) (.nil j)))
      | false=>exact hv
    ·rename_i hf
     split at e
     ·rename_i hpz;cases e;obtain⟨r',h1,h2⟩:=ga hd hy hf hes';cases h2;refine⟨if ok then .tuple #[z,.bool false] else z,?_,?_⟩
      rcases hsh with⟨rfl,rfl⟩|⟨r,c,rfl,h5⟩
      simp only[Instr.lookup,RX,RZ hu,RV,RY,dU hko,h1,iw hz]
      simp only[Instr.lookup,RX,RZ hu,RV,run_getObj_map h5,RY,dU hko,h1,iw hz]
      ·cases ok with
       | true=>exact .tuple' (by exact LR.cons (VR.bO hpz) (LR.cons (.bool false) (.nil j)))
       | false=>exact VR.bO hpz
     cases e
    cases e
   cases e
  cases e
 cases e
def ER.get:∀{es:RR (QP×QP)} {fs:RR MapEntry} {i:Nat} {e:QP×QP},ER j es fs->es[i]? = some e->∃f,fs[i]? = some f/\VR j e.1 f.key/\VR j e.2 f.val
 | [],[],_,_,_,h=>by simp at h
 | x::es,f::fs,0,e,h,hi=>by simp at hi; subst hi; exact⟨f,rfl,h.1,h.2.1⟩
 | x::es,f::fs,i+1,e,h,hi=>by simpa using ER.get h.2.2 (by simpa using hi)
 | [],_::_,_,_,h,_=>h.elim
 | _::_,[],_,_,h,_=>h.elim
def ER.sx:∀{es:RR (QP×QP)} {fs:RR MapEntry} {e:QP×QP} {f:MapEntry},ER j es fs->VR j e.1 f.key->VR j e.2 f.val->ER j (es++[e]) (fs++[f])
 | [],[],_,_,_,h1,h2=>⟨h1,h2,trivial⟩
 | _::_,_::_,_,_,h,h1,h2=>⟨h.1,h.2.1,ER.sx h.2.2 h1 h2⟩
 | [],_::_,_,_,h,_,_=>h.elim
 | _::_,[],_,_,h,_,_=>h.elim
def ER.put:∀{es:RR (QP×QP)} {fs:RR MapEntry} {i:Nat} {k k' v v':QP},ER j es fs->i<es.length->VR j k k'->VR j v v'->ER j (mU es i k v) (fs.modify i fun e=>{ e with key:=k',val:=v'})
 | x::es,f::fs,0,_,_,_,_,h,_,h1,h2=>⟨h1,h2,h.2.2⟩
 | x::es,f::fs,i+1,_,_,_,_,h,hi,h1,h2=>⟨h.1,h.2.1,ER.put h.2.2 (by simpa using hi) h1 h2⟩
 | [],_,_,_,_,_,_,_,hi,_,_=>by simp at hi
 | _::_,[],_,_,_,_,_,h,_,_,_=>h.elim
def ER.erase:∀{es:RR (QP×QP)} {fs:RR MapEntry} (i:Nat),ER j es fs->ER j (es.eraseIdx i) (fs.eraseIdx i)
 | [],[],_,_=>trivial
 | _::_,_::_,0,h=>h.2.2
 | _::_,_::_,i+1,h=>⟨h.1,h.2.1,ER.erase i h.2.2⟩
 | [],_::_,_,h=>h.elim
 | _::_,[],_,h=>h.elim
def mL (h:MR E j m w) {t:QQ} {x x' k k' v v':QP} {m':RN} (e:eF E.P t x k v m=some m') (hx:VR j x x') (hk:VR j k k') (hv:VR j v v') :
  ∃w',(Instr.mapUpdate t x' k' v').run E.P w=.ok () w'/\Sim E j m w j m' w':=by
 unfold eF at e
 split at e
 ·rename_i kt et r hu
  split at e
  ·rename_i es hg
   split at e
   ·rename_i hko;obtain⟨d,hd⟩:=kP hko;have hk':k'=k:=ic (gO hko) hk;cases hx with
    | map hj =>
    rename_i kb;obtain⟨es',clock,h1,h2⟩:=h.BU hj hg
    split at e
    ·rename_i i v0 hf
     split at e
     ·rename_i hsame;cases e;unfold nI at hsame
      split at hsame
      ·rename_i e0 he0;simp only[OD] at hsame;obtain⟨r',h3,h4⟩:=ga hd hk hf h2;cases h4 with
       | some _ =>
       obtain⟨f0,g1,g2,g3⟩:=h2.get he0;have hf0:f0.key=e0.1:=ic hsame.1 g2;have hi:i<es.length:=(OX.1 he0).1;refine⟨_,?_,kB h hj (by rw[hg]; rfl) (co:=.map (es'.modify i fun e=>{ e with key:=k,val:=v'}) clock) ?_⟩
       have g1':es'[i]? = some f0:=by simpa using g1
       simp only[Instr.mapUpdate,RX,RZ hu,RV,run_getObj_map h1,hk',dU hko];rw[hk'] at h3;simp only[h3,RV,RX,g1',OI,Option.getD_some,hf0,Instr.keyThatStays,hsame.2,if_true,RY,run_setObj_map _ h1]
       refine⟨?_,AA (h.Au hj hg h1) i _ fun _=>rfl⟩
       show ER j (mU es i k v) (es'.modify i fun e=>{ e with key:=k,val:=v'}).toList
       rw[Array.toList_modify];exact h2.put hi (VR.bO (gO hko)) hv
      cases hsame
     cases e
    rename_i hf;cases e;obtain⟨r',h3,h4⟩:=ga hd hk hf h2;cases h4;refine⟨_,?_,kB h hj (by rw[hg]; rfl) (co:=.map (es'.push { key:=k,val:=v',born:=clock}) (clock+1)) ?_⟩
    simp only[Instr.mapUpdate,RX,RZ hu,RV,run_getObj_map h1,hk',dU hko];rw[hk'] at h3;simp only[h3,RV,run_setObj_map _ h1]
    refine⟨?_,FK (h.Au hj hg h1) k v'⟩
    show ER j (es++[(k,v)]) (es'.push { key:=k,val:=v',born:=clock}).toList
    rw[Array.toList_push];exact h2.sx (VR.bO (gO hko)) hv
    cases e
   cases e
  cases e
 cases e
def AQ(h:MR E j m w){t:QQ}{x x' k k':QP}{m':RN}(e:qB E.P t x k m=some m')(hx:VR j x x')(hk:VR j k k')(ts:RU QQ)(hts:ts[0]? = some t)(ty:QQ) :
  ∃w',(Builtin.delete_ ts ty #[x',k']).run E.P w=.ok (.tuple #[]) w'/\Sim E j m w j m' w':=by
 unfold qB at e
 split at e
 ·rename_i kt et r hu
  split at e
  ·rename_i es hg
   split at e
   ·rename_i hko;obtain⟨d,hd⟩:=kP hko;have hk':k'=k:=ic (gO hko) hk;cases hx with
    | map hj =>
    rename_i kb;obtain⟨es',clock,h1,h2⟩:=h.BU hj hg
    split at e
    ·rename_i i v0 hf;cases e;obtain⟨r',h3,h4⟩:=ga hd hk hf h2;cases h4 with
     | some _ =>
     refine⟨_,?_,kB h hj (by rw[hg]; rfl) (co:=.map (es'.eraseIdxIfInBounds i) clock) ?_⟩
     simp only[Builtin.delete_,hts,O0,OZ,Pn,RX,RZ hu,RV,run_getObj_map h1,hk',dU hko];rw[hk'] at h3;simp only[h3,RV,RX,run_setObj_map _ h1,RY]
     refine⟨?_,Db (h.Au hj hg h1) i⟩
     show ER j (es.eraseIdx i) (es'.eraseIdxIfInBounds i).toList
     rw[Array.toList_eraseIdxIfInBounds];exact h2.erase i
    rename_i hf;cases e;obtain⟨r',h3,h4⟩:=ga hd hk hf h2;cases h4;refine⟨w,?_,.refl h⟩;simp only[Builtin.delete_,hts,O0,OZ,Pn,RX,RZ hu,RV,run_getObj_map h1,hk',dU hko];rw[hk'] at h3;simp only[h3,RV,RX,run_setObj_map _ h1,RY,pQ h1]
    cases e
   cases e
  cases e
 cases e
end
def tQ(n:Nat):∀(r c:Nat),Builtin.growBy n r c<=max c (n+(n+768)/4)
 | 0,c=>by simp only[Builtin.growBy]; omega
 | r+1,c=>by
  simp only[Builtin.growBy]
  split
  omega
  have:=tQ n r (c+(c+768)/4);omega
def nextslicecap_le{need cap:Nat}(h:cap<need):Builtin.nextslicecap need cap<=2*need+2000:=by
 unfold Builtin.nextslicecap
 split
 omega
 split
 omega
 have:=tQ need 4 cap;omega
section
variable{E:Env}{j:aT}{m:RN}{w:QT}
def appendCore(elem:QQ)(size:Nat)(base:QN)(sLen sCap n:Nat)(zeros:Bool)(s x:QP)(appended:Sem (RU QP)):Sem QP:=do
 let need:=sLen+n
 if need<=sCap then
  let new <-appended
  if let some a:=base then storeCells (a.add (sLen*size)) new.toList
  pure (.slice base need sCap)
 else
  if (need : Int) > IntKind.i64.max /\ (zeros \/ (<- typeInfo elem).bytes = 0) then runtimePanic (.error "growslice: len out of range")
  if Builtin.nextslicecap need sCap * (<- typeInfo elem).bytes > 2 ^ 48 then (if zeros then runtimePanic (.error "growslice: len out of range") else do
   if !(<-Builtin.mayShare size sLen n base x) then mark .noRoom
   unsupported (.resourceLimit "append: a slice or a string whose bytes no memory bears"))
  let newCap <-choose (.appendCap need sCap elem)
  askRoom (newCap*(<-typeInfo elem).bytes)
  let old <-Builtin.firstCells size sLen s
  let new <-appended
  let rest:=Builtin.zeroCells (<-zeroValue elem).cells (newCap-need)
  pure (.slice (some (<-newRow elem (old++new++rest))) need newCap)
def jj{P:QS}{elem:QQ}{size sLen sCap n:Nat}{zeros:Bool}{s x:QP}{a:Addr}{app:Sem (RU QP)}{new:RR QP}{w w':QT}
  (happ:app.run P w=.ok new.toArray w) (hfit:sLen+n<=sCap) (hst:(storeCells (a.add (sLen*size)) new).run P w=.ok () w') :
  (appendCore elem size (some a) sLen sCap n zeros s x app).run P w=.ok (.slice (some a) (sLen+n) sCap) w':=by
 simp only[appendCore,OM hfit,RX,happ,RV,hst,RY]
def mI{l:RR QP}(h:l.all aX=true):∀n,(cC l n).all aX=true
 | 0=>rfl
 | n+1=>by simp only[cC,List.all_append,h,mI h n,PA]
def kk{P:QS}{elem:QQ}{size sLen sCap n:Nat}{zeros:Bool}{s x:QP}{base:QN}{app:Sem (RU QP)}{new old:RR QP}{w:QT}{i:TypeInfo}{z:QP}
  (happ:∀w0:QT,w0.heap=w.heap->app.run P w0=.ok new.toArray w0) (hold:∀w0:QT,w0.heap=w.heap->(Builtin.firstCells size sLen s).run P w0=.ok old.toArray w0) (hgrow:¬sLen+n<=sCap)
  (hi:P.info? elem=some i) (hz:i.zero=some z) (hfit:gr i.bytes (sLen+n)=true) (hb:i.bytes≠0) (hzs:z.cells.size=size) (hzp:z.cells.toList.all aX=true) (ho:old.length=sLen*size) (hn:new.length=n*size) :
  ∃(cap:Nat) (rest:RR QP) (w0:QT),(w0.heap=w.heap/\Calm w w0)/\(sLen+n<=cap/\cap<=9223372036854775807)/\(old++new++rest).length=cap*size/\rest.all aX=true /\
   (appendCore elem size base sLen sCap n zeros s x app).run P w=.ok (.slice (some ⟨w.heap.size,0,none⟩) (sLen+n) cap) (w0.alloc (.cells (old++new++rest).toArray elem)):=by
 have hfit':(2*(sLen+n)+2000)*i.bytes<=2 ^ 48:=by simpa [gr] using hfit
 have h1:¬(((sLen+n:Nat):Int)>IntKind.i64.max/\(zeros=true\/i.bytes=0)):=by
  intro hc;have hbig:sLen+n<=2 ^ 48:=by
   have:1<=i.bytes:=Nat.one_le_iff_ne_zero.2 hb;have:(sLen+n)*1<=(2*(sLen+n)+2000)*i.bytes:=Pe (by omega) this
   omega
  have hmax:IntKind.i64.max=9223372036854775807:=by decide
  rw[hmax] at hc;omega
 have h2:¬Builtin.nextslicecap (sLen+n) sCap*i.bytes>2 ^ 48:=by
  have:=Ph i.bytes (nextslicecap_le (need:=sLen+n) (cap:=sCap) (by omega))
  omega
 have hzv:∀w0:QT,(zeroValue elem).run P w0=.ok z w0:=fun w0=>iw (by simp[cg,hi,hz]) w0
 obtain⟨cap,hcap⟩:∃cap,cap=(Question.appendCap (sLen+n) sCap elem).cut (w.tape w.drawn (.appendCap (sLen+n) sCap elem)):=⟨_,rfl⟩;have hle:sLen+n<=cap:=by rw[hcap]; simp[Question.cut]
 have hmx:cap<=9223372036854775807:=by
  have hbig:sLen+n<=2 ^ 48:=by
   have:1<=i.bytes:=Nat.one_le_iff_ne_zero.2 hb;have:(sLen+n)*1<=(2*(sLen+n)+2000)*i.bytes:=Pe (by omega) this
   omega
  rw[hcap]
  show sLen+n+_%(2 ^ 63-(sLen+n))<=_
  have:=Pw (w.tape w.drawn (.appendCap (sLen+n) sCap elem)) (show 0<2 ^ 63-(sLen+n) by omega)
  omega
 refine⟨cap,cC z.cells.toList (cap-(sLen+n)),w.drew,⟨rfl,rfl,rfl,rfl,Nat.le_succ _⟩,⟨hle,hmx⟩,?_,mI hzp _,?_⟩
 simp only[OU,fG,ho,hn,Qt,hzs];rw[<-Po,<-Po]
 congr 1; omega
 have hzc:Builtin.zeroCells z.cells (cap-(sLen+n))=(cC z.cells.toList (cap-(sLen+n))).toArray:=by
  rw[<-k8 (zero:=z.cells)]; rfl
 simp only[appendCore,OJ hgrow,RX,qU hi,RV,Sem.run_ite,OJ h1,OJ h2,RY,run_choose,Question.forced,OT,if_false,World.drew_eq,run_askRoom,
  hold w.drew rfl,happ w.drew rfl,hzv,<-hcap,hzc,newRow,run_newObj,World.alloc_eq]
 simp
def wP(h:MR E j m w){sz n:Nat}{x x':QP}{new:RR QP}(e:cD sz x n m=some new)(hx:VR j x x') :
  ∃new',(∀w0:QT,w0.heap=w.heap->(Builtin.firstCells sz n x').run E.P w0=.ok new'.toArray w0)/\LR j new new':=by
 unfold cD at e
 split at e
 split at e
 rename_i hn; subst hn; cases e; cases hx;exact⟨[],fun w0 _=>rfl,.nil j⟩
 cases e
 ·rename_i b o l c
  split at e
  rename_i hn; subst hn; cases e;refine⟨[],fun w0 _=>?_,.nil j⟩;cases hx<;>simp[Builtin.firstCells,loadCells,loadCellsFrom]
  ·have hgo:∀k:Blk,j b=some k->∃new',(∀w0:QT,w0.heap=w.heap->(loadCells ⟨k.c,o,none⟩ (n*sz)).run E.P w0=.ok new'.toArray w0)/\LR j new new':=by
    intro k hj;exact h.dP hj e
   cases hx with
   | slice hj hm=>exact hgo _ hj
   | sliceM hj hm e1 e2 hl hc=>exact hgo _ hj
 split at e
 rename_i hn; subst hn; cases e;refine⟨[],fun w0 _=>?_,.nil j⟩;cases hx<;>simp[Builtin.firstCells,loadCells,loadCellsFrom]
 cases e
 cases e
def va(h:MR E j m w){elem:QQ}{xt:RI QQ}{x x':QP}{n:Nat}{new:RR QP}(e:ir E.P elem xt x m=some (n,new))(hx:VR j x x')(hk:known E.P elem=true)
  {i:TypeInfo} (hi:E.P.info? elem=some i) (hbytes:n*i.bytes<=2 ^ 48) {sType:QQ} (hu:E.P.underlying sType=some (.slice elem)) {ts:RU QQ} (h0:ts[0]? = some sType) (h1:ts[1]? = xt) (ty:QQ) :
  ∃(new':RR QP) (zeros:Bool) (app:Sem (RU QP)),LR j new new'/\(∀w0:QT,w0.heap=w.heap->app.run E.P w0=.ok new'.toArray w0) /\
   ∀base sLen sCap,(Builtin.append_ ts ty #[.slice base sLen sCap,x']).run E.P w=(appendCore elem (aC E.P elem) base sLen sCap n zeros (.slice base sLen sCap) x' app).run E.P w:=by
 unfold ir at e
 split at e
 ·rename_i et a l c hxt;cases hs:cD (aC E.P elem) (.slice a l c) l m with
  | none=>rw[hs] at e; cases e
  | some cs =>
   rw[hs] at e; cases e;obtain⟨new',h2,h3⟩:=wP h hs hx;refine⟨new',false,Builtin.firstCells (aC E.P elem) n x',h3,h2,fun base sLen sCap=>?_⟩;have hlen:∀w0:QT,(Builtin.lenOf x').run E.P w0=.ok n w0:=by
    intro w0;cases hx<;>rfl
   obtain⟨xt',hxt',hu'⟩:∃xt',xt=some xt'/\E.P.underlying xt'=some (.slice et):=by
    cases xt with
    | none=>cases hxt
    | some xt'=>exact⟨xt',rfl,hxt⟩
   rw[hxt'] at h1;simp only[appendCore,Builtin.append_,h0,h1,O0,OZ,Pn,RX,RZ hu,RZ hu',RV,cK hk,RY,OT,if_false,hlen,PC,if_true]
   congr
 ·rename_i k l hxt
  split at e
  ·rename_i hl;cases hz:fH E.P elem l.toNat with
   | none=>rw[hz] at e; cases e
   | some zs =>
    rw[hz] at e;simp only[Pf] at e
    split at e
    ·rename_i hp;cases e;cases hx;obtain⟨z,hz1,hz2,hz3⟩:=iV hz;obtain⟨xt',k',hxt',hu'⟩:∃xt' k',xt=some xt'/\E.P.underlying xt'=some (.int k'):=by
      cases xt with
      | none=>cases hxt
      | some xt'=>exact⟨xt',_,rfl,hxt⟩
     have hwrap:IntKind.i64.wrap l=l:=IntWalk.i64_in l (by have:=hl.1; have:=hl.2; omega)
     have hlb:¬(l*i.bytes>2 ^ 48):=by
      have:((l.toNat*i.bytes:Nat):Int)<=2 ^ 48:=by exact_mod_cast hbytes
      have h3:((l.toNat:Nat):Int)=l:=Qo hl.1;rw[Qk,h3] at this;omega
     refine⟨new,true,if l.toNat*aC E.P elem=0 then pure #[] else do pure (Builtin.zeroCells (<-zeroValue elem).cells l.toNat),LR.plain hp,?_,fun base sLen sCap=>?_⟩
     intro w0 _;rw[Sem.run_ite]
     split
     rename_i h0;have:new=[]:=by
      apply PL;rw[hz3,fG,Qt,hz2,h0]
     rw[this]; rfl
     simp only[RX,iw hz1,RV,RY];rw[hz3,<-k8 (zero:=z.cells)]; rfl
     rw[hxt'] at h1;have hneg:¬l<0:=by have:=hl.1; omega
     simp only[appendCore,Builtin.append_,h0,h1,O0,OZ,Pn,RX,RZ hu,RZ hu',RV,cK hk,RY,if_true,asInt,asIntOf,hwrap,OJ hneg,qU hi,OJ hlb,OS,OT,if_false]
     congr
    cases e
  cases e
 cases e
def OR.more{c na nc sz:Nat}{cs:RR QP}{c':RU QP}{elem:QQ}(h1:cs.length=na)(h2:c'.size=nc)(h3:na<=nc)(hsz:0<sz)(hr:nr sz c')(h:∀(i:Nat) (v:QP),cs[i]? = some v->∃v',c'[i]? = some v'/\VR j v v') :
  OR j ⟨c,some (sz,na,nc)⟩ (.cells cs (.more sz)) (.cells c' elem) :=
 ⟨⟨by rw[h1,h2],by omega,rfl,hsz,hr⟩,h⟩
def je(h:MR E j m w){w0:QT}(hw3:w0.heap=w.heap/\Calm w w0){cs cs' rest:RR QP}{elem:QQ}{sz n cap:Nat}(hc:LR j cs cs')(hl:cs.length=n*sz)(hr:(cs'++rest).length=cap*sz)(hn:n<=cap)(hsz:0<sz)(hp:rest.all aX=true)(hmx:cap<=9223372036854775807) :
  ∃j',Sim E j m w j' (m.alloc (.cells cs (.more sz))) (w0.alloc (.cells (cs'++rest).toArray elem))/\VR j' (.slice (some ⟨m.next,0,none⟩) n n) (.slice (some ⟨w.heap.size,0,none⟩) n cap):=by
 have hw:=hw3.1;have h0:=h.of_heap hw;have hle:n*sz<=cap*sz:=Ph _ hn;have ho:OR j ⟨w0.heap.size,some (sz,n*sz,cap*sz)⟩ (.cells cs (.more sz)) (.cells (cs'++rest).toArray elem):=by
  refine OR.more hl (by simpa using hr) hle hsz (by unfold nr; rw[List.size_toArray,hr,ON]; exact PH _ hmx) fun i v hi=>?_
  obtain⟨v',a,b⟩:=hc.get hi;refine⟨v',?_,b⟩;rw[O0,Pj (OX.1 a).1];exact a
 have s:=lZ h0 ho;refine⟨_,(Sim.of_heap h hw hw3.2).trans h s,?_⟩;have:VR (j.set m.next ⟨w0.heap.size,some (sz,n*sz,cap*sz)⟩) (.slice (some ⟨m.next,0,none⟩) n n) (.slice (some ⟨w0.heap.size,0,none⟩) n cap) :=
  .sliceM (k:=⟨w0.heap.size,some (sz,n*sz,cap*sz)⟩) (aT.cA _ _ _) rfl rfl rfl (OF _) hn
 rw[hw] at this ⊢;exact this
def zW (h:MR E j m w) {t:QQ} {xt:RI QQ} {s s' x x' v:QP} {m':RN} (e:dN E.P t xt s x m=some (v,m')) (hs:VR j s s') (hx:VR j x x')
  {ts:RU QQ} (h5:ts[0]? = some t) (h1:ts[1]? = xt) (ty:QQ) :
  ∃j' w' v',(Builtin.append_ ts ty #[s',x']).run E.P w=.ok v' w'/\Sim E j m w j' m' w'/\VR j' v v':=by
 unfold dN at e
 split at e
 ·rename_i elem base len cap n new hu hnc;simp only[hu] at hnc;simp only at e
  split at e
  cases e
  ·rename_i hcond;simp only[PN,Pv,not_or,Bool.not_eq_false,beq_iff_eq,bne_iff_ne,ne_eq,Decidable.not_not,Option.any_eq_true] at hcond;obtain⟨⟨⟨⟨⟨hk,h6⟩,hone⟩,⟨i,hi,hfit⟩⟩,hlen⟩,⟨z,hz,hzs⟩⟩:=hcond;simp only[OD,bne_iff_ne,ne_eq] at hfit;obtain⟨hfit,hb⟩:=hfit;obtain⟨i',hi',hz'⟩:=w7 hz;rw[hi] at hi'; cases hi';simp only[OD,beq_iff_eq] at hzs;have hzs':z.cells.size=aC E.P elem:=hzs.1;have hzp:=hzs.2;have hsz:0<aC E.P elem:=OW h6;have hbytes:n*i.bytes<=2 ^ 48:=by
    have:(2*(len+n)+2000)*i.bytes<=2 ^ 48:=by simpa [gr] using hfit
    have:=Ph i.bytes (show n<=2*(len+n)+2000 by omega)
    omega
   obtain⟨new',zeros,app,hnew,happ,hrun⟩:=va h hnc hx hk hi hbytes hu h5 h1 ty;have hnl:new'.length=n*aC E.P elem:=by rw[<-hnew.1]; exact hlen
   split at e
   
   split at e
   cases e
   rename_i h4;have hlc:len=0/\cap=0:=by omega
   obtain⟨rfl,rfl⟩:=hlc;cases hs
   split at e
   rename_i hn; cases e;subst hn;refine⟨j,w,.slice none 0 0,?_,.refl h,.snil 0 0⟩;rw[hrun];simp only[appendCore,Py,OF,if_true,RX,happ w rfl,RV,RY]
   rename_i hn; cases e;obtain⟨cap',rest,w0,h0,⟨hle,hmx⟩,hlr,hrp,hr⟩:=kk (P:=E.P) (zeros:=zeros) (s:=.slice none 0 0) (x:=x') (base:=none) (sLen:=0) (sCap:=0) (old:=[]) happ (fun w0 _=>rfl) (by omega) hi hz' (by simpa using hfit) hb hzs' hzp (by simp) hnl
   obtain⟨j',s1,s2⟩:=je h h0 (elem:=elem) hnew hlen (by simpa using hlr) (by omega) hsz hrp hmx
   refine⟨j',_,_,by rw[hrun]; exact hr,by simpa using s1,by simpa using s2⟩
   ·rename_i b o
    split at e
    ·rename_i cs tag hg
     split at e
     ·
      rename_i hfits;cases hst:m.dB b (o+len*aC E.P elem) new with
      | none=>rw[hst] at e; cases e
      | some m1 =>
       rw[hst] at e; cases e;cases hs with
       | slice hj hm =>
        obtain⟨w',g1,g0⟩:=iJ h hj hnew hone hst;refine⟨j,w',_,?_,g0,.slice hj hm⟩;rw[hrun];exact jj (happ w rfl) hfits (by rw[lR]; exact g1)
       | sliceM hj hm e1 e2 hl hc =>
        obtain⟨w',g1,g0⟩:=iJ h hj hnew hone hst;refine⟨j,w',_,?_,g0,.sliceM hj hm e1 e2 hfits hc⟩;rw[hrun];exact jj (happ w rfl) (by omega) (by rw[lR]; exact g1)
     ·rename_i hno;have hexact:∀k:Blk,j b=some k->k.more=none->∀old,m.dP b o (len*aC E.P elem)=some old->v=.slice (some ⟨m.next,0,none⟩) (len+n) (len+n)->m'=m.alloc (.cells (old++new) (.more (aC E.P elem))) ->
        ∃j' w' v',(Builtin.append_ ts ty #[.slice (some ⟨k.c,o,none⟩) len cap,x']).run E.P w=.ok v' w'/\Sim E j m w j' m' w'/\VR j' v v':=by
       intro k hj hm old hold ev em;obtain⟨old',g1,g0⟩:=h.dP hj hold;have hol:old.length=len*aC E.P elem:=(rV hold).choose_spec.choose_spec.2.2;obtain⟨cap',rest,w0,h0,⟨hle,hmx⟩,hlr,hrp,hr⟩:=kk (P:=E.P) (zeros:=zeros) (s:=.slice (some ⟨k.c,o,none⟩) len cap) (x:=x') (base:=some ⟨k.c,o,none⟩) (sLen:=len) (sCap:=cap) (old:=old') happ
        (fun w0 h0=>g1 w0 h0) hno hi hz' hfit hb hzs' hzp (by rw[<-g0.1]; exact hol) hnl
       obtain⟨j',s1,s2⟩:=je h h0 (elem:=elem) (g0.append hnew) (n:=len+n) (by rw[OU,hol,hlen,Po]) hlr hle hsz hrp hmx
       exact⟨j',_,_,by rw[hrun]; exact hr,em▸s1,ev▸s2⟩
      split at e
      ·
       rename_i sz'
       split at e
       ·rename_i hso;obtain⟨rfl,rfl⟩:=hso
        split at e
        ·rename_i hol;cases e;cases hs with
         | slice hj hm =>
          have:=h.kindOf hj hg;simp only at this;obtain⟨nc,hmm,_⟩:=this;rw[hm] at hmm; cases hmm
         | sliceM hj hm e1 e2 hl hc =>
          rename_i cap' sz' na nc k;have hkd:=h.kindOf hj hg;simp only at hkd;obtain⟨nc',hmm,_⟩:=hkd;rw[hm] at hmm;simp only[Option.some.injEq,QA] at hmm;obtain⟨rfl,rfl,rfl⟩:=hmm
          by_cases hfits:len+n<=cap'
          
          obtain⟨c,el,fz,c1,c2,c3⟩:=h.qI hj hg;have c2':k.more=some (aC E.P elem,cs.length,c.size)/\cs.length<=c.size/\fz=(0,0)/\0<aC E.P elem/\nr (aC E.P elem) c:=c2;obtain⟨c0,c5,rfl,_,c4⟩:=c2';rw[hm] at c0;simp only[Option.some.injEq,QA,true_and] at c0;have hcs:(len+n)*aC E.P elem<=c.size:=by
           rw[<-c0,<-e2]; simp; exact Ph _ hfits
          have hmul:(len+n)*aC E.P elem=len*aC E.P elem+n*aC E.P elem:=Po _ _ _;have hst:=fS (P:=E.P) new' w c 0 (len*aC E.P elem) c1 (by rw[hnl]; omega) (np hnew hone)
          have hold:(cs.take (len*aC E.P elem)).length=len*aC E.P elem:=hol;have hlecs:len*aC E.P elem<=cs.length:=by rw[PV] at hold; omega
          have hor:OR j ⟨k.c,some (aC E.P elem,(len+n)*aC E.P elem,c.size)⟩ (.cells (cs.take (len*aC E.P elem)++new) (.more (aC E.P elem))) (.cells (aR c.toList (0+len*aC E.P elem) new').toArray el):=by
           refine OR.more (by rw[OU,hold,hlen,hmul]) (by simp[cO]) hcs hsz (by unfold nr at *; simpa [cO] using c4) fun ix vx hix=>?_
           rw[O0,cJ,Pr]
           by_cases hlt:ix<len*aC E.P elem
           rw[Pj (by rw[hold]; exact hlt),Qq,OM hlt] at hix
           rw[QW]
           obtain⟨vx',q0,q2⟩:=c3 ix vx hix;exact⟨vx',by simpa using q0,q2⟩
           rw[O2 (by rw[hold]; omega),hold] at hix
           obtain⟨vx',q0,q2⟩:=hnew.get hix;have hlt':=(OX.1 q0).1;rw[OM ⟨by omega,by omega,by simp; omega⟩]
           exact⟨vx',q0,q2⟩
          have s1:=A7 h hj (by rw[hg]; rfl) hor
          refine⟨_,_,.slice (some ⟨k.c,0,none⟩) (len+n) cap',?_,s1,.sliceM (k:=⟨k.c,some (aC E.P elem,(len+n)*aC E.P elem,c.size)⟩) (aT.cA _ _ _) rfl rfl (by rw[<-c0]; exact e2) (OF _) hfits⟩
          rw[hrun];refine jj (happ w rfl) hfits ?_;rw[lR];have:=fS (P:=E.P) new' w c (0+len*aC E.P elem) 0 c1 (by rw[hnl]; omega) (np hnew hone)
          simpa using this
          
          have hol':m.dP b 0 (len*aC E.P elem)=some (cs.take (len*aC E.P elem)):=by
           simp only[RN.dP,hg,List.drop_zero];rw[OM hol]
          obtain⟨old',g1,g0⟩:=h.dP hj hol';obtain⟨c6,rest,w0,h0,⟨hle,hmx⟩,hlr,hrp,hr⟩:=kk (P:=E.P) (zeros:=zeros) (s:=.slice (some ⟨k.c,0,none⟩) len cap') (x:=x') (base:=some ⟨k.c,0,none⟩) (sLen:=len) (sCap:=cap') (old:=old') happ
           (fun w0 h0=>g1 w0 h0) hfits hi hz' hfit hb hzs' hzp (by rw[<-g0.1]; exact hol) hnl
          have sk:=EY h hj;obtain⟨j',s1,s2⟩:=je sk.mr h0 (elem:=elem) (g0.append hnew) (n:=len+n) (by rw[OU,hol,hlen,Po]) hlr hle hsz hrp hmx
          exact⟨j',_,_,by rw[hrun]; exact hr,sk.trans h s1,s2⟩
        cases e
       cases e
      ·
       rename_i htag
       split at e
       ·rename_i old hold;cases e;have hkm:∀k:Blk,j b=some k->k.more=none:=by
         intro k hj;have:=h.kindOf hj hg;cases tag with
         | more sz=>exact O6 rfl (htag sz)
         | ro=>exact this
         | own=>exact this
        cases hs with
        | slice hj hm=>exact hexact _ hj hm _ hold rfl rfl
        | sliceM hj hm e1 e2 hl hc=>rw[hkm _ hj] at hm; cases hm
       cases e
    cases e
   ·
    rename_i b o
    split at e
    cases e
    ·rename_i h4;have hlc:len=0/\cap=0:=by omega
     obtain⟨rfl,rfl⟩:=hlc;cases hs with
     | dry =>
     rename_i a'
     split at e
     rename_i hn; subst hn; cases e;have:new'=[]:=PL (by rw[hnl]; simp)
     subst this;refine⟨j,w,_,?_,.refl h,.dry (a':=a')⟩;rw[hrun];exact jj (happ w rfl) (by omega) rfl
     rename_i hn; cases e;obtain⟨cap',rest,w0,h0,⟨hle,hmx⟩,hlr,hrp,hr⟩:=kk (P:=E.P) (zeros:=zeros) (s:=.slice (some a') 0 0) (x:=x') (base:=some a') (sLen:=0) (sCap:=0) (old:=[]) happ
      (fun w0 _=>by simp[Builtin.firstCells,loadCells,loadCellsFrom]) (by omega) hi hz' (by simpa using hfit) hb hzs' hzp (by simp) hnl
     obtain⟨j',s1,s2⟩:=je h h0 (elem:=elem) hnew hlen (by simpa using hlr) (by omega) hsz hrp hmx
     refine⟨j',_,_,by rw[hrun]; exact hr,by simpa using s1,by simpa using s2⟩
   ·split at e
    ·rename_i hnil hmem hdry h4;obtain⟨rfl,rfl,rfl⟩:=h4;cases e;have:new'=[]:=PL (by rw[hnl]; simp)
     subst this;cases hs with
     | snil=>exact O6 rfl hnil
     | slice hj hm=>exact O6 rfl (hmem _ _)
     | sliceM hj hm e1 e2 hl hc=>exact O6 rfl (hmem _ _)
     | dry=>exact O6 rfl (hdry _ _)
     | gL =>
      rename_i a' cap';refine⟨j,w,_,?_,.refl h,.gL (a':=a') (cap':=cap')⟩;rw[hrun];exact jj (happ w rfl) (by omega) rfl
    cases e
 cases e
end
section
variable{E:Env}{j:aT}{m:RN}{w:QT}
def Em (h:MR E j m w) {t:QQ} {d d' s s' v:QP} {m':RN} (e:rv E.P t d s m=some (v,m')) (hd:VR j d d') (hs:VR j s s') {ts:RU QQ} (h0:ts[0]? = some t) (ty:QQ) :
  ∃w' v',(Builtin.copy_ ts ty #[d',s']).run E.P w=.ok v' w'/\Sim E j m w j m' w'/\VR j v v':=by
 unfold rv at e
 split at e
 ·rename_i elem base dLen dCap sa sLen sCap hu;simp only at e
  split at e
  cases e
  ·rename_i hk;have hk':known E.P elem=true:=by simpa using hk
   split at e
   cases e
   ·rename_i cells hsrc
    split at e
    cases e
    ·rename_i hone;have hone':bG cells=true:=by simpa using hone
     obtain⟨cells',hc1,hc2⟩:=wP h hsrc hs;have hlen:∀w0:QT,(Builtin.lenOf s').run E.P w0=.ok sLen w0:=by
      intro w0;cases hs<;>rfl
     have hbase:∃base' dCap',d'=.slice base' dLen dCap'/\(∀b o,base=some ⟨b,o,none⟩->∃k:Blk,j b=some k/\base'=some ⟨k.c,o,none⟩):=by
      cases hd with
      | snil=>exact⟨_,_,rfl,fun b o e=>by cases e⟩
      | slice hj hm=>exact⟨_,_,rfl,fun b o e=>by cases e; exact⟨_,hj,rfl⟩⟩
      | sliceM hj hm e1 e2 hl hc=>exact⟨_,_,rfl,fun b o e=>by cases e; exact⟨_,hj,rfl⟩⟩
      | gL=>exact⟨_,_,rfl,fun b o e=>by cases e⟩
      | dry=>exact⟨_,_,rfl,fun b o e=>by cases e⟩
     obtain⟨base',dCap',rfl,hb⟩:=hbase;have hrun0:∀K:QP->QT->Result QP,True:=fun _=>trivial
     split at e
     rename_i hn;cases e;have hcl:cells=[]:=by
      unfold cD at hsrc
      split at hsrc<;>first |(split at hsrc<;>first |(cases hsrc; rfl) |(cases hsrc; done) |(rename_i hne; exact O6 hn hne)) |(cases hsrc; done)
     subst hcl;have:cells'=[]:=hc2.dz;subst this;refine⟨w,.int .i64 0,?_,.refl h,.int _ _⟩;have hmin:Nat.min sLen dLen=0:=hn;simp only[Builtin.copy_,h0,O0,OZ,Pn,RX,RZ hu,RV,hlen,hmin,cK hk'];rw[hn] at hc1;simp only[hc1 w rfl,RV];cases base'<;>rfl
     ·rename_i b o n hn;cases hst:m.dB b o cells with
      | none=>rw[hst] at e; cases e
      | some m1 =>
       rw[hst] at e; cases e;obtain⟨k,hj,rfl⟩:=hb b o rfl;obtain⟨w',g1,g2⟩:=iJ h hj hc2 hone' hst;refine⟨w',.int .i64 (n+1:Nat),?_,g2,.int _ _⟩;have hmin:Nat.min sLen dLen=n+1:=hn;simp only[Builtin.copy_,h0,O0,OZ,Pn,RX,RZ hu,RV,hlen,hmin,cK hk'];rw[hn] at hc1;simp only[hc1 w rfl,RV,g1,RY,goInt]
     cases e
 cases e
def Dx(h:MR E j m w){t:QQ}{x x' v:QP}{m':RN}(e:z7 E.P t x m=some (v,m'))(hx:VR j x x'){ts:RU QQ}(h0:ts[0]? = some t)(ty:QQ) :
  ∃w' v',(Builtin.clear_ ts ty #[x']).run E.P w=.ok v' w'/\Sim E j m w j m' w'/\VR j v v':=by
 unfold z7 at e
 split at e
 rename_i elem a c hu;cases e;refine⟨w,.tuple #[],?_,.refl h,VR.undef j⟩;cases hx<;>simp only[Builtin.clear_,h0,O0,OZ,RX,RZ hu,RV]<;>rfl
 ·rename_i elem b o n c hnz hu
  split at e
  ·rename_i zs hz
   split at e
   ·rename_i hp;cases hst:m.dB b o zs with
    | none=>rw[hst] at e; cases e
    | some m1 =>
     rw[hst] at e; cases e;obtain⟨z,hz1,hz2,hz3⟩:=iV hz;have hone:bG zs=true:=by
      unfold bG;rw[OV] at hp ⊢;intro v hv;have:=hp v hv;cases v<;>first|rfl |(simp[aX] at this)
     have hn0:n≠0:=fun e=>hnz e;have hzc:(Builtin.zeroCells z.cells n).toList=zs:=by rw[hz3]; exact k8 n
     have hgo:∀k:Blk,j b=some k->∃w',(storeCells ⟨k.c,o,none⟩ zs).run E.P w=.ok () w'/\Sim E j m w j m' w':=fun k hj=>iJ h hj (LR.plain hp) hone hst;cases hx with
     | slice hj hm =>
      obtain⟨w',g1,g2⟩:=hgo _ hj;refine⟨w',.tuple #[],?_,g2,VR.undef j⟩;simp only[Builtin.clear_,h0,O0,OZ,RX,RZ hu,RV];cases n with
      | zero=>exact O6 rfl hn0
      | succ n=>simp only[iw hz1,RV,hzc,g1,RY]
     | sliceM hj hm e1 e2 hl hc =>
      obtain⟨w',g1,g2⟩:=hgo _ hj;refine⟨w',.tuple #[],?_,g2,VR.undef j⟩;simp only[Builtin.clear_,h0,O0,OZ,RX,RZ hu,RV];cases n with
      | zero=>exact O6 rfl hn0
      | succ n=>simp only[iw hz1,RV,hzc,g1,RY]
   cases e
  cases e
 cases e
def pZ:∀(vs vs':RR QP) (k:IntKind) (a:Int) (v:QP),eC (fun x y=>if y>x then y else x) k a vs=some v->LR j vs vs'->∀w,(vs'.foldlM Builtin.max2 (.int k a)).run E.P w=.ok v w
 | [],vs',k,a,v,e,hl,w=>by rw[hl.dz]; cases e; rfl
 | x::vs,vs',k,a,v,e,hl,w=>by
  obtain⟨y,ys,rfl,h1,h2⟩:=hl.cons_inv;cases x<;>simp only[eC] at e<;>first |(cases e; done)|skip
  cases h1;simp only[List.foldlM_cons,Builtin.max2,RX,RY,RV];exact pZ vs ys k _ v e h2 w
def p6:∀(vs vs':RR QP) (k:IntKind) (a:Int) (v:QP),eC (fun x y=>if y<x then y else x) k a vs=some v->LR j vs vs'->∀w,(vs'.foldlM Builtin.min2 (.int k a)).run E.P w=.ok v w
 | [],vs',k,a,v,e,hl,w=>by rw[hl.dz]; cases e; rfl
 | x::vs,vs',k,a,v,e,hl,w=>by
  obtain⟨y,ys,rfl,h1,h2⟩:=hl.cons_inv;cases x<;>simp only[eC] at e<;>first |(cases e; done)|skip
  cases h1;simp only[List.foldlM_cons,Builtin.min2,RX,RY,RV];exact p6 vs ys k _ v e h2 w
def jZ(f:Int->Int->Int):∀(vs:RR QP) (k:IntKind) (a:Int) (v:QP),eC f k a vs=some v->∃n,v=.int k n
 | [],k,a,v,e=>by cases e; exact⟨a,rfl⟩
 | x::vs,k,a,v,e=>by
  cases x<;>simp only[eC] at e<;>first |(cases e; done)|exact jZ f vs k _ v e
def ER.len:∀{a:RR (QP×QP)} {b:RR MapEntry},ER j a b->a.length=b.length
 | [],[],_=>rfl
 | _::_,_::_,h=>by simp[ER.len h.2.2]
 | [],_::_,h=>h.elim
 | _::_,[],h=>h.elim
def xQ (h:MR E j m w) {b:Builtin} {ts:RU QQ} {args args':RR QP} {v:QP} {m':RN} (e:bP E.P b ts args m=some (v,m')) (ha:LR j args args') (ty:QQ) (cs:RU Bool) :
  (m'=m/\(∀m2:RN,((b=.len\/b=.cap)->∀x b0,args=[x]->fO x=some b0->m2.get b0=m.get b0)->bP E.P b ts args m2=some (v,m2))/\∃v',(builtin b ts ty cs args'.toArray).run E.P w=.ok (.value v') w/\VR j v v') \/
  ((b=.append\/b=.copy\/b=.clear\/b=.delete)/\∃j' w' v',(builtin b ts ty cs args'.toArray).run E.P w=.ok (.value v') w'/\Sim E j m w j' m' w'/\VR j' v v'):=by
 unfold bP at e
 split at e
 ·
  rename_i x;obtain⟨x',l,rfl,hx,hl⟩:=ha.cons_inv;rw[hl.dz];refine .inl ?_;have k0:∀n:Int,(Builtin.len_ ts ty [x'].toArray).run E.P w=.ok (.int .i64 n) w->∃v',(builtin .len ts ty cs [x'].toArray).run E.P w=.ok (.value v') w/\VR j (.int .i64 n) v' :=
   fun n hr=>⟨_,by simp only[builtin,RX,hr,RV,RY],.int _ _⟩
  cases ht:ts[0]? with
  | none=>rw[ht] at e; simp at e
  | some t =>
   rw[ht] at e;simp only[Pf] at e
   split at e
   rename_i hu; cases e; cases hx;exact⟨rfl,fun m2 h0=>by simp only[bP,ht,Pf,hu],k0 _ (by simp only[Builtin.len_,ht,O0,OZ,RX,RZ hu,RV,RY,goInt])⟩
   rename_i hu; cases e;exact⟨rfl,fun m2 h0=>by simp only[bP,ht,Pf,hu],k0 _ (by simp only[Builtin.len_,ht,O0,OZ,RX,RZ hu,RV,RY,goInt])⟩
   rename_i a hu
   split at e
   rename_i h4; cases e;exact⟨rfl,fun m2 h0=>by simp only[bP,ht,Pf,hu,h4],k0 _ (by simp only[Builtin.len_,ht,O0,OZ,RX,RZ hu,RZ h4,RV,RY,goInt])⟩
   cases e
   rename_i hu; cases e;cases hx<;>exact⟨rfl,fun m2 h0=>by simp only[bP,ht,Pf,hu],k0 _ (by simp only[Builtin.len_,ht,O0,OZ,RX,RZ hu,RV,RY,goInt])⟩
   ·rename_i hu;cases hes:mapOf m _ with
    | none=>rw[hes] at e; cases e
    | some es =>
     rw[hes] at e; cases e;unfold mapOf at hes
     split at hes
     cases hes; cases hx;exact⟨rfl,fun m2 h0=>by simp only[bP,ht,Pf,hu,mapOf,OI],k0 _ (by simp only[Builtin.len_,ht,O0,OZ,RX,RZ hu,RV,RY,goInt]; rfl)⟩
     ·rename_i r
      split at hes
      ·rename_i e0 hg;cases hes;cases hx with
       | map hj =>
       obtain⟨es',clock,h1,h2⟩:=h.BU hj hg;have hlen:es.length=es'.size:=by
        simpa using ER.len h2
       exact⟨rfl,fun m2 h0=>by simp only[bP,ht,Pf,hu,mapOf,h0 (.inl rfl) _ _ rfl rfl,hg,OI],k0 _ (by simp only[Builtin.len_,ht,O0,OZ,RX,RZ hu,RV,run_getObj_map h1,RY,goInt,hlen])⟩
      cases hes
     cases hes
   cases e
 ·
  rename_i x;obtain⟨x',l,rfl,hx,hl⟩:=ha.cons_inv;rw[hl.dz];refine .inl ?_;have k0:∀n:Int,(Builtin.cap_ ts ty [x'].toArray).run E.P w=.ok (.int .i64 n) w->∃v',(builtin .cap ts ty cs [x'].toArray).run E.P w=.ok (.value v') w/\VR j (.int .i64 n) v' :=
   fun n hr=>⟨_,by simp only[builtin,RX,hr,RV,RY],.int _ _⟩
  cases ht:ts[0]? with
  | none=>rw[ht] at e; simp at e
  | some t =>
   rw[ht] at e;simp only[Pf] at e
   split at e
   rename_i hu; cases e; cases hx;exact⟨rfl,fun m2 h0=>by simp only[bP,ht,Pf,hu],k0 _ (by simp only[Builtin.cap_,ht,O0,OZ,RX,RZ hu,RV,RY,goInt])⟩
   ·rename_i b0 o l0 n hu
    split at e
    cases e
    ·rename_i c0 tag htag hg;cases e;cases hx with
     | slice hj hm =>
      refine⟨rfl,fun m2 h0=>?_,k0 _ (by simp only[Builtin.cap_,ht,O0,OZ,RX,RZ hu,RV,RY,goInt])⟩
      have h5:m2.get b0=some (.cells c0 tag):=(h0 (.inr rfl) _ _ rfl rfl).trans hg;simp only[bP,ht,Pf,hu,h5]
     | sliceM hj hm e1 e2 hl hc =>
      have:=h.kindOf hj hg;cases tag with
      | more sz=>exact O6 rfl (htag sz)
      | ro=>simp only at this; rw[hm] at this; cases this
      | own=>simp only at this; rw[hm] at this; cases this
    cases e
   cases e
 
 rename_i s x;obtain⟨s',l,rfl,hs,hl⟩:=ha.cons_inv;obtain⟨x',l',rfl,hx,hl'⟩:=hl.cons_inv;rw[hl'.dz]
 split at e
 rename_i t ht;obtain⟨j',w',v',h1,h2,h3⟩:=zW h e hs hx ht rfl ty;exact .inr ⟨by simp,j',w',v',by simp only[builtin,RX]; rw[h1]; rfl,h2,h3⟩
 cases e
 
 rename_i d s;obtain⟨d',l,rfl,hd,hl⟩:=ha.cons_inv;obtain⟨s',l',rfl,hs,hl'⟩:=hl.cons_inv;rw[hl'.dz]
 split at e
 rename_i t ht;obtain⟨w',v',h1,h2,h3⟩:=Em h e hd hs ht ty;exact .inr ⟨by simp,j,w',v',by simp only[builtin,RX]; rw[h1]; rfl,h2,h3⟩
 cases e
 
 rename_i x;obtain⟨x',l,rfl,hx,hl⟩:=ha.cons_inv;rw[hl.dz]
 split at e
 rename_i t ht;obtain⟨w',v',h1,h2,h3⟩:=Dx h e hx ht ty;exact .inr ⟨by simp,j,w',v',by simp only[builtin,RX]; rw[h1]; rfl,h2,h3⟩
 cases e
 ·
  rename_i x k;obtain⟨x',l,rfl,hx,hl⟩:=ha.cons_inv;obtain⟨k',l',rfl,hk,hl'⟩:=hl.cons_inv;rw[hl'.dz]
  split at e
  ·rename_i t ht;cases hd:qB E.P t x k m with
   | none=>rw[hd] at e; cases e
   | some m1 =>
    rw[hd] at e; cases e;obtain⟨w',h1,h2⟩:=AQ h hd hx hk ts ht ty;exact .inr ⟨by simp,j,w',.tuple #[],by simp only[builtin,RX]; rw[h1]; rfl,h2,VR.undef j⟩
  cases e
 ·
  rename_i k a vs;obtain⟨x',l,rfl,hx,hl⟩:=ha.cons_inv;cases hx;cases hf:eC (fun x y=>if y>x then y else x) k a vs with
  | none=>rw[hf] at e; cases e
  | some r =>
   rw[hf] at e; cases e;obtain⟨n,rfl⟩:=jZ _ _ _ _ _ hf;refine .inl ⟨rfl,fun m2 _=>by simp only[bP,hf,OI],.int k n,?_,.int _ _⟩
   have:=pZ (E:=E) vs l k a _ hf hl w;simp only[builtin,RX,Builtin.max_,this,RV,RY]
 ·
  rename_i k a vs;obtain⟨x',l,rfl,hx,hl⟩:=ha.cons_inv;cases hx;cases hf:eC (fun x y=>if y<x then y else x) k a vs with
  | none=>rw[hf] at e; cases e
  | some r =>
   rw[hf] at e; cases e;obtain⟨n,rfl⟩:=jZ _ _ _ _ _ hf;refine .inl ⟨rfl,fun m2 _=>by simp only[bP,hf,OI],.int k n,?_,.int _ _⟩
   have:=p6 (E:=E) vs l k a _ hf hl w;simp only[builtin,RX,Builtin.min_,this,RV,RY]
 cases e
end
section
variable{E:Env}{j:aT}{m:RN}{w:QT}{t:Tm}{n:Nat}{a:Act}
def aP(h:MR E j m w)(ht:TR n j t a.tmps){x:QR}{v:QP}(e:ax E t x=some v):VR j v (a.eval x):=by
 unfold ax at e
 split at e
 cases e; exact ht.2 _
 split at e
 rename_i hp; cases e; exact VR.bO hp
 cases e
 split at e
 rename_i hg; cases e; exact .ptr (h.glob _ hg)
 cases e
 cases e; exact .func rfl (fun i a _=>by simp at a) rfl (fun i a _=>by simp at a)
def eJ(h:MR E j m w)(ht:TR n j t a.tmps):∀{xs:RR QR} {vs:RR QP},bH E t xs=some vs->LR j vs (xs.map a.eval)
 | [],vs,e=>by cases e; exact .nil j
 | x::xs,vs,e=>by
  simp only[bH] at e
  split at e
  rename_i v vs' h1 h2;cases e;exact .cons (aP h ht h1) (eJ h ht h2)
  cases e
def ji(h:MR E j m w)(ht:TR n j t a.tmps):∀{xs:RR (Nat×QR)} {vs:RR (Nat×QP)},dw E t xs=some vs ->
  vs.map (·.1)=(xs.map fun p=>(p.1,a.eval p.2)).map (·.1)/\LR j (vs.map (·.2)) ((xs.map fun p=>(p.1,a.eval p.2)).map (·.2))
 | [],vs,e=>by cases e; exact⟨rfl,.nil j⟩
 |(i,x)::xs,vs,e=>by
  simp only[dw] at e
  split at e
  rename_i v vs' h1 h2;cases e;obtain⟨h3,h4⟩:=ji h ht h2;exact⟨by simpa using h3,.cons (aP h ht h1) h4⟩
  cases e
def mV(h:MR E j m w)(ht:TR n j t a.tmps){x:RI QR}{v:RI QP}(e:dH E t x=some v):OVR j v (x.map a.eval):=by
 cases x with
 | none=>cases e; exact .none
 | some x =>
  simp only[dH] at e;cases hv:ax E t x with
  | none=>rw[hv] at e; cases e
  | some v0=>rw[hv] at e; cases e; exact .some (aP h ht hv)
def kj(P:QS)(s:Sem Next)(v:QP)(w w':QT):Prop:=s.run P w=.ok (.value v) w'\/(s.run P w=.ok .skip w'/\v=undef)
def kj.value{P:QS}{s:Sem QP}{v:QP}{w w':QT}(h:s.run P w=.ok v w'):kj P (do pure (.value (<-s))) v w w' :=
 .inl (by simp only[RX,h,RV,RY])
def kj.unit{P:QS}{s:Sem RS}{w w':QT}(h:s.run P w=.ok () w'):kj P (do s; pure .skip) undef w w' :=
 .inr ⟨by simp only[RX,h,RV,RY],rfl⟩
def map_some{α β:Type}{f:α->β}{x:RI α}{y:β}(h:x.map f=some y):∃a,x=some a/\y=f a:=by
 cases x with
 | none=>cases h
 | some a=>cases h; exact⟨a,rfl,rfl⟩
def xI{m2 m:RN}{b o n:Nat}(h:m2.get b=m.get b):m2.dP b o n=m.dP b o n:=by simp only[RN.dP,h]
def yX{P:QS}{t:QQ}{p:QP}{m2 m:RN}(h:∀b0,fO p=some b0->m2.get b0=m.get b0):dO P t p m2=dO P t p m:=by
 unfold dO
 split
 rename_i b o;have hb:=h b rfl;simp only[xI hb,hb]
 rfl
def u6{P:QS}{t:QQ}{p:QP}{l hh k:RI QP}{m2 m:RN}(h:∀b0,fO p=some b0->m2.get b0=m.get b0):cU P t p l hh k m2=cU P t p l hh k m:=by
 unfold cU
 split
 rfl
 rename_i b o len cap _;simp only[h b rfl]
 rfl
 rename_i b o _;simp only[h b rfl]
 rfl
def s8{P:QS}{t:QQ}{p q:QP}{ok:Bool}{m2 m:RN}(h:∀b0,fO p=some b0->m2.get b0=m.get b0):dY P t p q ok m2=dY P t p q ok m:=by
 have:mapOf m2 p=mapOf m p:=by
  unfold mapOf
  split
  rfl
  rename_i r; simp only[h r rfl]
  rfl
 unfold dY;simp only[this]
def Ka(E:Env)(j:aT)(m:RN)(w:QT)(t:Tm)(a:Act)(o:Oper)(v:QP)(m':RN):Prop :=
 m'=m/\(∀m2:RN,(∀b0,bg E t o.op=some b0->m2.get b0=m.get b0)->cY E t m2 o.op=some (v,m2))/\∃v',kj E.P (execOp a.eval o) v' w w/\VR j v v'
def MT(E:Env)(j:aT)(m:RN)(w:QT)(t:Tm)(a:Act)(o:Oper)(v:QP)(m':RN):Prop :=
 ∃(ao:RP) (co:Obj) (vb:Nat->QP) (v':QP),v=vb m.next/\m'=m.alloc ao/\kj E.P (execOp a.eval o) v' w (w.alloc co)/\OR j ⟨w.heap.size,none⟩ ao co /\
  (∀(j':aT) (b:Nat),j' b=some ⟨w.heap.size,none⟩->VR j' (vb b) v')/\∀m2:RN,cY E t m2 o.op=some (vb m2.next,m2.alloc ao)
def wF(h:MR E j m w)(ht:TR n j t a.tmps){o:Oper}{v:QP}{m':RN}(e:cY E t m o.op=some (v,m')) :
  Ka E j m w t a o v m'\/MT E j m w t a o v m'\/(aK o.op=true/\∃j' w' v',kj E.P (execOp a.eval o) v' w w'/\Sim E j m w j' m' w'/\VR j' v v'):=by
 have hpure:∀{s:Sem QP} {f:RN->RI QP} {v0:QP} {m0:RN},(∀m2:RN,cY E t m2 o.op=(f m2).map fun v=>(v,m2))->(∀m2:RN,(∀b0,bg E t o.op=some b0->m2.get b0=m.get b0)->f m2=f m) ->
   (∀v1,f m=some v1->∃v',s.run E.P w=.ok v' w/\VR j v1 v')->(f m).map (fun v=>(v,m))=some (v0,m0)->execOp a.eval o=(do pure (.value (<-s))) ->
   Ka E j m w t a o v0 m0:=by
  intro s f v0 m0 hf hf2 h1 h2 hx;obtain⟨v1,hr,he⟩:=map_some h2;cases he;obtain⟨v',h3,h4⟩:=h1 _ hr;exact⟨rfl,fun m2 hm2=>by rw[hf,hf2 m2 hm2,hr]; rfl,v',by rw[hx]; exact .value h3,h4⟩
 cases hop:o.op<;>rw[hop] at e<;>simp only[cY] at e<;>try(cases e; done)
 case move x =>
  refine .inl ⟨(by obtain⟨v1,hv,he⟩:=map_some e; cases he; rfl),fun m2 _=>?_,?_⟩
  rw[hop]; obtain⟨v1,hv,he⟩:=map_some e; cases he;simp only[cY,hv,OI]
  obtain⟨v1,hv,he⟩:=map_some e;cases he;exact⟨_,.inl (by simp only[execOp,hop]; rfl),aP h ht hv⟩
 case assign x =>
  refine .inl ⟨(by obtain⟨v1,hv,he⟩:=map_some e; cases he; rfl),fun m2 _=>?_,?_⟩
  rw[hop]; obtain⟨v1,hv,he⟩:=map_some e; cases he;simp only[cY,hv,OI]
  obtain⟨v1,hv,he⟩:=map_some e;cases he;exact⟨_,.inl (by simp only[execOp,hop]; rfl),aP h ht hv⟩
 case pick c x y =>
  have hx:execOp a.eval o=(do pure (.value (if <-asBool (a.eval c) then a.eval x else a.eval y))):=by simp only[execOp,hop]
  refine .inl ?_
  split at e
  rename_i hc;obtain⟨v1,hv,he⟩:=map_some e;cases he;have hb:=aP h ht hc;refine⟨rfl,fun m2 _=>by rw[hop]; simp only[cY,hc,hv,OI],a.eval x,?_,aP h ht hv⟩
  rw[hx];generalize a.eval c=cv at hb;cases hb;exact .inl rfl
  rename_i hc;obtain⟨v1,hv,he⟩:=map_some e;cases he;have hb:=aP h ht hc;refine⟨rfl,fun m2 _=>by rw[hop]; simp only[cY,hc,hv,OI],a.eval y,?_,aP h ht hv⟩
  rw[hx];generalize a.eval c=cv at hb;cases hb;exact .inl rfl
  cases e
 case alloc elem =>
  have hx:execOp a.eval o=(do pure (.value (<-Instr.alloc elem true (.tuple #[])))):=by simp only[execOp,hop]
  split at e
  rename_i z hz
  split at e
  rename_i hp;cases e;refine .inr (.inl ⟨_,.cells z.cells elem,fun b=>ptr b 0,.pointer (some ⟨w.heap.size,0,none⟩),rfl,rfl,?_,OR.own (gG (VR.bO hp)),fun j' b hb=>.ptr hb,fun m2=>by rw[hop]; simp only[cY,hz,hp,if_true]⟩)
  rw[hx];refine .value ?_;simp only[Instr.alloc,RX,iw hz,RV,newVar,newRow,run_newObj,RY,World.alloc_eq]
  cases e
  cases e
 case box elem x =>
  have hx:execOp a.eval o=(do pure (.value (<-Instr.box elem (a.eval x)))):=by simp only[execOp,hop]
  obtain⟨v1,hv,he⟩:=map_some e;cases he;refine .inr (.inl ⟨_,.cells (a.eval x).cells elem,fun b=>ptr b 0,.pointer (some ⟨w.heap.size,0,none⟩),rfl,rfl,?_,OR.own (gG (aP h ht hv)),fun j' b hb=>.ptr hb,fun m2=>by rw[hop]; simp only[cY,hv,OI]⟩)
  rw[hx];refine .value ?_;simp only[Instr.box,RX,newVar,newRow,run_newObj,RV,RY,World.alloc_eq]
 case build ty parts =>
  have hx:execOp a.eval o=(do pure (.value (<-Instr.build ty (parts.map fun(i,x)=>(i,a.eval x))))):=by simp only[execOp,hop]
  split at e
  rename_i ps z hps hz
  split at e
  rename_i hp;obtain⟨h1,h2⟩:=ji h ht hps;refine .inl (hpure (f:=fun _=>j9 E.P ty ps) (fun m2=>by rw[hop]; simp only[cY,hps,hz,OM hp]) (fun _ _=>rfl) (fun v1 hv1=>?_) e hx)
  obtain⟨v',h3,h4⟩:=CN hv1 h1 h2 hz hp;refine⟨v',?_,h4⟩;have:(parts.map fun(i,x)=>(i,a.eval x))=(parts.toList.map fun p=>(p.1,a.eval p.2)).toArray:=by
   apply Pq.1; simp
  rw[this]; exact h3 w
  cases e
  cases e
 case buildSlice ty len parts =>
  have hx:execOp a.eval o=(do pure (.value (<-Instr.buildSlice ty len (parts.map fun(i,x)=>(i,a.eval x))))):=by simp only[execOp,hop]
  split at e
  rename_i elem ps hu hps
  split at e
  cases e
  rename_i hc;simp only[PN,Pv,O5,not_or,Bool.not_eq_false] at hc;obtain⟨hk,hbig⟩:=hc
  split at e
  rename_i zs hz
  split at e
  rename_i hp;obtain⟨cs,hcs,he⟩:=map_some e;cases he;obtain⟨h1,h2⟩:=ji h ht hps;obtain⟨z,hz1,hz2,hz3⟩:=iV hz;obtain⟨cs',h3,h4⟩:=nX h1 h2 (LR.plain (j:=j) hp) hcs;have hparts:(parts.map fun(i,x)=>(i,a.eval x)).toList=parts.toList.map fun p=>(p.1,a.eval p.2):=by simp
  refine .inr (.inl ⟨_,.cells cs'.toArray elem,fun b=>.slice (some ⟨b,0,none⟩) len len,.slice (some ⟨w.heap.size,0,none⟩) len len,rfl,rfl,?_,OR.own (by simpa using h4),fun j' b hb=>.slice hb rfl,fun m2=>by rw[hop]; simp only[cY,hu,hps,hk,hz,hp,hcs,Pm hbig,OS,Bool.or_self,OT,if_true,if_false,OI]⟩)
  rw[hx];refine .value ?_;have hc0:len*aC E.P elem=0->((Array.range (len*aC E.P elem)).map fun i=>(#[]:RU QP)[i%(#[]:RU QP).size]!)=zs.toArray:=by
   intro h0;apply Pq.1;have:zs=[]:=by apply PL; rw[hz3,fG,Qt,hz2,h0]
   simp[h0,this]
  have hc1:((Array.range (len*aC E.P elem)).map fun i=>z.cells[i%z.cells.size]!)=zs.toArray:=by
   apply Pq.1;rw[hz3,<-hz2]; exact k8 len
  simp only[Instr.buildSlice,RX,RZ hu,RV,cK hk,Sem.run_ite,OJ hbig,hparts]
  split
  rename_i h0;simp only[RY,RV,hc0 h0,h3,newRow,RX,run_newObj,World.alloc_eq]
  simp only[RX,iw hz1,RY,RV,hc1,h3,newRow,run_newObj,World.alloc_eq]
  cases e
  cases e
  cases e
 case load ty x =>
  have hx:execOp a.eval o=(do pure (.value (<-Instr.loadAt ty (a.eval x)))):=by simp only[execOp,hop]
  split at e
  rename_i p hp;refine .inl (hpure (f:=fun m2=>dO E.P ty p m2) (fun m2=>by rw[hop]; simp only[cY,hp]) (fun m2 hm2=>?_) (fun v1 hv1=>yp h hv1 (aP h ht hp)) e hx)
  rw[hop] at hm2;simp only[bg,hp,Pf] at hm2;exact yX hm2
  cases e
 case store ty x y =>
  have hx:execOp a.eval o=(do Instr.storeAt ty (a.eval x) (a.eval y); pure .skip):=by simp only[execOp,hop]
  rw[hx]
  split at e
  rename_i p v0 hp hv0;obtain⟨m1,hm1,he⟩:=map_some e;cases he;obtain⟨w',h1,h2⟩:=CU h hm1 (aP h ht hp) (aP h ht hv0);exact .inr (.inr ⟨rfl,j,w',undef,.unit h1,h2,VR.undef j⟩)
  cases e
 case nilCheck x =>
  split at e
  rename_i ad hp;cases e;have hv:=aP h ht hp;refine .inl ⟨rfl,fun m2 _=>by rw[hop]; simp only[cY,hp],a.eval x,.inl ?_,hv⟩
  generalize hxv:a.eval x=xv at hv;cases hv;simp only[execOp,hop,hxv,RY]
  rename_i f fs cs hp;cases e;have hv:=aP h ht hp;refine .inl ⟨rfl,fun m2 _=>by rw[hop]; simp only[cY,hp],a.eval x,.inl ?_,hv⟩
  generalize hxv:a.eval x=xv at hv;cases hv;simp only[execOp,hop,hxv,RY]
  rename_i f fs cs hp;cases e;have hv:=aP h ht hp;refine .inl ⟨rfl,fun m2 _=>by rw[hop]; simp only[cY,hp],a.eval x,.inl ?_,hv⟩
  generalize hxv:a.eval x=xv at hv;cases hv;simp only[execOp,hop,hxv,RY]
  cases e
 case binOp op xt x y yt =>
  have hx:execOp a.eval o=(do pure (.value (<-(do eqGuard op xt x y (a.eval x) (a.eval y); binOp op xt (a.eval x) (a.eval y))))):=by simp only[execOp,hop]
  split at e
  rename_i p q hp hq;refine .inl (hpure (f:=fun _=>bS op xt E.P p q) (fun m2=>by rw[hop]; simp only[cY,hp,hq]) (fun _ _=>rfl) (fun v1 hv1=>?_) e hx)
  obtain⟨v',h1,h2⟩:=Iq hv1 (aP h ht hp) (aP h ht hq) x y;exact⟨v',h1 w,h2⟩
  cases e
 case unOp op xt x =>
  have hx:execOp a.eval o=(do pure (.value (<-Op.unary op (a.eval x)))):=by simp only[execOp,hop]
  split at e
  rename_i p hp;refine .inl (hpure (f:=fun _=>Al op p) (fun m2=>by rw[hop]; simp only[cY,hp]) (fun _ _=>rfl) (fun v1 hv1=>?_) e hx)
  obtain⟨v',h1,h2⟩:=LI (P:=E.P) hv1 (aP h ht hp);exact⟨v',h1 w,h2⟩
  cases e
 case convert s d x =>
  have hx:execOp a.eval o=(do pure (.value (<-convert s d (a.eval x)))):=by simp only[execOp,hop]
  split at e
  rename_i p hp;refine .inl (hpure (f:=fun _=>fF E.P s d p) (fun m2=>by rw[hop]; simp only[cY,hp]) (fun _ _=>rfl) (fun v1 hv1=>?_) e hx)
  obtain⟨v',h1,h2⟩:=FN hv1 (aP h ht hp);exact⟨v',h1 w,h2⟩
  cases e
 case makeFunc fn first captured =>
  cases fn<;>simp only at e<;>try(cases e; done)
  rename_i f;have hx:execOp a.eval o=(do pure (.value (<-Instr.makeFunc (.func f) (first.map a.eval) (captured.map a.eval)))):=by simp only[execOp,hop]
  split at e
  rename_i fs cs h1 h2;cases e;have h3:=eJ h ht h1;have h4:=eJ h ht h2;have h3':LR j fs.toArray.toList (first.map a.eval).toList:=by simpa using h3
  have h4':LR j cs.toArray.toList (captured.map a.eval).toList:=by simpa using h4
  refine .inl ⟨rfl,fun m2 _=>by rw[hop]; simp only[cY,h1,h2],_,?_,.func h3'.size h3'.arr h4'.size h4'.arr⟩
  rw[hx]; exact .value rfl
  cases e
 case makeMap ty r =>
  cases r with
  | some _=>simp at e
  | none =>
   simp only at e;cases e;have hx:execOp a.eval o=(do pure (.value (<-Instr.makeMap ty none))):=by simp only[execOp,hop]; rfl
   refine .inr (.inl ⟨.map [],.map #[] 0,fun b=>.map (some b),.map (some w.heap.size),rfl,rfl,?_,⟨trivial,CT _⟩,fun j' b hb=>.map hb,fun m2=>by rw[hop]; rfl⟩)
   rw[hx];refine .value ?_;simp only[Instr.makeMap,RX,run_newObj,RV,RY,World.alloc_eq]
 case makeSlice ty l c =>
  have hx:execOp a.eval o=(do pure (.value (<-Instr.makeSlice ty (a.eval l) (a.eval c)))):=by simp only[execOp,hop]
  split at e
  rename_i elem li ci hu hl hc
  split at e
  rename_i hcond;have hcond0:=hcond;obtain⟨h0l,hlc,hany,hk⟩:=hcond;simp only[Option.any_eq_true,OD,O5,bne_iff_ne,ne_eq] at hany;obtain⟨i,hi,hby,hb0⟩:=hany
  split at e
  rename_i zs hz
  split at e
  rename_i hp;cases e;obtain⟨z,hz1,hz2,hz3⟩:=iV hz;have hlv:=aP h ht hl;have hcv:=aP h ht hc;refine .inr (.inl ⟨_,.cells zs.toArray elem,fun b=>.slice (some ⟨b,0,none⟩) li.toNat ci.toNat,.slice (some ⟨w.heap.size,0,none⟩) li.toNat ci.toNat,rfl,rfl,?_,OR.own (LR.plain hp),fun j' b hb=>.slice hb rfl,fun m2=>by rw[hop]; simp only[cY,hu,hl,hc]; rw[OM hcond0]; simp only[hz,hp,if_true]⟩)
  rw[hx];refine .value ?_;generalize a.eval l=lv at hlv;generalize a.eval c=cv at hcv;cases hlv; cases hcv;have hci:ci<=2 ^ 40:=by
   have h1:(1:Int)<=(i.bytes:Int):=by exact_mod_cast Nat.one_le_iff_ne_zero.2 hb0
   have:1*ci<=(i.bytes:Int)*ci:=Int.mul_le_mul_of_nonneg_right h1 (by omega)
   omega
  have hwl:IntKind.i64.wrap li=li:=IntWalk.i64_in li (by omega)
  have hwc:IntKind.i64.wrap ci=ci:=IntWalk.i64_in ci (by omega)
  have hneg:¬(((ci<0 ||(i.bytes:Int)*ci>2 ^ 48)||li<0||li>ci)=true):=by
   simp only[PN,O5,not_or];omega
  have hc0:ci.toNat*aC E.P elem=0->((Array.range (ci.toNat*aC E.P elem)).map fun i=>(#[]:RU QP)[i%(#[]:RU QP).size]!)=zs.toArray:=by
   intro h0;apply Pq.1;have:zs=[]:=by apply PL; rw[hz3,fG,Qt,hz2,h0]
   simp[h0,this]
  have hc1:((Array.range (ci.toNat*aC E.P elem)).map fun i=>z.cells[i%z.cells.size]!)=zs.toArray:=by
   apply Pq.1;rw[hz3,<-hz2]; exact k8 ci.toNat
  simp only[Instr.makeSlice,RX,RZ hu,RV,asInt,asIntOf,RY,qU hi,hwl,hwc,Sem.run_ite,OJ hneg,run_askRoom,cK hk]
  split
  rename_i h0;simp only[RY,RV,hc0 h0,newRow,RX,run_newObj,World.alloc_eq]
  simp only[RX,iw hz1,RY,RV,hc1,newRow,run_newObj,World.alloc_eq]
  cases e
  cases e
  cases e
  cases e
 case slice ty x lo hi mx =>
  have hx:execOp a.eval o=(do pure (.value (<-Instr.sliceAt ty (a.eval x) (lo.map a.eval) (hi.map a.eval) (mx.map a.eval)))):=by simp only[execOp,hop]
  split at e
  rename_i p l hh k hp h1 h2 h3;refine .inl (hpure (f:=fun m2=>cU E.P ty p l hh k m2) (fun m2=>by rw[hop]; simp only[cY,hp,h1,h2,h3]) (fun m2 hm2=>?_) (fun v1 hv1=>?_) e hx)
  rw[hop] at hm2;simp only[bg,hp,Pf] at hm2;exact u6 hm2
  obtain⟨v',g1,g2⟩:=Dm h hv1 (aP h ht hp) (mV h ht h1) (mV h ht h2) (mV h ht h3);exact⟨v',g1 w,g2⟩
  cases e
 case fieldAddr s x f =>
  have hx:execOp a.eval o=(do pure (.value (<-Instr.fieldAt s (a.eval x) f))):=by simp only[execOp,hop]
  split at e
  rename_i p hp;refine .inl (hpure (f:=fun _=>bh E.P s p f) (fun m2=>by rw[hop]; simp only[cY,hp]) (fun _ _=>rfl) (fun v1 hv1=>?_) e hx)
  obtain⟨v',g1,g2⟩:=tq hv1 (aP h ht hp);exact⟨v',g1 w,g2⟩
  cases e
 case field ty x f =>
  have hx:execOp a.eval o=(do pure (.value (<-Instr.field ty (a.eval x) f))):=by simp only[execOp,hop]
  split at e
  rename_i p hp;refine .inl (hpure (f:=fun _=>eX E.P ty p f) (fun m2=>by rw[hop]; simp only[cY,hp]) (fun _ _=>rfl) (fun v1 hv1=>?_) e hx)
  obtain⟨v',g1,g2⟩:=DB hv1 (aP h ht hp);exact⟨v',g1 w,g2⟩
  cases e
 case sliceToArrayPointer ty x =>
  have hx:execOp a.eval o=(do pure (.value (<-Instr.arrayAt ty (a.eval x)))):=by simp only[execOp,hop]
  split at e
  rename_i p hp;refine .inl (hpure (f:=fun _=>BS E.P ty p) (fun m2=>by rw[hop]; simp only[cY,hp]) (fun _ _=>rfl) (fun v1 hv1=>?_) e hx)
  obtain⟨v',g1,g2⟩:=Gy hv1 (aP h ht hp);exact⟨v',g1 w,g2⟩
  cases e
 case indexAddr ty x i =>
  have hx:execOp a.eval o=(do pure (.value (<-Instr.indexAt ty (a.eval x) (a.eval i)))):=by simp only[execOp,hop]
  split at e
  rename_i p q hp hq;refine .inl (hpure (f:=fun _=>bV E.P ty p q) (fun m2=>by rw[hop]; simp only[cY,hp,hq]) (fun _ _=>rfl) (fun v1 hv1=>?_) e hx)
  obtain⟨v',g1,g2⟩:=tj hv1 (aP h ht hp) (aP h ht hq);exact⟨v',g1 w,g2⟩
  cases e
 case index ty x i =>
  have hx:execOp a.eval o=(do pure (.value (<-Instr.index ty (a.eval x) (a.eval i)))):=by simp only[execOp,hop]
  split at e
  rename_i p q hp hq;refine .inl (hpure (f:=fun _=>gj E.P ty p q) (fun m2=>by rw[hop]; simp only[cY,hp,hq]) (fun _ _=>rfl) (fun v1 hv1=>?_) e hx)
  obtain⟨v',g1,g2⟩:=DX hv1 (aP h ht hp) (aP h ht hq);exact⟨v',g1 w,g2⟩
  cases e
 case lookup ty x i ok =>
  have hx:execOp a.eval o=(do pure (.value (<-Instr.lookup ty (a.eval x) (a.eval i) ok))):=by simp only[execOp,hop]
  split at e
  rename_i p q hp hq;refine .inl (hpure (f:=fun m2=>dY E.P ty p q ok m2) (fun m2=>by rw[hop]; simp only[cY,hp,hq]) (fun m2 hm2=>?_) (fun v1 hv1=>Am h hv1 (aP h ht hp) (aP h ht hq)) e hx)
  rw[hop] at hm2;simp only[bg,hp,Pf] at hm2;exact s8 hm2
  cases e
 case mapUpdate ty x k y =>
  have hx:execOp a.eval o=(do Instr.mapUpdate ty (a.eval x) (a.eval k) (a.eval y); pure .skip):=by simp only[execOp,hop]
  rw[hx]
  split at e
  rename_i p q r hp hq hr;obtain⟨m1,hm1,he⟩:=map_some e;cases he;obtain⟨w',h1,h2⟩:=mL h hm1 (aP h ht hp) (aP h ht hq) (aP h ht hr);exact .inr (.inr ⟨rfl,j,w',undef,.unit h1,h2,VR.undef j⟩)
  cases e
 case insert ty x k y =>
  have hx:execOp a.eval o=(do Instr.mapUpdate ty (a.eval x) (a.eval k) (a.eval y); pure .skip):=by simp only[execOp,hop]
  rw[hx]
  split at e
  rename_i p q r hp hq hr;obtain⟨m1,hm1,he⟩:=map_some e;cases he;obtain⟨w',h1,h2⟩:=mL h hm1 (aP h ht hp) (aP h ht hq) (aP h ht hr);exact .inr (.inr ⟨rfl,j,w',undef,.unit h1,h2,VR.undef j⟩)
  cases e
 case extract x i =>
  have hx:execOp a.eval o=(do pure (.value (<-Instr.extract (a.eval x) i))):=by simp only[execOp,hop]
  split at e
  ·rename_i vs hp;refine .inl (hpure (f:=fun _=>vs[i]?) (fun m2=>by rw[hop]; simp only[cY,hp]) (fun _ _=>rfl) (fun v1 hv1=>?_) e hx)
   have hv:=aP h ht hp;generalize a.eval x=xv at hv;cases hv with
   | tuple h1 h2 =>
   rename_i ys;obtain⟨v',g1,g2⟩:=(LR.eW h1 h2).get (show vs.toList[i]? = some v1 by simpa using hv1)
   refine⟨v',?_,g2⟩;have g1':ys[i]? = some v':=by simpa using g1
   simp only[Instr.extract,g1',RY]
  cases e
 case call c =>
  split at e
  rename_i b hb
  split at e
  rename_i vs hvs;have hx:execOp a.eval o=(do let d <-resolve a.eval c o.type; invoke d.target d.args):=by simp only[execOp,hop]
  have hargs:c.args.map a.eval=(c.args.toList.map a.eval).toArray:=by apply Pq.1; simp
  have hrun:∃cs,(execOp a.eval o).run E.P w=(builtin b c.argTypes o.type cs (c.args.toList.map a.eval).toArray).run E.P w :=
   ⟨_,by rw[hx]; simp only[resolve,hb,RX,RY,RV,invoke,hargs]; rfl⟩
  obtain⟨cs,hrun⟩:=hrun;rcases xQ h e (eJ h ht hvs) o.type cs with⟨rfl,hm,v',h1,h2⟩|⟨hbb,j',w',v',h1,h2,h3⟩
  refine .inl ⟨rfl,fun m2 hm2=>?_,v',.inl (hrun.trans h1),h2⟩;rw[hop] at hm2 ⊢;simp only[cY,hb,hvs];refine hm m2 fun hlc x b0 hx1 hx2=>hm2 b0 ?_;subst hx1;rcases hlc with rfl|rfl<;>simp only[bg,hb,hvs,hx2]
  refine .inr (.inr ⟨?_,j',w',v',.inl (hrun.trans h1),h2,h3⟩);rcases hbb with rfl|rfl|rfl|rfl<;>simp only[aK,hb]
  cases e
  cases e
def GL(h:MR E j m w)(ht:TR n j t a.tmps){o:Oper}{v:QP}{m':RN}(e:cY E t m o.op=some (v,m')) :
  ∃j' w' v',kj E.P (execOp a.eval o) v' w w'/\Sim E j m w j' m' w'/\VR j' v v':=by
 rcases wF h ht e with⟨rfl,_,v',h1,h2⟩|⟨ao,co,vb,v',rfl,rfl,h1,h2,h3,_⟩|⟨_,h1⟩
 exact⟨j,w,v',h1,.refl h,h2⟩
 exact⟨_,_,v',h1,lZ h h2,h3 _ _ (aT.cA _ _ _)⟩
 exact h1
end
def D2:RO->Exit
 | .normal=>.normal
 | .exit id=>.exit id
 | .ret=>.ret
def jC(F:Fence):Prop:=F=Fence.wide\/∃l,F=Fence.wide.inRound l
def jC.fn{F:Fence}(h:jC F)(f:R2):F.fn f:=by
 rcases h with rfl|⟨l,rfl⟩<;>trivial
def jC.room{F:Fence}(h:jC F)(n:Nat):F.room n:=by
 rcases h with rfl|⟨l,rfl⟩<;>intro d hd<;>simp[Fence.wide] at hd
def jC.depth{F:Fence}(h:jC F){n:Nat}:F.depth.isSome=true->1<=n:=by
 rcases h with rfl|⟨l,rfl⟩<;>intro hd<;>simp[Fence.wide] at hd
def jC.calls{F:Fence}(h:jC F){n:Nat}{P:QS}{f:R2}{args:RU QP}{w:QT}{R:Ending->QT->Prop}(hc:CallsIn Fence.wide n P f args w R):CallsIn F n P f args w R:=by
 rcases h with rfl|⟨l,rfl⟩
 exact hc
 exact hc
def jC.IA{F:Fence}(h:jC F){n:Nat}{P:QS}{l:Nat}{f:R2}{tmps:RU QP}{x y:Code}{w:QT}{R:Ending->QT->Prop}(hc:RoundIn Fence.wide n P l f tmps x y w R):RoundIn F n P l f tmps x y w R:=by
 rcases h with rfl|⟨l,rfl⟩
 exact hc
 exact hc
def kf(j:aT)(r:RI Nat)(F:Fence):Prop :=
 match r with
 | none=>F=Fence.wide
 | some l=>∃k,j l=some k/\F=Fence.wide.inRound k.c
def kf.wide{j:aT}{r:RI Nat}{F:Fence}(h:kf j r F):jC F:=by
 cases r with
 | none=>exact .inl h
 | some l=>obtain⟨k,_,rfl⟩:=h; exact .inr ⟨_,rfl⟩
def kf.mono{j j':aT}(hj:j.le j'){r:RI Nat}{F:Fence}(h:kf j r F):kf j' r F:=by
 cases r with
 | none=>exact h
 | some l=>obtain⟨k,h1,rfl⟩:=h; exact⟨k,hj _ _ h1,rfl⟩
def qW(r:Nat):Deferred:={ target:=.collected r,args:=#[]}
def Marks(N:Nat)(w:QT)(ds:RR Deferred):Prop:=∃rs:RR Nat,rs.Nodup/\ds=rs.map qW/\∀r∈rs,N<=r/\w.heap[r]? = some (.deferred (some []))
def Marks.nil(N:Nat)(w:QT):Marks N w []:=⟨[],List.nodup_nil,rfl,fun r h=>by simp at h⟩
def xu{E:Env}{j:aT}{m:RN}{w:QT}(h:MR E j m w){r:Nat}(hr:w.heap[r]? = some (.deferred (some []))):∀b k,j b=some k->(m.get b).isSome=true->k.c≠r:=by
 intro b k hb hl he;cases hg:m.get b with
 | none=>rw[hg] at hl; cases hl
 | some o =>
  obtain⟨o',h1,h2⟩:=h.obj b o k hg hb;rw[he,hr] at h1;cases h1;cases o<;>exact h2.elim
def Marks.D0{E:Env}{j j':aT}{m m':RN}{w w':QT}(h:MR E j m w)(s:Sim E j m w j' m' w'){N:Nat}{ds:RR Deferred}(hm:Marks N w ds):Marks N w' ds:=by
 obtain⟨rs,h1,h2,h3⟩:=hm;refine⟨rs,h1,h2,fun r hr=>⟨(h3 r hr).1,?_⟩⟩;have hh:=(h3 r hr).2;rw[s.frame r (OQ.1 hh).1 fun b k hb hl he=>O6 he (xu h hh b k hb hl)];exact hh
def kG(E:Env)(j:aT)(m:RN)(w:QT)(N n:Nat)(e:RO)(t:Tm)(m':RN):Exit->Act->QT->Prop:=fun e' a' w' =>
 e'=D2 e/\∃j',Sim E j m w j' m' w'/\TR n j' t a'.tmps/\Marks N w' a'.defers
def Ch(E:Env)(cs:Nat->QS->Fence->(Exit->Act->QT->Prop)->Act->QT->Prop)(fr:Fr)(m:RN)(r:Res):Prop :=
 ∃e t m',r=.code e t m'/\∀(j:aT) (w:QT) (a:Act) (F:Fence) (N:Nat),MR E j m w->TR fr.n j fr.tmps a.tmps->kf j fr.round F->Marks N w a.defers->N<=w.heap.size ->
  cs 0 E.P F (kG E j m w N fr.n e t m') a w
def dX(P:QS)(pr:Bool)(f:R2)(args:RU QP)(w:QT)(R:QP->QT->Prop):Prop :=
 ((callFunc f args).run P w=.ok (.enter f args) w/\CallsIn Fence.wide 0 P f args w (fun e w'=>∃v,e=.returned v/\R v w')) \/
  (pr=true/\∃v w',(callFunc f args).run P w=.ok (.value v) w'/\R v w')
def fA(E:Env)(j:aT)(m:RN)(w:QT)(v:QP)(m':RN):QP->QT->Prop:=fun v' w'=>∃j',Sim E j m w j' m' w'/\VR j' v v'
def Jt(E:Env)(f:R2)(args:RR QP)(m:RN)(r:Res):Prop :=
 ∃v m',r=.val v m'/\∀(j:aT) (w:QT) (args':RR QP),MR E j m w->LR j args args'->dX E.P (E.dj f).isSome f args'.toArray w (fA E j m w v m')
def GX(E:Env)(l:Nat)(args:RR QP)(m:RN)(r:Res):Prop :=
 ∃v m',r=.val v m'/\∀(j:aT) (w:QT) (k:Blk) (args':RR QP),MR E j m w->j l=some k->LR j args args' ->
  ∃fn tmps assign body,(Instr.yield k.c args'.toArray).run E.P w=.ok (.round k.c fn tmps assign body) w /\
   RoundIn Fence.wide 0 E.P k.c fn tmps assign body w (fun e w'=>∃v',e=.returned v'/\fA E j m w v m' v' w')
def mR(F:Fence)(n:Nat)(P:QS)(c:Code)(Q:Exit->Act->QT->Prop)(a:Act)(w:QT):Prop :=
 ∀(b:Frame) (k:RR Item) (cs:RR Frame),b.roundOf=F.round->F.fn b.fn->F.room (cs.length+1+n) ->
  ∃e a' w',Q e a' w'/\ArrivesIn (Machine.fenced P F) P (lone (b.atR a (.code c::.inLoop c::k)) cs w) b k cs e a' w'
def cQ(E:Env):Task->Res->Prop
 | .code c fr m,r=>Ch E (fun n P F Q a w=>c.wpIn F n P Q a w) fr m r
 | .loop c fr m,r=>Ch E (fun n P F Q a w=>mR F n P c Q a w) fr m r
 | .call f args m,r=>Jt E f args m r
 | .round l args m,r=>GX E l args m r
structure EnvOk(E:Env):Prop where
 call:∀f fn c,E.P.funcs[f]? = some fn->fn.body=some c->∀args w,(callFunc f args).run E.P w=.ok (.enter f args) w
 mixed:E.P.follows .mixedOrders=true
 dj:∀f p,E.dj f=some p->∀args m v m',p.run args m=some (v,m')->∀(j:aT) (w:QT) (args':RR QP),MR E j m w->LR j args args'->dX E.P (E.dj f).isSome f args'.toArray w (fA E j m w v m')
def de{F:Fence}(hF:jC F){P:QS}{o:Oper}{a:Act}{w w':QT}{v:QP}{next:Act->QT->Prop}{Q:Exit->Act->QT->Prop}(hd:∀c,o.op≠.defer c)
  (h:kj P (execOp a.eval o) v w w') (hn:next (a.put o.dst v) w'):o.wpIn F 0 P a w next Q:=by
 refine⟨fun f _=>hF.fn f,?_⟩;rw[Oper.semAt_eq _ _ _ hd];rcases h with h|⟨h,rfl⟩
 rw[h]; exact hn
 rw[h]; exact hn
section
variable{E:Env}{k:K}
def kM{t:Tm}{m:RN}{o:Op}{r:QP×RN}(h:cY E t m o=some r):∀c,o≠.defer c:=by
 intro c e; subst e; simp[cY] at h
def Does(P:QS)(s:Sem Next)(w:QT)(G:QP->QT->Prop):Prop :=
 (∃v w',kj P s v w w'/\G v w') \/
 (∃f args,s.run P w=.ok (.enter f args) w/\CallsIn Fence.wide 0 P f args w (fun e w'=>∃v,e=.returned v/\G v w')) \/
 (∃l fn tmps x y,s.run P w=.ok (.round l fn tmps x y) w/\RoundIn Fence.wide 0 P l fn tmps x y w (fun e w'=>∃v,e=.returned v/\G v w'))
def Does.wpIn{F:Fence}(hF:jC F){P:QS}{o:Oper}(hd:∀c,o.op≠.defer c){a:Act}{w:QT}{G:QP->QT->Prop}(h:Does P (execOp a.eval o) w G){next:Act->QT->Prop}{Q:Exit->Act->QT->Prop}
  (hn:∀v' w',G v' w'->next (a.put o.dst v') w'):o.wpIn F 0 P a w next Q:=by
 rcases h with⟨v,w',h1,h2⟩|⟨f,args,h1,h2⟩|⟨l,fn,tmps,x,y,h1,h2⟩
 exact de hF hd h1 (hn _ _ h2)
 refine⟨fun f _=>hF.fn f,?_⟩;rw[Oper.semAt_eq _ _ _ hd,h1];exact⟨hF.depth,CallsIn.mono (hF.calls h2) fun e' w' he=>by
  obtain⟨v',rfl,hq⟩:=he;exact hn v' w' hq⟩
 refine⟨fun f _=>hF.fn f,?_⟩;rw[Oper.semAt_eq _ _ _ hd,h1];exact⟨hF.depth,RoundIn.mono (hF.IA h2) fun e' w' he=>by
  obtain⟨v',rfl,hq⟩:=he;exact hn v' w' hq⟩
def Does.ends{P:QS}{s:Sem Next}{w:QT}{G:QP->QT->Prop}(h:Does P s w G):∃v w',G v w':=by
 rcases h with⟨v,w',_,h2⟩|⟨f,args,_,h2⟩|⟨l,fn,tmps,x,y,_,h2⟩
 exact⟨v,w',h2⟩
 obtain⟨e,w',fr,⟨v,_,hq⟩,_⟩:=h2.2 [] (jC.room (.inl rfl) _);exact⟨v,w',hq⟩
 obtain⟨e,w',⟨v,_,hq⟩,_⟩:=h2.2 default [] (jC.room (.inl rfl) _);exact⟨v,w',hq⟩
def mG{t:Tm}{m:RN}{o:Op}{r:QP×RN}(h:er k E t m o=some r):∀c,o≠.defer c:=by
 intro c e; subst e; simp[er,cY] at h
def kW(hk:∀tk r,k tk=some r->cQ E tk r){j:aT}{m:RN}{w:QT}{t:Tm}{n:Nat}{a:Act}(h:MR E j m w)(ht:TR n j t a.tmps){o:Oper}{v:QP}{m':RN}(e:er k E t m o.op=some (v,m')) :
  Does E.P (execOp a.eval o) w (fA E j m w v m'):=by
 have hplain:cY E t m o.op=some (v,m')->Does E.P (execOp a.eval o) w (fA E j m w v m'):=by
  intro e;obtain⟨j',w',v',h1,h2,h3⟩:=GL h ht e;exact .inl ⟨v',w',h1,j',h2,h3⟩
 unfold er at e
 split at e
 ·rename_i c hop
  split at e
  ·rename_i f hc
   split at e
   ·rename_i g first captured args hf hargs
    split at e
    ·rename_i v0 m0 hcall;cases e;obtain⟨v1,m1,hr,hsim⟩:=hk _ _ hcall;cases hr;have hfv:=aP h ht hf;generalize hfe:a.eval f=fv at hfv;cases hfv with
     | func h1 h2 h3 h4 =>
     rename_i ys ds;have hl:LR j (first.toList++args++captured.toList) (ys.toList++(c.args.toList.map a.eval)++ds.toList) :=
      ((LR.eW h1 h2).append (eJ h ht hargs)).append (LR.eW h3 h4)
     have hcs:=hsim j w _ h hl;have harr:(ys.toList++(c.args.toList.map a.eval)++ds.toList).toArray=ys++c.args.map a.eval++ds:=by apply Pq.1; simp
     rw[harr] at hcs;have hexec:execOp a.eval o=(do let d <-resolve a.eval c o.type; invoke d.target d.args):=by simp only[execOp,hop]
     have hrun:(execOp a.eval o).run E.P w=(callFunc g (ys++c.args.map a.eval++ds)).run E.P w:=by
      rw[hexec];simp only[resolve,hc,hfe,Deferred.ofValue,RX,RY,RV,invoke]
     rcases hcs with⟨hr,hci⟩|⟨_,v',w',hr,hq⟩
     exact .inr (.inl ⟨_,_,hrun.trans hr,hci⟩)
     exact .inl ⟨v',w',.inl (hrun.trans hr),hq⟩
    cases e
   ·rename_i l first cap args hf hargs
    split at e
    ·rename_i v0 m0 hcall;cases e;obtain⟨v1,m1,hr,hsim⟩:=hk _ _ hcall;cases hr;have hfv:=aP h ht hf;generalize hfe:a.eval f=fv at hfv;cases hfv with
     | yield hj h1 h2 =>
     rename_i kb ys ds;have hl:LR j (first.toList++args) (ys.toList++(c.args.toList.map a.eval)):=(LR.eW h1 h2).append (eJ h ht hargs)
     obtain⟨fn,tmps,assign,body,hy,hro⟩:=hsim j w kb _ h hj hl;have harr:(ys.toList++(c.args.toList.map a.eval)).toArray=ys++c.args.map a.eval:=by apply Pq.1; simp
     rw[harr] at hy;have hexec:execOp a.eval o=(do let d <-resolve a.eval c o.type; invoke d.target d.args):=by simp only[execOp,hop]
     have hrun:(execOp a.eval o).run E.P w=.ok (.round kb.c fn tmps assign body) w:=by
      rw[hexec];simp only[resolve,hc,hfe,Deferred.ofValue,RX,RY,RV,invoke,hy]
     exact .inr (.inr ⟨_,_,_,_,_,hrun,hro⟩)
    cases e
   cases e
  exact hplain e
 exact hplain e
def tR(hk:∀tk r,k tk=some r->cQ E tk r){j:aT}{m:RN}{w:QT}{t:Tm}{n:Nat}{a:Act}(h:MR E j m w)(ht:TR n j t a.tmps){o:Oper}{v:QP}{m':RN}(e:er k E t m o.op=some (v,m'))
  {F:Fence} (hF:jC F) {next:Act->QT->Prop} {Q:Exit->Act->QT->Prop} (hn:∀v' w',fA E j m w v m' v' w'->next (a.put o.dst v') w'):o.wpIn F 0 E.P a w next Q :=
 (kW hk h ht e).wpIn hF (mG e) hn
def TR.put{n:Nat}{j:aT}{t t':Tm}{a:Act}{dst:RI Tmp}{v v':QP}(h:TR n j t a.tmps)(hv:VR j v v')(hp:gb n t dst v=some t'):TR n j t' (a.put dst v').tmps:=by
 unfold gb at hp
 split at hp
 rename_i d
 split at hp
 rename_i hlt;cases hp;have hlt':d<n:=by simpa using hlt
 refine⟨by simp[Act.put,h.1],fun i=>?_⟩
 simp only[Act.put,Tm.at,Trie.cu]
 by_cases hi:i=d
 subst hi;simp only[OM rfl];have:i<a.tmps.size:=by rw[h.1]; exact hlt'
 simp[this,hv]
 simp only[OJ hi];have:=h.2 i;simp only[Tm.at] at this
 simpa [P5 (Ne.symm hi)] using this
 cases hp
 cases hp; exact h
def jz {n:Nat} {j:aT} {t:Tm} {a:Act} (h:TR n j t a.tmps) (ops:RU Oper) (o:Oper):Region.wanted o (yielded ops a.tmps)=bt ops o t:=by
 unfold Region.wanted bt;cases hgd:o.guard with
 | none=>rfl
 | some p =>
  obtain⟨g,want⟩:=p;simp only;have key:yielded ops a.tmps g=dc ops t g:=by
   unfold yielded dc;cases hd:(ops[g]?).bind (·.dst) with
   | none=>rfl
   | some d =>
    simp only[Pf];have hv:=h.2 d;unfold Tm.at at hv;cases hg:t.get d with
    | none =>
     rw[hg] at hv;simp only[Option.getD_none] at hv;have:a.tmps[d]? = none\/a.tmps[d]? = some undef:=by
      cases ha:a.tmps[d]? with
      | none=>exact .inl rfl
      | some x =>
       right
       have:a.tmps.getD d undef=x:=by simp[ha]
       rw[this] at hv;have:x=undef:=ic (by rfl) hv
       rw[this]
     rcases this with e|e<;>rw[e]<;>rfl
    | some x =>
     rw[hg] at hv;simp only[Option.getD_some] at hv;cases ha:a.tmps[d]? with
     | none =>
      have:a.tmps.getD d undef=undef:=by simp[ha]
      rw[this] at hv;cases x<;>first|rfl|cases hv
     | some y =>
      have:a.tmps.getD d undef=y:=by simp[ha]
      rw[this] at hv;cases hv with
      | junk hj=>cases y<;>first|rfl |(simp[yn,aX] at hj)
      | _=>rfl
  rw[key];cases dc ops t g with
  | none=>rfl
  | some b=>simp
def kg(hk:∀tk r,k tk=some r->cQ E tk r){ops:RU Oper}{n:Nat}{F:Fence}(hF:jC F){Q:Exit->Act->QT->Prop}{m0:RN}{w0:QT}{j0:aT}(h0:MR E j0 m0 w0){tf:Tm}{mf:RN}
  (ds:RR Deferred) (hQ:∀j' w' a',Sim E j0 m0 w0 j' mf w'->TR n j' tf a'.tmps->a'.defers=ds->Q .normal a' w') :
  ∀(os:RR Oper) (i:Nat) (t:Tm) (m:RN) (j:aT) (w:QT) (a:Act),ops.toList.drop i=os->iy k E n ops os t m=some (tf,mf)->Sim E j0 m0 w0 j m w->TR n j t a.tmps->a.defers=ds ->
   wpOpsIn F 0 E.P ops Q (List.range' i (ops.size-i)) a w
 | [],i,t,m,j,w,a,hd,hr,s,ht,hds=>by
  cases hr;have hlen:ops.size<=i:=by
   have:=PX List.length hd;simp at this; omega
  rw[show ops.size-i=0 by omega]
  exact hQ j w a s ht hds
 | o::os,i,t,m,j,w,a,hd,hr,s,ht,hds=>by
  have hlt:i<ops.size:=by
   have:=PX List.length hd;simp at this; omega
  have ho:ops[i]? = some o:=by
   have:=PX (·[0]?) hd
   simpa [PZ] using this
  have hd':ops.toList.drop (i+1)=os:=by
   rw[<-Qs,hd]; rfl
  have hidx:List.range' i (ops.size-i)=i::List.range' (i+1) (ops.size-(i+1)):=by
   rw[show ops.size-i=(ops.size-(i+1))+1 by omega]; rfl
  rw[hidx];simp only[wpOpsIn,ho,jz ht];simp only[iy] at hr
  split at hr
  rename_i hw;rw[OM hw]
  split at hr
  rename_i v m' he
  split at hr
  rename_i t' hp;refine tR hk s.mr ht he hF ?_;rintro v' w' ⟨j',s',hv⟩;exact kg hk hF h0 ds hQ os (i+1) t' m' j' w' _ hd' hr (s.trans h0 s') ((ht.mono s'.le).put hv hp) (by cases hds':o.dst<;>simp[Act.put,hds])
  cases hr
  cases hr
  rename_i hw;rw[OJ hw]
  split at hr
  rename_i t' hp;exact⟨fun f _=>hF.fn f,kg hk hF h0 ds hQ os (i+1) t' m j w _ hd' hr s (ht.put (VR.undef j) hp) (by cases hds':o.dst<;>simp[Act.put,hds])⟩
  cases hr
end
def wW(k:K)(E:Env)(n:Nat)(ops:RU Oper)(i:Nat)(t:Tm)(m:RN)(v:QP)(t':Tm)(m':RN)(note:Note):Prop :=
 ∃o,ops[i]? = some o/\gb n t o.dst v=some t' /\
  ((bt ops o t=true/\∃r,er k E t { m with wl:=m.next} o.op=some (v,r)/\m' ={ r with wl:=min m.wl r.wl}/\note ={ read:=bg E t o.op,wl:=r.wl,next:=m.next,wrote:=ek E t o.op,kept:=gY m r}) \/
   (bt ops o t=false/\v=undef/\m'=m/\note ={ read:=none,wl:=m.next,next:=m.next,wrote:=none,kept:=fun _=>false}))
structure Tr(k:K)(E:Env)(n:Nat)(ops:RU Oper)(i L:Nat)(T:Nat->Tm)(M:Nat->RN)(V:Nat->QP)(ns:RR Note):Prop where
 len:ns.length=L
 step:∀x,x<L->∃note,ns[x]? = some note/\wW k E n ops (i+x) (T x) (M x) (V x) (T (x+1)) (M (x+1)) note
def Ge{α:Type}(a:α)(f:Nat->α):Nat->α
 | 0=>a
 | x+1=>f x
def xR{k:K}{E:Env}{n:Nat}{ops:RU Oper}:∀(os:RR Oper) (i:Nat) (t:Tm) (m:RN) (tf:Tm) (mf:RN) (ns:RR Note),ops.toList.drop i=os->dR k E n ops os t m=some (tf,mf,ns) ->
  ∃T M V,Tr k E n ops i os.length T M V ns/\T 0=t/\M 0=m/\T os.length=tf/\M os.length=mf
 | [],i,t,m,tf,mf,ns,_,h=>by
  cases h;exact⟨fun _=>t,fun _=>m,fun _=>undef,⟨rfl,fun x hx=>O6 hx (Nat.not_lt_zero _)⟩,rfl,rfl,rfl,rfl⟩
 | o::os,i,t,m,tf,mf,ns,hd,h=>by
  have ho:ops[i]? = some o:=by
   have:=PX (·[0]?) hd
   simpa [PZ] using this
  have hd':ops.toList.drop (i+1)=os:=by rw[<-Qs,hd]; rfl
  have cons:∀(v:QP) (t1:Tm) (m1:RN) (note:Note) (ns':RR Note),wW k E n ops i t m v t1 m1 note->dR k E n ops os t1 m1=some (tf,mf,ns')->ns=note::ns' ->
    ∃T M V,Tr k E n ops i (os.length+1) T M V ns/\T 0=t/\M 0=m/\T (os.length+1)=tf/\M (os.length+1)=mf:=by
   intro v t1 m1 note ns' hst hr hns;obtain⟨T,M,V,htr,h1,h2,h3,h4⟩:=xR os (i+1) t1 m1 tf mf ns' hd' hr;refine⟨Ge t T,Ge m M,Ge v V,⟨by rw[hns]; simp[htr.len],fun x hx=>?_⟩,rfl,rfl,h3,h4⟩
   cases x with
   | zero =>
    refine⟨note,by rw[hns]; rfl,?_⟩
    show wW k E n ops i t m v (T 0) (M 0) note
    rw[h1,h2]; exact hst
   | succ x =>
    obtain⟨nt,h5,h6⟩:=htr.step x (by omega)
    refine⟨nt,by rw[hns]; simpa using h5,?_⟩
    show wW k E n ops (i+(x+1)) (T x) (M x) (V x) (T (x+1)) (M (x+1)) nt
    rw[show i+(x+1)=i+1+x by omega]; exact h6
  simp only[dR] at h
  split at h
  rename_i hw
  split at h
  rename_i v r he
  split at h
  rename_i t1 hp
  split at h
  rename_i t' m'' ns' hr;cases h;exact cons v t1 _ _ ns' ⟨o,ho,hp,.inl ⟨hw,r,he,rfl,rfl⟩⟩ hr rfl
  cases h
  cases h
  cases h
  rename_i hw
  split at h
  rename_i t1 hp
  split at h
  rename_i t' m'' ns' hr;cases h;exact cons undef t1 m _ ns' ⟨o,ho,hp,.inr ⟨by simpa using hw,rfl,rfl,rfl⟩⟩ hr rfl
  cases h
  cases h
def Sim.L7{E:Env}{j j':aT}{m r:RN}{w w':QT}(s:Sim E j { m with wl:=m.next} w j' r w'):Sim E j m w j' { r with wl:=min m.wl r.wl} w' where
 ext:=⟨s.ext.next,Nat.min_le_left _ _,fun b hb hw=>s.ext.same b hb (OH hw (Nat.min_le_right _ _)),s.ext.dead⟩
 le:=s.le
 new:=s.new
 mr:=s.mr.uL
 size:=s.size
 full:=s.full
 away:=s.away
 fresh:=fun b k h h'=>(s.fresh b k h h').imp id fun⟨b0,k0,a1,a2,a3,a4⟩=>⟨b0,k0,a1,a2,a3,O3 (Nat.min_le_right _ _) a4⟩
 frame:=fun c hc H=>s.frame c hc fun b k hb hl he=>OH (H b k hb hl he) (Nat.min_le_right _ _)
 calm:=s.calm
def aT.below(j:aT)(x:Nat):aT:=fun b=>if b<x then j b else none
def aT.bL{j:aT}{x b:Nat}{k:Blk}:j.below x b=some k↔b<x/\j b=some k:=by
 unfold aT.below
 split
 rename_i h; simp[h]
 rename_i h; simp[h]
def VR.cut{j jc:aT}{x:Nat}(hc:∀b k,jc b=some k->b<x):∀{v v':QP},VR j v v'->∀{u:QP},VR jc v u->VR (j.below x) v v':=by
 intro v v' h
 induction h with
 | junk h=>intro u _; exact .junk h
 | bool b=>intro u _; exact .bool b
 | int k n=>intro u _; exact .int k n
 | string s=>intro u _; exact .string s
 | pnil=>intro u _; exact .pnil
 | ptr h=>intro u hu; cases hu with
  | ptr h'=>exact .ptr (aT.bL.2 ⟨hc _ _ h',h⟩)
 | snil l c=>intro u _; exact .snil l c
 | slice h hm=>intro u hu; cases hu with
  | slice h' _=>exact .slice (aT.bL.2 ⟨hc _ _ h',h⟩) hm
  | sliceM h' _ _ _ _ _=>exact .slice (aT.bL.2 ⟨hc _ _ h',h⟩) hm
 | sliceM h hm h1 h2 hl hcap=>intro u hu; cases hu with
  | slice h' _=>exact .sliceM (aT.bL.2 ⟨hc _ _ h',h⟩) hm h1 h2 hl hcap
  | sliceM h' _ _ _ _ _=>exact .sliceM (aT.bL.2 ⟨hc _ _ h',h⟩) hm h1 h2 hl hcap
 | gL=>intro u _; exact .gL
 | dry=>intro u _; exact .dry
 | mnil=>intro u _; exact .mnil
 | map h=>intro u hu; cases hu with
  | map h'=>exact .map (aT.bL.2 ⟨hc _ _ h',h⟩)
 | func h1 _ h3 _ ih2 ih4=>intro u hu; cases hu with
  | func g1 g2 g3 g4=>exact .func h1 (fun i a b=>ih2 i a b (g2 i a (g1▸a))) h3 (fun i a b=>ih4 i a b (g4 i a (g3▸a)))
 | yield h h1 _ ih2=>intro u hu; cases hu with
  | yield g g1 g2=>exact .yield (aT.bL.2 ⟨hc _ _ g,h⟩) h1 (fun i a b=>ih2 i a b (g2 i a (g1▸a)))
 | nilFunc=>intro u _; exact .nilFunc
 | nilIface=>intro u _; exact .nilIface
 | agg h1 _ ih=>intro u hu; cases hu with
  | agg g1 g2=>exact .agg h1 (fun i a b=>ih i a b (g2 i a (g1▸a)))
 | tuple h1 _ ih=>intro u hu; cases hu with
  | tuple g1 g2=>exact .tuple h1 (fun i a b=>ih i a b (g2 i a (g1▸a)))
def ER.cut{j jc:aT}{x:Nat}(hc:∀b k,jc b=some k->b<x):∀{es:RR (QP×QP)} {fs gs:RR MapEntry},ER j es fs->ER jc es gs->ER (j.below x) es fs
 | [],[],_,_,_=>trivial
 | _::_,_::_,_::_,h,g=>⟨h.1.cut hc g.1,h.2.1.cut hc g.2.1,ER.cut hc h.2.2 g.2.2⟩
 | [],_::_,_,h,_=>h.elim
 | _::_,[],_,h,_=>h.elim
 | _::_,_::_,[],_,g=>g.elim
def OR.cut{j jc:aT}{x:Nat}(hc:∀b k,jc b=some k->b<x){k k':Blk}{o:RP}{o1 o2:Obj}(h:OR j k o o1)(g:OR jc k' o o2):OR (j.below x) k o o1:=by
 cases o with
 | cells cs tag =>
  cases o1 with
  | cells c e fz =>
   cases o2 with
   | cells c2 e2 fz2 =>
    refine⟨h.1,fun i v hi=>?_⟩;obtain⟨v',a,b⟩:=h.2 i v hi;obtain⟨u,_,b2⟩:=g.2 i v hi;exact⟨v',a,b.cut hc b2⟩
   | _=>exact g.elim
  | _=>exact h.elim
 | map es =>
  cases o1 with
  | map c e =>
   cases o2 with
   | map c2 e2=>exact⟨ER.cut hc h.1 g.1,h.2⟩
   | _=>exact g.elim
  | _=>exact h.elim
 | loop r =>
  cases o1 with
  | loop r1 =>
   cases o2 with
   | loop r2 =>
    refine⟨h.1,h.2.1,h.2.2.1,h.2.2.2.1,h.2.2.2.2.1,h.2.2.2.2.2.1,fun i=>?_⟩;exact(h.2.2.2.2.2.2 i).cut hc (g.2.2.2.2.2.2 i)
   | _=>exact g.elim
  | _=>exact h.elim
def fa{E:Env}{t t':Tm}:∀{xs:RR QR},(∀x∈xs,ax E t x=ax E t' x)->bH E t xs=bH E t' xs
 | [],_=>rfl
 | x::xs,h=>by
  simp only[bH];rw[h x (by simp),fa fun y hy=>h y (by simp[hy])]
def gR{E:Env}{t t':Tm}:∀{xs:RR (Nat×QR)},(∀x∈xs,ax E t x.2=ax E t' x.2)->dw E t xs=dw E t' xs
 | [],_=>rfl
 |(i,x)::xs,h=>by
  simp only[dw];rw[h (i,x) (by simp),gR fun y hy=>h y (by simp[hy])]
def jO{E:Env}{t t':Tm}{x:RI QR}(h:∀y,x=some y->ax E t y=ax E t' y):dH E t x=dH E t' x:=by
 cases x with
 | none=>rfl
 | some y=>simp only[dH,h y rfl]
def pI{E:Env}{t t':Tm}{m:RN}{o:Op}(h:∀x∈o.operands.toList,ax E t x=ax E t' x):cY E t m o=cY E t' m o:=by
 cases o<;>simp only[Op.operands] at h<;>simp only[cY]
 case build ty ps=>rw[gR fun x hx=>h x.2 (by simp; exact⟨x.1,by simpa using hx⟩)]
 case buildSlice ty n ps=>rw[gR fun x hx=>h x.2 (by simp; exact⟨x.1,by simpa using hx⟩)]
 case makeFunc fn first captured =>
  cases fn<;>simp only;rw[fa (xs:=first.toList) fun x hx=>h x (by simp at hx ⊢; exact .inl hx),fa (xs:=captured.toList) fun x hx=>h x (by simp at hx ⊢; exact .inr hx)]
 case makeMap ty r=>cases r<;>rfl
 case slice ty x lo hi mx =>
  rw[h x (by simp),jO (x:=lo) fun y hy=>h y (by simp[hy]),jO (x:=hi) fun y hy=>h y (by simp[hy]),jO (x:=mx) fun y hy=>h y (by simp[hy])]
 case call c =>
  cases hc:c.callee<;>simp only;rw[fa (xs:=c.args.toList) fun x hx=>h x (by simp[Call.operands,hc]; simpa using hx)]
 all_goals first|rfl |(simp_all; done)
def xZ{k:K}{E:Env}{t t':Tm}{m:RN}{o:Op}(h:∀x∈o.operands.toList,ax E t x=ax E t' x):er k E t m o=er k E t' m o:=by
 have hop:=pI (m:=m) h;unfold er;cases o with
 | call c =>
  simp only;cases hc:c.callee with
  | value f =>
   simp only;rw[h f (by simp[Op.operands,Call.operands,hc]),fa (xs:=c.args.toList) fun x hx=>h x (by simp[Op.operands,Call.operands,hc]; exact .inr (by simpa using hx))]
  | _=>exact hop
 | _=>exact hop
def pX(t:Tm):RR Tmp->Tm
 | []=>.nil
 | d::ds=>(pX t ds).set d (t.at d)
def lE(t:Tm):∀(S:RR Tmp) (d:Nat),(pX t S).at d=if d∈S then t.at d else undef
 | [],d=>by simp[pX,Tm.at,Trie.get_nil]
 | x::S,d=>by
  have ih:=lE t S d;simp only[Tm.at] at ih;simp only[pX,Tm.at,Trie.cu]
  by_cases h:d=x
  simp[h]
  simp only[Pb,h,false_or]; exact ih
def kF(tm:RU QP)(S:RR Tmp):RU QP:=(Array.range tm.size).map fun d=>if d∈S then tm.getD d undef else undef
def j5(tm:RU QP)(S:RR Tmp)(d:Nat):(kF tm S).getD d undef=if d∈S then tm.getD d undef else undef:=by
 unfold kF
 by_cases h:d<tm.size
 simp[h]
 have:tm.getD d undef=undef:=by simp[h]
 simp[h]
def iC:∀{l:RR QR} {d:Tmp},d∈tmpsOf l↔Operand.tmp d∈l
 | [],d=>by simp[tmpsOf]
 | x::l,d=>by
  have ih:=iC (l:=l) (d:=d);cases x<;>simp[tmpsOf,ih]
def xC{k:K}{E:Env}(hk:∀tk r,k tk=some r->cQ E tk r){j:aT}{m:RN}{w:QT}{t:Tm}{a:Act}(h:MR E j m w){o:Oper}(ht:∀d∈tmpsOf o.op.operands.toList,VR j (t.at d) (a.tmps.getD d undef)){v:QP}{m':RN}
  (e:er k E t m o.op=some (v,m')):Does E.P (execOp a.eval o) w (fA E j m w v m'):=by
 have hT:TR (kF a.tmps (tmpsOf o.op.operands.toList)).size j (pX t (tmpsOf o.op.operands.toList)) ({ tmps:=kF a.tmps (tmpsOf o.op.operands.toList),defers:=a.defers}:Act).tmps:=by
  refine⟨rfl,fun d=>?_⟩
  show VR j _ ((kF a.tmps _).getD d undef)
  rw[lE,j5]
  split
  rename_i hd; exact ht d hd
  exact VR.undef j
 have hev:∀x∈o.op.operands.toList,ax E (pX t (tmpsOf o.op.operands.toList)) x=ax E t x:=by
  intro x hx;cases x with
  | tmp d=>simp only[ax,lE,OM (iC.2 hx)]
  | _=>rfl
 have hd:=kW hk h hT (o:=o) (v:=v) (m':=m') ((xZ hev).trans e);have hex:execOp ({ tmps:=kF a.tmps (tmpsOf o.op.operands.toList),defers:=a.defers}:Act).eval o=execOp a.eval o:=by
  refine execOp_congr o (fun cs b hs=>?_) fun x hx=>?_
  rw[hs] at e; simp[er,cY] at e
  ·cases x with
   | tmp d =>
    show(kF a.tmps _).getD d undef=a.tmps.getD d undef
    rw[j5,OM (iC.2 (by simpa using hx))]
   | _=>rfl
 rw[hex] at hd;exact hd
end Go.Ab
