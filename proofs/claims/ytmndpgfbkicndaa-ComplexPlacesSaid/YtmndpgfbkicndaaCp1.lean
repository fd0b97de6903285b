/- A part of the proof. -/
import Derived.RangeFuncRecord
import Derived.RangeFuncLeaves
import Derived.Laws.Cells
import Derived.Laws.Entries
import Derived.Laws.StructEq
import Derived.IntWalk
import Derived.OrdersIn
import Derived.LeavingIn
set_option linter.all false
universe u
abbrev TN:=@Option
abbrev TO:=@List
abbrev TP:=Unit
abbrev TW:=@Array
abbrev QF:=@if_neg
abbrev QG:=@List.getElem?_eq_getElem
abbrev QH:=@if_pos
abbrev QI:=@Decidable.byContradiction
abbrev QJ:=@Bool.and_eq_true
abbrev QK:=@Nat.le_refl
abbrev QL:=@Option.some.inj
abbrev QM:=@decide_eq_true
abbrev QN:=@List.getD_eq_getElem?_getD
abbrev QO:=@decide_eq_false
abbrev QP:=@Array.getElem?_eq_some_iff
abbrev QQ:=@List.mem_cons_of_mem
abbrev QR:=@decide_eq_true_eq
abbrev QS:=@List.all_eq_true
abbrev QT:=@Nat.lt_of_lt_of_le
abbrev QU:=@List.getElem?_eq_some_iff
abbrev QV:=@List.length_append
abbrev QW:=@List.mem_singleton
abbrev QX:=@List.length_take
abbrev QY:=@List.mem_cons
abbrev QZ:=@Option.map_some
abbrev Q0:=@List.length_map
abbrev Q1:=@absurd
abbrev Q2:=@List.pairwise_cons
abbrev Q3:=@List.mem_append
abbrev Q4:=@List.mem_of_getElem?
abbrev Q5:=@List.getElem_mem
abbrev Q6:=@List.getElem?_cons_zero
abbrev Q7:=@List.mem_cons_self
abbrev Q8:=@Bool.false_eq_true
abbrev Q9:=@Option.bind_some
abbrev Ra:=@Nat.zero_add
abbrev Rb:=@Int.toNat_natCast
abbrev Rc:=@Nat.le_trans
abbrev Re:=@List.getElem?_toArray
abbrev Rf:=@congrArg
abbrev Rg:=@List.mem_append_left
abbrev Rh:=@List.length_eq_zero_iff
abbrev Ri:=@List.mem_iff_getElem
abbrev Rj:=@List.mem_map
abbrev Rk:=@List.getElem?_append_right
abbrev Rl:=@List.length_cons
abbrev Rm:=@List.getElem?_cons_succ
abbrev Ro:=@Bool.decide_and
abbrev Rp:=@List.getElem?_append_left
abbrev Rq:=@Bool.not_false
abbrev Rr:=@List.append_nil
abbrev Rs:=@List.mem_append_right
abbrev Rt:=@List.length_drop
abbrev Ru:=@Nat.mod_lt
abbrev Rv:=@Bool.not_true
abbrev Rw:=@List.getElem?_map
abbrev Rx:=@List.flatten_cons
abbrev Ry:=@List.append_assoc
abbrev Rz:=@Prod.ext
abbrev RA:=@Nat.lt_or_ge
abbrev RB:=@List.mem_range
abbrev RC:=@List.getElem?_eq_none
abbrev RD:=@Bool.not_eq_true'
abbrev RE:=@Bool.true_and
abbrev RF:=@Nat.zero_le
abbrev RG:=@List.ext_getElem?
abbrev RH:=@Nat.le_of_ble_eq_true
abbrev RI:=@Nat.eq_of_beq_eq_true
abbrev RJ:=@Classical.choose_spec
abbrev RK:=@List.getElem?_take
abbrev RL:=@List.getElem?_drop
abbrev RM:=@Nat.mul_le_mul_right
abbrev RN:=@Int.mul_le_mul_of_nonneg_right
abbrev RO:=@Bool.or_eq_true
abbrev RP:=@Bool.false_ne_true
abbrev RQ:=@List.map_cons
abbrev RR:=@List.nil_append
abbrev RS:=@Int.mul_eq_zero
abbrev RT:=@Array.toList_inj
abbrev RU:=@Bool.and_self
abbrev RV:=@Nat.add_zero
abbrev RX:=@List.flatten_append
abbrev RY:=@Int.toNat_of_nonneg
abbrev RZ:=@Rat.intCast_mul
abbrev R0:=@List.mem_flatMap
abbrev R1:=@List.head_eq_of_cons_eq
abbrev R2:=@List.pairwise_append
abbrev R3:=@List.mem_of_mem_take
abbrev R4:=@List.mem_of_mem_drop
abbrev R5:=@Int.mul_le_mul_of_nonneg_left
abbrev R6:=@List.take_of_length_le
abbrev R7:=@Int.mul_nonneg_of_nonpos_of_nonpos
abbrev R8:=@Int.mul_nonneg
abbrev R9:=@Nat.mod_eq_of_lt
abbrev Sa:=@Array.getElem?_setIfInBounds_ne
abbrev Sb:=@List.nodup_cons
abbrev Sc:=@Nat.succ_mul
abbrev Sd:=@Nat.sub_zero
abbrev Se:=@List.getElem!_eq_getElem?_getD
abbrev Sf:=@Array.getElem?_eq_getElem
abbrev Sh:=@Array.length_toList
abbrev Si:=@Array.getElem?_push
abbrev Sj:=@List.eq_nil_of_length_eq_zero
abbrev Sk:=@List.all_cons
abbrev Sl:=@Array.getElem?_setIfInBounds
abbrev Sm:=@Nat.add_mul
abbrev Sn:=@List.cons_append
abbrev Sp:=@Int.eq_ofNat_of_zero_le
abbrev Sq:=@List.size_toArray
abbrev Sr:=@List.map_eq_nil_iff
abbrev Ss:=@Nat.lt_succ_self
abbrev St:=@Int.nonneg_of_mul_nonneg_right
abbrev Su:=@Array.eq_empty_of_size_eq_zero
abbrev Sv:=@Bool.true_or
abbrev Sw:=@List.getElem?_append
abbrev Sx:=@List.drop_zero
abbrev Sy:=@List.drop_drop
abbrev Sz:=@List.flatMap_cons
abbrev SA:=@Nat.blt_eq
abbrev SB:=@List.length_set
abbrev SC:=@List.mergeSort_perm
abbrev SD:=@Nat.ne_of_beq_eq_false
abbrev SE:=@Nat.le_of_eq
abbrev SF:=@Bool.or_true
abbrev SG:=@Int.mul_pos
abbrev SH:=@Nat.mul_le_mul
abbrev SI:=@Array.ext_getElem?
abbrev SJ:=@Rat.intCast_add
abbrev SK:=@List.all_append
abbrev SL:=@Array.replicate
abbrev SM:=@Nat.zero_mul
abbrev SN:=@Nat.sub_self
abbrev SO:=TO (TO Int×TO (TO Int))
abbrev SP:=Int×Int×Int×Int
abbrev SQ:=TO (Int×Int)
abbrev SR:=TO (TO Int)
abbrev SV:=Nat->Prop
def S8{c:Prop}{h0:Decidable c}{α:Sort u}{t e:α}(h:¬c:=by omega):ite c t e=e:=if_neg h
def S9{c:Prop}{h0:Decidable c}{α:Sort u}{t e:α}(h:c:=by omega):ite c t e=t:=if_pos h
section
open Go
abbrev TX:=@Result.andThen_ok
abbrev TY:=@Sem.run_bind
abbrev TZ:=@Sem.run_pure
abbrev T0:=@run_underlying
abbrev T1:=FuncId
abbrev SS:=TO (TO Value)
abbrev SU:=TN Addr
abbrev SX:=Value
abbrev SY:=TypeId
abbrev SZ:=Operand
abbrev S0:=Program
abbrev S5:=World
abbrev S6:=IntKind.wrap .i64
abbrev S7:Nat:=(0:Int).toNat
end
namespace Go.Ab
open Go
structure F8(α:Type) where
 a:α
 b:α
 c:α
 d:α
 e:α
 f:α
 g:α
 h:α
def F8.all{α:Type}(x:α):F8 α:=⟨x,x,x,x,x,x,x,x⟩
def F8.Lv{α:Type}(x:F8 α)(i:Nat):α :=
 match i with
 | 0=>x.a
 | 1=>x.b
 | 2=>x.c
 | 3=>x.d
 | 4=>x.e
 | 5=>x.f
 | 6=>x.g
 | _=>x.h
def F8.put{α:Type}(x:F8 α)(i:Nat)(v:α):F8 α :=
 match i with
 | 0=>{ x with a:=v}
 | 1=>{ x with b:=v}
 | 2=>{ x with c:=v}
 | 3=>{ x with d:=v}
 | 4=>{ x with e:=v}
 | 5=>{ x with f:=v}
 | 6=>{ x with g:=v}
 | _=>{ x with h:=v}
def F8.Cq{α:Type}(x:F8 α)(i j:Nat)(v:α)(hi:i<8)(hj:j<8):(x.put i v).Lv j=if j=i then v else x.Lv j:=by
 have h1:i=0\/i=1\/i=2\/i=3\/i=4\/i=5\/i=6\/i=7:=by omega
 have h2:j=0\/j=1\/j=2\/j=3\/j=4\/j=5\/j=6\/j=7:=by omega
 rcases h1 with rfl|rfl|rfl|rfl|rfl|rfl|rfl|rfl<;>rcases h2 with rfl|rfl|rfl|rfl|rfl|rfl|rfl|rfl<;>rfl
def F8.re{α:Type}(x:α)(i:Nat):(F8.all x).Lv i=x:=by
 unfold F8.Lv F8.all; split<;>rfl
def F8.getM{M β:Type}(sz:Nat)(g:M->Nat->β)(x:F8 M)(i:Nat):β:=g (x.Lv (i/sz)) (i%sz)
def F8.Db{M β:Type}(sz:Nat)(s:M->Nat->β->M)(x:F8 M)(i:Nat)(v:β):F8 M:=x.put (i/sz) (s (x.Lv (i/sz)) (i%sz) v)
def F8.mL{M β:Type}{sz:Nat}{g:M->Nat->β}{s:M->Nat->β->M}(hsz:0<sz)(hl:∀m i j v,i<sz->j<sz->g (s m i v) j=if j=i then v else g m j)(x:F8 M)(i j:Nat)(v:β)(hi:i<8*sz)(hj:j<8*sz) :
  F8.getM sz g (F8.Db sz s x i v) j=if j=i then v else F8.getM sz g x j:=by
 have h1:i/sz<8:=(Nat.div_lt_iff_lt_mul hsz).2 hi;have h2:j/sz<8:=(Nat.div_lt_iff_lt_mul hsz).2 hj;unfold F8.getM F8.Db;rw[F8.Cq _ _ _ _ h1 h2];have e1:=Nat.div_add_mod i sz;have e2:=Nat.div_add_mod j sz
 by_cases h:j/sz=i/sz
 rw[QH h,hl _ _ _ _ (Ru _ hsz) (Ru _ hsz)]
 by_cases h':j%sz=i%sz
 have:j=i:=by rw[<-e1,<-e2,h,h']
 rw[QH h',QH this]
 have:j≠i:=fun e=>h' (by rw[e])
 rw[QF h',QF this,h]
 have:j≠i:=fun e=>h (by rw[e])
 rw[QF h,QF this]
abbrev CC(α:Type):=F8 (F8 α)
abbrev Ba(α:Type):=F8 (CC α)
abbrev uw(α:Type):=F8 (Ba α)
abbrev p5(α:Type):=F8 (uw α)
def xG{α:Type}:CC α->Nat->α:=F8.getM 8 F8.Lv
def pD{α:Type}:Ba α->Nat->α:=F8.getM 64 xG
def oD{α:Type}:uw α->Nat->α:=F8.getM 512 pD
def lV{α:Type}:p5 α->Nat->α:=F8.getM 4096 oD
def JV{α:Type}:CC α->Nat->α->CC α:=F8.Db 8 F8.put
def AW{α:Type}:Ba α->Nat->α->Ba α:=F8.Db 64 JV
def Bq{α:Type}:uw α->Nat->α->uw α:=F8.Db 512 AW
def yH{α:Type}:p5 α->Nat->α->p5 α:=F8.Db 4096 Bq
def CQ{α:Type}(x:CC α)(i j:Nat)(v:α)(hi:i<64)(hj:j<64):xG (JV x i v) j=if j=i then v else xG x j :=
 F8.mL (by omega) (fun m i j v hi hj=>F8.Cq m i j v hi hj) x i j v (by omega) (by omega)
def sj{α:Type}(x:Ba α)(i j:Nat)(v:α)(hi:i<512)(hj:j<512):pD (AW x i v) j=if j=i then v else pD x j :=
 F8.mL (by omega) (fun m i j v hi hj=>CQ m i j v hi hj) x i j v (by omega) (by omega)
def yU{α:Type}(x:uw α)(i j:Nat)(v:α)(hi:i<4096)(hj:j<4096):oD (Bq x i v) j=if j=i then v else oD x j :=
 F8.mL (by omega) (fun m i j v hi hj=>sj m i j v hi hj) x i j v (by omega) (by omega)
def wB{α:Type}(x:p5 α)(i j:Nat)(v:α)(hi:i<32768)(hj:j<32768):lV (yH x i v) j=if j=i then v else lV x j :=
 F8.mL (by omega) (fun m i j v hi hj=>yU m i j v hi hj) x i j v (by omega) (by omega)
def G3{α:Type}(x:α):CC α:=F8.all (F8.all x)
def vc{α:Type}(x:α):Ba α:=F8.all (G3 x)
def wY{α:Type}(x:α):uw α:=F8.all (vc x)
def rR{α:Type}(x:α):p5 α:=F8.all (wY x)
def C7{α:Type}(x:α)(i:Nat):xG (G3 x) i=x:=by simp[xG,G3,F8.getM,F8.re]
def tj{α:Type}(x:α)(i:Nat):pD (vc x) i=x:=by simp[pD,vc,F8.getM,F8.re,C7]
def y9{α:Type}(x:α)(i:Nat):oD (wY x) i=x:=by simp[oD,wY,F8.getM,F8.re,tj]
def wD{α:Type}(x:α)(i:Nat):lV (rR x) i=x:=by simp[lV,rR,F8.getM,F8.re,y9]
def G9{α:Type}:TO (Nat×α)->Nat->TN α
 | [],_=>none
 |(i,v)::l,j=>if j=i then some v else G9 l j
structure Trie(α:Type) where
 lo:Ba (TN α)
 hi:TO (Nat×α)
def Trie.nil{α:Type}:Trie α:=⟨vc none,[]⟩
def Trie.get{α:Type}(t:Trie α)(n:Nat):TN α:=if n<512 then pD t.lo n else G9 t.hi n
def Trie.set{α:Type}(t:Trie α)(n:Nat)(v:α):Trie α:=if n<512 then{ t with lo:=AW t.lo n (some v)} else{ t with hi:=(n,v)::t.hi}
def Trie.get_nil{α:Type}(n:Nat):(Trie.nil:Trie α).get n=none:=by
 unfold Trie.get Trie.nil
 split
 exact tj _ _
 rfl
def Trie.bl{α:Type}(t:Trie α)(n m:Nat)(v:α):(t.set n v).get m=if m=n then some v else t.get m:=by
 unfold Trie.set Trie.get
 by_cases h1:n<512<;>by_cases h2:m<512<;>simp only[h1,h2,if_true,if_false]
 rw[sj _ _ _ _ h1 h2]
 rw[S8]
 rw[S8]
 rfl
structure Heap(α:Type) where
 lo:p5 (TN α)
 hi:TO (Nat×α)
def Heap.nil{α:Type}:Heap α:=⟨rR none,[]⟩
def Heap.get{α:Type}(t:Heap α)(n:Nat):TN α:=if n<32768 then lV t.lo n else G9 t.hi n
def Heap.set{α:Type}(t:Heap α)(n:Nat)(v:α):Heap α:=if n<32768 then{ t with lo:=yH t.lo n (some v)} else{ t with hi:=(n,v)::t.hi}
def Heap.get_nil{α:Type}(n:Nat):(Heap.nil:Heap α).get n=none:=by
 unfold Heap.get Heap.nil
 split
 exact wD _ _
 rfl
def Heap.bl{α:Type}(t:Heap α)(n m:Nat)(v:α):(t.set n v).get m=if m=n then some v else t.get m:=by
 unfold Heap.set Heap.get
 by_cases h1:n<32768<;>by_cases h2:m<32768<;>simp only[h1,h2,if_true,if_false]
 rw[wB _ _ _ _ h1 h2]
 rw[S8]
 rw[S8]
 rfl
def Trie.ofList{α:Type}:TO α->Nat->Trie α->Trie α
 | [],_,t=>t
 | v::vs,i,t=>Trie.ofList vs (i+1) (t.set i v)
abbrev Tm:=Trie SX
def Tm.at(t:Tm)(i:Nat):SX:=(Trie.get t i).getD undef
inductive Tag where
 | ro
 | own
 | more (sz:Nat)
 deriving DecidableEq
structure ALoop where
 state:LoopState
 pending:TN Code
 fn:T1
 tmps:Tm
 n:Nat
 params:TW Tmp
 assign:Code
 body:Code
inductive TU where
 | cells (cs:TO SX) (tag:Tag)
 | map (es:TO (SX×SX))
 | loop (r:ALoop)
structure TS where
 next:Nat
 wl:Nat
 objs:Heap (TN TU)
 base:Nat->TN TU
def TS.get(m:TS)(b:Nat):TN TU :=
 match m.objs.get b with
 | some x=>x
 | none=>m.base b
def TS.set(m:TS)(b:Nat)(o:TU):TS:={ m with objs:=m.objs.set b (some o),wl:=min m.wl b}
def TS.kill(m:TS)(b:Nat):TS:={ m with objs:=m.objs.set b none,wl:=min m.wl b}
def TS.alloc(m:TS)(o:TU):TS:={ m with next:=m.next+1,objs:=m.objs.set m.next (some o)}
def ptr(b:Nat)(o:Nat):SX:=.pointer (some ⟨b,o,none⟩)
def TS.cells(m:TS)(b:Nat):TN (TO SX×Tag) :=
 match m.get b with
 | some (.cells cs tag)=>some (cs,tag)
 | _=>none
def TS.dQ(m:TS)(b o n:Nat):TN (TO SX) :=
 match m.get b with
 | some (.cells cs _)=>let l:=(cs.drop o).take n; if l.length=n then some l else none
 | _=>none
def ay:TO SX->Nat->TO SX->TO SX
 | cs,0,[]=>cs
 | [],0,_=>[]
 | _::cs,0,v::vs=>v::ay cs 0 vs
 | [],_+1,_=>[]
 | c::cs,o+1,vs=>c::ay cs o vs
def TS.cM(m:TS)(b o:Nat)(vs:TO SX):TN TS :=
 match vs with
 | []=>some m
 | _=>match m.get b with
  | some (.cells _ .ro)=>none
  | some (.cells cs tag)=>if o+vs.length<=cs.length then some (m.set b (.cells (ay cs o vs) tag)) else none
  | _=>none
def j8:SX->Bool
 | .agg _|.tuple _=>false
 | _=>true
def aV(vs:TO SX):Bool:=vs.all j8
structure Prim where
 run:TO SX->TS->TN (SX×TS)
structure Env where
 P:S0
 glob:Nat
 cH:T1->TN Prim
 mono:Prop:=True
def aP:SX->Bool
 | .bool _|.int _ _|.string _|.pointer none|.slice none _ _|.map none|.nilFunc|.nilIface=>true
 | _=>false
def bB:SX->Bool
 | .agg cs=>cs.toList.all aP
 | .tuple cs=>cs.toList.all aP
 | v=>aP v
def an(E:Env)(t:Tm):SZ->TN SX
 | .tmp i=>some (t.at i)
 | .const v=>if bB v then some v else none
 | .global g=>if g<E.glob then some (ptr g 0) else none
 | .func f=>some (.func (.func f) #[] #[])
def bq(E:Env)(t:Tm):TO SZ->TN (TO SX)
 | []=>some []
 | x::xs=>match an E t x,bq E t xs with
  | some v,some vs=>some (v::vs)
  | _,_=>none
def dD(P:S0)(t:SY):Bool :=
 match P.underlying t with
 | some (.struct _)|some (.array _ _)=>true
 | _=>false
def known(P:S0)(t:SY):Bool:=(P.underlying t).isSome &&(P.info? t).isSome
def aB(P:S0)(t:SY):Nat:=P.cellsOf t
def bj(P:S0)(t:SY):TN SX:=(P.info? t).bind (·.zero)
def cX(P:S0)(t:SY)(cs:TW SX)(off:Nat):TN SX :=
 if !known P t then none else
 if dD P t then some (.agg (cs.extract off (off+aB P t)))
 else cs[off]?
def gF(eq:SY->SX->SX->TN Bool)(P:S0)(xs ys:TW SX):TO (SY×Nat)->TN Bool
 | []=>some true
 | (t,off)::rest =>
  match cX P t xs off,cX P t ys off with
  | some x,some y=>match eq t x y with
   | some true=>gF eq P xs ys rest
   | r=>r
  | _,_=>none
def jK(P:S0):Nat->SY->SX->SX->TN Bool
 | 0,_,_,_=>none
 | d+1,t,x,y =>
  match P.underlying t,x,y with
  | some .bool,.bool a,.bool b=>some (a==b)
  | some (.int _),.int k a,.int k' b=>if k=k' then some (a==b) else none
  | some .string,.string a,.string b=>some (a==b)
  | some (.pointer _),.pointer none,.pointer b=>some b.isNone
  | some (.pointer _),.pointer (some _),.pointer none=>some false
  | some (.slice _),.slice none _ _,.slice b _ _=>some b.isNone
  | some (.slice _),.slice (some _) _ _,.slice none _ _=>some false
  | some (.map _ _),.map none,.map b=>some b.isNone
  | some (.map _ _),.map (some _),.map none=>some false
  | some (.func _ _ _),.nilFunc,.nilFunc=>some true
  | some (.func _ _ _),.nilFunc,.func _ _ _=>some false
  | some (.func _ _ _),.func _ _ _,.nilFunc=>some false
  | some (.struct fs),.agg xs,.agg ys =>
   if P.stoodInHeld t || fs.any (·.name == "_") then none else
   gF (jK P d) P xs ys (fs.toList.map fun f=>(f.type,f.offset))
  | some (.array len elem),.agg xs,.agg ys=>if known P elem then gF (jK P d) P xs ys ((List.range len).map fun i=>(elem,i*aB P elem)) else none
  | _,_,_=>none
def bR(op:BinOp)(xType:SY)(P:S0)(x y:SX):TN SX :=
 match op,x,y with
 | .shl,.int k a,.int _ b=>if b<0 then none else some (.int k (k.wrap (a*2 ^ (min b.toNat k.bits))))
 | .shr,.int k a,.int _ b=>if b<0 then none else some (.int k (a.fdiv (2 ^ (min b.toNat k.bits))))
 | .eql,.int k a,.int k' b=>if k=k' then some (.bool (a==b)) else none
 | .neq,.int k a,.int k' b=>if k=k' then some (.bool (a != b)) else none
 | .lss,.int k a,.int k' b=>if k=k' then some (.bool (decide (a<b))) else none
 | .leq,.int k a,.int k' b=>if k=k' then some (.bool (decide (a<=b))) else none
 | .gtr,.int k a,.int k' b=>if k=k' then some (.bool (decide (a>b))) else none
 | .geq,.int k a,.int k' b=>if k=k' then some (.bool (decide (a≥b))) else none
 | .add,.int k a,.int k' b=>if k=k' then some (.int k (k.wrap (a+b))) else none
 | .sub,.int k a,.int k' b=>if k=k' then some (.int k (k.wrap (a-b))) else none
 | .mul,.int k a,.int k' b=>if k=k' then some (.int k (k.wrap (a*b))) else none
 | .quo,.int k a,.int k' b=>if k=k' then(if b=0 then none else some (.int k (k.wrap (a.tdiv b)))) else none
 | .rem,.int k a,.int k' b=>if k=k' then(if b=0 then none else some (.int k (a.tmod b))) else none
 | .and,.int k a,.int k' b=>if k=k' then some (.int k (k.wrap (BitVec.ofInt k.bits a &&& BitVec.ofInt k.bits b).toNat)) else none
 | .or,.int k a,.int k' b=>if k=k' then some (.int k (k.wrap (BitVec.ofInt k.bits a ||| BitVec.ofInt k.bits b).toNat)) else none
 | .xor,.int k a,.int k' b=>if k=k' then some (.int k (k.wrap (BitVec.ofInt k.bits a ^^^ BitVec.ofInt k.bits b).toNat)) else none
 | .andNot,.int k a,.int k' b=>if k=k' then some (.int k (k.wrap (BitVec.ofInt k.bits a &&& ~~~ BitVec.ofInt k.bits b).toNat)) else none
 | .eql,.string a,.string b=>some (.bool (a==b))
 | .neq,.string a,.string b=>some (.bool (a != b))
 | _,.string _,_=>none
 | .eql,.agg xs,.agg ys=>if P.eqGuardType P.depth xType then none else(jK P Op.maxDepth xType (.agg xs) (.agg ys)).map .bool
 | .neq,.agg xs,.agg ys=>if P.eqGuardType P.depth xType then none else(jK P Op.maxDepth xType (.agg xs) (.agg ys)).map fun b=>.bool (!b)
 | .eql,x,y=>match x with
  | .bool _|.pointer _|.slice _ _ _|.map _|.func _ _ _|.nilFunc=>(jK P Op.maxDepth xType x y).map .bool
  | _=>none
 | .neq,x,y=>match x with
  | .bool _|.pointer _|.slice _ _ _|.map _|.func _ _ _|.nilFunc=>(jK P Op.maxDepth xType x y).map fun b=>.bool (!b)
  | _=>none
 | _,_,_=>none
def Dz(op:UnOp)(x:SX):TN SX :=
 match op,x with
 | .neg,.int k n=>some (.int k (k.wrap (0-n)))
 | .xor,.int k n=>some (.int k (k.wrap (BitVec.ofInt k.bits (if k.signed then -1 else k.max) ^^^ BitVec.ofInt k.bits n).toNat))
 | .not,.bool b=>some (.bool !b)
 | _,_=>none
def jS(P:S0)(src dst:SY)(x:SX):TN SX :=
 match P.underlying src,P.underlying dst,x with
 | some _,some (.int k),.int _ n=>some (.int k (k.wrap n))
 | some _,some .string,.string s=>some (.string s)
 | _,_,_=>none
def iK(place:Nat->TN (Nat×Nat))(cells:TO SX):TO (Nat×SX)->TN (TO SX)
 | []=>some cells
 | (i,v)::rest =>
  match place i with
  | none=>none
  | some (off,size) =>
   if v.cells.size≠size||off+v.cells.size>cells.length then none
   else iK place (ay cells off v.cells.toList) rest
def dU(E:Env)(t:Tm):TO (Nat×SZ)->TN (TO (Nat×SX))
 | []=>some []
 |(i,x)::xs=>match an E t x,dU E t xs with
  | some v,some vs=>some ((i,v)::vs)
  | _,_=>none
def lH(P:S0)(t:SY)(parts:TO (Nat×SX)):TN SX :=
 match bj P t,P.underlying t with
 | some z,some (.struct fields) =>
  if fields.toList.all (fun f=>known P f.type) then
   (iK (fun i=>(fields[i]?).map fun f=>(f.offset,aB P f.type)) z.cells.toList parts).map fun cs=>.agg cs.toArray
  else none
 | some z,some (.array _ elem) =>
  if known P elem then(iK (fun i=>some (i*aB P elem,aB P elem)) z.cells.toList parts).map fun cs=>.agg cs.toArray else none
 | _,_=>none
def bf(zero:TO SX):Nat->TO SX
 | 0=>[]
 | n+1=>zero++bf zero n
def ff(P:S0)(elem:SY)(n:Nat):TN (TO SX) :=
 match bj P elem with
 | some z=>if z.cells.size=aB P elem then some (bf z.cells.toList n) else none
 | none=>none
def iX(x:SX)(y:Nat):TN Nat :=
 match x with
 | .int _ i=>if 0<=i/\i<=y then some i.toNat else none
 | _=>none
def bK(len cap:Nat)(low high max:TN SX):TN (Nat×Nat×Nat) :=
 match(match max with|some v=>iX v cap|none=>some cap) with
 | none=>none
 | some m =>
  match(match high,max with|some v,_=>iX v m|none,none=>some len|none,some _=>none) with
  | none=>none
  | some h =>
   match(match low with|some v=>iX v h|none=>some 0) with
   | none=>none
   | some l=>some (l,h,m)
def fU(b:Nat):SX:=.slice (some ⟨b,0,some 0⟩) 0 0
def dF(E:Env)(t:Tm):TN SZ->TN (TN SX)
 | none=>some none
 | some x=>(an E t x).map some
def bP(P:S0)(xType:SY)(x:SX)(low high max:TN SX)(m:TS):TN SX :=
 match P.underlying xType,x with
 | some (.slice elem),.slice none len cap =>
  if known P elem then
   match bK len cap low high max with
   | some (l,h,mx)=>some (.slice none (h-l) (mx-l))
   | none=>none
  else none
 | some (.slice elem),.slice (some ⟨b,o,none⟩) len cap =>
  if known P elem then
   match m.get b with
   | some (.cells _ (.more sz)) =>
    if sz≠aB P elem then none else
    match max with
    | none=>match bK len cap low high none with
     | some (l,h,_)=>if cap=l then some (fU b) else some (.slice (some ⟨b,o+l*aB P elem,none⟩) (h-l) (cap-l))
     | none=>none
    | some mv =>
     match bK len cap low high (some mv) with
     | some (l,h,mx)=>if mx=l/\h=l then some (.slice (some ⟨b,0,some 1⟩) 0 0) else some (.complex .f64 0 0)
     | none=>none
   | some (.cells _ _) =>
    match bK len cap low high max with
    | some (l,h,mx)=>some (.slice (some (if mx=l then⟨b,o,none⟩ else⟨b,o+l*aB P elem,none⟩)) (h-l) (mx-l))
    | none=>none
   | _=>none
  else none
 | some (.slice elem),.slice (some ⟨b,_,some sp⟩) 0 0 =>
  if known P elem then
   match bK 0 0 low high max with
   | some _=>some (.slice (some ⟨b,0,some sp⟩) 0 0)
   | none=>none
  else none
 | some (.array n elem),.pointer (some ⟨b,o,none⟩) =>
  if known P elem then
   match m.get b with
   | some (.cells _ (.more _))=>none
   | some (.cells _ _) =>
    match bK n n low high max with
    | some (l,h,mx)=>some (.slice (some (if mx=l then⟨b,o,none⟩ else⟨b,o+l*aB P elem,none⟩)) (h-l) (mx-l))
    | none=>none
   | _=>none
  else none
 | _,_=>none
def aD(P:S0)(s:SY)(x:SX)(f:Nat):TN SX :=
 match P.underlying s,x with
 | some (.struct fields),.pointer (some ⟨b,o,none⟩) =>
  match fields[f]? with
  | some fl=>if known P fl.type&&aB P fl.type != 0 then some (ptr b (o+fl.offset)) else none
  | none=>none
 | _,_=>none
def bW(P:S0)(t:SY)(x index:SX):TN SX :=
 match P.underlying t,x,index with
 | some (.array len elem),.pointer (some ⟨b,o,none⟩),.int _ i =>
  if known P elem&&decide (0<=i/\i<len) then some (ptr b (o+i.toNat*aB P elem)) else none
 | some (.slice elem),.slice (some ⟨b,o,none⟩) len _,.int _ i =>
  if known P elem&&decide (0<=i/\i<len) then some (ptr b (o+i.toNat*aB P elem)) else none
 | _,_,_=>none
def B9(P:S0)(t:SY)(x:SX):TN SX :=
 match P.underlying t,x with
 | some (.array n _),.slice (some ⟨b,o,none⟩) len _=>if n<=len then some (ptr b o) else none
 | _,_=>none
def fZ(P:S0)(t:SY)(x index:SX):TN SX :=
 match P.underlying t,x,index with
 | some (.array len elem),.agg cs,.int _ i=>if 0<=i/\i<len then cX P elem cs (i.toNat*aB P elem) else none
 | some .string,.string s,.int _ i=>if 0<=i then(s[i.toNat]?).map fun b=>.int .u8 b.toNat else none
 | _,_,_=>none
def gW(P:S0)(t:SY)(x:SX)(f:Nat):TN SX :=
 match P.underlying t,x with
 | some (.struct fields),.agg cs =>
  match fields[f]? with
  | some fl=>cX P fl.type cs fl.offset
  | none=>none
 | _,_=>none
def dK(P:S0)(t:SY)(a:SX)(m:TS):TN SX :=
 match a with
 | .pointer (some ⟨b,o,none⟩) =>
  if !known P t then none else
  if dD P t then(m.dQ b o (aB P t)).map fun cs=>.agg cs.toArray
  else match m.get b with
   | some (.cells cs _)=>cs[o]?
   | _=>none
 | _=>none
def ga(P:S0)(t:SY)(a v:SX)(m:TS):TN TS :=
 match a with
 | .pointer (some ⟨b,o,none⟩) =>
  if known P t&&v.cells.size==aB P t&&aV v.cells.toList then m.cM b o v.cells.toList else none
 | _=>none
def lR(P:S0)(keyType:SY)(k:SX):TO (SX×SX)->Nat->TN (TN (Nat×SX))
 | [],_=>some none
 | e::es,i =>
  match jK P Op.maxDepth keyType k e.1 with
  | some true=>some (some (i,e.2))
  | some false=>lR P keyType k es (i+1)
  | none=>none
def cZ(P:S0)(t:SY):Bool :=
 match P.underlying t with
 | some (.int _)|some .string|some .bool=>true
 | _=>false
def jJ(P:S0)(t:SY)(v:SX):Bool :=
 match P.underlying t,v with
 | some (.int _),.int _ _|some .string,.string _|some .bool,.bool _=>true
 | some (.array len elem),.agg cs=>cZ P elem&&known P elem&&aB P elem==1&&cs.size==len&&cs.toList.all aP
 | some (.struct fs),.agg cs=>fs.toList.all (fun f=>cZ P f.type&&known P f.type&&decide (f.offset<cs.size))&&cs.toList.all aP
 | _,_=>false
def mapOf(m:TS)(x:SX):TN (TO (SX×SX)) :=
 match x with
 | .map none=>some []
 | .map (some r)=>match m.get r with
  | some (.map es)=>some es
  | _=>none
 | _=>none
def ie(P:S0)(xType:SY)(x index:SX)(commaOk:Bool)(m:TS):TN SX :=
 match P.underlying xType with
 | some (.map key elem) =>
  match mapOf m x,bj P elem with
  | some es,some z =>
   if jJ P key index then
    match lR P key index es 0 with
    | some (some (_,v))=>some (if commaOk then .tuple #[v,.bool true] else v)
    | some none=>if bB z then some (if commaOk then .tuple #[z,.bool false] else z) else none
    | none=>none
   else none
  | _,_=>none
 | _=>none
def pU:TO (SX×SX)->Nat->SX->SX->TO (SX×SX)
 | [],_,k,v=>[(k,v)]
 | _::es,0,k,v=>(k,v)::es
 | e::es,n+1,k,v=>e::pU es n k v
def qY(es:TO (SX×SX))(i:Nat)(key:SX):Bool :=
 match es[i]? with
 | some e=>bB e.1&&Instr.sameBits 10000 e.1 key
 | none=>false
def iO(P:S0)(mapType:SY)(x key value:SX)(m:TS):TN TS :=
 match P.underlying mapType,x with
 | some (.map kt _),.map (some r) =>
  match m.get r with
  | some (.map es) =>
   if jJ P kt key then
    match lR P kt key es 0 with
    | some (some (i,_)) =>
     if qY es i key then some (m.set r (.map (pU es i key value))) else none
    | some none=>some (m.set r (.map (es++[(key,value)])))
    | none=>none
   else none
  | _=>none
 | _,_=>none
def q9(P:S0)(mapType:SY)(x key:SX)(m:TS):TN TS :=
 match P.underlying mapType,x with
 | some (.map kt _),.map (some r) =>
  match m.get r with
  | some (.map es) =>
   if jJ P kt key then
    match lR P kt key es 0 with
    | some (some (i,_))=>some (m.set r (.map (es.eraseIdx i)))
    | some none=>some m
    | none=>none
   else none
  | _=>none
 | _,_=>none
def cN(sz:Nat)(x:SX)(n:Nat)(m:TS):TN (TO SX) :=
 match x with
 | .slice none _ _=>if n=0 then some [] else none
 | .slice (some ⟨b,o,none⟩) _ _=>if n=0 then some [] else m.dQ b o (n*sz)
 | .slice (some ⟨_,_,some _⟩) _ _=>if n=0 then some [] else none
 | _=>none
def dv(bytes need:Nat):Bool:=(2*need+2000)*bytes<=2 ^ 48
def eA(P:S0)(elem:SY)(xType:TN SY)(x:SX)(m:TS):TN (Nat×TO SX) :=
 match xType.bind P.underlying,x with
 | some (.slice _),.slice a l c=>(cN (aB P elem) (.slice a l c) l m).map fun cs=>(l,cs)
 | some (.int _),.int _ l=>if 0<=l/\l<=2 ^ 40 then(ff P elem l.toNat).bind fun zs=>if zs.all aP then some (l.toNat,zs) else none else none
 | _,_=>none
def cq (P:S0) (sType:SY) (xType:TN SY) (s x:SX) (m:TS):TN (SX × TS) :=
 match P.underlying sType,s,eA P (match P.underlying sType with|some (.slice e)=>e|_=>0) xType x m with
 | some (.slice elem),.slice base len cap,some (n,new) =>
  let sz:=aB P elem
  if !(known P elem)||sz==0 || !aV new || !(P.info? elem).any (fun i=>dv i.bytes (len+n)&&i.bytes != 0)||new.length != n*sz || !(bj P elem).any (fun z=>z.cells.size==sz&&z.cells.toList.all aP) then none else
  match base with
  | none =>
   if len≠0\/cap≠0 then none else
   if n=0 then some (.slice none 0 0,m)
   else some (.slice (some ⟨m.next,0,none⟩) n n,m.alloc (.cells new (.more sz)))
  | some ⟨b,o,none⟩ =>
   match m.get b with
   | some (.cells cs tag) =>
    if len+n<=cap then
     (m.cM b (o+len*sz) new).map fun m'=>(.slice (some ⟨b,o,none⟩) (len+n) cap,m')
    else match tag with
     | .more sz' =>
      if sz'=sz/\o=0 then
       let old:=cs.take (len*sz)
       if old.length=len*sz then some (.slice (some ⟨m.next,0,none⟩) (len+n) (len+n),(m.kill b).alloc (.cells (old++new) (.more sz))) else none
      else none
     | _ =>
      match m.dQ b o (len*sz) with
      | some old=>some (.slice (some ⟨m.next,0,none⟩) (len+n) (len+n),m.alloc (.cells (old++new) (.more sz)))
      | none=>none
   | _=>none
  | some ⟨b,_,some 1⟩ =>
   if len≠0\/cap≠0 then none else
   if n=0 then some (.slice (some ⟨b,0,some 1⟩) 0 0,m)
   else some (.slice (some ⟨m.next,0,none⟩) n n,m.alloc (.cells new (.more sz)))
  | _=>if len=0/\cap=0/\n=0 then some (s,m) else none
 | _,_,_=>none
def DU(P:S0)(dType:SY)(dst src:SX)(m:TS):TN (SX×TS) :=
 match P.underlying dType,dst,src with
 | some (.slice elem),.slice base dLen _,.slice _ sLen _ =>
  let n:=min sLen dLen
  if !(known P elem) then none else
  match cN (aB P elem) src n m with
  | none=>none
  | some cells =>
   if !aV cells then none else
   match base,n with
   | _,0=>some (.int .i64 0,m)
   | some ⟨b,o,none⟩,n+1=>(m.cM b o cells).map fun m'=>(.int .i64 (n+1:Nat),m')
   | _,_=>none
 | _,_,_=>none
def vC(P:S0)(t:SY)(x:SX)(m:TS):TN (SX×TS) :=
 match P.underlying t,x with
 | some (.slice _),.slice _ 0 _=>some (.tuple #[],m)
 | some (.slice elem),.slice (some ⟨b,o,none⟩) n _ =>
  match ff P elem n with
  | some zs=>if zs.all aP then(m.cM b o zs).map fun m'=>(.tuple #[],m') else none
  | none=>none
 | _,_=>none
def ez(f:Int->Int->Int):IntKind->Int->TO SX->TN SX
 | k,a,[]=>some (.int k a)
 | k,a,.int _ b::vs=>ez f k (f a b) vs
 | _,_,_=>none
def aZ(P:S0)(b:Builtin)(argTypes:TW SY)(args:TO SX)(m:TS):TN (SX×TS) :=
 match b,args with
 | .len,[x] =>
  match(argTypes[0]?).bind P.underlying,x with
  | some .string,.string s=>some (.int .i64 s.size,m)
  | some (.array n _),_=>some (.int .i64 n,m)
  | some (.pointer a),_=>match P.underlying a with
   | some (.array n _)=>some (.int .i64 n,m)
   | _=>none
  | some (.slice _),.slice _ n _=>some (.int .i64 n,m)
  | some (.map _ _),x=>(mapOf m x).map fun es=>(.int .i64 es.length,m)
  | _,_=>none
 | .cap,[x] =>
  match(argTypes[0]?).bind P.underlying,x with
  | some (.slice _),.slice none _ n=>some (.int .i64 n,m)
  | some (.slice _),.slice (some ⟨b,_,none⟩) _ n=>match m.get b with
   | some (.cells _ (.more _))=>none
   | some (.cells _ _)=>some (.int .i64 n,m)
   | _=>none
  | _,_=>none
 | .append,[s,x]=>match argTypes[0]? with
  | some t=>cq P t argTypes[1]? s x m
  | none=>none
 | .copy,[d,s]=>match argTypes[0]? with
  | some t=>DU P t d s m
  | none=>none
 | .clear,[x]=>match argTypes[0]? with
  | some t=>vC P t x m
  | none=>none
 | .delete,[x,k]=>match argTypes[0]? with
  | some t=>(q9 P t x k m).map fun m'=>(.tuple #[],m')
  | none=>none
 | .max,.int k a::vs=>(ez (fun x y=>if y>x then y else x) k a vs).map fun v=>(v,m)
 | .min,.int k a::vs=>(ez (fun x y=>if y<x then y else x) k a vs).map fun v=>(v,m)
 | _,_=>none
def eS(E:Env)(t:Tm)(m:TS)(o:Op):TN (SX×TS) :=
 let P:=E.P
 match o with
 | .move x|.assign x=>(an E t x).map fun v=>(v,m)
 | .pick c a b=>match an E t c with
  | some (.bool true)=>(an E t a).map fun v=>(v,m)
  | some (.bool false)=>(an E t b).map fun v=>(v,m)
  | _=>none
 | .alloc elem=>match bj P elem with
  | some z=>if bB z then some (ptr m.next 0,m.alloc (.cells z.cells.toList .own)) else none
  | none=>none
 | .box _ x=>(an E t x).map fun v=>(ptr m.next 0,m.alloc (.cells v.cells.toList .own))
 | .build ty parts=>match dU E t parts.toList,bj P ty with
  | some ps,some z=>if bB z then(lH P ty ps).map fun v=>(v,m) else none
  | _,_=>none
 | .buildSlice ty len parts =>
  match P.underlying ty,dU E t parts.toList with
  | some (.slice elem),some ps =>
   let sz:=aB P elem
   if !(known P elem)||len*sz>2 ^ 24 then none else
   match ff P elem len with
   | some zs=>if zs.all aP then(iK (fun i=>some (i*sz,sz)) zs ps).map fun cs=>(.slice (some ⟨m.next,0,none⟩) len len,m.alloc (.cells cs .own)) else none
   | none=>none
  | _,_=>none
 | .load ty a=>match an E t a with
  | some p=>(dK P ty p m).map fun v=>(v,m)
  | none=>none
 | .store ty a x=>match an E t a,an E t x with
  | some p,some v=>(ga P ty p v m).map fun m'=>(undef,m')
  | _,_=>none
 | .nilCheck x=>match an E t x with
  | some (.pointer (some a))=>some (.pointer (some a),m)
  | some (.func (.func f) a b)=>some (.func (.func f) a b,m)
  | some (.func (.yield f) a b)=>some (.func (.yield f) a b,m)
  | _=>none
 | .binOp op xType x y _=>match an E t x,an E t y with
  | some a,some b=>(bR op xType P a b).map fun v=>(v,m)
  | _,_=>none
 | .unOp op _ x=>match an E t x with
  | some a=>(Dz op a).map fun v=>(v,m)
  | none=>none
 | .convert src dst x=>match an E t x with
  | some a=>(jS P src dst a).map fun v=>(v,m)
  | none=>none
 | .makeFunc (.func f) first captured=>match bq E t first.toList,bq E t captured.toList with
  | some fs,some cs=>some (.func (.func f) fs.toArray cs.toArray,m)
  | _,_=>none
 | .makeMap _ none=>some (.map (some m.next),m.alloc (.map []))
 | .makeSlice ty len cap=>match P.underlying ty,an E t len,an E t cap with
  | some (.slice elem),some (.int .i64 l),some (.int .i64 c) =>
   if 0<=l/\l<=c/\(P.info? elem).any (fun i=>i.bytes*c<=2 ^ 40&&i.bytes != 0)/\known P elem then
    match ff P elem c.toNat with
    | some zs=>if zs.all aP then some (.slice (some ⟨m.next,0,none⟩) l.toNat c.toNat,m.alloc (.cells zs .own)) else none
    | none=>none
   else none
  | _,_,_=>none
 | .slice ty x lo hi mx=>match an E t x,dF E t lo,dF E t hi,dF E t mx with
  | some v,some l,some h,some k=>(bP P ty v l h k m).map fun v=>(v,m)
  | _,_,_,_=>none
 | .fieldAddr s x f=>match an E t x with
  | some v=>(aD P s v f).map fun v=>(v,m)
  | none=>none
 | .field ty x f=>match an E t x with
  | some v=>(gW P ty v f).map fun v=>(v,m)
  | none=>none
 | .sliceToArrayPointer ty x=>match an E t x with
  | some v=>(B9 P ty v).map fun v=>(v,m)
  | none=>none
 | .indexAddr ty x i=>match an E t x,an E t i with
  | some v,some n=>(bW P ty v n).map fun v=>(v,m)
  | _,_=>none
 | .index ty x i=>match an E t x,an E t i with
  | some v,some n=>(fZ P ty v n).map fun v=>(v,m)
  | _,_=>none
 | .lookup ty x i ok=>match an E t x,an E t i with
  | some v,some n=>(ie P ty v n ok m).map fun v=>(v,m)
  | _,_=>none
 | .mapUpdate ty x k v|.insert ty x k v=>match an E t x,an E t k,an E t v with
  | some x,some k,some v=>(iO P ty x k v m).map fun m'=>(undef,m')
  | _,_,_=>none
 | .extract x i=>match an E t x with
  | some (.tuple vs)=>(vs[i]?).map fun v=>(v,m)
  | _=>none
 | .call c=>match c.callee with
  | .builtin b=>match bq E t c.args.toList with
   | some vs=>aZ P b c.argTypes vs m
   | none=>none
  | _=>none
 | _=>none
def av:Op->Bool
 | .store .. | .mapUpdate .. | .insert ..=>true
 | .call c=>match c.callee with
  | .builtin .append|.builtin .copy|.builtin .delete|.builtin .clear=>true
  | .builtin _=>false
  | _=>true
 | _=>false
def oO:Op->Bool
 | .load .. | .lookup .. | .slice ..=>true
 | .call c=>match c.callee with
  | .builtin .len|.builtin .cap=>true
  | _=>false
 | _=>false
def tmpsOf:TO SZ->TO Tmp
 | []=>[]
 | .tmp t::xs=>t::tmpsOf xs
 | _::xs=>tmpsOf xs
def looks(ops:TW Oper)(o:Oper):TO Tmp :=
 tmpsOf o.op.operands.toList++(match o.guard with
  | some (g,_)=>((ops[g]?).bind (·.dst)).toList
  | none=>[])
def Cr(ops:TW Oper):TO Nat:=(Region.before ops).toList
def qM(ops:TW Oper)(a b:Oper):Bool :=
 !(av a.op&&av b.op) &&
 (match a.dst with
  | some d=>!(looks ops b).contains d&&b.dst != some d
  | none=>true) &&
 (match b.dst with
  | some d=>!(looks ops a).contains d
  | none=>true)
def clash(a b:Oper):Bool:=(av a.op&&oO b.op) ||(oO a.op&&av b.op)
def u6:TO Nat->Bool
 | []=>true
 | x::xs=>!xs.contains x&&u6 xs
def cu(o:Oper):TO Nat:=o.after.toList.filterMap fun e=>if Region.binds .any e then some e.on else none
def vK(ops:TW Oper)(bs:TO Nat):Bool :=
 u6 (ops.toList.filterMap (·.dst)) &&
 (List.range ops.size).all fun j =>
  (cu (ops.getD j default)).all (fun e=>decide (e<j)) &&
  (match(ops.getD j default).guard with
   | none=>true
   | some (g,_)=>decide (g<j) &&(bs.getD j 0).testBit g) &&
  (List.range j).all fun i =>
   if(bs.getD j 0).testBit i then(cu (ops.getD j default)).any (fun e=>e==i ||(Nat.blt i e &&(bs.getD e 0).testBit i))
   else qM ops (ops.getD i default) (ops.getD j default)
def mJ(ops:TW Oper)(bs:TO Nat):TO (Nat×Nat) :=
 (List.range ops.size).flatMap fun j=>((List.range j).filter fun i=>!(bs.getD j 0).testBit i&&clash (ops.getD i default) (ops.getD j default)).map fun i=>(i,j)
def kB(ops:TW Oper):TN (TO (Nat×Nat)) :=
 if vK ops (Cr ops) then some (mJ ops (Cr ops)) else none
def dx:SX->TN Nat
 | .pointer (some a)=>some a.block
 | .slice (some a) _ _=>some a.block
 | .map (some r)=>some r
 | _=>none
def aK(E:Env)(t:Tm)(o:Op):TN Nat :=
 match o with
 | .load _ a=>(an E t a).bind dx
 | .lookup _ x _ _=>(an E t x).bind dx
 | .slice _ x _ _ _=>(an E t x).bind dx
 | .call c=>match c.callee with
  | .builtin .len|.builtin .cap=>match bq E t c.args.toList with
   | some [v]=>dx v
   | _=>none
  | _=>none
 | _=>none
def eu(E:Env)(t:Tm)(o:Op):TN Nat :=
 match o with
 | .store _ a _=>match an E t a with
  | some (.pointer (some a))=>some a.block
  | _=>none
 | _=>none
def u7:SX->SX->Bool
 | .int k a,.int k' b=>decide (k=k')&&decide (a=b)
 | .bool a,.bool b=>a==b
 | .slice a l c,.slice a' l' c'=>decide (a=a') &&(Nat.beq l l'&&Nat.beq c c')
 | .map a,.map b=>decide (a=b)
 | .pointer a,.pointer b=>decide (a=b)
 | _,_=>false
def rQ:TO SX->TO SX->Bool
 | [],[]=>true
 | v::vs,u::us=>u7 v u&&rQ vs us
 | _,_=>false
def zd:SX->SX->Bool
 | .func (.func f) a c,.func (.func f') a' c'=>Nat.beq f f' &&(rQ a.toList a'.toList&&rQ c.toList c'.toList)
 | v,u=>u7 v u
def BA:TO SX->TO SX->Bool
 | [],[]=>true
 | v::vs,u::us=>zd v u&&BA vs us
 | _,_=>false
def vG:TO (SX×SX)->TO (SX×SX)->Bool
 | [],[]=>true
 | v::vs,u::us=>zd v.1 u.1&&zd v.2 u.2&&vG vs us
 | _,_=>false
def FY:TN TU->TN TU->Bool
 | some (.cells cs t),some (.cells cs' t')=>decide (t=t')&&BA cs cs'
 | some (.map es),some (.map es')=>vG es es'
 | _,_=>false
noncomputable def iJ (m m':TS) (b:Nat):Bool:=FY (m.get b) (m'.get b)||@decide (m.get b=m'.get b) (Classical.propDecidable _)
structure Note where
 read:TN Nat
 wl:Nat
 next:Nat
 wrote:TN Nat
 kept:Nat->Bool
def Note.ok(r e:Note):Bool :=
 match r.read with
 | none=>true
 | some b=>decide (b<e.wl)||decide (e.next<=b) ||(match e.wrote with
  | some b'=>b != b'
  | none=>false)||e.kept b
def fm(a:Note):Bool :=
 match a.read with
 | none=>true
 | some b=>Nat.blt b a.next
def dA(notes:TO Note)(ops:TW Oper)(p:Nat×Nat):Bool :=
 match notes[p.1]?,notes[p.2]? with
 | some a,some b =>
  (!(av (ops.getD p.2 default).op)||Note.ok a b) &&(!(av (ops.getD p.1 default).op)||Note.ok b a)
 | _,_=>false
inductive TT where
 | normal
 | exit (id:Nat)
 | ret
 deriving DecidableEq
structure Fr where
 tmps:Tm
 n:Nat
 fn:T1
 round:TN Nat
inductive Task where
 | code (c:Code) (fr:Fr) (m:TS)
 | loop (c:Code) (fr:Fr) (m:TS)
 | call (f:T1) (args:TO SX) (m:TS)
 | round (l:Nat) (args:TO SX) (m:TS)
inductive Res where
 | code (e:TT) (t:Tm) (m:TS)
 | val (v:SX) (m:TS)
abbrev K:=Task->TN Res
def jy(n:Nat)(t:Tm)(dst:TN Tmp)(v:SX):TN Tm :=
 match dst with
 | some d=>match Nat.blt d n with
  | true=>some (t.set d v)
  | false=>none
 | none=>some t
def dR(k:K)(E:Env)(t:Tm)(m:TS)(o:Op):TN (SX×TS) :=
 match o with
 | .call c=>match c.callee with
  | .value f=>match an E t f,bq E t c.args.toList with
   | some (.func (.func g) first captured),some args=>match k (.call g (first.toList++args++captured.toList) m) with
    | some (.val v m')=>some (v,m')
    | _=>none
   | some (.func (.yield l) first _),some args=>match k (.round l (first.toList++args) m) with
    | some (.val v m')=>some (v,m')
    | _=>none
   | _,_=>none
  | _=>eS E t m o
 | _=>eS E t m o
def eY(ops:TW Oper)(t:Tm)(j:Nat):TN Bool :=
 match((ops[j]?).bind (·.dst)) with
 | some d=>match t.get d with
  | some (.bool b)=>some b
  | _=>none
 | none=>none
def bQ(ops:TW Oper)(o:Oper)(t:Tm):Bool :=
 match o.guard with
 | none=>true
 | some (j,want)=>match eY ops t j with
  | some b=>b==want
  | none=>false
def iV(k:K)(E:Env)(n:Nat)(ops:TW Oper):TO Oper->Tm->TS->TN (Tm×TS)
 | [],t,m=>some (t,m)
 | o::os,t,m =>
  if bQ ops o t then
   match dR k E t m o.op with
   | some (v,m')=>match jy n t o.dst v with
    | some t'=>iV k E n ops os t' m'
    | none=>none
   | none=>none
  else match jy n t o.dst undef with
   | some t'=>iV k E n ops os t' m
   | none=>none
noncomputable def dz (k:K) (E:Env) (n:Nat) (ops:TW Oper):TO Oper->Tm->TS->TN (Tm×TS×TO Note)
 | [],t,m=>some (t,m,[])
 | o::os,t,m =>
  if bQ ops o t then
   match dR k E t { m with wl:=m.next} o.op with
   | some (v,m')=>match jy n t o.dst v with
    | some t1=>match dz k E n ops os t1 { m' with wl:=min m.wl m'.wl} with
     | some (t',m'',ns)=>some (t',m'',{ read:=aK E t o.op,wl:=m'.wl,next:=m.next,wrote:=eu E t o.op,kept:=iJ m m'}::ns)
     | none=>none
    | none=>none
   | none=>none
  else match jy n t o.dst undef with
   | some t1=>match dz k E n ops os t1 m with
    | some (t',m'',ns)=>some (t',m'',{ read:=none,wl:=m.next,next:=m.next,wrote:=none,kept:=fun _=>false}::ns)
    | none=>none
   | none=>none
def cE(E:Env)(t:Tm)(m:TS):TO ResultVar->TN (TO SX)
 | []=>some []
 | .tmp i::rs=>(cE E t m rs).map fun vs=>t.at i::vs
 | .cell a ty::rs=>match dK E.P ty (t.at a) m,cE E t m rs with
  | some v,some vs=>some (v::vs)
  | _,_=>none
def gU:TO SX->SX
 | [v]=>v
 | vs=>.tuple vs.toArray
def iu(n:Nat)(t:Tm):TO Tmp->TO SX->TN Tm
 | p::ps,v::vs=>match Nat.blt p n with
  | true=>iu n (t.set p v) ps vs
  | false=>none
 | _,_=>some t
def iR:TT->TN Code
 | .normal=>none
 | .exit id=>some (.exit id)
 | .ret=>some .ret
def jO(E:Env)(fr:Fr)(m:TS)(f:SZ):Bool :=
 (match an E fr.tmps f with
  | some (.func (.func g) _ _)=>(E.cH g).isNone
  | _=>false) &&
 (match fr.round with
  | none=>true
  | some l=>match m.get l with
   | some (.loop _)=>true
   | _=>false)
def ub(E:Env)(f:T1)(args:TO SX)(m:TS):TN (SX×TS):=(E.cH f).bind fun p=>p.run args m
noncomputable def step (E:Env) (k:K):Task->TN Res
 | .code c fr m =>
  match c with
  | .skip=>some (.code .normal fr.tmps m)
  | .label _=>some (.code .normal fr.tmps m)
  | .seq a b=>match k (.code a fr m) with
   | some (.code .normal t m')=>k (.code b { fr with tmps:=t} m')
   | some (.code e t m')=>some (.code e t m')
   | _=>none
  | .cond x a b=>match an E fr.tmps x with
   | some (.bool true)=>k (.code a fr m)
   | some (.bool false)=>k (.code b fr m)
   | _=>none
  | .block id a=>match k (.code a fr m) with
   | some (.code (.exit id') t m')=>if id'=id then some (.code .normal t m') else some (.code (.exit id') t m')
   | some (.code e t m')=>some (.code e t m')
   | _=>none
  | .loop a=>k (.loop a fr m)
  | .exit id=>some (.code (.exit id) fr.tmps m)
  | .ret=>some (.code .ret fr.tmps m)
  | .scope a=>match k (.code a fr m) with
   | some (.code e t m')=>some (.code e t m')
   | _=>none
  | .region _ ops draw =>
   if draw then
    match kB ops with
    | some ps=>match dz k E fr.n ops ops.toList fr.tmps m with
     | some (t,m',ns)=>if ps.all (dA ns ops)&&ns.all fm then some (.code .normal t m') else none
     | none=>none
    | none=>none
   else match iV k E fr.n ops ops.toList fr.tmps m with
    | some (t,m')=>some (.code .normal t m')
    | none=>none
  | .rangeFunc f params assign body =>
   match an E fr.tmps f,jO E fr m f with
   | some (.func (.func g) first captured),true =>
    let l:=m.next
    let m1:=m.alloc (.loop { state:=.ready,pending:=none,fn:=fr.fn,tmps:=fr.tmps,n:=fr.n,params,assign,body})
    match k (.call g (first.toList++[.func (.yield l) #[] #[]]++captured.toList) m1) with
    | some (.val _ m2)=>match m2.get l with
     | some (.loop r)=>match r.state with
      | .busy=>none
      | _ =>
       let m3:=m2.set l (.loop { r with state:=.exhausted})
       match r.pending with
       | none=>some (.code .normal fr.tmps m3)
       | some c=>match k (.code c fr m3) with
        | some (.code e t m')=>some (.code e t m')
        | _=>none
     | _=>none
    | _=>none
   | _,_=>none
  | _=>none
 | .loop c fr m=>match k (.code c fr m) with
  | some (.code .normal t m')=>k (.loop c { fr with tmps:=t} m')
  | some (.code e t m')=>some (.code e t m')
  | _=>none
 | .call f args m =>
  match ub E f args m with
  | some r=>some (.val r.1 r.2)
  | none =>
   match E.P.funcs[f]? with
   | some fn=>match fn.body with
    | some c=>match k (.code c { tmps:=Trie.ofList args 0 .nil,n:=max args.length fn.ntmps,fn:=f,round:=none} m) with
     | some (.code (.exit _) _ _)=>none
     | some (.code _ t m')=>(cE E t m' fn.results.toList).map fun vs=>.val (gU vs) m'
     | _=>none
    | none=>none
   | none=>none
 | .round l args m =>
  match m.get l with
  | some (.loop r)=>match r.state with
   | .ready =>
    if args.length≠r.params.size then none else
    match iu r.n r.tmps r.params.toList args with
    | none=>none
    | some t0=>match k (.code r.assign { tmps:=t0,n:=r.n,fn:=r.fn,round:=some l} m) with
    | some (.code .normal t1 m1)=>match m1.get l with
     | some (.loop r1)=>match r1.state with
      | .ready =>
       match k (.code r.body { tmps:=t1,n:=r.n,fn:=r.fn,round:=some l} (m1.set l (.loop { r1 with state:=.busy}))) with
       | some (.code e _ m2)=>match m2.get l with
        | some (.loop r2) =>
         let j:=iR e
         some (.val (.bool j.isNone) (m2.set l (.loop { r2 with state:=if j.isNone then .ready else .done,pending:=j})))
        | _=>none
       | _=>none
      | _=>none
     | _=>none
    | _=>none
   | _=>none
  | _=>none
noncomputable def run (E:Env):Nat->K
 | 0=>fun _=>none
 | n+1=>step E (run E n)
structure Blk where
 c:Nat
 more:TN (Nat×Nat×Nat)
abbrev aN:=Nat->TN Blk
def yR(v:SX):Bool:=j8 v && !aP v
def tW{v:SX}(h:yR v=true):j8 v=true:=by simp only[yR,QJ] at h; exact h.1
inductive VR(j:aN):SX->SX->Prop
 | junk {v':SX} (h:yR v'=true):VR j (.complex .f64 0 0) v'
 | bool (b:Bool):VR j (.bool b) (.bool b)
 | int (k:IntKind) (n:Int):VR j (.int k n) (.int k n)
 | string (s:ByteArray):VR j (.string s) (.string s)
 | pnil:VR j (.pointer none) (.pointer none)
 | ptr {b o:Nat} {k:Blk} (h:j b=some k):VR j (.pointer (some ⟨b,o,none⟩)) (.pointer (some ⟨k.c,o,none⟩))
 | snil (l c:Nat):VR j (.slice none l c) (.slice none l c)
 | slice {b o len cap:Nat} {k:Blk} (h:j b=some k) (hm:k.more=none):VR j (.slice (some ⟨b,o,none⟩) len cap) (.slice (some ⟨k.c,o,none⟩) len cap)
 | sliceM {b o len cap cap' sz na nc:Nat} {k:Blk} (h:j b=some k) (hm:k.more=some (sz,na,nc)) (h1:cap*sz+o=na) (h2:cap'*sz+o=nc) (hl:len<=cap) (hc:cap<=cap') :
   VR j (.slice (some ⟨b,o,none⟩) len cap) (.slice (some ⟨k.c,o,none⟩) len cap')
 | fU {b:Nat} {a':Addr} {cap':Nat}:VR j (.slice (some ⟨b,0,some 0⟩) 0 0) (.slice (some a') 0 cap')
 | dry {b:Nat} {a':Addr}:VR j (.slice (some ⟨b,0,some 1⟩) 0 0) (.slice (some a') 0 0)
 | mnil:VR j (.map none) (.map none)
 | map {b:Nat} {k:Blk} (h:j b=some k):VR j (.map (some b)) (.map (some k.c))
 | func {f:T1} {xs ys cs ds:TW SX} (h1:xs.size=ys.size) (h2:∀(i:Nat) (a:i<xs.size) (b:i<ys.size),VR j xs[i] ys[i])
   (h3:cs.size=ds.size) (h4:∀(i:Nat) (a:i<cs.size) (b:i<ds.size),VR j cs[i] ds[i]):VR j (.func (.func f) xs cs) (.func (.func f) ys ds)
 | yield {l:Nat} {k:Blk} {xs ys cs ds:TW SX} (h:j l=some k) (h1:xs.size=ys.size) (h2:∀(i:Nat) (a:i<xs.size) (b:i<ys.size),VR j xs[i] ys[i]) :
   VR j (.func (.yield l) xs cs) (.func (.yield k.c) ys ds)
 | nilFunc:VR j .nilFunc .nilFunc
 | nilIface:VR j .nilIface .nilIface
 | agg {xs ys:TW SX} (h1:xs.size=ys.size) (h2:∀(i:Nat) (a:i<xs.size) (b:i<ys.size),VR j xs[i] ys[i]):VR j (.agg xs) (.agg ys)
 | tuple {xs ys:TW SX} (h1:xs.size=ys.size) (h2:∀(i:Nat) (a:i<xs.size) (b:i<ys.size),VR j xs[i] ys[i]):VR j (.tuple xs) (.tuple ys)
def LR(j:aN)(xs ys:TO SX):Prop:=xs.length=ys.length/\∀(i:Nat) (v:SX),xs[i]? = some v->∃v',ys[i]? = some v'/\VR j v v'
def LR.nil(j:aN):LR j [] []:=⟨rfl,fun i v h=>by simp at h⟩
def LR.cons{j:aN}{x y:SX}{xs ys:TO SX}(h:VR j x y)(hs:LR j xs ys):LR j (x::xs) (y::ys) :=
 ⟨by simp[hs.1],fun i v hi=>by
  cases i with
  | zero=>simp at hi; subst hi; exact⟨y,rfl,h⟩
  | succ i=>simpa using hs.2 i v (by simpa using hi)⟩
def LR.head{j:aN}{x y:SX}{xs ys:TO SX}(h:LR j (x::xs) (y::ys)):VR j x y:=by
 obtain⟨v',hv,hr⟩:=h.2 0 x rfl;simp at hv; subst hv; exact hr
def LR.tail{j:aN}{x y:SX}{xs ys:TO SX}(h:LR j (x::xs) (y::ys)):LR j xs ys :=
 ⟨by have:=h.1; simpa using this,fun i v hi=>by simpa using h.2 (i+1) v (by simpa using hi)⟩
def LR.cons_inv{j:aN}{x:SX}{xs l:TO SX}(h:LR j (x::xs) l):∃y ys,l=y::ys/\VR j x y/\LR j xs ys:=by
 cases l with
 | nil=>exact Q1 h.1 (by simp)
 | cons y ys=>exact⟨y,ys,rfl,h.head,h.tail⟩
def LR.da{j:aN}{l:TO SX}(h:LR j [] l):l=[]:=by
 have:=h.1; simp at this; exact Rh.1 this.symm
def LR.append{j:aN}{xs ys xs' ys':TO SX}(h:LR j xs ys)(h':LR j xs' ys'):LR j (xs++xs') (ys++ys') :=
 ⟨by simp[h.1,h'.1],fun i v hi=>by
  by_cases hlt:i<xs.length
  rw[Rp hlt] at hi;rw[Rp (h.1▸hlt)];exact h.2 i v hi
  rw[Rk (by omega)] at hi
  rw[Rk (by have:=h.1; omega),<-h.1]
  exact h'.2 _ v hi⟩
def LR.drop{j:aN}{xs ys:TO SX}(h:LR j xs ys)(n:Nat):LR j (xs.drop n) (ys.drop n) :=
 ⟨by simp[h.1],fun i v hi=>by rw[RL] at *; exact h.2 _ v hi⟩
def LR.take{j:aN}{xs ys:TO SX}(h:LR j xs ys)(n:Nat):LR j (xs.take n) (ys.take n) :=
 ⟨by simp[h.1],fun i v hi=>by
  rw[RK] at *
  split at hi
  rename_i hlt; rw[QH hlt]; exact h.2 _ v hi
  simp at hi⟩
def LR.get{j:aN}{xs ys:TO SX}(h:LR j xs ys){i:Nat}{v:SX}(hi:xs[i]? = some v):∃v',ys[i]? = some v'/\VR j v v':=h.2 i v hi
def LR.fu{j:aN}{xs ys:TW SX}(h1:xs.size=ys.size)(h2:∀(i:Nat) (a:i<xs.size) (b:i<ys.size),VR j xs[i] ys[i]):LR j xs.toList ys.toList :=
 ⟨by simpa using h1,fun i v hi=>by
  have hlt:i<xs.toList.length:=(QU.1 hi).1;have ha:i<xs.size:=by simpa using hlt
  have hb:i<ys.size:=h1▸ha;refine⟨ys[i],by simp[hb],?_⟩
  have:xs[i]=v:=by simpa [ha] using hi
  exact this▸h2 i ha hb⟩
def LR.arr{j:aN}{xs ys:TW SX}(h:LR j xs.toList ys.toList):∀(i:Nat) (a:i<xs.size) (b:i<ys.size),VR j xs[i] ys[i]:=fun i a b=>by
 obtain⟨v',hv,hr⟩:=h.2 i xs[i] (by simp[a])
 have:ys[i]=v':=by simpa [b] using hv
 exact this▸hr
def LR.size{j:aN}{xs ys:TW SX}(h:LR j xs.toList ys.toList):xs.size=ys.size:=by simpa using h.1
def VR.Dd{j:aN}{xs ys:TW SX}(h:LR j xs.toList ys.toList):VR j (.agg xs) (.agg ys):=.agg h.size h.arr
def VR.tuple'{j:aN}{xs ys:TW SX}(h:LR j xs.toList ys.toList):VR j (.tuple xs) (.tuple ys):=.tuple h.size h.arr
def VR.undef(j:aN):VR j undef undef:=.tuple rfl (fun i a _=>by simp at a)
def aN.le(j j':aN):Prop:=∀b k,j b=some k->j' b=some k
def aN.le.refl(j:aN):j.le j:=fun _ _ h=>h
def aN.le.trans{j j' j'':aN}(h:j.le j')(h':j'.le j''):j.le j'':=fun b k e=>h' b k (h b k e)
def VR.mono{j j':aN}(hj:j.le j'){v v':SX}(h:VR j v v'):VR j' v v':=by
 induction h with
 | junk h=>exact .junk h
 | bool b=>exact .bool b
 | int k n=>exact .int k n
 | string s=>exact .string s
 | pnil=>exact .pnil
 | ptr h=>exact .ptr (hj _ _ h)
 | snil l c=>exact .snil l c
 | slice h hm=>exact .slice (hj _ _ h) hm
 | sliceM h hm h1 h2 hl hc=>exact .sliceM (hj _ _ h) hm h1 h2 hl hc
 | fU=>exact .fU
 | dry=>exact .dry
 | mnil=>exact .mnil
 | map h=>exact .map (hj _ _ h)
 | func h1 _ h3 _ ih2 ih4=>exact .func h1 ih2 h3 ih4
 | yield h h1 _ ih2=>exact .yield (hj _ _ h) h1 ih2
 | nilFunc=>exact .nilFunc
 | nilIface=>exact .nilIface
 | agg h1 _ ih=>exact .agg h1 ih
 | tuple h1 _ ih=>exact .tuple h1 ih
def LR.mono{j j':aN}(hj:j.le j'){xs ys:TO SX}(h:LR j xs ys):LR j' xs ys :=
 ⟨h.1,fun i v hi=>let⟨v',a,b⟩:=h.2 i v hi;⟨v',a,b.mono hj⟩⟩
def VR.aP{j:aN}{v:SX}(h:aP v=true):VR j v v:=by
 unfold Ab.aP at h
 split at h<;>first|constructor |(simp at h)
def LR.plain{j:aN}{l:TO SX}(h:l.all Ab.aP=true):LR j l l :=
 ⟨rfl,fun _ v hi=>⟨v,hi,VR.aP (QS.1 h v (Q4 hi))⟩⟩
def VR.bB{j:aN}{v:SX}(h:bB v=true):VR j v v:=by
 unfold Ab.bB at h
 split at h
 exact .Dd (LR.plain h)
 exact .tuple' (LR.plain h)
 exact .aP h
def ER(j:aN):TO (SX×SX)->TO MapEntry->Prop
 | [],[]=>True
 | e::es,f::fs=>VR j e.1 f.key/\VR j e.2 f.val/\ER j es fs
 | _,_=>False
def ER.mono{j j':aN}(hj:j.le j'):∀{es:TO (SX×SX)} {fs:TO MapEntry},ER j es fs->ER j' es fs
 | [],[],_=>trivial
 | _::_,_::_,h=>⟨h.1.mono hj,h.2.1.mono hj,ER.mono hj h.2.2⟩
 | [],_::_,h=>h.elim
 | _::_,[],h=>h.elim
def TR(n:Nat)(j:aN)(t:Tm)(tmps:TW SX):Prop:=tmps.size=n/\∀i,VR j (t.at i) (tmps.getD i undef)
def TR.mono{n:Nat}{j j':aN}(hj:j.le j'){t:Tm}{tmps:TW SX}(h:TR n j t tmps):TR n j' t tmps:=⟨h.1,fun i=>(h.2 i).mono hj⟩
def hY(sz:Nat)(c:TW SX):Prop:=c.size<=sz*9223372036854775807
def pj(k:Blk)(tag:Tag)(len:Nat)(c:TW SX)(fz:Nat×Nat):Prop :=
 match tag with
 | .ro=>k.more=none/\c.size=len
 | .own=>k.more=none/\c.size=len/\fz=(0,0)
 | .more sz=>k.more=some (sz,len,c.size)/\len<=c.size/\fz=(0,0)/\0<sz/\hY sz c
def pj.put{k:Blk}{tag:Tag}{len:Nat}{c c':TW SX}{fz:Nat×Nat}(h:pj k tag len c fz)(hs:c'.size=c.size)(hr:∀i,len<=i->c'[i]? = c[i]?):pj k tag len c' fz:=by
 cases tag with
 | ro=>exact⟨h.1,hs.trans h.2⟩
 | own=>exact⟨h.1,hs.trans h.2.1,h.2.2⟩
 | more sz=>exact⟨by rw[hs]; exact h.1,by rw[hs]; exact h.2.1,h.2.2.1,h.2.2.2.1,by unfold hY; rw[hs]; exact h.2.2.2.2⟩
def Hu(es:TW MapEntry)(clock:Nat):Prop:=(∀x∈es.toList,x.born<clock)/\(es.toList.map (·.born)).Nodup
def Dk(c:Nat):Hu #[] c:=⟨fun x hx=>by simp at hx,by simp⟩
def DX{es:TW MapEntry}{clock:Nat}(h:Hu es clock)(k v:SX):Hu (es.push { key:=k,val:=v,born:=clock}) (clock+1):=by
 refine⟨fun x hx=>?_,?_⟩
 rw[Array.toList_push,Q3,QW] at hx;rcases hx with hx|rfl
 exact Nat.lt_succ_of_lt (h.1 x hx)
 exact Ss _
 rw[Array.toList_push,List.map_append,List.map_singleton];refine List.nodup_append.2 ⟨h.2,by simp,fun a ha b hb=>?_⟩
 rw[QW] at hb;obtain⟨x,hx,rfl⟩:=Rj.1 ha;have:=h.1 x hx;rw[hb]; exact Nat.ne_of_lt this
def zQ{es:TW MapEntry}{clock:Nat}(h:Hu es clock)(i:Nat)(f:MapEntry->MapEntry)(hf:∀e,(f e).born=e.born):Hu (es.modify i f) clock:=by
 have e:(es.modify i f).toList.map (·.born)=es.toList.map (·.born):=by
  rw[Array.toList_modify];refine RG fun t=>?_;rw[Rw,Rw,List.getElem?_modify];cases es.toList[t]? with
  | none=>rfl
  | some a =>
   show some ((if i=t then f a else a).born)=some a.born
   split
   rw[hf]
   rfl
 refine⟨fun x hx=>?_,by rw[e]; exact h.2⟩
 have hm:x.born∈es.toList.map (·.born):=e▸Rj.2 ⟨x,hx,rfl⟩;obtain⟨y,hy,he⟩:=Rj.1 hm;rw[<-he]; exact h.1 y hy
def CJ{es:TW MapEntry}{clock:Nat}(h:Hu es clock)(i:Nat):Hu (es.eraseIdxIfInBounds i) clock:=by
 have hs:(es.eraseIdxIfInBounds i).toList.Sublist es.toList:=by
  rw[Array.toList_eraseIdxIfInBounds]; exact List.eraseIdx_sublist _ _
 exact⟨fun x hx=>h.1 x (hs.subset hx),(hs.map _).nodup h.2⟩
def OR(j:aN)(k:Blk):TU->Obj->Prop
 | .cells cs tag,.cells c _ fz=>pj k tag cs.length c fz/\∀(i:Nat) (v:SX),cs[i]? = some v->∃v',c[i]? = some v'/\VR j v v'
 | .map es,.map entries clock=>ER j es entries.toList/\Hu entries clock
 | .loop r,.loop r'=>r.state=r'.state/\r.pending=r'.pending/\r.params=r'.params/\r.assign=r'.assign/\r.body=r'.body/\TR r.n j r.tmps r'.tmps
 | _,_=>False
def OR.mono{j j':aN}(hj:j.le j'){k:Blk}{o:TU}{o':Obj}(h:OR j k o o'):OR j' k o o':=by
 cases o with
 | cells cs tag =>
  cases o' with
  | cells c e fz=>exact⟨h.1,fun i v hi=>let⟨v',a,b⟩:=h.2 i v hi;⟨v',a,b.mono hj⟩⟩
  | _=>exact h.elim
 | map es =>
  cases o' with
  | map c e=>exact⟨ER.mono hj h.1,h.2⟩
  | _=>exact h.elim
 | loop r =>
  cases o' with
  | loop c=>exact⟨h.1,h.2.1,h.2.2.1,h.2.2.2.1,h.2.2.2.2.1,h.2.2.2.2.2.mono hj⟩
  | _=>exact h.elim
structure MR(E:Env)(j:aN)(m:TS)(w:S5):Prop where
 lt:∀b k,j b=some k->b<m.next/\k.c<w.heap.size
 obj:∀b o k,m.get b=some o->j b=some k->∃o',w.heap[k.c]? = some o'/\OR j k o o'
 inj:∀b b' k k',j b=some k->j b'=some k'->(m.get b).isSome=true->(m.get b').isSome=true->k.c=k'.c->b=b'
 glob:∀g,g<E.glob->j g=some ⟨g,none⟩
structure AExt(m m':TS):Prop where
 next:m.next<=m'.next
 wl:m'.wl<=m.wl
 same:∀b,b<m.next->b<m'.wl->m'.get b=m.get b
 dead:∀b,b<m.next->m.get b=none->m'.get b=none
def AExt.refl(m:TS):AExt m m:=⟨QK _,QK _,fun _ _ _=>rfl,fun _ _ h=>h⟩
def AExt.trans{a b c:TS}(h:AExt a b)(h':AExt b c):AExt a c :=
 ⟨Rc h.next h'.next,Rc h'.wl h.wl,
  fun x hx hw=>(h'.same x (QT hx h.next) hw).trans (h.same x hx (QT hw h'.wl)),
  fun x hx hn=>h'.dead x (QT hx h.next) (h.dead x hx hn)⟩
abbrev Calm(w w':S5):Prop:=w'.os=w.os/\w'.output=w.output/\w'.tape=w.tape/\w.drawn<=w'.drawn
abbrev iN(E:Env)(w w':S5):Prop:=w'.os=w.os/\w'.output=w.output/\w'.tape=w.tape/\(E.mono->w.drawn<=w'.drawn)
def Calm.e{E:Env}{w w':S5}(h:Calm w w'):iN E w w':=⟨h.1,h.2.1,h.2.2.1,fun _=>h.2.2.2⟩
def iN.refl{E:Env}(w:S5):iN E w w:=⟨rfl,rfl,rfl,fun _=>QK _⟩
def iN.trans{E:Env}{a b c:S5}(h:iN E a b)(g:iN E b c):iN E a c:=⟨g.1.trans h.1,g.2.1.trans h.2.1,g.2.2.1.trans h.2.2.1,fun e=>Rc (h.2.2.2 e) (g.2.2.2 e)⟩
structure Sim(E:Env)(j:aN)(m:TS)(w:S5)(j':aN)(m':TS)(w':S5):Prop where
 ext:AExt m m'
 le:j.le j'
 new:∀b k,j' b=some k->j b=none->m.next<=b
 mr:MR E j' m' w'
 size:w.heap.size<=w'.heap.size
 full:∀b,m.next<=b->b<m'.next->(m'.get b).isSome=true->∃k,j' b=some k
 away:∀b,b<m.next->j b=none->m'.get b=m.get b
 fresh:∀b k,j' b=some k->j b=none->w.heap.size<=k.c\/∃b0 k0,j b0=some k0/\(m.get b0).isSome=true/\k0.c=k.c/\m'.wl<=b0
 frame:∀c,c<w.heap.size->(∀b k,j b=some k->(m.get b).isSome=true->k.c=c->b<m'.wl)->w'.heap[c]? = w.heap[c]?
 calm:iN E w w'
def Sim.refl{E:Env}{j:aN}{m:TS}{w:S5}(h:MR E j m w):Sim E j m w j m w where
 ext:=.refl m
 le:=.refl j
 new:=fun b k h h'=>by simp[h'] at h
 mr:=h
 size:=QK _
 full:=fun b h h' _=>Q1 h (by omega)
 away:=fun _ _ _=>rfl
 fresh:=fun b k h h'=>by simp[h'] at h
 frame:=fun _ _ _=>rfl
 calm:=.refl w
def Sim.trans{E:Env}{j j1 j2:aN}{m m1 m2:TS}{w w1 w2:S5}(h0:MR E j m w)(h:Sim E j m w j1 m1 w1)(h':Sim E j1 m1 w1 j2 m2 w2):Sim E j m w j2 m2 w2 where
 ext:=h.ext.trans h'.ext
 le:=h.le.trans h'.le
 mr:=h'.mr
 calm:=iN.trans h.calm h'.calm
 size:=Rc h.size h'.size
 full:=by
  intro b hb hb' hl;rcases RA b m1.next with hlt|hge
  ·have hl1:(m1.get b).isSome=true:=by
    cases hm:m1.get b with
    | some o=>rfl
    | none=>rw[h'.ext.dead b hlt hm] at hl; cases hl
   obtain⟨k,hk⟩:=h.full b hb hlt hl1;exact⟨k,h'.le b k hk⟩
  exact h'.full b hge hb' hl
 new:=by
  intro b k hk hn;cases h1:j1 b with
  | none=>exact Rc h.ext.next (h'.new b k hk h1)
  | some k1=>exact h.new b k1 h1 hn
 away:=by
  intro b hb hn;have h1:j1 b=none:=by
   cases h1:j1 b with
   | none=>rfl
   | some k1=>exact Q1 (h.new b k1 h1 hn) (by omega)
  exact(h'.away b (QT hb h.ext.next) h1).trans (h.away b hb hn)
 fresh:=by
  intro b k hk hn;cases h1:j1 b with
  | some k1 =>
   have:=h'.le b k1 h1;rw[hk] at this; cases this;rcases h.fresh b k h1 hn with hf|⟨b0,k0,a1,a2,a3,a4⟩
   exact .inl hf
   exact .inr ⟨b0,k0,a1,a2,a3,Rc h'.ext.wl a4⟩
  | none =>
   rcases h'.fresh b k hk h1 with hf|⟨b0,k0,a1,a2,a3,a4⟩
   exact .inl (Rc h.size hf)
   ·cases hj0:j b0 with
    | some k0' =>
     have e:=h.le b0 k0' hj0;rw[a1] at e; cases e;refine .inr ⟨b0,k0,hj0,?_,a3,a4⟩;cases hm:m.get b0 with
     | some o=>rfl
     | none=>rw[h.ext.dead b0 (h0.lt b0 k0 hj0).1 hm] at a2; cases a2
    | none =>
     rcases h.fresh b0 k0 a1 hj0 with hf|⟨b1,k1,c1,c2,c3,c4⟩
     exact .inl (a3▸hf)
     exact .inr ⟨b1,k1,c1,c2,c3.trans a3,Rc h'.ext.wl c4⟩
 frame:=by
  intro c hc H;have s1:w1.heap[c]? = w.heap[c]?:=h.frame c hc fun b k hb hl he=>QT (H b k hb hl he) h'.ext.wl;refine(h'.frame c (QT hc h.size) ?_).trans s1;intro b k hb hl he;cases hj:j b with
  | some k' =>
   have e:=h.le b k' hj;rw[hb] at e; cases e;refine H b k hj ?_ he;cases hm:m.get b with
   | some o=>rfl
   | none=>rw[h.ext.dead b (h0.lt b k hj).1 hm] at hl; cases hl
  | none =>
   rcases h.fresh b k hb hj with hf|⟨b1,k1,c1,c2,c3,c4⟩
   omega
   have:=H b1 k1 c1 c2 (c3.trans he);have:=h'.ext.wl;omega
def aN.set(j:aN)(b:Nat)(k:Blk):aN:=fun x=>if x=b then some k else j x
def aN.bV(j:aN)(b:Nat)(k:Blk):j.set b k b=some k:=by simp[aN.set]
def aN.bM(j:aN){b x:Nat}(k:Blk)(h:x≠b):j.set b k x=j x:=by simp[aN.set,h]
def aN.nJ{j:aN}{b:Nat}(k:Blk)(h:j b=none):j.le (j.set b k):=fun x k' hx=>by
 by_cases e:x=b
 subst e; rw[h] at hx; cases hx
 rw[aN.bM _ _ e]; exact hx
def TS.aU(m:TS)(o:TU)(b:Nat):(m.alloc o).get b=if b=m.next then some o else m.get b:=by
 unfold TS.alloc TS.get;simp only[Heap.bl]
 by_cases h:b=m.next<;>simp[h]
def TS.bl(m:TS)(b x:Nat)(o:TU):(m.set b o).get x=if x=b then some o else m.get x:=by
 unfold TS.set TS.get;simp only[Heap.bl]
 by_cases h:x=b<;>simp[h]
def TS.dB(m:TS)(b x:Nat):(m.kill b).get x=if x=b then none else m.get x:=by
 unfold TS.kill TS.get;simp only[Heap.bl]
 by_cases h:x=b<;>simp[h]
@[simp] theorem TS.next_alloc (m:TS) (o:TU):(m.alloc o).next=m.next+1:=rfl
@[simp] theorem TS.next_set (m:TS) (b:Nat) (o:TU):(m.set b o).next=m.next:=rfl
@[simp] theorem TS.next_kill (m:TS) (b:Nat):(m.kill b).next=m.next:=rfl
@[simp] theorem TS.wl_alloc (m:TS) (o:TU):(m.alloc o).wl=m.wl:=rfl
@[simp] theorem TS.wl_set (m:TS) (b:Nat) (o:TU):(m.set b o).wl=min m.wl b:=rfl
@[simp] theorem TS.wl_kill (m:TS) (b:Nat):(m.kill b).wl=min m.wl b:=rfl
def AExt.alloc(m:TS)(o:TU):AExt m (m.alloc o) :=
 ⟨Nat.le_succ _,QK _,fun b h _=>by rw[TS.aU,S8],fun b h hn=>by rw[TS.aU,S8]; exact hn⟩
def AExt.set{m:TS}{b:Nat}(o:TU)(hb:(m.get b).isSome=true):AExt m (m.set b o) :=
 ⟨QK _,Nat.min_le_left _ _,fun x _ h=>by
  rw[TS.bl,QF]; intro e; subst e; simp at h; omega,
 fun x _ hn=>by
  rw[TS.bl,QF]
  exact hn
  intro e; subst e; rw[hn] at hb; cases hb⟩
def AExt.kill(m:TS)(b:Nat):AExt m (m.kill b) :=
 ⟨QK _,Nat.min_le_left _ _,fun x _ h=>by
  rw[TS.dB,QF]; intro e; subst e; simp at h; omega,
 fun x _ hn=>by rw[TS.dB]; split<;>first|rfl|exact hn⟩
def xS{j:aN}{n:Nat}{k:Blk}{m':TS}:∀b,n<=b->b<n+1->(m'.get b).isSome=true->∃k',j.set n k b=some k':=fun b h1 h2 _=>by
 have:b=n:=by omega
 subst this;exact⟨k,aN.bV _ _ _⟩
section
variable{E:Env}{j:aN}{m:TS}{w:S5}
def MR.mT(h:MR E j m w):j m.next=none:=by
 cases e:j m.next with
 | none=>rfl
 | some k=>exact Q1 (h.lt _ _ e).1 (Nat.lt_irrefl _)
def MR.of_heap{w':S5}(h:MR E j m w)(e:w'.heap=w.heap):MR E j m w' :=
 ⟨by rw[e]; exact h.lt,by rw[e]; exact h.obj,h.inj,h.glob⟩
def Sim.of_heap{w':S5}(h:MR E j m w)(e:w'.heap=w.heap)(e2:Calm w w':=by first|exact⟨rfl,rfl,rfl,QK _⟩|exact⟨rfl,rfl,rfl,Nat.le_succ _⟩):Sim E j m w j m w' :=
 { Sim.refl h with mr:=h.of_heap e,size:=by rw[e]; exact QK _,frame:=fun c _ _=>by rw[e],calm:=e2.e}
def MR.uH{x:Nat}(h:MR E j m w):MR E j { m with wl:=x} w:=⟨h.lt,h.obj,h.inj,h.glob⟩
def mD(h:MR E j m w){ao:TU}{co:Obj}{mo:TN (Nat×Nat×Nat)}(ho:OR j ⟨w.heap.size,mo⟩ ao co) :
  Sim E j m w (j.set m.next ⟨w.heap.size,mo⟩) (m.alloc ao) (w.alloc co):=by
 have hle:j.le (j.set m.next ⟨w.heap.size,mo⟩):=aN.nJ _ h.mT
 have hlt:∀b k,j b=some k->b≠m.next:=fun b k e=>Nat.ne_of_lt (h.lt b k e).1
 refine⟨.alloc m ao,hle,?_,⟨?_,?_,?_,?_⟩,by simp,xS,?_,?_,?_,⟨rfl,rfl,rfl,fun _=>QK _⟩⟩
 intro b k hb hn
 by_cases e:b=m.next
 exact SE e.symm
 rw[aN.bM _ _ e,hn] at hb; cases hb
 intro b k hb
 by_cases e:b=m.next
 subst e; rw[aN.bV] at hb; cases hb; simp
 rw[aN.bM _ _ e] at hb;have:=h.lt b k hb;simp; omega
 intro b o k hg hb
 by_cases e:b=m.next
 subst e;rw[aN.bV] at hb; cases hb;rw[TS.aU,QH rfl] at hg; cases hg;exact⟨co,World.alloc_heap_new w co,ho.mono hle⟩
 rw[aN.bM _ _ e] at hb;rw[TS.aU,QF e] at hg;obtain⟨o',h1,h2⟩:=h.obj b o k hg hb;refine⟨o',?_,h2.mono hle⟩;have hk:=(h.lt b k hb).2
 show(w.heap.push co)[k.c]? = some o'
 rw[Si,S8]; exact h1
 intro b b' k k' hb hb' hl hl' hc
 by_cases e:b=m.next<;>by_cases e':b'=m.next
 rw[e,e']
 subst e;rw[aN.bV] at hb; cases hb;rw[aN.bM _ _ e'] at hb';exact Q1 (h.lt b' k' hb').2 (by simp at hc; omega)
 subst e';rw[aN.bV] at hb'; cases hb';rw[aN.bM _ _ e] at hb;exact Q1 (h.lt b k hb).2 (by simp at hc; omega)
 rw[aN.bM _ _ e] at hb;rw[aN.bM _ _ e'] at hb';rw[TS.aU,QF e] at hl;rw[TS.aU,QF e'] at hl';exact h.inj b b' k k' hb hb' hl hl' hc
 intro g hg; exact hle _ _ (h.glob g hg)
 intro b hb _; rw[TS.aU,S8]
 intro b k hb hn
 by_cases e:b=m.next
 subst e; rw[aN.bV] at hb; cases hb; exact .inl (QK _)
 rw[aN.bM _ _ e,hn] at hb; cases hb
 intro c hc _
 show(w.heap.push co)[c]? = w.heap[c]?
 rw[Si,S8]
def ig(h:MR E j m w){b:Nat}{k:Blk}(hk:j b=some k)(hl:(m.get b).isSome=true){ao:TU}{co:Obj}(ho:OR j k ao co) :
  Sim E j m w j (m.set b ao) (w.putObj k.c co):=by
 refine⟨.set ao hl,.refl j,fun x k' e e'=>by simp[e'] at e,⟨?_,?_,?_,h.glob⟩,by simp,fun b h1 h2 _=>Q1 h1 (by simp at h2; omega),?_,fun x k' e e'=>by simp[e'] at e,?_,⟨rfl,rfl,rfl,fun _=>QK _⟩⟩
 intro x k' e; simpa using h.lt x k' e
 intro x o k' hg e
 by_cases hx:x=b
 subst hx;rw[hk] at e; cases e;rw[TS.bl,QH rfl] at hg; cases hg;exact⟨co,World.putObj_heap_same (h.lt x k hk).2,ho⟩
 rw[TS.bl,QF hx] at hg;obtain⟨o',h1,h2⟩:=h.obj x o k' hg e;refine⟨o',?_,h2⟩;rw[World.putObj_heap_other]
 exact h1
 intro hc;exact hx (h.inj x b k' k e hk (by rw[hg]; rfl) hl hc)
 intro x x' k1 k2 e e' hl1 hl2 hc;refine h.inj x x' k1 k2 e e' ?_ ?_ hc
 rw[TS.bl] at hl1; split at hl1
 rename_i hx; subst hx; exact hl
 exact hl1
 rw[TS.bl] at hl2; split at hl2
 rename_i hx; subst hx; exact hl
 exact hl2
 intro x hx hn;rw[TS.bl,QF]; intro e; subst e; rw[hk] at hn; cases hn
 intro c hc H;apply World.putObj_heap_other;intro e;have:=H b k hk hl e.symm;simp at this; omega
def xo(h:MR E j m w){b:Nat}{k0:Blk}(hk0:j b=some k0):Sim E j m w j (m.kill b) w:=by
 refine⟨.kill m b,.refl j,fun x k' e e'=>by simp[e'] at e,⟨h.lt,?_,?_,h.glob⟩,QK _,fun b h1 h2 _=>Q1 h1 (by simp at h2; omega),?_,fun x k' e e'=>by simp[e'] at e,fun _ _ _=>rfl,⟨rfl,rfl,rfl,fun _=>QK _⟩⟩
 intro x o k hg e;rw[TS.dB] at hg
 split at hg
 cases hg
 exact h.obj x o k hg e
 intro x x' k k' e e' hl hl' hc;rw[TS.dB] at hl hl'
 split at hl
 cases hl
 split at hl'
 cases hl'
 exact h.inj x x' k k' e e' hl hl' hc
 intro x hx hn;rw[TS.dB,QF];intro e; subst e; rw[hk0] at hn; cases hn
def rJ(h:MR E j m w){b:Nat}{k:Blk}(hk:j b=some k)(hl:(m.get b).isSome=true){ao:TU}{co:Obj}{mo:TN (Nat×Nat×Nat)}(ho:OR j ⟨k.c,mo⟩ ao co) :
  Sim E j m w (j.set m.next ⟨k.c,mo⟩) ((m.kill b).alloc ao) (w.putObj k.c co):=by
 have hle:j.le (j.set m.next ⟨k.c,mo⟩):=aN.nJ _ h.mT
 have hbn:b<m.next:=(h.lt b k hk).1
 have hkc:k.c<w.heap.size:=(h.lt b k hk).2;have hget:∀x,((m.kill b).alloc ao).get x=if x=m.next then some ao else if x=b then none else m.get x:=by
  intro x; rw[TS.aU,TS.dB]; rfl
 refine⟨(AExt.kill m b).trans (AExt.alloc _ ao),hle,?_,⟨?_,?_,?_,fun g hg=>hle _ _ (h.glob g hg)⟩,by simp,xS,?_,?_,?_,⟨rfl,rfl,rfl,fun _=>QK _⟩⟩
 intro x k' hx hn
 by_cases e:x=m.next
 exact SE e.symm
 rw[aN.bM _ _ e,hn] at hx; cases hx
 intro x k' hx
 by_cases e:x=m.next
 subst e; rw[aN.bV] at hx; cases hx; simp; exact hkc
 rw[aN.bM _ _ e] at hx;have:=h.lt x k' hx;simp; omega
 intro x o k' hg hx;rw[hget] at hg
 by_cases e:x=m.next
 subst e;rw[aN.bV] at hx; cases hx;rw[QH rfl] at hg; cases hg;exact⟨co,World.putObj_heap_same hkc,ho.mono hle⟩
 rw[aN.bM _ _ e] at hx;rw[QF e] at hg
 split at hg
 cases hg
 rename_i hxb;obtain⟨o',h1,h2⟩:=h.obj x o k' hg hx;refine⟨o',?_,h2.mono hle⟩;rw[World.putObj_heap_other]
 exact h1
 intro hc;exact hxb (h.inj x b k' k hx hk (by rw[hg]; rfl) hl hc)
 intro x x' k1 k2 hx hx' hl1 hl2 hc;rw[hget] at hl1 hl2
 by_cases e:x=m.next<;>by_cases e':x'=m.next
 rw[e,e']
 subst e;rw[aN.bV] at hx; cases hx;rw[aN.bM _ _ e'] at hx';rw[QF e'] at hl2
 split at hl2
 cases hl2
 rename_i hxb;exact Q1 (h.inj x' b k2 k hx' hk hl2 hl hc.symm) hxb
 subst e';rw[aN.bV] at hx'; cases hx';rw[aN.bM _ _ e] at hx;rw[QF e] at hl1
 split at hl1
 cases hl1
 rename_i hxb;exact Q1 (h.inj x b k1 k hx hk hl1 hl hc) hxb
 rw[aN.bM _ _ e] at hx;rw[aN.bM _ _ e'] at hx';rw[QF e] at hl1;rw[QF e'] at hl2
 split at hl1
 cases hl1
 split at hl2
 cases hl2
 exact h.inj x x' k1 k2 hx hx' hl1 hl2 hc
 intro x hx hn;rw[hget,S8,QF]
 intro e; subst e; rw[hk] at hn; cases hn
 intro x k' hx hn
 by_cases e:x=m.next
 subst e; rw[aN.bV] at hx; cases hx;exact .inr ⟨b,k,hk,hl,rfl,by simp; omega⟩
 rw[aN.bM _ _ e,hn] at hx; cases hx
 intro c hc H;apply World.putObj_heap_other;intro e;have:=H b k hk hl e.symm;simp at this; omega
def MR.fP(h:MR E j m w){b:Nat}{k:Blk}(hk:j b=some k){cs:TO SX}{tag:Tag}(hg:m.get b=some (.cells cs tag)) :
  ∃c e fz,w.heap[k.c]? = some (.cells c e fz)/\pj k tag cs.length c fz/\∀(i:Nat) (v:SX),cs[i]? = some v->∃v',c[i]? = some v'/\VR j v v':=by
 obtain⟨o',h1,h2⟩:=h.obj b _ k hg hk;cases o' with
 | cells c e fz=>exact⟨c,e,fz,h1,h2.1,h2.2⟩
 | _=>exact h2.elim
def MR.cell(h:MR E j m w){b:Nat}{k:Blk}(hk:j b=some k){cs:TO SX}{tag:Tag}(hg:m.get b=some (.cells cs tag)){o:Nat}{v:SX}(hv:cs[o]? = some v) :
  ∃v',w.cell? ⟨k.c,o,none⟩=some v'/\VR j v v':=by
 obtain⟨c,e,fz,h1,_,h3⟩:=h.fP hk hg;obtain⟨v',h4,h5⟩:=h3 o v hv;exact⟨v',by simp[World.cell?,h1,h4],h5⟩
def lA(c o i:Nat):(⟨c,o,none⟩:Addr).add i=⟨c,o+i,none⟩:=by
 unfold Addr.add
 split
 rename_i e; subst e; rfl
 rfl
def rA{b o n:Nat}{vs:TO SX}(hm:m.dQ b o n=some vs):∃cs tag,m.get b=some (.cells cs tag)/\vs=(cs.drop o).take n/\vs.length=n:=by
 unfold TS.dQ at hm
 split at hm
 rename_i cs tag hg;simp only at hm
 split at hm
 rename_i hl;cases hm;exact⟨cs,tag,hg,rfl,hl⟩
 cases hm
 cases hm
def MR.dQ(h:MR E j m w){b:Nat}{k:Blk}(hk:j b=some k){o n:Nat}{vs:TO SX}(hm:m.dQ b o n=some vs) :
  ∃vs',(∀w0:S5,w0.heap=w.heap->(loadCells ⟨k.c,o,none⟩ n).run E.P w0=.ok vs'.toArray w0)/\LR j vs vs':=by
 obtain⟨cs,tag,hg,rfl,hl⟩:=rA hm;obtain⟨c,e,fz,h1,_,h3⟩:=h.fP hk hg;have hcell:∀i,i<n->∃v v',cs[o+i]? = some v/\c[o+i]? = some v'/\VR j v v':=by
  intro i hi;have:o+i<cs.length:=by simp at hl; omega
  obtain⟨v',a,b⟩:=h3 (o+i) _ (QG this);exact⟨_,v',QG this,a,b⟩
 refine⟨(List.range n).map fun i=>c.getD (o+i) undef,fun w0 hw0=>run_loadCells w0 _ n _ ?_,?_⟩
 intro i hi;obtain⟨v,v',_,a,_⟩:=hcell i hi;rw[lA];simp[World.cell?,hw0,h1,a]
 refine⟨by simp; simpa using hl,fun i v hi=>?_⟩
 rw[RK] at hi
 split at hi
 rename_i hlt;rw[RL] at hi;obtain⟨v1,v',a,b,r⟩:=hcell i hlt;rw[hi] at a; cases a;refine⟨v',?_,r⟩;simp[hlt,b]
 cases hi
def qo(cs:TO SX)(o:Nat):ay cs o []=cs:=by
 induction cs generalizing o with
 | nil=>cases o<;>rfl
 | cons c cs ih=>cases o<;>simp[ay,ih]
def aW:∀(cs:TO SX) (o:Nat) (vs:TO SX),(ay cs o vs).length=cs.length
 | [],0,[]=>rfl
 | [],0,_::_=>rfl
 | [],_+1,_=>rfl
 | _::_,0,[]=>rfl
 | _::cs,0,_::vs=>by simp[ay,aW cs 0 vs]
 | _::cs,o+1,vs=>by simp[ay,aW cs o vs]
def aL:∀(cs:TO SX) (o:Nat) (vs:TO SX) (i:Nat),(ay cs o vs)[i]? = if o<=i/\i<o+vs.length/\i<cs.length then vs[i-o]? else cs[i]?
 | [],0,[],i=>by simp[ay]
 | [],0,_::_,i=>by simp[ay]
 | [],_+1,_,i=>by simp[ay]
 | c::cs,0,[],i=>by simp[ay]
 | c::cs,0,v::vs,0=>by simp[ay]
 | c::cs,0,v::vs,i+1=>by
  have:=aL cs 0 vs i;simp only[ay,Rm,this,Rl,RF,true_and,Ra,Sd,Nat.add_lt_add_iff_right]
 | c::cs,o+1,vs,0=>by simp[ay]
 | c::cs,o+1,vs,i+1=>by
  have:=aL cs o vs i;simp only[ay,Rm,this,Rl,Nat.add_le_add_iff_right,Nat.add_lt_add_iff_right,Nat.add_sub_add_right,Nat.add_right_comm o 1 vs.length]
def dy:∀(cs:TO SX) (o:Nat) (v:SX) (vs:TO SX),o<cs.length->ay cs o (v::vs)=ay (cs.set o v) (o+1) vs
 | [],_,_,_,h=>by simp at h
 | c::cs,0,v,vs,_=>by simp[ay]
 | c::cs,o+1,v,vs,h=>by simp[ay,dy cs o v vs (by simpa using h)]
def rM{w:S5}{B o:Nat}{c:TW SX}{e:SY}{fz:Nat×Nat}(h:w.heap[B]? = some (.cells c e fz))(v:SX) :
  w.setCell ⟨B,o,none⟩ v=w.putObj B (.cells (c.setIfInBounds o v) e fz):=by
 unfold World.setCell World.putObj
 congr 1
 apply SI;intro i;rw[Array.getElem?_modify,Sl]
 by_cases hi:B=i
 subst hi;obtain⟨hlt,hv⟩:=QP.1 h;simp[hlt,hv]
 simp[hi]
def jC{w:S5}{B:Nat}{o o':Obj}:(w.putObj B o).putObj B o'=w.putObj B o':=by
 unfold World.putObj;simp
def lb{w:S5}{B:Nat}{o:Obj}(h:w.heap[B]? = some o):w.putObj B o=w:=by
 unfold World.putObj
 congr 1
 apply SI;intro i;rw[Sl]
 split
 rename_i hi; subst hi;obtain⟨hlt,hv⟩:=QP.1 h;simp[hlt,hv]
 rfl
def fR{P:S0}{B:Nat}{e:SY}:∀(vs:TO SX) (w:S5) (c:TW SX) (off i:Nat),w.heap[B]? = some (.cells c e (0,0))->off+i+vs.length<=c.size ->
  aV vs=true->(storeCells ⟨B,off,none⟩ vs i).run P w=.ok () (w.putObj B (.cells (ay c.toList (off+i) vs).toArray e (0,0)))
 | [],w,c,off,i,h,_,_=>by
  simp only[storeCells,TZ,qo];rw[show c.toList.toArray=c from rfl,lb h]
 | v::vs,w,c,off,i,h,hlen,hone=>by
  have hlen':off+i+(vs.length+1)<=c.size:=by simpa using hlen
  have hone':j8 v=true/\aV vs=true:=by simpa [aV] using hone
  have hv:v.oneCell'=true:=by
   have:=hone'.1; cases v<;>first|rfl |(simp[j8] at this)
  have hcell:w.cell? ⟨B,off+i,none⟩=some c[off+i]:=by
   simp[World.cell?,h]
  have hfz:w.frozen? ⟨B,off+i,none⟩=false:=by simp[World.frozen?,h]
  have hh:(w.putObj B (.cells (c.setIfInBounds (off+i) v) e (0,0))).heap[B]? = some (.cells (c.setIfInBounds (off+i) v) e (0,0)) :=
   World.putObj_heap_same (QP.1 h).1
  have ih:=fR (P:=P) vs _ (c.setIfInBounds (off+i) v) off (i+1) hh (by simp; omega) hone'.2
  simp only[storeCells,TY,lA];rw[run_store _ _ _ _ _ hv];simp only[hcell,hfz,TX,Q8,if_false,rM h,ih,jC]
  congr 4
  rw[dy _ _ _ _ (by simp; omega)]
  simp[Nat.add_assoc]
def rU{j:aN}{v v':SX}(h:VR j v v')(ho:j8 v=true):j8 v'=true:=by
 cases h<;>first|rfl|exact tW ‹_› |(simp[j8] at ho)
def oi{j:aN}{vs vs':TO SX}(h:LR j vs vs')(ho:aV vs=true):aV vs'=true:=by
 induction vs generalizing vs' with
 | nil=>rw[h.da]; rfl
 | cons v vs ih =>
  obtain⟨y,ys,rfl,h1,h2⟩:=h.cons_inv;simp only[aV,Sk,QJ] at ho ⊢;exact⟨rU h1 ho.1,ih h2 ho.2⟩
def xI{b o:Nat}{vs:TO SX}{m':TS}(hm:m.cM b o vs=some m') :
  (vs=[]/\m'=m)\/∃cs tag,m.get b=some (.cells cs tag)/\tag≠.ro/\o+vs.length<=cs.length/\m'=m.set b (.cells (ay cs o vs) tag):=by
 unfold TS.cM at hm
 split at hm
 cases hm; exact .inl ⟨rfl,rfl⟩
 split at hm
 cases hm
 rename_i cs tag hro hg
 split at hm
 rename_i hl;cases hm;exact .inr ⟨cs,tag,hg,fun e=>hro e,hl,rfl⟩
 cases hm
 cases hm
def iU(h:MR E j m w){b:Nat}{k:Blk}(hk:j b=some k){o:Nat}{vs vs':TO SX}(hv:LR j vs vs')(ho:aV vs=true){m':TS}(hm:m.cM b o vs=some m') :
  ∃w',(storeCells ⟨k.c,o,none⟩ vs').run E.P w=.ok () w'/\Sim E j m w j m' w':=by
 rcases xI hm with⟨rfl,rfl⟩|⟨cs,tag,hg,hro,hl,rfl⟩
 rw[hv.da];exact⟨w,rfl,.refl h⟩
 ·obtain⟨c,e,fz,h1,h2,h3⟩:=h.fP hk hg;have hfz:fz=(0,0)/\cs.length<=c.size:=by
   cases tag with
   | ro=>exact Q1 rfl hro
   | own=>exact⟨h2.2.2,by rw[h2.2.1]; exact QK _⟩
   | more sz=>exact⟨h2.2.2.1,h2.2.1⟩
  obtain⟨rfl,hsz⟩:=hfz;refine⟨_,fR vs' w c o 0 h1 (by rw[<-hv.1]; simp; omega) (oi hv ho),ig h hk (by rw[hg]; rfl) ⟨?_,?_⟩⟩
  rw[aW];have:(ay c.toList (o+0) vs').toArray.size=c.size:=by simp[aW]
  exact h2.put this fun i hi=>by
   rw[Re,aL,QF (by rw[<-hv.1]; omega)]; simp
  intro i v hi;rw[aL] at hi;have:(ay c.toList (o+0) vs').toArray[i]? = if o<=i/\i<o+vs'.length/\i<c.size then vs'[i-o]? else c[i]?:=by
   rw[Re,aL]; simp
  rw[this]
  by_cases hc:o<=i/\i<o+vs.length/\i<cs.length
  rw[QH hc] at hi;rw[QH ⟨hc.1,hv.1▸hc.2.1,by omega⟩]
  exact hv.2 _ v hi
  rw[QF hc] at hi;have hi':=(QU.1 hi).1;rw[QF (by rw[<-hv.1]; omega)]
  exact h3 i v hi
end
section
variable{P:S0}{w:S5}
def sO{t:SY}{i:TypeInfo}(h:P.info? t=some i)(w:S5):(typeInfo t).run P w=.ok i w:=by simp[typeInfo,h]
def cn{t:SY}(h:known P t=true)(w:S5):(sizeOf t).run P w=.ok (aB P t) w:=by
 simp only[known,QJ,Option.isSome_iff_exists] at h;obtain⟨_,i,hi⟩:=h;simp[sizeOf,sO hi,aB,Program.cellsOf,hi]
def mG{t:SY}(h:known P t=true)(w:S5):(isAgg t).run P w=.ok (dD P t) w:=by
 simp only[known,QJ,Option.isSome_iff_exists] at h;obtain⟨⟨d,hd⟩,_⟩:=h;simp only[isAgg,TY,T0 hd,TX,dD,hd];cases d<;>rfl
def iw{t:SY}{z:SX}(h:bj P t=some z)(w:S5):(zeroValue t).run P w=.ok z w:=by
 unfold bj at h;cases hi:P.info? t with
 | none=>rw[hi] at h; cases h
 | some i =>
  rw[hi] at h;have hz:i.zero=some z:=h;simp[zeroValue,sO hi,hz]
def uT{t:SY}{z:SX}(h:bj P t=some z):∃i,P.info? t=some i/\i.zero=some z:=by
 unfold bj at h;cases hi:P.info? t with
 | none=>rw[hi] at h; cases h
 | some i=>rw[hi] at h; exact⟨i,rfl,h⟩
def LR.extract{j:aN}{xs ys:TW SX}(h:LR j xs.toList ys.toList)(a b:Nat):LR j (xs.extract a b).toList (ys.extract a b).toList:=by
 simp only[Array.toList_extract];exact(h.drop a).take (b-a)
def oQ{j:aN}{t:SY}{cs cs':TW SX}{off:Nat}{v:SX}(h:cX P t cs off=some v)(hc:LR j cs.toList cs'.toList) :
  ∃v',(∀w,(part t cs' off).run P w=.ok v' w)/\VR j v v':=by
 unfold cX at h
 split at h
 cases h
 rename_i hk;have hk':known P t=true:=by simpa using hk
 split at h
 rename_i ha;cases h;refine⟨.agg (cs'.extract off (off+aB P t)),fun w=>?_,.Dd (hc.extract _ _)⟩;simp[part,mG hk',ha,cn hk']
 rename_i ha;have:cs.toList[off]? = some v:=by simpa using h
 obtain⟨v',h1,h2⟩:=hc.get this;refine⟨v',fun w=>?_,h2⟩;have h1':cs'[off]? = some v':=by simpa using h1
 have ha':dD P t=false:=by simpa using ha
 simp[part,mG hk',ha',h1']
def gI(d:Nat)(xs ys:TW SX):TO (SY×Nat)->Sem Bool
 | []=>pure true
 |(t,off)::rest=>do
  let a <-part t xs off
  let b <-part t ys off
  let r <-Op.equalIn d t a b
  if(!r)=true then pure false else gI d xs ys rest
def iQ (d : Nat) (xs ys : TW SX) : ∀ (fs : TO Field) (w : S5), fs.any (·.name == "_") = false ->
  (Op.eqFields d xs ys fs).run P w=(gI d xs ys (fs.map fun f=>(f.type,f.offset))).run P w
 | [],_,_=>rfl
 | f::fs,w,h=>by
  simp only[List.any_cons,Bool.or_eq_false_iff] at h;have hn : f.name ≠ "_" := by simpa using h.1
  simp only[Op.eqFields,QH hn,RQ,gI,TY,Sem.run_ite]
  congr 1; funext a w1; congr 1; funext b w2; congr 1; funext r w3
  split
  rfl
  exact iQ d xs ys fs w3 h.2
def run_equalIn_array(d:Nat)(t:SY)(len:Nat)(elem:SY)(xs ys:TW SX)(ht:P.underlying t=some (.array len elem))(he:known P elem=true)(w:S5) :
  (Op.equalIn (d+1) t (.agg xs) (.agg ys)).run P w=(gI d xs ys ((List.range len).map fun i=>(elem,i*aB P elem))).run P w:=by
 simp only[Op.equalIn,TY,T0 ht,TX,cn he];rw[Std.Legacy.Range.forIn_eq_forIn_range'];simp only[Std.Legacy.Range.size,Sd,Nat.add_sub_cancel,Nat.div_one];rw[<-List.range_eq_range'];generalize List.range len=is
 induction is generalizing w with
 | nil=>simp[gI]
 | cons i is ih =>
  simp only[List.forIn_cons,RQ,gI,TY,Sem.run_ite];generalize(part elem xs (i*aB P elem)).run P w=r1;cases r1 with
  | ok a w1 =>
   simp only[TX];generalize(part elem ys (i*aB P elem)).run P w1=r2;cases r2 with
   | ok b w2 =>
    simp only[TX];generalize(Op.equalIn d elem a b).run P w2=r3;cases r3 with
    | ok r w3 =>
     cases r
     simp only[TX,Rq,if_true,TZ]
     simp only[TX,Rv,Q8,if_false,TZ];exact ih w3
    | halt x w3=>simp[Result.andThen]
   | halt x w2=>simp[Result.andThen]
  | halt x w1=>simp[Result.andThen]
def mh{j:aN}{d:Nat}(ih:∀{t:SY} {x y x' y':SX} {b:Bool},jK P d t x y=some b->VR j x x'->VR j y y'->∀w,(Op.equalIn d t x' y').run P w=.ok b w)
  {xs ys xs' ys':TW SX} (hx:LR j xs.toList xs'.toList) (hy:LR j ys.toList ys'.toList) :
  ∀(l:TO (SY×Nat)) {b:Bool},gF (jK P d) P xs ys l=some b->∀w,(gI d xs' ys' l).run P w=.ok b w
 | [],b,h,w=>by cases h; rfl
 | (t,off)::rest,b,h,w=>by
  simp only[gF] at h
  split at h
  ·rename_i x y h1 h2;obtain⟨x',e1,r1⟩:=oQ h1 hx;obtain⟨y',e2,r2⟩:=oQ h2 hy;simp only[gI,TY,e1,e2,TX]
   split at h
   rename_i he;rw[ih he r1 r2 w];simp only[TX,Rv,Q8,if_false];exact mh ih hx hy rest h w
   ·rename_i hne;cases b with
    | true=>exact Q1 h hne
    | false =>
     rw[ih h r1 r2 w];simp
  cases h
def j9{j:aN}:∀(d:Nat) {t:SY} {x y x' y':SX} {b:Bool},jK P d t x y=some b->VR j x x'->VR j y y'->∀w,(Op.equalIn d t x' y').run P w=.ok b w
 | 0,_,_,_,_,_,_,h,_,_,_=>by cases h
 | d+1,t,x,y,x',y',b,h,hx,hy,w=>by
  unfold jK at h
  split at h
  rename_i ht; cases h; cases hx; cases hy; simp only[Op.equalIn,TY,T0 ht,TX,TZ]
  rename_i ht
  split at h
  rename_i hk; cases h; cases hx; cases hy; simp only[Op.equalIn,TY,T0 ht,TX,TZ,QH hk]
  cases h
  rename_i ht; cases h; cases hx; cases hy; simp only[Op.equalIn,TY,T0 ht,TX,TZ]
  rename_i ht; cases h; cases hx; cases hy<;>simp only[Op.equalIn,TY,T0 ht,TX,TZ]<;>rfl
  rename_i ht; cases h; cases hx; cases hy; simp only[Op.equalIn,TY,T0 ht,TX,TZ]
  rename_i ht; cases h; cases hx; cases hy<;>simp only[Op.equalIn,TY,T0 ht,TX,TZ]<;>rfl
  rename_i ht; cases h; cases hy; cases hx<;>simp only[Op.equalIn,TY,T0 ht,TX,TZ]
  rename_i ht; cases h; cases hx; cases hy<;>simp only[Op.equalIn,TY,T0 ht,TX,TZ]<;>rfl
  rename_i ht; cases h; cases hy; cases hx<;>simp only[Op.equalIn,TY,T0 ht,TX,TZ]
  rename_i ht; cases h; cases hx; cases hy; simp only[Op.equalIn,TY,T0 ht,TX,TZ]
  rename_i ht; cases h; cases hx; cases hy<;>simp only[Op.equalIn,TY,T0 ht,TX,TZ]
  rename_i ht; cases h; cases hy; cases hx<;>simp only[Op.equalIn,TY,T0 ht,TX,TZ]
  ·rename_i fs xs ys ht
   split at h
   cases h
   ·rename_i hs;simp only[RO,not_or,Bool.not_eq_true] at hs;cases hx with
    | agg h1 h2 =>
    cases hy with
    | agg h3 h4 =>
    have hf:P.fieldsOf t=fs:=by simp[Program.fieldsOf,ht]
    rw[run_equalIn_struct _ d t _ _ (by rw[hf]; exact ht) hs.1,hf,iQ _ _ _ _ _ (by simpa using hs.2)]
    exact mh (fun a b c w=>j9 d a b c w) (LR.fu h1 h2) (LR.fu h3 h4) _ h w
  ·rename_i len elem xs ys ht
   split at h
   ·rename_i hk;cases hx with
    | agg h1 h2 =>
    cases hy with
    | agg h3 h4 =>
    rw[run_equalIn_array d t len elem _ _ ht hk];exact mh (fun a b c w=>j9 d a b c w) (LR.fu h1 h2) (LR.fu h3 h4) _ h w
   cases h
  cases h
end
def nv(P:S0)(s:Sem SX)(v:SX):Prop:=∀w,s.run P w=.ok v w
section
variable{P:S0}{j:aN}
def dP(op:BinOp)(t:SY)(x y:SZ){a b:SX}(h1:∀xs ys,a=.agg xs->b=.agg ys->False)(h2:a≠.nilIface)(w:S5) :
  (eqGuard op t x y a b).run P w=.ok () w:=by
 unfold eqGuard;cases op<;>simp only[Rq,Rv,if_true,Q8,if_false,TZ]<;>
  (split
   exact Q1 rfl h2
   exact(h1 _ _ rfl rfl).elim
   rfl)
def mU:SX->Bool
 | .bool _|.pointer _|.slice _ _ _|.map _|.func _ _ _|.nilFunc=>true
 | _=>false
def binOp_eql{t:SY}{x y:SX}(h:mU x=true):binOp .eql t x y=(do pure (.bool (<-Op.equal t x y))):=by
 cases x<;>first |(simp[mU] at h; done) |(cases y<;>rfl)
def binOp_neq{t:SY}{x y:SX}(h:mU x=true):binOp .neq t x y=(do pure (.bool (!(<-Op.equal t x y)))):=by
 cases x<;>first |(simp[mU] at h; done) |(cases y<;>rfl)
def Ie {op:BinOp} {t:SY} {x y x' y' v:SX} (h:bR op t P x y=some v) (hx:VR j x x') (hy:VR j y y') (ox oy:SZ) :
  ∃v',nv P (do eqGuard op t ox oy x' y'; binOp op t x' y') v'/\VR j v v':=by
 unfold bR at h
 split at h
 case h_1 =>
  cases hx; cases hy
  split at h
  cases h
  rename_i hb;cases h;refine⟨_,fun w=>?_,.int _ _⟩;rw[TY,dP _ _ _ _ (by intro _ _ e; cases e) (by intro e; cases e)]
  simp only[TX,binOp,Op.shift,QF hb,TZ]
 case h_2 =>
  cases hx; cases hy
  split at h
  cases h
  rename_i hb;cases h;refine⟨_,fun w=>?_,.int _ _⟩;rw[TY,dP _ _ _ _ (by intro _ _ e; cases e) (by intro e; cases e)]
  simp only[TX,binOp,Op.shift,QF hb,TZ]
 case h_12 =>
  cases hx; cases hy
  split at h
  rename_i hk
  split at h
  cases h
  rename_i hb;cases h;refine⟨_,fun w=>?_,.int _ _⟩;rw[TY,dP _ _ _ _ (by intro _ _ e; cases e) (by intro e; cases e)]
  simp only[TX,binOp,hk,ne_eq,not_true_eq_false,if_false,Op.intDiv,QF hb,TZ]
  cases h
 case h_13 =>
  cases hx; cases hy
  split at h
  rename_i hk
  split at h
  cases h
  rename_i hb;cases h;refine⟨_,fun w=>?_,.int _ _⟩;rw[TY,dP _ _ _ _ (by intro _ _ e; cases e) (by intro e; cases e)]
  simp only[TX,binOp,hk,ne_eq,not_true_eq_false,if_false,Op.intDiv,QF hb,TZ]
  cases h
 case h_18 =>
  cases h; cases hx; cases hy;refine⟨_,fun w=>?_,.bool _⟩;rw[TY,dP _ _ _ _ (by intro _ _ e; cases e) (by intro e; cases e)]
  simp only[TX,binOp,Op.stringOp,TZ,beq_toListBytes]
 case h_19 =>
  cases h; cases hx; cases hy;refine⟨_,fun w=>?_,.bool _⟩;rw[TY,dP _ _ _ _ (by intro _ _ e; cases e) (by intro e; cases e)]
  simp only[TX,binOp,Op.stringOp,TZ,bne,beq_toListBytes]
 case h_20=>cases h
 case h_21 =>
  cases hx with
  | agg h1 h2 =>
  cases hy with
  | agg h3 h4 =>
  split at h
  cases h
  ·rename_i hg;cases he:jK P Op.maxDepth t (.agg _) (.agg _) with
   | none=>rw[he] at h; cases h
   | some b =>
    rw[he] at h; cases h;refine⟨_,fun w=>?_,.bool _⟩;have:=j9 (P:=P) Op.maxDepth he (.agg h1 h2) (.agg h3 h4) w;have hg':P.eqGuardType P.depth t=false:=by simpa using hg
    rw[TY,run_eqGuard_agg w _ _ _ _ _ _ hg'];simp only[TX,binOp,Op.equal,TY,this,TZ]
 case h_22 =>
  cases hx with
  | agg h1 h2 =>
  cases hy with
  | agg h3 h4 =>
  split at h
  cases h
  ·rename_i hg;cases he:jK P Op.maxDepth t (.agg _) (.agg _) with
   | none=>rw[he] at h; cases h
   | some b =>
    rw[he] at h; cases h;refine⟨_,fun w=>?_,.bool _⟩;have:=j9 (P:=P) Op.maxDepth he (.agg h1 h2) (.agg h3 h4) w;have hg':P.eqGuardType P.depth t=false:=by simpa using hg
    rw[TY,run_eqGuard_agg w _ _ _ _ _ _ hg'];simp only[TX,binOp,Op.equal,TY,this,TZ]
 case h_23 =>
  have key:mU x'=true/\∃b,jK P Op.maxDepth t x y=some b/\v=.bool b:=by
   split at h<;>first
    |(cases h; done)
    | (refine⟨?_,?_⟩
       cases hx<;>rfl
       ·cases he:jK P Op.maxDepth t _ y with
        | none=>rw[he] at h; cases h
        | some b=>rw[he] at h; cases h; exact⟨b,rfl,rfl⟩)
  obtain⟨hs,b,he,rfl⟩:=key;refine⟨_,fun w=>?_,.bool b⟩;rw[TY,dP _ _ _ _ (by intro _ _ e; subst e; cases hs) (by intro e; subst e; cases hs),TX,binOp_eql hs]
  simp only[Op.equal,TY,j9 _ he hx hy,TX,TZ]
 case h_24 =>
  have key:mU x'=true/\∃b,jK P Op.maxDepth t x y=some b/\v=.bool (!b):=by
   split at h<;>first
    |(cases h; done)
    | (refine⟨?_,?_⟩
       cases hx<;>rfl
       ·cases he:jK P Op.maxDepth t _ y with
        | none=>rw[he] at h; cases h
        | some b=>rw[he] at h; cases h; exact⟨b,rfl,rfl⟩)
  obtain⟨hs,b,he,rfl⟩:=key;refine⟨_,fun w=>?_,.bool (!b)⟩;rw[TY,dP _ _ _ _ (by intro _ _ e; subst e; cases hs) (by intro e; subst e; cases hs),TX,binOp_neq hs]
  simp only[Op.equal,TY,j9 _ he hx hy,TX,TZ]
 case h_25=>cases h
 all_goals
  cases hx; cases hy
  split at h
  rename_i hk;cases h;refine⟨_,fun w=>?_,(by first|exact .bool _|exact .int _ _)⟩
  rw[TY,dP _ _ _ _ (by intro _ _ e; cases e) (by intro e; cases e)]
  simp only[TX,binOp,hk,ne_eq,not_true_eq_false,if_false,Op.intArith,Op.intBits,Op.intCmp,TZ]
  cases h
def Mq{op:UnOp}{x x' v:SX}(h:Dz op x=some v)(hx:VR j x x'):∃v',nv P (Op.unary op x') v'/\VR j v v':=by
 unfold Dz at h
 split at h
 cases h; cases hx; exact⟨_,fun w=>rfl,.int _ _⟩
 cases h; cases hx; exact⟨_,fun w=>rfl,.int _ _⟩
 cases h; cases hx; exact⟨_,fun w=>rfl,.bool _⟩
 cases h
def Ei{s d:SY}{x x' v:SX}(h:jS P s d x=some v)(hx:VR j x x'):∃v',nv P (convert s d x') v'/\VR j v v':=by
 unfold jS at h
 split at h
 rename_i e1 e2;cases h; cases hx;refine⟨_,fun w=>?_,.int _ _⟩;simp only[convert,TY,T0 e1,T0 e2,TX,Conv.intToInt,TZ]
 rename_i e1 e2;cases h; cases hx;refine⟨_,fun w=>?_,.string _⟩;simp only[convert,TY,T0 e1,T0 e2,TX]
 rfl
 cases h
end
section
variable{P:S0}{j:aN}
def cells_one{v:SX}(h:j8 v=true):v.cells.toList=[v]:=by
 cases v<;>first|rfl |(simp[j8] at h)
def gJ{v v':SX}(h:VR j v v'):LR j v.cells.toList v'.cells.toList:=by
 cases h with
 | junk h=>rw[cells_one (tW h)]; exact LR.cons (.junk h) (.nil j)
 | agg h1 h2=>exact LR.fu h1 h2
 | bool b=>exact LR.cons (.bool b) (.nil j)
 | int k n=>exact LR.cons (.int k n) (.nil j)
 | string s=>exact LR.cons (.string s) (.nil j)
 | pnil=>exact LR.cons .pnil (.nil j)
 | ptr h=>exact LR.cons (.ptr h) (.nil j)
 | snil l c=>exact LR.cons (.snil l c) (.nil j)
 | slice h hm=>exact LR.cons (.slice h hm) (.nil j)
 | sliceM h hm h1 h2 hl hc=>exact LR.cons (.sliceM h hm h1 h2 hl hc) (.nil j)
 | fU=>exact LR.cons .fU (.nil j)
 | dry=>exact LR.cons .dry (.nil j)
 | mnil=>exact LR.cons .mnil (.nil j)
 | map h=>exact LR.cons (.map h) (.nil j)
 | func h1 h2 h3 h4=>exact LR.cons (.func h1 h2 h3 h4) (.nil j)
 | yield h h1 h2=>exact LR.cons (.yield h h1 h2) (.nil j)
 | nilFunc=>exact LR.cons .nilFunc (.nil j)
 | nilIface=>exact LR.cons .nilIface (.nil j)
 | tuple h1 h2=>exact LR.cons (.tuple h1 h2) (.nil j)
def LR.Kf{cs cs' vs vs':TO SX}(h:LR j cs cs')(hv:LR j vs vs')(o:Nat):LR j (ay cs o vs) (ay cs' o vs') :=
 ⟨by rw[aW,aW,h.1],fun i v hi=>by
  rw[aL] at hi ⊢;rw[<-hv.1,<-h.1]
  split at hi
  rename_i hc; rw[QH hc]; exact hv.2 _ v hi
  rename_i hc; rw[QF hc]; exact h.2 _ v hi⟩
def ov(off:Nat):∀(l:TO SX) (k:Nat) (cs:TW SX),off+k+l.length<=cs.size ->
  (l.zipIdx k).foldl (fun(cs:TW SX) (x:SX×Nat)=>cs.setIfInBounds (off+x.2) x.1) cs=(ay cs.toList (off+k) l).toArray
 | [],k,cs,_=>by simp[qo]
 | v::l,k,cs,h=>by
  have h':off+k+(l.length+1)<=cs.size:=by simpa using h
  simp only[List.zipIdx_cons,List.foldl_cons];rw[ov off l (k+1) _ (by simp; omega),dy _ _ _ _ (by simp; omega)]
  simp[Nat.add_assoc]
def pc{place:Nat->TN (Nat×Nat)}:∀{ps:TO (Nat×SX)} {ps':TO (Nat×SX)} {cells cells' r:TO SX},ps.map (·.1)=ps'.map (·.1)->LR j (ps.map (·.2)) (ps'.map (·.2)) ->
  LR j cells cells'->iK place cells ps=some r->∃r',Instr.fill place cells'.toArray ps'=some r'.toArray/\LR j r r'
 | [],ps',cells,cells',r,h1,_,hc,h=>by
  cases ps' with
  | nil=>cases h; exact⟨cells',rfl,hc⟩
  | cons _ _=>simp at h1
 | (i,v)::rest,ps',cells,cells',r,h1,h2,hc,h=>by
  cases ps' with
  | nil=>simp at h1
  | cons p rest' =>
   obtain⟨i',v'⟩:=p;simp only[RQ,List.cons.injEq] at h1;obtain⟨rfl,h1⟩:=h1;have hv:=h2.head;have hrest:=h2.tail;simp only[iK] at h
   split at h
   cases h
   rename_i off size hp
   split at h
   cases h
   rename_i hcond;have hcells:=gJ hv;have hsz:v.cells.size=v'.cells.size:=by simpa using hcells.1
   have hlen:cells.length=cells'.length:=hc.1;have hcond':¬((v'.cells.size≠size||off+v'.cells.size>cells'.toArray.size)=true):=by
    rw[<-hsz]; simpa [<-hlen] using hcond
   simp only[Instr.fill,hp,QF hcond'];have hle:off+0+v'.cells.toList.length<=cells'.toArray.size:=by
    simp only[RO,not_or,QR] at hcond';simp; have:=hcond'.2; simp at this; omega
   have hfold:=ov off v'.cells.toList 0 cells'.toArray hle;have hz:v'.cells.zipIdx.foldl (fun cs x=>cs.setIfInBounds (off+x.2) x.1) cells'.toArray=(ay cells' off v'.cells.toList).toArray:=by
    rw[<-Array.foldl_toList,Array.toList_zipIdx];exact hfold
   rw[show(v'.cells.zipIdx.foldl (fun cs (x:SX×Nat)=>match x with |(c,j)=>cs.setIfInBounds (off+j) c) cells'.toArray)=(ay cells' off v'.cells.toList).toArray from hz]
   exact pc h1 hrest (hc.Kf hcells off) h
def uk:∀(l:TO Field) (w:S5),l.all (fun f=>known P f.type)=true ->
  (l.mapM fun(f:Field)=>(do pure (f.offset,<-sizeOf f.type):Sem (Nat×Nat))).run P w=.ok (l.map fun f=>(f.offset,aB P f.type)) w
 | [],w,_=>rfl
 | f::l,w,h=>by
  simp only[Sk,QJ] at h;simp only[List.mapM_cons,TY,cn h.1,TX,TZ,uk l w h.2,RQ]
def D2(fields:TW Field)(h:fields.toList.all (fun f=>known P f.type)=true)(w:S5) :
  (fields.mapM fun(f:Field)=>(do pure (f.offset,<-sizeOf f.type):Sem (Nat×Nat))).run P w=.ok (fields.map fun f=>(f.offset,aB P f.type)) w:=by
 obtain⟨l⟩:=fields;simp only[List.mapM_toArray,Sem.run_map,List.map_toArray];rw[uk l w h]; rfl
def Cu{t:SY}{ps ps':TO (Nat×SX)}{v:SX}(h:lH P t ps=some v)(h1:ps.map (·.1)=ps'.map (·.1))(h2:LR j (ps.map (·.2)) (ps'.map (·.2)))
  {z:SX} (hz:bj P t=some z) (hp:bB z=true):∃v',nv P (Instr.build t ps'.toArray) v'/\VR j v v':=by
 have hzc:LR j z.cells.toList z.cells.toList:=gJ (VR.bB hp);unfold lH at h;rw[hz] at h
 split at h
 ·rename_i z0 fields hz0 hu;cases hz0
  split at h
  ·rename_i hall;cases hf:iK (fun i=>(fields[i]?).map fun f=>(f.offset,aB P f.type)) z.cells.toList ps with
   | none=>rw[hf] at h; cases h
   | some r =>
    rw[hf] at h; cases h;obtain⟨r',h3,h4⟩:=pc h1 h2 hzc hf;refine⟨.agg r'.toArray,fun w=>?_,.Dd (by simpa using h4)⟩
    have hpl:(fun(i:Nat)=>(fields.map fun(f:Field)=>(f.offset,aB P f.type))[i]?)=fun i=>(fields[i]?).map fun(f:Field)=>(f.offset,aB P f.type):=by
     funext i; simp
    simp only[Instr.build,TY,iw hz,T0 hu,TX,D2 fields hall,hpl];have h3':Instr.fill _ z.cells ps'=some r'.toArray:=h3;rw[h3']; rfl
  cases h
 ·rename_i z0 n elem hz0 hu;cases hz0
  split at h
  ·rename_i hk;cases hf:iK (fun i=>some (i*aB P elem,aB P elem)) z.cells.toList ps with
   | none=>rw[hf] at h; cases h
   | some r =>
    rw[hf] at h; cases h;obtain⟨r',h3,h4⟩:=pc h1 h2 hzc hf;refine⟨.agg r'.toArray,fun w=>?_,.Dd (by simpa using h4)⟩
    simp only[Instr.build,TY,iw hz,T0 hu,TX,cn hk];have h3':Instr.fill _ z.cells ps'=some r'.toArray:=h3;rw[h3']; rfl
  cases h
 cases h
def im{x x':SX}{y l:Nat}(h:iX x y=some l)(hx:VR j x x'){y':Nat}(hy:y<=y')(code:BoundsCode)(w:S5) :
  (Instr.sliceBound x' y' code).run P w=.ok l w/\l<=y:=by
 unfold iX at h
 split at h
 rename_i k i
 split at h
 rename_i hc;cases h;cases hx;refine⟨?_,by omega⟩
 simp only[Instr.sliceBound,asIntOf,TY,TZ,TX];rw[QH ⟨hc.1,by omega⟩]; rfl
 cases h
 cases h
def gR(mx:TN SX)(c m:Nat):Nat:=match mx with|none=>c|some _=>m
inductive OVR(j:aN):TN SX->TN SX->Prop
 | none:OVR j none none
 | some {v v':SX} (h:VR j v v'):OVR j (some v) (some v')
def iA{len cap:Nat}{lo hi mx:TN SX}{l h m:Nat}(e:bK len cap lo hi mx=some (l,h,m)):l<=h/\m<=cap/\(hi.isSome=true->h<=m)/\(hi=none->h=len/\mx=none)/\(mx=none->m=cap):=by
 have hb:∀(x:SX) (y l:Nat),iX x y=some l->l<=y:=by
  intro x y l h;unfold iX at h
  split at h
  split at h
  rename_i hc; cases h; omega
  cases h
  cases h
 unfold bK at e
 split at e
 cases e
 ·rename_i m' hm
  split at e
  cases e
  ·rename_i h' hh
   split at e
   cases e
   ·rename_i l' hl;cases e;have h1:m<=cap:=by
     cases mx with
     | none=>simp at hm; omega
     | some v=>exact hb _ _ _ hm
    have h2:hi.isSome=true->h<=m:=by
     cases hi with
     | none=>intro e; cases e
     | some v=>intro _; cases mx<;>exact hb _ _ _ hh
    have h3:hi=none->h=len/\mx=none:=by
     intro e; subst e;cases mx with
     | none=>simp at hh; exact⟨hh.symm,rfl⟩
     | some v=>simp at hh
    have h4:l<=h:=by
     cases lo with
     | none=>simp at hl; omega
     | some v=>exact hb _ _ _ hl
    have h5:mx=none->m=cap:=by intro e; subst e; simpa using hm.symm
    exact⟨h4,h1,h2,h3,h5⟩
def eB {len cap cap':Nat} {lo hi mx lo' hi' mx':TN SX} {l h m:Nat} (e:bK len cap lo hi mx=some (l,h,m)) (h1:OVR j lo lo') (h2:OVR j hi hi') (h3:OVR j mx mx') (hc:cap<=cap') (b:Bool) (w:S5) :
  (Instr.sliceBounds b len cap' lo' hi' mx').run P w=.ok (l,h,gR mx cap' m) w:=by
 unfold bK at e
 split at e
 cases e
 ·rename_i m' hm
  split at e
  cases e
  ·rename_i h' hh
   split at e
   cases e
   ·rename_i l' hl;cases e;cases h3 with
    | none =>
     have hm':cap=m:=by simpa using hm
     subst hm';cases h2 with
     | none =>
      have hh':len=h:=by simpa using hh
      subst hh';cases h1 with
      | none =>
       have:0=l:=by simpa using hl
       subst this;simp only[gR,Instr.sliceBounds,TY,TZ,TX]
      | some r1 =>
       have:=(im (P:=P) (by simpa using hl) r1 (QK _) .sliceB w).1
       simp only[gR,Instr.sliceBounds,TY,TZ,TX,Option.isSome_none,Q8,if_false,this]
     | some r2 =>
      have e2:=im (P:=P) (by simpa using hh) r2 hc (if b then .sliceAcap else .sliceAlen) w
      cases h1 with
      | none =>
       have:0=l:=by simpa using hl
       subst this;simp only[gR,Instr.sliceBounds,TY,TZ,TX,e2.1]
      | some r1 =>
       have:=(im (P:=P) (by simpa using hl) r1 (QK _) .sliceB w).1
       simp only[gR,Instr.sliceBounds,TY,TZ,TX,Option.isSome_none,Q8,if_false,e2.1,this]
    | some r3 =>
     have e3:=im (P:=P) (by simpa using hm) r3 hc (if b then .slice3Acap else .slice3Alen) w
     cases h2 with
     | none=>simp at hh
     | some r2 =>
      have e2:=(im (P:=P) (by simpa using hh) r2 (QK _) .slice3B w).1
      cases h1 with
      | none =>
       have:0=l:=by simpa using hl
       subst this;simp only[gR,Instr.sliceBounds,TY,TZ,TX,e2,e3.1]
      | some r1 =>
       have:=(im (P:=P) (by simpa using hl) r1 (QK _) .slice3C w).1
       simp only[gR,Instr.sliceBounds,TY,TZ,TX,Option.isSome_some,if_true,e2,e3.1,this]
def eE(c o i:Nat):(⟨c,o,none⟩:Addr).add i=⟨c,o+i,none⟩:=by
 unfold Addr.add
 split
 rename_i e; subst e; rfl
 rfl
def MR.kindOf{E:Env}{m:TS}{w:S5}(h:MR E j m w){b:Nat}{k:Blk}(hk:j b=some k){cs:TO SX}{tag:Tag}(hg:m.get b=some (.cells cs tag)) :
  match tag with
  | .more sz=>∃nc,k.more=some (sz,cs.length,nc)/\0<sz
  | _=>k.more=none:=by
 obtain⟨o',h1,h2⟩:=h.obj b _ k hg hk;cases o' with
 | cells c e fz =>
  have:=h2.1;cases tag with
  | ro=>exact this.1
  | own=>exact this.1
  | more sz=>exact⟨_,this.1,this.2.2.2.1⟩
 | _=>exact h2.elim
def Dj {E:Env} {m:TS} {w:S5} (h:MR E j m w) {t:SY} {x x' v:SX} {lo hi mx lo' hi' mx':TN SX} (e:bP E.P t x lo hi mx m=some v) (hx:VR j x x') (h1:OVR j lo lo') (h2:OVR j hi hi') (h3:OVR j mx mx') :
  ∃v',nv E.P (Instr.sliceAt t x' lo' hi' mx') v'/\VR j v v':=by
 unfold bP at e
 split at e
 ·
  rename_i elem len cap hu
  split at e
  ·rename_i hk
   split at e
   ·rename_i l hh mm hb;cases e; cases hx;refine⟨_,fun w=>?_,.snil _ _⟩;have:=eB (P:=E.P) (cap':=cap) hb h1 h2 h3 (QK _) true w;have hm:gR mx cap mm=mm:=by
     cases mx with
     | none=>exact((iA hb).2.2.2.2 rfl).symm
     | some _=>rfl
    rw[hm] at this;simp only[Instr.sliceAt,Instr.slice,TY,T0 hu,TX,this,cn hk,TZ]
    split<;>rfl
   cases e
  cases e
 ·rename_i elem b o len cap hu
  split at e
  ·rename_i hk
   split at e
   ·rename_i cs sz hg
    split at e
    cases e
    ·rename_i hsz;have hsz:sz=aB E.P elem:=Decidable.of_not_not hsz;cases hx with
     | slice hj hm =>
      have:=h.kindOf hj hg;simp only at this;obtain⟨nc,hmm,_⟩:=this;rw[hm] at hmm; cases hmm
     | sliceM hj hm e1 e2 hl hc =>
      rename_i cap' sz' na nc k;have hkd:=h.kindOf hj hg;simp only at hkd;obtain⟨nc',hmm,hpos⟩:=hkd;rw[hm] at hmm; cases hmm;cases h3 with
      | none =>
       simp only at e
       split at e
       ·rename_i l hh mm hb;have hbl:=iA hb;have hrun:=fun w=>eB (P:=E.P) (cap':=cap') hb h1 h2 .none hc true w;have hlc:l<=cap:=by
         cases hi with
         | none=>have:=hbl.2.2.2.1 rfl; omega
         | some _=>have:=hbl.2.2.1 rfl; omega
        split at e
        ·rename_i hcl;cases e;refine⟨_,fun w=>?_,.fU (a':=if cap'=l then⟨k.c,o,none⟩ else⟨k.c,o+l*aB E.P elem,none⟩) (cap':=cap'-l)⟩
         have hhl:hh-l=0:=by
          cases hi with
          | none=>have:=hbl.2.2.2.1 rfl; omega
          | some _=>have:=hbl.2.2.1 rfl; omega
         simp only[Instr.sliceAt,Instr.slice,TY,T0 hu,TX,hrun,cn hk,TZ,hhl,gR]
         split
         rfl
         rw[QZ,eE]
        ·rename_i hcl;cases e;refine⟨.slice (some ⟨k.c,o+l*aB E.P elem,none⟩) (hh-l) (cap'-l),fun w=>?_,.sliceM hj hm ?_ ?_ ?_ ?_⟩
         have:¬cap'=l:=by omega
         simp only[Instr.sliceAt,Instr.slice,TY,T0 hu,TX,hrun,cn hk,TZ,QF this,QZ,eE,gR]
         subst hsz; rw[<-e1,Nat.sub_mul]; have:l*aB E.P elem<=cap*aB E.P elem:=RM _ hlc; omega
         subst hsz; rw[<-e2,Nat.sub_mul]; have:l*aB E.P elem<=cap'*aB E.P elem:=RM _ (by omega); omega
         ·cases hi with
          | none=>have:=hbl.2.2.2.1 rfl; omega
          | some _=>have:=hbl.2.2.1 rfl; omega
         omega
       cases e
      | some r3 =>
       simp only at e
       split at e
       rename_i l hh mm hb
       split at e
       rename_i hcond;cases e;have hrun:=fun w=>eB (P:=E.P) (cap':=cap') hb h1 h2 (.some r3) hc true w;refine⟨_,fun w=>?_,.dry (a':=⟨k.c,o,none⟩)⟩;simp only[Instr.sliceAt,Instr.slice,TY,T0 hu,TX,hrun,cn hk,TZ,hcond.2,hcond.1,SN,gR];simp
       cases e;have hrun:=fun w=>eB (P:=E.P) (cap':=cap') hb h1 h2 (.some r3) hc true w;refine⟨.slice (some (if mm=l then⟨k.c,o,none⟩ else⟨k.c,o+l*aB E.P elem,none⟩)) (hh-l) (mm-l),fun w=>?_,.junk rfl⟩
       simp only[Instr.sliceAt,Instr.slice,TY,T0 hu,TX,hrun,cn hk,TZ,gR]
       split
       rfl
       rw[QZ,eE]
       cases e
   ·rename_i cs tag hnm hg
    split at e
    ·rename_i l hh mm hb;cases e;cases hx with
     | slice hj hm =>
      rename_i k;have hrun:=fun w=>eB (P:=E.P) (cap':=cap) hb h1 h2 h3 (QK _) true w;have hmm:gR mx cap mm=mm:=by
       cases mx with
       | none=>exact((iA hb).2.2.2.2 rfl).symm
       | some _=>rfl
      rw[hmm] at hrun;refine⟨.slice (some (if mm=l then⟨k.c,o,none⟩ else⟨k.c,o+l*aB E.P elem,none⟩)) (hh-l) (mm-l),fun w=>?_,?_⟩
      simp only[Instr.sliceAt,Instr.slice,TY,T0 hu,TX,hrun,cn hk,TZ]
      split
      rename_i hc; simp only[QH hc]
      rename_i hc; simp only[QZ,eE]
      split
      exact .slice hj hm
      exact .slice hj hm
     | sliceM hj hm e1 e2 hl hc =>
      have hkd:=h.kindOf hj hg;cases tag with
      | more sz=>exact Q1 rfl (hnm sz)
      | ro=>simp only at hkd; rw[hm] at hkd; cases hkd
      | own=>simp only at hkd; rw[hm] at hkd; cases hkd
    cases e
   cases e
  cases e
 ·
  rename_i elem b o sp hu
  split at e
  ·rename_i hk
   split at e
   ·rename_i r hb;obtain⟨l,hh,mm⟩:=r;cases e;have hbl:=iA hb;have hl0:l=0/\hh=0:=by
     cases hi with
     | none=>have:=hbl.2.2.2.1 rfl; omega
     | some _=>have:=hbl.2.2.1 rfl; omega
    cases hx with
    | fU =>
     rename_i a' cap';have hrun:=fun w=>eB (P:=E.P) (cap':=cap') hb h1 h2 h3 (RF _) true w;refine⟨_,fun w=>?_,.fU (a':=a') (cap':=gR mx cap' mm)⟩;simp only[Instr.sliceAt,Instr.slice,TY,T0 hu,TX,hrun,cn hk,TZ,hl0.1,hl0.2,SN,SM,Sd,QZ];simp[Addr.add]
    | dry =>
     rename_i a';have hrun:=fun w=>eB (P:=E.P) (cap':=0) hb h1 h2 h3 (RF _) true w;have hmm:gR mx 0 mm=0:=by
      cases mx with
      | none=>rfl
      | some _=>have:=hbl.2.1; simp[gR]; omega
     rw[hmm] at hrun;refine⟨_,fun w=>?_,.dry (a':=a')⟩;simp only[Instr.sliceAt,Instr.slice,TY,T0 hu,TX,hrun,cn hk,TZ,hl0.1,hl0.2,SN,SM,QZ];simp
   cases e
  cases e
 ·
  rename_i n elem b o hu
  split at e
  ·rename_i hk
   split at e
   cases e
   ·rename_i cs tag hnm hg
    split at e
    ·rename_i l hh mm hb;cases e;cases hx with
     | ptr hj =>
      rename_i k;have hrun:=fun w=>eB (P:=E.P) (cap':=n) hb h1 h2 h3 (QK _) false w;have hmm:gR mx n mm=mm:=by
       cases mx with
       | none=>exact((iA hb).2.2.2.2 rfl).symm
       | some _=>rfl
      rw[hmm] at hrun;have hkd:=h.kindOf hj hg;have hm:k.more=none:=by
       cases tag with
       | more sz=>exact Q1 rfl (hnm sz)
       | ro=>exact hkd
       | own=>exact hkd
      refine⟨.slice (some (if mm=l then⟨k.c,o,none⟩ else⟨k.c,o+l*aB E.P elem,none⟩)) (hh-l) (mm-l),fun w=>?_,?_⟩
      simp only[Instr.sliceAt,Instr.sureAddr,TY,T0 hu,TX,hrun,cn hk,TZ]
      split
      rename_i hc; simp only[QH hc]
      rename_i hc; simp only[eE]
      split
      exact .slice hj hm
      exact .slice hj hm
    cases e
   cases e
  cases e
 cases e
def tS{t:SY}{x x' v:SX}{f:Nat}(e:aD P t x f=some v)(hx:VR j x x'):∃v',nv P (Instr.fieldAt t x' f) v'/\VR j v v':=by
 unfold aD at e
 split at e
 ·rename_i fields b o hu
  split at e
  ·rename_i fl hf
   split at e
   ·rename_i hk;simp only[QJ,bne_iff_ne,ne_eq] at hk;cases e;cases hx with
    | ptr hj =>
    rename_i k;refine⟨_,fun w=>?_,.ptr hj⟩;simp only[Instr.fieldAt,TY,T0 hu,TX,hf,Instr.sureAddr,TZ,fieldPlace,cn hk.1,QF hk.2,eE]
   cases e
  cases e
 cases e
def D3{t:SY}{x x' v:SX}(e:B9 P t x=some v)(hx:VR j x x'):∃v',nv P (Instr.arrayAt t x') v'/\VR j v v':=by
 unfold B9 at e
 split at e
 ·rename_i n el b o len cap hu
  split at e
  ·rename_i hc;cases e;have hn:¬len<n:=by omega
   cases hx with
   | slice hj hm=>exact⟨_,fun w=>by simp only[Instr.arrayAt,TY,T0 hu,TX,QF hn,TZ],.ptr hj⟩
   | sliceM hj hm h1 h2 hl hc2=>exact⟨_,fun w=>by simp only[Instr.arrayAt,TY,T0 hu,TX,QF hn,TZ],.ptr hj⟩
  cases e
 cases e
def tC{t:SY}{x x' y y' v:SX}(e:bW P t x y=some v)(hx:VR j x x')(hy:VR j y y'):∃v',nv P (Instr.indexAt t x' y') v'/\VR j v v':=by
 unfold bW at e
 split at e
 ·rename_i len elem b o k i hu
  split at e
  ·rename_i hc;simp only[QJ,QR] at hc;cases e;cases hy;cases hx with
   | ptr hj =>
   refine⟨_,fun w=>?_,.ptr hj⟩;simp only[Instr.indexAt,asIntOf,TY,T0 hu,TX,Instr.sureAddr,TZ,cn hc.1,QH hc.2,eE]
  cases e
 ·rename_i elem b o len cap k i hu
  split at e
  ·rename_i hc;simp only[QJ,QR] at hc;cases e;cases hy;cases hx with
   | slice hj hm =>
    refine⟨_,fun w=>?_,.ptr hj⟩;simp only[Instr.indexAt,asIntOf,TY,T0 hu,TX,TZ,cn hc.1,QH hc.2,eE]
   | sliceM hj hm e1 e2 hl hcap =>
    refine⟨_,fun w=>?_,.ptr hj⟩;simp only[Instr.indexAt,asIntOf,TY,T0 hu,TX,TZ,cn hc.1,QH hc.2,eE]
  cases e
 cases e
def Da{t:SY}{x x' y y' v:SX}(e:fZ P t x y=some v)(hx:VR j x x')(hy:VR j y y'):∃v',nv P (Instr.index t x' y') v'/\VR j v v':=by
 unfold fZ at e
 split at e
 ·rename_i len elem cs k i hu
  split at e
  ·rename_i hc;cases hy;cases hx with
   | agg h1 h2 =>
   have hk:known P elem=true:=by
    unfold cX at e
    split at e
    cases e
    rename_i hk; simpa using hk
   obtain⟨v',h3,h4⟩:=oQ e (LR.fu h1 h2);refine⟨v',fun w=>?_,h4⟩;simp only[Instr.index,asIntOf,TY,T0 hu,TX,TZ,QH hc,cn hk,h3]
  cases e
 ·rename_i s k i hu
  split at e
  ·rename_i hc;cases hy; cases hx;cases hs:s[i.toNat]? with
   | none=>rw[hs] at e; cases e
   | some b =>
    rw[hs] at e; cases e;refine⟨_,fun w=>?_,.int _ _⟩;simp only[Instr.index,asIntOf,TY,T0 hu,TX,TZ,QH hc,hs]
  cases e
 cases e
def C8{t:SY}{x x' v:SX}{f:Nat}(e:gW P t x f=some v)(hx:VR j x x'):∃v',nv P (Instr.field t x' f) v'/\VR j v v':=by
 unfold gW at e
 split at e
 ·rename_i fields cs hu
  split at e
  ·rename_i fl hf;cases hx with
   | agg h1 h2 =>
   obtain⟨v',h3,h4⟩:=oQ e (LR.fu h1 h2);refine⟨v',fun w=>?_,h4⟩;simp only[Instr.field,TY,T0 hu,TX,hf,asAgg,TZ,h3]
  cases e
 cases e
def xA{E:Env}{m:TS}{w:S5}(h:MR E j m w){t:SY}{x x' v:SX}(e:dK E.P t x m=some v)(hx:VR j x x') :
  ∃v',(Instr.loadAt t x').run E.P w=.ok v' w/\VR j v v':=by
 unfold dK at e
 split at e
 ·rename_i b o
  split at e
  cases e
  ·rename_i hk;have hk':known E.P t=true:=by simpa using hk
   cases hx with
   | ptr hj =>
   rename_i k
   split at e
   ·rename_i ha;cases hl:m.dQ b o (aB E.P t) with
    | none=>rw[hl] at e; cases e
    | some vs =>
     rw[hl] at e; cases e;obtain⟨vs',h1,h2⟩:=h.dQ hj hl;refine⟨.agg vs'.toArray,?_,.Dd (by simpa using h2)⟩
     simp only[Instr.loadAt,Instr.sureAddr,TY,TZ,TX,loadVar,mG hk',ha,if_true,cn hk',h1 w rfl]
   rename_i ha;have ha':dD E.P t=false:=by simpa using ha
   split at e
   rename_i cs tag hg;obtain⟨v',h1,h2⟩:=h.cell hj hg e;refine⟨v',?_,h2⟩;simp only[Instr.loadAt,Instr.sureAddr,TY,TZ,TX,loadVar,mG hk',ha',Q8,if_false,run_load,h1]
   cases e
 cases e
end
section
variable{E:Env}{j:aN}{m:TS}{w:S5}
def OR.own{c:Nat}{cs:TO SX}{c':TW SX}{elem:SY}(h:LR j cs c'.toList):OR j ⟨c,none⟩ (.cells cs .own) (.cells c' elem) :=
 ⟨⟨rfl,by simpa using h.1.symm,rfl⟩,fun i v hi=>by
  obtain⟨v',a,b⟩:=h.get hi;exact⟨v',by simpa using a,b⟩⟩
def jI{zero:TW SX}:∀(n:Nat),((Array.range (n*zero.size)).map fun i=>zero[i%zero.size]!).toList=bf zero.toList n:=by
 intro n
 by_cases hz:zero.size=0
 ·have:zero=#[]:=Su hz;subst this;have:∀n,bf ([]:TO SX) n=[]:=by
   intro n
   induction n with
   | zero=>rfl
   | succ n ih=>simpa [bf] using ih
  simp[this]
 ·have hpos:0<zero.size:=Nat.pos_of_ne_zero hz;have hlen:∀n,(bf zero.toList n).length=n*zero.size:=by
   intro n
   induction n with
   | zero=>simp[bf]
   | succ n ih=>simp[bf,ih,Sc,Nat.add_comm]
  have hget:∀n i,i<n*zero.size->(bf zero.toList n)[i]? = zero[i%zero.size]?:=by
   intro n
   induction n with
   | zero=>intro i hi; simp at hi
   | succ n ih =>
    intro i hi;simp only[bf]
    by_cases hlt:i<zero.size
    rw[Rp (by simpa using hlt),R9 hlt]; simp
    have hge:zero.size<=i:=by omega
    rw[Rk (by simpa using hge)]
    have:=ih (i-zero.size) (by rw[Sc] at hi; omega)
    simp only[Sh];rw[this,<-Nat.mod_eq_sub_mod hge]
  apply RG;intro i
  by_cases hi:i<n*zero.size
  rw[hget n i hi];have hlt:i%zero.size<zero.size:=Ru _ hpos;simp[hi,hlt]
  rw[RC (by simp; omega),RC (by rw[hlen]; omega)]
def jm{P:S0}{elem:SY}{n:Nat}{zs:TO SX}(h:ff P elem n=some zs):∃z,bj P elem=some z/\z.cells.size=aB P elem/\zs=bf z.cells.toList n:=by
 unfold ff at h
 split at h
 rename_i z hz
 split at h
 rename_i hs; cases h; exact⟨z,hz,hs,rfl⟩
 cases h
 cases h
def bE(l:TO SX)(n:Nat):(bf l n).length=n*l.length:=by
 induction n with
 | zero=>simp[bf]
 | succ n ih=>simp[bf,ih,Sc,Nat.add_comm]
def Dw(h:MR E j m w){t:SY}{x x' v v':SX}{m':TS}(e:ga E.P t x v m=some m')(hx:VR j x x')(hv:VR j v v') :
  ∃w',(Instr.storeAt t x' v').run E.P w=.ok () w'/\Sim E j m w j m' w':=by
 unfold ga at e
 split at e
 ·rename_i b o
  split at e
  ·rename_i hc;simp only[QJ,beq_iff_eq] at hc;obtain⟨⟨hk,hs⟩,ho⟩:=hc;cases hx with
   | ptr hj =>
   have hvc:=gJ hv;obtain⟨w',h1,h2⟩:=iU h hj hvc ho e;refine⟨w',?_,h2⟩;have hs':v'.cells.size=aB E.P t:=by have:=hvc.1; simp at this; omega
   have hne:¬v'.cells.size≠aB E.P t:=by simp[hs']
   simp only[Instr.storeAt,Instr.sureAddr,TY,TZ,TX,storeVar,cn hk,QF hne,h1]
  cases e
 cases e
def fB{v v':SX}(hp:aP v=true)(h:VR j v v'):v'=v:=by
 cases h<;>first|rfl |(simp[aP] at hp)
def pC:∀{l l':TO SX},l.all aP=true->LR j l l'->l'=l
 | [],_,_,h=>h.da
 | v::l,l',hp,h=>by
  obtain⟨y,ys,rfl,h1,h2⟩:=h.cons_inv;simp only[Sk,QJ] at hp;rw[fB hp.1 h1,pC hp.2 h2]
def gq{v v':SX}(hp:bB v=true)(h:VR j v v'):v'=v:=by
 cases h with
 | agg h1 h2 =>
  have:=pC (by simpa [bB] using hp) (LR.fu h1 h2)
  exact Rf Value.agg (RT.1 this)
 | tuple h1 h2 =>
  have:=pC (by simpa [bB] using hp) (LR.fu h1 h2)
  exact Rf Value.tuple (RT.1 this)
 | func h1 h2 h3 h4=>simp[bB,aP] at hp
 | yield h h1 h2=>simp[bB,aP] at hp
 | _=>first|rfl |(simp[bB,aP] at hp)
def gH{P:S0}{kt:SY}{k:SX}(h:jJ P kt k=true):bB k=true:=by
 unfold jJ at h
 split at h
 rfl
 rfl
 rfl
 simp only[QJ] at h; exact h.2
 simp only[QJ] at h; exact h.2
 cases h
def checkKind{P:S0}{t:SY}(ht:cZ P t=true)(n:Nat)(v:SX)(b:Bool)(w:S5):(Instr.checkKey b (n+1) t v).run P w=.ok () w:=by
 unfold cZ at ht;simp only[Instr.checkKey,TY];cases hu:P.underlying t with
 | none=>rw[hu] at ht; cases ht
 | some d =>
  rw[hu] at ht;simp only[T0 hu,TX];cases d<;>first |(simp at ht; done)|rfl
def lX{P:S0}{α:Type}(f:α->Sem TP)(w:S5):∀(l:TO α),(∀x∈l,(f x).run P w=.ok () w) ->
  (forIn l PUnit.unit (fun x _=>do f x; pure (ForInStep.yield PUnit.unit)):Sem PUnit).run P w=.ok PUnit.unit w
 | [],_=>rfl
 | x::l,h=>by
  simp only[List.forIn_cons,TY,h x (by simp),TX,TZ]
  exact lX f w l fun y hy=>h y (by simp[hy])
def AV{P:S0}{t:SY}(h:cZ P t=true):dD P t=false:=by
 unfold cZ at h;unfold dD;cases hu:P.underlying t with
 | none=>rfl
 | some d=>rw[hu] at h; cases d<;>first|rfl |(simp at h)
def tV{P:S0}{t:SY}(h:cZ P t=true)(hk:known P t=true){cs:TW SX}{o:Nat}(ho:o<cs.size)(w:S5):(part t cs o).run P w=.ok cs[o] w:=by
 simp[part,mG hk,AV h,ho]
def dL{P:S0}{kt:SY}{k:SX}(h:jJ P kt k=true)(b:Bool)(w:S5):(Instr.checkKey b 10000 kt k).run P w=.ok () w:=by
 unfold jJ at h
 split at h
 rename_i hu; exact checkKind (by simp[cZ,hu]) 9999 _ b w
 rename_i hu; exact checkKind (by simp[cZ,hu]) 9999 _ b w
 rename_i hu; exact checkKind (by simp[cZ,hu]) 9999 _ b w
 rename_i len elem cs hu;simp only[QJ,beq_iff_eq] at h;obtain⟨⟨⟨⟨hek,hkn⟩,hsz⟩,hlen⟩,_⟩:=h;have key:∀n,(Instr.checkKey b (n+1+1) kt (.agg cs)).run P w=.ok () w:=by
  intro n;unfold Instr.checkKey;simp only[TY,T0 hu,TX];rw[Std.Legacy.Range.forIn_eq_forIn_range'];simp only[Std.Legacy.Range.size,Sd,Nat.add_sub_cancel,Nat.div_one];have:=lX (P:=P) (fun i=>do Instr.checkKey b (n+1) elem (<-part elem cs (i*(<-sizeOf elem)))) w (List.range' 0 len) (fun x hx=>by
   have hlt:x<cs.size:=by rw[List.mem_range'] at hx; obtain⟨i,h1,h2⟩:=hx; omega
   simp only[TY,cn hkn,hsz,Nat.mul_one,tV hek hkn hlt,TX];exact checkKind hek n _ b w)
  simp only[bind_assoc] at this;rw[this]; rfl
 exact key 9998
 ·rename_i fs cs hu;simp only[QJ] at h;have key:∀n,(Instr.checkKey b (n+1+1) kt (.agg cs)).run P w=.ok () w:=by
   intro n;unfold Instr.checkKey;simp only[TY,T0 hu,TX];rw[<-Array.forIn_toList];have hall:=h.1;generalize fs.toList=l at hall;clear hu
   induction l with
   | nil=>rfl
   | cons f l ih =>
    simp only[Sk,QJ,QR] at hall;obtain⟨⟨⟨h1,h2⟩,h3⟩,h4⟩:=hall;have ih':=ih (by simpa [QJ] using h4)
    simp only[List.forIn_cons,TY,Sem.run_ite]
    split
    simp only[tV h1 h2 h3,TX,checkKind h1 n _ b w,TZ];exact ih'
    simp only[TZ,TX];exact ih'
  exact key 9998
 cases h
inductive FR(j:aN):TN (Nat×SX)->TN (Nat×SX)->Prop
 | none:FR j none none
 | some {i:Nat} {v v':SX} (h:VR j v v'):FR j (some (i,v)) (some (i,v'))
def nw{P:S0}{kt:SY}{k k':SX}(hk:VR j k k'):∀{es:TO (SX×SX)} {es':TO MapEntry} {i:Nat} {r:TN (Nat×SX)},lR P kt k es i=some r->ER j es es' ->
  ∃r',(∀w,(Instr.findAsking kt k' es' i).run P w=.ok r' w)/\FR j r r'
 | [],[],i,r,h,_=>by cases h; exact⟨_,fun w=>rfl,.none⟩
 | e::es,f::fs,i,r,h,he=>by
  simp only[lR] at h
  split at h
  rename_i hq;cases h;refine⟨some (i,f.val),fun w=>?_,.some he.2.1⟩;simp only[Instr.findAsking,TY,Op.equal,j9 _ hq hk he.1,TX,if_true,TZ]
  rename_i hq;obtain⟨r',h1,h2⟩:=nw hk h he.2.2;refine⟨r',fun w=>?_,h2⟩;simp only[Instr.findAsking,TY,Op.equal,j9 _ hq hk he.1,TX,Q8,if_false,h1]
  cases h
 | [],_::_,_,_,_,he=>he.elim
 | _::_,[],_,_,_,he=>he.elim
def sN{P:S0}{kt:SY}{d:TypeDesc}{k k' x x':SX}{b b':Bool}(hu:P.underlying kt=some d)(hk:VR j k k')(hx:VR j x x')(h:Instr.sameNow d k' x'=some b')(he:jK P Op.maxDepth kt k x=some b):b=b':=by
 have:=j9 (P:=P) Op.maxDepth he hk hx default;rw[show Op.maxDepth=9999+1 from rfl] at this
 unfold Instr.sameNow at h
 split at h
 rename_i k0 k1 a k2 c
 split at h
 rename_i hkk;subst hkk;cases h;rw[run_equalIn_int _ 9999 kt _ _ a c hu] at this;injection this with h1 _; exact h1.symm
 cases h
 cases h;rw[run_equalIn_string _ 9999 kt _ _ hu,<-beq_toListBytes] at this;injection this with h1 _; exact h1.symm
 cases h;rw[run_equalIn_bool' _ 9999 kt _ _ hu] at this;injection this with h1 _; exact h1.symm
 cases h
def sS{P:S0}{kt:SY}{d:TypeDesc}{k k':SX}(hu:P.underlying kt=some d)(hk:VR j k k'):∀{es:TO (SX×SX)} {es':TO MapEntry} {i:Nat} {r r':TN (Nat×SX)},lR P kt k es i=some r->ER j es es' ->
  Instr.findNow d k' es' i=some r'->FR j r r'
 | [],[],i,r,r',h,_,h'=>by cases h; cases h'; exact .none
 | e::es,f::fs,i,r,r',h,he,h'=>by
  simp only[lR] at h;simp only[Instr.findNow] at h'
  split at h'
  rename_i hs;cases h'
  split at h
  cases h; exact .some he.2.1
  rename_i hq; cases sN hu hk he.1 hs hq
  cases h
  rename_i hs
  split at h
  rename_i hq; cases sN hu hk he.1 hs hq
  exact sS hu hk h he.2.2 h'
  cases h
  cases h'
 | [],_::_,_,_,_,_,he,_=>he.elim
 | _::_,[],_,_,_,_,he,_=>he.elim
def gr{P:S0}{kt:SY}{d:TypeDesc}{k k':SX}(hu:P.underlying kt=some d)(hk:VR j k k'){es:TO (SX×SX)}{es':TO MapEntry}{r:TN (Nat×SX)}(h:lR P kt k es 0=some r)(he:ER j es es') :
  ∃r',(∀w,(Instr.findKey kt k' es').run P w=.ok r' w)/\FR j r r':=by
 cases hn:Instr.findNow d k' es' 0 with
 | some r' =>
  refine⟨r',fun w=>?_,sS hu hk h he hn⟩;simp only[Instr.findKey,TY,T0 hu,TX,hn,TZ]
 | none =>
  obtain⟨r',h1,h2⟩:=nw hk h he;refine⟨r',fun w=>?_,h2⟩;simp only[Instr.findKey,TY,T0 hu,TX,hn,h1]
def mq{P:S0}{kt:SY}{k:SX}(h:jJ P kt k=true):∃d,P.underlying kt=some d:=by
 unfold jJ at h;cases hu:P.underlying kt with
 | some d=>exact⟨d,rfl⟩
 | none=>rw[hu] at h; simp at h
def MR.BI(h:MR E j m w){b:Nat}{k:Blk}(hk:j b=some k){es:TO (SX×SX)}(hg:m.get b=some (.map es)):∃es' clock,w.heap[k.c]? = some (.map es' clock)/\ER j es es'.toList:=by
 obtain⟨o',h1,h2⟩:=h.obj b _ k hg hk;cases o' with
 | map es' clock=>exact⟨es',clock,h1,h2.1⟩
 | _=>exact h2.elim
def MR.Al(h:MR E j m w){b:Nat}{k:Blk}(hk:j b=some k){es:TO (SX×SX)}(hg:m.get b=some (.map es)){es':TW MapEntry}{clock:Nat}(hw:w.heap[k.c]? = some (.map es' clock)):Hu es' clock:=by
 obtain⟨o',h1,h2⟩:=h.obj b _ k hg hk;rw[hw] at h1;cases h1;exact h2.2
def run_getObj_map{P:S0}{w:S5}{r:Nat}{es:TW MapEntry}{c:Nat}(h:w.heap[r]? = some (.map es c)):(getObj r).run P w=.ok (.map es c) w:=by simp[getObj,Sem.run,h]
def run_setObj_map{P:S0}{w:S5}{r:Nat}{es:TW MapEntry}{c:Nat}(o:Obj)(h:w.heap[r]? = some (.map es c)):(setObj r o).run P w=.ok () (w.putObj r o):=by simp[setObj,Sem.run,h,World.putObj]
def Ae (h:MR E j m w) {t:SY} {x x' y y' v:SX} {ok:Bool} (e:ie E.P t x y ok m=some v) (hx:VR j x x') (hy:VR j y y') :
  ∃v',(Instr.lookup t x' y' ok).run E.P w=.ok v' w/\VR j v v':=by
 unfold ie at e
 split at e
 ·rename_i key elem hu
  split at e
  ·rename_i es z hes hz
   split at e
   ·rename_i hko;obtain⟨d,hd⟩:=mq hko;have hy':y'=y:=gq (gH hko) hy;subst hy';have hmap:∃es':TW MapEntry,ER j es es'.toList/\((x'=.map none/\es'=#[])\/∃r c,x'=.map (some r)/\w.heap[r]? = some (.map es' c)):=by
     unfold mapOf at hes
     split at hes
     cases hes; cases hx;exact⟨#[],trivial,.inl ⟨rfl,rfl⟩⟩
     ·rename_i r
      split at hes
      ·rename_i es0 hg;cases hes;cases hx with
       | map hj =>
       obtain⟨es',clock,h1,h2⟩:=h.BI hj hg;exact⟨es',h2,.inr ⟨_,_,rfl,h1⟩⟩
      cases hes
     cases hes
    obtain⟨es',hes',hsh⟩:=hmap
    split at e
    ·rename_i i v0 hf;cases e;obtain⟨r',h1,h2⟩:=gr hd hy hf hes';cases h2 with
     | some hv =>
     rename_i v0';refine⟨if ok then .tuple #[v0',.bool true] else v0',?_,?_⟩
     rcases hsh with⟨rfl,rfl⟩|⟨r,c,rfl,h5⟩
     simp only[Instr.lookup,TY,T0 hu,TX,TZ,dL hko,h1]
     simp only[Instr.lookup,TY,T0 hu,TX,run_getObj_map h5,TZ,dL hko,h1]
     ·cases ok with
      | true=>exact .tuple' (by exact LR.cons hv (LR.cons (.bool true) (.nil j)))
      | false=>exact hv
    ·rename_i hf
     split at e
     ·rename_i hpz;cases e;obtain⟨r',h1,h2⟩:=gr hd hy hf hes';cases h2;refine⟨if ok then .tuple #[z,.bool false] else z,?_,?_⟩
      rcases hsh with⟨rfl,rfl⟩|⟨r,c,rfl,h5⟩
      simp only[Instr.lookup,TY,T0 hu,TX,TZ,dL hko,h1,iw hz]
      simp only[Instr.lookup,TY,T0 hu,TX,run_getObj_map h5,TZ,dL hko,h1,iw hz]
      ·cases ok with
       | true=>exact .tuple' (by exact LR.cons (VR.bB hpz) (LR.cons (.bool false) (.nil j)))
       | false=>exact VR.bB hpz
     cases e
    cases e
   cases e
  cases e
 cases e
def ER.get:∀{es:TO (SX×SX)} {fs:TO MapEntry} {i:Nat} {e:SX×SX},ER j es fs->es[i]? = some e->∃f,fs[i]? = some f/\VR j e.1 f.key/\VR j e.2 f.val
 | [],[],_,_,_,h=>by simp at h
 | x::es,f::fs,0,e,h,hi=>by simp at hi; subst hi; exact⟨f,rfl,h.1,h.2.1⟩
 | x::es,f::fs,i+1,e,h,hi=>by simpa using ER.get h.2.2 (by simpa using hi)
 | [],_::_,_,_,h,_=>h.elim
 | _::_,[],_,_,h,_=>h.elim
def ER.rO:∀{es:TO (SX×SX)} {fs:TO MapEntry} {e:SX×SX} {f:MapEntry},ER j es fs->VR j e.1 f.key->VR j e.2 f.val->ER j (es++[e]) (fs++[f])
 | [],[],_,_,_,h1,h2=>⟨h1,h2,trivial⟩
 | _::_,_::_,_,_,h,h1,h2=>⟨h.1,h.2.1,ER.rO h.2.2 h1 h2⟩
 | [],_::_,_,_,h,_,_=>h.elim
 | _::_,[],_,_,h,_,_=>h.elim
def ER.put:∀{es:TO (SX×SX)} {fs:TO MapEntry} {i:Nat} {k k' v v':SX},ER j es fs->i<es.length->VR j k k'->VR j v v'->ER j (pU es i k v) (fs.modify i fun e=>{ e with key:=k',val:=v'})
 | x::es,f::fs,0,_,_,_,_,h,_,h1,h2=>⟨h1,h2,h.2.2⟩
 | x::es,f::fs,i+1,_,_,_,_,h,hi,h1,h2=>⟨h.1,h.2.1,ER.put h.2.2 (by simpa using hi) h1 h2⟩
 | [],_,_,_,_,_,_,_,hi,_,_=>by simp at hi
 | _::_,[],_,_,_,_,_,h,_,_,_=>h.elim
def ER.erase:∀{es:TO (SX×SX)} {fs:TO MapEntry} (i:Nat),ER j es fs->ER j (es.eraseIdx i) (fs.eraseIdx i)
 | [],[],_,_=>trivial
 | _::_,_::_,0,h=>h.2.2
 | _::_,_::_,i+1,h=>⟨h.1,h.2.1,ER.erase i h.2.2⟩
 | [],_::_,_,h=>h.elim
 | _::_,[],_,h=>h.elim
def nC (h:MR E j m w) {t:SY} {x x' k k' v v':SX} {m':TS} (e:iO E.P t x k v m=some m') (hx:VR j x x') (hk:VR j k k') (hv:VR j v v') :
  ∃w',(Instr.mapUpdate t x' k' v').run E.P w=.ok () w'/\Sim E j m w j m' w':=by
 unfold iO at e
 split at e
 ·rename_i kt et r hu
  split at e
  ·rename_i es hg
   split at e
   ·rename_i hko;obtain⟨d,hd⟩:=mq hko;have hk':k'=k:=gq (gH hko) hk;cases hx with
    | map hj =>
    rename_i kb;obtain⟨es',clock,h1,h2⟩:=h.BI hj hg
    split at e
    ·rename_i i v0 hf
     split at e
     ·rename_i hsame;cases e;unfold qY at hsame
      split at hsame
      ·rename_i e0 he0;simp only[QJ] at hsame;obtain⟨r',h3,h4⟩:=gr hd hk hf h2;cases h4 with
       | some _ =>
       obtain⟨f0,g1,g2,g3⟩:=h2.get he0;have hf0:f0.key=e0.1:=gq hsame.1 g2;have hi:i<es.length:=(QU.1 he0).1;refine⟨_,?_,ig h hj (by rw[hg]; rfl) (co:=.map (es'.modify i fun e=>{ e with key:=k,val:=v'}) clock) ?_⟩
       have g1':es'[i]? = some f0:=by simpa using g1
       simp only[Instr.mapUpdate,TY,T0 hu,TX,run_getObj_map h1,hk',dL hko];rw[hk'] at h3;simp only[h3,TX,TY,g1',QZ,Option.getD_some,hf0,Instr.keyThatStays,hsame.2,if_true,TZ,run_setObj_map _ h1]
       refine⟨?_,zQ (h.Al hj hg h1) i _ fun _=>rfl⟩
       show ER j (pU es i k v) (es'.modify i fun e=>{ e with key:=k,val:=v'}).toList
       rw[Array.toList_modify];exact h2.put hi (VR.bB (gH hko)) hv
      cases hsame
     cases e
    rename_i hf;cases e;obtain⟨r',h3,h4⟩:=gr hd hk hf h2;cases h4;refine⟨_,?_,ig h hj (by rw[hg]; rfl) (co:=.map (es'.push { key:=k,val:=v',born:=clock}) (clock+1)) ?_⟩
    simp only[Instr.mapUpdate,TY,T0 hu,TX,run_getObj_map h1,hk',dL hko];rw[hk'] at h3;simp only[h3,TX,run_setObj_map _ h1]
    refine⟨?_,DX (h.Al hj hg h1) k v'⟩
    show ER j (es++[(k,v)]) (es'.push { key:=k,val:=v',born:=clock}).toList
    rw[Array.toList_push];exact h2.rO (VR.bB (gH hko)) hv
    cases e
   cases e
  cases e
 cases e
def Ad(h:MR E j m w){t:SY}{x x' k k':SX}{m':TS}(e:q9 E.P t x k m=some m')(hx:VR j x x')(hk:VR j k k')(ts:TW SY)(hts:ts[0]? = some t)(ty:SY) :
  ∃w',(Builtin.delete_ ts ty #[x',k']).run E.P w=.ok (.tuple #[]) w'/\Sim E j m w j m' w':=by
 unfold q9 at e
 split at e
 ·rename_i kt et r hu
  split at e
  ·rename_i es hg
   split at e
   ·rename_i hko;obtain⟨d,hd⟩:=mq hko;have hk':k'=k:=gq (gH hko) hk;cases hx with
    | map hj =>
    rename_i kb;obtain⟨es',clock,h1,h2⟩:=h.BI hj hg
    split at e
    ·rename_i i v0 hf;cases e;obtain⟨r',h3,h4⟩:=gr hd hk hf h2;cases h4 with
     | some _ =>
     refine⟨_,?_,ig h hj (by rw[hg]; rfl) (co:=.map (es'.eraseIdxIfInBounds i) clock) ?_⟩
     simp only[Builtin.delete_,hts,Re,Q6,Rm,TY,T0 hu,TX,run_getObj_map h1,hk',dL hko];rw[hk'] at h3;simp only[h3,TX,TY,run_setObj_map _ h1,TZ]
     refine⟨?_,CJ (h.Al hj hg h1) i⟩
     show ER j (es.eraseIdx i) (es'.eraseIdxIfInBounds i).toList
     rw[Array.toList_eraseIdxIfInBounds];exact h2.erase i
    rename_i hf;cases e;obtain⟨r',h3,h4⟩:=gr hd hk hf h2;cases h4;refine⟨w,?_,.refl h⟩;simp only[Builtin.delete_,hts,Re,Q6,Rm,TY,T0 hu,TX,run_getObj_map h1,hk',dL hko];rw[hk'] at h3;simp only[h3,TX,TY,run_setObj_map _ h1,TZ,lb h1]
    cases e
   cases e
  cases e
 cases e
end
def uO(n:Nat):∀(r c:Nat),Builtin.growBy n r c<=max c (n+(n+768)/4)
 | 0,c=>by simp only[Builtin.growBy]; omega
 | r+1,c=>by
  simp only[Builtin.growBy]
  split
  omega
  have:=uO n r (c+(c+768)/4);omega
def nextslicecap_le{need cap:Nat}(h:cap<need):Builtin.nextslicecap need cap<=2*need+2000:=by
 unfold Builtin.nextslicecap
 split
 omega
 split
 omega
 have:=uO need 4 cap;omega
section
variable{E:Env}{j:aN}{m:TS}{w:S5}
def appendCore(elem:SY)(size:Nat)(base:SU)(sLen sCap n:Nat)(zeros:Bool)(s x:SX)(appended:Sem (TW SX)):Sem SX:=do
 let need:=sLen+n
 if need<=sCap then
  let new <-appended
  if let some a:=base then storeCells (a.add (sLen*size)) new.toList
  pure (.slice base need sCap)
 else
  if (need : Int) > IntKind.i64.max /\ (zeros \/ (<- typeInfo elem).bytes = 0) then runtimePanic (.error "growslice: len out of range")
  if Builtin.nextslicecap need sCap * (<- typeInfo elem).bytes > 2 ^ 48 then (if zeros then runtimePanic (.error "growslice: len out of range") else do
   if !(<-Builtin.mayShare size sLen n base x) then mark .noRoom
   unsupported (.resourceLimit "append: a slice or a string whose bytes no memory bears"))
  let newCap <-choose (.appendCap need sCap elem)
  askRoom (newCap*(<-typeInfo elem).bytes)
  let old <-Builtin.firstCells size sLen s
  let new <-appended
  let rest:=Builtin.zeroCells (<-zeroValue elem).cells (newCap-need)
  pure (.slice (some (<-newRow elem (old++new++rest))) need newCap)
def jR{P:S0}{elem:SY}{size sLen sCap n:Nat}{zeros:Bool}{s x:SX}{a:Addr}{app:Sem (TW SX)}{new:TO SX}{w w':S5}
  (happ:app.run P w=.ok new.toArray w) (hfit:sLen+n<=sCap) (hst:(storeCells (a.add (sLen*size)) new).run P w=.ok () w') :
  (appendCore elem size (some a) sLen sCap n zeros s x app).run P w=.ok (.slice (some a) (sLen+n) sCap) w':=by
 simp only[appendCore,QH hfit,TY,happ,TX,hst,TZ]
def dV{l:TO SX}(h:l.all aP=true):∀n,(bf l n).all aP=true
 | 0=>rfl
 | n+1=>by simp only[bf,SK,h,dV h n,RU]
def kg{P:S0}{elem:SY}{size sLen sCap n:Nat}{zeros:Bool}{s x:SX}{base:SU}{app:Sem (TW SX)}{new old:TO SX}{w:S5}{i:TypeInfo}{z:SX}
  (happ:∀w0:S5,w0.heap=w.heap->app.run P w0=.ok new.toArray w0) (hold:∀w0:S5,w0.heap=w.heap->(Builtin.firstCells size sLen s).run P w0=.ok old.toArray w0) (hgrow:¬sLen+n<=sCap)
  (hi:P.info? elem=some i) (hz:i.zero=some z) (hfit:dv i.bytes (sLen+n)=true) (hb:i.bytes≠0) (hzs:z.cells.size=size) (hzp:z.cells.toList.all aP=true) (ho:old.length=sLen*size) (hn:new.length=n*size) :
  ∃(cap:Nat) (rest:TO SX) (w0:S5),(w0.heap=w.heap/\Calm w w0)/\(sLen+n<=cap/\cap<=9223372036854775807)/\(old++new++rest).length=cap*size/\rest.all aP=true /\
   (appendCore elem size base sLen sCap n zeros s x app).run P w=.ok (.slice (some ⟨w.heap.size,0,none⟩) (sLen+n) cap) (w0.alloc (.cells (old++new++rest).toArray elem)):=by
 have hfit':(2*(sLen+n)+2000)*i.bytes<=2 ^ 48:=by simpa [dv] using hfit
 have h1:¬(((sLen+n:Nat):Int)>IntKind.i64.max/\(zeros=true\/i.bytes=0)):=by
  intro hc;have hbig:sLen+n<=2 ^ 48:=by
   have:1<=i.bytes:=Nat.one_le_iff_ne_zero.2 hb;have:(sLen+n)*1<=(2*(sLen+n)+2000)*i.bytes:=SH (by omega) this
   omega
  have hmax:IntKind.i64.max=9223372036854775807:=by decide
  rw[hmax] at hc;omega
 have h2:¬Builtin.nextslicecap (sLen+n) sCap*i.bytes>2 ^ 48:=by
  have:=RM i.bytes (nextslicecap_le (need:=sLen+n) (cap:=sCap) (by omega))
  omega
 have hzv:∀w0:S5,(zeroValue elem).run P w0=.ok z w0:=fun w0=>iw (by simp[bj,hi,hz]) w0
 obtain⟨cap,hcap⟩:∃cap,cap=(Question.appendCap (sLen+n) sCap elem).cut (w.tape w.drawn (.appendCap (sLen+n) sCap elem)):=⟨_,rfl⟩;have hle:sLen+n<=cap:=by rw[hcap]; simp[Question.cut]
 have hmx:cap<=9223372036854775807:=by
  have hbig:sLen+n<=2 ^ 48:=by
   have:1<=i.bytes:=Nat.one_le_iff_ne_zero.2 hb;have:(sLen+n)*1<=(2*(sLen+n)+2000)*i.bytes:=SH (by omega) this
   omega
  rw[hcap]
  show sLen+n+_%(2 ^ 63-(sLen+n))<=_
  have:=Ru (w.tape w.drawn (.appendCap (sLen+n) sCap elem)) (show 0<2 ^ 63-(sLen+n) by omega)
  omega
 refine⟨cap,bf z.cells.toList (cap-(sLen+n)),w.drew,⟨rfl,rfl,rfl,rfl,Nat.le_succ _⟩,⟨hle,hmx⟩,?_,dV hzp _,?_⟩
 simp only[QV,bE,ho,hn,Sh,hzs];rw[<-Sm,<-Sm]
 congr 1; omega
 have hzc:Builtin.zeroCells z.cells (cap-(sLen+n))=(bf z.cells.toList (cap-(sLen+n))).toArray:=by
  rw[<-jI (zero:=z.cells)]; rfl
 simp only[appendCore,QF hgrow,TY,sO hi,TX,Sem.run_ite,QF h1,QF h2,TZ,run_choose,Question.forced,Q8,if_false,World.drew_eq,run_askRoom,
  hold w.drew rfl,happ w.drew rfl,hzv,<-hcap,hzc,newRow,run_newObj,World.alloc_eq]
 simp
def Br(h:MR E j m w){sz n:Nat}{x x':SX}{new:TO SX}(e:cN sz x n m=some new)(hx:VR j x x') :
  ∃new',(∀w0:S5,w0.heap=w.heap->(Builtin.firstCells sz n x').run E.P w0=.ok new'.toArray w0)/\LR j new new':=by
 unfold cN at e
 split at e
 split at e
 rename_i hn; subst hn; cases e; cases hx;exact⟨[],fun w0 _=>rfl,.nil j⟩
 cases e
 ·rename_i b o l c
  split at e
  rename_i hn; subst hn; cases e;refine⟨[],fun w0 _=>?_,.nil j⟩;cases hx<;>simp[Builtin.firstCells,loadCells,loadCellsFrom]
  ·have hgo:∀k:Blk,j b=some k->∃new',(∀w0:S5,w0.heap=w.heap->(loadCells ⟨k.c,o,none⟩ (n*sz)).run E.P w0=.ok new'.toArray w0)/\LR j new new':=by
    intro k hj;exact h.dQ hj e
   cases hx with
   | slice hj hm=>exact hgo _ hj
   | sliceM hj hm e1 e2 hl hc=>exact hgo _ hj
 split at e
 rename_i hn; subst hn; cases e;refine⟨[],fun w0 _=>?_,.nil j⟩;cases hx<;>simp[Builtin.firstCells,loadCells,loadCellsFrom]
 cases e
 cases e
def wT(h:MR E j m w){elem:SY}{xt:TN SY}{x x':SX}{n:Nat}{new:TO SX}(e:eA E.P elem xt x m=some (n,new))(hx:VR j x x')(hk:known E.P elem=true)
  {i:TypeInfo} (hi:E.P.info? elem=some i) (hbytes:n*i.bytes<=2 ^ 48) {sType:SY} (hu:E.P.underlying sType=some (.slice elem)) {ts:TW SY} (h0:ts[0]? = some sType) (h1:ts[1]? = xt) (ty:SY) :
  ∃(new':TO SX) (zeros:Bool) (app:Sem (TW SX)),LR j new new'/\(∀w0:S5,w0.heap=w.heap->app.run E.P w0=.ok new'.toArray w0) /\
   ∀base sLen sCap,(Builtin.append_ ts ty #[.slice base sLen sCap,x']).run E.P w=(appendCore elem (aB E.P elem) base sLen sCap n zeros (.slice base sLen sCap) x' app).run E.P w:=by
 unfold eA at e
 split at e
 ·rename_i et a l c hxt;cases hs:cN (aB E.P elem) (.slice a l c) l m with
  | none=>rw[hs] at e; cases e
  | some cs =>
   rw[hs] at e; cases e;obtain⟨new',h2,h3⟩:=Br h hs hx;refine⟨new',false,Builtin.firstCells (aB E.P elem) n x',h3,h2,fun base sLen sCap=>?_⟩;have hlen:∀w0:S5,(Builtin.lenOf x').run E.P w0=.ok n w0:=by
    intro w0;cases hx<;>rfl
   obtain⟨xt',hxt',hu'⟩:∃xt',xt=some xt'/\E.P.underlying xt'=some (.slice et):=by
    cases xt with
    | none=>cases hxt
    | some xt'=>exact⟨xt',rfl,hxt⟩
   rw[hxt'] at h1;simp only[appendCore,Builtin.append_,h0,h1,Re,Q6,Rm,TY,T0 hu,T0 hu',TX,cn hk,TZ,Q8,if_false,hlen,Rq,if_true]
   congr
 ·rename_i k l hxt
  split at e
  ·rename_i hl;cases hz:ff E.P elem l.toNat with
   | none=>rw[hz] at e; cases e
   | some zs =>
    rw[hz] at e;simp only[Q9] at e
    split at e
    ·rename_i hp;cases e;cases hx;obtain⟨z,hz1,hz2,hz3⟩:=jm hz;obtain⟨xt',k',hxt',hu'⟩:∃xt' k',xt=some xt'/\E.P.underlying xt'=some (.int k'):=by
      cases xt with
      | none=>cases hxt
      | some xt'=>exact⟨xt',_,rfl,hxt⟩
     have hwrap:IntKind.i64.wrap l=l:=IntWalk.i64_in l (by have:=hl.1; have:=hl.2; omega)
     have hlb:¬(l*i.bytes>2 ^ 48):=by
      have:((l.toNat*i.bytes:Nat):Int)<=2 ^ 48:=by exact_mod_cast hbytes
      have h3:((l.toNat:Nat):Int)=l:=RY hl.1;rw[Int.natCast_mul,h3] at this;omega
     refine⟨new,true,if l.toNat*aB E.P elem=0 then pure #[] else do pure (Builtin.zeroCells (<-zeroValue elem).cells l.toNat),LR.plain hp,?_,fun base sLen sCap=>?_⟩
     intro w0 _;rw[Sem.run_ite]
     split
     rename_i h0;have:new=[]:=by
      apply Sj;rw[hz3,bE,Sh,hz2,h0]
     rw[this]; rfl
     simp only[TY,iw hz1,TX,TZ];rw[hz3,<-jI (zero:=z.cells)]; rfl
     rw[hxt'] at h1;have hneg:¬l<0:=by have:=hl.1; omega
     simp only[appendCore,Builtin.append_,h0,h1,Re,Q6,Rm,TY,T0 hu,T0 hu',TX,cn hk,TZ,if_true,asInt,asIntOf,hwrap,QF hneg,sO hi,QF hlb,Rv,Q8,if_false]
     congr
    cases e
  cases e
 cases e
def OR.more{c na nc sz:Nat}{cs:TO SX}{c':TW SX}{elem:SY}(h1:cs.length=na)(h2:c'.size=nc)(h3:na<=nc)(hsz:0<sz)(hr:hY sz c')(h:∀(i:Nat) (v:SX),cs[i]? = some v->∃v',c'[i]? = some v'/\VR j v v') :
  OR j ⟨c,some (sz,na,nc)⟩ (.cells cs (.more sz)) (.cells c' elem) :=
 ⟨⟨by rw[h1,h2],by omega,rfl,hsz,hr⟩,h⟩
def fy(h:MR E j m w){w0:S5}(hw3:w0.heap=w.heap/\Calm w w0){cs cs' rest:TO SX}{elem:SY}{sz n cap:Nat}(hc:LR j cs cs')(hl:cs.length=n*sz)(hr:(cs'++rest).length=cap*sz)(hn:n<=cap)(hsz:0<sz)(hp:rest.all aP=true)(hmx:cap<=9223372036854775807) :
  ∃j',Sim E j m w j' (m.alloc (.cells cs (.more sz))) (w0.alloc (.cells (cs'++rest).toArray elem))/\VR j' (.slice (some ⟨m.next,0,none⟩) n n) (.slice (some ⟨w.heap.size,0,none⟩) n cap):=by
 have hw:=hw3.1;have h0:=h.of_heap hw;have hle:n*sz<=cap*sz:=RM _ hn;have ho:OR j ⟨w0.heap.size,some (sz,n*sz,cap*sz)⟩ (.cells cs (.more sz)) (.cells (cs'++rest).toArray elem):=by
  refine OR.more hl (by simpa using hr) hle hsz (by unfold hY; rw[Sq,hr,Nat.mul_comm]; exact Nat.mul_le_mul_left _ hmx) fun i v hi=>?_
  obtain⟨v',a,b⟩:=hc.get hi;refine⟨v',?_,b⟩;rw[Re,Rp (QU.1 a).1];exact a
 have s:=mD h0 ho;refine⟨_,(Sim.of_heap h hw hw3.2).trans h s,?_⟩;have:VR (j.set m.next ⟨w0.heap.size,some (sz,n*sz,cap*sz)⟩) (.slice (some ⟨m.next,0,none⟩) n n) (.slice (some ⟨w0.heap.size,0,none⟩) n cap) :=
  .sliceM (k:=⟨w0.heap.size,some (sz,n*sz,cap*sz)⟩) (aN.bV _ _ _) rfl rfl rfl (QK _) hn
 rw[hw] at this ⊢;exact this
def zO (h:MR E j m w) {t:SY} {xt:TN SY} {s s' x x' v:SX} {m':TS} (e:cq E.P t xt s x m=some (v,m')) (hs:VR j s s') (hx:VR j x x')
  {ts:TW SY} (h2:ts[0]? = some t) (h3:ts[1]? = xt) (ty:SY) :
  ∃j' w' v',(Builtin.append_ ts ty #[s',x']).run E.P w=.ok v' w'/\Sim E j m w j' m' w'/\VR j' v v':=by
 unfold cq at e
 split at e
 ·rename_i elem base len cap n new hu hnc;simp only[hu] at hnc;simp only at e
  split at e
  cases e
  ·rename_i hcond;simp only[RO,RD,not_or,Bool.not_eq_false,beq_iff_eq,bne_iff_ne,ne_eq,Decidable.not_not,Option.any_eq_true] at hcond;obtain⟨⟨⟨⟨⟨hk,h4⟩,hone⟩,⟨i,hi,hfit⟩⟩,hlen⟩,⟨z,hz,hzs⟩⟩:=hcond;simp only[QJ,bne_iff_ne,ne_eq] at hfit;obtain⟨hfit,hb⟩:=hfit;obtain⟨i',hi',hz'⟩:=uT hz;rw[hi] at hi'; cases hi';simp only[QJ,beq_iff_eq] at hzs;have hzs':z.cells.size=aB E.P elem:=hzs.1;have hzp:=hzs.2;have hsz:0<aB E.P elem:=Nat.pos_of_ne_zero h4;have hbytes:n*i.bytes<=2 ^ 48:=by
    have:(2*(len+n)+2000)*i.bytes<=2 ^ 48:=by simpa [dv] using hfit
    have:=RM i.bytes (show n<=2*(len+n)+2000 by omega)
    omega
   obtain⟨new',zeros,app,hnew,happ,hrun⟩:=wT h hnc hx hk hi hbytes hu h2 h3 ty;have hnl:new'.length=n*aB E.P elem:=by rw[<-hnew.1]; exact hlen
   split at e
   
   split at e
   cases e
   rename_i h1;have hlc:len=0/\cap=0:=by omega
   obtain⟨rfl,rfl⟩:=hlc;cases hs
   split at e
   rename_i hn; cases e;subst hn;refine⟨j,w,.slice none 0 0,?_,.refl h,.snil 0 0⟩;rw[hrun];simp only[appendCore,RV,QK,if_true,TY,happ w rfl,TX,TZ]
   rename_i hn; cases e;obtain⟨cap',rest,w0,h0,⟨hle,hmx⟩,hlr,hrp,hr⟩:=kg (P:=E.P) (zeros:=zeros) (s:=.slice none 0 0) (x:=x') (base:=none) (sLen:=0) (sCap:=0) (old:=[]) happ (fun w0 _=>rfl) (by omega) hi hz' (by simpa using hfit) hb hzs' hzp (by simp) hnl
   obtain⟨j',s1,s2⟩:=fy h h0 (elem:=elem) hnew hlen (by simpa using hlr) (by omega) hsz hrp hmx
   refine⟨j',_,_,by rw[hrun]; exact hr,by simpa using s1,by simpa using s2⟩
   ·rename_i b o
    split at e
    ·rename_i cs tag hg
     split at e
     ·
      rename_i hfits;cases hst:m.cM b (o+len*aB E.P elem) new with
      | none=>rw[hst] at e; cases e
      | some m1 =>
       rw[hst] at e; cases e;cases hs with
       | slice hj hm =>
        obtain⟨w',g1,g0⟩:=iU h hj hnew hone hst;refine⟨j,w',_,?_,g0,.slice hj hm⟩;rw[hrun];exact jR (happ w rfl) hfits (by rw[lA]; exact g1)
       | sliceM hj hm e0 e2 hl hc =>
        obtain⟨w',g1,g0⟩:=iU h hj hnew hone hst;refine⟨j,w',_,?_,g0,.sliceM hj hm e0 e2 hfits hc⟩;rw[hrun];exact jR (happ w rfl) (by omega) (by rw[lA]; exact g1)
     ·rename_i hno;have hexact:∀k:Blk,j b=some k->k.more=none->∀old,m.dQ b o (len*aB E.P elem)=some old->v=.slice (some ⟨m.next,0,none⟩) (len+n) (len+n)->m'=m.alloc (.cells (old++new) (.more (aB E.P elem))) ->
        ∃j' w' v',(Builtin.append_ ts ty #[.slice (some ⟨k.c,o,none⟩) len cap,x']).run E.P w=.ok v' w'/\Sim E j m w j' m' w'/\VR j' v v':=by
       intro k hj hm old hold ev em;obtain⟨old',g1,g0⟩:=h.dQ hj hold;have hol:old.length=len*aB E.P elem:=(rA hold).choose_spec.choose_spec.2.2;obtain⟨cap',rest,w0,h0,⟨hle,hmx⟩,hlr,hrp,hr⟩:=kg (P:=E.P) (zeros:=zeros) (s:=.slice (some ⟨k.c,o,none⟩) len cap) (x:=x') (base:=some ⟨k.c,o,none⟩) (sLen:=len) (sCap:=cap) (old:=old') happ
        (fun w0 h0=>g1 w0 h0) hno hi hz' hfit hb hzs' hzp (by rw[<-g0.1]; exact hol) hnl
       obtain⟨j',s1,s2⟩:=fy h h0 (elem:=elem) (g0.append hnew) (n:=len+n) (by rw[QV,hol,hlen,Sm]) hlr hle hsz hrp hmx
       exact⟨j',_,_,by rw[hrun]; exact hr,em▸s1,ev▸s2⟩
      split at e
      ·
       rename_i sz'
       split at e
       ·rename_i hso;obtain⟨rfl,rfl⟩:=hso
        split at e
        ·rename_i hol;cases e;cases hs with
         | slice hj hm =>
          have:=h.kindOf hj hg;simp only at this;obtain⟨nc,hmm,_⟩:=this;rw[hm] at hmm; cases hmm
         | sliceM hj hm e0 e2 hl hc =>
          rename_i cap' sz' na nc k;have hkd:=h.kindOf hj hg;simp only at hkd;obtain⟨nc',hmm,_⟩:=hkd;rw[hm] at hmm;simp only[Option.some.injEq,Prod.mk.injEq] at hmm;obtain⟨rfl,rfl,rfl⟩:=hmm
          by_cases hfits:len+n<=cap'
          
          obtain⟨c,el,fz,c1,c2,c3⟩:=h.fP hj hg;have c2':k.more=some (aB E.P elem,cs.length,c.size)/\cs.length<=c.size/\fz=(0,0)/\0<aB E.P elem/\hY (aB E.P elem) c:=c2;obtain⟨c0,c5,rfl,_,c4⟩:=c2';rw[hm] at c0;simp only[Option.some.injEq,Prod.mk.injEq,true_and] at c0;have hcs:(len+n)*aB E.P elem<=c.size:=by
           rw[<-c0,<-e2]; simp; exact RM _ hfits
          have hmul:(len+n)*aB E.P elem=len*aB E.P elem+n*aB E.P elem:=Sm _ _ _;have hst:=fR (P:=E.P) new' w c 0 (len*aB E.P elem) c1 (by rw[hnl]; omega) (oi hnew hone)
          have hold:(cs.take (len*aB E.P elem)).length=len*aB E.P elem:=hol;have hlecs:len*aB E.P elem<=cs.length:=by rw[QX] at hold; omega
          have hor:OR j ⟨k.c,some (aB E.P elem,(len+n)*aB E.P elem,c.size)⟩ (.cells (cs.take (len*aB E.P elem)++new) (.more (aB E.P elem))) (.cells (ay c.toList (0+len*aB E.P elem) new').toArray el):=by
           refine OR.more (by rw[QV,hold,hlen,hmul]) (by simp[aW]) hcs hsz (by unfold hY at *; simpa [aW] using c4) fun ix vx hix=>?_
           rw[Re,aL,Ra]
           by_cases hlt:ix<len*aB E.P elem
           rw[Rp (by rw[hold]; exact hlt),RK,QH hlt] at hix
           rw[S8]
           obtain⟨vx',q1,q2⟩:=c3 ix vx hix;exact⟨vx',by simpa using q1,q2⟩
           rw[Rk (by rw[hold]; omega),hold] at hix
           obtain⟨vx',q1,q2⟩:=hnew.get hix;have hlt':=(QU.1 q1).1;rw[QH ⟨by omega,by omega,by simp; omega⟩]
           exact⟨vx',q1,q2⟩
          have s1:=rJ h hj (by rw[hg]; rfl) hor
          refine⟨_,_,.slice (some ⟨k.c,0,none⟩) (len+n) cap',?_,s1,.sliceM (k:=⟨k.c,some (aB E.P elem,(len+n)*aB E.P elem,c.size)⟩) (aN.bV _ _ _) rfl rfl (by rw[<-c0]; exact e2) (QK _) hfits⟩
          rw[hrun];refine jR (happ w rfl) hfits ?_;rw[lA];have:=fR (P:=E.P) new' w c (0+len*aB E.P elem) 0 c1 (by rw[hnl]; omega) (oi hnew hone)
          simpa using this
          
          have hol':m.dQ b 0 (len*aB E.P elem)=some (cs.take (len*aB E.P elem)):=by
           simp only[TS.dQ,hg,Sx];rw[QH hol]
          obtain⟨old',g1,g0⟩:=h.dQ hj hol';obtain⟨c6,rest,w0,h0,⟨hle,hmx⟩,hlr,hrp,hr⟩:=kg (P:=E.P) (zeros:=zeros) (s:=.slice (some ⟨k.c,0,none⟩) len cap') (x:=x') (base:=some ⟨k.c,0,none⟩) (sLen:=len) (sCap:=cap') (old:=old') happ
           (fun w0 h0=>g1 w0 h0) hfits hi hz' hfit hb hzs' hzp (by rw[<-g0.1]; exact hol) hnl
          have sk:=xo h hj;obtain⟨j',s1,s2⟩:=fy sk.mr h0 (elem:=elem) (g0.append hnew) (n:=len+n) (by rw[QV,hol,hlen,Sm]) hlr hle hsz hrp hmx
          exact⟨j',_,_,by rw[hrun]; exact hr,sk.trans h s1,s2⟩
        cases e
       cases e
      ·
       rename_i htag
       split at e
       ·rename_i old hold;cases e;have hkm:∀k:Blk,j b=some k->k.more=none:=by
         intro k hj;have:=h.kindOf hj hg;cases tag with
         | more sz=>exact Q1 rfl (htag sz)
         | ro=>exact this
         | own=>exact this
        cases hs with
        | slice hj hm=>exact hexact _ hj hm _ hold rfl rfl
        | sliceM hj hm e0 e2 hl hc=>rw[hkm _ hj] at hm; cases hm
       cases e
    cases e
   ·
    rename_i b o
    split at e
    cases e
    ·rename_i h1;have hlc:len=0/\cap=0:=by omega
     obtain⟨rfl,rfl⟩:=hlc;cases hs with
     | dry =>
     rename_i a'
     split at e
     rename_i hn; subst hn; cases e;have:new'=[]:=Sj (by rw[hnl]; simp)
     subst this;refine⟨j,w,_,?_,.refl h,.dry (a':=a')⟩;rw[hrun];exact jR (happ w rfl) (by omega) rfl
     rename_i hn; cases e;obtain⟨cap',rest,w0,h0,⟨hle,hmx⟩,hlr,hrp,hr⟩:=kg (P:=E.P) (zeros:=zeros) (s:=.slice (some a') 0 0) (x:=x') (base:=some a') (sLen:=0) (sCap:=0) (old:=[]) happ
      (fun w0 _=>by simp[Builtin.firstCells,loadCells,loadCellsFrom]) (by omega) hi hz' (by simpa using hfit) hb hzs' hzp (by simp) hnl
     obtain⟨j',s1,s2⟩:=fy h h0 (elem:=elem) hnew hlen (by simpa using hlr) (by omega) hsz hrp hmx
     refine⟨j',_,_,by rw[hrun]; exact hr,by simpa using s1,by simpa using s2⟩
   ·split at e
    ·rename_i hnil hmem hdry h1;obtain⟨rfl,rfl,rfl⟩:=h1;cases e;have:new'=[]:=Sj (by rw[hnl]; simp)
     subst this;cases hs with
     | snil=>exact Q1 rfl hnil
     | slice hj hm=>exact Q1 rfl (hmem _ _)
     | sliceM hj hm e0 e2 hl hc=>exact Q1 rfl (hmem _ _)
     | dry=>exact Q1 rfl (hdry _ _)
     | fU =>
      rename_i a' cap';refine⟨j,w,_,?_,.refl h,.fU (a':=a') (cap':=cap')⟩;rw[hrun];exact jR (happ w rfl) (by omega) rfl
    cases e
 cases e
end
section
variable{E:Env}{j:aN}{m:TS}{w:S5}
def GP (h:MR E j m w) {t:SY} {d d' s s' v:SX} {m':TS} (e:DU E.P t d s m=some (v,m')) (hd:VR j d d') (hs:VR j s s') {ts:TW SY} (h0:ts[0]? = some t) (ty:SY) :
  ∃w' v',(Builtin.copy_ ts ty #[d',s']).run E.P w=.ok v' w'/\Sim E j m w j m' w'/\VR j v v':=by
 unfold DU at e
 split at e
 ·rename_i elem base dLen dCap sa sLen sCap hu;simp only at e
  split at e
  cases e
  ·rename_i hk;have hk':known E.P elem=true:=by simpa using hk
   split at e
   cases e
   ·rename_i cells hsrc
    split at e
    cases e
    ·rename_i hone;have hone':aV cells=true:=by simpa using hone
     obtain⟨cells',hc1,hc2⟩:=Br h hsrc hs;have hlen:∀w0:S5,(Builtin.lenOf s').run E.P w0=.ok sLen w0:=by
      intro w0;cases hs<;>rfl
     have hbase:∃base' dCap',d'=.slice base' dLen dCap'/\(∀b o,base=some ⟨b,o,none⟩->∃k:Blk,j b=some k/\base'=some ⟨k.c,o,none⟩):=by
      cases hd with
      | snil=>exact⟨_,_,rfl,fun b o e=>by cases e⟩
      | slice hj hm=>exact⟨_,_,rfl,fun b o e=>by cases e; exact⟨_,hj,rfl⟩⟩
      | sliceM hj hm e1 e2 hl hc=>exact⟨_,_,rfl,fun b o e=>by cases e; exact⟨_,hj,rfl⟩⟩
      | fU=>exact⟨_,_,rfl,fun b o e=>by cases e⟩
      | dry=>exact⟨_,_,rfl,fun b o e=>by cases e⟩
     obtain⟨base',dCap',rfl,hb⟩:=hbase;have hrun0:∀K:SX->S5->Result SX,True:=fun _=>trivial
     split at e
     rename_i hn;cases e;have hcl:cells=[]:=by
      unfold cN at hsrc
      split at hsrc<;>first |(split at hsrc<;>first |(cases hsrc; rfl) |(cases hsrc; done) |(rename_i hne; exact Q1 hn hne)) |(cases hsrc; done)
     subst hcl;have:cells'=[]:=hc2.da;subst this;refine⟨w,.int .i64 0,?_,.refl h,.int _ _⟩;have hmin:Nat.min sLen dLen=0:=hn;simp only[Builtin.copy_,h0,Re,Q6,Rm,TY,T0 hu,TX,hlen,hmin,cn hk'];rw[hn] at hc1;simp only[hc1 w rfl,TX];cases base'<;>rfl
     ·rename_i b o n hn;cases hst:m.cM b o cells with
      | none=>rw[hst] at e; cases e
      | some m1 =>
       rw[hst] at e; cases e;obtain⟨k,hj,rfl⟩:=hb b o rfl;obtain⟨w',g1,g2⟩:=iU h hj hc2 hone' hst;refine⟨w',.int .i64 (n+1:Nat),?_,g2,.int _ _⟩;have hmin:Nat.min sLen dLen=n+1:=hn;simp only[Builtin.copy_,h0,Re,Q6,Rm,TY,T0 hu,TX,hlen,hmin,cn hk'];rw[hn] at hc1;simp only[hc1 w rfl,TX,g1,TZ,goInt]
     cases e
 cases e
def Dt(h:MR E j m w){t:SY}{x x' v:SX}{m':TS}(e:vC E.P t x m=some (v,m'))(hx:VR j x x'){ts:TW SY}(h0:ts[0]? = some t)(ty:SY) :
  ∃w' v',(Builtin.clear_ ts ty #[x']).run E.P w=.ok v' w'/\Sim E j m w j m' w'/\VR j v v':=by
 unfold vC at e
 split at e
 rename_i elem a c hu;cases e;refine⟨w,.tuple #[],?_,.refl h,VR.undef j⟩;cases hx<;>simp only[Builtin.clear_,h0,Re,Q6,TY,T0 hu,TX]<;>rfl
 ·rename_i elem b o n c hnz hu
  split at e
  ·rename_i zs hz
   split at e
   ·rename_i hp;cases hst:m.cM b o zs with
    | none=>rw[hst] at e; cases e
    | some m1 =>
     rw[hst] at e; cases e;obtain⟨z,hz1,hz2,hz3⟩:=jm hz;have hone:aV zs=true:=by
      unfold aV;rw[QS] at hp ⊢;intro v hv;have:=hp v hv;cases v<;>first|rfl |(simp[aP] at this)
     have hn0:n≠0:=fun e=>hnz e;have hzc:(Builtin.zeroCells z.cells n).toList=zs:=by rw[hz3]; exact jI n
     have hgo:∀k:Blk,j b=some k->∃w',(storeCells ⟨k.c,o,none⟩ zs).run E.P w=.ok () w'/\Sim E j m w j m' w':=fun k hj=>iU h hj (LR.plain hp) hone hst;cases hx with
     | slice hj hm =>
      obtain⟨w',g1,g2⟩:=hgo _ hj;refine⟨w',.tuple #[],?_,g2,VR.undef j⟩;simp only[Builtin.clear_,h0,Re,Q6,TY,T0 hu,TX];cases n with
      | zero=>exact Q1 rfl hn0
      | succ n=>simp only[iw hz1,TX,hzc,g1,TZ]
     | sliceM hj hm e1 e2 hl hc =>
      obtain⟨w',g1,g2⟩:=hgo _ hj;refine⟨w',.tuple #[],?_,g2,VR.undef j⟩;simp only[Builtin.clear_,h0,Re,Q6,TY,T0 hu,TX];cases n with
      | zero=>exact Q1 rfl hn0
      | succ n=>simp only[iw hz1,TX,hzc,g1,TZ]
   cases e
  cases e
 cases e
def qD:∀(vs vs':TO SX) (k:IntKind) (a:Int) (v:SX),ez (fun x y=>if y>x then y else x) k a vs=some v->LR j vs vs'->∀w,(vs'.foldlM Builtin.max2 (.int k a)).run E.P w=.ok v w
 | [],vs',k,a,v,e,hl,w=>by rw[hl.da]; cases e; rfl
 | x::vs,vs',k,a,v,e,hl,w=>by
  obtain⟨y,ys,rfl,h1,h2⟩:=hl.cons_inv;cases x<;>simp only[ez] at e<;>first |(cases e; done)|skip
  cases h1;simp only[List.foldlM_cons,Builtin.max2,TY,TZ,TX];exact qD vs ys k _ v e h2 w
def qf:∀(vs vs':TO SX) (k:IntKind) (a:Int) (v:SX),ez (fun x y=>if y<x then y else x) k a vs=some v->LR j vs vs'->∀w,(vs'.foldlM Builtin.min2 (.int k a)).run E.P w=.ok v w
 | [],vs',k,a,v,e,hl,w=>by rw[hl.da]; cases e; rfl
 | x::vs,vs',k,a,v,e,hl,w=>by
  obtain⟨y,ys,rfl,h1,h2⟩:=hl.cons_inv;cases x<;>simp only[ez] at e<;>first |(cases e; done)|skip
  cases h1;simp only[List.foldlM_cons,Builtin.min2,TY,TZ,TX];exact qf vs ys k _ v e h2 w
def j5(f:Int->Int->Int):∀(vs:TO SX) (k:IntKind) (a:Int) (v:SX),ez f k a vs=some v->∃n,v=.int k n
 | [],k,a,v,e=>by cases e; exact⟨a,rfl⟩
 | x::vs,k,a,v,e=>by
  cases x<;>simp only[ez] at e<;>first |(cases e; done)|exact j5 f vs k _ v e
def ER.len:∀{a:TO (SX×SX)} {b:TO MapEntry},ER j a b->a.length=b.length
 | [],[],_=>rfl
 | _::_,_::_,h=>by simp[ER.len h.2.2]
 | [],_::_,h=>h.elim
 | _::_,[],h=>h.elim
def xD (h:MR E j m w) {b:Builtin} {ts:TW SY} {args args':TO SX} {v:SX} {m':TS} (e:aZ E.P b ts args m=some (v,m')) (ha:LR j args args') (ty:SY) (cs:TW Bool) :
  (m'=m/\(∀m2:TS,((b=.len\/b=.cap)->∀x b0,args=[x]->dx x=some b0->m2.get b0=m.get b0)->aZ E.P b ts args m2=some (v,m2))/\∃v',(builtin b ts ty cs args'.toArray).run E.P w=.ok (.value v') w/\VR j v v') \/
  ((b=.append\/b=.copy\/b=.clear\/b=.delete)/\∃j' w' v',(builtin b ts ty cs args'.toArray).run E.P w=.ok (.value v') w'/\Sim E j m w j' m' w'/\VR j' v v'):=by
 unfold aZ at e
 split at e
 ·
  rename_i x;obtain⟨x',l,rfl,hx,hl⟩:=ha.cons_inv;rw[hl.da];refine .inl ?_;have k3:∀n:Int,(Builtin.len_ ts ty [x'].toArray).run E.P w=.ok (.int .i64 n) w->∃v',(builtin .len ts ty cs [x'].toArray).run E.P w=.ok (.value v') w/\VR j (.int .i64 n) v' :=
   fun n hr=>⟨_,by simp only[builtin,TY,hr,TX,TZ],.int _ _⟩
  cases ht:ts[0]? with
  | none=>rw[ht] at e; simp at e
  | some t =>
   rw[ht] at e;simp only[Q9] at e
   split at e
   rename_i hu; cases e; cases hx;exact⟨rfl,fun m2 h0=>by simp only[aZ,ht,Q9,hu],k3 _ (by simp only[Builtin.len_,ht,Re,Q6,TY,T0 hu,TX,TZ,goInt])⟩
   rename_i hu; cases e;exact⟨rfl,fun m2 h0=>by simp only[aZ,ht,Q9,hu],k3 _ (by simp only[Builtin.len_,ht,Re,Q6,TY,T0 hu,TX,TZ,goInt])⟩
   rename_i a hu
   split at e
   rename_i h4; cases e;exact⟨rfl,fun m2 h0=>by simp only[aZ,ht,Q9,hu,h4],k3 _ (by simp only[Builtin.len_,ht,Re,Q6,TY,T0 hu,T0 h4,TX,TZ,goInt])⟩
   cases e
   rename_i hu; cases e;cases hx<;>exact⟨rfl,fun m2 h0=>by simp only[aZ,ht,Q9,hu],k3 _ (by simp only[Builtin.len_,ht,Re,Q6,TY,T0 hu,TX,TZ,goInt])⟩
   ·rename_i hu;cases hes:mapOf m _ with
    | none=>rw[hes] at e; cases e
    | some es =>
     rw[hes] at e; cases e;unfold mapOf at hes
     split at hes
     cases hes; cases hx;exact⟨rfl,fun m2 h0=>by simp only[aZ,ht,Q9,hu,mapOf,QZ],k3 _ (by simp only[Builtin.len_,ht,Re,Q6,TY,T0 hu,TX,TZ,goInt]; rfl)⟩
     ·rename_i r
      split at hes
      ·rename_i e0 hg;cases hes;cases hx with
       | map hj =>
       obtain⟨es',clock,h1,h2⟩:=h.BI hj hg;have hlen:es.length=es'.size:=by
        simpa using ER.len h2
       exact⟨rfl,fun m2 h0=>by simp only[aZ,ht,Q9,hu,mapOf,h0 (.inl rfl) _ _ rfl rfl,hg,QZ],k3 _ (by simp only[Builtin.len_,ht,Re,Q6,TY,T0 hu,TX,run_getObj_map h1,TZ,goInt,hlen])⟩
      cases hes
     cases hes
   cases e
 ·
  rename_i x;obtain⟨x',l,rfl,hx,hl⟩:=ha.cons_inv;rw[hl.da];refine .inl ?_;have k3:∀n:Int,(Builtin.cap_ ts ty [x'].toArray).run E.P w=.ok (.int .i64 n) w->∃v',(builtin .cap ts ty cs [x'].toArray).run E.P w=.ok (.value v') w/\VR j (.int .i64 n) v' :=
   fun n hr=>⟨_,by simp only[builtin,TY,hr,TX,TZ],.int _ _⟩
  cases ht:ts[0]? with
  | none=>rw[ht] at e; simp at e
  | some t =>
   rw[ht] at e;simp only[Q9] at e
   split at e
   rename_i hu; cases e; cases hx;exact⟨rfl,fun m2 h0=>by simp only[aZ,ht,Q9,hu],k3 _ (by simp only[Builtin.cap_,ht,Re,Q6,TY,T0 hu,TX,TZ,goInt])⟩
   ·rename_i b0 o l0 n hu
    split at e
    cases e
    ·rename_i c0 tag htag hg;cases e;cases hx with
     | slice hj hm =>
      refine⟨rfl,fun m2 h0=>?_,k3 _ (by simp only[Builtin.cap_,ht,Re,Q6,TY,T0 hu,TX,TZ,goInt])⟩
      have h5:m2.get b0=some (.cells c0 tag):=(h0 (.inr rfl) _ _ rfl rfl).trans hg;simp only[aZ,ht,Q9,hu,h5]
     | sliceM hj hm e1 e2 hl hc =>
      have:=h.kindOf hj hg;cases tag with
      | more sz=>exact Q1 rfl (htag sz)
      | ro=>simp only at this; rw[hm] at this; cases this
      | own=>simp only at this; rw[hm] at this; cases this
    cases e
   cases e
 
 rename_i s x;obtain⟨s',l,rfl,hs,hl⟩:=ha.cons_inv;obtain⟨x',l',rfl,hx,hl'⟩:=hl.cons_inv;rw[hl'.da]
 split at e
 rename_i t ht;obtain⟨j',w',v',h1,h2,h3⟩:=zO h e hs hx ht rfl ty;exact .inr ⟨by simp,j',w',v',by simp only[builtin,TY]; rw[h1]; rfl,h2,h3⟩
 cases e
 
 rename_i d s;obtain⟨d',l,rfl,hd,hl⟩:=ha.cons_inv;obtain⟨s',l',rfl,hs,hl'⟩:=hl.cons_inv;rw[hl'.da]
 split at e
 rename_i t ht;obtain⟨w',v',h1,h2,h3⟩:=GP h e hd hs ht ty;exact .inr ⟨by simp,j,w',v',by simp only[builtin,TY]; rw[h1]; rfl,h2,h3⟩
 cases e
 
 rename_i x;obtain⟨x',l,rfl,hx,hl⟩:=ha.cons_inv;rw[hl.da]
 split at e
 rename_i t ht;obtain⟨w',v',h1,h2,h3⟩:=Dt h e hx ht ty;exact .inr ⟨by simp,j,w',v',by simp only[builtin,TY]; rw[h1]; rfl,h2,h3⟩
 cases e
 ·
  rename_i x k;obtain⟨x',l,rfl,hx,hl⟩:=ha.cons_inv;obtain⟨k',l',rfl,hk,hl'⟩:=hl.cons_inv;rw[hl'.da]
  split at e
  ·rename_i t ht;cases hd:q9 E.P t x k m with
   | none=>rw[hd] at e; cases e
   | some m1 =>
    rw[hd] at e; cases e;obtain⟨w',h1,h2⟩:=Ad h hd hx hk ts ht ty;exact .inr ⟨by simp,j,w',.tuple #[],by simp only[builtin,TY]; rw[h1]; rfl,h2,VR.undef j⟩
  cases e
 ·
  rename_i k a vs;obtain⟨x',l,rfl,hx,hl⟩:=ha.cons_inv;cases hx;cases hf:ez (fun x y=>if y>x then y else x) k a vs with
  | none=>rw[hf] at e; cases e
  | some r =>
   rw[hf] at e; cases e;obtain⟨n,rfl⟩:=j5 _ _ _ _ _ hf;refine .inl ⟨rfl,fun m2 _=>by simp only[aZ,hf,QZ],.int k n,?_,.int _ _⟩
   have:=qD (E:=E) vs l k a _ hf hl w;simp only[builtin,TY,Builtin.max_,this,TX,TZ]
 ·
  rename_i k a vs;obtain⟨x',l,rfl,hx,hl⟩:=ha.cons_inv;cases hx;cases hf:ez (fun x y=>if y<x then y else x) k a vs with
  | none=>rw[hf] at e; cases e
  | some r =>
   rw[hf] at e; cases e;obtain⟨n,rfl⟩:=j5 _ _ _ _ _ hf;refine .inl ⟨rfl,fun m2 _=>by simp only[aZ,hf,QZ],.int k n,?_,.int _ _⟩
   have:=qf (E:=E) vs l k a _ hf hl w;simp only[builtin,TY,Builtin.min_,this,TX,TZ]
 cases e
end
section
variable{E:Env}{j:aN}{m:TS}{w:S5}{t:Tm}{n:Nat}{a:Act}
def aR(h:MR E j m w)(ht:TR n j t a.tmps){x:SZ}{v:SX}(e:an E t x=some v):VR j v (a.eval x):=by
 unfold an at e
 split at e
 cases e; exact ht.2 _
 split at e
 rename_i hp; cases e; exact VR.bB hp
 cases e
 split at e
 rename_i hg; cases e; exact .ptr (h.glob _ hg)
 cases e
 cases e; exact .func rfl (fun i a _=>by simp at a) rfl (fun i a _=>by simp at a)
def fA(h:MR E j m w)(ht:TR n j t a.tmps):∀{xs:TO SZ} {vs:TO SX},bq E t xs=some vs->LR j vs (xs.map a.eval)
 | [],vs,e=>by cases e; exact .nil j
 | x::xs,vs,e=>by
  simp only[bq] at e
  split at e
  rename_i v vs' h1 h2;cases e;exact .cons (aR h ht h1) (fA h ht h2)
  cases e
def jx(h:MR E j m w)(ht:TR n j t a.tmps):∀{xs:TO (Nat×SZ)} {vs:TO (Nat×SX)},dU E t xs=some vs ->
  vs.map (·.1)=(xs.map fun p=>(p.1,a.eval p.2)).map (·.1)/\LR j (vs.map (·.2)) ((xs.map fun p=>(p.1,a.eval p.2)).map (·.2))
 | [],vs,e=>by cases e; exact⟨rfl,.nil j⟩
 |(i,x)::xs,vs,e=>by
  simp only[dU] at e
  split at e
  rename_i v vs' h1 h2;cases e;obtain⟨h3,h4⟩:=jx h ht h2;exact⟨by simpa using h3,.cons (aR h ht h1) h4⟩
  cases e
def nP(h:MR E j m w)(ht:TR n j t a.tmps){x:TN SZ}{v:TN SX}(e:dF E t x=some v):OVR j v (x.map a.eval):=by
 cases x with
 | none=>cases e; exact .none
 | some x =>
  simp only[dF] at e;cases hv:an E t x with
  | none=>rw[hv] at e; cases e
  | some v0=>rw[hv] at e; cases e; exact .some (aR h ht hv)
def k6(P:S0)(s:Sem Next)(v:SX)(w w':S5):Prop:=s.run P w=.ok (.value v) w'\/(s.run P w=.ok .skip w'/\v=undef)
def k6.value{P:S0}{s:Sem SX}{v:SX}{w w':S5}(h:s.run P w=.ok v w'):k6 P (do pure (.value (<-s))) v w w' :=
 .inl (by simp only[TY,h,TX,TZ])
def k6.unit{P:S0}{s:Sem TP}{w w':S5}(h:s.run P w=.ok () w'):k6 P (do s; pure .skip) undef w w' :=
 .inr ⟨by simp only[TY,h,TX,TZ],rfl⟩
def map_some{α β:Type}{f:α->β}{x:TN α}{y:β}(h:x.map f=some y):∃a,x=some a/\y=f a:=by
 cases x with
 | none=>cases h
 | some a=>cases h; exact⟨a,rfl,rfl⟩
def yG{m2 m:TS}{b o n:Nat}(h:m2.get b=m.get b):m2.dQ b o n=m.dQ b o n:=by simp only[TS.dQ,h]
def yM{P:S0}{t:SY}{p:SX}{m2 m:TS}(h:∀b0,dx p=some b0->m2.get b0=m.get b0):dK P t p m2=dK P t p m:=by
 unfold dK
 split
 rename_i b o;have hb:=h b rfl;simp only[yG hb,hb]
 rfl
def vy{P:S0}{t:SY}{p:SX}{l hh k:TN SX}{m2 m:TS}(h:∀b0,dx p=some b0->m2.get b0=m.get b0):bP P t p l hh k m2=bP P t p l hh k m:=by
 unfold bP
 split
 rfl
 rename_i b o len cap _;simp only[h b rfl]
 rfl
 rename_i b o _;simp only[h b rfl]
 rfl
def tI{P:S0}{t:SY}{p q:SX}{ok:Bool}{m2 m:TS}(h:∀b0,dx p=some b0->m2.get b0=m.get b0):ie P t p q ok m2=ie P t p q ok m:=by
 have:mapOf m2 p=mapOf m p:=by
  unfold mapOf
  split
  rfl
  rename_i r; simp only[h r rfl]
  rfl
 unfold ie;simp only[this]
def Quiet(E:Env)(j:aN)(m:TS)(w:S5)(t:Tm)(a:Act)(o:Oper)(v:SX)(m':TS):Prop :=
 m'=m/\(∀m2:TS,(∀b0,aK E t o.op=some b0->m2.get b0=m.get b0)->eS E t m2 o.op=some (v,m2))/\∃v',k6 E.P (execOp a.eval o) v' w w/\VR j v v'
def Ow(E:Env)(j:aN)(m:TS)(w:S5)(t:Tm)(a:Act)(o:Oper)(v:SX)(m':TS):Prop :=
 ∃(ao:TU) (co:Obj) (vb:Nat->SX) (v':SX),v=vb m.next/\m'=m.alloc ao/\k6 E.P (execOp a.eval o) v' w (w.alloc co)/\OR j ⟨w.heap.size,none⟩ ao co /\
  (∀(j':aN) (b:Nat),j' b=some ⟨w.heap.size,none⟩->VR j' (vb b) v')/\∀m2:TS,eS E t m2 o.op=some (vb m2.next,m2.alloc ao)
def wI(h:MR E j m w)(ht:TR n j t a.tmps){o:Oper}{v:SX}{m':TS}(e:eS E t m o.op=some (v,m')) :
  Quiet E j m w t a o v m'\/Ow E j m w t a o v m'\/(av o.op=true/\∃j' w' v',k6 E.P (execOp a.eval o) v' w w'/\Sim E j m w j' m' w'/\VR j' v v'):=by
 have hpure:∀{s:Sem SX} {f:TS->TN SX} {v0:SX} {m0:TS},(∀m2:TS,eS E t m2 o.op=(f m2).map fun v=>(v,m2))->(∀m2:TS,(∀b0,aK E t o.op=some b0->m2.get b0=m.get b0)->f m2=f m) ->
   (∀v1,f m=some v1->∃v',s.run E.P w=.ok v' w/\VR j v1 v')->(f m).map (fun v=>(v,m))=some (v0,m0)->execOp a.eval o=(do pure (.value (<-s))) ->
   Quiet E j m w t a o v0 m0:=by
  intro s f v0 m0 hf hf2 h1 h2 hx;obtain⟨v1,hr,he⟩:=map_some h2;cases he;obtain⟨v',h3,h4⟩:=h1 _ hr;exact⟨rfl,fun m2 hm2=>by rw[hf,hf2 m2 hm2,hr]; rfl,v',by rw[hx]; exact .value h3,h4⟩
 cases hop:o.op<;>rw[hop] at e<;>simp only[eS] at e<;>try(cases e; done)
 case move x =>
  refine .inl ⟨(by obtain⟨v1,hv,he⟩:=map_some e; cases he; rfl),fun m2 _=>?_,?_⟩
  rw[hop]; obtain⟨v1,hv,he⟩:=map_some e; cases he;simp only[eS,hv,QZ]
  obtain⟨v1,hv,he⟩:=map_some e;cases he;exact⟨_,.inl (by simp only[execOp,hop]; rfl),aR h ht hv⟩
 case assign x =>
  refine .inl ⟨(by obtain⟨v1,hv,he⟩:=map_some e; cases he; rfl),fun m2 _=>?_,?_⟩
  rw[hop]; obtain⟨v1,hv,he⟩:=map_some e; cases he;simp only[eS,hv,QZ]
  obtain⟨v1,hv,he⟩:=map_some e;cases he;exact⟨_,.inl (by simp only[execOp,hop]; rfl),aR h ht hv⟩
 case pick c x y =>
  have hx:execOp a.eval o=(do pure (.value (if <-asBool (a.eval c) then a.eval x else a.eval y))):=by simp only[execOp,hop]
  refine .inl ?_
  split at e
  rename_i hc;obtain⟨v1,hv,he⟩:=map_some e;cases he;have hb:=aR h ht hc;refine⟨rfl,fun m2 _=>by rw[hop]; simp only[eS,hc,hv,QZ],a.eval x,?_,aR h ht hv⟩
  rw[hx];generalize a.eval c=cv at hb;cases hb;exact .inl rfl
  rename_i hc;obtain⟨v1,hv,he⟩:=map_some e;cases he;have hb:=aR h ht hc;refine⟨rfl,fun m2 _=>by rw[hop]; simp only[eS,hc,hv,QZ],a.eval y,?_,aR h ht hv⟩
  rw[hx];generalize a.eval c=cv at hb;cases hb;exact .inl rfl
  cases e
 case alloc elem =>
  have hx:execOp a.eval o=(do pure (.value (<-Instr.alloc elem true (.tuple #[])))):=by simp only[execOp,hop]
  split at e
  rename_i z hz
  split at e
  rename_i hp;cases e;refine .inr (.inl ⟨_,.cells z.cells elem,fun b=>ptr b 0,.pointer (some ⟨w.heap.size,0,none⟩),rfl,rfl,?_,OR.own (gJ (VR.bB hp)),fun j' b hb=>.ptr hb,fun m2=>by rw[hop]; simp only[eS,hz,hp,if_true]⟩)
  rw[hx];refine .value ?_;simp only[Instr.alloc,TY,iw hz,TX,newVar,newRow,run_newObj,TZ,World.alloc_eq]
  cases e
  cases e
 case box elem x =>
  have hx:execOp a.eval o=(do pure (.value (<-Instr.box elem (a.eval x)))):=by simp only[execOp,hop]
  obtain⟨v1,hv,he⟩:=map_some e;cases he;refine .inr (.inl ⟨_,.cells (a.eval x).cells elem,fun b=>ptr b 0,.pointer (some ⟨w.heap.size,0,none⟩),rfl,rfl,?_,OR.own (gJ (aR h ht hv)),fun j' b hb=>.ptr hb,fun m2=>by rw[hop]; simp only[eS,hv,QZ]⟩)
  rw[hx];refine .value ?_;simp only[Instr.box,TY,newVar,newRow,run_newObj,TX,TZ,World.alloc_eq]
 case build ty parts =>
  have hx:execOp a.eval o=(do pure (.value (<-Instr.build ty (parts.map fun(i,x)=>(i,a.eval x))))):=by simp only[execOp,hop]
  split at e
  rename_i ps z hps hz
  split at e
  rename_i hp;obtain⟨h1,h2⟩:=jx h ht hps;refine .inl (hpure (f:=fun _=>lH E.P ty ps) (fun m2=>by rw[hop]; simp only[eS,hps,hz,QH hp]) (fun _ _=>rfl) (fun v1 hv1=>?_) e hx)
  obtain⟨v',h3,h4⟩:=Cu hv1 h1 h2 hz hp;refine⟨v',?_,h4⟩;have:(parts.map fun(i,x)=>(i,a.eval x))=(parts.toList.map fun p=>(p.1,a.eval p.2)).toArray:=by
   apply RT.1; simp
  rw[this]; exact h3 w
  cases e
  cases e
 case buildSlice ty len parts =>
  have hx:execOp a.eval o=(do pure (.value (<-Instr.buildSlice ty len (parts.map fun(i,x)=>(i,a.eval x))))):=by simp only[execOp,hop]
  split at e
  rename_i elem ps hu hps
  split at e
  cases e
  rename_i hc;simp only[RO,RD,QR,not_or,Bool.not_eq_false] at hc;obtain⟨hk,hbig⟩:=hc
  split at e
  rename_i zs hz
  split at e
  rename_i hp;obtain⟨cs,hcs,he⟩:=map_some e;cases he;obtain⟨h1,h2⟩:=jx h ht hps;obtain⟨z,hz1,hz2,hz3⟩:=jm hz;obtain⟨cs',h3,h4⟩:=pc h1 h2 (LR.plain (j:=j) hp) hcs;have hparts:(parts.map fun(i,x)=>(i,a.eval x)).toList=parts.toList.map fun p=>(p.1,a.eval p.2):=by simp
  refine .inr (.inl ⟨_,.cells cs'.toArray elem,fun b=>.slice (some ⟨b,0,none⟩) len len,.slice (some ⟨w.heap.size,0,none⟩) len len,rfl,rfl,?_,OR.own (by simpa using h4),fun j' b hb=>.slice hb rfl,fun m2=>by rw[hop]; simp only[eS,hu,hps,hk,hz,hp,hcs,QO hbig,Rv,Bool.or_self,Q8,if_true,if_false,QZ]⟩)
  rw[hx];refine .value ?_;have hc0:len*aB E.P elem=0->((Array.range (len*aB E.P elem)).map fun i=>(#[]:TW SX)[i%(#[]:TW SX).size]!)=zs.toArray:=by
   intro h0;apply RT.1;have:zs=[]:=by apply Sj; rw[hz3,bE,Sh,hz2,h0]
   simp[h0,this]
  have hc1:((Array.range (len*aB E.P elem)).map fun i=>z.cells[i%z.cells.size]!)=zs.toArray:=by
   apply RT.1;rw[hz3,<-hz2]; exact jI len
  simp only[Instr.buildSlice,TY,T0 hu,TX,cn hk,Sem.run_ite,QF hbig,hparts]
  split
  rename_i h0;simp only[TZ,TX,hc0 h0,h3,newRow,TY,run_newObj,World.alloc_eq]
  simp only[TY,iw hz1,TZ,TX,hc1,h3,newRow,run_newObj,World.alloc_eq]
  cases e
  cases e
  cases e
 case load ty x =>
  have hx:execOp a.eval o=(do pure (.value (<-Instr.loadAt ty (a.eval x)))):=by simp only[execOp,hop]
  split at e
  rename_i p hp;refine .inl (hpure (f:=fun m2=>dK E.P ty p m2) (fun m2=>by rw[hop]; simp only[eS,hp]) (fun m2 hm2=>?_) (fun v1 hv1=>xA h hv1 (aR h ht hp)) e hx)
  rw[hop] at hm2;simp only[aK,hp,Q9] at hm2;exact yM hm2
  cases e
 case store ty x y =>
  have hx:execOp a.eval o=(do Instr.storeAt ty (a.eval x) (a.eval y); pure .skip):=by simp only[execOp,hop]
  rw[hx]
  split at e
  rename_i p v0 hp hv0;obtain⟨m1,hm1,he⟩:=map_some e;cases he;obtain⟨w',h1,h2⟩:=Dw h hm1 (aR h ht hp) (aR h ht hv0);exact .inr (.inr ⟨rfl,j,w',undef,.unit h1,h2,VR.undef j⟩)
  cases e
 case nilCheck x =>
  split at e
  rename_i ad hp;cases e;have hv:=aR h ht hp;refine .inl ⟨rfl,fun m2 _=>by rw[hop]; simp only[eS,hp],a.eval x,.inl ?_,hv⟩
  generalize hxv:a.eval x=xv at hv;cases hv;simp only[execOp,hop,hxv,TZ]
  rename_i f fs cs hp;cases e;have hv:=aR h ht hp;refine .inl ⟨rfl,fun m2 _=>by rw[hop]; simp only[eS,hp],a.eval x,.inl ?_,hv⟩
  generalize hxv:a.eval x=xv at hv;cases hv;simp only[execOp,hop,hxv,TZ]
  rename_i f fs cs hp;cases e;have hv:=aR h ht hp;refine .inl ⟨rfl,fun m2 _=>by rw[hop]; simp only[eS,hp],a.eval x,.inl ?_,hv⟩
  generalize hxv:a.eval x=xv at hv;cases hv;simp only[execOp,hop,hxv,TZ]
  cases e
 case binOp op xt x y yt =>
  have hx:execOp a.eval o=(do pure (.value (<-(do eqGuard op xt x y (a.eval x) (a.eval y); binOp op xt (a.eval x) (a.eval y))))):=by simp only[execOp,hop]
  split at e
  rename_i p q hp hq;refine .inl (hpure (f:=fun _=>bR op xt E.P p q) (fun m2=>by rw[hop]; simp only[eS,hp,hq]) (fun _ _=>rfl) (fun v1 hv1=>?_) e hx)
  obtain⟨v',h1,h2⟩:=Ie hv1 (aR h ht hp) (aR h ht hq) x y;exact⟨v',h1 w,h2⟩
  cases e
 case unOp op xt x =>
  have hx:execOp a.eval o=(do pure (.value (<-Op.unary op (a.eval x)))):=by simp only[execOp,hop]
  split at e
  rename_i p hp;refine .inl (hpure (f:=fun _=>Dz op p) (fun m2=>by rw[hop]; simp only[eS,hp]) (fun _ _=>rfl) (fun v1 hv1=>?_) e hx)
  obtain⟨v',h1,h2⟩:=Mq (P:=E.P) hv1 (aR h ht hp);exact⟨v',h1 w,h2⟩
  cases e
 case convert s d x =>
  have hx:execOp a.eval o=(do pure (.value (<-convert s d (a.eval x)))):=by simp only[execOp,hop]
  split at e
  rename_i p hp;refine .inl (hpure (f:=fun _=>jS E.P s d p) (fun m2=>by rw[hop]; simp only[eS,hp]) (fun _ _=>rfl) (fun v1 hv1=>?_) e hx)
  obtain⟨v',h1,h2⟩:=Ei hv1 (aR h ht hp);exact⟨v',h1 w,h2⟩
  cases e
 case makeFunc fn first captured =>
  cases fn<;>simp only at e<;>try(cases e; done)
  rename_i f;have hx:execOp a.eval o=(do pure (.value (<-Instr.makeFunc (.func f) (first.map a.eval) (captured.map a.eval)))):=by simp only[execOp,hop]
  split at e
  rename_i fs cs h1 h2;cases e;have h3:=fA h ht h1;have h4:=fA h ht h2;have h3':LR j fs.toArray.toList (first.map a.eval).toList:=by simpa using h3
  have h4':LR j cs.toArray.toList (captured.map a.eval).toList:=by simpa using h4
  refine .inl ⟨rfl,fun m2 _=>by rw[hop]; simp only[eS,h1,h2],_,?_,.func h3'.size h3'.arr h4'.size h4'.arr⟩
  rw[hx]; exact .value rfl
  cases e
 case makeMap ty r =>
  cases r with
  | some _=>simp at e
  | none =>
   simp only at e;cases e;have hx:execOp a.eval o=(do pure (.value (<-Instr.makeMap ty none))):=by simp only[execOp,hop]; rfl
   refine .inr (.inl ⟨.map [],.map #[] 0,fun b=>.map (some b),.map (some w.heap.size),rfl,rfl,?_,⟨trivial,Dk _⟩,fun j' b hb=>.map hb,fun m2=>by rw[hop]; rfl⟩)
   rw[hx];refine .value ?_;simp only[Instr.makeMap,TY,run_newObj,TX,TZ,World.alloc_eq]
 case makeSlice ty l c =>
  have hx:execOp a.eval o=(do pure (.value (<-Instr.makeSlice ty (a.eval l) (a.eval c)))):=by simp only[execOp,hop]
  split at e
  rename_i elem li ci hu hl hc
  split at e
  rename_i hcond;have hcond0:=hcond;obtain⟨h0l,hlc,hany,hk⟩:=hcond;simp only[Option.any_eq_true,QJ,QR,bne_iff_ne,ne_eq] at hany;obtain⟨i,hi,hby,hb0⟩:=hany
  split at e
  rename_i zs hz
  split at e
  rename_i hp;cases e;obtain⟨z,hz1,hz2,hz3⟩:=jm hz;have hlv:=aR h ht hl;have hcv:=aR h ht hc;refine .inr (.inl ⟨_,.cells zs.toArray elem,fun b=>.slice (some ⟨b,0,none⟩) li.toNat ci.toNat,.slice (some ⟨w.heap.size,0,none⟩) li.toNat ci.toNat,rfl,rfl,?_,OR.own (LR.plain hp),fun j' b hb=>.slice hb rfl,fun m2=>by rw[hop]; simp only[eS,hu,hl,hc]; rw[QH hcond0]; simp only[hz,hp,if_true]⟩)
  rw[hx];refine .value ?_;generalize a.eval l=lv at hlv;generalize a.eval c=cv at hcv;cases hlv; cases hcv;have hci:ci<=2 ^ 40:=by
   have h1:(1:Int)<=(i.bytes:Int):=by exact_mod_cast Nat.one_le_iff_ne_zero.2 hb0
   have:1*ci<=(i.bytes:Int)*ci:=RN h1 (by omega)
   omega
  have hwl:IntKind.i64.wrap li=li:=IntWalk.i64_in li (by omega)
  have hwc:IntKind.i64.wrap ci=ci:=IntWalk.i64_in ci (by omega)
  have hneg:¬(((ci<0 ||(i.bytes:Int)*ci>2 ^ 48)||li<0||li>ci)=true):=by
   simp only[RO,QR,not_or];omega
  have hc0:ci.toNat*aB E.P elem=0->((Array.range (ci.toNat*aB E.P elem)).map fun i=>(#[]:TW SX)[i%(#[]:TW SX).size]!)=zs.toArray:=by
   intro h0;apply RT.1;have:zs=[]:=by apply Sj; rw[hz3,bE,Sh,hz2,h0]
   simp[h0,this]
  have hc1:((Array.range (ci.toNat*aB E.P elem)).map fun i=>z.cells[i%z.cells.size]!)=zs.toArray:=by
   apply RT.1;rw[hz3,<-hz2]; exact jI ci.toNat
  simp only[Instr.makeSlice,TY,T0 hu,TX,asInt,asIntOf,TZ,sO hi,hwl,hwc,Sem.run_ite,QF hneg,run_askRoom,cn hk]
  split
  rename_i h0;simp only[TZ,TX,hc0 h0,newRow,TY,run_newObj,World.alloc_eq]
  simp only[TY,iw hz1,TZ,TX,hc1,newRow,run_newObj,World.alloc_eq]
  cases e
  cases e
  cases e
  cases e
 case slice ty x lo hi mx =>
  have hx:execOp a.eval o=(do pure (.value (<-Instr.sliceAt ty (a.eval x) (lo.map a.eval) (hi.map a.eval) (mx.map a.eval)))):=by simp only[execOp,hop]
  split at e
  rename_i p l hh k hp h1 h2 h3;refine .inl (hpure (f:=fun m2=>bP E.P ty p l hh k m2) (fun m2=>by rw[hop]; simp only[eS,hp,h1,h2,h3]) (fun m2 hm2=>?_) (fun v1 hv1=>?_) e hx)
  rw[hop] at hm2;simp only[aK,hp,Q9] at hm2;exact vy hm2
  obtain⟨v',g1,g2⟩:=Dj h hv1 (aR h ht hp) (nP h ht h1) (nP h ht h2) (nP h ht h3);exact⟨v',g1 w,g2⟩
  cases e
 case fieldAddr s x f =>
  have hx:execOp a.eval o=(do pure (.value (<-Instr.fieldAt s (a.eval x) f))):=by simp only[execOp,hop]
  split at e
  rename_i p hp;refine .inl (hpure (f:=fun _=>aD E.P s p f) (fun m2=>by rw[hop]; simp only[eS,hp]) (fun _ _=>rfl) (fun v1 hv1=>?_) e hx)
  obtain⟨v',g1,g2⟩:=tS hv1 (aR h ht hp);exact⟨v',g1 w,g2⟩
  cases e
 case field ty x f =>
  have hx:execOp a.eval o=(do pure (.value (<-Instr.field ty (a.eval x) f))):=by simp only[execOp,hop]
  split at e
  rename_i p hp;refine .inl (hpure (f:=fun _=>gW E.P ty p f) (fun m2=>by rw[hop]; simp only[eS,hp]) (fun _ _=>rfl) (fun v1 hv1=>?_) e hx)
  obtain⟨v',g1,g2⟩:=C8 hv1 (aR h ht hp);exact⟨v',g1 w,g2⟩
  cases e
 case sliceToArrayPointer ty x =>
  have hx:execOp a.eval o=(do pure (.value (<-Instr.arrayAt ty (a.eval x)))):=by simp only[execOp,hop]
  split at e
  rename_i p hp;refine .inl (hpure (f:=fun _=>B9 E.P ty p) (fun m2=>by rw[hop]; simp only[eS,hp]) (fun _ _=>rfl) (fun v1 hv1=>?_) e hx)
  obtain⟨v',g1,g2⟩:=D3 hv1 (aR h ht hp);exact⟨v',g1 w,g2⟩
  cases e
 case indexAddr ty x i =>
  have hx:execOp a.eval o=(do pure (.value (<-Instr.indexAt ty (a.eval x) (a.eval i)))):=by simp only[execOp,hop]
  split at e
  rename_i p q hp hq;refine .inl (hpure (f:=fun _=>bW E.P ty p q) (fun m2=>by rw[hop]; simp only[eS,hp,hq]) (fun _ _=>rfl) (fun v1 hv1=>?_) e hx)
  obtain⟨v',g1,g2⟩:=tC hv1 (aR h ht hp) (aR h ht hq);exact⟨v',g1 w,g2⟩
  cases e
 case index ty x i =>
  have hx:execOp a.eval o=(do pure (.value (<-Instr.index ty (a.eval x) (a.eval i)))):=by simp only[execOp,hop]
  split at e
  rename_i p q hp hq;refine .inl (hpure (f:=fun _=>fZ E.P ty p q) (fun m2=>by rw[hop]; simp only[eS,hp,hq]) (fun _ _=>rfl) (fun v1 hv1=>?_) e hx)
  obtain⟨v',g1,g2⟩:=Da hv1 (aR h ht hp) (aR h ht hq);exact⟨v',g1 w,g2⟩
  cases e
 case lookup ty x i ok =>
  have hx:execOp a.eval o=(do pure (.value (<-Instr.lookup ty (a.eval x) (a.eval i) ok))):=by simp only[execOp,hop]
  split at e
  rename_i p q hp hq;refine .inl (hpure (f:=fun m2=>ie E.P ty p q ok m2) (fun m2=>by rw[hop]; simp only[eS,hp,hq]) (fun m2 hm2=>?_) (fun v1 hv1=>Ae h hv1 (aR h ht hp) (aR h ht hq)) e hx)
  rw[hop] at hm2;simp only[aK,hp,Q9] at hm2;exact tI hm2
  cases e
 case mapUpdate ty x k y =>
  have hx:execOp a.eval o=(do Instr.mapUpdate ty (a.eval x) (a.eval k) (a.eval y); pure .skip):=by simp only[execOp,hop]
  rw[hx]
  split at e
  rename_i p q r hp hq hr;obtain⟨m1,hm1,he⟩:=map_some e;cases he;obtain⟨w',h1,h2⟩:=nC h hm1 (aR h ht hp) (aR h ht hq) (aR h ht hr);exact .inr (.inr ⟨rfl,j,w',undef,.unit h1,h2,VR.undef j⟩)
  cases e
 case insert ty x k y =>
  have hx:execOp a.eval o=(do Instr.mapUpdate ty (a.eval x) (a.eval k) (a.eval y); pure .skip):=by simp only[execOp,hop]
  rw[hx]
  split at e
  rename_i p q r hp hq hr;obtain⟨m1,hm1,he⟩:=map_some e;cases he;obtain⟨w',h1,h2⟩:=nC h hm1 (aR h ht hp) (aR h ht hq) (aR h ht hr);exact .inr (.inr ⟨rfl,j,w',undef,.unit h1,h2,VR.undef j⟩)
  cases e
 case extract x i =>
  have hx:execOp a.eval o=(do pure (.value (<-Instr.extract (a.eval x) i))):=by simp only[execOp,hop]
  split at e
  ·rename_i vs hp;refine .inl (hpure (f:=fun _=>vs[i]?) (fun m2=>by rw[hop]; simp only[eS,hp]) (fun _ _=>rfl) (fun v1 hv1=>?_) e hx)
   have hv:=aR h ht hp;generalize a.eval x=xv at hv;cases hv with
   | tuple h1 h2 =>
   rename_i ys;obtain⟨v',g1,g2⟩:=(LR.fu h1 h2).get (show vs.toList[i]? = some v1 by simpa using hv1)
   refine⟨v',?_,g2⟩;have g1':ys[i]? = some v':=by simpa using g1
   simp only[Instr.extract,g1',TZ]
  cases e
 case call c =>
  split at e
  rename_i b hb
  split at e
  rename_i vs hvs;have hx:execOp a.eval o=(do let d <-resolve a.eval c o.type; invoke d.target d.args):=by simp only[execOp,hop]
  have hargs:c.args.map a.eval=(c.args.toList.map a.eval).toArray:=by apply RT.1; simp
  have hrun:∃cs,(execOp a.eval o).run E.P w=(builtin b c.argTypes o.type cs (c.args.toList.map a.eval).toArray).run E.P w :=
   ⟨_,by rw[hx]; simp only[resolve,hb,TY,TZ,TX,invoke,hargs]; rfl⟩
  obtain⟨cs,hrun⟩:=hrun;rcases xD h e (fA h ht hvs) o.type cs with⟨rfl,hm,v',h1,h2⟩|⟨hbb,j',w',v',h1,h2,h3⟩
  refine .inl ⟨rfl,fun m2 hm2=>?_,v',.inl (hrun.trans h1),h2⟩;rw[hop] at hm2 ⊢;simp only[eS,hb,hvs];refine hm m2 fun hlc x b0 hx1 hx2=>hm2 b0 ?_;subst hx1;rcases hlc with rfl|rfl<;>simp only[aK,hb,hvs,hx2]
  refine .inr (.inr ⟨?_,j',w',v',.inl (hrun.trans h1),h2,h3⟩);rcases hbb with rfl|rfl|rfl|rfl<;>simp only[av,hb]
  cases e
  cases e
def Fe(h:MR E j m w)(ht:TR n j t a.tmps){o:Oper}{v:SX}{m':TS}(e:eS E t m o.op=some (v,m')) :
  ∃j' w' v',k6 E.P (execOp a.eval o) v' w w'/\Sim E j m w j' m' w'/\VR j' v v':=by
 rcases wI h ht e with⟨rfl,_,v',h1,h2⟩|⟨ao,co,vb,v',rfl,rfl,h1,h2,h3,_⟩|⟨_,h1⟩
 exact⟨j,w,v',h1,.refl h,h2⟩
 exact⟨_,_,v',h1,mD h h2,h3 _ _ (aN.bV _ _ _)⟩
 exact h1
end
def EV:TT->Exit
 | .normal=>.normal
 | .exit id=>.exit id
 | .ret=>.ret
def jX(F:Fence):Prop:=F=Fence.wide\/∃l,F=Fence.wide.inRound l
def jX.fn{F:Fence}(h:jX F)(f:T1):F.fn f:=by
 rcases h with rfl|⟨l,rfl⟩<;>trivial
def jX.room{F:Fence}(h:jX F)(n:Nat):F.room n:=by
 rcases h with rfl|⟨l,rfl⟩<;>intro d hd<;>simp[Fence.wide] at hd
def jX.depth{F:Fence}(h:jX F){n:Nat}:F.depth.isSome=true->1<=n:=by
 rcases h with rfl|⟨l,rfl⟩<;>intro hd<;>simp[Fence.wide] at hd
def jX.calls{F:Fence}(h:jX F){n:Nat}{P:S0}{f:T1}{args:TW SX}{w:S5}{R:Ending->S5->Prop}(hc:CallsIn Fence.wide n P f args w R):CallsIn F n P f args w R:=by
 rcases h with rfl|⟨l,rfl⟩
 exact hc
 exact hc
def jX.IE{F:Fence}(h:jX F){n:Nat}{P:S0}{l:Nat}{f:T1}{tmps:TW SX}{x y:Code}{w:S5}{R:Ending->S5->Prop}(hc:RoundIn Fence.wide n P l f tmps x y w R):RoundIn F n P l f tmps x y w R:=by
 rcases h with rfl|⟨l,rfl⟩
 exact hc
 exact hc
def j4(j:aN)(r:TN Nat)(F:Fence):Prop :=
 match r with
 | none=>F=Fence.wide
 | some l=>∃k,j l=some k/\F=Fence.wide.inRound k.c
def j4.wide{j:aN}{r:TN Nat}{F:Fence}(h:j4 j r F):jX F:=by
 cases r with
 | none=>exact .inl h
 | some l=>obtain⟨k,_,rfl⟩:=h; exact .inr ⟨_,rfl⟩
def j4.mono{j j':aN}(hj:j.le j'){r:TN Nat}{F:Fence}(h:j4 j r F):j4 j' r F:=by
 cases r with
 | none=>exact h
 | some l=>obtain⟨k,h1,rfl⟩:=h; exact⟨k,hj _ _ h1,rfl⟩
def rC(r:Nat):Deferred:={ target:=.collected r,args:=#[]}
def Marks(N:Nat)(w:S5)(ds:TO Deferred):Prop:=∃rs:TO Nat,rs.Nodup/\ds=rs.map rC/\∀r∈rs,N<=r/\w.heap[r]? = some (.deferred (some []))
def Marks.nil(N:Nat)(w:S5):Marks N w []:=⟨[],List.nodup_nil,rfl,fun r h=>by simp at h⟩
def xn{E:Env}{j:aN}{m:TS}{w:S5}(h:MR E j m w){r:Nat}(hr:w.heap[r]? = some (.deferred (some []))):∀b k,j b=some k->(m.get b).isSome=true->k.c≠r:=by
 intro b k hb hl he;cases hg:m.get b with
 | none=>rw[hg] at hl; cases hl
 | some o =>
  obtain⟨o',h1,h2⟩:=h.obj b o k hg hb;rw[he,hr] at h1;cases h1;cases o<;>exact h2.elim
def Marks.GV{E:Env}{j j':aN}{m m':TS}{w w':S5}(h:MR E j m w)(s:Sim E j m w j' m' w'){N:Nat}{ds:TO Deferred}(hm:Marks N w ds):Marks N w' ds:=by
 obtain⟨rs,h1,h2,h3⟩:=hm;refine⟨rs,h1,h2,fun r hr=>⟨(h3 r hr).1,?_⟩⟩;have hh:=(h3 r hr).2;rw[s.frame r (QP.1 hh).1 fun b k hb hl he=>Q1 he (xn h hh b k hb hl)];exact hh
def k7(E:Env)(j:aN)(m:TS)(w:S5)(N n:Nat)(e:TT)(t:Tm)(m':TS):Exit->Act->S5->Prop:=fun e' a' w' =>
 e'=EV e/\∃j',Sim E j m w j' m' w'/\TR n j' t a'.tmps/\Marks N w' a'.defers
def BV(E:Env)(cs:Nat->S0->Fence->(Exit->Act->S5->Prop)->Act->S5->Prop)(fr:Fr)(m:TS)(r:Res):Prop :=
 ∃e t m',r=.code e t m'/\∀(j:aN) (w:S5) (a:Act) (F:Fence) (N:Nat),MR E j m w->TR fr.n j fr.tmps a.tmps->j4 j fr.round F->Marks N w a.defers->N<=w.heap.size ->
  cs 0 E.P F (k7 E j m w N fr.n e t m') a w
def gk(P:S0)(pr:Bool)(f:T1)(args:TW SX)(w:S5)(R:SX->S5->Prop):Prop :=
 ((callFunc f args).run P w=.ok (.enter f args) w/\CallsIn Fence.wide 0 P f args w (fun e w'=>∃v,e=.returned v/\R v w')) \/
  (pr=true/\∃v w',(callFunc f args).run P w=.ok (.value v) w'/\R v w')
def iC(E:Env)(j:aN)(m:TS)(w:S5)(v:SX)(m':TS):SX->S5->Prop:=fun v' w'=>∃j',Sim E j m w j' m' w'/\VR j' v v'
def IL(E:Env)(f:T1)(args:TO SX)(m:TS)(r:Res):Prop :=
 ∃v m',r=.val v m'/\∀(j:aN) (w:S5) (args':TO SX),MR E j m w->LR j args args'->gk E.P (E.cH f).isSome f args'.toArray w (iC E j m w v m')
def Ew(E:Env)(l:Nat)(args:TO SX)(m:TS)(r:Res):Prop :=
 ∃v m',r=.val v m'/\∀(j:aN) (w:S5) (k:Blk) (args':TO SX),MR E j m w->j l=some k->LR j args args' ->
  ∃fn tmps assign body,(Instr.yield k.c args'.toArray).run E.P w=.ok (.round k.c fn tmps assign body) w /\
   RoundIn Fence.wide 0 E.P k.c fn tmps assign body w (fun e w'=>∃v',e=.returned v'/\iC E j m w v m' v' w')
def nR(F:Fence)(n:Nat)(P:S0)(c:Code)(Q:Exit->Act->S5->Prop)(a:Act)(w:S5):Prop :=
 ∀(b:Frame) (k:TO Item) (cs:TO Frame),b.roundOf=F.round->F.fn b.fn->F.room (cs.length+1+n) ->
  ∃e a' w',Q e a' w'/\ArrivesIn (Machine.fenced P F) P (lone (b.atR a (.code c::.inLoop c::k)) cs w) b k cs e a' w'
def cG(E:Env):Task->Res->Prop
 | .code c fr m,r=>BV E (fun n P F Q a w=>c.wpIn F n P Q a w) fr m r
 | .loop c fr m,r=>BV E (fun n P F Q a w=>nR F n P c Q a w) fr m r
 | .call f args m,r=>IL E f args m r
 | .round l args m,r=>Ew E l args m r
structure EnvOk(E:Env):Prop where
 call:∀f fn c,E.P.funcs[f]? = some fn->fn.body=some c->∀args w,(callFunc f args).run E.P w=.ok (.enter f args) w
 mixed:E.P.follows .mixedOrders=true
 cH:∀f p,E.cH f=some p->∀args m v m',p.run args m=some (v,m')->∀(j:aN) (w:S5) (args':TO SX),MR E j m w->LR j args args'->gk E.P (E.cH f).isSome f args'.toArray w (iC E j m w v m')
def dm{F:Fence}(hF:jX F){P:S0}{o:Oper}{a:Act}{w w':S5}{v:SX}{next:Act->S5->Prop}{Q:Exit->Act->S5->Prop}(hd:∀c,o.op≠.defer c)
  (h:k6 P (execOp a.eval o) v w w') (hn:next (a.put o.dst v) w'):o.wpIn F 0 P a w next Q:=by
 refine⟨fun f _=>hF.fn f,?_⟩;rw[Oper.semAt_eq _ _ _ hd];rcases h with h|⟨h,rfl⟩
 rw[h]; exact hn
 rw[h]; exact hn
section
variable{E:Env}{k:K}
def my{t:Tm}{m:TS}{o:Op}{r:SX×TS}(h:eS E t m o=some r):∀c,o≠.defer c:=by
 intro c e; subst e; simp[eS] at h
def Does(P:S0)(s:Sem Next)(w:S5)(G:SX->S5->Prop):Prop :=
 (∃v w',k6 P s v w w'/\G v w') \/
 (∃f args,s.run P w=.ok (.enter f args) w/\CallsIn Fence.wide 0 P f args w (fun e w'=>∃v,e=.returned v/\G v w')) \/
 (∃l fn tmps x y,s.run P w=.ok (.round l fn tmps x y) w/\RoundIn Fence.wide 0 P l fn tmps x y w (fun e w'=>∃v,e=.returned v/\G v w'))
def Does.wpIn{F:Fence}(hF:jX F){P:S0}{o:Oper}(hd:∀c,o.op≠.defer c){a:Act}{w:S5}{G:SX->S5->Prop}(h:Does P (execOp a.eval o) w G){next:Act->S5->Prop}{Q:Exit->Act->S5->Prop}
  (hn:∀v' w',G v' w'->next (a.put o.dst v') w'):o.wpIn F 0 P a w next Q:=by
 rcases h with⟨v,w',h1,h2⟩|⟨f,args,h1,h2⟩|⟨l,fn,tmps,x,y,h1,h2⟩
 exact dm hF hd h1 (hn _ _ h2)
 refine⟨fun f _=>hF.fn f,?_⟩;rw[Oper.semAt_eq _ _ _ hd,h1];exact⟨hF.depth,CallsIn.mono (hF.calls h2) fun e' w' he=>by
  obtain⟨v',rfl,hq⟩:=he;exact hn v' w' hq⟩
 refine⟨fun f _=>hF.fn f,?_⟩;rw[Oper.semAt_eq _ _ _ hd,h1];exact⟨hF.depth,RoundIn.mono (hF.IE h2) fun e' w' he=>by
  obtain⟨v',rfl,hq⟩:=he;exact hn v' w' hq⟩
def Does.ends{P:S0}{s:Sem Next}{w:S5}{G:SX->S5->Prop}(h:Does P s w G):∃v w',G v w':=by
 rcases h with⟨v,w',_,h2⟩|⟨f,args,_,h2⟩|⟨l,fn,tmps,x,y,_,h2⟩
 exact⟨v,w',h2⟩
 obtain⟨e,w',fr,⟨v,_,hq⟩,_⟩:=h2.2 [] (jX.room (.inl rfl) _);exact⟨v,w',hq⟩
 obtain⟨e,w',⟨v,_,hq⟩,_⟩:=h2.2 default [] (jX.room (.inl rfl) _);exact⟨v,w',hq⟩
def nk{t:Tm}{m:TS}{o:Op}{r:SX×TS}(h:dR k E t m o=some r):∀c,o≠.defer c:=by
 intro c e; subst e; simp[dR,eS] at h
def lp(hk:∀tk r,k tk=some r->cG E tk r){j:aN}{m:TS}{w:S5}{t:Tm}{n:Nat}{a:Act}(h:MR E j m w)(ht:TR n j t a.tmps){o:Oper}{v:SX}{m':TS}(e:dR k E t m o.op=some (v,m')) :
  Does E.P (execOp a.eval o) w (iC E j m w v m'):=by
 have hplain:eS E t m o.op=some (v,m')->Does E.P (execOp a.eval o) w (iC E j m w v m'):=by
  intro e;obtain⟨j',w',v',h1,h2,h3⟩:=Fe h ht e;exact .inl ⟨v',w',h1,j',h2,h3⟩
 unfold dR at e
 split at e
 ·rename_i c hop
  split at e
  ·rename_i f hc
   split at e
   ·rename_i g first captured args hf hargs
    split at e
    ·rename_i v0 m0 hcall;cases e;obtain⟨v1,m1,hr,hsim⟩:=hk _ _ hcall;cases hr;have hfv:=aR h ht hf;generalize hfe:a.eval f=fv at hfv;cases hfv with
     | func h1 h2 h3 h4 =>
     rename_i ys ds;have hl:LR j (first.toList++args++captured.toList) (ys.toList++(c.args.toList.map a.eval)++ds.toList) :=
      ((LR.fu h1 h2).append (fA h ht hargs)).append (LR.fu h3 h4)
     have hcs:=hsim j w _ h hl;have harr:(ys.toList++(c.args.toList.map a.eval)++ds.toList).toArray=ys++c.args.map a.eval++ds:=by apply RT.1; simp
     rw[harr] at hcs;have hexec:execOp a.eval o=(do let d <-resolve a.eval c o.type; invoke d.target d.args):=by simp only[execOp,hop]
     have hrun:(execOp a.eval o).run E.P w=(callFunc g (ys++c.args.map a.eval++ds)).run E.P w:=by
      rw[hexec];simp only[resolve,hc,hfe,Deferred.ofValue,TY,TZ,TX,invoke]
     rcases hcs with⟨hr,hci⟩|⟨_,v',w',hr,hq⟩
     exact .inr (.inl ⟨_,_,hrun.trans hr,hci⟩)
     exact .inl ⟨v',w',.inl (hrun.trans hr),hq⟩
    cases e
   ·rename_i l first cap args hf hargs
    split at e
    ·rename_i v0 m0 hcall;cases e;obtain⟨v1,m1,hr,hsim⟩:=hk _ _ hcall;cases hr;have hfv:=aR h ht hf;generalize hfe:a.eval f=fv at hfv;cases hfv with
     | yield hj h1 h2 =>
     rename_i kb ys ds;have hl:LR j (first.toList++args) (ys.toList++(c.args.toList.map a.eval)):=(LR.fu h1 h2).append (fA h ht hargs)
     obtain⟨fn,tmps,assign,body,hy,hro⟩:=hsim j w kb _ h hj hl;have harr:(ys.toList++(c.args.toList.map a.eval)).toArray=ys++c.args.map a.eval:=by apply RT.1; simp
     rw[harr] at hy;have hexec:execOp a.eval o=(do let d <-resolve a.eval c o.type; invoke d.target d.args):=by simp only[execOp,hop]
     have hrun:(execOp a.eval o).run E.P w=.ok (.round kb.c fn tmps assign body) w:=by
      rw[hexec];simp only[resolve,hc,hfe,Deferred.ofValue,TY,TZ,TX,invoke,hy]
     exact .inr (.inr ⟨_,_,_,_,_,hrun,hro⟩)
    cases e
   cases e
  exact hplain e
 exact hplain e
def Dh(hk:∀tk r,k tk=some r->cG E tk r){j:aN}{m:TS}{w:S5}{t:Tm}{n:Nat}{a:Act}(h:MR E j m w)(ht:TR n j t a.tmps){o:Oper}{v:SX}{m':TS}(e:dR k E t m o.op=some (v,m'))
  {F:Fence} (hF:jX F) {next:Act->S5->Prop} {Q:Exit->Act->S5->Prop} (hn:∀v' w',iC E j m w v m' v' w'->next (a.put o.dst v') w'):o.wpIn F 0 E.P a w next Q :=
 (lp hk h ht e).wpIn hF (nk e) hn
def TR.put{n:Nat}{j:aN}{t t':Tm}{a:Act}{dst:TN Tmp}{v v':SX}(h:TR n j t a.tmps)(hv:VR j v v')(hp:jy n t dst v=some t'):TR n j t' (a.put dst v').tmps:=by
 unfold jy at hp
 split at hp
 rename_i d
 split at hp
 rename_i hlt;cases hp;have hlt':d<n:=by simpa using hlt
 refine⟨by simp[Act.put,h.1],fun i=>?_⟩
 simp only[Act.put,Tm.at,Trie.bl]
 by_cases hi:i=d
 subst hi;simp only[QH rfl];have:i<a.tmps.size:=by rw[h.1]; exact hlt'
 simp[this,hv]
 simp only[QF hi];have:=h.2 i;simp only[Tm.at] at this
 simpa [Sa (Ne.symm hi)] using this
 cases hp
 cases hp; exact h
def CS {n:Nat} {j:aN} {t:Tm} {a:Act} (h:TR n j t a.tmps) (ops:TW Oper) (o:Oper):Region.wanted o (yielded ops a.tmps)=bQ ops o t:=by
 unfold Region.wanted bQ;cases hgd:o.guard with
 | none=>rfl
 | some p =>
  obtain⟨g,want⟩:=p;simp only;have key:yielded ops a.tmps g=eY ops t g:=by
   unfold yielded eY;cases hd:(ops[g]?).bind (·.dst) with
   | none=>rfl
   | some d =>
    simp only[Q9];have hv:=h.2 d;unfold Tm.at at hv;cases hg:t.get d with
    | none =>
     rw[hg] at hv;simp only[Option.getD_none] at hv;have:a.tmps[d]? = none\/a.tmps[d]? = some undef:=by
      cases ha:a.tmps[d]? with
      | none=>exact .inl rfl
      | some x =>
       right
       have:a.tmps.getD d undef=x:=by simp[ha]
       rw[this] at hv;have:x=undef:=gq (by rfl) hv
       rw[this]
     rcases this with e|e<;>rw[e]<;>rfl
    | some x =>
     rw[hg] at hv;simp only[Option.getD_some] at hv;cases ha:a.tmps[d]? with
     | none =>
      have:a.tmps.getD d undef=undef:=by simp[ha]
      rw[this] at hv;cases x<;>first|rfl|cases hv
     | some y =>
      have:a.tmps.getD d undef=y:=by simp[ha]
      rw[this] at hv;cases hv with
      | junk hj=>cases y<;>first|rfl |(simp[yR,aP] at hj)
      | _=>rfl
  rw[key];cases eY ops t g with
  | none=>rfl
  | some b=>simp
def kH(hk:∀tk r,k tk=some r->cG E tk r){ops:TW Oper}{n:Nat}{F:Fence}(hF:jX F){Q:Exit->Act->S5->Prop}{m0:TS}{w0:S5}{j0:aN}(h0:MR E j0 m0 w0){tf:Tm}{mf:TS}
  (ds:TO Deferred) (hQ:∀j' w' a',Sim E j0 m0 w0 j' mf w'->TR n j' tf a'.tmps->a'.defers=ds->Q .normal a' w') :
  ∀(os:TO Oper) (i:Nat) (t:Tm) (m:TS) (j:aN) (w:S5) (a:Act),ops.toList.drop i=os->iV k E n ops os t m=some (tf,mf)->Sim E j0 m0 w0 j m w->TR n j t a.tmps->a.defers=ds ->
   wpOpsIn F 0 E.P ops Q (List.range' i (ops.size-i)) a w
 | [],i,t,m,j,w,a,hd,hr,s,ht,hds=>by
  cases hr;have hlen:ops.size<=i:=by
   have:=Rf List.length hd;simp at this; omega
  rw[show ops.size-i=0 by omega]
  exact hQ j w a s ht hds
 | o::os,i,t,m,j,w,a,hd,hr,s,ht,hds=>by
  have hlt:i<ops.size:=by
   have:=Rf List.length hd;simp at this; omega
  have ho:ops[i]? = some o:=by
   have:=Rf (·[0]?) hd
   simpa [RL] using this
  have hd':ops.toList.drop (i+1)=os:=by
   rw[<-Sy,hd]; rfl
  have hidx:List.range' i (ops.size-i)=i::List.range' (i+1) (ops.size-(i+1)):=by
   rw[show ops.size-i=(ops.size-(i+1))+1 by omega]; rfl
  rw[hidx];simp only[wpOpsIn,ho,CS ht];simp only[iV] at hr
  split at hr
  rename_i hw;rw[QH hw]
  split at hr
  rename_i v m' he
  split at hr
  rename_i t' hp;refine Dh hk s.mr ht he hF ?_;rintro v' w' ⟨j',s',hv⟩;exact kH hk hF h0 ds hQ os (i+1) t' m' j' w' _ hd' hr (s.trans h0 s') ((ht.mono s'.le).put hv hp) (by cases hds':o.dst<;>simp[Act.put,hds])
  cases hr
  cases hr
  rename_i hw;rw[QF hw]
  split at hr
  rename_i t' hp;exact⟨fun f _=>hF.fn f,kH hk hF h0 ds hQ os (i+1) t' m j w _ hd' hr s (ht.put (VR.undef j) hp) (by cases hds':o.dst<;>simp[Act.put,hds])⟩
  cases hr
end
def wW(k:K)(E:Env)(n:Nat)(ops:TW Oper)(i:Nat)(t:Tm)(m:TS)(v:SX)(t':Tm)(m':TS)(note:Note):Prop :=
 ∃o,ops[i]? = some o/\jy n t o.dst v=some t' /\
  ((bQ ops o t=true/\∃r,dR k E t { m with wl:=m.next} o.op=some (v,r)/\m' ={ r with wl:=min m.wl r.wl}/\note ={ read:=aK E t o.op,wl:=r.wl,next:=m.next,wrote:=eu E t o.op,kept:=iJ m r}) \/
   (bQ ops o t=false/\v=undef/\m'=m/\note ={ read:=none,wl:=m.next,next:=m.next,wrote:=none,kept:=fun _=>false}))
structure Tr(k:K)(E:Env)(n:Nat)(ops:TW Oper)(i L:Nat)(T:Nat->Tm)(M:Nat->TS)(V:Nat->SX)(ns:TO Note):Prop where
 len:ns.length=L
 step:∀x,x<L->∃note,ns[x]? = some note/\wW k E n ops (i+x) (T x) (M x) (V x) (T (x+1)) (M (x+1)) note
def Fx{α:Type}(a:α)(f:Nat->α):Nat->α
 | 0=>a
 | x+1=>f x
def xU{k:K}{E:Env}{n:Nat}{ops:TW Oper}:∀(os:TO Oper) (i:Nat) (t:Tm) (m:TS) (tf:Tm) (mf:TS) (ns:TO Note),ops.toList.drop i=os->dz k E n ops os t m=some (tf,mf,ns) ->
  ∃T M V,Tr k E n ops i os.length T M V ns/\T 0=t/\M 0=m/\T os.length=tf/\M os.length=mf
 | [],i,t,m,tf,mf,ns,_,h=>by
  cases h;exact⟨fun _=>t,fun _=>m,fun _=>undef,⟨rfl,fun x hx=>Q1 hx (Nat.not_lt_zero _)⟩,rfl,rfl,rfl,rfl⟩
 | o::os,i,t,m,tf,mf,ns,hd,h=>by
  have ho:ops[i]? = some o:=by
   have:=Rf (·[0]?) hd
   simpa [RL] using this
  have hd':ops.toList.drop (i+1)=os:=by rw[<-Sy,hd]; rfl
  have cons:∀(v:SX) (t1:Tm) (m1:TS) (note:Note) (ns':TO Note),wW k E n ops i t m v t1 m1 note->dz k E n ops os t1 m1=some (tf,mf,ns')->ns=note::ns' ->
    ∃T M V,Tr k E n ops i (os.length+1) T M V ns/\T 0=t/\M 0=m/\T (os.length+1)=tf/\M (os.length+1)=mf:=by
   intro v t1 m1 note ns' hst hr hns;obtain⟨T,M,V,htr,h1,h2,h3,h4⟩:=xU os (i+1) t1 m1 tf mf ns' hd' hr;refine⟨Fx t T,Fx m M,Fx v V,⟨by rw[hns]; simp[htr.len],fun x hx=>?_⟩,rfl,rfl,h3,h4⟩
   cases x with
   | zero =>
    refine⟨note,by rw[hns]; rfl,?_⟩
    show wW k E n ops i t m v (T 0) (M 0) note
    rw[h1,h2]; exact hst
   | succ x =>
    obtain⟨nt,h5,h6⟩:=htr.step x (by omega)
    refine⟨nt,by rw[hns]; simpa using h5,?_⟩
    show wW k E n ops (i+(x+1)) (T x) (M x) (V x) (T (x+1)) (M (x+1)) nt
    rw[show i+(x+1)=i+1+x by omega]; exact h6
  simp only[dz] at h
  split at h
  rename_i hw
  split at h
  rename_i v r he
  split at h
  rename_i t1 hp
  split at h
  rename_i t' m'' ns' hr;cases h;exact cons v t1 _ _ ns' ⟨o,ho,hp,.inl ⟨hw,r,he,rfl,rfl⟩⟩ hr rfl
  cases h
  cases h
  cases h
  rename_i hw
  split at h
  rename_i t1 hp
  split at h
  rename_i t' m'' ns' hr;cases h;exact cons undef t1 m _ ns' ⟨o,ho,hp,.inr ⟨by simpa using hw,rfl,rfl,rfl⟩⟩ hr rfl
  cases h
  cases h
def Sim.M6{E:Env}{j j':aN}{m r:TS}{w w':S5}(s:Sim E j { m with wl:=m.next} w j' r w'):Sim E j m w j' { r with wl:=min m.wl r.wl} w' where
 ext:=⟨s.ext.next,Nat.min_le_left _ _,fun b hb hw=>s.ext.same b hb (QT hw (Nat.min_le_right _ _)),s.ext.dead⟩
 le:=s.le
 new:=s.new
 mr:=s.mr.uH
 size:=s.size
 full:=s.full
 away:=s.away
 fresh:=fun b k h h'=>(s.fresh b k h h').imp id fun⟨b0,k0,a1,a2,a3,a4⟩=>⟨b0,k0,a1,a2,a3,Rc (Nat.min_le_right _ _) a4⟩
 frame:=fun c hc H=>s.frame c hc fun b k hb hl he=>QT (H b k hb hl he) (Nat.min_le_right _ _)
 calm:=s.calm
def aN.below(j:aN)(x:Nat):aN:=fun b=>if b<x then j b else none
def aN.bp{j:aN}{x b:Nat}{k:Blk}:j.below x b=some k↔b<x/\j b=some k:=by
 unfold aN.below
 split
 rename_i h; simp[h]
 rename_i h; simp[h]
def VR.cut{j jc:aN}{x:Nat}(hc:∀b k,jc b=some k->b<x):∀{v v':SX},VR j v v'->∀{u:SX},VR jc v u->VR (j.below x) v v':=by
 intro v v' h
 induction h with
 | junk h=>intro u _; exact .junk h
 | bool b=>intro u _; exact .bool b
 | int k n=>intro u _; exact .int k n
 | string s=>intro u _; exact .string s
 | pnil=>intro u _; exact .pnil
 | ptr h=>intro u hu; cases hu with
  | ptr h'=>exact .ptr (aN.bp.2 ⟨hc _ _ h',h⟩)
 | snil l c=>intro u _; exact .snil l c
 | slice h hm=>intro u hu; cases hu with
  | slice h' _=>exact .slice (aN.bp.2 ⟨hc _ _ h',h⟩) hm
  | sliceM h' _ _ _ _ _=>exact .slice (aN.bp.2 ⟨hc _ _ h',h⟩) hm
 | sliceM h hm h1 h2 hl hcap=>intro u hu; cases hu with
  | slice h' _=>exact .sliceM (aN.bp.2 ⟨hc _ _ h',h⟩) hm h1 h2 hl hcap
  | sliceM h' _ _ _ _ _=>exact .sliceM (aN.bp.2 ⟨hc _ _ h',h⟩) hm h1 h2 hl hcap
 | fU=>intro u _; exact .fU
 | dry=>intro u _; exact .dry
 | mnil=>intro u _; exact .mnil
 | map h=>intro u hu; cases hu with
  | map h'=>exact .map (aN.bp.2 ⟨hc _ _ h',h⟩)
 | func h1 _ h3 _ ih2 ih4=>intro u hu; cases hu with
  | func g1 g2 g3 g4=>exact .func h1 (fun i a b=>ih2 i a b (g2 i a (g1▸a))) h3 (fun i a b=>ih4 i a b (g4 i a (g3▸a)))
 | yield h h1 _ ih2=>intro u hu; cases hu with
  | yield g g1 g2=>exact .yield (aN.bp.2 ⟨hc _ _ g,h⟩) h1 (fun i a b=>ih2 i a b (g2 i a (g1▸a)))
 | nilFunc=>intro u _; exact .nilFunc
 | nilIface=>intro u _; exact .nilIface
 | agg h1 _ ih=>intro u hu; cases hu with
  | agg g1 g2=>exact .agg h1 (fun i a b=>ih i a b (g2 i a (g1▸a)))
 | tuple h1 _ ih=>intro u hu; cases hu with
  | tuple g1 g2=>exact .tuple h1 (fun i a b=>ih i a b (g2 i a (g1▸a)))
def ER.cut{j jc:aN}{x:Nat}(hc:∀b k,jc b=some k->b<x):∀{es:TO (SX×SX)} {fs gs:TO MapEntry},ER j es fs->ER jc es gs->ER (j.below x) es fs
 | [],[],_,_,_=>trivial
 | _::_,_::_,_::_,h,g=>⟨h.1.cut hc g.1,h.2.1.cut hc g.2.1,ER.cut hc h.2.2 g.2.2⟩
 | [],_::_,_,h,_=>h.elim
 | _::_,[],_,h,_=>h.elim
 | _::_,_::_,[],_,g=>g.elim
def OR.cut{j jc:aN}{x:Nat}(hc:∀b k,jc b=some k->b<x){k k':Blk}{o:TU}{o1 o2:Obj}(h:OR j k o o1)(g:OR jc k' o o2):OR (j.below x) k o o1:=by
 cases o with
 | cells cs tag =>
  cases o1 with
  | cells c e fz =>
   cases o2 with
   | cells c2 e2 fz2 =>
    refine⟨h.1,fun i v hi=>?_⟩;obtain⟨v',a,b⟩:=h.2 i v hi;obtain⟨u,_,b2⟩:=g.2 i v hi;exact⟨v',a,b.cut hc b2⟩
   | _=>exact g.elim
  | _=>exact h.elim
 | map es =>
  cases o1 with
  | map c e =>
   cases o2 with
   | map c2 e2=>exact⟨ER.cut hc h.1 g.1,h.2⟩
   | _=>exact g.elim
  | _=>exact h.elim
 | loop r =>
  cases o1 with
  | loop r1 =>
   cases o2 with
   | loop r2 =>
    refine⟨h.1,h.2.1,h.2.2.1,h.2.2.2.1,h.2.2.2.2.1,h.2.2.2.2.2.1,fun i=>?_⟩;exact(h.2.2.2.2.2.2 i).cut hc (g.2.2.2.2.2.2 i)
   | _=>exact g.elim
  | _=>exact h.elim
def eZ{E:Env}{t t':Tm}:∀{xs:TO SZ},(∀x∈xs,an E t x=an E t' x)->bq E t xs=bq E t' xs
 | [],_=>rfl
 | x::xs,h=>by
  simp only[bq];rw[h x (by simp),eZ fun y hy=>h y (by simp[hy])]
def gV{E:Env}{t t':Tm}:∀{xs:TO (Nat×SZ)},(∀x∈xs,an E t x.2=an E t' x.2)->dU E t xs=dU E t' xs
 | [],_=>rfl
 |(i,x)::xs,h=>by
  simp only[dU];rw[h (i,x) (by simp),gV fun y hy=>h y (by simp[hy])]
def ko{E:Env}{t t':Tm}{x:TN SZ}(h:∀y,x=some y->an E t y=an E t' y):dF E t x=dF E t' x:=by
 cases x with
 | none=>rfl
 | some y=>simp only[dF,h y rfl]
def pB{E:Env}{t t':Tm}{m:TS}{o:Op}(h:∀x∈o.operands.toList,an E t x=an E t' x):eS E t m o=eS E t' m o:=by
 cases o<;>simp only[Op.operands] at h<;>simp only[eS]
 case build ty ps=>rw[gV fun x hx=>h x.2 (by simp; exact⟨x.1,by simpa using hx⟩)]
 case buildSlice ty n ps=>rw[gV fun x hx=>h x.2 (by simp; exact⟨x.1,by simpa using hx⟩)]
 case makeFunc fn first captured =>
  cases fn<;>simp only;rw[eZ (xs:=first.toList) fun x hx=>h x (by simp at hx ⊢; exact .inl hx),eZ (xs:=captured.toList) fun x hx=>h x (by simp at hx ⊢; exact .inr hx)]
 case makeMap ty r=>cases r<;>rfl
 case slice ty x lo hi mx =>
  rw[h x (by simp),ko (x:=lo) fun y hy=>h y (by simp[hy]),ko (x:=hi) fun y hy=>h y (by simp[hy]),ko (x:=mx) fun y hy=>h y (by simp[hy])]
 case call c =>
  cases hc:c.callee<;>simp only;rw[eZ (xs:=c.args.toList) fun x hx=>h x (by simp[Call.operands,hc]; simpa using hx)]
 all_goals first|rfl |(simp_all; done)
def xB{k:K}{E:Env}{t t':Tm}{m:TS}{o:Op}(h:∀x∈o.operands.toList,an E t x=an E t' x):dR k E t m o=dR k E t' m o:=by
 have hop:=pB (m:=m) h;unfold dR;cases o with
 | call c =>
  simp only;cases hc:c.callee with
  | value f =>
   simp only;rw[h f (by simp[Op.operands,Call.operands,hc]),eZ (xs:=c.args.toList) fun x hx=>h x (by simp[Op.operands,Call.operands,hc]; exact .inr (by simpa using hx))]
  | _=>exact hop
 | _=>exact hop
def qu(t:Tm):TO Tmp->Tm
 | []=>.nil
 | d::ds=>(qu t ds).set d (t.at d)
def lS(t:Tm):∀(S:TO Tmp) (d:Nat),(qu t S).at d=if d∈S then t.at d else undef
 | [],d=>by simp[qu,Tm.at,Trie.get_nil]
 | x::S,d=>by
  have ih:=lS t S d;simp only[Tm.at] at ih;simp only[qu,Tm.at,Trie.bl]
  by_cases h:d=x
  simp[h]
  simp only[QY,h,false_or]; exact ih
def kQ(tm:TW SX)(S:TO Tmp):TW SX:=(Array.range tm.size).map fun d=>if d∈S then tm.getD d undef else undef
def ky(tm:TW SX)(S:TO Tmp)(d:Nat):(kQ tm S).getD d undef=if d∈S then tm.getD d undef else undef:=by
 unfold kQ
 by_cases h:d<tm.size
 simp[h]
 have:tm.getD d undef=undef:=by simp[h]
 simp[h]
def iP:∀{l:TO SZ} {d:Tmp},d∈tmpsOf l↔Operand.tmp d∈l
 | [],d=>by simp[tmpsOf]
 | x::l,d=>by
  have ih:=iP (l:=l) (d:=d);cases x<;>simp[tmpsOf,ih]
def zu{k:K}{E:Env}(hk:∀tk r,k tk=some r->cG E tk r){j:aN}{m:TS}{w:S5}{t:Tm}{a:Act}(h:MR E j m w){o:Oper}(ht:∀d∈tmpsOf o.op.operands.toList,VR j (t.at d) (a.tmps.getD d undef)){v:SX}{m':TS}
  (e:dR k E t m o.op=some (v,m')):Does E.P (execOp a.eval o) w (iC E j m w v m'):=by
 have hT:TR (kQ a.tmps (tmpsOf o.op.operands.toList)).size j (qu t (tmpsOf o.op.operands.toList)) ({ tmps:=kQ a.tmps (tmpsOf o.op.operands.toList),defers:=a.defers}:Act).tmps:=by
  refine⟨rfl,fun d=>?_⟩
  show VR j _ ((kQ a.tmps _).getD d undef)
  rw[lS,ky]
  split
  rename_i hd; exact ht d hd
  exact VR.undef j
 have hev:∀x∈o.op.operands.toList,an E (qu t (tmpsOf o.op.operands.toList)) x=an E t x:=by
  intro x hx;cases x with
  | tmp d=>simp only[an,lS,QH (iP.2 hx)]
  | _=>rfl
 have hd:=lp hk h hT (o:=o) (v:=v) (m':=m') ((xB hev).trans e);have hex:execOp ({ tmps:=kQ a.tmps (tmpsOf o.op.operands.toList),defers:=a.defers}:Act).eval o=execOp a.eval o:=by
  refine execOp_congr o (fun cs b hs=>?_) fun x hx=>?_
  rw[hs] at e; simp[dR,eS] at e
  ·cases x with
   | tmp d =>
    show(kQ a.tmps _).getD d undef=a.tmps.getD d undef
    rw[ky,QH (iP.2 (by simpa using hx))]
   | _=>rfl
 rw[hex] at hd;exact hd
end Go.Ab
