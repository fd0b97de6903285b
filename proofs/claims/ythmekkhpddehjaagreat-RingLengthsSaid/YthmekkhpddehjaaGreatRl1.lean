/- A part of the proof. -/
import Derived.RangeFuncRecord
import Derived.RangeFuncLeaves
import Derived.Laws.Cells
import Derived.Laws.Entries
import Derived.Laws.StructEq
import Derived.IntWalk
import Derived.OrdersIn
import Derived.LeavingIn
set_option linter.all false
universe u
abbrev SA:=@Option
abbrev SB:=@List
abbrev SC:=Unit
abbrev SD:=@Array
abbrev Pb:=@if_neg
abbrev Pd:=@Nat.le_refl
abbrev Pe:=@Bool.and_eq_true
abbrev Pf:=@Option.some.inj
abbrev Pg:=@Int.toNat_natCast
abbrev Ph:=@if_pos
abbrev Pj:=@Option.map_some
abbrev Pk:=@List.length_map
abbrev Pl:=@List.getElem?_eq_getElem
abbrev Pm:=@List.length_append
abbrev Pn:=@Nat.lt_of_lt_of_le
abbrev Po:=@decide_eq_true
abbrev Pp:=@List.mem_cons
abbrev Pq:=@List.getD_eq_getElem?_getD
abbrev Pr:=@List.all_eq_true
abbrev Ps:=@congrArg
abbrev Pt:=@Nat.le_of_ble_eq_true
abbrev Pu:=@Bool.false_eq_true
abbrev Pv:=@decide_eq_true_eq
abbrev Pw:=@Decidable.byContradiction
abbrev Px:=@Array.getElem?_eq_some_iff
abbrev Py:=@Nat.eq_of_beq_eq_true
abbrev Pz:=@absurd
abbrev PA:=@List.getElem?_append_right
abbrev PB:=@Nat.le_trans
abbrev PC:=@List.pairwise_cons
abbrev PD:=@List.length_cons
abbrev PE:=@Bool.not_true
abbrev PF:=@List.getElem?_cons_zero
abbrev PG:=@Nat.ble_eq_true_of_le
abbrev PH:=@List.getElem?_toArray
abbrev PI:=@Option.bind_some
abbrev PJ:=@Nat.mod_eq_of_lt
abbrev PK:=@Nat.le_mul_of_pos_right
abbrev PL:=@decide_eq_false
abbrev PM:=@List.mem_singleton
abbrev PN:=@List.getElem?_eq_some_iff
abbrev PO:=@List.mem_of_getElem?
abbrev PQ:=@Bool.not_false
abbrev PR:=@List.getElem?_append_left
abbrev PS:=@List.map_cons
abbrev PT:=@List.getElem?_cons_succ
abbrev PU:=@List.append_nil
abbrev PV:=@Nat.zero_add
abbrev PW:=@Nat.lt_or_ge
abbrev PX:=@List.mem_append
abbrev PY:=@List.getElem?_map
abbrev PZ:=@Bool.false_ne_true
abbrev P0:=@List.mem_cons_of_mem
abbrev P1:=@List.flatten_cons
abbrev P3:=@Nat.mul_pos
abbrev P4:=@Nat.le_mul_of_pos_left
abbrev P5:=@List.mem_cons_self
abbrev P6:=@List.mem_map
abbrev P7:=@List.nil_append
abbrev P8:=@Int.natCast_mul
abbrev P9:=@Nat.mod_lt
abbrev Qa:=@List.length_eq_zero_iff
abbrev Qb:=@List.cons_append
abbrev Qc:=@Bool.and_self
abbrev Qd:=@Nat.mul_le_mul_right
abbrev Qe:=@Bool.not_eq_true'
abbrev Qf:=@Nat.zero_le
abbrev Qg:=@Nat.pos_of_ne_zero
abbrev Qh:=@Nat.add_zero
abbrev Qi:=@List.length_singleton
abbrev Qj:=@List.length_take
abbrev Qk:=@List.getElem_mem
abbrev Ql:=@Array.toList_inj
abbrev Qm:=@Nat.mul_comm
abbrev Qn:=@Int.toNat_of_nonneg
abbrev Qo:=@Bool.or_eq_true
abbrev Qp:=@Bool.decide_and
abbrev Qq:=@List.all_cons
abbrev Qr:=@Nat.sub_zero
abbrev Qs:=@List.length_set
abbrev Qt:=@Int.tdiv
abbrev Qu:=@Int.mul_eq_zero
abbrev Qv:=@Nat.eq_zero_of_zero_dvd
abbrev Qw:=@Nat.mul_le_mul
abbrev Qx:=@Nat.add_mul
abbrev Qy:=@Int.mul_nonneg
abbrev Qz:=@List.nodup_cons
abbrev QA:=@Nat.ne_of_beq_eq_false
abbrev QB:=@Nat.blt_eq
abbrev QC:=@List.eq_nil_of_length_eq_zero
abbrev QD:=@Classical.choose_spec
abbrev QE:=@Nat.mul_assoc
abbrev QF:=@Nat.dvd_trans
abbrev QG:=@List.mem_range
abbrev QH:=@List.eq_of_mem_replicate
abbrev QI:=@Nat.succ_mul
abbrev QJ:=@Nat.pow_succ
abbrev QK:=@List.getElem?_drop
abbrev QL:=@Nat.lt_succ_self
abbrev QM:=@List.getElem?_set_ne
abbrev QN:=@Int.ofNat_eq_natCast
abbrev QO:=@Nat.zero_mul
abbrev QP:=@Nat.sub_self
abbrev QQ:=@Nat.dvd_mul_right
abbrev QR:=@List.getElem?_set_self
abbrev QS:=@List.length_pos_iff
abbrev QT:=@Array.length_toList
abbrev QU:=@List.length_nil
abbrev QV:=@Nat.le_max_right
abbrev QW:=@List.getElem!_eq_getElem?_getD
abbrev QX:=@Int.nonneg_of_mul_nonneg_right
abbrev QY:=@Prod.ext
abbrev QZ:=@List.mem_of_mem_take
abbrev Q0:=@List.mem_iff_getElem
abbrev Q1:=@Int.mul_pos
abbrev Q2:=@Nat.mul_left_comm
abbrev Q3:=@List.getElem?_replicate
abbrev Q4:=@List.ext_getElem?
abbrev Q5:=@Nat.le_max_left
abbrev Q6:=@Nat.div_add_mod
abbrev Q7:=@Nat.mul_le_mul_left
abbrev Q8:=@List.replicate_succ
abbrev Q9:=@List.getD_cons_succ
abbrev Ra:=@List.take_of_length_le
abbrev Rb:=@Bool.true_or
abbrev Rc:=@Bool.or_true
abbrev Re:=@Nat.add_assoc
abbrev Rf:=@List.drop_length
abbrev Rg:=@Nat.add_sub_cancel
abbrev Rh:=@List.getElem?_take
abbrev Ri:=@List.drop_drop
abbrev Rj:=@Option.any_some
abbrev Rk:=@Nat.min_eq_left
abbrev Rl:=@List.map_append
abbrev Rm:=@Nat.mul_add
abbrev Ro:=@Nat.le_of_eq
abbrev Rp:=@Nat.Coprime
abbrev Rq:=SB (SB Int×SB (SB Int))
abbrev Rr:=Int×Int×Int×Int
abbrev Rs:=SB (Int×Int)
abbrev Rt:=SB (SB Int)
abbrev Rw:=Nat->Prop
def RE{c:Prop}{h0:Decidable c}{α:Sort u}{t e:α}(h:¬c:=by omega):ite c t e=e:=if_neg h
def RF{c:Prop}{h0:Decidable c}{α:Sort u}{t e:α}(h:c:=by omega):ite c t e=t:=if_pos h
section
open Go
abbrev SE:=@Result.andThen_ok
abbrev SG:=@Sem.run_bind
abbrev SH:=@Sem.run_pure
abbrev SI:=@run_underlying
abbrev SJ:=FuncId
abbrev Ru:=SB (SB Value)
abbrev Rv:=SA Addr
abbrev Rx:=Value
abbrev Ry:=TypeId
abbrev Rz:=Operand
abbrev RA:=Program
abbrev RB:=World
abbrev RC:=IntKind.wrap .i64
abbrev RD:Nat:=(0:Int).toNat
end
namespace Go.Ab
open Go
structure F8(α:Type) where
 a:α
 b:α
 c:α
 d:α
 e:α
 f:α
 g:α
 h:α
def F8.all{α:Type}(x:α):F8 α:=⟨x,x,x,x,x,x,x,x⟩
def F8.Gw{α:Type}(x:F8 α)(i:Nat):α :=
 match i with
 | 0=>x.a
 | 1=>x.b
 | 2=>x.c
 | 3=>x.d
 | 4=>x.e
 | 5=>x.f
 | 6=>x.g
 | _=>x.h
def F8.put{α:Type}(x:F8 α)(i:Nat)(v:α):F8 α :=
 match i with
 | 0=>{ x with a:=v}
 | 1=>{ x with b:=v}
 | 2=>{ x with c:=v}
 | 3=>{ x with d:=v}
 | 4=>{ x with e:=v}
 | 5=>{ x with f:=v}
 | 6=>{ x with g:=v}
 | _=>{ x with h:=v}
def F8.BH{α:Type}(x:F8 α)(i j:Nat)(v:α)(hi:i<8)(hj:j<8):(x.put i v).Gw j=if j=i then v else x.Gw j:=by
 have h1:i=0\/i=1\/i=2\/i=3\/i=4\/i=5\/i=6\/i=7:=by omega
 have h2:j=0\/j=1\/j=2\/j=3\/j=4\/j=5\/j=6\/j=7:=by omega
 rcases h1 with rfl|rfl|rfl|rfl|rfl|rfl|rfl|rfl<;>rcases h2 with rfl|rfl|rfl|rfl|rfl|rfl|rfl|rfl<;>rfl
def F8.p5{α:Type}(x:α)(i:Nat):(F8.all x).Gw i=x:=by
 unfold F8.Gw F8.all; split<;>rfl
def F8.getM{M β:Type}(sz:Nat)(g:M->Nat->β)(x:F8 M)(i:Nat):β:=g (x.Gw (i/sz)) (i%sz)
def F8.CK{M β:Type}(sz:Nat)(s:M->Nat->β->M)(x:F8 M)(i:Nat)(v:β):F8 M:=x.put (i/sz) (s (x.Gw (i/sz)) (i%sz) v)
def F8.kY{M β:Type}{sz:Nat}{g:M->Nat->β}{s:M->Nat->β->M}(hsz:0<sz)(hl:∀m i j v,i<sz->j<sz->g (s m i v) j=if j=i then v else g m j)(x:F8 M)(i j:Nat)(v:β)(hi:i<8*sz)(hj:j<8*sz) :
  F8.getM sz g (F8.CK sz s x i v) j=if j=i then v else F8.getM sz g x j:=by
 have h1:i/sz<8:=(Nat.div_lt_iff_lt_mul hsz).2 hi;have h2:j/sz<8:=(Nat.div_lt_iff_lt_mul hsz).2 hj;unfold F8.getM F8.CK;rw[F8.BH _ _ _ _ h1 h2];have e1:=Q6 i sz;have e2:=Q6 j sz
 by_cases h:j/sz=i/sz
 rw[Ph h,hl _ _ _ _ (P9 _ hsz) (P9 _ hsz)]
 by_cases h':j%sz=i%sz
 have:j=i:=by rw[<-e1,<-e2,h,h']
 rw[Ph h',Ph this]
 have:j≠i:=fun e=>h' (by rw[e])
 rw[Pb h',Pb this,h]
 have:j≠i:=fun e=>h (by rw[e])
 rw[Pb h,Pb this]
abbrev AL(α:Type):=F8 (F8 α)
abbrev zH(α:Type):=F8 (AL α)
abbrev tN(α:Type):=F8 (zH α)
abbrev oq(α:Type):=F8 (tN α)
def yr{α:Type}:AL α->Nat->α:=F8.getM 8 F8.Gw
def oI{α:Type}:zH α->Nat->α:=F8.getM 64 yr
def mX{α:Type}:tN α->Nat->α:=F8.getM 512 oI
def kI{α:Type}:oq α->Nat->α:=F8.getM 4096 mX
def EU{α:Type}:AL α->Nat->α->AL α:=F8.CK 8 F8.put
def we{α:Type}:zH α->Nat->α->zH α:=F8.CK 64 EU
def vw{α:Type}:tN α->Nat->α->tN α:=F8.CK 512 we
def w6{α:Type}:oq α->Nat->α->oq α:=F8.CK 4096 vw
def Cp{α:Type}(x:AL α)(i j:Nat)(v:α)(hi:i<64)(hj:j<64):yr (EU x i v) j=if j=i then v else yr x j :=
 F8.kY (by omega) (fun m i j v hi hj=>F8.BH m i j v hi hj) x i j v (by omega) (by omega)
def qj{α:Type}(x:zH α)(i j:Nat)(v:α)(hi:i<512)(hj:j<512):oI (we x i v) j=if j=i then v else oI x j :=
 F8.kY (by omega) (fun m i j v hi hj=>Cp m i j v hi hj) x i j v (by omega) (by omega)
def yb{α:Type}(x:tN α)(i j:Nat)(v:α)(hi:i<4096)(hj:j<4096):mX (vw x i v) j=if j=i then v else mX x j :=
 F8.kY (by omega) (fun m i j v hi hj=>qj m i j v hi hj) x i j v (by omega) (by omega)
def vG{α:Type}(x:oq α)(i j:Nat)(v:α)(hi:i<32768)(hj:j<32768):kI (w6 x i v) j=if j=i then v else kI x j :=
 F8.kY (by omega) (fun m i j v hi hj=>yb m i j v hi hj) x i j v (by omega) (by omega)
def Gr{α:Type}(x:α):AL α:=F8.all (F8.all x)
def uS{α:Type}(x:α):zH α:=F8.all (Gr x)
def uB{α:Type}(x:α):tN α:=F8.all (uS x)
def qw{α:Type}(x:α):oq α:=F8.all (uB x)
def BW{α:Type}(x:α)(i:Nat):yr (Gr x) i=x:=by simp[yr,Gr,F8.getM,F8.p5]
def rI{α:Type}(x:α)(i:Nat):oI (uS x) i=x:=by simp[oI,uS,F8.getM,F8.p5,BW]
def wE{α:Type}(x:α)(i:Nat):mX (uB x) i=x:=by simp[mX,uB,F8.getM,F8.p5,rI]
def vm{α:Type}(x:α)(i:Nat):kI (qw x) i=x:=by simp[kI,qw,F8.getM,F8.p5,wE]
def AU{α:Type}:SB (Nat×α)->Nat->SA α
 | [],_=>none
 |(i,v)::l,j=>if j=i then some v else AU l j
structure Trie(α:Type) where
 lo:zH (SA α)
 hi:SB (Nat×α)
def Trie.nil{α:Type}:Trie α:=⟨uS none,[]⟩
def Trie.get{α:Type}(t:Trie α)(n:Nat):SA α:=if n<512 then oI t.lo n else AU t.hi n
def Trie.set{α:Type}(t:Trie α)(n:Nat)(v:α):Trie α:=if n<512 then{ t with lo:=we t.lo n (some v)} else{ t with hi:=(n,v)::t.hi}
def Trie.get_nil{α:Type}(n:Nat):(Trie.nil:Trie α).get n=none:=by
 unfold Trie.get Trie.nil
 split
 exact rI _ _
 rfl
def Trie.bL{α:Type}(t:Trie α)(n m:Nat)(v:α):(t.set n v).get m=if m=n then some v else t.get m:=by
 unfold Trie.set Trie.get
 by_cases h1:n<512<;>by_cases h2:m<512<;>simp only[h1,h2,if_true,if_false]
 rw[qj _ _ _ _ h1 h2]
 rw[RE]
 rw[RE]
 rfl
structure Heap(α:Type) where
 lo:oq (SA α)
 hi:SB (Nat×α)
def Heap.nil{α:Type}:Heap α:=⟨qw none,[]⟩
def Heap.get{α:Type}(t:Heap α)(n:Nat):SA α:=if n<32768 then kI t.lo n else AU t.hi n
def Heap.set{α:Type}(t:Heap α)(n:Nat)(v:α):Heap α:=if n<32768 then{ t with lo:=w6 t.lo n (some v)} else{ t with hi:=(n,v)::t.hi}
def Heap.get_nil{α:Type}(n:Nat):(Heap.nil:Heap α).get n=none:=by
 unfold Heap.get Heap.nil
 split
 exact vm _ _
 rfl
def Heap.bL{α:Type}(t:Heap α)(n m:Nat)(v:α):(t.set n v).get m=if m=n then some v else t.get m:=by
 unfold Heap.set Heap.get
 by_cases h1:n<32768<;>by_cases h2:m<32768<;>simp only[h1,h2,if_true,if_false]
 rw[vG _ _ _ _ h1 h2]
 rw[RE]
 rw[RE]
 rfl
def Trie.ofList{α:Type}:SB α->Nat->Trie α->Trie α
 | [],_,t=>t
 | v::vs,i,t=>Trie.ofList vs (i+1) (t.set i v)
abbrev Tm:=Trie Rx
def Tm.at(t:Tm)(i:Nat):Rx:=(Trie.get t i).getD undef
inductive Tag where
 | ro
 | own
 | more (sz:Nat)
 deriving DecidableEq
structure ALoop where
 state:LoopState
 pending:SA Code
 fn:SJ
 tmps:Tm
 n:Nat
 params:SD Tmp
 assign:Code
 body:Code
inductive St where
 | cells (cs:SB Rx) (tag:Tag)
 | map (es:SB (Rx×Rx))
 | loop (r:ALoop)
structure Sr where
 next:Nat
 wl:Nat
 objs:Heap (SA St)
 base:Nat->SA St
def Sr.get(m:Sr)(b:Nat):SA St :=
 match m.objs.get b with
 | some x=>x
 | none=>m.base b
def Sr.set(m:Sr)(b:Nat)(o:St):Sr:={ m with objs:=m.objs.set b (some o),wl:=min m.wl b}
def Sr.kill(m:Sr)(b:Nat):Sr:={ m with objs:=m.objs.set b none,wl:=min m.wl b}
def Sr.alloc(m:Sr)(o:St):Sr:={ m with next:=m.next+1,objs:=m.objs.set m.next (some o)}
def ptr(b:Nat)(o:Nat):Rx:=.pointer (some ⟨b,o,none⟩)
def Sr.cells(m:Sr)(b:Nat):SA (SB Rx×Tag) :=
 match m.get b with
 | some (.cells cs tag)=>some (cs,tag)
 | _=>none
def Sr.dq(m:Sr)(b o n:Nat):SA (SB Rx) :=
 match m.get b with
 | some (.cells cs _)=>let l:=(cs.drop o).take n; if l.length=n then some l else none
 | _=>none
def aT:SB Rx->Nat->SB Rx->SB Rx
 | cs,0,[]=>cs
 | [],0,_=>[]
 | _::cs,0,v::vs=>v::aT cs 0 vs
 | [],_+1,_=>[]
 | c::cs,o+1,vs=>c::aT cs o vs
def Sr.cE(m:Sr)(b o:Nat)(vs:SB Rx):SA Sr :=
 match vs with
 | []=>some m
 | _=>match m.get b with
  | some (.cells _ .ro)=>none
  | some (.cells cs tag)=>if o+vs.length<=cs.length then some (m.set b (.cells (aT cs o vs) tag)) else none
  | _=>none
def k9:Rx->Bool
 | .agg _|.tuple _=>false
 | _=>true
def bg(vs:SB Rx):Bool:=vs.all k9
structure Prim where
 run:SB Rx->Sr->SA (Rx×Sr)
structure Env where
 P:RA
 glob:Nat
 cM:SJ->SA Prim
 mono:Prop:=True
def aR:Rx->Bool
 | .bool _|.int _ _|.string _|.pointer none|.slice none _ _|.map none|.nilFunc|.nilIface=>true
 | _=>false
def bF:Rx->Bool
 | .agg cs=>cs.toList.all aR
 | .tuple cs=>cs.toList.all aR
 | v=>aR v
def aB(E:Env)(t:Tm):Rz->SA Rx
 | .tmp i=>some (t.at i)
 | .const v=>if bF v then some v else none
 | .global g=>if g<E.glob then some (ptr g 0) else none
 | .func f=>some (.func (.func f) #[] #[])
def bA(E:Env)(t:Tm):SB Rz->SA (SB Rx)
 | []=>some []
 | x::xs=>match aB E t x,bA E t xs with
  | some v,some vs=>some (v::vs)
  | _,_=>none
def dK(P:RA)(t:Ry):Bool :=
 match P.underlying t with
 | some (.struct _)|some (.array _ _)=>true
 | _=>false
def known(P:RA)(t:Ry):Bool:=(P.underlying t).isSome &&(P.info? t).isSome
def aE(P:RA)(t:Ry):Nat:=P.cellsOf t
def bK(P:RA)(t:Ry):SA Rx:=(P.info? t).bind (·.zero)
def eQ(P:RA)(t:Ry)(cs:SD Rx)(off:Nat):SA Rx :=
 if !known P t then none else
 if dK P t then some (.agg (cs.extract off (off+aE P t)))
 else cs[off]?
def gV(eq:Ry->Rx->Rx->SA Bool)(P:RA)(xs ys:SD Rx):SB (Ry×Nat)->SA Bool
 | []=>some true
 | (t,off)::rest =>
  match eQ P t xs off,eQ P t ys off with
  | some x,some y=>match eq t x y with
   | some true=>gV eq P xs ys rest
   | r=>r
  | _,_=>none
def iY(P:RA):Nat->Ry->Rx->Rx->SA Bool
 | 0,_,_,_=>none
 | d+1,t,x,y =>
  match P.underlying t,x,y with
  | some .bool,.bool a,.bool b=>some (a==b)
  | some (.int _),.int k a,.int k' b=>if k=k' then some (a==b) else none
  | some .string,.string a,.string b=>some (a==b)
  | some (.pointer _),.pointer none,.pointer b=>some b.isNone
  | some (.pointer _),.pointer (some _),.pointer none=>some false
  | some (.slice _),.slice none _ _,.slice b _ _=>some b.isNone
  | some (.slice _),.slice (some _) _ _,.slice none _ _=>some false
  | some (.map _ _),.map none,.map b=>some b.isNone
  | some (.map _ _),.map (some _),.map none=>some false
  | some (.func _ _ _),.nilFunc,.nilFunc=>some true
  | some (.func _ _ _),.nilFunc,.func _ _ _=>some false
  | some (.func _ _ _),.func _ _ _,.nilFunc=>some false
  | some (.struct fs),.agg xs,.agg ys =>
   if P.stoodInHeld t || fs.any (·.name == "_") then none else
   gV (iY P d) P xs ys (fs.toList.map fun f=>(f.type,f.offset))
  | some (.array len elem),.agg xs,.agg ys=>if known P elem then gV (iY P d) P xs ys ((List.range len).map fun i=>(elem,i*aE P elem)) else none
  | _,_,_=>none
def bU(op:BinOp)(xType:Ry)(P:RA)(x y:Rx):SA Rx :=
 match op,x,y with
 | .shl,.int k a,.int _ b=>if b<0 then none else some (.int k (k.wrap (a*2 ^ (min b.toNat k.bits))))
 | .shr,.int k a,.int _ b=>if b<0 then none else some (.int k (a.fdiv (2 ^ (min b.toNat k.bits))))
 | .eql,.int k a,.int k' b=>if k=k' then some (.bool (a==b)) else none
 | .neq,.int k a,.int k' b=>if k=k' then some (.bool (a != b)) else none
 | .lss,.int k a,.int k' b=>if k=k' then some (.bool (decide (a<b))) else none
 | .leq,.int k a,.int k' b=>if k=k' then some (.bool (decide (a<=b))) else none
 | .gtr,.int k a,.int k' b=>if k=k' then some (.bool (decide (a>b))) else none
 | .geq,.int k a,.int k' b=>if k=k' then some (.bool (decide (a≥b))) else none
 | .add,.int k a,.int k' b=>if k=k' then some (.int k (k.wrap (a+b))) else none
 | .sub,.int k a,.int k' b=>if k=k' then some (.int k (k.wrap (a-b))) else none
 | .mul,.int k a,.int k' b=>if k=k' then some (.int k (k.wrap (a*b))) else none
 | .quo,.int k a,.int k' b=>if k=k' then(if b=0 then none else some (.int k (k.wrap (a.tdiv b)))) else none
 | .rem,.int k a,.int k' b=>if k=k' then(if b=0 then none else some (.int k (a.tmod b))) else none
 | .and,.int k a,.int k' b=>if k=k' then some (.int k (k.wrap (BitVec.ofInt k.bits a &&& BitVec.ofInt k.bits b).toNat)) else none
 | .or,.int k a,.int k' b=>if k=k' then some (.int k (k.wrap (BitVec.ofInt k.bits a ||| BitVec.ofInt k.bits b).toNat)) else none
 | .xor,.int k a,.int k' b=>if k=k' then some (.int k (k.wrap (BitVec.ofInt k.bits a ^^^ BitVec.ofInt k.bits b).toNat)) else none
 | .andNot,.int k a,.int k' b=>if k=k' then some (.int k (k.wrap (BitVec.ofInt k.bits a &&& ~~~ BitVec.ofInt k.bits b).toNat)) else none
 | .eql,.string a,.string b=>some (.bool (a==b))
 | .neq,.string a,.string b=>some (.bool (a != b))
 | _,.string _,_=>none
 | .eql,.agg xs,.agg ys=>if P.eqGuardType P.depth xType then none else(iY P Op.maxDepth xType (.agg xs) (.agg ys)).map .bool
 | .neq,.agg xs,.agg ys=>if P.eqGuardType P.depth xType then none else(iY P Op.maxDepth xType (.agg xs) (.agg ys)).map fun b=>.bool (!b)
 | .eql,x,y=>match x with
  | .bool _|.pointer _|.slice _ _ _|.map _|.func _ _ _|.nilFunc=>(iY P Op.maxDepth xType x y).map .bool
  | _=>none
 | .neq,x,y=>match x with
  | .bool _|.pointer _|.slice _ _ _|.map _|.func _ _ _|.nilFunc=>(iY P Op.maxDepth xType x y).map fun b=>.bool (!b)
  | _=>none
 | _,_,_=>none
def yO(op:UnOp)(x:Rx):SA Rx :=
 match op,x with
 | .neg,.int k n=>some (.int k (k.wrap (0-n)))
 | .xor,.int k n=>some (.int k (k.wrap (BitVec.ofInt k.bits (if k.signed then -1 else k.max) ^^^ BitVec.ofInt k.bits n).toNat))
 | .not,.bool b=>some (.bool !b)
 | _,_=>none
def fO(P:RA)(src dst:Ry)(x:Rx):SA Rx :=
 match P.underlying src,P.underlying dst,x with
 | some _,some (.int k),.int _ n=>some (.int k (k.wrap n))
 | some _,some .string,.string s=>some (.string s)
 | _,_,_=>none
def gI(place:Nat->SA (Nat×Nat))(cells:SB Rx):SB (Nat×Rx)->SA (SB Rx)
 | []=>some cells
 | (i,v)::rest =>
  match place i with
  | none=>none
  | some (off,size) =>
   if v.cells.size≠size||off+v.cells.size>cells.length then none
   else gI place (aT cells off v.cells.toList) rest
def dg(E:Env)(t:Tm):SB (Nat×Rz)->SA (SB (Nat×Rx))
 | []=>some []
 |(i,x)::xs=>match aB E t x,dg E t xs with
  | some v,some vs=>some ((i,v)::vs)
  | _,_=>none
def jC(P:RA)(t:Ry)(parts:SB (Nat×Rx)):SA Rx :=
 match bK P t,P.underlying t with
 | some z,some (.struct fields) =>
  if fields.toList.all (fun f=>known P f.type) then
   (gI (fun i=>(fields[i]?).map fun f=>(f.offset,aE P f.type)) z.cells.toList parts).map fun cs=>.agg cs.toArray
  else none
 | some z,some (.array _ elem) =>
  if known P elem then(gI (fun i=>some (i*aE P elem,aE P elem)) z.cells.toList parts).map fun cs=>.agg cs.toArray else none
 | _,_=>none
def ct(zero:SB Rx):Nat->SB Rx
 | 0=>[]
 | n+1=>zero++ct zero n
def eK(P:RA)(elem:Ry)(n:Nat):SA (SB Rx) :=
 match bK P elem with
 | some z=>if z.cells.size=aE P elem then some (ct z.cells.toList n) else none
 | none=>none
def jO(x:Rx)(y:Nat):SA Nat :=
 match x with
 | .int _ i=>if 0<=i/\i<=y then some i.toNat else none
 | _=>none
def dN(len cap:Nat)(low high max:SA Rx):SA (Nat×Nat×Nat) :=
 match(match max with|some v=>jO v cap|none=>some cap) with
 | none=>none
 | some m =>
  match(match high,max with|some v,_=>jO v m|none,none=>some len|none,some _=>none) with
  | none=>none
  | some h =>
   match(match low with|some v=>jO v h|none=>some 0) with
   | none=>none
   | some l=>some (l,h,m)
def gJ(b:Nat):Rx:=.slice (some ⟨b,0,some 0⟩) 0 0
def dz(E:Env)(t:Tm):SA Rz->SA (SA Rx)
 | none=>some none
 | some x=>(aB E t x).map some
def cj(P:RA)(xType:Ry)(x:Rx)(low high max:SA Rx)(m:Sr):SA Rx :=
 match P.underlying xType,x with
 | some (.slice elem),.slice none len cap =>
  if known P elem then
   match dN len cap low high max with
   | some (l,h,mx)=>some (.slice none (h-l) (mx-l))
   | none=>none
  else none
 | some (.slice elem),.slice (some ⟨b,o,none⟩) len cap =>
  if known P elem then
   match m.get b with
   | some (.cells _ (.more sz)) =>
    if sz≠aE P elem then none else
    match max with
    | none=>match dN len cap low high none with
     | some (l,h,_)=>if cap=l then some (gJ b) else some (.slice (some ⟨b,o+l*aE P elem,none⟩) (h-l) (cap-l))
     | none=>none
    | some mv =>
     match dN len cap low high (some mv) with
     | some (l,h,mx)=>if mx=l/\h=l then some (.slice (some ⟨b,0,some 1⟩) 0 0) else some (.complex .f64 0 0)
     | none=>none
   | some (.cells _ _) =>
    match dN len cap low high max with
    | some (l,h,mx)=>some (.slice (some (if mx=l then⟨b,o,none⟩ else⟨b,o+l*aE P elem,none⟩)) (h-l) (mx-l))
    | none=>none
   | _=>none
  else none
 | some (.slice elem),.slice (some ⟨b,_,some sp⟩) 0 0 =>
  if known P elem then
   match dN 0 0 low high max with
   | some _=>some (.slice (some ⟨b,0,some sp⟩) 0 0)
   | none=>none
  else none
 | some (.array n elem),.pointer (some ⟨b,o,none⟩) =>
  if known P elem then
   match m.get b with
   | some (.cells _ (.more _))=>none
   | some (.cells _ _) =>
    match dN n n low high max with
    | some (l,h,mx)=>some (.slice (some (if mx=l then⟨b,o,none⟩ else⟨b,o+l*aE P elem,none⟩)) (h-l) (mx-l))
    | none=>none
   | _=>none
  else none
 | _,_=>none
def aM(P:RA)(s:Ry)(x:Rx)(f:Nat):SA Rx :=
 match P.underlying s,x with
 | some (.struct fields),.pointer (some ⟨b,o,none⟩) =>
  match fields[f]? with
  | some fl=>if known P fl.type&&aE P fl.type != 0 then some (ptr b (o+fl.offset)) else none
  | none=>none
 | _,_=>none
def bP(P:RA)(t:Ry)(x index:Rx):SA Rx :=
 match P.underlying t,x,index with
 | some (.array len elem),.pointer (some ⟨b,o,none⟩),.int _ i =>
  if known P elem&&decide (0<=i/\i<len) then some (ptr b (o+i.toNat*aE P elem)) else none
 | some (.slice elem),.slice (some ⟨b,o,none⟩) len _,.int _ i =>
  if known P elem&&decide (0<=i/\i<len) then some (ptr b (o+i.toNat*aE P elem)) else none
 | _,_,_=>none
def Bq(P:RA)(t:Ry)(x:Rx):SA Rx :=
 match P.underlying t,x with
 | some (.array n _),.slice (some ⟨b,o,none⟩) len _=>if n<=len then some (ptr b o) else none
 | _,_=>none
def fD(P:RA)(t:Ry)(x index:Rx):SA Rx :=
 match P.underlying t,x,index with
 | some (.array len elem),.agg cs,.int _ i=>if 0<=i/\i<len then eQ P elem cs (i.toNat*aE P elem) else none
 | some .string,.string s,.int _ i=>if 0<=i then(s[i.toNat]?).map fun b=>.int .u8 b.toNat else none
 | _,_,_=>none
def me(P:RA)(t:Ry)(x:Rx)(f:Nat):SA Rx :=
 match P.underlying t,x with
 | some (.struct fields),.agg cs =>
  match fields[f]? with
  | some fl=>eQ P fl.type cs fl.offset
  | none=>none
 | _,_=>none
def dB(P:RA)(t:Ry)(a:Rx)(m:Sr):SA Rx :=
 match a with
 | .pointer (some ⟨b,o,none⟩) =>
  if !known P t then none else
  if dK P t then(m.dq b o (aE P t)).map fun cs=>.agg cs.toArray
  else match m.get b with
   | some (.cells cs _)=>cs[o]?
   | _=>none
 | _=>none
def eW(P:RA)(t:Ry)(a v:Rx)(m:Sr):SA Sr :=
 match a with
 | .pointer (some ⟨b,o,none⟩) =>
  if known P t&&v.cells.size==aE P t&&bg v.cells.toList then m.cE b o v.cells.toList else none
 | _=>none
def gN(P:RA)(keyType:Ry)(k:Rx):SB (Rx×Rx)->Nat->SA (SA (Nat×Rx))
 | [],_=>some none
 | e::es,i =>
  match iY P Op.maxDepth keyType k e.1 with
  | some true=>some (some (i,e.2))
  | some false=>gN P keyType k es (i+1)
  | none=>none
def dC(P:RA)(t:Ry):Bool :=
 match P.underlying t with
 | some (.int _)|some .string|some .bool=>true
 | _=>false
def gP(P:RA)(t:Ry)(v:Rx):Bool :=
 match P.underlying t,v with
 | some (.int _),.int _ _|some .string,.string _|some .bool,.bool _=>true
 | some (.array len elem),.agg cs=>dC P elem&&known P elem&&aE P elem==1&&cs.size==len&&cs.toList.all aR
 | some (.struct fs),.agg cs=>fs.toList.all (fun f=>dC P f.type&&known P f.type&&decide (f.offset<cs.size))&&cs.toList.all aR
 | _,_=>false
def mapOf(m:Sr)(x:Rx):SA (SB (Rx×Rx)) :=
 match x with
 | .map none=>some []
 | .map (some r)=>match m.get r with
  | some (.map es)=>some es
  | _=>none
 | _=>none
def dj(P:RA)(xType:Ry)(x index:Rx)(commaOk:Bool)(m:Sr):SA Rx :=
 match P.underlying xType with
 | some (.map key elem) =>
  match mapOf m x,bK P elem with
  | some es,some z =>
   if gP P key index then
    match gN P key index es 0 with
    | some (some (_,v))=>some (if commaOk then .tuple #[v,.bool true] else v)
    | some none=>if bF z then some (if commaOk then .tuple #[z,.bool false] else z) else none
    | none=>none
   else none
  | _,_=>none
 | _=>none
def jK:SB (Rx×Rx)->Nat->Rx->Rx->SB (Rx×Rx)
 | [],_,k,v=>[(k,v)]
 | _::es,0,k,v=>(k,v)::es
 | e::es,n+1,k,v=>e::jK es n k v
def gU(es:SB (Rx×Rx))(i:Nat)(key:Rx):Bool :=
 match es[i]? with
 | some e=>bF e.1&&Instr.sameBits 10000 e.1 key
 | none=>false
def cL(P:RA)(mapType:Ry)(x key value:Rx)(m:Sr):SA Sr :=
 match P.underlying mapType,x with
 | some (.map kt _),.map (some r) =>
  match m.get r with
  | some (.map es) =>
   if gP P kt key then
    match gN P kt key es 0 with
    | some (some (i,_)) =>
     if gU es i key then some (m.set r (.map (jK es i key value))) else none
    | some none=>some (m.set r (.map (es++[(key,value)])))
    | none=>none
   else none
  | _=>none
 | _,_=>none
def pU(P:RA)(mapType:Ry)(x key:Rx)(m:Sr):SA Sr :=
 match P.underlying mapType,x with
 | some (.map kt _),.map (some r) =>
  match m.get r with
  | some (.map es) =>
   if gP P kt key then
    match gN P kt key es 0 with
    | some (some (i,_))=>some (m.set r (.map (es.eraseIdx i)))
    | some none=>some m
    | none=>none
   else none
  | _=>none
 | _,_=>none
def cO(sz:Nat)(x:Rx)(n:Nat)(m:Sr):SA (SB Rx) :=
 match x with
 | .slice none _ _=>if n=0 then some [] else none
 | .slice (some ⟨b,o,none⟩) _ _=>if n=0 then some [] else m.dq b o (n*sz)
 | .slice (some ⟨_,_,some _⟩) _ _=>if n=0 then some [] else none
 | _=>none
def dG(bytes need:Nat):Bool:=(2*need+2000)*bytes<=2 ^ 48
def eh(P:RA)(elem:Ry)(xType:SA Ry)(x:Rx)(m:Sr):SA (Nat×SB Rx) :=
 match xType.bind P.underlying,x with
 | some (.slice _),.slice a l c=>(cO (aE P elem) (.slice a l c) l m).map fun cs=>(l,cs)
 | some (.int _),.int _ l=>if 0<=l/\l<=2 ^ 40 then(eK P elem l.toNat).bind fun zs=>if zs.all aR then some (l.toNat,zs) else none else none
 | _,_=>none
def bV (P:RA) (sType:Ry) (xType:SA Ry) (s x:Rx) (m:Sr):SA (Rx × Sr) :=
 match P.underlying sType,s,eh P (match P.underlying sType with|some (.slice e)=>e|_=>0) xType x m with
 | some (.slice elem),.slice base len cap,some (n,new) =>
  let sz:=aE P elem
  if !(known P elem)||sz==0 || !bg new || !(P.info? elem).any (fun i=>dG i.bytes (len+n)&&i.bytes != 0)||new.length != n*sz || !(bK P elem).any (fun z=>z.cells.size==sz&&z.cells.toList.all aR) then none else
  match base with
  | none =>
   if len≠0\/cap≠0 then none else
   if n=0 then some (.slice none 0 0,m)
   else some (.slice (some ⟨m.next,0,none⟩) n n,m.alloc (.cells new (.more sz)))
  | some ⟨b,o,none⟩ =>
   match m.get b with
   | some (.cells cs tag) =>
    if len+n<=cap then
     (m.cE b (o+len*sz) new).map fun m'=>(.slice (some ⟨b,o,none⟩) (len+n) cap,m')
    else match tag with
     | .more sz' =>
      if sz'=sz/\o=0 then
       let old:=cs.take (len*sz)
       if old.length=len*sz then some (.slice (some ⟨m.next,0,none⟩) (len+n) (len+n),(m.kill b).alloc (.cells (old++new) (.more sz))) else none
      else none
     | _ =>
      match m.dq b o (len*sz) with
      | some old=>some (.slice (some ⟨m.next,0,none⟩) (len+n) (len+n),m.alloc (.cells (old++new) (.more sz)))
      | none=>none
   | _=>none
  | some ⟨b,_,some 1⟩ =>
   if len≠0\/cap≠0 then none else
   if n=0 then some (.slice (some ⟨b,0,some 1⟩) 0 0,m)
   else some (.slice (some ⟨m.next,0,none⟩) n n,m.alloc (.cells new (.more sz)))
  | _=>if len=0/\cap=0/\n=0 then some (s,m) else none
 | _,_,_=>none
def rC(P:RA)(dType:Ry)(dst src:Rx)(m:Sr):SA (Rx×Sr) :=
 match P.underlying dType,dst,src with
 | some (.slice elem),.slice base dLen _,.slice _ sLen _ =>
  let n:=min sLen dLen
  if !(known P elem) then none else
  match cO (aE P elem) src n m with
  | none=>none
  | some cells =>
   if !bg cells then none else
   match base,n with
   | _,0=>some (.int .i64 0,m)
   | some ⟨b,o,none⟩,n+1=>(m.cE b o cells).map fun m'=>(.int .i64 (n+1:Nat),m')
   | _,_=>none
 | _,_,_=>none
def Ag(P:RA)(t:Ry)(x:Rx)(m:Sr):SA (Rx×Sr) :=
 match P.underlying t,x with
 | some (.slice _),.slice _ 0 _=>some (.tuple #[],m)
 | some (.slice elem),.slice (some ⟨b,o,none⟩) n _ =>
  match eK P elem n with
  | some zs=>if zs.all aR then(m.cE b o zs).map fun m'=>(.tuple #[],m') else none
  | none=>none
 | _,_=>none
def ej(f:Int->Int->Int):IntKind->Int->SB Rx->SA Rx
 | k,a,[]=>some (.int k a)
 | k,a,.int _ b::vs=>ej f k (f a b) vs
 | _,_,_=>none
def bf(P:RA)(b:Builtin)(argTypes:SD Ry)(args:SB Rx)(m:Sr):SA (Rx×Sr) :=
 match b,args with
 | .len,[x] =>
  match(argTypes[0]?).bind P.underlying,x with
  | some .string,.string s=>some (.int .i64 s.size,m)
  | some (.array n _),_=>some (.int .i64 n,m)
  | some (.pointer a),_=>match P.underlying a with
   | some (.array n _)=>some (.int .i64 n,m)
   | _=>none
  | some (.slice _),.slice _ n _=>some (.int .i64 n,m)
  | some (.map _ _),x=>(mapOf m x).map fun es=>(.int .i64 es.length,m)
  | _,_=>none
 | .cap,[x] =>
  match(argTypes[0]?).bind P.underlying,x with
  | some (.slice _),.slice none _ n=>some (.int .i64 n,m)
  | some (.slice _),.slice (some ⟨b,_,none⟩) _ n=>match m.get b with
   | some (.cells _ (.more _))=>none
   | some (.cells _ _)=>some (.int .i64 n,m)
   | _=>none
  | _,_=>none
 | .append,[s,x]=>match argTypes[0]? with
  | some t=>bV P t argTypes[1]? s x m
  | none=>none
 | .copy,[d,s]=>match argTypes[0]? with
  | some t=>rC P t d s m
  | none=>none
 | .clear,[x]=>match argTypes[0]? with
  | some t=>Ag P t x m
  | none=>none
 | .delete,[x,k]=>match argTypes[0]? with
  | some t=>(pU P t x k m).map fun m'=>(.tuple #[],m')
  | none=>none
 | .max,.int k a::vs=>(ej (fun x y=>if y>x then y else x) k a vs).map fun v=>(v,m)
 | .min,.int k a::vs=>(ej (fun x y=>if y<x then y else x) k a vs).map fun v=>(v,m)
 | _,_=>none
def cQ(E:Env)(t:Tm)(m:Sr)(o:Op):SA (Rx×Sr) :=
 let P:=E.P
 match o with
 | .move x|.assign x=>(aB E t x).map fun v=>(v,m)
 | .pick c a b=>match aB E t c with
  | some (.bool true)=>(aB E t a).map fun v=>(v,m)
  | some (.bool false)=>(aB E t b).map fun v=>(v,m)
  | _=>none
 | .alloc elem=>match bK P elem with
  | some z=>if bF z then some (ptr m.next 0,m.alloc (.cells z.cells.toList .own)) else none
  | none=>none
 | .box _ x=>(aB E t x).map fun v=>(ptr m.next 0,m.alloc (.cells v.cells.toList .own))
 | .build ty parts=>match dg E t parts.toList,bK P ty with
  | some ps,some z=>if bF z then(jC P ty ps).map fun v=>(v,m) else none
  | _,_=>none
 | .buildSlice ty len parts =>
  match P.underlying ty,dg E t parts.toList with
  | some (.slice elem),some ps =>
   let sz:=aE P elem
   if !(known P elem)||len*sz>2 ^ 24 then none else
   match eK P elem len with
   | some zs=>if zs.all aR then(gI (fun i=>some (i*sz,sz)) zs ps).map fun cs=>(.slice (some ⟨m.next,0,none⟩) len len,m.alloc (.cells cs .own)) else none
   | none=>none
  | _,_=>none
 | .load ty a=>match aB E t a with
  | some p=>(dB P ty p m).map fun v=>(v,m)
  | none=>none
 | .store ty a x=>match aB E t a,aB E t x with
  | some p,some v=>(eW P ty p v m).map fun m'=>(undef,m')
  | _,_=>none
 | .nilCheck x=>match aB E t x with
  | some (.pointer (some a))=>some (.pointer (some a),m)
  | some (.func (.func f) a b)=>some (.func (.func f) a b,m)
  | some (.func (.yield f) a b)=>some (.func (.yield f) a b,m)
  | _=>none
 | .binOp op xType x y _=>match aB E t x,aB E t y with
  | some a,some b=>(bU op xType P a b).map fun v=>(v,m)
  | _,_=>none
 | .unOp op _ x=>match aB E t x with
  | some a=>(yO op a).map fun v=>(v,m)
  | none=>none
 | .convert src dst x=>match aB E t x with
  | some a=>(fO P src dst a).map fun v=>(v,m)
  | none=>none
 | .makeFunc (.func f) first captured=>match bA E t first.toList,bA E t captured.toList with
  | some fs,some cs=>some (.func (.func f) fs.toArray cs.toArray,m)
  | _,_=>none
 | .makeMap _ none=>some (.map (some m.next),m.alloc (.map []))
 | .makeSlice ty len cap=>match P.underlying ty,aB E t len,aB E t cap with
  | some (.slice elem),some (.int .i64 l),some (.int .i64 c) =>
   if 0<=l/\l<=c/\(P.info? elem).any (fun i=>i.bytes*c<=2 ^ 40&&i.bytes != 0)/\known P elem then
    match eK P elem c.toNat with
    | some zs=>if zs.all aR then some (.slice (some ⟨m.next,0,none⟩) l.toNat c.toNat,m.alloc (.cells zs .own)) else none
    | none=>none
   else none
  | _,_,_=>none
 | .slice ty x lo hi mx=>match aB E t x,dz E t lo,dz E t hi,dz E t mx with
  | some v,some l,some h,some k=>(cj P ty v l h k m).map fun v=>(v,m)
  | _,_,_,_=>none
 | .fieldAddr s x f=>match aB E t x with
  | some v=>(aM P s v f).map fun v=>(v,m)
  | none=>none
 | .field ty x f=>match aB E t x with
  | some v=>(me P ty v f).map fun v=>(v,m)
  | none=>none
 | .sliceToArrayPointer ty x=>match aB E t x with
  | some v=>(Bq P ty v).map fun v=>(v,m)
  | none=>none
 | .indexAddr ty x i=>match aB E t x,aB E t i with
  | some v,some n=>(bP P ty v n).map fun v=>(v,m)
  | _,_=>none
 | .index ty x i=>match aB E t x,aB E t i with
  | some v,some n=>(fD P ty v n).map fun v=>(v,m)
  | _,_=>none
 | .lookup ty x i ok=>match aB E t x,aB E t i with
  | some v,some n=>(dj P ty v n ok m).map fun v=>(v,m)
  | _,_=>none
 | .mapUpdate ty x k v|.insert ty x k v=>match aB E t x,aB E t k,aB E t v with
  | some x,some k,some v=>(cL P ty x k v m).map fun m'=>(undef,m')
  | _,_,_=>none
 | .extract x i=>match aB E t x with
  | some (.tuple vs)=>(vs[i]?).map fun v=>(v,m)
  | _=>none
 | .call c=>match c.callee with
  | .builtin b=>match bA E t c.args.toList with
   | some vs=>bf P b c.argTypes vs m
   | none=>none
  | _=>none
 | _=>none
def aI:Op->Bool
 | .store .. | .mapUpdate .. | .insert ..=>true
 | .call c=>match c.callee with
  | .builtin .append|.builtin .copy|.builtin .delete|.builtin .clear=>true
  | .builtin _=>false
  | _=>true
 | _=>false
def mL:Op->Bool
 | .load .. | .lookup .. | .slice ..=>true
 | .call c=>match c.callee with
  | .builtin .len|.builtin .cap=>true
  | _=>false
 | _=>false
def tmpsOf:SB Rz->SB Tmp
 | []=>[]
 | .tmp t::xs=>t::tmpsOf xs
 | _::xs=>tmpsOf xs
def looks(ops:SD Oper)(o:Oper):SB Tmp :=
 tmpsOf o.op.operands.toList++(match o.guard with
  | some (g,_)=>((ops[g]?).bind (·.dst)).toList
  | none=>[])
def A7(ops:SD Oper):SB Nat:=(Region.before ops).toList
def pS(ops:SD Oper)(a b:Oper):Bool :=
 !(aI a.op&&aI b.op) &&
 (match a.dst with
  | some d=>!(looks ops b).contains d&&b.dst != some d
  | none=>true) &&
 (match b.dst with
  | some d=>!(looks ops a).contains d
  | none=>true)
def clash(a b:Oper):Bool:=(aI a.op&&mL b.op) ||(mL a.op&&aI b.op)
def vI:SB Nat->Bool
 | []=>true
 | x::xs=>!xs.contains x&&vI xs
def eU(o:Oper):SB Nat:=o.after.toList.filterMap fun e=>if Region.binds .any e then some e.on else none
def vo(ops:SD Oper)(bs:SB Nat):Bool :=
 vI (ops.toList.filterMap (·.dst)) &&
 (List.range ops.size).all fun j =>
  (eU (ops.getD j default)).all (fun e=>decide (e<j)) &&
  (match(ops.getD j default).guard with
   | none=>true
   | some (g,_)=>decide (g<j) &&(bs.getD j 0).testBit g) &&
  (List.range j).all fun i =>
   if(bs.getD j 0).testBit i then(eU (ops.getD j default)).any (fun e=>e==i ||(Nat.blt i e &&(bs.getD e 0).testBit i))
   else pS ops (ops.getD i default) (ops.getD j default)
def kO(ops:SD Oper)(bs:SB Nat):SB (Nat×Nat) :=
 (List.range ops.size).flatMap fun j=>((List.range j).filter fun i=>!(bs.getD j 0).testBit i&&clash (ops.getD i default) (ops.getD j default)).map fun i=>(i,j)
def du(ops:SD Oper):SA (SB (Nat×Nat)) :=
 if vo ops (A7 ops) then some (kO ops (A7 ops)) else none
def dW:Rx->SA Nat
 | .pointer (some a)=>some a.block
 | .slice (some a) _ _=>some a.block
 | .map (some r)=>some r
 | _=>none
def aQ(E:Env)(t:Tm)(o:Op):SA Nat :=
 match o with
 | .load _ a=>(aB E t a).bind dW
 | .lookup _ x _ _=>(aB E t x).bind dW
 | .slice _ x _ _ _=>(aB E t x).bind dW
 | .call c=>match c.callee with
  | .builtin .len|.builtin .cap=>match bA E t c.args.toList with
   | some [v]=>dW v
   | _=>none
  | _=>none
 | _=>none
def dS(E:Env)(t:Tm)(o:Op):SA Nat :=
 match o with
 | .store _ a _=>match aB E t a with
  | some (.pointer (some a))=>some a.block
  | _=>none
 | _=>none
def wb:Rx->Rx->Bool
 | .int k a,.int k' b=>decide (k=k')&&decide (a=b)
 | .bool a,.bool b=>a==b
 | .slice a l c,.slice a' l' c'=>decide (a=a') &&(Nat.beq l l'&&Nat.beq c c')
 | .map a,.map b=>decide (a=b)
 | .pointer a,.pointer b=>decide (a=b)
 | _,_=>false
def qT:SB Rx->SB Rx->Bool
 | [],[]=>true
 | v::vs,u::us=>wb v u&&qT vs us
 | _,_=>false
def yn:Rx->Rx->Bool
 | .func (.func f) a c,.func (.func f') a' c'=>Nat.beq f f' &&(qT a.toList a'.toList&&qT c.toList c'.toList)
 | v,u=>wb v u
def AK:SB Rx->SB Rx->Bool
 | [],[]=>true
 | v::vs,u::us=>yn v u&&AK vs us
 | _,_=>false
def vU:SB (Rx×Rx)->SB (Rx×Rx)->Bool
 | [],[]=>true
 | v::vs,u::us=>yn v.1 u.1&&yn v.2 u.2&&vU vs us
 | _,_=>false
def FU:SA St->SA St->Bool
 | some (.cells cs t),some (.cells cs' t')=>decide (t=t')&&AK cs cs'
 | some (.map es),some (.map es')=>vU es es'
 | _,_=>false
noncomputable def gQ (m m':Sr) (b:Nat):Bool:=FU (m.get b) (m'.get b)||@decide (m.get b=m'.get b) (Classical.propDecidable _)
structure Note where
 read:SA Nat
 wl:Nat
 next:Nat
 wrote:SA Nat
 kept:Nat->Bool
def Note.ok(r e:Note):Bool :=
 match r.read with
 | none=>true
 | some b=>decide (b<e.wl)||decide (e.next<=b) ||(match e.wrote with
  | some b'=>b != b'
  | none=>false)||e.kept b
def df(a:Note):Bool :=
 match a.read with
 | none=>true
 | some b=>Nat.blt b a.next
def dx(notes:SB Note)(ops:SD Oper)(p:Nat×Nat):Bool :=
 match notes[p.1]?,notes[p.2]? with
 | some a,some b =>
  (!(aI (ops.getD p.2 default).op)||Note.ok a b) &&(!(aI (ops.getD p.1 default).op)||Note.ok b a)
 | _,_=>false
inductive Ss where
 | normal
 | exit (id:Nat)
 | ret
 deriving DecidableEq
structure Fr where
 tmps:Tm
 n:Nat
 fn:SJ
 round:SA Nat
inductive Task where
 | code (c:Code) (fr:Fr) (m:Sr)
 | loop (c:Code) (fr:Fr) (m:Sr)
 | call (f:SJ) (args:SB Rx) (m:Sr)
 | round (l:Nat) (args:SB Rx) (m:Sr)
inductive Res where
 | code (e:Ss) (t:Tm) (m:Sr)
 | val (v:Rx) (m:Sr)
abbrev K:=Task->SA Res
def hU(n:Nat)(t:Tm)(dst:SA Tmp)(v:Rx):SA Tm :=
 match dst with
 | some d=>match Nat.blt d n with
  | true=>some (t.set d v)
  | false=>none
 | none=>some t
def dT(k:K)(E:Env)(t:Tm)(m:Sr)(o:Op):SA (Rx×Sr) :=
 match o with
 | .call c=>match c.callee with
  | .value f=>match aB E t f,bA E t c.args.toList with
   | some (.func (.func g) first captured),some args=>match k (.call g (first.toList++args++captured.toList) m) with
    | some (.val v m')=>some (v,m')
    | _=>none
   | some (.func (.yield l) first _),some args=>match k (.round l (first.toList++args) m) with
    | some (.val v m')=>some (v,m')
    | _=>none
   | _,_=>none
  | _=>cQ E t m o
 | _=>cQ E t m o
def cX(ops:SD Oper)(t:Tm)(j:Nat):SA Bool :=
 match((ops[j]?).bind (·.dst)) with
 | some d=>match t.get d with
  | some (.bool b)=>some b
  | _=>none
 | none=>none
def bB(ops:SD Oper)(o:Oper)(t:Tm):Bool :=
 match o.guard with
 | none=>true
 | some (j,want)=>match cX ops t j with
  | some b=>b==want
  | none=>false
def iq(k:K)(E:Env)(n:Nat)(ops:SD Oper):SB Oper->Tm->Sr->SA (Tm×Sr)
 | [],t,m=>some (t,m)
 | o::os,t,m =>
  if bB ops o t then
   match dT k E t m o.op with
   | some (v,m')=>match hU n t o.dst v with
    | some t'=>iq k E n ops os t' m'
    | none=>none
   | none=>none
  else match hU n t o.dst undef with
   | some t'=>iq k E n ops os t' m
   | none=>none
noncomputable def dH (k:K) (E:Env) (n:Nat) (ops:SD Oper):SB Oper->Tm->Sr->SA (Tm×Sr×SB Note)
 | [],t,m=>some (t,m,[])
 | o::os,t,m =>
  if bB ops o t then
   match dT k E t { m with wl:=m.next} o.op with
   | some (v,m')=>match hU n t o.dst v with
    | some t1=>match dH k E n ops os t1 { m' with wl:=min m.wl m'.wl} with
     | some (t',m'',ns)=>some (t',m'',{ read:=aQ E t o.op,wl:=m'.wl,next:=m.next,wrote:=dS E t o.op,kept:=gQ m m'}::ns)
     | none=>none
    | none=>none
   | none=>none
  else match hU n t o.dst undef with
   | some t1=>match dH k E n ops os t1 m with
    | some (t',m'',ns)=>some (t',m'',{ read:=none,wl:=m.next,next:=m.next,wrote:=none,kept:=fun _=>false}::ns)
    | none=>none
   | none=>none
def cd(E:Env)(t:Tm)(m:Sr):SB ResultVar->SA (SB Rx)
 | []=>some []
 | .tmp i::rs=>(cd E t m rs).map fun vs=>t.at i::vs
 | .cell a ty::rs=>match dB E.P ty (t.at a) m,cd E t m rs with
  | some v,some vs=>some (v::vs)
  | _,_=>none
def ie:SB Rx->Rx
 | [v]=>v
 | vs=>.tuple vs.toArray
def dU(n:Nat)(t:Tm):SB Tmp->SB Rx->SA Tm
 | p::ps,v::vs=>match Nat.blt p n with
  | true=>dU n (t.set p v) ps vs
  | false=>none
 | _,_=>some t
def fx:Ss->SA Code
 | .normal=>none
 | .exit id=>some (.exit id)
 | .ret=>some .ret
def fF(E:Env)(fr:Fr)(m:Sr)(f:Rz):Bool :=
 (match aB E fr.tmps f with
  | some (.func (.func g) _ _)=>(E.cM g).isNone
  | _=>false) &&
 (match fr.round with
  | none=>true
  | some l=>match m.get l with
   | some (.loop _)=>true
   | _=>false)
def lr(E:Env)(f:SJ)(args:SB Rx)(m:Sr):SA (Rx×Sr):=(E.cM f).bind fun p=>p.run args m
noncomputable def step (E:Env) (k:K):Task->SA Res
 | .code c fr m =>
  match c with
  | .skip=>some (.code .normal fr.tmps m)
  | .label _=>some (.code .normal fr.tmps m)
  | .seq a b=>match k (.code a fr m) with
   | some (.code .normal t m')=>k (.code b { fr with tmps:=t} m')
   | some (.code e t m')=>some (.code e t m')
   | _=>none
  | .cond x a b=>match aB E fr.tmps x with
   | some (.bool true)=>k (.code a fr m)
   | some (.bool false)=>k (.code b fr m)
   | _=>none
  | .block id a=>match k (.code a fr m) with
   | some (.code (.exit id') t m')=>if id'=id then some (.code .normal t m') else some (.code (.exit id') t m')
   | some (.code e t m')=>some (.code e t m')
   | _=>none
  | .loop a=>k (.loop a fr m)
  | .exit id=>some (.code (.exit id) fr.tmps m)
  | .ret=>some (.code .ret fr.tmps m)
  | .scope a=>match k (.code a fr m) with
   | some (.code e t m')=>some (.code e t m')
   | _=>none
  | .region _ ops draw =>
   if draw then
    match du ops with
    | some ps=>match dH k E fr.n ops ops.toList fr.tmps m with
     | some (t,m',ns)=>if ps.all (dx ns ops)&&ns.all df then some (.code .normal t m') else none
     | none=>none
    | none=>none
   else match iq k E fr.n ops ops.toList fr.tmps m with
    | some (t,m')=>some (.code .normal t m')
    | none=>none
  | .rangeFunc f params assign body =>
   match aB E fr.tmps f,fF E fr m f with
   | some (.func (.func g) first captured),true =>
    let l:=m.next
    let m1:=m.alloc (.loop { state:=.ready,pending:=none,fn:=fr.fn,tmps:=fr.tmps,n:=fr.n,params,assign,body})
    match k (.call g (first.toList++[.func (.yield l) #[] #[]]++captured.toList) m1) with
    | some (.val _ m2)=>match m2.get l with
     | some (.loop r)=>match r.state with
      | .busy=>none
      | _ =>
       let m3:=m2.set l (.loop { r with state:=.exhausted})
       match r.pending with
       | none=>some (.code .normal fr.tmps m3)
       | some c=>match k (.code c fr m3) with
        | some (.code e t m')=>some (.code e t m')
        | _=>none
     | _=>none
    | _=>none
   | _,_=>none
  | _=>none
 | .loop c fr m=>match k (.code c fr m) with
  | some (.code .normal t m')=>k (.loop c { fr with tmps:=t} m')
  | some (.code e t m')=>some (.code e t m')
  | _=>none
 | .call f args m =>
  match lr E f args m with
  | some r=>some (.val r.1 r.2)
  | none =>
   match E.P.funcs[f]? with
   | some fn=>match fn.body with
    | some c=>match k (.code c { tmps:=Trie.ofList args 0 .nil,n:=max args.length fn.ntmps,fn:=f,round:=none} m) with
     | some (.code (.exit _) _ _)=>none
     | some (.code _ t m')=>(cd E t m' fn.results.toList).map fun vs=>.val (ie vs) m'
     | _=>none
    | none=>none
   | none=>none
 | .round l args m =>
  match m.get l with
  | some (.loop r)=>match r.state with
   | .ready =>
    if args.length≠r.params.size then none else
    match dU r.n r.tmps r.params.toList args with
    | none=>none
    | some t0=>match k (.code r.assign { tmps:=t0,n:=r.n,fn:=r.fn,round:=some l} m) with
    | some (.code .normal t1 m1)=>match m1.get l with
     | some (.loop r1)=>match r1.state with
      | .ready =>
       match k (.code r.body { tmps:=t1,n:=r.n,fn:=r.fn,round:=some l} (m1.set l (.loop { r1 with state:=.busy}))) with
       | some (.code e _ m2)=>match m2.get l with
        | some (.loop r2) =>
         let j:=fx e
         some (.val (.bool j.isNone) (m2.set l (.loop { r2 with state:=if j.isNone then .ready else .done,pending:=j})))
        | _=>none
       | _=>none
      | _=>none
     | _=>none
    | _=>none
   | _=>none
  | _=>none
noncomputable def run (E:Env):Nat->K
 | 0=>fun _=>none
 | n+1=>step E (run E n)
structure Blk where
 c:Nat
 more:SA (Nat×Nat×Nat)
abbrev aY:=Nat->SA Blk
def yk(v:Rx):Bool:=k9 v && !aR v
def sT{v:Rx}(h:yk v=true):k9 v=true:=by simp only[yk,Pe] at h; exact h.1
inductive VR(j:aY):Rx->Rx->Prop
 | junk {v':Rx} (h:yk v'=true):VR j (.complex .f64 0 0) v'
 | bool (b:Bool):VR j (.bool b) (.bool b)
 | int (k:IntKind) (n:Int):VR j (.int k n) (.int k n)
 | string (s:ByteArray):VR j (.string s) (.string s)
 | pnil:VR j (.pointer none) (.pointer none)
 | ptr {b o:Nat} {k:Blk} (h:j b=some k):VR j (.pointer (some ⟨b,o,none⟩)) (.pointer (some ⟨k.c,o,none⟩))
 | snil (l c:Nat):VR j (.slice none l c) (.slice none l c)
 | slice {b o len cap:Nat} {k:Blk} (h:j b=some k) (hm:k.more=none):VR j (.slice (some ⟨b,o,none⟩) len cap) (.slice (some ⟨k.c,o,none⟩) len cap)
 | sliceM {b o len cap cap' sz na nc:Nat} {k:Blk} (h:j b=some k) (hm:k.more=some (sz,na,nc)) (h1:cap*sz+o=na) (h2:cap'*sz+o=nc) (hl:len<=cap) (hc:cap<=cap') :
   VR j (.slice (some ⟨b,o,none⟩) len cap) (.slice (some ⟨k.c,o,none⟩) len cap')
 | gJ {b:Nat} {a':Addr} {cap':Nat}:VR j (.slice (some ⟨b,0,some 0⟩) 0 0) (.slice (some a') 0 cap')
 | dry {b:Nat} {a':Addr}:VR j (.slice (some ⟨b,0,some 1⟩) 0 0) (.slice (some a') 0 0)
 | mnil:VR j (.map none) (.map none)
 | map {b:Nat} {k:Blk} (h:j b=some k):VR j (.map (some b)) (.map (some k.c))
 | func {f:SJ} {xs ys cs ds:SD Rx} (h1:xs.size=ys.size) (h2:∀(i:Nat) (a:i<xs.size) (b:i<ys.size),VR j xs[i] ys[i])
   (h3:cs.size=ds.size) (h4:∀(i:Nat) (a:i<cs.size) (b:i<ds.size),VR j cs[i] ds[i]):VR j (.func (.func f) xs cs) (.func (.func f) ys ds)
 | yield {l:Nat} {k:Blk} {xs ys cs ds:SD Rx} (h:j l=some k) (h1:xs.size=ys.size) (h2:∀(i:Nat) (a:i<xs.size) (b:i<ys.size),VR j xs[i] ys[i]) :
   VR j (.func (.yield l) xs cs) (.func (.yield k.c) ys ds)
 | nilFunc:VR j .nilFunc .nilFunc
 | nilIface:VR j .nilIface .nilIface
 | agg {xs ys:SD Rx} (h1:xs.size=ys.size) (h2:∀(i:Nat) (a:i<xs.size) (b:i<ys.size),VR j xs[i] ys[i]):VR j (.agg xs) (.agg ys)
 | tuple {xs ys:SD Rx} (h1:xs.size=ys.size) (h2:∀(i:Nat) (a:i<xs.size) (b:i<ys.size),VR j xs[i] ys[i]):VR j (.tuple xs) (.tuple ys)
def LR(j:aY)(xs ys:SB Rx):Prop:=xs.length=ys.length/\∀(i:Nat) (v:Rx),xs[i]? = some v->∃v',ys[i]? = some v'/\VR j v v'
def LR.nil(j:aY):LR j [] []:=⟨rfl,fun i v h=>by simp at h⟩
def LR.cons{j:aY}{x y:Rx}{xs ys:SB Rx}(h:VR j x y)(hs:LR j xs ys):LR j (x::xs) (y::ys) :=
 ⟨by simp[hs.1],fun i v hi=>by
  cases i with
  | zero=>simp at hi; subst hi; exact⟨y,rfl,h⟩
  | succ i=>simpa using hs.2 i v (by simpa using hi)⟩
def LR.head{j:aY}{x y:Rx}{xs ys:SB Rx}(h:LR j (x::xs) (y::ys)):VR j x y:=by
 obtain⟨v',hv,hr⟩:=h.2 0 x rfl;simp at hv; subst hv; exact hr
def LR.tail{j:aY}{x y:Rx}{xs ys:SB Rx}(h:LR j (x::xs) (y::ys)):LR j xs ys :=
 ⟨by have:=h.1; simpa using this,fun i v hi=>by simpa using h.2 (i+1) v (by simpa using hi)⟩
def LR.cons_inv{j:aY}{x:Rx}{xs l:SB Rx}(h:LR j (x::xs) l):∃y ys,l=y::ys/\VR j x y/\LR j xs ys:=by
 cases l with
 | nil=>exact Pz h.1 (by simp)
 | cons y ys=>exact⟨y,ys,rfl,h.head,h.tail⟩
def LR.da{j:aY}{l:SB Rx}(h:LR j [] l):l=[]:=by
 have:=h.1; simp at this; exact Qa.1 this.symm
def LR.append{j:aY}{xs ys xs' ys':SB Rx}(h:LR j xs ys)(h':LR j xs' ys'):LR j (xs++xs') (ys++ys') :=
 ⟨by simp[h.1,h'.1],fun i v hi=>by
  by_cases hlt:i<xs.length
  rw[PR hlt] at hi;rw[PR (h.1▸hlt)];exact h.2 i v hi
  rw[PA (by omega)] at hi
  rw[PA (by have:=h.1; omega),<-h.1]
  exact h'.2 _ v hi⟩
def LR.drop{j:aY}{xs ys:SB Rx}(h:LR j xs ys)(n:Nat):LR j (xs.drop n) (ys.drop n) :=
 ⟨by simp[h.1],fun i v hi=>by rw[QK] at *; exact h.2 _ v hi⟩
def LR.take{j:aY}{xs ys:SB Rx}(h:LR j xs ys)(n:Nat):LR j (xs.take n) (ys.take n) :=
 ⟨by simp[h.1],fun i v hi=>by
  rw[Rh] at *
  split at hi
  rename_i hlt; rw[Ph hlt]; exact h.2 _ v hi
  simp at hi⟩
def LR.get{j:aY}{xs ys:SB Rx}(h:LR j xs ys){i:Nat}{v:Rx}(hi:xs[i]? = some v):∃v',ys[i]? = some v'/\VR j v v':=h.2 i v hi
def LR.eZ{j:aY}{xs ys:SD Rx}(h1:xs.size=ys.size)(h2:∀(i:Nat) (a:i<xs.size) (b:i<ys.size),VR j xs[i] ys[i]):LR j xs.toList ys.toList :=
 ⟨by simpa using h1,fun i v hi=>by
  have hlt:i<xs.toList.length:=(PN.1 hi).1;have ha:i<xs.size:=by simpa using hlt
  have hb:i<ys.size:=h1▸ha;refine⟨ys[i],by simp[hb],?_⟩
  have:xs[i]=v:=by simpa [ha] using hi
  exact this▸h2 i ha hb⟩
def LR.arr{j:aY}{xs ys:SD Rx}(h:LR j xs.toList ys.toList):∀(i:Nat) (a:i<xs.size) (b:i<ys.size),VR j xs[i] ys[i]:=fun i a b=>by
 obtain⟨v',hv,hr⟩:=h.2 i xs[i] (by simp[a])
 have:ys[i]=v':=by simpa [b] using hv
 exact this▸hr
def LR.size{j:aY}{xs ys:SD Rx}(h:LR j xs.toList ys.toList):xs.size=ys.size:=by simpa using h.1
def VR.CE{j:aY}{xs ys:SD Rx}(h:LR j xs.toList ys.toList):VR j (.agg xs) (.agg ys):=.agg h.size h.arr
def VR.tuple'{j:aY}{xs ys:SD Rx}(h:LR j xs.toList ys.toList):VR j (.tuple xs) (.tuple ys):=.tuple h.size h.arr
def VR.undef(j:aY):VR j undef undef:=.tuple rfl (fun i a _=>by simp at a)
def aY.le(j j':aY):Prop:=∀b k,j b=some k->j' b=some k
def aY.le.refl(j:aY):j.le j:=fun _ _ h=>h
def aY.le.trans{j j' j'':aY}(h:j.le j')(h':j'.le j''):j.le j'':=fun b k e=>h' b k (h b k e)
def VR.mono{j j':aY}(hj:j.le j'){v v':Rx}(h:VR j v v'):VR j' v v':=by
 induction h with
 | junk h=>exact .junk h
 | bool b=>exact .bool b
 | int k n=>exact .int k n
 | string s=>exact .string s
 | pnil=>exact .pnil
 | ptr h=>exact .ptr (hj _ _ h)
 | snil l c=>exact .snil l c
 | slice h hm=>exact .slice (hj _ _ h) hm
 | sliceM h hm h1 h2 hl hc=>exact .sliceM (hj _ _ h) hm h1 h2 hl hc
 | gJ=>exact .gJ
 | dry=>exact .dry
 | mnil=>exact .mnil
 | map h=>exact .map (hj _ _ h)
 | func h1 _ h3 _ ih2 ih4=>exact .func h1 ih2 h3 ih4
 | yield h h1 _ ih2=>exact .yield (hj _ _ h) h1 ih2
 | nilFunc=>exact .nilFunc
 | nilIface=>exact .nilIface
 | agg h1 _ ih=>exact .agg h1 ih
 | tuple h1 _ ih=>exact .tuple h1 ih
def LR.mono{j j':aY}(hj:j.le j'){xs ys:SB Rx}(h:LR j xs ys):LR j' xs ys :=
 ⟨h.1,fun i v hi=>let⟨v',a,b⟩:=h.2 i v hi;⟨v',a,b.mono hj⟩⟩
def VR.aR{j:aY}{v:Rx}(h:aR v=true):VR j v v:=by
 unfold Ab.aR at h
 split at h<;>first|constructor |(simp at h)
def LR.plain{j:aY}{l:SB Rx}(h:l.all Ab.aR=true):LR j l l :=
 ⟨rfl,fun _ v hi=>⟨v,hi,VR.aR (Pr.1 h v (PO hi))⟩⟩
def VR.bF{j:aY}{v:Rx}(h:bF v=true):VR j v v:=by
 unfold Ab.bF at h
 split at h
 exact .CE (LR.plain h)
 exact .tuple' (LR.plain h)
 exact .aR h
def ER(j:aY):SB (Rx×Rx)->SB MapEntry->Prop
 | [],[]=>True
 | e::es,f::fs=>VR j e.1 f.key/\VR j e.2 f.val/\ER j es fs
 | _,_=>False
def ER.mono{j j':aY}(hj:j.le j'):∀{es:SB (Rx×Rx)} {fs:SB MapEntry},ER j es fs->ER j' es fs
 | [],[],_=>trivial
 | _::_,_::_,h=>⟨h.1.mono hj,h.2.1.mono hj,ER.mono hj h.2.2⟩
 | [],_::_,h=>h.elim
 | _::_,[],h=>h.elim
def TR(n:Nat)(j:aY)(t:Tm)(tmps:SD Rx):Prop:=tmps.size=n/\∀i,VR j (t.at i) (tmps.getD i undef)
def TR.mono{n:Nat}{j j':aY}(hj:j.le j'){t:Tm}{tmps:SD Rx}(h:TR n j t tmps):TR n j' t tmps:=⟨h.1,fun i=>(h.2 i).mono hj⟩
def mh(sz:Nat)(c:SD Rx):Prop:=c.size<=sz*9223372036854775807
def ud(k:Blk)(tag:Tag)(len:Nat)(c:SD Rx)(fz:Nat×Nat):Prop :=
 match tag with
 | .ro=>k.more=none/\c.size=len
 | .own=>k.more=none/\c.size=len/\fz=(0,0)
 | .more sz=>k.more=some (sz,len,c.size)/\len<=c.size/\fz=(0,0)/\0<sz/\mh sz c
def ud.put{k:Blk}{tag:Tag}{len:Nat}{c c':SD Rx}{fz:Nat×Nat}(h:ud k tag len c fz)(hs:c'.size=c.size)(hr:∀i,len<=i->c'[i]? = c[i]?):ud k tag len c' fz:=by
 cases tag with
 | ro=>exact⟨h.1,hs.trans h.2⟩
 | own=>exact⟨h.1,hs.trans h.2.1,h.2.2⟩
 | more sz=>exact⟨by rw[hs]; exact h.1,by rw[hs]; exact h.2.1,h.2.2.1,h.2.2.2.1,by unfold mh; rw[hs]; exact h.2.2.2.2⟩
def IN(es:SD MapEntry)(clock:Nat):Prop:=(∀x∈es.toList,x.born<clock)/\(es.toList.map (·.born)).Nodup
def B6(c:Nat):IN #[] c:=⟨fun x hx=>by simp at hx,by simp⟩
def Du{es:SD MapEntry}{clock:Nat}(h:IN es clock)(k v:Rx):IN (es.push { key:=k,val:=v,born:=clock}) (clock+1):=by
 refine⟨fun x hx=>?_,?_⟩
 rw[Array.toList_push,PX,PM] at hx;rcases hx with hx|rfl
 exact Nat.lt_succ_of_lt (h.1 x hx)
 exact QL _
 rw[Array.toList_push,Rl,List.map_singleton];refine List.nodup_append.2 ⟨h.2,by simp,fun a ha b hb=>?_⟩
 rw[PM] at hb;obtain⟨x,hx,rfl⟩:=P6.1 ha;have:=h.1 x hx;rw[hb]; exact Nat.ne_of_lt this
def zE{es:SD MapEntry}{clock:Nat}(h:IN es clock)(i:Nat)(f:MapEntry->MapEntry)(hf:∀e,(f e).born=e.born):IN (es.modify i f) clock:=by
 have e:(es.modify i f).toList.map (·.born)=es.toList.map (·.born):=by
  rw[Array.toList_modify];refine Q4 fun t=>?_;rw[PY,PY,List.getElem?_modify];cases es.toList[t]? with
  | none=>rfl
  | some a =>
   show some ((if i=t then f a else a).born)=some a.born
   split
   rw[hf]
   rfl
 refine⟨fun x hx=>?_,by rw[e]; exact h.2⟩
 have hm:x.born∈es.toList.map (·.born):=e▸P6.2 ⟨x,hx,rfl⟩;obtain⟨y,hy,he⟩:=P6.1 hm;rw[<-he]; exact h.1 y hy
def Ca{es:SD MapEntry}{clock:Nat}(h:IN es clock)(i:Nat):IN (es.eraseIdxIfInBounds i) clock:=by
 have hs:(es.eraseIdxIfInBounds i).toList.Sublist es.toList:=by
  rw[Array.toList_eraseIdxIfInBounds]; exact List.eraseIdx_sublist _ _
 exact⟨fun x hx=>h.1 x (hs.subset hx),(hs.map _).nodup h.2⟩
def OR(j:aY)(k:Blk):St->Obj->Prop
 | .cells cs tag,.cells c _ fz=>ud k tag cs.length c fz/\∀(i:Nat) (v:Rx),cs[i]? = some v->∃v',c[i]? = some v'/\VR j v v'
 | .map es,.map entries clock=>ER j es entries.toList/\IN entries clock
 | .loop r,.loop r'=>r.state=r'.state/\r.pending=r'.pending/\r.params=r'.params/\r.assign=r'.assign/\r.body=r'.body/\TR r.n j r.tmps r'.tmps
 | _,_=>False
def OR.mono{j j':aY}(hj:j.le j'){k:Blk}{o:St}{o':Obj}(h:OR j k o o'):OR j' k o o':=by
 cases o with
 | cells cs tag =>
  cases o' with
  | cells c e fz=>exact⟨h.1,fun i v hi=>let⟨v',a,b⟩:=h.2 i v hi;⟨v',a,b.mono hj⟩⟩
  | _=>exact h.elim
 | map es =>
  cases o' with
  | map c e=>exact⟨ER.mono hj h.1,h.2⟩
  | _=>exact h.elim
 | loop r =>
  cases o' with
  | loop c=>exact⟨h.1,h.2.1,h.2.2.1,h.2.2.2.1,h.2.2.2.2.1,h.2.2.2.2.2.mono hj⟩
  | _=>exact h.elim
structure MR(E:Env)(j:aY)(m:Sr)(w:RB):Prop where
 lt:∀b k,j b=some k->b<m.next/\k.c<w.heap.size
 obj:∀b o k,m.get b=some o->j b=some k->∃o',w.heap[k.c]? = some o'/\OR j k o o'
 inj:∀b b' k k',j b=some k->j b'=some k'->(m.get b).isSome=true->(m.get b').isSome=true->k.c=k'.c->b=b'
 glob:∀g,g<E.glob->j g=some ⟨g,none⟩
structure AExt(m m':Sr):Prop where
 next:m.next<=m'.next
 wl:m'.wl<=m.wl
 same:∀b,b<m.next->b<m'.wl->m'.get b=m.get b
 dead:∀b,b<m.next->m.get b=none->m'.get b=none
def AExt.refl(m:Sr):AExt m m:=⟨Pd _,Pd _,fun _ _ _=>rfl,fun _ _ h=>h⟩
def AExt.trans{a b c:Sr}(h:AExt a b)(h':AExt b c):AExt a c :=
 ⟨PB h.next h'.next,PB h'.wl h.wl,
  fun x hx hw=>(h'.same x (Pn hx h.next) hw).trans (h.same x hx (Pn hw h'.wl)),
  fun x hx hn=>h'.dead x (Pn hx h.next) (h.dead x hx hn)⟩
abbrev Calm(w w':RB):Prop:=w'.os=w.os/\w'.output=w.output/\w'.tape=w.tape/\w.drawn<=w'.drawn
abbrev gL(E:Env)(w w':RB):Prop:=w'.os=w.os/\w'.output=w.output/\w'.tape=w.tape/\(E.mono->w.drawn<=w'.drawn)
def Calm.e{E:Env}{w w':RB}(h:Calm w w'):gL E w w':=⟨h.1,h.2.1,h.2.2.1,fun _=>h.2.2.2⟩
def gL.refl{E:Env}(w:RB):gL E w w:=⟨rfl,rfl,rfl,fun _=>Pd _⟩
def gL.trans{E:Env}{a b c:RB}(h:gL E a b)(g:gL E b c):gL E a c:=⟨g.1.trans h.1,g.2.1.trans h.2.1,g.2.2.1.trans h.2.2.1,fun e=>PB (h.2.2.2 e) (g.2.2.2 e)⟩
structure Sim(E:Env)(j:aY)(m:Sr)(w:RB)(j':aY)(m':Sr)(w':RB):Prop where
 ext:AExt m m'
 le:j.le j'
 new:∀b k,j' b=some k->j b=none->m.next<=b
 mr:MR E j' m' w'
 size:w.heap.size<=w'.heap.size
 full:∀b,m.next<=b->b<m'.next->(m'.get b).isSome=true->∃k,j' b=some k
 away:∀b,b<m.next->j b=none->m'.get b=m.get b
 fresh:∀b k,j' b=some k->j b=none->w.heap.size<=k.c\/∃b0 k0,j b0=some k0/\(m.get b0).isSome=true/\k0.c=k.c/\m'.wl<=b0
 frame:∀c,c<w.heap.size->(∀b k,j b=some k->(m.get b).isSome=true->k.c=c->b<m'.wl)->w'.heap[c]? = w.heap[c]?
 calm:gL E w w'
def Sim.refl{E:Env}{j:aY}{m:Sr}{w:RB}(h:MR E j m w):Sim E j m w j m w where
 ext:=.refl m
 le:=.refl j
 new:=fun b k h h'=>by simp[h'] at h
 mr:=h
 size:=Pd _
 full:=fun b h h' _=>Pz h (by omega)
 away:=fun _ _ _=>rfl
 fresh:=fun b k h h'=>by simp[h'] at h
 frame:=fun _ _ _=>rfl
 calm:=.refl w
def Sim.trans{E:Env}{j j1 j2:aY}{m m1 m2:Sr}{w w1 w2:RB}(h0:MR E j m w)(h:Sim E j m w j1 m1 w1)(h':Sim E j1 m1 w1 j2 m2 w2):Sim E j m w j2 m2 w2 where
 ext:=h.ext.trans h'.ext
 le:=h.le.trans h'.le
 mr:=h'.mr
 calm:=gL.trans h.calm h'.calm
 size:=PB h.size h'.size
 full:=by
  intro b hb hb' hl;rcases PW b m1.next with hlt|hge
  ·have hl1:(m1.get b).isSome=true:=by
    cases hm:m1.get b with
    | some o=>rfl
    | none=>rw[h'.ext.dead b hlt hm] at hl; cases hl
   obtain⟨k,hk⟩:=h.full b hb hlt hl1;exact⟨k,h'.le b k hk⟩
  exact h'.full b hge hb' hl
 new:=by
  intro b k hk hn;cases h1:j1 b with
  | none=>exact PB h.ext.next (h'.new b k hk h1)
  | some k1=>exact h.new b k1 h1 hn
 away:=by
  intro b hb hn;have h1:j1 b=none:=by
   cases h1:j1 b with
   | none=>rfl
   | some k1=>exact Pz (h.new b k1 h1 hn) (by omega)
  exact(h'.away b (Pn hb h.ext.next) h1).trans (h.away b hb hn)
 fresh:=by
  intro b k hk hn;cases h1:j1 b with
  | some k1 =>
   have:=h'.le b k1 h1;rw[hk] at this; cases this;rcases h.fresh b k h1 hn with hf|⟨b0,k0,a1,a2,a3,a4⟩
   exact .inl hf
   exact .inr ⟨b0,k0,a1,a2,a3,PB h'.ext.wl a4⟩
  | none =>
   rcases h'.fresh b k hk h1 with hf|⟨b0,k0,a1,a2,a3,a4⟩
   exact .inl (PB h.size hf)
   ·cases hj0:j b0 with
    | some k0' =>
     have e:=h.le b0 k0' hj0;rw[a1] at e; cases e;refine .inr ⟨b0,k0,hj0,?_,a3,a4⟩;cases hm:m.get b0 with
     | some o=>rfl
     | none=>rw[h.ext.dead b0 (h0.lt b0 k0 hj0).1 hm] at a2; cases a2
    | none =>
     rcases h.fresh b0 k0 a1 hj0 with hf|⟨b1,k1,c1,c2,c3,c4⟩
     exact .inl (a3▸hf)
     exact .inr ⟨b1,k1,c1,c2,c3.trans a3,PB h'.ext.wl c4⟩
 frame:=by
  intro c hc H;have s1:w1.heap[c]? = w.heap[c]?:=h.frame c hc fun b k hb hl he=>Pn (H b k hb hl he) h'.ext.wl;refine(h'.frame c (Pn hc h.size) ?_).trans s1;intro b k hb hl he;cases hj:j b with
  | some k' =>
   have e:=h.le b k' hj;rw[hb] at e; cases e;refine H b k hj ?_ he;cases hm:m.get b with
   | some o=>rfl
   | none=>rw[h.ext.dead b (h0.lt b k hj).1 hm] at hl; cases hl
  | none =>
   rcases h.fresh b k hb hj with hf|⟨b1,k1,c1,c2,c3,c4⟩
   omega
   have:=H b1 k1 c1 c2 (c3.trans he);have:=h'.ext.wl;omega
def aY.set(j:aY)(b:Nat)(k:Blk):aY:=fun x=>if x=b then some k else j x
def aY.cG(j:aY)(b:Nat)(k:Blk):j.set b k b=some k:=by simp[aY.set]
def aY.cD(j:aY){b x:Nat}(k:Blk)(h:x≠b):j.set b k x=j x:=by simp[aY.set,h]
def aY.q8{j:aY}{b:Nat}(k:Blk)(h:j b=none):j.le (j.set b k):=fun x k' hx=>by
 by_cases e:x=b
 subst e; rw[h] at hx; cases hx
 rw[aY.cD _ _ e]; exact hx
def Sr.bh(m:Sr)(o:St)(b:Nat):(m.alloc o).get b=if b=m.next then some o else m.get b:=by
 unfold Sr.alloc Sr.get;simp only[Heap.bL]
 by_cases h:b=m.next<;>simp[h]
def Sr.bL(m:Sr)(b x:Nat)(o:St):(m.set b o).get x=if x=b then some o else m.get x:=by
 unfold Sr.set Sr.get;simp only[Heap.bL]
 by_cases h:x=b<;>simp[h]
def Sr.eo(m:Sr)(b x:Nat):(m.kill b).get x=if x=b then none else m.get x:=by
 unfold Sr.kill Sr.get;simp only[Heap.bL]
 by_cases h:x=b<;>simp[h]
@[simp] theorem Sr.next_alloc (m:Sr) (o:St):(m.alloc o).next=m.next+1:=rfl
@[simp] theorem Sr.next_set (m:Sr) (b:Nat) (o:St):(m.set b o).next=m.next:=rfl
@[simp] theorem Sr.next_kill (m:Sr) (b:Nat):(m.kill b).next=m.next:=rfl
@[simp] theorem Sr.wl_alloc (m:Sr) (o:St):(m.alloc o).wl=m.wl:=rfl
@[simp] theorem Sr.wl_set (m:Sr) (b:Nat) (o:St):(m.set b o).wl=min m.wl b:=rfl
@[simp] theorem Sr.wl_kill (m:Sr) (b:Nat):(m.kill b).wl=min m.wl b:=rfl
def AExt.alloc(m:Sr)(o:St):AExt m (m.alloc o) :=
 ⟨Nat.le_succ _,Pd _,fun b h _=>by rw[Sr.bh,RE],fun b h hn=>by rw[Sr.bh,RE]; exact hn⟩
def AExt.set{m:Sr}{b:Nat}(o:St)(hb:(m.get b).isSome=true):AExt m (m.set b o) :=
 ⟨Pd _,Nat.min_le_left _ _,fun x _ h=>by
  rw[Sr.bL,Pb]; intro e; subst e; simp at h; omega,
 fun x _ hn=>by
  rw[Sr.bL,Pb]
  exact hn
  intro e; subst e; rw[hn] at hb; cases hb⟩
def AExt.kill(m:Sr)(b:Nat):AExt m (m.kill b) :=
 ⟨Pd _,Nat.min_le_left _ _,fun x _ h=>by
  rw[Sr.eo,Pb]; intro e; subst e; simp at h; omega,
 fun x _ hn=>by rw[Sr.eo]; split<;>first|rfl|exact hn⟩
def yo{j:aY}{n:Nat}{k:Blk}{m':Sr}:∀b,n<=b->b<n+1->(m'.get b).isSome=true->∃k',j.set n k b=some k':=fun b h1 h2 _=>by
 have:b=n:=by omega
 subst this;exact⟨k,aY.cG _ _ _⟩
section
variable{E:Env}{j:aY}{m:Sr}{w:RB}
def MR.oR(h:MR E j m w):j m.next=none:=by
 cases e:j m.next with
 | none=>rfl
 | some k=>exact Pz (h.lt _ _ e).1 (Nat.lt_irrefl _)
def MR.of_heap{w':RB}(h:MR E j m w)(e:w'.heap=w.heap):MR E j m w' :=
 ⟨by rw[e]; exact h.lt,by rw[e]; exact h.obj,h.inj,h.glob⟩
def Sim.of_heap{w':RB}(h:MR E j m w)(e:w'.heap=w.heap)(e2:Calm w w':=by first|exact⟨rfl,rfl,rfl,Pd _⟩|exact⟨rfl,rfl,rfl,Nat.le_succ _⟩):Sim E j m w j m w' :=
 { Sim.refl h with mr:=h.of_heap e,size:=by rw[e]; exact Pd _,frame:=fun c _ _=>by rw[e],calm:=e2.e}
def MR.yf{x:Nat}(h:MR E j m w):MR E j { m with wl:=x} w:=⟨h.lt,h.obj,h.inj,h.glob⟩
def kX(h:MR E j m w){ao:St}{co:Obj}{mo:SA (Nat×Nat×Nat)}(ho:OR j ⟨w.heap.size,mo⟩ ao co) :
  Sim E j m w (j.set m.next ⟨w.heap.size,mo⟩) (m.alloc ao) (w.alloc co):=by
 have hle:j.le (j.set m.next ⟨w.heap.size,mo⟩):=aY.q8 _ h.oR
 have hlt:∀b k,j b=some k->b≠m.next:=fun b k e=>Nat.ne_of_lt (h.lt b k e).1
 refine⟨.alloc m ao,hle,?_,⟨?_,?_,?_,?_⟩,by simp,yo,?_,?_,?_,⟨rfl,rfl,rfl,fun _=>Pd _⟩⟩
 intro b k hb hn
 by_cases e:b=m.next
 exact Ro e.symm
 rw[aY.cD _ _ e,hn] at hb; cases hb
 intro b k hb
 by_cases e:b=m.next
 subst e; rw[aY.cG] at hb; cases hb; simp
 rw[aY.cD _ _ e] at hb;have:=h.lt b k hb;simp; omega
 intro b o k hg hb
 by_cases e:b=m.next
 subst e;rw[aY.cG] at hb; cases hb;rw[Sr.bh,Ph rfl] at hg; cases hg;exact⟨co,World.alloc_heap_new w co,ho.mono hle⟩
 rw[aY.cD _ _ e] at hb;rw[Sr.bh,Pb e] at hg;obtain⟨o',h1,h2⟩:=h.obj b o k hg hb;refine⟨o',?_,h2.mono hle⟩;have hk:=(h.lt b k hb).2
 show(w.heap.push co)[k.c]? = some o'
 rw[Array.getElem?_push,RE]; exact h1
 intro b b' k k' hb hb' hl hl' hc
 by_cases e:b=m.next<;>by_cases e':b'=m.next
 rw[e,e']
 subst e;rw[aY.cG] at hb; cases hb;rw[aY.cD _ _ e'] at hb';exact Pz (h.lt b' k' hb').2 (by simp at hc; omega)
 subst e';rw[aY.cG] at hb'; cases hb';rw[aY.cD _ _ e] at hb;exact Pz (h.lt b k hb).2 (by simp at hc; omega)
 rw[aY.cD _ _ e] at hb;rw[aY.cD _ _ e'] at hb';rw[Sr.bh,Pb e] at hl;rw[Sr.bh,Pb e'] at hl';exact h.inj b b' k k' hb hb' hl hl' hc
 intro g hg; exact hle _ _ (h.glob g hg)
 intro b hb _; rw[Sr.bh,RE]
 intro b k hb hn
 by_cases e:b=m.next
 subst e; rw[aY.cG] at hb; cases hb; exact .inl (Pd _)
 rw[aY.cD _ _ e,hn] at hb; cases hb
 intro c hc _
 show(w.heap.push co)[c]? = w.heap[c]?
 rw[Array.getElem?_push,RE]
def iK(h:MR E j m w){b:Nat}{k:Blk}(hk:j b=some k)(hl:(m.get b).isSome=true){ao:St}{co:Obj}(ho:OR j k ao co) :
  Sim E j m w j (m.set b ao) (w.putObj k.c co):=by
 refine⟨.set ao hl,.refl j,fun x k' e e'=>by simp[e'] at e,⟨?_,?_,?_,h.glob⟩,by simp,fun b h1 h2 _=>Pz h1 (by simp at h2; omega),?_,fun x k' e e'=>by simp[e'] at e,?_,⟨rfl,rfl,rfl,fun _=>Pd _⟩⟩
 intro x k' e; simpa using h.lt x k' e
 intro x o k' hg e
 by_cases hx:x=b
 subst hx;rw[hk] at e; cases e;rw[Sr.bL,Ph rfl] at hg; cases hg;exact⟨co,World.putObj_heap_same (h.lt x k hk).2,ho⟩
 rw[Sr.bL,Pb hx] at hg;obtain⟨o',h1,h2⟩:=h.obj x o k' hg e;refine⟨o',?_,h2⟩;rw[World.putObj_heap_other]
 exact h1
 intro hc;exact hx (h.inj x b k' k e hk (by rw[hg]; rfl) hl hc)
 intro x x' k1 k2 e e' hl1 hl2 hc;refine h.inj x x' k1 k2 e e' ?_ ?_ hc
 rw[Sr.bL] at hl1; split at hl1
 rename_i hx; subst hx; exact hl
 exact hl1
 rw[Sr.bL] at hl2; split at hl2
 rename_i hx; subst hx; exact hl
 exact hl2
 intro x hx hn;rw[Sr.bL,Pb]; intro e; subst e; rw[hk] at hn; cases hn
 intro c hc H;apply World.putObj_heap_other;intro e;have:=H b k hk hl e.symm;simp at this; omega
def Ea(h:MR E j m w){b:Nat}{k0:Blk}(hk0:j b=some k0):Sim E j m w j (m.kill b) w:=by
 refine⟨.kill m b,.refl j,fun x k' e e'=>by simp[e'] at e,⟨h.lt,?_,?_,h.glob⟩,Pd _,fun b h1 h2 _=>Pz h1 (by simp at h2; omega),?_,fun x k' e e'=>by simp[e'] at e,fun _ _ _=>rfl,⟨rfl,rfl,rfl,fun _=>Pd _⟩⟩
 intro x o k hg e;rw[Sr.eo] at hg
 split at hg
 cases hg
 exact h.obj x o k hg e
 intro x x' k k' e e' hl hl' hc;rw[Sr.eo] at hl hl'
 split at hl
 cases hl
 split at hl'
 cases hl'
 exact h.inj x x' k k' e e' hl hl' hc
 intro x hx hn;rw[Sr.eo,Pb];intro e; subst e; rw[hk0] at hn; cases hn
def zx(h:MR E j m w){b:Nat}{k:Blk}(hk:j b=some k)(hl:(m.get b).isSome=true){ao:St}{co:Obj}{mo:SA (Nat×Nat×Nat)}(ho:OR j ⟨k.c,mo⟩ ao co) :
  Sim E j m w (j.set m.next ⟨k.c,mo⟩) ((m.kill b).alloc ao) (w.putObj k.c co):=by
 have hle:j.le (j.set m.next ⟨k.c,mo⟩):=aY.q8 _ h.oR
 have hbn:b<m.next:=(h.lt b k hk).1
 have hkc:k.c<w.heap.size:=(h.lt b k hk).2;have hget:∀x,((m.kill b).alloc ao).get x=if x=m.next then some ao else if x=b then none else m.get x:=by
  intro x; rw[Sr.bh,Sr.eo]; rfl
 refine⟨(AExt.kill m b).trans (AExt.alloc _ ao),hle,?_,⟨?_,?_,?_,fun g hg=>hle _ _ (h.glob g hg)⟩,by simp,yo,?_,?_,?_,⟨rfl,rfl,rfl,fun _=>Pd _⟩⟩
 intro x k' hx hn
 by_cases e:x=m.next
 exact Ro e.symm
 rw[aY.cD _ _ e,hn] at hx; cases hx
 intro x k' hx
 by_cases e:x=m.next
 subst e; rw[aY.cG] at hx; cases hx; simp; exact hkc
 rw[aY.cD _ _ e] at hx;have:=h.lt x k' hx;simp; omega
 intro x o k' hg hx;rw[hget] at hg
 by_cases e:x=m.next
 subst e;rw[aY.cG] at hx; cases hx;rw[Ph rfl] at hg; cases hg;exact⟨co,World.putObj_heap_same hkc,ho.mono hle⟩
 rw[aY.cD _ _ e] at hx;rw[Pb e] at hg
 split at hg
 cases hg
 rename_i hxb;obtain⟨o',h1,h2⟩:=h.obj x o k' hg hx;refine⟨o',?_,h2.mono hle⟩;rw[World.putObj_heap_other]
 exact h1
 intro hc;exact hxb (h.inj x b k' k hx hk (by rw[hg]; rfl) hl hc)
 intro x x' k1 k2 hx hx' hl1 hl2 hc;rw[hget] at hl1 hl2
 by_cases e:x=m.next<;>by_cases e':x'=m.next
 rw[e,e']
 subst e;rw[aY.cG] at hx; cases hx;rw[aY.cD _ _ e'] at hx';rw[Pb e'] at hl2
 split at hl2
 cases hl2
 rename_i hxb;exact Pz (h.inj x' b k2 k hx' hk hl2 hl hc.symm) hxb
 subst e';rw[aY.cG] at hx'; cases hx';rw[aY.cD _ _ e] at hx;rw[Pb e] at hl1
 split at hl1
 cases hl1
 rename_i hxb;exact Pz (h.inj x b k1 k hx hk hl1 hl hc) hxb
 rw[aY.cD _ _ e] at hx;rw[aY.cD _ _ e'] at hx';rw[Pb e] at hl1;rw[Pb e'] at hl2
 split at hl1
 cases hl1
 split at hl2
 cases hl2
 exact h.inj x x' k1 k2 hx hx' hl1 hl2 hc
 intro x hx hn;rw[hget,RE,Pb]
 intro e; subst e; rw[hk] at hn; cases hn
 intro x k' hx hn
 by_cases e:x=m.next
 subst e; rw[aY.cG] at hx; cases hx;exact .inr ⟨b,k,hk,hl,rfl,by simp; omega⟩
 rw[aY.cD _ _ e,hn] at hx; cases hx
 intro c hc H;apply World.putObj_heap_other;intro e;have:=H b k hk hl e.symm;simp at this; omega
def MR.kS(h:MR E j m w){b:Nat}{k:Blk}(hk:j b=some k){cs:SB Rx}{tag:Tag}(hg:m.get b=some (.cells cs tag)) :
  ∃c e fz,w.heap[k.c]? = some (.cells c e fz)/\ud k tag cs.length c fz/\∀(i:Nat) (v:Rx),cs[i]? = some v->∃v',c[i]? = some v'/\VR j v v':=by
 obtain⟨o',h1,h2⟩:=h.obj b _ k hg hk;cases o' with
 | cells c e fz=>exact⟨c,e,fz,h1,h2.1,h2.2⟩
 | _=>exact h2.elim
def MR.cell(h:MR E j m w){b:Nat}{k:Blk}(hk:j b=some k){cs:SB Rx}{tag:Tag}(hg:m.get b=some (.cells cs tag)){o:Nat}{v:Rx}(hv:cs[o]? = some v) :
  ∃v',w.cell? ⟨k.c,o,none⟩=some v'/\VR j v v':=by
 obtain⟨c,e,fz,h1,_,h3⟩:=h.kS hk hg;obtain⟨v',h4,h5⟩:=h3 o v hv;exact⟨v',by simp[World.cell?,h1,h4],h5⟩
def kG(c o i:Nat):(⟨c,o,none⟩:Addr).add i=⟨c,o+i,none⟩:=by
 unfold Addr.add
 split
 rename_i e; subst e; rfl
 rfl
def qP{b o n:Nat}{vs:SB Rx}(hm:m.dq b o n=some vs):∃cs tag,m.get b=some (.cells cs tag)/\vs=(cs.drop o).take n/\vs.length=n:=by
 unfold Sr.dq at hm
 split at hm
 rename_i cs tag hg;simp only at hm
 split at hm
 rename_i hl;cases hm;exact⟨cs,tag,hg,rfl,hl⟩
 cases hm
 cases hm
def MR.dq(h:MR E j m w){b:Nat}{k:Blk}(hk:j b=some k){o n:Nat}{vs:SB Rx}(hm:m.dq b o n=some vs) :
  ∃vs',(∀w0:RB,w0.heap=w.heap->(loadCells ⟨k.c,o,none⟩ n).run E.P w0=.ok vs'.toArray w0)/\LR j vs vs':=by
 obtain⟨cs,tag,hg,rfl,hl⟩:=qP hm;obtain⟨c,e,fz,h1,_,h3⟩:=h.kS hk hg;have hcell:∀i,i<n->∃v v',cs[o+i]? = some v/\c[o+i]? = some v'/\VR j v v':=by
  intro i hi;have:o+i<cs.length:=by simp at hl; omega
  obtain⟨v',a,b⟩:=h3 (o+i) _ (Pl this);exact⟨_,v',Pl this,a,b⟩
 refine⟨(List.range n).map fun i=>c.getD (o+i) undef,fun w0 hw0=>run_loadCells w0 _ n _ ?_,?_⟩
 intro i hi;obtain⟨v,v',_,a,_⟩:=hcell i hi;rw[kG];simp[World.cell?,hw0,h1,a]
 refine⟨by simp; simpa using hl,fun i v hi=>?_⟩
 rw[Rh] at hi
 split at hi
 rename_i hlt;rw[QK] at hi;obtain⟨v1,v',a,b,r⟩:=hcell i hlt;rw[hi] at a; cases a;refine⟨v',?_,r⟩;simp[hlt,b]
 cases hi
def fe(cs:SB Rx)(o:Nat):aT cs o []=cs:=by
 induction cs generalizing o with
 | nil=>cases o<;>rfl
 | cons c cs ih=>cases o<;>simp[aT,ih]
def cx:∀(cs:SB Rx) (o:Nat) (vs:SB Rx),(aT cs o vs).length=cs.length
 | [],0,[]=>rfl
 | [],0,_::_=>rfl
 | [],_+1,_=>rfl
 | _::_,0,[]=>rfl
 | _::cs,0,_::vs=>by simp[aT,cx cs 0 vs]
 | _::cs,o+1,vs=>by simp[aT,cx cs o vs]
def ca:∀(cs:SB Rx) (o:Nat) (vs:SB Rx) (i:Nat),(aT cs o vs)[i]? = if o<=i/\i<o+vs.length/\i<cs.length then vs[i-o]? else cs[i]?
 | [],0,[],i=>by simp[aT]
 | [],0,_::_,i=>by simp[aT]
 | [],_+1,_,i=>by simp[aT]
 | c::cs,0,[],i=>by simp[aT]
 | c::cs,0,v::vs,0=>by simp[aT]
 | c::cs,0,v::vs,i+1=>by
  have:=ca cs 0 vs i;simp only[aT,PT,this,PD,Qf,true_and,PV,Qr,Nat.add_lt_add_iff_right]
 | c::cs,o+1,vs,0=>by simp[aT]
 | c::cs,o+1,vs,i+1=>by
  have:=ca cs o vs i;simp only[aT,PT,this,PD,Nat.add_le_add_iff_right,Nat.add_lt_add_iff_right,Nat.add_sub_add_right,Nat.add_right_comm o 1 vs.length]
def fR:∀(cs:SB Rx) (o:Nat) (v:Rx) (vs:SB Rx),o<cs.length->aT cs o (v::vs)=aT (cs.set o v) (o+1) vs
 | [],_,_,_,h=>by simp at h
 | c::cs,0,v,vs,_=>by simp[aT]
 | c::cs,o+1,v,vs,h=>by simp[aT,fR cs o v vs (by simpa using h)]
def rH{w:RB}{B o:Nat}{c:SD Rx}{e:Ry}{fz:Nat×Nat}(h:w.heap[B]? = some (.cells c e fz))(v:Rx) :
  w.setCell ⟨B,o,none⟩ v=w.putObj B (.cells (c.setIfInBounds o v) e fz):=by
 unfold World.setCell World.putObj
 congr 1
 apply Array.ext_getElem?;intro i;rw[Array.getElem?_modify,Array.getElem?_setIfInBounds]
 by_cases hi:B=i
 subst hi;obtain⟨hlt,hv⟩:=Px.1 h;simp[hlt,hv]
 simp[hi]
def sv{w:RB}{B:Nat}{o o':Obj}:(w.putObj B o).putObj B o'=w.putObj B o':=by
 unfold World.putObj;simp
def oV{w:RB}{B:Nat}{o:Obj}(h:w.heap[B]? = some o):w.putObj B o=w:=by
 unfold World.putObj
 congr 1
 apply Array.ext_getElem?;intro i;rw[Array.getElem?_setIfInBounds]
 split
 rename_i hi; subst hi;obtain⟨hlt,hv⟩:=Px.1 h;simp[hlt,hv]
 rfl
def fC{P:RA}{B:Nat}{e:Ry}:∀(vs:SB Rx) (w:RB) (c:SD Rx) (off i:Nat),w.heap[B]? = some (.cells c e (0,0))->off+i+vs.length<=c.size ->
  bg vs=true->(storeCells ⟨B,off,none⟩ vs i).run P w=.ok () (w.putObj B (.cells (aT c.toList (off+i) vs).toArray e (0,0)))
 | [],w,c,off,i,h,_,_=>by
  simp only[storeCells,SH,fe];rw[show c.toList.toArray=c from rfl,oV h]
 | v::vs,w,c,off,i,h,hlen,hone=>by
  have hlen':off+i+(vs.length+1)<=c.size:=by simpa using hlen
  have hone':k9 v=true/\bg vs=true:=by simpa [bg] using hone
  have hv:v.oneCell'=true:=by
   have:=hone'.1; cases v<;>first|rfl |(simp[k9] at this)
  have hcell:w.cell? ⟨B,off+i,none⟩=some c[off+i]:=by
   simp[World.cell?,h]
  have hfz:w.frozen? ⟨B,off+i,none⟩=false:=by simp[World.frozen?,h]
  have hh:(w.putObj B (.cells (c.setIfInBounds (off+i) v) e (0,0))).heap[B]? = some (.cells (c.setIfInBounds (off+i) v) e (0,0)) :=
   World.putObj_heap_same (Px.1 h).1
  have ih:=fC (P:=P) vs _ (c.setIfInBounds (off+i) v) off (i+1) hh (by simp; omega) hone'.2
  simp only[storeCells,SG,kG];rw[run_store _ _ _ _ _ hv];simp only[hcell,hfz,SE,Pu,if_false,rH h,ih,sv]
  congr 4
  rw[fR _ _ _ _ (by simp; omega)]
  simp[Re]
def Ay{j:aY}{v v':Rx}(h:VR j v v')(ho:k9 v=true):k9 v'=true:=by
 cases h<;>first|rfl|exact sT ‹_› |(simp[k9] at ho)
def lN{j:aY}{vs vs':SB Rx}(h:LR j vs vs')(ho:bg vs=true):bg vs'=true:=by
 induction vs generalizing vs' with
 | nil=>rw[h.da]; rfl
 | cons v vs ih =>
  obtain⟨y,ys,rfl,h1,h2⟩:=h.cons_inv;simp only[bg,Qq,Pe] at ho ⊢;exact⟨Ay h1 ho.1,ih h2 ho.2⟩
def xn{b o:Nat}{vs:SB Rx}{m':Sr}(hm:m.cE b o vs=some m') :
  (vs=[]/\m'=m)\/∃cs tag,m.get b=some (.cells cs tag)/\tag≠.ro/\o+vs.length<=cs.length/\m'=m.set b (.cells (aT cs o vs) tag):=by
 unfold Sr.cE at hm
 split at hm
 cases hm; exact .inl ⟨rfl,rfl⟩
 split at hm
 cases hm
 rename_i cs tag hro hg
 split at hm
 rename_i hl;cases hm;exact .inr ⟨cs,tag,hg,fun e=>hro e,hl,rfl⟩
 cases hm
 cases hm
def hJ(h:MR E j m w){b:Nat}{k:Blk}(hk:j b=some k){o:Nat}{vs vs':SB Rx}(hv:LR j vs vs')(ho:bg vs=true){m':Sr}(hm:m.cE b o vs=some m') :
  ∃w',(storeCells ⟨k.c,o,none⟩ vs').run E.P w=.ok () w'/\Sim E j m w j m' w':=by
 rcases xn hm with⟨rfl,rfl⟩|⟨cs,tag,hg,hro,hl,rfl⟩
 rw[hv.da];exact⟨w,rfl,.refl h⟩
 ·obtain⟨c,e,fz,h1,h2,h3⟩:=h.kS hk hg;have hfz:fz=(0,0)/\cs.length<=c.size:=by
   cases tag with
   | ro=>exact Pz rfl hro
   | own=>exact⟨h2.2.2,by rw[h2.2.1]; exact Pd _⟩
   | more sz=>exact⟨h2.2.2.1,h2.2.1⟩
  obtain⟨rfl,hsz⟩:=hfz;refine⟨_,fC vs' w c o 0 h1 (by rw[<-hv.1]; simp; omega) (lN hv ho),iK h hk (by rw[hg]; rfl) ⟨?_,?_⟩⟩
  rw[cx];have:(aT c.toList (o+0) vs').toArray.size=c.size:=by simp[cx]
  exact h2.put this fun i hi=>by
   rw[PH,ca,Pb (by rw[<-hv.1]; omega)]; simp
  intro i v hi;rw[ca] at hi;have:(aT c.toList (o+0) vs').toArray[i]? = if o<=i/\i<o+vs'.length/\i<c.size then vs'[i-o]? else c[i]?:=by
   rw[PH,ca]; simp
  rw[this]
  by_cases hc:o<=i/\i<o+vs.length/\i<cs.length
  rw[Ph hc] at hi;rw[Ph ⟨hc.1,hv.1▸hc.2.1,by omega⟩]
  exact hv.2 _ v hi
  rw[Pb hc] at hi;have hi':=(PN.1 hi).1;rw[Pb (by rw[<-hv.1]; omega)]
  exact h3 i v hi
end
section
variable{P:RA}{w:RB}
def qp{t:Ry}{i:TypeInfo}(h:P.info? t=some i)(w:RB):(typeInfo t).run P w=.ok i w:=by simp[typeInfo,h]
def cA{t:Ry}(h:known P t=true)(w:RB):(sizeOf t).run P w=.ok (aE P t) w:=by
 simp only[known,Pe,Option.isSome_iff_exists] at h;obtain⟨_,i,hi⟩:=h;simp[sizeOf,qp hi,aE,Program.cellsOf,hi]
def kU{t:Ry}(h:known P t=true)(w:RB):(isAgg t).run P w=.ok (dK P t) w:=by
 simp only[known,Pe,Option.isSome_iff_exists] at h;obtain⟨⟨d,hd⟩,_⟩:=h;simp only[isAgg,SG,SI hd,SE,dK,hd];cases d<;>rfl
def ib{t:Ry}{z:Rx}(h:bK P t=some z)(w:RB):(zeroValue t).run P w=.ok z w:=by
 unfold bK at h;cases hi:P.info? t with
 | none=>rw[hi] at h; cases h
 | some i =>
  rw[hi] at h;have hz:i.zero=some z:=h;simp[zeroValue,qp hi,hz]
def uC{t:Ry}{z:Rx}(h:bK P t=some z):∃i,P.info? t=some i/\i.zero=some z:=by
 unfold bK at h;cases hi:P.info? t with
 | none=>rw[hi] at h; cases h
 | some i=>rw[hi] at h; exact⟨i,rfl,h⟩
def LR.extract{j:aY}{xs ys:SD Rx}(h:LR j xs.toList ys.toList)(a b:Nat):LR j (xs.extract a b).toList (ys.extract a b).toList:=by
 simp only[Array.toList_extract];exact(h.drop a).take (b-a)
def mC{j:aY}{t:Ry}{cs cs':SD Rx}{off:Nat}{v:Rx}(h:eQ P t cs off=some v)(hc:LR j cs.toList cs'.toList) :
  ∃v',(∀w,(part t cs' off).run P w=.ok v' w)/\VR j v v':=by
 unfold eQ at h
 split at h
 cases h
 rename_i hk;have hk':known P t=true:=by simpa using hk
 split at h
 rename_i ha;cases h;refine⟨.agg (cs'.extract off (off+aE P t)),fun w=>?_,.CE (hc.extract _ _)⟩;simp[part,kU hk',ha,cA hk']
 rename_i ha;have:cs.toList[off]? = some v:=by simpa using h
 obtain⟨v',h1,h2⟩:=hc.get this;refine⟨v',fun w=>?_,h2⟩;have h1':cs'[off]? = some v':=by simpa using h1
 have ha':dK P t=false:=by simpa using ha
 simp[part,kU hk',ha',h1']
def gr(d:Nat)(xs ys:SD Rx):SB (Ry×Nat)->Sem Bool
 | []=>pure true
 |(t,off)::rest=>do
  let a <-part t xs off
  let b <-part t ys off
  let r <-Op.equalIn d t a b
  if(!r)=true then pure false else gr d xs ys rest
def il (d : Nat) (xs ys : SD Rx) : ∀ (fs : SB Field) (w : RB), fs.any (·.name == "_") = false ->
  (Op.eqFields d xs ys fs).run P w=(gr d xs ys (fs.map fun f=>(f.type,f.offset))).run P w
 | [],_,_=>rfl
 | f::fs,w,h=>by
  simp only[List.any_cons,Bool.or_eq_false_iff] at h;have hn : f.name ≠ "_" := by simpa using h.1
  simp only[Op.eqFields,Ph hn,PS,gr,SG,Sem.run_ite]
  congr 1; funext a w1; congr 1; funext b w2; congr 1; funext r w3
  split
  rfl
  exact il d xs ys fs w3 h.2
def run_equalIn_array(d:Nat)(t:Ry)(len:Nat)(elem:Ry)(xs ys:SD Rx)(ht:P.underlying t=some (.array len elem))(he:known P elem=true)(w:RB) :
  (Op.equalIn (d+1) t (.agg xs) (.agg ys)).run P w=(gr d xs ys ((List.range len).map fun i=>(elem,i*aE P elem))).run P w:=by
 simp only[Op.equalIn,SG,SI ht,SE,cA he];rw[Std.Legacy.Range.forIn_eq_forIn_range'];simp only[Std.Legacy.Range.size,Qr,Rg,Nat.div_one];rw[<-List.range_eq_range'];generalize List.range len=is
 induction is generalizing w with
 | nil=>simp[gr]
 | cons i is ih =>
  simp only[List.forIn_cons,PS,gr,SG,Sem.run_ite];generalize(part elem xs (i*aE P elem)).run P w=r1;cases r1 with
  | ok a w1 =>
   simp only[SE];generalize(part elem ys (i*aE P elem)).run P w1=r2;cases r2 with
   | ok b w2 =>
    simp only[SE];generalize(Op.equalIn d elem a b).run P w2=r3;cases r3 with
    | ok r w3 =>
     cases r
     simp only[SE,PQ,if_true,SH]
     simp only[SE,PE,Pu,if_false,SH];exact ih w3
    | halt x w3=>simp[Result.andThen]
   | halt x w2=>simp[Result.andThen]
  | halt x w1=>simp[Result.andThen]
def j5{j:aY}{d:Nat}(ih:∀{t:Ry} {x y x' y':Rx} {b:Bool},iY P d t x y=some b->VR j x x'->VR j y y'->∀w,(Op.equalIn d t x' y').run P w=.ok b w)
  {xs ys xs' ys':SD Rx} (hx:LR j xs.toList xs'.toList) (hy:LR j ys.toList ys'.toList) :
  ∀(l:SB (Ry×Nat)) {b:Bool},gV (iY P d) P xs ys l=some b->∀w,(gr d xs' ys' l).run P w=.ok b w
 | [],b,h,w=>by cases h; rfl
 | (t,off)::rest,b,h,w=>by
  simp only[gV] at h
  split at h
  ·rename_i x y h1 h2;obtain⟨x',e1,r1⟩:=mC h1 hx;obtain⟨y',e2,r2⟩:=mC h2 hy;simp only[gr,SG,e1,e2,SE]
   split at h
   rename_i he;rw[ih he r1 r2 w];simp only[SE,PE,Pu,if_false];exact j5 ih hx hy rest h w
   ·rename_i hne;cases b with
    | true=>exact Pz h hne
    | false =>
     rw[ih h r1 r2 w];simp
  cases h
def jG{j:aY}:∀(d:Nat) {t:Ry} {x y x' y':Rx} {b:Bool},iY P d t x y=some b->VR j x x'->VR j y y'->∀w,(Op.equalIn d t x' y').run P w=.ok b w
 | 0,_,_,_,_,_,_,h,_,_,_=>by cases h
 | d+1,t,x,y,x',y',b,h,hx,hy,w=>by
  unfold iY at h
  split at h
  rename_i ht; cases h; cases hx; cases hy; simp only[Op.equalIn,SG,SI ht,SE,SH]
  rename_i ht
  split at h
  rename_i hk; cases h; cases hx; cases hy; simp only[Op.equalIn,SG,SI ht,SE,SH,Ph hk]
  cases h
  rename_i ht; cases h; cases hx; cases hy; simp only[Op.equalIn,SG,SI ht,SE,SH]
  rename_i ht; cases h; cases hx; cases hy<;>simp only[Op.equalIn,SG,SI ht,SE,SH]<;>rfl
  rename_i ht; cases h; cases hx; cases hy; simp only[Op.equalIn,SG,SI ht,SE,SH]
  rename_i ht; cases h; cases hx; cases hy<;>simp only[Op.equalIn,SG,SI ht,SE,SH]<;>rfl
  rename_i ht; cases h; cases hy; cases hx<;>simp only[Op.equalIn,SG,SI ht,SE,SH]
  rename_i ht; cases h; cases hx; cases hy<;>simp only[Op.equalIn,SG,SI ht,SE,SH]<;>rfl
  rename_i ht; cases h; cases hy; cases hx<;>simp only[Op.equalIn,SG,SI ht,SE,SH]
  rename_i ht; cases h; cases hx; cases hy; simp only[Op.equalIn,SG,SI ht,SE,SH]
  rename_i ht; cases h; cases hx; cases hy<;>simp only[Op.equalIn,SG,SI ht,SE,SH]
  rename_i ht; cases h; cases hy; cases hx<;>simp only[Op.equalIn,SG,SI ht,SE,SH]
  ·rename_i fs xs ys ht
   split at h
   cases h
   ·rename_i hs;simp only[Qo,not_or,Bool.not_eq_true] at hs;cases hx with
    | agg h1 h2 =>
    cases hy with
    | agg h3 h4 =>
    have hf:P.fieldsOf t=fs:=by simp[Program.fieldsOf,ht]
    rw[run_equalIn_struct _ d t _ _ (by rw[hf]; exact ht) hs.1,hf,il _ _ _ _ _ (by simpa using hs.2)]
    exact j5 (fun a b c w=>jG d a b c w) (LR.eZ h1 h2) (LR.eZ h3 h4) _ h w
  ·rename_i len elem xs ys ht
   split at h
   ·rename_i hk;cases hx with
    | agg h1 h2 =>
    cases hy with
    | agg h3 h4 =>
    rw[run_equalIn_array d t len elem _ _ ht hk];exact j5 (fun a b c w=>jG d a b c w) (LR.eZ h1 h2) (LR.eZ h3 h4) _ h w
   cases h
  cases h
end
def lE(P:RA)(s:Sem Rx)(v:Rx):Prop:=∀w,s.run P w=.ok v w
section
variable{P:RA}{j:aY}
def dO(op:BinOp)(t:Ry)(x y:Rz){a b:Rx}(h1:∀xs ys,a=.agg xs->b=.agg ys->False)(h2:a≠.nilIface)(w:RB) :
  (eqGuard op t x y a b).run P w=.ok () w:=by
 unfold eqGuard;cases op<;>simp only[PQ,PE,if_true,Pu,if_false,SH]<;>
  (split
   exact Pz rfl h2
   exact(h1 _ _ rfl rfl).elim
   rfl)
def kV:Rx->Bool
 | .bool _|.pointer _|.slice _ _ _|.map _|.func _ _ _|.nilFunc=>true
 | _=>false
def binOp_eql{t:Ry}{x y:Rx}(h:kV x=true):binOp .eql t x y=(do pure (.bool (<-Op.equal t x y))):=by
 cases x<;>first |(simp[kV] at h; done) |(cases y<;>rfl)
def binOp_neq{t:Ry}{x y:Rx}(h:kV x=true):binOp .neq t x y=(do pure (.bool (!(<-Op.equal t x y)))):=by
 cases x<;>first |(simp[kV] at h; done) |(cases y<;>rfl)
def Hi {op:BinOp} {t:Ry} {x y x' y' v:Rx} (h:bU op t P x y=some v) (hx:VR j x x') (hy:VR j y y') (ox oy:Rz) :
  ∃v',lE P (do eqGuard op t ox oy x' y'; binOp op t x' y') v'/\VR j v v':=by
 unfold bU at h
 split at h
 case h_1 =>
  cases hx; cases hy
  split at h
  cases h
  rename_i hb;cases h;refine⟨_,fun w=>?_,.int _ _⟩;rw[SG,dO _ _ _ _ (by intro _ _ e; cases e) (by intro e; cases e)]
  simp only[SE,binOp,Op.shift,Pb hb,SH]
 case h_2 =>
  cases hx; cases hy
  split at h
  cases h
  rename_i hb;cases h;refine⟨_,fun w=>?_,.int _ _⟩;rw[SG,dO _ _ _ _ (by intro _ _ e; cases e) (by intro e; cases e)]
  simp only[SE,binOp,Op.shift,Pb hb,SH]
 case h_12 =>
  cases hx; cases hy
  split at h
  rename_i hk
  split at h
  cases h
  rename_i hb;cases h;refine⟨_,fun w=>?_,.int _ _⟩;rw[SG,dO _ _ _ _ (by intro _ _ e; cases e) (by intro e; cases e)]
  simp only[SE,binOp,hk,ne_eq,not_true_eq_false,if_false,Op.intDiv,Pb hb,SH]
  cases h
 case h_13 =>
  cases hx; cases hy
  split at h
  rename_i hk
  split at h
  cases h
  rename_i hb;cases h;refine⟨_,fun w=>?_,.int _ _⟩;rw[SG,dO _ _ _ _ (by intro _ _ e; cases e) (by intro e; cases e)]
  simp only[SE,binOp,hk,ne_eq,not_true_eq_false,if_false,Op.intDiv,Pb hb,SH]
  cases h
 case h_18 =>
  cases h; cases hx; cases hy;refine⟨_,fun w=>?_,.bool _⟩;rw[SG,dO _ _ _ _ (by intro _ _ e; cases e) (by intro e; cases e)]
  simp only[SE,binOp,Op.stringOp,SH,beq_toListBytes]
 case h_19 =>
  cases h; cases hx; cases hy;refine⟨_,fun w=>?_,.bool _⟩;rw[SG,dO _ _ _ _ (by intro _ _ e; cases e) (by intro e; cases e)]
  simp only[SE,binOp,Op.stringOp,SH,bne,beq_toListBytes]
 case h_20=>cases h
 case h_21 =>
  cases hx with
  | agg h1 h2 =>
  cases hy with
  | agg h3 h4 =>
  split at h
  cases h
  ·rename_i hg;cases he:iY P Op.maxDepth t (.agg _) (.agg _) with
   | none=>rw[he] at h; cases h
   | some b =>
    rw[he] at h; cases h;refine⟨_,fun w=>?_,.bool _⟩;have:=jG (P:=P) Op.maxDepth he (.agg h1 h2) (.agg h3 h4) w;have hg':P.eqGuardType P.depth t=false:=by simpa using hg
    rw[SG,run_eqGuard_agg w _ _ _ _ _ _ hg'];simp only[SE,binOp,Op.equal,SG,this,SH]
 case h_22 =>
  cases hx with
  | agg h1 h2 =>
  cases hy with
  | agg h3 h4 =>
  split at h
  cases h
  ·rename_i hg;cases he:iY P Op.maxDepth t (.agg _) (.agg _) with
   | none=>rw[he] at h; cases h
   | some b =>
    rw[he] at h; cases h;refine⟨_,fun w=>?_,.bool _⟩;have:=jG (P:=P) Op.maxDepth he (.agg h1 h2) (.agg h3 h4) w;have hg':P.eqGuardType P.depth t=false:=by simpa using hg
    rw[SG,run_eqGuard_agg w _ _ _ _ _ _ hg'];simp only[SE,binOp,Op.equal,SG,this,SH]
 case h_23 =>
  have key:kV x'=true/\∃b,iY P Op.maxDepth t x y=some b/\v=.bool b:=by
   split at h<;>first
    |(cases h; done)
    | (refine⟨?_,?_⟩
       cases hx<;>rfl
       ·cases he:iY P Op.maxDepth t _ y with
        | none=>rw[he] at h; cases h
        | some b=>rw[he] at h; cases h; exact⟨b,rfl,rfl⟩)
  obtain⟨hs,b,he,rfl⟩:=key;refine⟨_,fun w=>?_,.bool b⟩;rw[SG,dO _ _ _ _ (by intro _ _ e; subst e; cases hs) (by intro e; subst e; cases hs),SE,binOp_eql hs]
  simp only[Op.equal,SG,jG _ he hx hy,SE,SH]
 case h_24 =>
  have key:kV x'=true/\∃b,iY P Op.maxDepth t x y=some b/\v=.bool (!b):=by
   split at h<;>first
    |(cases h; done)
    | (refine⟨?_,?_⟩
       cases hx<;>rfl
       ·cases he:iY P Op.maxDepth t _ y with
        | none=>rw[he] at h; cases h
        | some b=>rw[he] at h; cases h; exact⟨b,rfl,rfl⟩)
  obtain⟨hs,b,he,rfl⟩:=key;refine⟨_,fun w=>?_,.bool (!b)⟩;rw[SG,dO _ _ _ _ (by intro _ _ e; subst e; cases hs) (by intro e; subst e; cases hs),SE,binOp_neq hs]
  simp only[Op.equal,SG,jG _ he hx hy,SE,SH]
 case h_25=>cases h
 all_goals
  cases hx; cases hy
  split at h
  rename_i hk;cases h;refine⟨_,fun w=>?_,(by first|exact .bool _|exact .int _ _)⟩
  rw[SG,dO _ _ _ _ (by intro _ _ e; cases e) (by intro e; cases e)]
  simp only[SE,binOp,hk,ne_eq,not_true_eq_false,if_false,Op.intArith,Op.intBits,Op.intCmp,SH]
  cases h
def Kg{op:UnOp}{x x' v:Rx}(h:yO op x=some v)(hx:VR j x x'):∃v',lE P (Op.unary op x') v'/\VR j v v':=by
 unfold yO at h
 split at h
 cases h; cases hx; exact⟨_,fun w=>rfl,.int _ _⟩
 cases h; cases hx; exact⟨_,fun w=>rfl,.int _ _⟩
 cases h; cases hx; exact⟨_,fun w=>rfl,.bool _⟩
 cases h
def E6{s d:Ry}{x x' v:Rx}(h:fO P s d x=some v)(hx:VR j x x'):∃v',lE P (convert s d x') v'/\VR j v v':=by
 unfold fO at h
 split at h
 rename_i e1 e2;cases h; cases hx;refine⟨_,fun w=>?_,.int _ _⟩;simp only[convert,SG,SI e1,SI e2,SE,Conv.intToInt,SH]
 rename_i e1 e2;cases h; cases hx;refine⟨_,fun w=>?_,.string _⟩;simp only[convert,SG,SI e1,SI e2,SE]
 rfl
 cases h
end
section
variable{P:RA}{j:aY}
def cells_one{v:Rx}(h:k9 v=true):v.cells.toList=[v]:=by
 cases v<;>first|rfl |(simp[k9] at h)
def gv{v v':Rx}(h:VR j v v'):LR j v.cells.toList v'.cells.toList:=by
 cases h with
 | junk h=>rw[cells_one (sT h)]; exact LR.cons (.junk h) (.nil j)
 | agg h1 h2=>exact LR.eZ h1 h2
 | bool b=>exact LR.cons (.bool b) (.nil j)
 | int k n=>exact LR.cons (.int k n) (.nil j)
 | string s=>exact LR.cons (.string s) (.nil j)
 | pnil=>exact LR.cons .pnil (.nil j)
 | ptr h=>exact LR.cons (.ptr h) (.nil j)
 | snil l c=>exact LR.cons (.snil l c) (.nil j)
 | slice h hm=>exact LR.cons (.slice h hm) (.nil j)
 | sliceM h hm h1 h2 hl hc=>exact LR.cons (.sliceM h hm h1 h2 hl hc) (.nil j)
 | gJ=>exact LR.cons .gJ (.nil j)
 | dry=>exact LR.cons .dry (.nil j)
 | mnil=>exact LR.cons .mnil (.nil j)
 | map h=>exact LR.cons (.map h) (.nil j)
 | func h1 h2 h3 h4=>exact LR.cons (.func h1 h2 h3 h4) (.nil j)
 | yield h h1 h2=>exact LR.cons (.yield h h1 h2) (.nil j)
 | nilFunc=>exact LR.cons .nilFunc (.nil j)
 | nilIface=>exact LR.cons .nilIface (.nil j)
 | tuple h1 h2=>exact LR.cons (.tuple h1 h2) (.nil j)
def LR.KV{cs cs' vs vs':SB Rx}(h:LR j cs cs')(hv:LR j vs vs')(o:Nat):LR j (aT cs o vs) (aT cs' o vs') :=
 ⟨by rw[cx,cx,h.1],fun i v hi=>by
  rw[ca] at hi ⊢;rw[<-hv.1,<-h.1]
  split at hi
  rename_i hc; rw[Ph hc]; exact hv.2 _ v hi
  rename_i hc; rw[Pb hc]; exact h.2 _ v hi⟩
def nj(off:Nat):∀(l:SB Rx) (k:Nat) (cs:SD Rx),off+k+l.length<=cs.size ->
  (l.zipIdx k).foldl (fun(cs:SD Rx) (x:Rx×Nat)=>cs.setIfInBounds (off+x.2) x.1) cs=(aT cs.toList (off+k) l).toArray
 | [],k,cs,_=>by simp[fe]
 | v::l,k,cs,h=>by
  have h':off+k+(l.length+1)<=cs.size:=by simpa using h
  simp only[List.zipIdx_cons,List.foldl_cons];rw[nj off l (k+1) _ (by simp; omega),fR _ _ _ _ (by simp; omega)]
  simp[Re]
def nG{place:Nat->SA (Nat×Nat)}:∀{ps:SB (Nat×Rx)} {ps':SB (Nat×Rx)} {cells cells' r:SB Rx},ps.map (·.1)=ps'.map (·.1)->LR j (ps.map (·.2)) (ps'.map (·.2)) ->
  LR j cells cells'->gI place cells ps=some r->∃r',Instr.fill place cells'.toArray ps'=some r'.toArray/\LR j r r'
 | [],ps',cells,cells',r,h1,_,hc,h=>by
  cases ps' with
  | nil=>cases h; exact⟨cells',rfl,hc⟩
  | cons _ _=>simp at h1
 | (i,v)::rest,ps',cells,cells',r,h1,h2,hc,h=>by
  cases ps' with
  | nil=>simp at h1
  | cons p rest' =>
   obtain⟨i',v'⟩:=p;simp only[PS,List.cons.injEq] at h1;obtain⟨rfl,h1⟩:=h1;have hv:=h2.head;have hrest:=h2.tail;simp only[gI] at h
   split at h
   cases h
   rename_i off size hp
   split at h
   cases h
   rename_i hcond;have hcells:=gv hv;have hsz:v.cells.size=v'.cells.size:=by simpa using hcells.1
   have hlen:cells.length=cells'.length:=hc.1;have hcond':¬((v'.cells.size≠size||off+v'.cells.size>cells'.toArray.size)=true):=by
    rw[<-hsz]; simpa [<-hlen] using hcond
   simp only[Instr.fill,hp,Pb hcond'];have hle:off+0+v'.cells.toList.length<=cells'.toArray.size:=by
    simp only[Qo,not_or,Pv] at hcond';simp; have:=hcond'.2; simp at this; omega
   have hfold:=nj off v'.cells.toList 0 cells'.toArray hle;have hz:v'.cells.zipIdx.foldl (fun cs x=>cs.setIfInBounds (off+x.2) x.1) cells'.toArray=(aT cells' off v'.cells.toList).toArray:=by
    rw[<-Array.foldl_toList,Array.toList_zipIdx];exact hfold
   rw[show(v'.cells.zipIdx.foldl (fun cs (x:Rx×Nat)=>match x with |(c,j)=>cs.setIfInBounds (off+j) c) cells'.toArray)=(aT cells' off v'.cells.toList).toArray from hz]
   exact nG h1 hrest (hc.KV hcells off) h
def tB:∀(l:SB Field) (w:RB),l.all (fun f=>known P f.type)=true ->
  (l.mapM fun(f:Field)=>(do pure (f.offset,<-sizeOf f.type):Sem (Nat×Nat))).run P w=.ok (l.map fun f=>(f.offset,aE P f.type)) w
 | [],w,_=>rfl
 | f::l,w,h=>by
  simp only[Qq,Pe] at h;simp only[List.mapM_cons,SG,cA h.1,SE,SH,tB l w h.2,PS]
def Dn(fields:SD Field)(h:fields.toList.all (fun f=>known P f.type)=true)(w:RB) :
  (fields.mapM fun(f:Field)=>(do pure (f.offset,<-sizeOf f.type):Sem (Nat×Nat))).run P w=.ok (fields.map fun f=>(f.offset,aE P f.type)) w:=by
 obtain⟨l⟩:=fields;simp only[List.mapM_toArray,Sem.run_map,List.map_toArray];rw[tB l w h]; rfl
def Cu{t:Ry}{ps ps':SB (Nat×Rx)}{v:Rx}(h:jC P t ps=some v)(h1:ps.map (·.1)=ps'.map (·.1))(h2:LR j (ps.map (·.2)) (ps'.map (·.2)))
  {z:Rx} (hz:bK P t=some z) (hp:bF z=true):∃v',lE P (Instr.build t ps'.toArray) v'/\VR j v v':=by
 have hzc:LR j z.cells.toList z.cells.toList:=gv (VR.bF hp);unfold jC at h;rw[hz] at h
 split at h
 ·rename_i z0 fields hz0 hu;cases hz0
  split at h
  ·rename_i hall;cases hf:gI (fun i=>(fields[i]?).map fun f=>(f.offset,aE P f.type)) z.cells.toList ps with
   | none=>rw[hf] at h; cases h
   | some r =>
    rw[hf] at h; cases h;obtain⟨r',h3,h4⟩:=nG h1 h2 hzc hf;refine⟨.agg r'.toArray,fun w=>?_,.CE (by simpa using h4)⟩
    have hpl:(fun(i:Nat)=>(fields.map fun(f:Field)=>(f.offset,aE P f.type))[i]?)=fun i=>(fields[i]?).map fun(f:Field)=>(f.offset,aE P f.type):=by
     funext i; simp
    simp only[Instr.build,SG,ib hz,SI hu,SE,Dn fields hall,hpl];have h3':Instr.fill _ z.cells ps'=some r'.toArray:=h3;rw[h3']; rfl
  cases h
 ·rename_i z0 n elem hz0 hu;cases hz0
  split at h
  ·rename_i hk;cases hf:gI (fun i=>some (i*aE P elem,aE P elem)) z.cells.toList ps with
   | none=>rw[hf] at h; cases h
   | some r =>
    rw[hf] at h; cases h;obtain⟨r',h3,h4⟩:=nG h1 h2 hzc hf;refine⟨.agg r'.toArray,fun w=>?_,.CE (by simpa using h4)⟩
    simp only[Instr.build,SG,ib hz,SI hu,SE,cA hk];have h3':Instr.fill _ z.cells ps'=some r'.toArray:=h3;rw[h3']; rfl
  cases h
 cases h
def gZ{x x':Rx}{y l:Nat}(h:jO x y=some l)(hx:VR j x x'){y':Nat}(hy:y<=y')(code:BoundsCode)(w:RB) :
  (Instr.sliceBound x' y' code).run P w=.ok l w/\l<=y:=by
 unfold jO at h
 split at h
 rename_i k i
 split at h
 rename_i hc;cases h;cases hx;refine⟨?_,by omega⟩
 simp only[Instr.sliceBound,asIntOf,SG,SH,SE];rw[Ph ⟨hc.1,by omega⟩]; rfl
 cases h
 cases h
def gA(mx:SA Rx)(c m:Nat):Nat:=match mx with|none=>c|some _=>m
inductive OVR(j:aY):SA Rx->SA Rx->Prop
 | none:OVR j none none
 | some {v v':Rx} (h:VR j v v'):OVR j (some v) (some v')
def im{len cap:Nat}{lo hi mx:SA Rx}{l h m:Nat}(e:dN len cap lo hi mx=some (l,h,m)):l<=h/\m<=cap/\(hi.isSome=true->h<=m)/\(hi=none->h=len/\mx=none)/\(mx=none->m=cap):=by
 have hb:∀(x:Rx) (y l:Nat),jO x y=some l->l<=y:=by
  intro x y l h;unfold jO at h
  split at h
  split at h
  rename_i hc; cases h; omega
  cases h
  cases h
 unfold dN at e
 split at e
 cases e
 ·rename_i m' hm
  split at e
  cases e
  ·rename_i h' hh
   split at e
   cases e
   ·rename_i l' hl;cases e;have h1:m<=cap:=by
     cases mx with
     | none=>simp at hm; omega
     | some v=>exact hb _ _ _ hm
    have h2:hi.isSome=true->h<=m:=by
     cases hi with
     | none=>intro e; cases e
     | some v=>intro _; cases mx<;>exact hb _ _ _ hh
    have h3:hi=none->h=len/\mx=none:=by
     intro e; subst e;cases mx with
     | none=>simp at hh; exact⟨hh.symm,rfl⟩
     | some v=>simp at hh
    have h4:l<=h:=by
     cases lo with
     | none=>simp at hl; omega
     | some v=>exact hb _ _ _ hl
    have h5:mx=none->m=cap:=by intro e; subst e; simpa using hm.symm
    exact⟨h4,h1,h2,h3,h5⟩
def ee {len cap cap':Nat} {lo hi mx lo' hi' mx':SA Rx} {l h m:Nat} (e:dN len cap lo hi mx=some (l,h,m)) (h1:OVR j lo lo') (h2:OVR j hi hi') (h3:OVR j mx mx') (hc:cap<=cap') (b:Bool) (w:RB) :
  (Instr.sliceBounds b len cap' lo' hi' mx').run P w=.ok (l,h,gA mx cap' m) w:=by
 unfold dN at e
 split at e
 cases e
 ·rename_i m' hm
  split at e
  cases e
  ·rename_i h' hh
   split at e
   cases e
   ·rename_i l' hl;cases e;cases h3 with
    | none =>
     have hm':cap=m:=by simpa using hm
     subst hm';cases h2 with
     | none =>
      have hh':len=h:=by simpa using hh
      subst hh';cases h1 with
      | none =>
       have:0=l:=by simpa using hl
       subst this;simp only[gA,Instr.sliceBounds,SG,SH,SE]
      | some r1 =>
       have:=(gZ (P:=P) (by simpa using hl) r1 (Pd _) .sliceB w).1
       simp only[gA,Instr.sliceBounds,SG,SH,SE,Option.isSome_none,Pu,if_false,this]
     | some r2 =>
      have e2:=gZ (P:=P) (by simpa using hh) r2 hc (if b then .sliceAcap else .sliceAlen) w
      cases h1 with
      | none =>
       have:0=l:=by simpa using hl
       subst this;simp only[gA,Instr.sliceBounds,SG,SH,SE,e2.1]
      | some r1 =>
       have:=(gZ (P:=P) (by simpa using hl) r1 (Pd _) .sliceB w).1
       simp only[gA,Instr.sliceBounds,SG,SH,SE,Option.isSome_none,Pu,if_false,e2.1,this]
    | some r3 =>
     have e3:=gZ (P:=P) (by simpa using hm) r3 hc (if b then .slice3Acap else .slice3Alen) w
     cases h2 with
     | none=>simp at hh
     | some r2 =>
      have e2:=(gZ (P:=P) (by simpa using hh) r2 (Pd _) .slice3B w).1
      cases h1 with
      | none =>
       have:0=l:=by simpa using hl
       subst this;simp only[gA,Instr.sliceBounds,SG,SH,SE,e2,e3.1]
      | some r1 =>
       have:=(gZ (P:=P) (by simpa using hl) r1 (Pd _) .slice3C w).1
       simp only[gA,Instr.sliceBounds,SG,SH,SE,Option.isSome_some,if_true,e2,e3.1,this]
def ew(c o i:Nat):(⟨c,o,none⟩:Addr).add i=⟨c,o+i,none⟩:=by
 unfold Addr.add
 split
 rename_i e; subst e; rfl
 rfl
def MR.kindOf{E:Env}{m:Sr}{w:RB}(h:MR E j m w){b:Nat}{k:Blk}(hk:j b=some k){cs:SB Rx}{tag:Tag}(hg:m.get b=some (.cells cs tag)) :
  match tag with
  | .more sz=>∃nc,k.more=some (sz,cs.length,nc)/\0<sz
  | _=>k.more=none:=by
 obtain⟨o',h1,h2⟩:=h.obj b _ k hg hk;cases o' with
 | cells c e fz =>
  have:=h2.1;cases tag with
  | ro=>exact this.1
  | own=>exact this.1
  | more sz=>exact⟨_,this.1,this.2.2.2.1⟩
 | _=>exact h2.elim
def BX {E:Env} {m:Sr} {w:RB} (h:MR E j m w) {t:Ry} {x x' v:Rx} {lo hi mx lo' hi' mx':SA Rx} (e:cj E.P t x lo hi mx m=some v) (hx:VR j x x') (h1:OVR j lo lo') (h2:OVR j hi hi') (h3:OVR j mx mx') :
  ∃v',lE E.P (Instr.sliceAt t x' lo' hi' mx') v'/\VR j v v':=by
 unfold cj at e
 split at e
 ·
  rename_i elem len cap hu
  split at e
  ·rename_i hk
   split at e
   ·rename_i l hh mm hb;cases e; cases hx;refine⟨_,fun w=>?_,.snil _ _⟩;have:=ee (P:=E.P) (cap':=cap) hb h1 h2 h3 (Pd _) true w;have hm:gA mx cap mm=mm:=by
     cases mx with
     | none=>exact((im hb).2.2.2.2 rfl).symm
     | some _=>rfl
    rw[hm] at this;simp only[Instr.sliceAt,Instr.slice,SG,SI hu,SE,this,cA hk,SH]
    split<;>rfl
   cases e
  cases e
 ·rename_i elem b o len cap hu
  split at e
  ·rename_i hk
   split at e
   ·rename_i cs sz hg
    split at e
    cases e
    ·rename_i hsz;have hsz:sz=aE E.P elem:=Decidable.of_not_not hsz;cases hx with
     | slice hj hm =>
      have:=h.kindOf hj hg;simp only at this;obtain⟨nc,hmm,_⟩:=this;rw[hm] at hmm; cases hmm
     | sliceM hj hm e1 e2 hl hc =>
      rename_i cap' sz' na nc k;have hkd:=h.kindOf hj hg;simp only at hkd;obtain⟨nc',hmm,hpos⟩:=hkd;rw[hm] at hmm; cases hmm;cases h3 with
      | none =>
       simp only at e
       split at e
       ·rename_i l hh mm hb;have hbl:=im hb;have hrun:=fun w=>ee (P:=E.P) (cap':=cap') hb h1 h2 .none hc true w;have hlc:l<=cap:=by
         cases hi with
         | none=>have:=hbl.2.2.2.1 rfl; omega
         | some _=>have:=hbl.2.2.1 rfl; omega
        split at e
        ·rename_i hcl;cases e;refine⟨_,fun w=>?_,.gJ (a':=if cap'=l then⟨k.c,o,none⟩ else⟨k.c,o+l*aE E.P elem,none⟩) (cap':=cap'-l)⟩
         have hhl:hh-l=0:=by
          cases hi with
          | none=>have:=hbl.2.2.2.1 rfl; omega
          | some _=>have:=hbl.2.2.1 rfl; omega
         simp only[Instr.sliceAt,Instr.slice,SG,SI hu,SE,hrun,cA hk,SH,hhl,gA]
         split
         rfl
         rw[Pj,ew]
        ·rename_i hcl;cases e;refine⟨.slice (some ⟨k.c,o+l*aE E.P elem,none⟩) (hh-l) (cap'-l),fun w=>?_,.sliceM hj hm ?_ ?_ ?_ ?_⟩
         have:¬cap'=l:=by omega
         simp only[Instr.sliceAt,Instr.slice,SG,SI hu,SE,hrun,cA hk,SH,Pb this,Pj,ew,gA]
         subst hsz; rw[<-e1,Nat.sub_mul]; have:l*aE E.P elem<=cap*aE E.P elem:=Qd _ hlc; omega
         subst hsz; rw[<-e2,Nat.sub_mul]; have:l*aE E.P elem<=cap'*aE E.P elem:=Qd _ (by omega); omega
         ·cases hi with
          | none=>have:=hbl.2.2.2.1 rfl; omega
          | some _=>have:=hbl.2.2.1 rfl; omega
         omega
       cases e
      | some r3 =>
       simp only at e
       split at e
       rename_i l hh mm hb
       split at e
       rename_i hcond;cases e;have hrun:=fun w=>ee (P:=E.P) (cap':=cap') hb h1 h2 (.some r3) hc true w;refine⟨_,fun w=>?_,.dry (a':=⟨k.c,o,none⟩)⟩;simp only[Instr.sliceAt,Instr.slice,SG,SI hu,SE,hrun,cA hk,SH,hcond.2,hcond.1,QP,gA];simp
       cases e;have hrun:=fun w=>ee (P:=E.P) (cap':=cap') hb h1 h2 (.some r3) hc true w;refine⟨.slice (some (if mm=l then⟨k.c,o,none⟩ else⟨k.c,o+l*aE E.P elem,none⟩)) (hh-l) (mm-l),fun w=>?_,.junk rfl⟩
       simp only[Instr.sliceAt,Instr.slice,SG,SI hu,SE,hrun,cA hk,SH,gA]
       split
       rfl
       rw[Pj,ew]
       cases e
   ·rename_i cs tag hnm hg
    split at e
    ·rename_i l hh mm hb;cases e;cases hx with
     | slice hj hm =>
      rename_i k;have hrun:=fun w=>ee (P:=E.P) (cap':=cap) hb h1 h2 h3 (Pd _) true w;have hmm:gA mx cap mm=mm:=by
       cases mx with
       | none=>exact((im hb).2.2.2.2 rfl).symm
       | some _=>rfl
      rw[hmm] at hrun;refine⟨.slice (some (if mm=l then⟨k.c,o,none⟩ else⟨k.c,o+l*aE E.P elem,none⟩)) (hh-l) (mm-l),fun w=>?_,?_⟩
      simp only[Instr.sliceAt,Instr.slice,SG,SI hu,SE,hrun,cA hk,SH]
      split
      rename_i hc; simp only[Ph hc]
      rename_i hc; simp only[Pj,ew]
      split
      exact .slice hj hm
      exact .slice hj hm
     | sliceM hj hm e1 e2 hl hc =>
      have hkd:=h.kindOf hj hg;cases tag with
      | more sz=>exact Pz rfl (hnm sz)
      | ro=>simp only at hkd; rw[hm] at hkd; cases hkd
      | own=>simp only at hkd; rw[hm] at hkd; cases hkd
    cases e
   cases e
  cases e
 ·
  rename_i elem b o sp hu
  split at e
  ·rename_i hk
   split at e
   ·rename_i r hb;obtain⟨l,hh,mm⟩:=r;cases e;have hbl:=im hb;have hl0:l=0/\hh=0:=by
     cases hi with
     | none=>have:=hbl.2.2.2.1 rfl; omega
     | some _=>have:=hbl.2.2.1 rfl; omega
    cases hx with
    | gJ =>
     rename_i a' cap';have hrun:=fun w=>ee (P:=E.P) (cap':=cap') hb h1 h2 h3 (Qf _) true w;refine⟨_,fun w=>?_,.gJ (a':=a') (cap':=gA mx cap' mm)⟩;simp only[Instr.sliceAt,Instr.slice,SG,SI hu,SE,hrun,cA hk,SH,hl0.1,hl0.2,QP,QO,Qr,Pj];simp[Addr.add]
    | dry =>
     rename_i a';have hrun:=fun w=>ee (P:=E.P) (cap':=0) hb h1 h2 h3 (Qf _) true w;have hmm:gA mx 0 mm=0:=by
      cases mx with
      | none=>rfl
      | some _=>have:=hbl.2.1; simp[gA]; omega
     rw[hmm] at hrun;refine⟨_,fun w=>?_,.dry (a':=a')⟩;simp only[Instr.sliceAt,Instr.slice,SG,SI hu,SE,hrun,cA hk,SH,hl0.1,hl0.2,QP,QO,Pj];simp
   cases e
  cases e
 ·
  rename_i n elem b o hu
  split at e
  ·rename_i hk
   split at e
   cases e
   ·rename_i cs tag hnm hg
    split at e
    ·rename_i l hh mm hb;cases e;cases hx with
     | ptr hj =>
      rename_i k;have hrun:=fun w=>ee (P:=E.P) (cap':=n) hb h1 h2 h3 (Pd _) false w;have hmm:gA mx n mm=mm:=by
       cases mx with
       | none=>exact((im hb).2.2.2.2 rfl).symm
       | some _=>rfl
      rw[hmm] at hrun;have hkd:=h.kindOf hj hg;have hm:k.more=none:=by
       cases tag with
       | more sz=>exact Pz rfl (hnm sz)
       | ro=>exact hkd
       | own=>exact hkd
      refine⟨.slice (some (if mm=l then⟨k.c,o,none⟩ else⟨k.c,o+l*aE E.P elem,none⟩)) (hh-l) (mm-l),fun w=>?_,?_⟩
      simp only[Instr.sliceAt,Instr.sureAddr,SG,SI hu,SE,hrun,cA hk,SH]
      split
      rename_i hc; simp only[Ph hc]
      rename_i hc; simp only[ew]
      split
      exact .slice hj hm
      exact .slice hj hm
    cases e
   cases e
  cases e
 cases e
def sJ{t:Ry}{x x' v:Rx}{f:Nat}(e:aM P t x f=some v)(hx:VR j x x'):∃v',lE P (Instr.fieldAt t x' f) v'/\VR j v v':=by
 unfold aM at e
 split at e
 ·rename_i fields b o hu
  split at e
  ·rename_i fl hf
   split at e
   ·rename_i hk;simp only[Pe,bne_iff_ne,ne_eq] at hk;cases e;cases hx with
    | ptr hj =>
    rename_i k;refine⟨_,fun w=>?_,.ptr hj⟩;simp only[Instr.fieldAt,SG,SI hu,SE,hf,Instr.sureAddr,SH,fieldPlace,cA hk.1,Pb hk.2,ew]
   cases e
  cases e
 cases e
def ES{t:Ry}{x x' v:Rx}(e:Bq P t x=some v)(hx:VR j x x'):∃v',lE P (Instr.arrayAt t x') v'/\VR j v v':=by
 unfold Bq at e
 split at e
 ·rename_i n el b o len cap hu
  split at e
  ·rename_i hc;cases e;have hn:¬len<n:=by omega
   cases hx with
   | slice hj hm=>exact⟨_,fun w=>by simp only[Instr.arrayAt,SG,SI hu,SE,Pb hn,SH],.ptr hj⟩
   | sliceM hj hm h1 h2 hl hc2=>exact⟨_,fun w=>by simp only[Instr.arrayAt,SG,SI hu,SE,Pb hn,SH],.ptr hj⟩
  cases e
 cases e
def sw{t:Ry}{x x' y y' v:Rx}(e:bP P t x y=some v)(hx:VR j x x')(hy:VR j y y'):∃v',lE P (Instr.indexAt t x' y') v'/\VR j v v':=by
 unfold bP at e
 split at e
 ·rename_i len elem b o k i hu
  split at e
  ·rename_i hc;simp only[Pe,Pv] at hc;cases e;cases hy;cases hx with
   | ptr hj =>
   refine⟨_,fun w=>?_,.ptr hj⟩;simp only[Instr.indexAt,asIntOf,SG,SI hu,SE,Instr.sureAddr,SH,cA hc.1,Ph hc.2,ew]
  cases e
 ·rename_i elem b o len cap k i hu
  split at e
  ·rename_i hc;simp only[Pe,Pv] at hc;cases e;cases hy;cases hx with
   | slice hj hm =>
    refine⟨_,fun w=>?_,.ptr hj⟩;simp only[Instr.indexAt,asIntOf,SG,SI hu,SE,SH,cA hc.1,Ph hc.2,ew]
   | sliceM hj hm e1 e2 hl hcap =>
    refine⟨_,fun w=>?_,.ptr hj⟩;simp only[Instr.indexAt,asIntOf,SG,SI hu,SE,SH,cA hc.1,Ph hc.2,ew]
  cases e
 cases e
def CB{t:Ry}{x x' y y' v:Rx}(e:fD P t x y=some v)(hx:VR j x x')(hy:VR j y y'):∃v',lE P (Instr.index t x' y') v'/\VR j v v':=by
 unfold fD at e
 split at e
 ·rename_i len elem cs k i hu
  split at e
  ·rename_i hc;cases hy;cases hx with
   | agg h1 h2 =>
   have hk:known P elem=true:=by
    unfold eQ at e
    split at e
    cases e
    rename_i hk; simpa using hk
   obtain⟨v',h3,h4⟩:=mC e (LR.eZ h1 h2);refine⟨v',fun w=>?_,h4⟩;simp only[Instr.index,asIntOf,SG,SI hu,SE,SH,Ph hc,cA hk,h3]
  cases e
 ·rename_i s k i hu
  split at e
  ·rename_i hc;cases hy; cases hx;cases hs:s[i.toNat]? with
   | none=>rw[hs] at e; cases e
   | some b =>
    rw[hs] at e; cases e;refine⟨_,fun w=>?_,.int _ _⟩;simp only[Instr.index,asIntOf,SG,SI hu,SE,SH,Ph hc,hs]
  cases e
 cases e
def CQ{t:Ry}{x x' v:Rx}{f:Nat}(e:me P t x f=some v)(hx:VR j x x'):∃v',lE P (Instr.field t x' f) v'/\VR j v v':=by
 unfold me at e
 split at e
 ·rename_i fields cs hu
  split at e
  ·rename_i fl hf;cases hx with
   | agg h1 h2 =>
   obtain⟨v',h3,h4⟩:=mC e (LR.eZ h1 h2);refine⟨v',fun w=>?_,h4⟩;simp only[Instr.field,SG,SI hu,SE,hf,asAgg,SH,h3]
  cases e
 cases e
def yc{E:Env}{m:Sr}{w:RB}(h:MR E j m w){t:Ry}{x x' v:Rx}(e:dB E.P t x m=some v)(hx:VR j x x') :
  ∃v',(Instr.loadAt t x').run E.P w=.ok v' w/\VR j v v':=by
 unfold dB at e
 split at e
 ·rename_i b o
  split at e
  cases e
  ·rename_i hk;have hk':known E.P t=true:=by simpa using hk
   cases hx with
   | ptr hj =>
   rename_i k
   split at e
   ·rename_i ha;cases hl:m.dq b o (aE E.P t) with
    | none=>rw[hl] at e; cases e
    | some vs =>
     rw[hl] at e; cases e;obtain⟨vs',h1,h2⟩:=h.dq hj hl;refine⟨.agg vs'.toArray,?_,.CE (by simpa using h2)⟩
     simp only[Instr.loadAt,Instr.sureAddr,SG,SH,SE,loadVar,kU hk',ha,if_true,cA hk',h1 w rfl]
   rename_i ha;have ha':dK E.P t=false:=by simpa using ha
   split at e
   rename_i cs tag hg;obtain⟨v',h1,h2⟩:=h.cell hj hg e;refine⟨v',?_,h2⟩;simp only[Instr.loadAt,Instr.sureAddr,SG,SH,SE,loadVar,kU hk',ha',Pu,if_false,run_load,h1]
   cases e
 cases e
end
section
variable{E:Env}{j:aY}{m:Sr}{w:RB}
def OR.own{c:Nat}{cs:SB Rx}{c':SD Rx}{elem:Ry}(h:LR j cs c'.toList):OR j ⟨c,none⟩ (.cells cs .own) (.cells c' elem) :=
 ⟨⟨rfl,by simpa using h.1.symm,rfl⟩,fun i v hi=>by
  obtain⟨v',a,b⟩:=h.get hi;exact⟨v',by simpa using a,b⟩⟩
def kh{zero:SD Rx}:∀(n:Nat),((Array.range (n*zero.size)).map fun i=>zero[i%zero.size]!).toList=ct zero.toList n:=by
 intro n
 by_cases hz:zero.size=0
 ·have:zero=#[]:=Array.eq_empty_of_size_eq_zero hz;subst this;have:∀n,ct ([]:SB Rx) n=[]:=by
   intro n
   induction n with
   | zero=>rfl
   | succ n ih=>simpa [ct] using ih
  simp[this]
 ·have hpos:0<zero.size:=Qg hz;have hlen:∀n,(ct zero.toList n).length=n*zero.size:=by
   intro n
   induction n with
   | zero=>simp[ct]
   | succ n ih=>simp[ct,ih,QI,Nat.add_comm]
  have hget:∀n i,i<n*zero.size->(ct zero.toList n)[i]? = zero[i%zero.size]?:=by
   intro n
   induction n with
   | zero=>intro i hi; simp at hi
   | succ n ih =>
    intro i hi;simp only[ct]
    by_cases hlt:i<zero.size
    rw[PR (by simpa using hlt),PJ hlt]; simp
    have hge:zero.size<=i:=by omega
    rw[PA (by simpa using hge)]
    have:=ih (i-zero.size) (by rw[QI] at hi; omega)
    simp only[QT];rw[this,<-Nat.mod_eq_sub_mod hge]
  apply Q4;intro i
  by_cases hi:i<n*zero.size
  rw[hget n i hi];have hlt:i%zero.size<zero.size:=P9 _ hpos;simp[hi,hlt]
  rw[List.getElem?_eq_none (by simp; omega),List.getElem?_eq_none (by rw[hlen]; omega)]
def iG{P:RA}{elem:Ry}{n:Nat}{zs:SB Rx}(h:eK P elem n=some zs):∃z,bK P elem=some z/\z.cells.size=aE P elem/\zs=ct z.cells.toList n:=by
 unfold eK at h
 split at h
 rename_i z hz
 split at h
 rename_i hs; cases h; exact⟨z,hz,hs,rfl⟩
 cases h
 cases h
def fE(l:SB Rx)(n:Nat):(ct l n).length=n*l.length:=by
 induction n with
 | zero=>simp[ct]
 | succ n ih=>simp[ct,ih,QI,Nat.add_comm]
def B9(h:MR E j m w){t:Ry}{x x' v v':Rx}{m':Sr}(e:eW E.P t x v m=some m')(hx:VR j x x')(hv:VR j v v') :
  ∃w',(Instr.storeAt t x' v').run E.P w=.ok () w'/\Sim E j m w j m' w':=by
 unfold eW at e
 split at e
 ·rename_i b o
  split at e
  ·rename_i hc;simp only[Pe,beq_iff_eq] at hc;obtain⟨⟨hk,hs⟩,ho⟩:=hc;cases hx with
   | ptr hj =>
   have hvc:=gv hv;obtain⟨w',h1,h2⟩:=hJ h hj hvc ho e;refine⟨w',?_,h2⟩;have hs':v'.cells.size=aE E.P t:=by have:=hvc.1; simp at this; omega
   have hne:¬v'.cells.size≠aE E.P t:=by simp[hs']
   simp only[Instr.storeAt,Instr.sureAddr,SG,SH,SE,storeVar,cA hk,Pb hne,h1]
  cases e
 cases e
def eD{v v':Rx}(hp:aR v=true)(h:VR j v v'):v'=v:=by
 cases h<;>first|rfl |(simp[aR] at hp)
def oE:∀{l l':SB Rx},l.all aR=true->LR j l l'->l'=l
 | [],_,_,h=>h.da
 | v::l,l',hp,h=>by
  obtain⟨y,ys,rfl,h1,h2⟩:=h.cons_inv;simp only[Qq,Pe] at hp;rw[eD hp.1 h1,oE hp.2 h2]
def fX{v v':Rx}(hp:bF v=true)(h:VR j v v'):v'=v:=by
 cases h with
 | agg h1 h2 =>
  have:=oE (by simpa [bF] using hp) (LR.eZ h1 h2)
  exact Ps Value.agg (Ql.1 this)
 | tuple h1 h2 =>
  have:=oE (by simpa [bF] using hp) (LR.eZ h1 h2)
  exact Ps Value.tuple (Ql.1 this)
 | func h1 h2 h3 h4=>simp[bF,aR] at hp
 | yield h h1 h2=>simp[bF,aR] at hp
 | _=>first|rfl |(simp[bF,aR] at hp)
def gq{P:RA}{kt:Ry}{k:Rx}(h:gP P kt k=true):bF k=true:=by
 unfold gP at h
 split at h
 rfl
 rfl
 rfl
 simp only[Pe] at h; exact h.2
 simp only[Pe] at h; exact h.2
 cases h
def checkKind{P:RA}{t:Ry}(ht:dC P t=true)(n:Nat)(v:Rx)(b:Bool)(w:RB):(Instr.checkKey b (n+1) t v).run P w=.ok () w:=by
 unfold dC at ht;simp only[Instr.checkKey,SG];cases hu:P.underlying t with
 | none=>rw[hu] at ht; cases ht
 | some d =>
  rw[hu] at ht;simp only[SI hu,SE];cases d<;>first |(simp at ht; done)|rfl
def kD{P:RA}{α:Type}(f:α->Sem SC)(w:RB):∀(l:SB α),(∀x∈l,(f x).run P w=.ok () w) ->
  (forIn l PUnit.unit (fun x _=>do f x; pure (ForInStep.yield PUnit.unit)):Sem PUnit).run P w=.ok PUnit.unit w
 | [],_=>rfl
 | x::l,h=>by
  simp only[List.forIn_cons,SG,h x (by simp),SE,SH]
  exact kD f w l fun y hy=>h y (by simp[hy])
def zm{P:RA}{t:Ry}(h:dC P t=true):dK P t=false:=by
 unfold dC at h;unfold dK;cases hu:P.underlying t with
 | none=>rfl
 | some d=>rw[hu] at h; cases d<;>first|rfl |(simp at h)
def sV{P:RA}{t:Ry}(h:dC P t=true)(hk:known P t=true){cs:SD Rx}{o:Nat}(ho:o<cs.size)(w:RB):(part t cs o).run P w=.ok cs[o] w:=by
 simp[part,kU hk,zm h,ho]
def dM{P:RA}{kt:Ry}{k:Rx}(h:gP P kt k=true)(b:Bool)(w:RB):(Instr.checkKey b 10000 kt k).run P w=.ok () w:=by
 unfold gP at h
 split at h
 rename_i hu; exact checkKind (by simp[dC,hu]) 9999 _ b w
 rename_i hu; exact checkKind (by simp[dC,hu]) 9999 _ b w
 rename_i hu; exact checkKind (by simp[dC,hu]) 9999 _ b w
 rename_i len elem cs hu;simp only[Pe,beq_iff_eq] at h;obtain⟨⟨⟨⟨hek,hkn⟩,hsz⟩,hlen⟩,_⟩:=h;have key:∀n,(Instr.checkKey b (n+1+1) kt (.agg cs)).run P w=.ok () w:=by
  intro n;unfold Instr.checkKey;simp only[SG,SI hu,SE];rw[Std.Legacy.Range.forIn_eq_forIn_range'];simp only[Std.Legacy.Range.size,Qr,Rg,Nat.div_one];have:=kD (P:=P) (fun i=>do Instr.checkKey b (n+1) elem (<-part elem cs (i*(<-sizeOf elem)))) w (List.range' 0 len) (fun x hx=>by
   have hlt:x<cs.size:=by rw[List.mem_range'] at hx; obtain⟨i,h1,h2⟩:=hx; omega
   simp only[SG,cA hkn,hsz,Nat.mul_one,sV hek hkn hlt,SE];exact checkKind hek n _ b w)
  simp only[bind_assoc] at this;rw[this]; rfl
 exact key 9998
 ·rename_i fs cs hu;simp only[Pe] at h;have key:∀n,(Instr.checkKey b (n+1+1) kt (.agg cs)).run P w=.ok () w:=by
   intro n;unfold Instr.checkKey;simp only[SG,SI hu,SE];rw[<-Array.forIn_toList];have hall:=h.1;generalize fs.toList=l at hall;clear hu
   induction l with
   | nil=>rfl
   | cons f l ih =>
    simp only[Qq,Pe,Pv] at hall;obtain⟨⟨⟨h1,h2⟩,h3⟩,h4⟩:=hall;have ih':=ih (by simpa [Pe] using h4)
    simp only[List.forIn_cons,SG,Sem.run_ite]
    split
    simp only[sV h1 h2 h3,SE,checkKind h1 n _ b w,SH];exact ih'
    simp only[SH,SE];exact ih'
  exact key 9998
 cases h
inductive FR(j:aY):SA (Nat×Rx)->SA (Nat×Rx)->Prop
 | none:FR j none none
 | some {i:Nat} {v v':Rx} (h:VR j v v'):FR j (some (i,v)) (some (i,v'))
def lA{P:RA}{kt:Ry}{k k':Rx}(hk:VR j k k'):∀{es:SB (Rx×Rx)} {es':SB MapEntry} {i:Nat} {r:SA (Nat×Rx)},gN P kt k es i=some r->ER j es es' ->
  ∃r',(∀w,(Instr.findAsking kt k' es' i).run P w=.ok r' w)/\FR j r r'
 | [],[],i,r,h,_=>by cases h; exact⟨_,fun w=>rfl,.none⟩
 | e::es,f::fs,i,r,h,he=>by
  simp only[gN] at h
  split at h
  rename_i hq;cases h;refine⟨some (i,f.val),fun w=>?_,.some he.2.1⟩;simp only[Instr.findAsking,SG,Op.equal,jG _ hq hk he.1,SE,if_true,SH]
  rename_i hq;obtain⟨r',h1,h2⟩:=lA hk h he.2.2;refine⟨r',fun w=>?_,h2⟩;simp only[Instr.findAsking,SG,Op.equal,jG _ hq hk he.1,SE,Pu,if_false,h1]
  cases h
 | [],_::_,_,_,_,he=>he.elim
 | _::_,[],_,_,_,he=>he.elim
def rl{P:RA}{kt:Ry}{d:TypeDesc}{k k' x x':Rx}{b b':Bool}(hu:P.underlying kt=some d)(hk:VR j k k')(hx:VR j x x')(h:Instr.sameNow d k' x'=some b')(he:iY P Op.maxDepth kt k x=some b):b=b':=by
 have:=jG (P:=P) Op.maxDepth he hk hx default;rw[show Op.maxDepth=9999+1 from rfl] at this
 unfold Instr.sameNow at h
 split at h
 rename_i k0 k1 a k2 c
 split at h
 rename_i hkk;subst hkk;cases h;rw[run_equalIn_int _ 9999 kt _ _ a c hu] at this;injection this with h1 _; exact h1.symm
 cases h
 cases h;rw[run_equalIn_string _ 9999 kt _ _ hu,<-beq_toListBytes] at this;injection this with h1 _; exact h1.symm
 cases h;rw[run_equalIn_bool' _ 9999 kt _ _ hu] at this;injection this with h1 _; exact h1.symm
 cases h
def so{P:RA}{kt:Ry}{d:TypeDesc}{k k':Rx}(hu:P.underlying kt=some d)(hk:VR j k k'):∀{es:SB (Rx×Rx)} {es':SB MapEntry} {i:Nat} {r r':SA (Nat×Rx)},gN P kt k es i=some r->ER j es es' ->
  Instr.findNow d k' es' i=some r'->FR j r r'
 | [],[],i,r,r',h,_,h'=>by cases h; cases h'; exact .none
 | e::es,f::fs,i,r,r',h,he,h'=>by
  simp only[gN] at h;simp only[Instr.findNow] at h'
  split at h'
  rename_i hs;cases h'
  split at h
  cases h; exact .some he.2.1
  rename_i hq; cases rl hu hk he.1 hs hq
  cases h
  rename_i hs
  split at h
  rename_i hq; cases rl hu hk he.1 hs hq
  exact so hu hk h he.2.2 h'
  cases h
  cases h'
 | [],_::_,_,_,_,_,he,_=>he.elim
 | _::_,[],_,_,_,_,he,_=>he.elim
def fW{P:RA}{kt:Ry}{d:TypeDesc}{k k':Rx}(hu:P.underlying kt=some d)(hk:VR j k k'){es:SB (Rx×Rx)}{es':SB MapEntry}{r:SA (Nat×Rx)}(h:gN P kt k es 0=some r)(he:ER j es es') :
  ∃r',(∀w,(Instr.findKey kt k' es').run P w=.ok r' w)/\FR j r r':=by
 cases hn:Instr.findNow d k' es' 0 with
 | some r' =>
  refine⟨r',fun w=>?_,so hu hk h he hn⟩;simp only[Instr.findKey,SG,SI hu,SE,hn,SH]
 | none =>
  obtain⟨r',h1,h2⟩:=lA hk h he;refine⟨r',fun w=>?_,h2⟩;simp only[Instr.findKey,SG,SI hu,SE,hn,h1]
def kH{P:RA}{kt:Ry}{k:Rx}(h:gP P kt k=true):∃d,P.underlying kt=some d:=by
 unfold gP at h;cases hu:P.underlying kt with
 | some d=>exact⟨d,rfl⟩
 | none=>rw[hu] at h; simp at h
def MR.xT(h:MR E j m w){b:Nat}{k:Blk}(hk:j b=some k){es:SB (Rx×Rx)}(hg:m.get b=some (.map es)):∃es' clock,w.heap[k.c]? = some (.map es' clock)/\ER j es es'.toList:=by
 obtain⟨o',h1,h2⟩:=h.obj b _ k hg hk;cases o' with
 | map es' clock=>exact⟨es',clock,h1,h2.1⟩
 | _=>exact h2.elim
def MR.vX(h:MR E j m w){b:Nat}{k:Blk}(hk:j b=some k){es:SB (Rx×Rx)}(hg:m.get b=some (.map es)){es':SD MapEntry}{clock:Nat}(hw:w.heap[k.c]? = some (.map es' clock)):IN es' clock:=by
 obtain⟨o',h1,h2⟩:=h.obj b _ k hg hk;rw[hw] at h1;cases h1;exact h2.2
def run_getObj_map{P:RA}{w:RB}{r:Nat}{es:SD MapEntry}{c:Nat}(h:w.heap[r]? = some (.map es c)):(getObj r).run P w=.ok (.map es c) w:=by simp[getObj,Sem.run,h]
def run_setObj_map{P:RA}{w:RB}{r:Nat}{es:SD MapEntry}{c:Nat}(o:Obj)(h:w.heap[r]? = some (.map es c)):(setObj r o).run P w=.ok () (w.putObj r o):=by simp[setObj,Sem.run,h,World.putObj]
def yT (h:MR E j m w) {t:Ry} {x x' y y' v:Rx} {ok:Bool} (e:dj E.P t x y ok m=some v) (hx:VR j x x') (hy:VR j y y') :
  ∃v',(Instr.lookup t x' y' ok).run E.P w=.ok v' w/\VR j v v':=by
 unfold dj at e
 split at e
 ·rename_i key elem hu
  split at e
  ·rename_i es z hes hz
   split at e
   ·rename_i hko;obtain⟨d,hd⟩:=kH hko;have hy':y'=y:=fX (gq hko) hy;subst hy';have hmap:∃es':SD MapEntry,ER j es es'.toList/\((x'=.map none/\es'=#[])\/∃r c,x'=.map (some r)/\w.heap[r]? = some (.map es' c)):=by
     unfold mapOf at hes
     split at hes
     cases hes; cases hx;exact⟨#[],trivial,.inl ⟨rfl,rfl⟩⟩
     ·rename_i r
      split at hes
      ·rename_i es0 hg;cases hes;cases hx with
       | map hj =>
       obtain⟨es',clock,h1,h2⟩:=h.xT hj hg;exact⟨es',h2,.inr ⟨_,_,rfl,h1⟩⟩
      cases hes
     cases hes
    obtain⟨es',hes',hsh⟩:=hmap
    split at e
    ·rename_i i v0 hf;cases e;obtain⟨r',h1,h2⟩:=fW hd hy hf hes';cases h2 with
     | some hv =>
     rename_i v0';refine⟨if ok then .tuple #[v0',.bool true] else v0',?_,?_⟩
     rcases hsh with⟨rfl,rfl⟩|⟨r,c,rfl,h5⟩
     simp only[Instr.lookup,SG,SI hu,SE,SH,dM hko,h1]
     simp only[Instr.lookup,SG,SI hu,SE,run_getObj_map h5,SH,dM hko,h1]
     ·cases ok with
      | true=>exact .tuple' (by exact LR.cons hv (LR.cons (.bool true) (.nil j)))
      | false=>exact hv
    ·rename_i hf
     split at e
     ·rename_i hpz;cases e;obtain⟨r',h1,h2⟩:=fW hd hy hf hes';cases h2;refine⟨if ok then .tuple #[z,.bool false] else z,?_,?_⟩
      rcases hsh with⟨rfl,rfl⟩|⟨r,c,rfl,h5⟩
      simp only[Instr.lookup,SG,SI hu,SE,SH,dM hko,h1,ib hz]
      simp only[Instr.lookup,SG,SI hu,SE,run_getObj_map h5,SH,dM hko,h1,ib hz]
      ·cases ok with
       | true=>exact .tuple' (by exact LR.cons (VR.bF hpz) (LR.cons (.bool false) (.nil j)))
       | false=>exact VR.bF hpz
     cases e
    cases e
   cases e
  cases e
 cases e
def ER.get:∀{es:SB (Rx×Rx)} {fs:SB MapEntry} {i:Nat} {e:Rx×Rx},ER j es fs->es[i]? = some e->∃f,fs[i]? = some f/\VR j e.1 f.key/\VR j e.2 f.val
 | [],[],_,_,_,h=>by simp at h
 | x::es,f::fs,0,e,h,hi=>by simp at hi; subst hi; exact⟨f,rfl,h.1,h.2.1⟩
 | x::es,f::fs,i+1,e,h,hi=>by simpa using ER.get h.2.2 (by simpa using hi)
 | [],_::_,_,_,h,_=>h.elim
 | _::_,[],_,_,h,_=>h.elim
def ER.qt:∀{es:SB (Rx×Rx)} {fs:SB MapEntry} {e:Rx×Rx} {f:MapEntry},ER j es fs->VR j e.1 f.key->VR j e.2 f.val->ER j (es++[e]) (fs++[f])
 | [],[],_,_,_,h1,h2=>⟨h1,h2,trivial⟩
 | _::_,_::_,_,_,h,h1,h2=>⟨h.1,h.2.1,ER.qt h.2.2 h1 h2⟩
 | [],_::_,_,_,h,_,_=>h.elim
 | _::_,[],_,_,h,_,_=>h.elim
def ER.put:∀{es:SB (Rx×Rx)} {fs:SB MapEntry} {i:Nat} {k k' v v':Rx},ER j es fs->i<es.length->VR j k k'->VR j v v'->ER j (jK es i k v) (fs.modify i fun e=>{ e with key:=k',val:=v'})
 | x::es,f::fs,0,_,_,_,_,h,_,h1,h2=>⟨h1,h2,h.2.2⟩
 | x::es,f::fs,i+1,_,_,_,_,h,hi,h1,h2=>⟨h.1,h.2.1,ER.put h.2.2 (by simpa using hi) h1 h2⟩
 | [],_,_,_,_,_,_,_,hi,_,_=>by simp at hi
 | _::_,[],_,_,_,_,_,h,_,_,_=>h.elim
def ER.erase:∀{es:SB (Rx×Rx)} {fs:SB MapEntry} (i:Nat),ER j es fs->ER j (es.eraseIdx i) (fs.eraseIdx i)
 | [],[],_,_=>trivial
 | _::_,_::_,0,h=>h.2.2
 | _::_,_::_,i+1,h=>⟨h.1,h.2.1,ER.erase i h.2.2⟩
 | [],_::_,_,h=>h.elim
 | _::_,[],_,h=>h.elim
def lJ (h:MR E j m w) {t:Ry} {x x' k k' v v':Rx} {m':Sr} (e:cL E.P t x k v m=some m') (hx:VR j x x') (hk:VR j k k') (hv:VR j v v') :
  ∃w',(Instr.mapUpdate t x' k' v').run E.P w=.ok () w'/\Sim E j m w j m' w':=by
 unfold cL at e
 split at e
 ·rename_i kt et r hu
  split at e
  ·rename_i es hg
   split at e
   ·rename_i hko;obtain⟨d,hd⟩:=kH hko;have hk':k'=k:=fX (gq hko) hk;cases hx with
    | map hj =>
    rename_i kb;obtain⟨es',clock,h1,h2⟩:=h.xT hj hg
    split at e
    ·rename_i i v0 hf
     split at e
     ·rename_i hsame;cases e;unfold gU at hsame
      split at hsame
      ·rename_i e0 he0;simp only[Pe] at hsame;obtain⟨r',h3,h4⟩:=fW hd hk hf h2;cases h4 with
       | some _ =>
       obtain⟨f0,g1,g2,g3⟩:=h2.get he0;have hf0:f0.key=e0.1:=fX hsame.1 g2;have hi:i<es.length:=(PN.1 he0).1;refine⟨_,?_,iK h hj (by rw[hg]; rfl) (co:=.map (es'.modify i fun e=>{ e with key:=k,val:=v'}) clock) ?_⟩
       have g1':es'[i]? = some f0:=by simpa using g1
       simp only[Instr.mapUpdate,SG,SI hu,SE,run_getObj_map h1,hk',dM hko];rw[hk'] at h3;simp only[h3,SE,SG,g1',Pj,Option.getD_some,hf0,Instr.keyThatStays,hsame.2,if_true,SH,run_setObj_map _ h1]
       refine⟨?_,zE (h.vX hj hg h1) i _ fun _=>rfl⟩
       show ER j (jK es i k v) (es'.modify i fun e=>{ e with key:=k,val:=v'}).toList
       rw[Array.toList_modify];exact h2.put hi (VR.bF (gq hko)) hv
      cases hsame
     cases e
    rename_i hf;cases e;obtain⟨r',h3,h4⟩:=fW hd hk hf h2;cases h4;refine⟨_,?_,iK h hj (by rw[hg]; rfl) (co:=.map (es'.push { key:=k,val:=v',born:=clock}) (clock+1)) ?_⟩
    simp only[Instr.mapUpdate,SG,SI hu,SE,run_getObj_map h1,hk',dM hko];rw[hk'] at h3;simp only[h3,SE,run_setObj_map _ h1]
    refine⟨?_,Du (h.vX hj hg h1) k v'⟩
    show ER j (es++[(k,v)]) (es'.push { key:=k,val:=v',born:=clock}).toList
    rw[Array.toList_push];exact h2.qt (VR.bF (gq hko)) hv
    cases e
   cases e
  cases e
 cases e
def Al(h:MR E j m w){t:Ry}{x x' k k':Rx}{m':Sr}(e:pU E.P t x k m=some m')(hx:VR j x x')(hk:VR j k k')(ts:SD Ry)(hts:ts[0]? = some t)(ty:Ry) :
  ∃w',(Builtin.delete_ ts ty #[x',k']).run E.P w=.ok (.tuple #[]) w'/\Sim E j m w j m' w':=by
 unfold pU at e
 split at e
 ·rename_i kt et r hu
  split at e
  ·rename_i es hg
   split at e
   ·rename_i hko;obtain⟨d,hd⟩:=kH hko;have hk':k'=k:=fX (gq hko) hk;cases hx with
    | map hj =>
    rename_i kb;obtain⟨es',clock,h1,h2⟩:=h.xT hj hg
    split at e
    ·rename_i i v0 hf;cases e;obtain⟨r',h3,h4⟩:=fW hd hk hf h2;cases h4 with
     | some _ =>
     refine⟨_,?_,iK h hj (by rw[hg]; rfl) (co:=.map (es'.eraseIdxIfInBounds i) clock) ?_⟩
     simp only[Builtin.delete_,hts,PH,PF,PT,SG,SI hu,SE,run_getObj_map h1,hk',dM hko];rw[hk'] at h3;simp only[h3,SE,SG,run_setObj_map _ h1,SH]
     refine⟨?_,Ca (h.vX hj hg h1) i⟩
     show ER j (es.eraseIdx i) (es'.eraseIdxIfInBounds i).toList
     rw[Array.toList_eraseIdxIfInBounds];exact h2.erase i
    rename_i hf;cases e;obtain⟨r',h3,h4⟩:=fW hd hk hf h2;cases h4;refine⟨w,?_,.refl h⟩;simp only[Builtin.delete_,hts,PH,PF,PT,SG,SI hu,SE,run_getObj_map h1,hk',dM hko];rw[hk'] at h3;simp only[h3,SE,SG,run_setObj_map _ h1,SH,oV h1]
    cases e
   cases e
  cases e
 cases e
end
def tK(n:Nat):∀(r c:Nat),Builtin.growBy n r c<=max c (n+(n+768)/4)
 | 0,c=>by simp only[Builtin.growBy]; omega
 | r+1,c=>by
  simp only[Builtin.growBy]
  split
  omega
  have:=tK n r (c+(c+768)/4);omega
def nextslicecap_le{need cap:Nat}(h:cap<need):Builtin.nextslicecap need cap<=2*need+2000:=by
 unfold Builtin.nextslicecap
 split
 omega
 split
 omega
 have:=tK need 4 cap;omega
section
variable{E:Env}{j:aY}{m:Sr}{w:RB}
def appendCore(elem:Ry)(size:Nat)(base:Rv)(sLen sCap n:Nat)(zeros:Bool)(s x:Rx)(appended:Sem (SD Rx)):Sem Rx:=do
 let need:=sLen+n
 if need<=sCap then
  let new <-appended
  if let some a:=base then storeCells (a.add (sLen*size)) new.toList
  pure (.slice base need sCap)
 else
  if (need : Int) > IntKind.i64.max /\ (zeros \/ (<- typeInfo elem).bytes = 0) then runtimePanic (.error "growslice: len out of range")
  if Builtin.nextslicecap need sCap * (<- typeInfo elem).bytes > 2 ^ 48 then (if zeros then runtimePanic (.error "growslice: len out of range") else do
   if !(<-Builtin.mayShare size sLen n base x) then mark .noRoom
   unsupported (.resourceLimit "append: a slice or a string whose bytes no memory bears"))
  let newCap <-choose (.appendCap need sCap elem)
  askRoom (newCap*(<-typeInfo elem).bytes)
  let old <-Builtin.firstCells size sLen s
  let new <-appended
  let rest:=Builtin.zeroCells (<-zeroValue elem).cells (newCap-need)
  pure (.slice (some (<-newRow elem (old++new++rest))) need newCap)
def iT{P:RA}{elem:Ry}{size sLen sCap n:Nat}{zeros:Bool}{s x:Rx}{a:Addr}{app:Sem (SD Rx)}{new:SB Rx}{w w':RB}
  (happ:app.run P w=.ok new.toArray w) (hfit:sLen+n<=sCap) (hst:(storeCells (a.add (sLen*size)) new).run P w=.ok () w') :
  (appendCore elem size (some a) sLen sCap n zeros s x app).run P w=.ok (.slice (some a) (sLen+n) sCap) w':=by
 simp only[appendCore,Ph hfit,SG,happ,SE,hst,SH]
def lH{l:SB Rx}(h:l.all aR=true):∀n,(ct l n).all aR=true
 | 0=>rfl
 | n+1=>by simp only[ct,List.all_append,h,lH h n,Qc]
def jl{P:RA}{elem:Ry}{size sLen sCap n:Nat}{zeros:Bool}{s x:Rx}{base:Rv}{app:Sem (SD Rx)}{new old:SB Rx}{w:RB}{i:TypeInfo}{z:Rx}
  (happ:∀w0:RB,w0.heap=w.heap->app.run P w0=.ok new.toArray w0) (hold:∀w0:RB,w0.heap=w.heap->(Builtin.firstCells size sLen s).run P w0=.ok old.toArray w0) (hgrow:¬sLen+n<=sCap)
  (hi:P.info? elem=some i) (hz:i.zero=some z) (hfit:dG i.bytes (sLen+n)=true) (hb:i.bytes≠0) (hzs:z.cells.size=size) (hzp:z.cells.toList.all aR=true) (ho:old.length=sLen*size) (hn:new.length=n*size) :
  ∃(cap:Nat) (rest:SB Rx) (w0:RB),(w0.heap=w.heap/\Calm w w0)/\(sLen+n<=cap/\cap<=9223372036854775807)/\(old++new++rest).length=cap*size/\rest.all aR=true /\
   (appendCore elem size base sLen sCap n zeros s x app).run P w=.ok (.slice (some ⟨w.heap.size,0,none⟩) (sLen+n) cap) (w0.alloc (.cells (old++new++rest).toArray elem)):=by
 have hfit':(2*(sLen+n)+2000)*i.bytes<=2 ^ 48:=by simpa [dG] using hfit
 have h1:¬(((sLen+n:Nat):Int)>IntKind.i64.max/\(zeros=true\/i.bytes=0)):=by
  intro hc;have hbig:sLen+n<=2 ^ 48:=by
   have:1<=i.bytes:=Nat.one_le_iff_ne_zero.2 hb;have:(sLen+n)*1<=(2*(sLen+n)+2000)*i.bytes:=Qw (by omega) this
   omega
  have hmax:IntKind.i64.max=9223372036854775807:=by decide
  rw[hmax] at hc;omega
 have h2:¬Builtin.nextslicecap (sLen+n) sCap*i.bytes>2 ^ 48:=by
  have:=Qd i.bytes (nextslicecap_le (need:=sLen+n) (cap:=sCap) (by omega))
  omega
 have hzv:∀w0:RB,(zeroValue elem).run P w0=.ok z w0:=fun w0=>ib (by simp[bK,hi,hz]) w0
 obtain⟨cap,hcap⟩:∃cap,cap=(Question.appendCap (sLen+n) sCap elem).cut (w.tape w.drawn (.appendCap (sLen+n) sCap elem)):=⟨_,rfl⟩;have hle:sLen+n<=cap:=by rw[hcap]; simp[Question.cut]
 have hmx:cap<=9223372036854775807:=by
  have hbig:sLen+n<=2 ^ 48:=by
   have:1<=i.bytes:=Nat.one_le_iff_ne_zero.2 hb;have:(sLen+n)*1<=(2*(sLen+n)+2000)*i.bytes:=Qw (by omega) this
   omega
  rw[hcap]
  show sLen+n+_%(2 ^ 63-(sLen+n))<=_
  have:=P9 (w.tape w.drawn (.appendCap (sLen+n) sCap elem)) (show 0<2 ^ 63-(sLen+n) by omega)
  omega
 refine⟨cap,ct z.cells.toList (cap-(sLen+n)),w.drew,⟨rfl,rfl,rfl,rfl,Nat.le_succ _⟩,⟨hle,hmx⟩,?_,lH hzp _,?_⟩
 simp only[Pm,fE,ho,hn,QT,hzs];rw[<-Qx,<-Qx]
 congr 1; omega
 have hzc:Builtin.zeroCells z.cells (cap-(sLen+n))=(ct z.cells.toList (cap-(sLen+n))).toArray:=by
  rw[<-kh (zero:=z.cells)]; rfl
 simp only[appendCore,Pb hgrow,SG,qp hi,SE,Sem.run_ite,Pb h1,Pb h2,SH,run_choose,Question.forced,Pu,if_false,World.drew_eq,run_askRoom,
  hold w.drew rfl,happ w.drew rfl,hzv,<-hcap,hzc,newRow,run_newObj,World.alloc_eq]
 simp
def BR(h:MR E j m w){sz n:Nat}{x x':Rx}{new:SB Rx}(e:cO sz x n m=some new)(hx:VR j x x') :
  ∃new',(∀w0:RB,w0.heap=w.heap->(Builtin.firstCells sz n x').run E.P w0=.ok new'.toArray w0)/\LR j new new':=by
 unfold cO at e
 split at e
 split at e
 rename_i hn; subst hn; cases e; cases hx;exact⟨[],fun w0 _=>rfl,.nil j⟩
 cases e
 ·rename_i b o l c
  split at e
  rename_i hn; subst hn; cases e;refine⟨[],fun w0 _=>?_,.nil j⟩;cases hx<;>simp[Builtin.firstCells,loadCells,loadCellsFrom]
  ·have hgo:∀k:Blk,j b=some k->∃new',(∀w0:RB,w0.heap=w.heap->(loadCells ⟨k.c,o,none⟩ (n*sz)).run E.P w0=.ok new'.toArray w0)/\LR j new new':=by
    intro k hj;exact h.dq hj e
   cases hx with
   | slice hj hm=>exact hgo _ hj
   | sliceM hj hm e1 e2 hl hc=>exact hgo _ hj
 split at e
 rename_i hn; subst hn; cases e;refine⟨[],fun w0 _=>?_,.nil j⟩;cases hx<;>simp[Builtin.firstCells,loadCells,loadCellsFrom]
 cases e
 cases e
def uT(h:MR E j m w){elem:Ry}{xt:SA Ry}{x x':Rx}{n:Nat}{new:SB Rx}(e:eh E.P elem xt x m=some (n,new))(hx:VR j x x')(hk:known E.P elem=true)
  {i:TypeInfo} (hi:E.P.info? elem=some i) (hbytes:n*i.bytes<=2 ^ 48) {sType:Ry} (hu:E.P.underlying sType=some (.slice elem)) {ts:SD Ry} (h0:ts[0]? = some sType) (h1:ts[1]? = xt) (ty:Ry) :
  ∃(new':SB Rx) (zeros:Bool) (app:Sem (SD Rx)),LR j new new'/\(∀w0:RB,w0.heap=w.heap->app.run E.P w0=.ok new'.toArray w0) /\
   ∀base sLen sCap,(Builtin.append_ ts ty #[.slice base sLen sCap,x']).run E.P w=(appendCore elem (aE E.P elem) base sLen sCap n zeros (.slice base sLen sCap) x' app).run E.P w:=by
 unfold eh at e
 split at e
 ·rename_i et a l c hxt;cases hs:cO (aE E.P elem) (.slice a l c) l m with
  | none=>rw[hs] at e; cases e
  | some cs =>
   rw[hs] at e; cases e;obtain⟨new',h2,h3⟩:=BR h hs hx;refine⟨new',false,Builtin.firstCells (aE E.P elem) n x',h3,h2,fun base sLen sCap=>?_⟩;have hlen:∀w0:RB,(Builtin.lenOf x').run E.P w0=.ok n w0:=by
    intro w0;cases hx<;>rfl
   obtain⟨xt',hxt',hu'⟩:∃xt',xt=some xt'/\E.P.underlying xt'=some (.slice et):=by
    cases xt with
    | none=>cases hxt
    | some xt'=>exact⟨xt',rfl,hxt⟩
   rw[hxt'] at h1;simp only[appendCore,Builtin.append_,h0,h1,PH,PF,PT,SG,SI hu,SI hu',SE,cA hk,SH,Pu,if_false,hlen,PQ,if_true]
   congr
 ·rename_i k l hxt
  split at e
  ·rename_i hl;cases hz:eK E.P elem l.toNat with
   | none=>rw[hz] at e; cases e
   | some zs =>
    rw[hz] at e;simp only[PI] at e
    split at e
    ·rename_i hp;cases e;cases hx;obtain⟨z,hz1,hz2,hz3⟩:=iG hz;obtain⟨xt',k',hxt',hu'⟩:∃xt' k',xt=some xt'/\E.P.underlying xt'=some (.int k'):=by
      cases xt with
      | none=>cases hxt
      | some xt'=>exact⟨xt',_,rfl,hxt⟩
     have hwrap:IntKind.i64.wrap l=l:=IntWalk.i64_in l (by have:=hl.1; have:=hl.2; omega)
     have hlb:¬(l*i.bytes>2 ^ 48):=by
      have:((l.toNat*i.bytes:Nat):Int)<=2 ^ 48:=by exact_mod_cast hbytes
      have h3:((l.toNat:Nat):Int)=l:=Qn hl.1;rw[P8,h3] at this;omega
     refine⟨new,true,if l.toNat*aE E.P elem=0 then pure #[] else do pure (Builtin.zeroCells (<-zeroValue elem).cells l.toNat),LR.plain hp,?_,fun base sLen sCap=>?_⟩
     intro w0 _;rw[Sem.run_ite]
     split
     rename_i h0;have:new=[]:=by
      apply QC;rw[hz3,fE,QT,hz2,h0]
     rw[this]; rfl
     simp only[SG,ib hz1,SE,SH];rw[hz3,<-kh (zero:=z.cells)]; rfl
     rw[hxt'] at h1;have hneg:¬l<0:=by have:=hl.1; omega
     simp only[appendCore,Builtin.append_,h0,h1,PH,PF,PT,SG,SI hu,SI hu',SE,cA hk,SH,if_true,asInt,asIntOf,hwrap,Pb hneg,qp hi,Pb hlb,PE,Pu,if_false]
     congr
    cases e
  cases e
 cases e
def OR.more{c na nc sz:Nat}{cs:SB Rx}{c':SD Rx}{elem:Ry}(h1:cs.length=na)(h2:c'.size=nc)(h3:na<=nc)(hsz:0<sz)(hr:mh sz c')(h:∀(i:Nat) (v:Rx),cs[i]? = some v->∃v',c'[i]? = some v'/\VR j v v') :
  OR j ⟨c,some (sz,na,nc)⟩ (.cells cs (.more sz)) (.cells c' elem) :=
 ⟨⟨by rw[h1,h2],by omega,rfl,hsz,hr⟩,h⟩
def iC(h:MR E j m w){w0:RB}(hw3:w0.heap=w.heap/\Calm w w0){cs cs' rest:SB Rx}{elem:Ry}{sz n cap:Nat}(hc:LR j cs cs')(hl:cs.length=n*sz)(hr:(cs'++rest).length=cap*sz)(hn:n<=cap)(hsz:0<sz)(hp:rest.all aR=true)(hmx:cap<=9223372036854775807) :
  ∃j',Sim E j m w j' (m.alloc (.cells cs (.more sz))) (w0.alloc (.cells (cs'++rest).toArray elem))/\VR j' (.slice (some ⟨m.next,0,none⟩) n n) (.slice (some ⟨w.heap.size,0,none⟩) n cap):=by
 have hw:=hw3.1;have h0:=h.of_heap hw;have hle:n*sz<=cap*sz:=Qd _ hn;have ho:OR j ⟨w0.heap.size,some (sz,n*sz,cap*sz)⟩ (.cells cs (.more sz)) (.cells (cs'++rest).toArray elem):=by
  refine OR.more hl (by simpa using hr) hle hsz (by unfold mh; rw[List.size_toArray,hr,Qm]; exact Q7 _ hmx) fun i v hi=>?_
  obtain⟨v',a,b⟩:=hc.get hi;refine⟨v',?_,b⟩;rw[PH,PR (PN.1 a).1];exact a
 have s:=kX h0 ho;refine⟨_,(Sim.of_heap h hw hw3.2).trans h s,?_⟩;have:VR (j.set m.next ⟨w0.heap.size,some (sz,n*sz,cap*sz)⟩) (.slice (some ⟨m.next,0,none⟩) n n) (.slice (some ⟨w0.heap.size,0,none⟩) n cap) :=
  .sliceM (k:=⟨w0.heap.size,some (sz,n*sz,cap*sz)⟩) (aY.cG _ _ _) rfl rfl rfl (Pd _) hn
 rw[hw] at this ⊢;exact this
def yS (h:MR E j m w) {t:Ry} {xt:SA Ry} {s s' x x' v:Rx} {m':Sr} (e:bV E.P t xt s x m=some (v,m')) (hs:VR j s s') (hx:VR j x x')
  {ts:SD Ry} (h2:ts[0]? = some t) (h3:ts[1]? = xt) (ty:Ry) :
  ∃j' w' v',(Builtin.append_ ts ty #[s',x']).run E.P w=.ok v' w'/\Sim E j m w j' m' w'/\VR j' v v':=by
 unfold bV at e
 split at e
 ·rename_i elem base len cap n new hu hnc;simp only[hu] at hnc;simp only at e
  split at e
  cases e
  ·rename_i hcond;simp only[Qo,Qe,not_or,Bool.not_eq_false,beq_iff_eq,bne_iff_ne,ne_eq,Decidable.not_not,Option.any_eq_true] at hcond;obtain⟨⟨⟨⟨⟨hk,h4⟩,hone⟩,⟨i,hi,hfit⟩⟩,hlen⟩,⟨z,hz,hzs⟩⟩:=hcond;simp only[Pe,bne_iff_ne,ne_eq] at hfit;obtain⟨hfit,hb⟩:=hfit;obtain⟨i',hi',hz'⟩:=uC hz;rw[hi] at hi'; cases hi';simp only[Pe,beq_iff_eq] at hzs;have hzs':z.cells.size=aE E.P elem:=hzs.1;have hzp:=hzs.2;have hsz:0<aE E.P elem:=Qg h4;have hbytes:n*i.bytes<=2 ^ 48:=by
    have:(2*(len+n)+2000)*i.bytes<=2 ^ 48:=by simpa [dG] using hfit
    have:=Qd i.bytes (show n<=2*(len+n)+2000 by omega)
    omega
   obtain⟨new',zeros,app,hnew,happ,hrun⟩:=uT h hnc hx hk hi hbytes hu h2 h3 ty;have hnl:new'.length=n*aE E.P elem:=by rw[<-hnew.1]; exact hlen
   split at e
   
   split at e
   cases e
   rename_i h1;have hlc:len=0/\cap=0:=by omega
   obtain⟨rfl,rfl⟩:=hlc;cases hs
   split at e
   rename_i hn; cases e;subst hn;refine⟨j,w,.slice none 0 0,?_,.refl h,.snil 0 0⟩;rw[hrun];simp only[appendCore,Qh,Pd,if_true,SG,happ w rfl,SE,SH]
   rename_i hn; cases e;obtain⟨cap',rest,w0,h0,⟨hle,hmx⟩,hlr,hrp,hr⟩:=jl (P:=E.P) (zeros:=zeros) (s:=.slice none 0 0) (x:=x') (base:=none) (sLen:=0) (sCap:=0) (old:=[]) happ (fun w0 _=>rfl) (by omega) hi hz' (by simpa using hfit) hb hzs' hzp (by simp) hnl
   obtain⟨j',s1,s2⟩:=iC h h0 (elem:=elem) hnew hlen (by simpa using hlr) (by omega) hsz hrp hmx
   refine⟨j',_,_,by rw[hrun]; exact hr,by simpa using s1,by simpa using s2⟩
   ·rename_i b o
    split at e
    ·rename_i cs tag hg
     split at e
     ·
      rename_i hfits;cases hst:m.cE b (o+len*aE E.P elem) new with
      | none=>rw[hst] at e; cases e
      | some m1 =>
       rw[hst] at e; cases e;cases hs with
       | slice hj hm =>
        obtain⟨w',g1,g0⟩:=hJ h hj hnew hone hst;refine⟨j,w',_,?_,g0,.slice hj hm⟩;rw[hrun];exact iT (happ w rfl) hfits (by rw[kG]; exact g1)
       | sliceM hj hm e1 e0 hl hc =>
        obtain⟨w',g1,g0⟩:=hJ h hj hnew hone hst;refine⟨j,w',_,?_,g0,.sliceM hj hm e1 e0 hfits hc⟩;rw[hrun];exact iT (happ w rfl) (by omega) (by rw[kG]; exact g1)
     ·rename_i hno;have hexact:∀k:Blk,j b=some k->k.more=none->∀old,m.dq b o (len*aE E.P elem)=some old->v=.slice (some ⟨m.next,0,none⟩) (len+n) (len+n)->m'=m.alloc (.cells (old++new) (.more (aE E.P elem))) ->
        ∃j' w' v',(Builtin.append_ ts ty #[.slice (some ⟨k.c,o,none⟩) len cap,x']).run E.P w=.ok v' w'/\Sim E j m w j' m' w'/\VR j' v v':=by
       intro k hj hm old hold ev em;obtain⟨old',g1,g0⟩:=h.dq hj hold;have hol:old.length=len*aE E.P elem:=(qP hold).choose_spec.choose_spec.2.2;obtain⟨cap',rest,w0,h0,⟨hle,hmx⟩,hlr,hrp,hr⟩:=jl (P:=E.P) (zeros:=zeros) (s:=.slice (some ⟨k.c,o,none⟩) len cap) (x:=x') (base:=some ⟨k.c,o,none⟩) (sLen:=len) (sCap:=cap) (old:=old') happ
        (fun w0 h0=>g1 w0 h0) hno hi hz' hfit hb hzs' hzp (by rw[<-g0.1]; exact hol) hnl
       obtain⟨j',s1,s2⟩:=iC h h0 (elem:=elem) (g0.append hnew) (n:=len+n) (by rw[Pm,hol,hlen,Qx]) hlr hle hsz hrp hmx
       exact⟨j',_,_,by rw[hrun]; exact hr,em▸s1,ev▸s2⟩
      split at e
      ·
       rename_i sz'
       split at e
       ·rename_i hso;obtain⟨rfl,rfl⟩:=hso
        split at e
        ·rename_i hol;cases e;cases hs with
         | slice hj hm =>
          have:=h.kindOf hj hg;simp only at this;obtain⟨nc,hmm,_⟩:=this;rw[hm] at hmm; cases hmm
         | sliceM hj hm e1 e0 hl hc =>
          rename_i cap' sz' na nc k;have hkd:=h.kindOf hj hg;simp only at hkd;obtain⟨nc',hmm,_⟩:=hkd;rw[hm] at hmm;simp only[Option.some.injEq,Prod.mk.injEq] at hmm;obtain⟨rfl,rfl,rfl⟩:=hmm
          by_cases hfits:len+n<=cap'
          
          obtain⟨c,el,fz,c1,c2,c3⟩:=h.kS hj hg;have c2':k.more=some (aE E.P elem,cs.length,c.size)/\cs.length<=c.size/\fz=(0,0)/\0<aE E.P elem/\mh (aE E.P elem) c:=c2;obtain⟨c0,c5,rfl,_,c4⟩:=c2';rw[hm] at c0;simp only[Option.some.injEq,Prod.mk.injEq,true_and] at c0;have hcs:(len+n)*aE E.P elem<=c.size:=by
           rw[<-c0,<-e0]; simp; exact Qd _ hfits
          have hmul:(len+n)*aE E.P elem=len*aE E.P elem+n*aE E.P elem:=Qx _ _ _;have hst:=fC (P:=E.P) new' w c 0 (len*aE E.P elem) c1 (by rw[hnl]; omega) (lN hnew hone)
          have hold:(cs.take (len*aE E.P elem)).length=len*aE E.P elem:=hol;have hlecs:len*aE E.P elem<=cs.length:=by rw[Qj] at hold; omega
          have hor:OR j ⟨k.c,some (aE E.P elem,(len+n)*aE E.P elem,c.size)⟩ (.cells (cs.take (len*aE E.P elem)++new) (.more (aE E.P elem))) (.cells (aT c.toList (0+len*aE E.P elem) new').toArray el):=by
           refine OR.more (by rw[Pm,hold,hlen,hmul]) (by simp[cx]) hcs hsz (by unfold mh at *; simpa [cx] using c4) fun ix vx hix=>?_
           rw[PH,ca,PV]
           by_cases hlt:ix<len*aE E.P elem
           rw[PR (by rw[hold]; exact hlt),Rh,Ph hlt] at hix
           rw[RE]
           obtain⟨vx',q0,q2⟩:=c3 ix vx hix;exact⟨vx',by simpa using q0,q2⟩
           rw[PA (by rw[hold]; omega),hold] at hix
           obtain⟨vx',q0,q2⟩:=hnew.get hix;have hlt':=(PN.1 q0).1;rw[Ph ⟨by omega,by omega,by simp; omega⟩]
           exact⟨vx',q0,q2⟩
          have s1:=zx h hj (by rw[hg]; rfl) hor
          refine⟨_,_,.slice (some ⟨k.c,0,none⟩) (len+n) cap',?_,s1,.sliceM (k:=⟨k.c,some (aE E.P elem,(len+n)*aE E.P elem,c.size)⟩) (aY.cG _ _ _) rfl rfl (by rw[<-c0]; exact e0) (Pd _) hfits⟩
          rw[hrun];refine iT (happ w rfl) hfits ?_;rw[kG];have:=fC (P:=E.P) new' w c (0+len*aE E.P elem) 0 c1 (by rw[hnl]; omega) (lN hnew hone)
          simpa using this
          
          have hol':m.dq b 0 (len*aE E.P elem)=some (cs.take (len*aE E.P elem)):=by
           simp only[Sr.dq,hg,List.drop_zero];rw[Ph hol]
          obtain⟨old',g1,g0⟩:=h.dq hj hol';obtain⟨c6,rest,w0,h0,⟨hle,hmx⟩,hlr,hrp,hr⟩:=jl (P:=E.P) (zeros:=zeros) (s:=.slice (some ⟨k.c,0,none⟩) len cap') (x:=x') (base:=some ⟨k.c,0,none⟩) (sLen:=len) (sCap:=cap') (old:=old') happ
           (fun w0 h0=>g1 w0 h0) hfits hi hz' hfit hb hzs' hzp (by rw[<-g0.1]; exact hol) hnl
          have sk:=Ea h hj;obtain⟨j',s1,s2⟩:=iC sk.mr h0 (elem:=elem) (g0.append hnew) (n:=len+n) (by rw[Pm,hol,hlen,Qx]) hlr hle hsz hrp hmx
          exact⟨j',_,_,by rw[hrun]; exact hr,sk.trans h s1,s2⟩
        cases e
       cases e
      ·
       rename_i htag
       split at e
       ·rename_i old hold;cases e;have hkm:∀k:Blk,j b=some k->k.more=none:=by
         intro k hj;have:=h.kindOf hj hg;cases tag with
         | more sz=>exact Pz rfl (htag sz)
         | ro=>exact this
         | own=>exact this
        cases hs with
        | slice hj hm=>exact hexact _ hj hm _ hold rfl rfl
        | sliceM hj hm e1 e0 hl hc=>rw[hkm _ hj] at hm; cases hm
       cases e
    cases e
   ·
    rename_i b o
    split at e
    cases e
    ·rename_i h1;have hlc:len=0/\cap=0:=by omega
     obtain⟨rfl,rfl⟩:=hlc;cases hs with
     | dry =>
     rename_i a'
     split at e
     rename_i hn; subst hn; cases e;have:new'=[]:=QC (by rw[hnl]; simp)
     subst this;refine⟨j,w,_,?_,.refl h,.dry (a':=a')⟩;rw[hrun];exact iT (happ w rfl) (by omega) rfl
     rename_i hn; cases e;obtain⟨cap',rest,w0,h0,⟨hle,hmx⟩,hlr,hrp,hr⟩:=jl (P:=E.P) (zeros:=zeros) (s:=.slice (some a') 0 0) (x:=x') (base:=some a') (sLen:=0) (sCap:=0) (old:=[]) happ
      (fun w0 _=>by simp[Builtin.firstCells,loadCells,loadCellsFrom]) (by omega) hi hz' (by simpa using hfit) hb hzs' hzp (by simp) hnl
     obtain⟨j',s1,s2⟩:=iC h h0 (elem:=elem) hnew hlen (by simpa using hlr) (by omega) hsz hrp hmx
     refine⟨j',_,_,by rw[hrun]; exact hr,by simpa using s1,by simpa using s2⟩
   ·split at e
    ·rename_i hnil hmem hdry h1;obtain⟨rfl,rfl,rfl⟩:=h1;cases e;have:new'=[]:=QC (by rw[hnl]; simp)
     subst this;cases hs with
     | snil=>exact Pz rfl hnil
     | slice hj hm=>exact Pz rfl (hmem _ _)
     | sliceM hj hm e1 e0 hl hc=>exact Pz rfl (hmem _ _)
     | dry=>exact Pz rfl (hdry _ _)
     | gJ =>
      rename_i a' cap';refine⟨j,w,_,?_,.refl h,.gJ (a':=a') (cap':=cap')⟩;rw[hrun];exact iT (happ w rfl) (by omega) rfl
    cases e
 cases e
end
section
variable{E:Env}{j:aY}{m:Sr}{w:RB}
def De (h:MR E j m w) {t:Ry} {d d' s s' v:Rx} {m':Sr} (e:rC E.P t d s m=some (v,m')) (hd:VR j d d') (hs:VR j s s') {ts:SD Ry} (h0:ts[0]? = some t) (ty:Ry) :
  ∃w' v',(Builtin.copy_ ts ty #[d',s']).run E.P w=.ok v' w'/\Sim E j m w j m' w'/\VR j v v':=by
 unfold rC at e
 split at e
 ·rename_i elem base dLen dCap sa sLen sCap hu;simp only at e
  split at e
  cases e
  ·rename_i hk;have hk':known E.P elem=true:=by simpa using hk
   split at e
   cases e
   ·rename_i cells hsrc
    split at e
    cases e
    ·rename_i hone;have hone':bg cells=true:=by simpa using hone
     obtain⟨cells',hc1,hc2⟩:=BR h hsrc hs;have hlen:∀w0:RB,(Builtin.lenOf s').run E.P w0=.ok sLen w0:=by
      intro w0;cases hs<;>rfl
     have hbase:∃base' dCap',d'=.slice base' dLen dCap'/\(∀b o,base=some ⟨b,o,none⟩->∃k:Blk,j b=some k/\base'=some ⟨k.c,o,none⟩):=by
      cases hd with
      | snil=>exact⟨_,_,rfl,fun b o e=>by cases e⟩
      | slice hj hm=>exact⟨_,_,rfl,fun b o e=>by cases e; exact⟨_,hj,rfl⟩⟩
      | sliceM hj hm e1 e2 hl hc=>exact⟨_,_,rfl,fun b o e=>by cases e; exact⟨_,hj,rfl⟩⟩
      | gJ=>exact⟨_,_,rfl,fun b o e=>by cases e⟩
      | dry=>exact⟨_,_,rfl,fun b o e=>by cases e⟩
     obtain⟨base',dCap',rfl,hb⟩:=hbase;have hrun0:∀K:Rx->RB->Result Rx,True:=fun _=>trivial
     split at e
     rename_i hn;cases e;have hcl:cells=[]:=by
      unfold cO at hsrc
      split at hsrc<;>first |(split at hsrc<;>first |(cases hsrc; rfl) |(cases hsrc; done) |(rename_i hne; exact Pz hn hne)) |(cases hsrc; done)
     subst hcl;have:cells'=[]:=hc2.da;subst this;refine⟨w,.int .i64 0,?_,.refl h,.int _ _⟩;have hmin:Nat.min sLen dLen=0:=hn;simp only[Builtin.copy_,h0,PH,PF,PT,SG,SI hu,SE,hlen,hmin,cA hk'];rw[hn] at hc1;simp only[hc1 w rfl,SE];cases base'<;>rfl
     ·rename_i b o n hn;cases hst:m.cE b o cells with
      | none=>rw[hst] at e; cases e
      | some m1 =>
       rw[hst] at e; cases e;obtain⟨k,hj,rfl⟩:=hb b o rfl;obtain⟨w',g1,g2⟩:=hJ h hj hc2 hone' hst;refine⟨w',.int .i64 (n+1:Nat),?_,g2,.int _ _⟩;have hmin:Nat.min sLen dLen=n+1:=hn;simp only[Builtin.copy_,h0,PH,PF,PT,SG,SI hu,SE,hlen,hmin,cA hk'];rw[hn] at hc1;simp only[hc1 w rfl,SE,g1,SH,goInt]
     cases e
 cases e
def Cc(h:MR E j m w){t:Ry}{x x' v:Rx}{m':Sr}(e:Ag E.P t x m=some (v,m'))(hx:VR j x x'){ts:SD Ry}(h0:ts[0]? = some t)(ty:Ry) :
  ∃w' v',(Builtin.clear_ ts ty #[x']).run E.P w=.ok v' w'/\Sim E j m w j m' w'/\VR j v v':=by
 unfold Ag at e
 split at e
 rename_i elem a c hu;cases e;refine⟨w,.tuple #[],?_,.refl h,VR.undef j⟩;cases hx<;>simp only[Builtin.clear_,h0,PH,PF,SG,SI hu,SE]<;>rfl
 ·rename_i elem b o n c hnz hu
  split at e
  ·rename_i zs hz
   split at e
   ·rename_i hp;cases hst:m.cE b o zs with
    | none=>rw[hst] at e; cases e
    | some m1 =>
     rw[hst] at e; cases e;obtain⟨z,hz1,hz2,hz3⟩:=iG hz;have hone:bg zs=true:=by
      unfold bg;rw[Pr] at hp ⊢;intro v hv;have:=hp v hv;cases v<;>first|rfl |(simp[aR] at this)
     have hn0:n≠0:=fun e=>hnz e;have hzc:(Builtin.zeroCells z.cells n).toList=zs:=by rw[hz3]; exact kh n
     have hgo:∀k:Blk,j b=some k->∃w',(storeCells ⟨k.c,o,none⟩ zs).run E.P w=.ok () w'/\Sim E j m w j m' w':=fun k hj=>hJ h hj (LR.plain hp) hone hst;cases hx with
     | slice hj hm =>
      obtain⟨w',g1,g2⟩:=hgo _ hj;refine⟨w',.tuple #[],?_,g2,VR.undef j⟩;simp only[Builtin.clear_,h0,PH,PF,SG,SI hu,SE];cases n with
      | zero=>exact Pz rfl hn0
      | succ n=>simp only[ib hz1,SE,hzc,g1,SH]
     | sliceM hj hm e1 e2 hl hc =>
      obtain⟨w',g1,g2⟩:=hgo _ hj;refine⟨w',.tuple #[],?_,g2,VR.undef j⟩;simp only[Builtin.clear_,h0,PH,PF,SG,SI hu,SE];cases n with
      | zero=>exact Pz rfl hn0
      | succ n=>simp only[ib hz1,SE,hzc,g1,SH]
   cases e
  cases e
 cases e
def py:∀(vs vs':SB Rx) (k:IntKind) (a:Int) (v:Rx),ej (fun x y=>if y>x then y else x) k a vs=some v->LR j vs vs'->∀w,(vs'.foldlM Builtin.max2 (.int k a)).run E.P w=.ok v w
 | [],vs',k,a,v,e,hl,w=>by rw[hl.da]; cases e; rfl
 | x::vs,vs',k,a,v,e,hl,w=>by
  obtain⟨y,ys,rfl,h1,h2⟩:=hl.cons_inv;cases x<;>simp only[ej] at e<;>first |(cases e; done)|skip
  cases h1;simp only[List.foldlM_cons,Builtin.max2,SG,SH,SE];exact py vs ys k _ v e h2 w
def o7:∀(vs vs':SB Rx) (k:IntKind) (a:Int) (v:Rx),ej (fun x y=>if y<x then y else x) k a vs=some v->LR j vs vs'->∀w,(vs'.foldlM Builtin.min2 (.int k a)).run E.P w=.ok v w
 | [],vs',k,a,v,e,hl,w=>by rw[hl.da]; cases e; rfl
 | x::vs,vs',k,a,v,e,hl,w=>by
  obtain⟨y,ys,rfl,h1,h2⟩:=hl.cons_inv;cases x<;>simp only[ej] at e<;>first |(cases e; done)|skip
  cases h1;simp only[List.foldlM_cons,Builtin.min2,SG,SH,SE];exact o7 vs ys k _ v e h2 w
def ji(f:Int->Int->Int):∀(vs:SB Rx) (k:IntKind) (a:Int) (v:Rx),ej f k a vs=some v->∃n,v=.int k n
 | [],k,a,v,e=>by cases e; exact⟨a,rfl⟩
 | x::vs,k,a,v,e=>by
  cases x<;>simp only[ej] at e<;>first |(cases e; done)|exact ji f vs k _ v e
def ER.len:∀{a:SB (Rx×Rx)} {b:SB MapEntry},ER j a b->a.length=b.length
 | [],[],_=>rfl
 | _::_,_::_,h=>by simp[ER.len h.2.2]
 | [],_::_,h=>h.elim
 | _::_,[],h=>h.elim
def yl (h:MR E j m w) {b:Builtin} {ts:SD Ry} {args args':SB Rx} {v:Rx} {m':Sr} (e:bf E.P b ts args m=some (v,m')) (ha:LR j args args') (ty:Ry) (cs:SD Bool) :
  (m'=m/\(∀m2:Sr,((b=.len\/b=.cap)->∀x b0,args=[x]->dW x=some b0->m2.get b0=m.get b0)->bf E.P b ts args m2=some (v,m2))/\∃v',(builtin b ts ty cs args'.toArray).run E.P w=.ok (.value v') w/\VR j v v') \/
  ((b=.append\/b=.copy\/b=.clear\/b=.delete)/\∃j' w' v',(builtin b ts ty cs args'.toArray).run E.P w=.ok (.value v') w'/\Sim E j m w j' m' w'/\VR j' v v'):=by
 unfold bf at e
 split at e
 ·
  rename_i x;obtain⟨x',l,rfl,hx,hl⟩:=ha.cons_inv;rw[hl.da];refine .inl ?_;have k3:∀n:Int,(Builtin.len_ ts ty [x'].toArray).run E.P w=.ok (.int .i64 n) w->∃v',(builtin .len ts ty cs [x'].toArray).run E.P w=.ok (.value v') w/\VR j (.int .i64 n) v' :=
   fun n hr=>⟨_,by simp only[builtin,SG,hr,SE,SH],.int _ _⟩
  cases ht:ts[0]? with
  | none=>rw[ht] at e; simp at e
  | some t =>
   rw[ht] at e;simp only[PI] at e
   split at e
   rename_i hu; cases e; cases hx;exact⟨rfl,fun m2 h0=>by simp only[bf,ht,PI,hu],k3 _ (by simp only[Builtin.len_,ht,PH,PF,SG,SI hu,SE,SH,goInt])⟩
   rename_i hu; cases e;exact⟨rfl,fun m2 h0=>by simp only[bf,ht,PI,hu],k3 _ (by simp only[Builtin.len_,ht,PH,PF,SG,SI hu,SE,SH,goInt])⟩
   rename_i a hu
   split at e
   rename_i h4; cases e;exact⟨rfl,fun m2 h0=>by simp only[bf,ht,PI,hu,h4],k3 _ (by simp only[Builtin.len_,ht,PH,PF,SG,SI hu,SI h4,SE,SH,goInt])⟩
   cases e
   rename_i hu; cases e;cases hx<;>exact⟨rfl,fun m2 h0=>by simp only[bf,ht,PI,hu],k3 _ (by simp only[Builtin.len_,ht,PH,PF,SG,SI hu,SE,SH,goInt])⟩
   ·rename_i hu;cases hes:mapOf m _ with
    | none=>rw[hes] at e; cases e
    | some es =>
     rw[hes] at e; cases e;unfold mapOf at hes
     split at hes
     cases hes; cases hx;exact⟨rfl,fun m2 h0=>by simp only[bf,ht,PI,hu,mapOf,Pj],k3 _ (by simp only[Builtin.len_,ht,PH,PF,SG,SI hu,SE,SH,goInt]; rfl)⟩
     ·rename_i r
      split at hes
      ·rename_i e0 hg;cases hes;cases hx with
       | map hj =>
       obtain⟨es',clock,h1,h2⟩:=h.xT hj hg;have hlen:es.length=es'.size:=by
        simpa using ER.len h2
       exact⟨rfl,fun m2 h0=>by simp only[bf,ht,PI,hu,mapOf,h0 (.inl rfl) _ _ rfl rfl,hg,Pj],k3 _ (by simp only[Builtin.len_,ht,PH,PF,SG,SI hu,SE,run_getObj_map h1,SH,goInt,hlen])⟩
      cases hes
     cases hes
   cases e
 ·
  rename_i x;obtain⟨x',l,rfl,hx,hl⟩:=ha.cons_inv;rw[hl.da];refine .inl ?_;have k3:∀n:Int,(Builtin.cap_ ts ty [x'].toArray).run E.P w=.ok (.int .i64 n) w->∃v',(builtin .cap ts ty cs [x'].toArray).run E.P w=.ok (.value v') w/\VR j (.int .i64 n) v' :=
   fun n hr=>⟨_,by simp only[builtin,SG,hr,SE,SH],.int _ _⟩
  cases ht:ts[0]? with
  | none=>rw[ht] at e; simp at e
  | some t =>
   rw[ht] at e;simp only[PI] at e
   split at e
   rename_i hu; cases e; cases hx;exact⟨rfl,fun m2 h0=>by simp only[bf,ht,PI,hu],k3 _ (by simp only[Builtin.cap_,ht,PH,PF,SG,SI hu,SE,SH,goInt])⟩
   ·rename_i b0 o l0 n hu
    split at e
    cases e
    ·rename_i c0 tag htag hg;cases e;cases hx with
     | slice hj hm =>
      refine⟨rfl,fun m2 h0=>?_,k3 _ (by simp only[Builtin.cap_,ht,PH,PF,SG,SI hu,SE,SH,goInt])⟩
      have h5:m2.get b0=some (.cells c0 tag):=(h0 (.inr rfl) _ _ rfl rfl).trans hg;simp only[bf,ht,PI,hu,h5]
     | sliceM hj hm e1 e2 hl hc =>
      have:=h.kindOf hj hg;cases tag with
      | more sz=>exact Pz rfl (htag sz)
      | ro=>simp only at this; rw[hm] at this; cases this
      | own=>simp only at this; rw[hm] at this; cases this
    cases e
   cases e
 
 rename_i s x;obtain⟨s',l,rfl,hs,hl⟩:=ha.cons_inv;obtain⟨x',l',rfl,hx,hl'⟩:=hl.cons_inv;rw[hl'.da]
 split at e
 rename_i t ht;obtain⟨j',w',v',h1,h2,h3⟩:=yS h e hs hx ht rfl ty;exact .inr ⟨by simp,j',w',v',by simp only[builtin,SG]; rw[h1]; rfl,h2,h3⟩
 cases e
 
 rename_i d s;obtain⟨d',l,rfl,hd,hl⟩:=ha.cons_inv;obtain⟨s',l',rfl,hs,hl'⟩:=hl.cons_inv;rw[hl'.da]
 split at e
 rename_i t ht;obtain⟨w',v',h1,h2,h3⟩:=De h e hd hs ht ty;exact .inr ⟨by simp,j,w',v',by simp only[builtin,SG]; rw[h1]; rfl,h2,h3⟩
 cases e
 
 rename_i x;obtain⟨x',l,rfl,hx,hl⟩:=ha.cons_inv;rw[hl.da]
 split at e
 rename_i t ht;obtain⟨w',v',h1,h2,h3⟩:=Cc h e hx ht ty;exact .inr ⟨by simp,j,w',v',by simp only[builtin,SG]; rw[h1]; rfl,h2,h3⟩
 cases e
 ·
  rename_i x k;obtain⟨x',l,rfl,hx,hl⟩:=ha.cons_inv;obtain⟨k',l',rfl,hk,hl'⟩:=hl.cons_inv;rw[hl'.da]
  split at e
  ·rename_i t ht;cases hd:pU E.P t x k m with
   | none=>rw[hd] at e; cases e
   | some m1 =>
    rw[hd] at e; cases e;obtain⟨w',h1,h2⟩:=Al h hd hx hk ts ht ty;exact .inr ⟨by simp,j,w',.tuple #[],by simp only[builtin,SG]; rw[h1]; rfl,h2,VR.undef j⟩
  cases e
 ·
  rename_i k a vs;obtain⟨x',l,rfl,hx,hl⟩:=ha.cons_inv;cases hx;cases hf:ej (fun x y=>if y>x then y else x) k a vs with
  | none=>rw[hf] at e; cases e
  | some r =>
   rw[hf] at e; cases e;obtain⟨n,rfl⟩:=ji _ _ _ _ _ hf;refine .inl ⟨rfl,fun m2 _=>by simp only[bf,hf,Pj],.int k n,?_,.int _ _⟩
   have:=py (E:=E) vs l k a _ hf hl w;simp only[builtin,SG,Builtin.max_,this,SE,SH]
 ·
  rename_i k a vs;obtain⟨x',l,rfl,hx,hl⟩:=ha.cons_inv;cases hx;cases hf:ej (fun x y=>if y<x then y else x) k a vs with
  | none=>rw[hf] at e; cases e
  | some r =>
   rw[hf] at e; cases e;obtain⟨n,rfl⟩:=ji _ _ _ _ _ hf;refine .inl ⟨rfl,fun m2 _=>by simp only[bf,hf,Pj],.int k n,?_,.int _ _⟩
   have:=o7 (E:=E) vs l k a _ hf hl w;simp only[builtin,SG,Builtin.min_,this,SE,SH]
 cases e
end
section
variable{E:Env}{j:aY}{m:Sr}{w:RB}{t:Tm}{n:Nat}{a:Act}
def aU(h:MR E j m w)(ht:TR n j t a.tmps){x:Rz}{v:Rx}(e:aB E t x=some v):VR j v (a.eval x):=by
 unfold aB at e
 split at e
 cases e; exact ht.2 _
 split at e
 rename_i hp; cases e; exact VR.bF hp
 cases e
 split at e
 rename_i hg; cases e; exact .ptr (h.glob _ hg)
 cases e
 cases e; exact .func rfl (fun i a _=>by simp at a) rfl (fun i a _=>by simp at a)
def ff(h:MR E j m w)(ht:TR n j t a.tmps):∀{xs:SB Rz} {vs:SB Rx},bA E t xs=some vs->LR j vs (xs.map a.eval)
 | [],vs,e=>by cases e; exact .nil j
 | x::xs,vs,e=>by
  simp only[bA] at e
  split at e
  rename_i v vs' h1 h2;cases e;exact .cons (aU h ht h1) (ff h ht h2)
  cases e
def iN(h:MR E j m w)(ht:TR n j t a.tmps):∀{xs:SB (Nat×Rz)} {vs:SB (Nat×Rx)},dg E t xs=some vs ->
  vs.map (·.1)=(xs.map fun p=>(p.1,a.eval p.2)).map (·.1)/\LR j (vs.map (·.2)) ((xs.map fun p=>(p.1,a.eval p.2)).map (·.2))
 | [],vs,e=>by cases e; exact⟨rfl,.nil j⟩
 |(i,x)::xs,vs,e=>by
  simp only[dg] at e
  split at e
  rename_i v vs' h1 h2;cases e;obtain⟨h3,h4⟩:=iN h ht h2;exact⟨by simpa using h3,.cons (aU h ht h1) h4⟩
  cases e
def ml(h:MR E j m w)(ht:TR n j t a.tmps){x:SA Rz}{v:SA Rx}(e:dz E t x=some v):OVR j v (x.map a.eval):=by
 cases x with
 | none=>cases e; exact .none
 | some x =>
  simp only[dz] at e;cases hv:aB E t x with
  | none=>rw[hv] at e; cases e
  | some v0=>rw[hv] at e; cases e; exact .some (aU h ht hv)
def pK(P:RA)(s:Sem Next)(v:Rx)(w w':RB):Prop:=s.run P w=.ok (.value v) w'\/(s.run P w=.ok .skip w'/\v=undef)
def pK.value{P:RA}{s:Sem Rx}{v:Rx}{w w':RB}(h:s.run P w=.ok v w'):pK P (do pure (.value (<-s))) v w w' :=
 .inl (by simp only[SG,h,SE,SH])
def pK.unit{P:RA}{s:Sem SC}{w w':RB}(h:s.run P w=.ok () w'):pK P (do s; pure .skip) undef w w' :=
 .inr ⟨by simp only[SG,h,SE,SH],rfl⟩
def map_some{α β:Type}{f:α->β}{x:SA α}{y:β}(h:x.map f=some y):∃a,x=some a/\y=f a:=by
 cases x with
 | none=>cases h
 | some a=>cases h; exact⟨a,rfl,rfl⟩
def xG{m2 m:Sr}{b o n:Nat}(h:m2.get b=m.get b):m2.dq b o n=m.dq b o n:=by simp only[Sr.dq,h]
def wH{P:RA}{t:Ry}{p:Rx}{m2 m:Sr}(h:∀b0,dW p=some b0->m2.get b0=m.get b0):dB P t p m2=dB P t p m:=by
 unfold dB
 split
 rename_i b o;have hb:=h b rfl;simp only[xG hb,hb]
 rfl
def vN{P:RA}{t:Ry}{p:Rx}{l hh k:SA Rx}{m2 m:Sr}(h:∀b0,dW p=some b0->m2.get b0=m.get b0):cj P t p l hh k m2=cj P t p l hh k m:=by
 unfold cj
 split
 rfl
 rename_i b o len cap _;simp only[h b rfl]
 rfl
 rename_i b o _;simp only[h b rfl]
 rfl
def sH{P:RA}{t:Ry}{p q:Rx}{ok:Bool}{m2 m:Sr}(h:∀b0,dW p=some b0->m2.get b0=m.get b0):dj P t p q ok m2=dj P t p q ok m:=by
 have:mapOf m2 p=mapOf m p:=by
  unfold mapOf
  split
  rfl
  rename_i r; simp only[h r rfl]
  rfl
 unfold dj;simp only[this]
def Quiet(E:Env)(j:aY)(m:Sr)(w:RB)(t:Tm)(a:Act)(o:Oper)(v:Rx)(m':Sr):Prop :=
 m'=m/\(∀m2:Sr,(∀b0,aQ E t o.op=some b0->m2.get b0=m.get b0)->cQ E t m2 o.op=some (v,m2))/\∃v',pK E.P (execOp a.eval o) v' w w/\VR j v v'
def Mx(E:Env)(j:aY)(m:Sr)(w:RB)(t:Tm)(a:Act)(o:Oper)(v:Rx)(m':Sr):Prop :=
 ∃(ao:St) (co:Obj) (vb:Nat->Rx) (v':Rx),v=vb m.next/\m'=m.alloc ao/\pK E.P (execOp a.eval o) v' w (w.alloc co)/\OR j ⟨w.heap.size,none⟩ ao co /\
  (∀(j':aY) (b:Nat),j' b=some ⟨w.heap.size,none⟩->VR j' (vb b) v')/\∀m2:Sr,cQ E t m2 o.op=some (vb m2.next,m2.alloc ao)
def uR(h:MR E j m w)(ht:TR n j t a.tmps){o:Oper}{v:Rx}{m':Sr}(e:cQ E t m o.op=some (v,m')) :
  Quiet E j m w t a o v m'\/Mx E j m w t a o v m'\/(aI o.op=true/\∃j' w' v',pK E.P (execOp a.eval o) v' w w'/\Sim E j m w j' m' w'/\VR j' v v'):=by
 have hpure:∀{s:Sem Rx} {f:Sr->SA Rx} {v0:Rx} {m0:Sr},(∀m2:Sr,cQ E t m2 o.op=(f m2).map fun v=>(v,m2))->(∀m2:Sr,(∀b0,aQ E t o.op=some b0->m2.get b0=m.get b0)->f m2=f m) ->
   (∀v1,f m=some v1->∃v',s.run E.P w=.ok v' w/\VR j v1 v')->(f m).map (fun v=>(v,m))=some (v0,m0)->execOp a.eval o=(do pure (.value (<-s))) ->
   Quiet E j m w t a o v0 m0:=by
  intro s f v0 m0 hf hf2 h1 h2 hx;obtain⟨v1,hr,he⟩:=map_some h2;cases he;obtain⟨v',h3,h4⟩:=h1 _ hr;exact⟨rfl,fun m2 hm2=>by rw[hf,hf2 m2 hm2,hr]; rfl,v',by rw[hx]; exact .value h3,h4⟩
 cases hop:o.op<;>rw[hop] at e<;>simp only[cQ] at e<;>try(cases e; done)
 case move x =>
  refine .inl ⟨(by obtain⟨v1,hv,he⟩:=map_some e; cases he; rfl),fun m2 _=>?_,?_⟩
  rw[hop]; obtain⟨v1,hv,he⟩:=map_some e; cases he;simp only[cQ,hv,Pj]
  obtain⟨v1,hv,he⟩:=map_some e;cases he;exact⟨_,.inl (by simp only[execOp,hop]; rfl),aU h ht hv⟩
 case assign x =>
  refine .inl ⟨(by obtain⟨v1,hv,he⟩:=map_some e; cases he; rfl),fun m2 _=>?_,?_⟩
  rw[hop]; obtain⟨v1,hv,he⟩:=map_some e; cases he;simp only[cQ,hv,Pj]
  obtain⟨v1,hv,he⟩:=map_some e;cases he;exact⟨_,.inl (by simp only[execOp,hop]; rfl),aU h ht hv⟩
 case pick c x y =>
  have hx:execOp a.eval o=(do pure (.value (if <-asBool (a.eval c) then a.eval x else a.eval y))):=by simp only[execOp,hop]
  refine .inl ?_
  split at e
  rename_i hc;obtain⟨v1,hv,he⟩:=map_some e;cases he;have hb:=aU h ht hc;refine⟨rfl,fun m2 _=>by rw[hop]; simp only[cQ,hc,hv,Pj],a.eval x,?_,aU h ht hv⟩
  rw[hx];generalize a.eval c=cv at hb;cases hb;exact .inl rfl
  rename_i hc;obtain⟨v1,hv,he⟩:=map_some e;cases he;have hb:=aU h ht hc;refine⟨rfl,fun m2 _=>by rw[hop]; simp only[cQ,hc,hv,Pj],a.eval y,?_,aU h ht hv⟩
  rw[hx];generalize a.eval c=cv at hb;cases hb;exact .inl rfl
  cases e
 case alloc elem =>
  have hx:execOp a.eval o=(do pure (.value (<-Instr.alloc elem true (.tuple #[])))):=by simp only[execOp,hop]
  split at e
  rename_i z hz
  split at e
  rename_i hp;cases e;refine .inr (.inl ⟨_,.cells z.cells elem,fun b=>ptr b 0,.pointer (some ⟨w.heap.size,0,none⟩),rfl,rfl,?_,OR.own (gv (VR.bF hp)),fun j' b hb=>.ptr hb,fun m2=>by rw[hop]; simp only[cQ,hz,hp,if_true]⟩)
  rw[hx];refine .value ?_;simp only[Instr.alloc,SG,ib hz,SE,newVar,newRow,run_newObj,SH,World.alloc_eq]
  cases e
  cases e
 case box elem x =>
  have hx:execOp a.eval o=(do pure (.value (<-Instr.box elem (a.eval x)))):=by simp only[execOp,hop]
  obtain⟨v1,hv,he⟩:=map_some e;cases he;refine .inr (.inl ⟨_,.cells (a.eval x).cells elem,fun b=>ptr b 0,.pointer (some ⟨w.heap.size,0,none⟩),rfl,rfl,?_,OR.own (gv (aU h ht hv)),fun j' b hb=>.ptr hb,fun m2=>by rw[hop]; simp only[cQ,hv,Pj]⟩)
  rw[hx];refine .value ?_;simp only[Instr.box,SG,newVar,newRow,run_newObj,SE,SH,World.alloc_eq]
 case build ty parts =>
  have hx:execOp a.eval o=(do pure (.value (<-Instr.build ty (parts.map fun(i,x)=>(i,a.eval x))))):=by simp only[execOp,hop]
  split at e
  rename_i ps z hps hz
  split at e
  rename_i hp;obtain⟨h1,h2⟩:=iN h ht hps;refine .inl (hpure (f:=fun _=>jC E.P ty ps) (fun m2=>by rw[hop]; simp only[cQ,hps,hz,Ph hp]) (fun _ _=>rfl) (fun v1 hv1=>?_) e hx)
  obtain⟨v',h3,h4⟩:=Cu hv1 h1 h2 hz hp;refine⟨v',?_,h4⟩;have:(parts.map fun(i,x)=>(i,a.eval x))=(parts.toList.map fun p=>(p.1,a.eval p.2)).toArray:=by
   apply Ql.1; simp
  rw[this]; exact h3 w
  cases e
  cases e
 case buildSlice ty len parts =>
  have hx:execOp a.eval o=(do pure (.value (<-Instr.buildSlice ty len (parts.map fun(i,x)=>(i,a.eval x))))):=by simp only[execOp,hop]
  split at e
  rename_i elem ps hu hps
  split at e
  cases e
  rename_i hc;simp only[Qo,Qe,Pv,not_or,Bool.not_eq_false] at hc;obtain⟨hk,hbig⟩:=hc
  split at e
  rename_i zs hz
  split at e
  rename_i hp;obtain⟨cs,hcs,he⟩:=map_some e;cases he;obtain⟨h1,h2⟩:=iN h ht hps;obtain⟨z,hz1,hz2,hz3⟩:=iG hz;obtain⟨cs',h3,h4⟩:=nG h1 h2 (LR.plain (j:=j) hp) hcs;have hparts:(parts.map fun(i,x)=>(i,a.eval x)).toList=parts.toList.map fun p=>(p.1,a.eval p.2):=by simp
  refine .inr (.inl ⟨_,.cells cs'.toArray elem,fun b=>.slice (some ⟨b,0,none⟩) len len,.slice (some ⟨w.heap.size,0,none⟩) len len,rfl,rfl,?_,OR.own (by simpa using h4),fun j' b hb=>.slice hb rfl,fun m2=>by rw[hop]; simp only[cQ,hu,hps,hk,hz,hp,hcs,PL hbig,PE,Bool.or_self,Pu,if_true,if_false,Pj]⟩)
  rw[hx];refine .value ?_;have hc0:len*aE E.P elem=0->((Array.range (len*aE E.P elem)).map fun i=>(#[]:SD Rx)[i%(#[]:SD Rx).size]!)=zs.toArray:=by
   intro h0;apply Ql.1;have:zs=[]:=by apply QC; rw[hz3,fE,QT,hz2,h0]
   simp[h0,this]
  have hc1:((Array.range (len*aE E.P elem)).map fun i=>z.cells[i%z.cells.size]!)=zs.toArray:=by
   apply Ql.1;rw[hz3,<-hz2]; exact kh len
  simp only[Instr.buildSlice,SG,SI hu,SE,cA hk,Sem.run_ite,Pb hbig,hparts]
  split
  rename_i h0;simp only[SH,SE,hc0 h0,h3,newRow,SG,run_newObj,World.alloc_eq]
  simp only[SG,ib hz1,SH,SE,hc1,h3,newRow,run_newObj,World.alloc_eq]
  cases e
  cases e
  cases e
 case load ty x =>
  have hx:execOp a.eval o=(do pure (.value (<-Instr.loadAt ty (a.eval x)))):=by simp only[execOp,hop]
  split at e
  rename_i p hp;refine .inl (hpure (f:=fun m2=>dB E.P ty p m2) (fun m2=>by rw[hop]; simp only[cQ,hp]) (fun m2 hm2=>?_) (fun v1 hv1=>yc h hv1 (aU h ht hp)) e hx)
  rw[hop] at hm2;simp only[aQ,hp,PI] at hm2;exact wH hm2
  cases e
 case store ty x y =>
  have hx:execOp a.eval o=(do Instr.storeAt ty (a.eval x) (a.eval y); pure .skip):=by simp only[execOp,hop]
  rw[hx]
  split at e
  rename_i p v0 hp hv0;obtain⟨m1,hm1,he⟩:=map_some e;cases he;obtain⟨w',h1,h2⟩:=B9 h hm1 (aU h ht hp) (aU h ht hv0);exact .inr (.inr ⟨rfl,j,w',undef,.unit h1,h2,VR.undef j⟩)
  cases e
 case nilCheck x =>
  split at e
  rename_i ad hp;cases e;have hv:=aU h ht hp;refine .inl ⟨rfl,fun m2 _=>by rw[hop]; simp only[cQ,hp],a.eval x,.inl ?_,hv⟩
  generalize hxv:a.eval x=xv at hv;cases hv;simp only[execOp,hop,hxv,SH]
  rename_i f fs cs hp;cases e;have hv:=aU h ht hp;refine .inl ⟨rfl,fun m2 _=>by rw[hop]; simp only[cQ,hp],a.eval x,.inl ?_,hv⟩
  generalize hxv:a.eval x=xv at hv;cases hv;simp only[execOp,hop,hxv,SH]
  rename_i f fs cs hp;cases e;have hv:=aU h ht hp;refine .inl ⟨rfl,fun m2 _=>by rw[hop]; simp only[cQ,hp],a.eval x,.inl ?_,hv⟩
  generalize hxv:a.eval x=xv at hv;cases hv;simp only[execOp,hop,hxv,SH]
  cases e
 case binOp op xt x y yt =>
  have hx:execOp a.eval o=(do pure (.value (<-(do eqGuard op xt x y (a.eval x) (a.eval y); binOp op xt (a.eval x) (a.eval y))))):=by simp only[execOp,hop]
  split at e
  rename_i p q hp hq;refine .inl (hpure (f:=fun _=>bU op xt E.P p q) (fun m2=>by rw[hop]; simp only[cQ,hp,hq]) (fun _ _=>rfl) (fun v1 hv1=>?_) e hx)
  obtain⟨v',h1,h2⟩:=Hi hv1 (aU h ht hp) (aU h ht hq) x y;exact⟨v',h1 w,h2⟩
  cases e
 case unOp op xt x =>
  have hx:execOp a.eval o=(do pure (.value (<-Op.unary op (a.eval x)))):=by simp only[execOp,hop]
  split at e
  rename_i p hp;refine .inl (hpure (f:=fun _=>yO op p) (fun m2=>by rw[hop]; simp only[cQ,hp]) (fun _ _=>rfl) (fun v1 hv1=>?_) e hx)
  obtain⟨v',h1,h2⟩:=Kg (P:=E.P) hv1 (aU h ht hp);exact⟨v',h1 w,h2⟩
  cases e
 case convert s d x =>
  have hx:execOp a.eval o=(do pure (.value (<-convert s d (a.eval x)))):=by simp only[execOp,hop]
  split at e
  rename_i p hp;refine .inl (hpure (f:=fun _=>fO E.P s d p) (fun m2=>by rw[hop]; simp only[cQ,hp]) (fun _ _=>rfl) (fun v1 hv1=>?_) e hx)
  obtain⟨v',h1,h2⟩:=E6 hv1 (aU h ht hp);exact⟨v',h1 w,h2⟩
  cases e
 case makeFunc fn first captured =>
  cases fn<;>simp only at e<;>try(cases e; done)
  rename_i f;have hx:execOp a.eval o=(do pure (.value (<-Instr.makeFunc (.func f) (first.map a.eval) (captured.map a.eval)))):=by simp only[execOp,hop]
  split at e
  rename_i fs cs h1 h2;cases e;have h3:=ff h ht h1;have h4:=ff h ht h2;have h3':LR j fs.toArray.toList (first.map a.eval).toList:=by simpa using h3
  have h4':LR j cs.toArray.toList (captured.map a.eval).toList:=by simpa using h4
  refine .inl ⟨rfl,fun m2 _=>by rw[hop]; simp only[cQ,h1,h2],_,?_,.func h3'.size h3'.arr h4'.size h4'.arr⟩
  rw[hx]; exact .value rfl
  cases e
 case makeMap ty r =>
  cases r with
  | some _=>simp at e
  | none =>
   simp only at e;cases e;have hx:execOp a.eval o=(do pure (.value (<-Instr.makeMap ty none))):=by simp only[execOp,hop]; rfl
   refine .inr (.inl ⟨.map [],.map #[] 0,fun b=>.map (some b),.map (some w.heap.size),rfl,rfl,?_,⟨trivial,B6 _⟩,fun j' b hb=>.map hb,fun m2=>by rw[hop]; rfl⟩)
   rw[hx];refine .value ?_;simp only[Instr.makeMap,SG,run_newObj,SE,SH,World.alloc_eq]
 case makeSlice ty l c =>
  have hx:execOp a.eval o=(do pure (.value (<-Instr.makeSlice ty (a.eval l) (a.eval c)))):=by simp only[execOp,hop]
  split at e
  rename_i elem li ci hu hl hc
  split at e
  rename_i hcond;have hcond0:=hcond;obtain⟨h0l,hlc,hany,hk⟩:=hcond;simp only[Option.any_eq_true,Pe,Pv,bne_iff_ne,ne_eq] at hany;obtain⟨i,hi,hby,hb0⟩:=hany
  split at e
  rename_i zs hz
  split at e
  rename_i hp;cases e;obtain⟨z,hz1,hz2,hz3⟩:=iG hz;have hlv:=aU h ht hl;have hcv:=aU h ht hc;refine .inr (.inl ⟨_,.cells zs.toArray elem,fun b=>.slice (some ⟨b,0,none⟩) li.toNat ci.toNat,.slice (some ⟨w.heap.size,0,none⟩) li.toNat ci.toNat,rfl,rfl,?_,OR.own (LR.plain hp),fun j' b hb=>.slice hb rfl,fun m2=>by rw[hop]; simp only[cQ,hu,hl,hc]; rw[Ph hcond0]; simp only[hz,hp,if_true]⟩)
  rw[hx];refine .value ?_;generalize a.eval l=lv at hlv;generalize a.eval c=cv at hcv;cases hlv; cases hcv;have hci:ci<=2 ^ 40:=by
   have h1:(1:Int)<=(i.bytes:Int):=by exact_mod_cast Nat.one_le_iff_ne_zero.2 hb0
   have:1*ci<=(i.bytes:Int)*ci:=Int.mul_le_mul_of_nonneg_right h1 (by omega)
   omega
  have hwl:IntKind.i64.wrap li=li:=IntWalk.i64_in li (by omega)
  have hwc:IntKind.i64.wrap ci=ci:=IntWalk.i64_in ci (by omega)
  have hneg:¬(((ci<0 ||(i.bytes:Int)*ci>2 ^ 48)||li<0||li>ci)=true):=by
   simp only[Qo,Pv,not_or];omega
  have hc0:ci.toNat*aE E.P elem=0->((Array.range (ci.toNat*aE E.P elem)).map fun i=>(#[]:SD Rx)[i%(#[]:SD Rx).size]!)=zs.toArray:=by
   intro h0;apply Ql.1;have:zs=[]:=by apply QC; rw[hz3,fE,QT,hz2,h0]
   simp[h0,this]
  have hc1:((Array.range (ci.toNat*aE E.P elem)).map fun i=>z.cells[i%z.cells.size]!)=zs.toArray:=by
   apply Ql.1;rw[hz3,<-hz2]; exact kh ci.toNat
  simp only[Instr.makeSlice,SG,SI hu,SE,asInt,asIntOf,SH,qp hi,hwl,hwc,Sem.run_ite,Pb hneg,run_askRoom,cA hk]
  split
  rename_i h0;simp only[SH,SE,hc0 h0,newRow,SG,run_newObj,World.alloc_eq]
  simp only[SG,ib hz1,SH,SE,hc1,newRow,run_newObj,World.alloc_eq]
  cases e
  cases e
  cases e
  cases e
 case slice ty x lo hi mx =>
  have hx:execOp a.eval o=(do pure (.value (<-Instr.sliceAt ty (a.eval x) (lo.map a.eval) (hi.map a.eval) (mx.map a.eval)))):=by simp only[execOp,hop]
  split at e
  rename_i p l hh k hp h1 h2 h3;refine .inl (hpure (f:=fun m2=>cj E.P ty p l hh k m2) (fun m2=>by rw[hop]; simp only[cQ,hp,h1,h2,h3]) (fun m2 hm2=>?_) (fun v1 hv1=>?_) e hx)
  rw[hop] at hm2;simp only[aQ,hp,PI] at hm2;exact vN hm2
  obtain⟨v',g1,g2⟩:=BX h hv1 (aU h ht hp) (ml h ht h1) (ml h ht h2) (ml h ht h3);exact⟨v',g1 w,g2⟩
  cases e
 case fieldAddr s x f =>
  have hx:execOp a.eval o=(do pure (.value (<-Instr.fieldAt s (a.eval x) f))):=by simp only[execOp,hop]
  split at e
  rename_i p hp;refine .inl (hpure (f:=fun _=>aM E.P s p f) (fun m2=>by rw[hop]; simp only[cQ,hp]) (fun _ _=>rfl) (fun v1 hv1=>?_) e hx)
  obtain⟨v',g1,g2⟩:=sJ hv1 (aU h ht hp);exact⟨v',g1 w,g2⟩
  cases e
 case field ty x f =>
  have hx:execOp a.eval o=(do pure (.value (<-Instr.field ty (a.eval x) f))):=by simp only[execOp,hop]
  split at e
  rename_i p hp;refine .inl (hpure (f:=fun _=>me E.P ty p f) (fun m2=>by rw[hop]; simp only[cQ,hp]) (fun _ _=>rfl) (fun v1 hv1=>?_) e hx)
  obtain⟨v',g1,g2⟩:=CQ hv1 (aU h ht hp);exact⟨v',g1 w,g2⟩
  cases e
 case sliceToArrayPointer ty x =>
  have hx:execOp a.eval o=(do pure (.value (<-Instr.arrayAt ty (a.eval x)))):=by simp only[execOp,hop]
  split at e
  rename_i p hp;refine .inl (hpure (f:=fun _=>Bq E.P ty p) (fun m2=>by rw[hop]; simp only[cQ,hp]) (fun _ _=>rfl) (fun v1 hv1=>?_) e hx)
  obtain⟨v',g1,g2⟩:=ES hv1 (aU h ht hp);exact⟨v',g1 w,g2⟩
  cases e
 case indexAddr ty x i =>
  have hx:execOp a.eval o=(do pure (.value (<-Instr.indexAt ty (a.eval x) (a.eval i)))):=by simp only[execOp,hop]
  split at e
  rename_i p q hp hq;refine .inl (hpure (f:=fun _=>bP E.P ty p q) (fun m2=>by rw[hop]; simp only[cQ,hp,hq]) (fun _ _=>rfl) (fun v1 hv1=>?_) e hx)
  obtain⟨v',g1,g2⟩:=sw hv1 (aU h ht hp) (aU h ht hq);exact⟨v',g1 w,g2⟩
  cases e
 case index ty x i =>
  have hx:execOp a.eval o=(do pure (.value (<-Instr.index ty (a.eval x) (a.eval i)))):=by simp only[execOp,hop]
  split at e
  rename_i p q hp hq;refine .inl (hpure (f:=fun _=>fD E.P ty p q) (fun m2=>by rw[hop]; simp only[cQ,hp,hq]) (fun _ _=>rfl) (fun v1 hv1=>?_) e hx)
  obtain⟨v',g1,g2⟩:=CB hv1 (aU h ht hp) (aU h ht hq);exact⟨v',g1 w,g2⟩
  cases e
 case lookup ty x i ok =>
  have hx:execOp a.eval o=(do pure (.value (<-Instr.lookup ty (a.eval x) (a.eval i) ok))):=by simp only[execOp,hop]
  split at e
  rename_i p q hp hq;refine .inl (hpure (f:=fun m2=>dj E.P ty p q ok m2) (fun m2=>by rw[hop]; simp only[cQ,hp,hq]) (fun m2 hm2=>?_) (fun v1 hv1=>yT h hv1 (aU h ht hp) (aU h ht hq)) e hx)
  rw[hop] at hm2;simp only[aQ,hp,PI] at hm2;exact sH hm2
  cases e
 case mapUpdate ty x k y =>
  have hx:execOp a.eval o=(do Instr.mapUpdate ty (a.eval x) (a.eval k) (a.eval y); pure .skip):=by simp only[execOp,hop]
  rw[hx]
  split at e
  rename_i p q r hp hq hr;obtain⟨m1,hm1,he⟩:=map_some e;cases he;obtain⟨w',h1,h2⟩:=lJ h hm1 (aU h ht hp) (aU h ht hq) (aU h ht hr);exact .inr (.inr ⟨rfl,j,w',undef,.unit h1,h2,VR.undef j⟩)
  cases e
 case insert ty x k y =>
  have hx:execOp a.eval o=(do Instr.mapUpdate ty (a.eval x) (a.eval k) (a.eval y); pure .skip):=by simp only[execOp,hop]
  rw[hx]
  split at e
  rename_i p q r hp hq hr;obtain⟨m1,hm1,he⟩:=map_some e;cases he;obtain⟨w',h1,h2⟩:=lJ h hm1 (aU h ht hp) (aU h ht hq) (aU h ht hr);exact .inr (.inr ⟨rfl,j,w',undef,.unit h1,h2,VR.undef j⟩)
  cases e
 case extract x i =>
  have hx:execOp a.eval o=(do pure (.value (<-Instr.extract (a.eval x) i))):=by simp only[execOp,hop]
  split at e
  ·rename_i vs hp;refine .inl (hpure (f:=fun _=>vs[i]?) (fun m2=>by rw[hop]; simp only[cQ,hp]) (fun _ _=>rfl) (fun v1 hv1=>?_) e hx)
   have hv:=aU h ht hp;generalize a.eval x=xv at hv;cases hv with
   | tuple h1 h2 =>
   rename_i ys;obtain⟨v',g1,g2⟩:=(LR.eZ h1 h2).get (show vs.toList[i]? = some v1 by simpa using hv1)
   refine⟨v',?_,g2⟩;have g1':ys[i]? = some v':=by simpa using g1
   simp only[Instr.extract,g1',SH]
  cases e
 case call c =>
  split at e
  rename_i b hb
  split at e
  rename_i vs hvs;have hx:execOp a.eval o=(do let d <-resolve a.eval c o.type; invoke d.target d.args):=by simp only[execOp,hop]
  have hargs:c.args.map a.eval=(c.args.toList.map a.eval).toArray:=by apply Ql.1; simp
  have hrun:∃cs,(execOp a.eval o).run E.P w=(builtin b c.argTypes o.type cs (c.args.toList.map a.eval).toArray).run E.P w :=
   ⟨_,by rw[hx]; simp only[resolve,hb,SG,SH,SE,invoke,hargs]; rfl⟩
  obtain⟨cs,hrun⟩:=hrun;rcases yl h e (ff h ht hvs) o.type cs with⟨rfl,hm,v',h1,h2⟩|⟨hbb,j',w',v',h1,h2,h3⟩
  refine .inl ⟨rfl,fun m2 hm2=>?_,v',.inl (hrun.trans h1),h2⟩;rw[hop] at hm2 ⊢;simp only[cQ,hb,hvs];refine hm m2 fun hlc x b0 hx1 hx2=>hm2 b0 ?_;subst hx1;rcases hlc with rfl|rfl<;>simp only[aQ,hb,hvs,hx2]
  refine .inr (.inr ⟨?_,j',w',v',.inl (hrun.trans h1),h2,h3⟩);rcases hbb with rfl|rfl|rfl|rfl<;>simp only[aI,hb]
  cases e
  cases e
def J4(h:MR E j m w)(ht:TR n j t a.tmps){o:Oper}{v:Rx}{m':Sr}(e:cQ E t m o.op=some (v,m')) :
  ∃j' w' v',pK E.P (execOp a.eval o) v' w w'/\Sim E j m w j' m' w'/\VR j' v v':=by
 rcases uR h ht e with⟨rfl,_,v',h1,h2⟩|⟨ao,co,vb,v',rfl,rfl,h1,h2,h3,_⟩|⟨_,h1⟩
 exact⟨j,w,v',h1,.refl h,h2⟩
 exact⟨_,_,v',h1,kX h h2,h3 _ _ (aY.cG _ _ _)⟩
 exact h1
end
def DM:Ss->Exit
 | .normal=>.normal
 | .exit id=>.exit id
 | .ret=>.ret
def jF(F:Fence):Prop:=F=Fence.wide\/∃l,F=Fence.wide.inRound l
def jF.fn{F:Fence}(h:jF F)(f:SJ):F.fn f:=by
 rcases h with rfl|⟨l,rfl⟩<;>trivial
def jF.room{F:Fence}(h:jF F)(n:Nat):F.room n:=by
 rcases h with rfl|⟨l,rfl⟩<;>intro d hd<;>simp[Fence.wide] at hd
def jF.depth{F:Fence}(h:jF F){n:Nat}:F.depth.isSome=true->1<=n:=by
 rcases h with rfl|⟨l,rfl⟩<;>intro hd<;>simp[Fence.wide] at hd
def jF.calls{F:Fence}(h:jF F){n:Nat}{P:RA}{f:SJ}{args:SD Rx}{w:RB}{R:Ending->RB->Prop}(hc:CallsIn Fence.wide n P f args w R):CallsIn F n P f args w R:=by
 rcases h with rfl|⟨l,rfl⟩
 exact hc
 exact hc
def jF.Il{F:Fence}(h:jF F){n:Nat}{P:RA}{l:Nat}{f:SJ}{tmps:SD Rx}{x y:Code}{w:RB}{R:Ending->RB->Prop}(hc:RoundIn Fence.wide n P l f tmps x y w R):RoundIn F n P l f tmps x y w R:=by
 rcases h with rfl|⟨l,rfl⟩
 exact hc
 exact hc
def mj(j:aY)(r:SA Nat)(F:Fence):Prop :=
 match r with
 | none=>F=Fence.wide
 | some l=>∃k,j l=some k/\F=Fence.wide.inRound k.c
def mj.wide{j:aY}{r:SA Nat}{F:Fence}(h:mj j r F):jF F:=by
 cases r with
 | none=>exact .inl h
 | some l=>obtain⟨k,_,rfl⟩:=h; exact .inr ⟨_,rfl⟩
def mj.mono{j j':aY}(hj:j.le j'){r:SA Nat}{F:Fence}(h:mj j r F):mj j' r F:=by
 cases r with
 | none=>exact h
 | some l=>obtain⟨k,h1,rfl⟩:=h; exact⟨k,hj _ _ h1,rfl⟩
def rX(r:Nat):Deferred:={ target:=.collected r,args:=#[]}
def Marks(N:Nat)(w:RB)(ds:SB Deferred):Prop:=∃rs:SB Nat,rs.Nodup/\ds=rs.map rX/\∀r∈rs,N<=r/\w.heap[r]? = some (.deferred (some []))
def Marks.nil(N:Nat)(w:RB):Marks N w []:=⟨[],List.nodup_nil,rfl,fun r h=>by simp at h⟩
def wD{E:Env}{j:aY}{m:Sr}{w:RB}(h:MR E j m w){r:Nat}(hr:w.heap[r]? = some (.deferred (some []))):∀b k,j b=some k->(m.get b).isSome=true->k.c≠r:=by
 intro b k hb hl he;cases hg:m.get b with
 | none=>rw[hg] at hl; cases hl
 | some o =>
  obtain⟨o',h1,h2⟩:=h.obj b o k hg hb;rw[he,hr] at h1;cases h1;cases o<;>exact h2.elim
def Marks.Jv{E:Env}{j j':aY}{m m':Sr}{w w':RB}(h:MR E j m w)(s:Sim E j m w j' m' w'){N:Nat}{ds:SB Deferred}(hm:Marks N w ds):Marks N w' ds:=by
 obtain⟨rs,h1,h2,h3⟩:=hm;refine⟨rs,h1,h2,fun r hr=>⟨(h3 r hr).1,?_⟩⟩;have hh:=(h3 r hr).2;rw[s.frame r (Px.1 hh).1 fun b k hb hl he=>Pz he (wD h hh b k hb hl)];exact hh
def yx(E:Env)(j:aY)(m:Sr)(w:RB)(N n:Nat)(e:Ss)(t:Tm)(m':Sr):Exit->Act->RB->Prop:=fun e' a' w' =>
 e'=DM e/\∃j',Sim E j m w j' m' w'/\TR n j' t a'.tmps/\Marks N w' a'.defers
def AA(E:Env)(cs:Nat->RA->Fence->(Exit->Act->RB->Prop)->Act->RB->Prop)(fr:Fr)(m:Sr)(r:Res):Prop :=
 ∃e t m',r=.code e t m'/\∀(j:aY) (w:RB) (a:Act) (F:Fence) (N:Nat),MR E j m w->TR fr.n j fr.tmps a.tmps->mj j fr.round F->Marks N w a.defers->N<=w.heap.size ->
  cs 0 E.P F (yx E j m w N fr.n e t m') a w
def ik(P:RA)(pr:Bool)(f:SJ)(args:SD Rx)(w:RB)(R:Rx->RB->Prop):Prop :=
 ((callFunc f args).run P w=.ok (.enter f args) w/\CallsIn Fence.wide 0 P f args w (fun e w'=>∃v,e=.returned v/\R v w')) \/
  (pr=true/\∃v w',(callFunc f args).run P w=.ok (.value v) w'/\R v w')
def jZ(E:Env)(j:aY)(m:Sr)(w:RB)(v:Rx)(m':Sr):Rx->RB->Prop:=fun v' w'=>∃j',Sim E j m w j' m' w'/\VR j' v v'
def H9(E:Env)(f:SJ)(args:SB Rx)(m:Sr)(r:Res):Prop :=
 ∃v m',r=.val v m'/\∀(j:aY) (w:RB) (args':SB Rx),MR E j m w->LR j args args'->ik E.P (E.cM f).isSome f args'.toArray w (jZ E j m w v m')
def Gl(E:Env)(l:Nat)(args:SB Rx)(m:Sr)(r:Res):Prop :=
 ∃v m',r=.val v m'/\∀(j:aY) (w:RB) (k:Blk) (args':SB Rx),MR E j m w->j l=some k->LR j args args' ->
  ∃fn tmps assign body,(Instr.yield k.c args'.toArray).run E.P w=.ok (.round k.c fn tmps assign body) w /\
   RoundIn Fence.wide 0 E.P k.c fn tmps assign body w (fun e w'=>∃v',e=.returned v'/\jZ E j m w v m' v' w')
def vP(F:Fence)(n:Nat)(P:RA)(c:Code)(Q:Exit->Act->RB->Prop)(a:Act)(w:RB):Prop :=
 ∀(b:Frame) (k:SB Item) (cs:SB Frame),b.roundOf=F.round->F.fn b.fn->F.room (cs.length+1+n) ->
  ∃e a' w',Q e a' w'/\ArrivesIn (Machine.fenced P F) P (lone (b.atR a (.code c::.inLoop c::k)) cs w) b k cs e a' w'
def cH(E:Env):Task->Res->Prop
 | .code c fr m,r=>AA E (fun n P F Q a w=>c.wpIn F n P Q a w) fr m r
 | .loop c fr m,r=>AA E (fun n P F Q a w=>vP F n P c Q a w) fr m r
 | .call f args m,r=>H9 E f args m r
 | .round l args m,r=>Gl E l args m r
structure EnvOk(E:Env):Prop where
 call:∀f fn c,E.P.funcs[f]? = some fn->fn.body=some c->∀args w,(callFunc f args).run E.P w=.ok (.enter f args) w
 mixed:E.P.follows .mixedOrders=true
 cM:∀f p,E.cM f=some p->∀args m v m',p.run args m=some (v,m')->∀(j:aY) (w:RB) (args':SB Rx),MR E j m w->LR j args args'->ik E.P (E.cM f).isSome f args'.toArray w (jZ E j m w v m')
def lY{F:Fence}(hF:jF F){P:RA}{o:Oper}{a:Act}{w w':RB}{v:Rx}{next:Act->RB->Prop}{Q:Exit->Act->RB->Prop}(hd:∀c,o.op≠.defer c)
  (h:pK P (execOp a.eval o) v w w') (hn:next (a.put o.dst v) w'):o.wpIn F 0 P a w next Q:=by
 refine⟨fun f _=>hF.fn f,?_⟩;rw[Oper.semAt_eq _ _ _ hd];rcases h with h|⟨h,rfl⟩
 rw[h]; exact hn
 rw[h]; exact hn
section
variable{E:Env}{k:K}
def oZ{t:Tm}{m:Sr}{o:Op}{r:Rx×Sr}(h:cQ E t m o=some r):∀c,o≠.defer c:=by
 intro c e; subst e; simp[cQ] at h
def Does(P:RA)(s:Sem Next)(w:RB)(G:Rx->RB->Prop):Prop :=
 (∃v w',pK P s v w w'/\G v w') \/
 (∃f args,s.run P w=.ok (.enter f args) w/\CallsIn Fence.wide 0 P f args w (fun e w'=>∃v,e=.returned v/\G v w')) \/
 (∃l fn tmps x y,s.run P w=.ok (.round l fn tmps x y) w/\RoundIn Fence.wide 0 P l fn tmps x y w (fun e w'=>∃v,e=.returned v/\G v w'))
def Does.wpIn{F:Fence}(hF:jF F){P:RA}{o:Oper}(hd:∀c,o.op≠.defer c){a:Act}{w:RB}{G:Rx->RB->Prop}(h:Does P (execOp a.eval o) w G){next:Act->RB->Prop}{Q:Exit->Act->RB->Prop}
  (hn:∀v' w',G v' w'->next (a.put o.dst v') w'):o.wpIn F 0 P a w next Q:=by
 rcases h with⟨v,w',h1,h2⟩|⟨f,args,h1,h2⟩|⟨l,fn,tmps,x,y,h1,h2⟩
 exact lY hF hd h1 (hn _ _ h2)
 refine⟨fun f _=>hF.fn f,?_⟩;rw[Oper.semAt_eq _ _ _ hd,h1];exact⟨hF.depth,CallsIn.mono (hF.calls h2) fun e' w' he=>by
  obtain⟨v',rfl,hq⟩:=he;exact hn v' w' hq⟩
 refine⟨fun f _=>hF.fn f,?_⟩;rw[Oper.semAt_eq _ _ _ hd,h1];exact⟨hF.depth,RoundIn.mono (hF.Il h2) fun e' w' he=>by
  obtain⟨v',rfl,hq⟩:=he;exact hn v' w' hq⟩
def Does.ends{P:RA}{s:Sem Next}{w:RB}{G:Rx->RB->Prop}(h:Does P s w G):∃v w',G v w':=by
 rcases h with⟨v,w',_,h2⟩|⟨f,args,_,h2⟩|⟨l,fn,tmps,x,y,_,h2⟩
 exact⟨v,w',h2⟩
 obtain⟨e,w',fr,⟨v,_,hq⟩,_⟩:=h2.2 [] (jF.room (.inl rfl) _);exact⟨v,w',hq⟩
 obtain⟨e,w',⟨v,_,hq⟩,_⟩:=h2.2 default [] (jF.room (.inl rfl) _);exact⟨v,w',hq⟩
def lz{t:Tm}{m:Sr}{o:Op}{r:Rx×Sr}(h:dT k E t m o=some r):∀c,o≠.defer c:=by
 intro c e; subst e; simp[dT,cQ] at h
def kk(hk:∀tk r,k tk=some r->cH E tk r){j:aY}{m:Sr}{w:RB}{t:Tm}{n:Nat}{a:Act}(h:MR E j m w)(ht:TR n j t a.tmps){o:Oper}{v:Rx}{m':Sr}(e:dT k E t m o.op=some (v,m')) :
  Does E.P (execOp a.eval o) w (jZ E j m w v m'):=by
 have hplain:cQ E t m o.op=some (v,m')->Does E.P (execOp a.eval o) w (jZ E j m w v m'):=by
  intro e;obtain⟨j',w',v',h1,h2,h3⟩:=J4 h ht e;exact .inl ⟨v',w',h1,j',h2,h3⟩
 unfold dT at e
 split at e
 ·rename_i c hop
  split at e
  ·rename_i f hc
   split at e
   ·rename_i g first captured args hf hargs
    split at e
    ·rename_i v0 m0 hcall;cases e;obtain⟨v1,m1,hr,hsim⟩:=hk _ _ hcall;cases hr;have hfv:=aU h ht hf;generalize hfe:a.eval f=fv at hfv;cases hfv with
     | func h1 h2 h3 h4 =>
     rename_i ys ds;have hl:LR j (first.toList++args++captured.toList) (ys.toList++(c.args.toList.map a.eval)++ds.toList) :=
      ((LR.eZ h1 h2).append (ff h ht hargs)).append (LR.eZ h3 h4)
     have hcs:=hsim j w _ h hl;have harr:(ys.toList++(c.args.toList.map a.eval)++ds.toList).toArray=ys++c.args.map a.eval++ds:=by apply Ql.1; simp
     rw[harr] at hcs;have hexec:execOp a.eval o=(do let d <-resolve a.eval c o.type; invoke d.target d.args):=by simp only[execOp,hop]
     have hrun:(execOp a.eval o).run E.P w=(callFunc g (ys++c.args.map a.eval++ds)).run E.P w:=by
      rw[hexec];simp only[resolve,hc,hfe,Deferred.ofValue,SG,SH,SE,invoke]
     rcases hcs with⟨hr,hci⟩|⟨_,v',w',hr,hq⟩
     exact .inr (.inl ⟨_,_,hrun.trans hr,hci⟩)
     exact .inl ⟨v',w',.inl (hrun.trans hr),hq⟩
    cases e
   ·rename_i l first cap args hf hargs
    split at e
    ·rename_i v0 m0 hcall;cases e;obtain⟨v1,m1,hr,hsim⟩:=hk _ _ hcall;cases hr;have hfv:=aU h ht hf;generalize hfe:a.eval f=fv at hfv;cases hfv with
     | yield hj h1 h2 =>
     rename_i kb ys ds;have hl:LR j (first.toList++args) (ys.toList++(c.args.toList.map a.eval)):=(LR.eZ h1 h2).append (ff h ht hargs)
     obtain⟨fn,tmps,assign,body,hy,hro⟩:=hsim j w kb _ h hj hl;have harr:(ys.toList++(c.args.toList.map a.eval)).toArray=ys++c.args.map a.eval:=by apply Ql.1; simp
     rw[harr] at hy;have hexec:execOp a.eval o=(do let d <-resolve a.eval c o.type; invoke d.target d.args):=by simp only[execOp,hop]
     have hrun:(execOp a.eval o).run E.P w=.ok (.round kb.c fn tmps assign body) w:=by
      rw[hexec];simp only[resolve,hc,hfe,Deferred.ofValue,SG,SH,SE,invoke,hy]
     exact .inr (.inr ⟨_,_,_,_,_,hrun,hro⟩)
    cases e
   cases e
  exact hplain e
 exact hplain e
def Cl(hk:∀tk r,k tk=some r->cH E tk r){j:aY}{m:Sr}{w:RB}{t:Tm}{n:Nat}{a:Act}(h:MR E j m w)(ht:TR n j t a.tmps){o:Oper}{v:Rx}{m':Sr}(e:dT k E t m o.op=some (v,m'))
  {F:Fence} (hF:jF F) {next:Act->RB->Prop} {Q:Exit->Act->RB->Prop} (hn:∀v' w',jZ E j m w v m' v' w'->next (a.put o.dst v') w'):o.wpIn F 0 E.P a w next Q :=
 (kk hk h ht e).wpIn hF (lz e) hn
def TR.put{n:Nat}{j:aY}{t t':Tm}{a:Act}{dst:SA Tmp}{v v':Rx}(h:TR n j t a.tmps)(hv:VR j v v')(hp:hU n t dst v=some t'):TR n j t' (a.put dst v').tmps:=by
 unfold hU at hp
 split at hp
 rename_i d
 split at hp
 rename_i hlt;cases hp;have hlt':d<n:=by simpa using hlt
 refine⟨by simp[Act.put,h.1],fun i=>?_⟩
 simp only[Act.put,Tm.at,Trie.bL]
 by_cases hi:i=d
 subst hi;simp only[Ph rfl];have:i<a.tmps.size:=by rw[h.1]; exact hlt'
 simp[this,hv]
 simp only[Pb hi];have:=h.2 i;simp only[Tm.at] at this
 simpa [Array.getElem?_setIfInBounds_ne (Ne.symm hi)] using this
 cases hp
 cases hp; exact h
def Cj {n:Nat} {j:aY} {t:Tm} {a:Act} (h:TR n j t a.tmps) (ops:SD Oper) (o:Oper):Region.wanted o (yielded ops a.tmps)=bB ops o t:=by
 unfold Region.wanted bB;cases hgd:o.guard with
 | none=>rfl
 | some p =>
  obtain⟨g,want⟩:=p;simp only;have key:yielded ops a.tmps g=cX ops t g:=by
   unfold yielded cX;cases hd:(ops[g]?).bind (·.dst) with
   | none=>rfl
   | some d =>
    simp only[PI];have hv:=h.2 d;unfold Tm.at at hv;cases hg:t.get d with
    | none =>
     rw[hg] at hv;simp only[Option.getD_none] at hv;have:a.tmps[d]? = none\/a.tmps[d]? = some undef:=by
      cases ha:a.tmps[d]? with
      | none=>exact .inl rfl
      | some x =>
       right
       have:a.tmps.getD d undef=x:=by simp[ha]
       rw[this] at hv;have:x=undef:=fX (by rfl) hv
       rw[this]
     rcases this with e|e<;>rw[e]<;>rfl
    | some x =>
     rw[hg] at hv;simp only[Option.getD_some] at hv;cases ha:a.tmps[d]? with
     | none =>
      have:a.tmps.getD d undef=undef:=by simp[ha]
      rw[this] at hv;cases x<;>first|rfl|cases hv
     | some y =>
      have:a.tmps.getD d undef=y:=by simp[ha]
      rw[this] at hv;cases hv with
      | junk hj=>cases y<;>first|rfl |(simp[yk,aR] at hj)
      | _=>rfl
  rw[key];cases cX ops t g with
  | none=>rfl
  | some b=>simp
def mz(hk:∀tk r,k tk=some r->cH E tk r){ops:SD Oper}{n:Nat}{F:Fence}(hF:jF F){Q:Exit->Act->RB->Prop}{m0:Sr}{w0:RB}{j0:aY}(h0:MR E j0 m0 w0){tf:Tm}{mf:Sr}
  (ds:SB Deferred) (hQ:∀j' w' a',Sim E j0 m0 w0 j' mf w'->TR n j' tf a'.tmps->a'.defers=ds->Q .normal a' w') :
  ∀(os:SB Oper) (i:Nat) (t:Tm) (m:Sr) (j:aY) (w:RB) (a:Act),ops.toList.drop i=os->iq k E n ops os t m=some (tf,mf)->Sim E j0 m0 w0 j m w->TR n j t a.tmps->a.defers=ds ->
   wpOpsIn F 0 E.P ops Q (List.range' i (ops.size-i)) a w
 | [],i,t,m,j,w,a,hd,hr,s,ht,hds=>by
  cases hr;have hlen:ops.size<=i:=by
   have:=Ps List.length hd;simp at this; omega
  rw[show ops.size-i=0 by omega]
  exact hQ j w a s ht hds
 | o::os,i,t,m,j,w,a,hd,hr,s,ht,hds=>by
  have hlt:i<ops.size:=by
   have:=Ps List.length hd;simp at this; omega
  have ho:ops[i]? = some o:=by
   have:=Ps (·[0]?) hd
   simpa [QK] using this
  have hd':ops.toList.drop (i+1)=os:=by
   rw[<-Ri,hd]; rfl
  have hidx:List.range' i (ops.size-i)=i::List.range' (i+1) (ops.size-(i+1)):=by
   rw[show ops.size-i=(ops.size-(i+1))+1 by omega]; rfl
  rw[hidx];simp only[wpOpsIn,ho,Cj ht];simp only[iq] at hr
  split at hr
  rename_i hw;rw[Ph hw]
  split at hr
  rename_i v m' he
  split at hr
  rename_i t' hp;refine Cl hk s.mr ht he hF ?_;rintro v' w' ⟨j',s',hv⟩;exact mz hk hF h0 ds hQ os (i+1) t' m' j' w' _ hd' hr (s.trans h0 s') ((ht.mono s'.le).put hv hp) (by cases hds':o.dst<;>simp[Act.put,hds])
  cases hr
  cases hr
  rename_i hw;rw[Pb hw]
  split at hr
  rename_i t' hp;exact⟨fun f _=>hF.fn f,mz hk hF h0 ds hQ os (i+1) t' m j w _ hd' hr s (ht.put (VR.undef j) hp) (by cases hds':o.dst<;>simp[Act.put,hds])⟩
  cases hr
end
def uh(k:K)(E:Env)(n:Nat)(ops:SD Oper)(i:Nat)(t:Tm)(m:Sr)(v:Rx)(t':Tm)(m':Sr)(note:Note):Prop :=
 ∃o,ops[i]? = some o/\hU n t o.dst v=some t' /\
  ((bB ops o t=true/\∃r,dT k E t { m with wl:=m.next} o.op=some (v,r)/\m' ={ r with wl:=min m.wl r.wl}/\note ={ read:=aQ E t o.op,wl:=r.wl,next:=m.next,wrote:=dS E t o.op,kept:=gQ m r}) \/
   (bB ops o t=false/\v=undef/\m'=m/\note ={ read:=none,wl:=m.next,next:=m.next,wrote:=none,kept:=fun _=>false}))
structure Tr(k:K)(E:Env)(n:Nat)(ops:SD Oper)(i L:Nat)(T:Nat->Tm)(M:Nat->Sr)(V:Nat->Rx)(ns:SB Note):Prop where
 len:ns.length=L
 step:∀x,x<L->∃note,ns[x]? = some note/\uh k E n ops (i+x) (T x) (M x) (V x) (T (x+1)) (M (x+1)) note
def EK{α:Type}(a:α)(f:Nat->α):Nat->α
 | 0=>a
 | x+1=>f x
def yK{k:K}{E:Env}{n:Nat}{ops:SD Oper}:∀(os:SB Oper) (i:Nat) (t:Tm) (m:Sr) (tf:Tm) (mf:Sr) (ns:SB Note),ops.toList.drop i=os->dH k E n ops os t m=some (tf,mf,ns) ->
  ∃T M V,Tr k E n ops i os.length T M V ns/\T 0=t/\M 0=m/\T os.length=tf/\M os.length=mf
 | [],i,t,m,tf,mf,ns,_,h=>by
  cases h;exact⟨fun _=>t,fun _=>m,fun _=>undef,⟨rfl,fun x hx=>Pz hx (Nat.not_lt_zero _)⟩,rfl,rfl,rfl,rfl⟩
 | o::os,i,t,m,tf,mf,ns,hd,h=>by
  have ho:ops[i]? = some o:=by
   have:=Ps (·[0]?) hd
   simpa [QK] using this
  have hd':ops.toList.drop (i+1)=os:=by rw[<-Ri,hd]; rfl
  have cons:∀(v:Rx) (t1:Tm) (m1:Sr) (note:Note) (ns':SB Note),uh k E n ops i t m v t1 m1 note->dH k E n ops os t1 m1=some (tf,mf,ns')->ns=note::ns' ->
    ∃T M V,Tr k E n ops i (os.length+1) T M V ns/\T 0=t/\M 0=m/\T (os.length+1)=tf/\M (os.length+1)=mf:=by
   intro v t1 m1 note ns' hst hr hns;obtain⟨T,M,V,htr,h1,h2,h3,h4⟩:=yK os (i+1) t1 m1 tf mf ns' hd' hr;refine⟨EK t T,EK m M,EK v V,⟨by rw[hns]; simp[htr.len],fun x hx=>?_⟩,rfl,rfl,h3,h4⟩
   cases x with
   | zero =>
    refine⟨note,by rw[hns]; rfl,?_⟩
    show uh k E n ops i t m v (T 0) (M 0) note
    rw[h1,h2]; exact hst
   | succ x =>
    obtain⟨nt,h5,h6⟩:=htr.step x (by omega)
    refine⟨nt,by rw[hns]; simpa using h5,?_⟩
    show uh k E n ops (i+(x+1)) (T x) (M x) (V x) (T (x+1)) (M (x+1)) nt
    rw[show i+(x+1)=i+1+x by omega]; exact h6
  simp only[dH] at h
  split at h
  rename_i hw
  split at h
  rename_i v r he
  split at h
  rename_i t1 hp
  split at h
  rename_i t' m'' ns' hr;cases h;exact cons v t1 _ _ ns' ⟨o,ho,hp,.inl ⟨hw,r,he,rfl,rfl⟩⟩ hr rfl
  cases h
  cases h
  cases h
  rename_i hw
  split at h
  rename_i t1 hp
  split at h
  rename_i t' m'' ns' hr;cases h;exact cons undef t1 m _ ns' ⟨o,ho,hp,.inr ⟨by simpa using hw,rfl,rfl,rfl⟩⟩ hr rfl
  cases h
  cases h
def Sim.Nt{E:Env}{j j':aY}{m r:Sr}{w w':RB}(s:Sim E j { m with wl:=m.next} w j' r w'):Sim E j m w j' { r with wl:=min m.wl r.wl} w' where
 ext:=⟨s.ext.next,Nat.min_le_left _ _,fun b hb hw=>s.ext.same b hb (Pn hw (Nat.min_le_right _ _)),s.ext.dead⟩
 le:=s.le
 new:=s.new
 mr:=s.mr.yf
 size:=s.size
 full:=s.full
 away:=s.away
 fresh:=fun b k h h'=>(s.fresh b k h h').imp id fun⟨b0,k0,a1,a2,a3,a4⟩=>⟨b0,k0,a1,a2,a3,PB (Nat.min_le_right _ _) a4⟩
 frame:=fun c hc H=>s.frame c hc fun b k hb hl he=>Pn (H b k hb hl he) (Nat.min_le_right _ _)
 calm:=s.calm
def aY.below(j:aY)(x:Nat):aY:=fun b=>if b<x then j b else none
def aY.bI{j:aY}{x b:Nat}{k:Blk}:j.below x b=some k↔b<x/\j b=some k:=by
 unfold aY.below
 split
 rename_i h; simp[h]
 rename_i h; simp[h]
def VR.cut{j jc:aY}{x:Nat}(hc:∀b k,jc b=some k->b<x):∀{v v':Rx},VR j v v'->∀{u:Rx},VR jc v u->VR (j.below x) v v':=by
 intro v v' h
 induction h with
 | junk h=>intro u _; exact .junk h
 | bool b=>intro u _; exact .bool b
 | int k n=>intro u _; exact .int k n
 | string s=>intro u _; exact .string s
 | pnil=>intro u _; exact .pnil
 | ptr h=>intro u hu; cases hu with
  | ptr h'=>exact .ptr (aY.bI.2 ⟨hc _ _ h',h⟩)
 | snil l c=>intro u _; exact .snil l c
 | slice h hm=>intro u hu; cases hu with
  | slice h' _=>exact .slice (aY.bI.2 ⟨hc _ _ h',h⟩) hm
  | sliceM h' _ _ _ _ _=>exact .slice (aY.bI.2 ⟨hc _ _ h',h⟩) hm
 | sliceM h hm h1 h2 hl hcap=>intro u hu; cases hu with
  | slice h' _=>exact .sliceM (aY.bI.2 ⟨hc _ _ h',h⟩) hm h1 h2 hl hcap
  | sliceM h' _ _ _ _ _=>exact .sliceM (aY.bI.2 ⟨hc _ _ h',h⟩) hm h1 h2 hl hcap
 | gJ=>intro u _; exact .gJ
 | dry=>intro u _; exact .dry
 | mnil=>intro u _; exact .mnil
 | map h=>intro u hu; cases hu with
  | map h'=>exact .map (aY.bI.2 ⟨hc _ _ h',h⟩)
 | func h1 _ h3 _ ih2 ih4=>intro u hu; cases hu with
  | func g1 g2 g3 g4=>exact .func h1 (fun i a b=>ih2 i a b (g2 i a (g1▸a))) h3 (fun i a b=>ih4 i a b (g4 i a (g3▸a)))
 | yield h h1 _ ih2=>intro u hu; cases hu with
  | yield g g1 g2=>exact .yield (aY.bI.2 ⟨hc _ _ g,h⟩) h1 (fun i a b=>ih2 i a b (g2 i a (g1▸a)))
 | nilFunc=>intro u _; exact .nilFunc
 | nilIface=>intro u _; exact .nilIface
 | agg h1 _ ih=>intro u hu; cases hu with
  | agg g1 g2=>exact .agg h1 (fun i a b=>ih i a b (g2 i a (g1▸a)))
 | tuple h1 _ ih=>intro u hu; cases hu with
  | tuple g1 g2=>exact .tuple h1 (fun i a b=>ih i a b (g2 i a (g1▸a)))
def ER.cut{j jc:aY}{x:Nat}(hc:∀b k,jc b=some k->b<x):∀{es:SB (Rx×Rx)} {fs gs:SB MapEntry},ER j es fs->ER jc es gs->ER (j.below x) es fs
 | [],[],_,_,_=>trivial
 | _::_,_::_,_::_,h,g=>⟨h.1.cut hc g.1,h.2.1.cut hc g.2.1,ER.cut hc h.2.2 g.2.2⟩
 | [],_::_,_,h,_=>h.elim
 | _::_,[],_,h,_=>h.elim
 | _::_,_::_,[],_,g=>g.elim
def OR.cut{j jc:aY}{x:Nat}(hc:∀b k,jc b=some k->b<x){k k':Blk}{o:St}{o1 o2:Obj}(h:OR j k o o1)(g:OR jc k' o o2):OR (j.below x) k o o1:=by
 cases o with
 | cells cs tag =>
  cases o1 with
  | cells c e fz =>
   cases o2 with
   | cells c2 e2 fz2 =>
    refine⟨h.1,fun i v hi=>?_⟩;obtain⟨v',a,b⟩:=h.2 i v hi;obtain⟨u,_,b2⟩:=g.2 i v hi;exact⟨v',a,b.cut hc b2⟩
   | _=>exact g.elim
  | _=>exact h.elim
 | map es =>
  cases o1 with
  | map c e =>
   cases o2 with
   | map c2 e2=>exact⟨ER.cut hc h.1 g.1,h.2⟩
   | _=>exact g.elim
  | _=>exact h.elim
 | loop r =>
  cases o1 with
  | loop r1 =>
   cases o2 with
   | loop r2 =>
    refine⟨h.1,h.2.1,h.2.2.1,h.2.2.2.1,h.2.2.2.2.1,h.2.2.2.2.2.1,fun i=>?_⟩;exact(h.2.2.2.2.2.2 i).cut hc (g.2.2.2.2.2.2 i)
   | _=>exact g.elim
  | _=>exact h.elim
def eR{E:Env}{t t':Tm}:∀{xs:SB Rz},(∀x∈xs,aB E t x=aB E t' x)->bA E t xs=bA E t' xs
 | [],_=>rfl
 | x::xs,h=>by
  simp only[bA];rw[h x (by simp),eR fun y hy=>h y (by simp[hy])]
def gE{E:Env}{t t':Tm}:∀{xs:SB (Nat×Rz)},(∀x∈xs,aB E t x.2=aB E t' x.2)->dg E t xs=dg E t' xs
 | [],_=>rfl
 |(i,x)::xs,h=>by
  simp only[dg];rw[h (i,x) (by simp),gE fun y hy=>h y (by simp[hy])]
def jr{E:Env}{t t':Tm}{x:SA Rz}(h:∀y,x=some y->aB E t y=aB E t' y):dz E t x=dz E t' x:=by
 cases x with
 | none=>rfl
 | some y=>simp only[dz,h y rfl]
def nV{E:Env}{t t':Tm}{m:Sr}{o:Op}(h:∀x∈o.operands.toList,aB E t x=aB E t' x):cQ E t m o=cQ E t' m o:=by
 cases o<;>simp only[Op.operands] at h<;>simp only[cQ]
 case build ty ps=>rw[gE fun x hx=>h x.2 (by simp; exact⟨x.1,by simpa using hx⟩)]
 case buildSlice ty n ps=>rw[gE fun x hx=>h x.2 (by simp; exact⟨x.1,by simpa using hx⟩)]
 case makeFunc fn first captured =>
  cases fn<;>simp only;rw[eR (xs:=first.toList) fun x hx=>h x (by simp at hx ⊢; exact .inl hx),eR (xs:=captured.toList) fun x hx=>h x (by simp at hx ⊢; exact .inr hx)]
 case makeMap ty r=>cases r<;>rfl
 case slice ty x lo hi mx =>
  rw[h x (by simp),jr (x:=lo) fun y hy=>h y (by simp[hy]),jr (x:=hi) fun y hy=>h y (by simp[hy]),jr (x:=mx) fun y hy=>h y (by simp[hy])]
 case call c =>
  cases hc:c.callee<;>simp only;rw[eR (xs:=c.args.toList) fun x hx=>h x (by simp[Call.operands,hc]; simpa using hx)]
 all_goals first|rfl |(simp_all; done)
def wR{k:K}{E:Env}{t t':Tm}{m:Sr}{o:Op}(h:∀x∈o.operands.toList,aB E t x=aB E t' x):dT k E t m o=dT k E t' m o:=by
 have hop:=nV (m:=m) h;unfold dT;cases o with
 | call c =>
  simp only;cases hc:c.callee with
  | value f =>
   simp only;rw[h f (by simp[Op.operands,Call.operands,hc]),eR (xs:=c.args.toList) fun x hx=>h x (by simp[Op.operands,Call.operands,hc]; exact .inr (by simpa using hx))]
  | _=>exact hop
 | _=>exact hop
def ph(t:Tm):SB Tmp->Tm
 | []=>.nil
 | d::ds=>(ph t ds).set d (t.at d)
def kg(t:Tm):∀(S:SB Tmp) (d:Nat),(ph t S).at d=if d∈S then t.at d else undef
 | [],d=>by simp[ph,Tm.at,Trie.get_nil]
 | x::S,d=>by
  have ih:=kg t S d;simp only[Tm.at] at ih;simp only[ph,Tm.at,Trie.bL]
  by_cases h:d=x
  simp[h]
  simp only[Pp,h,false_or]; exact ih
def jV(tm:SD Rx)(S:SB Tmp):SD Rx:=(Array.range tm.size).map fun d=>if d∈S then tm.getD d undef else undef
def jR(tm:SD Rx)(S:SB Tmp)(d:Nat):(jV tm S).getD d undef=if d∈S then tm.getD d undef else undef:=by
 unfold jV
 by_cases h:d<tm.size
 simp[h]
 have:tm.getD d undef=undef:=by simp[h]
 simp[h]
def ia:∀{l:SB Rz} {d:Tmp},d∈tmpsOf l↔Operand.tmp d∈l
 | [],d=>by simp[tmpsOf]
 | x::l,d=>by
  have ih:=ia (l:=l) (d:=d);cases x<;>simp[tmpsOf,ih]
def wM{k:K}{E:Env}(hk:∀tk r,k tk=some r->cH E tk r){j:aY}{m:Sr}{w:RB}{t:Tm}{a:Act}(h:MR E j m w){o:Oper}(ht:∀d∈tmpsOf o.op.operands.toList,VR j (t.at d) (a.tmps.getD d undef)){v:Rx}{m':Sr}
  (e:dT k E t m o.op=some (v,m')):Does E.P (execOp a.eval o) w (jZ E j m w v m'):=by
 have hT:TR (jV a.tmps (tmpsOf o.op.operands.toList)).size j (ph t (tmpsOf o.op.operands.toList)) ({ tmps:=jV a.tmps (tmpsOf o.op.operands.toList),defers:=a.defers}:Act).tmps:=by
  refine⟨rfl,fun d=>?_⟩
  show VR j _ ((jV a.tmps _).getD d undef)
  rw[kg,jR]
  split
  rename_i hd; exact ht d hd
  exact VR.undef j
 have hev:∀x∈o.op.operands.toList,aB E (ph t (tmpsOf o.op.operands.toList)) x=aB E t x:=by
  intro x hx;cases x with
  | tmp d=>simp only[aB,kg,Ph (ia.2 hx)]
  | _=>rfl
 have hd:=kk hk h hT (o:=o) (v:=v) (m':=m') ((wR hev).trans e);have hex:execOp ({ tmps:=jV a.tmps (tmpsOf o.op.operands.toList),defers:=a.defers}:Act).eval o=execOp a.eval o:=by
  refine execOp_congr o (fun cs b hs=>?_) fun x hx=>?_
  rw[hs] at e; simp[dT,cQ] at e
  ·cases x with
   | tmp d =>
    show(jV a.tmps _).getD d undef=a.tmps.getD d undef
    rw[jR,Ph (ia.2 (by simpa using hx))]
   | _=>rfl
 rw[hex] at hd;exact hd
end Go.Ab
