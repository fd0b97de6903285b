/- A part of the proof. -/
import Derived.RangeFuncRecord
import Derived.RangeFuncLeaves
import Derived.Laws.Cells
import Derived.Laws.Entries
import Derived.Laws.StructEq
import Derived.IntWalk
import Derived.OrdersIn
import Derived.LeavingIn
set_option linter.all false
universe u
abbrev PE:=@Option
abbrev PM:=@List
abbrev PN:=Unit
abbrev PO:=@Array
abbrev Mx:=@Int.toNat_natCast
abbrev My:=@Bool.and_eq_true
abbrev Mz:=@Nat.eq_of_beq_eq_true
abbrev MA:=@Nat.le_refl
abbrev MB:=@Option.map_some
abbrev MC:=@Nat.lt_of_lt_of_le
abbrev MD:=@Nat.le_of_ble_eq_true
abbrev ME:=@if_neg
abbrev MF:=@List.getElem?_eq_getElem
abbrev MG:=@if_pos
abbrev MH:=@Option.some.inj
abbrev MI:=@Array.getElem?_eq_some_iff
abbrev MJ:=@Bool.false_eq_true
abbrev MK:=@List.all_eq_true
abbrev ML:=@List.getElem?_eq_some_iff
abbrev MM:=@List.getElem?_cons_zero
abbrev MN:=@Int.natAbs_natCast
abbrev MO:=@Bool.not_true
abbrev MP:=@List.getElem?_map
abbrev MQ:=@List.getElem?_toArray
abbrev MS:=@List.length_map
abbrev MT:=@Nat.mul_assoc
abbrev MU:=@Nat.le_trans
abbrev MV:=@List.length_append
abbrev MW:=@decide_eq_true_eq
abbrev MX:=@absurd
abbrev MY:=@Nat.pow_le_pow_right
abbrev MZ:=@Nat.pos_of_ne_zero
abbrev M0:=@List.mem_cons
abbrev M1:=@List.getElem?_append_right
abbrev M3:=@Option.bind_some
abbrev M4:=@decide_eq_true
abbrev M5:=@List.mem_of_getElem?
abbrev M6:=@Nat.ble_eq_true_of_le
abbrev M7:=@Nat.lt_or_ge
abbrev M8:=@Nat.mul_ne_zero
abbrev M9:=@Nat.mul_comm
abbrev Na:=@Nat.lt_of_le_of_lt
abbrev Nb:=@Nat.mul_le_mul
abbrev Nc:=@Nat.add_mul
abbrev Nd:=@Array.toList_inj
abbrev Nf:=@Nat.mul_left_comm
abbrev Ng:=@Bool.not_eq_true'
abbrev Nh:=@Nat.mod_eq_of_lt
abbrev Ni:=@List.length_cons
abbrev Nj:=@Nat.mul_le_mul_right
abbrev Nl:=@List.getElem?_cons_succ
abbrev Nn:=@List.getElem?_append_left
abbrev No:=@List.flatten_cons
abbrev Np:=@Nat.mul_le_mul_left
abbrev Nq:=@Nat.lt_succ_self
abbrev Nr:=@Nat.div_lt_iff_lt_mul
abbrev Ns:=@Bool.and_self
abbrev Nt:=@Int.natCast_nonneg
abbrev Nu:=@Nat.zero_add
abbrev Nv:=@decide_eq_false
abbrev Nw:=@Nat.min_eq_left
abbrev Nx:=@Nat.mod_lt
abbrev Ny:=@List.pairwise_cons
abbrev Nz:=@List.getD_eq_getElem?_getD
abbrev NA:=@Nat.add_zero
abbrev NB:=@List.getElem?_eq_none
abbrev NC:=@List.eq_nil_of_length_eq_zero
abbrev NF:=@List.all_cons
abbrev NG:=@Bool.not_false
abbrev NH:=@List.mem_singleton
abbrev NI:=@Bool.false_ne_true
abbrev NJ:=@Bool.or_eq_true
abbrev NK:=@List.length_take
abbrev NL:=@List.length_eq_zero_iff
abbrev NM:=@Nat.mul_add
abbrev NN:=@Nat.div_mul_cancel
abbrev NO:=@List.getElem?_drop
abbrev NP:=@List.getElem_mem
abbrev NQ:=@List.replicate_succ
abbrev NS:=@congrArg
abbrev NT:=@Nat.gcd
abbrev NU:=@Array.getElem?_setIfInBounds_ne
abbrev NV:=@Nat.zero_le
abbrev NW:=@List.mem_append
abbrev NX:=@List.append_nil
abbrev NY:=@Option.map_eq_some_iff
abbrev NZ:=@Nat.ne_of_beq_eq_false
abbrev N0:=@List.getElem?_set_self
abbrev N1:=@Nat.blt_eq
abbrev N2:=@Nat.pow_add
abbrev N3:=@Classical.choose_spec
abbrev N4:=@Nat.div_add_mod
abbrev N5:=@List.nil_append
abbrev N6:=@Int.natCast_mul
abbrev N7:=@List.getElem?_set_ne
abbrev N8:=@Int.ofNat_eq_natCast
abbrev N9:=@Nat.succ_mul
abbrev Oa:=@Nat.le_of_lt
abbrev Ob:=@List.take_succ_eq_append_getElem
abbrev Oe:=@List.mem_range
abbrev Of:=@Int.toNat_of_nonneg
abbrev Og:=@List.length_set
abbrev Oh:=@Int.tdiv
abbrev Oi:=@List.mem_cons_self
abbrev Oj:=@List.getElem?_take
abbrev Ol:=@Array.eq_empty_of_size_eq_zero
abbrev Om:=@Nat.zero_mul
abbrev On:=@List.drop_drop
abbrev Oo:=@List.getElem?_replicate
abbrev Oq:=@Array.length_toList
abbrev Ot:=@Array.getElem?_push
abbrev Ou:=@Nat.sub_self
abbrev Ov:=@List.mem_map
abbrev Ow:=@List.drop_eq_nil_of_le
abbrev Oy:=@Bool.true_or
abbrev Oz:=@Bool.or_true
abbrev OA:=@Prod.mk.injEq
abbrev OB:=@Nat.add_assoc
abbrev OC:=@List.drop_length
abbrev OD:=@List.nodup_cons
abbrev OE:=@Array.replicate
abbrev OF:=@List.map_cons
abbrev OG:=PM (PM Int×PM (PM Int))
abbrev OH:=Int×Int×Int×Int
abbrev OI:=PM (Int×Int)
abbrev OJ:=PM (PM Int)
abbrev OM:=Nat->Prop
def OV{c:Prop}{h0:Decidable c}{α:Sort u}{t e:α}(h:¬c:=by omega):ite c t e=e:=if_neg h
def OW{c:Prop}{h0:Decidable c}{α:Sort u}{t e:α}(h:c:=by omega):ite c t e=t:=if_pos h
section
open Go
abbrev PQ:=@Result.andThen_ok
abbrev PR:=@Sem.run_bind
abbrev PS:=@Sem.run_pure
abbrev PT:=@run_underlying
abbrev PU:=FuncId
abbrev OK:=PM (PM Value)
abbrev OL:=PE Addr
abbrev ON:=Value
abbrev OO:=TypeId
abbrev OP:=Operand
abbrev OQ:=Program
abbrev OS:=World
abbrev OT:=IntKind.wrap .i64
abbrev OU:Nat:=(0:Int).toNat
end
namespace Go.Ab
open Go
structure F8(α:Type) where
 a:α
 b:α
 c:α
 d:α
 e:α
 f:α
 g:α
 h:α
def F8.all{α:Type}(x:α):F8 α:=⟨x,x,x,x,x,x,x,x⟩
def F8.Fb{α:Type}(x:F8 α)(i:Nat):α :=
 match i with
 | 0=>x.a
 | 1=>x.b
 | 2=>x.c
 | 3=>x.d
 | 4=>x.e
 | 5=>x.f
 | 6=>x.g
 | _=>x.h
def F8.put{α:Type}(x:F8 α)(i:Nat)(v:α):F8 α :=
 match i with
 | 0=>{ x with a:=v}
 | 1=>{ x with b:=v}
 | 2=>{ x with c:=v}
 | 3=>{ x with d:=v}
 | 4=>{ x with e:=v}
 | 5=>{ x with f:=v}
 | 6=>{ x with g:=v}
 | _=>{ x with h:=v}
def F8.Ac{α:Type}(x:F8 α)(i j:Nat)(v:α)(hi:i<8)(hj:j<8):(x.put i v).Fb j=if j=i then v else x.Fb j:=by
 have h1:i=0\/i=1\/i=2\/i=3\/i=4\/i=5\/i=6\/i=7:=by omega
 have h2:j=0\/j=1\/j=2\/j=3\/j=4\/j=5\/j=6\/j=7:=by omega
 rcases h1 with rfl|rfl|rfl|rfl|rfl|rfl|rfl|rfl<;>rcases h2 with rfl|rfl|rfl|rfl|rfl|rfl|rfl|rfl<;>rfl
def F8.pw{α:Type}(x:α)(i:Nat):(F8.all x).Fb i=x:=by
 unfold F8.Fb F8.all; split<;>rfl
def F8.getM{M β:Type}(sz:Nat)(g:M->Nat->β)(x:F8 M)(i:Nat):β:=g (x.Fb (i/sz)) (i%sz)
def F8.BV{M β:Type}(sz:Nat)(s:M->Nat->β->M)(x:F8 M)(i:Nat)(v:β):F8 M:=x.put (i/sz) (s (x.Fb (i/sz)) (i%sz) v)
def F8.kW{M β:Type}{sz:Nat}{g:M->Nat->β}{s:M->Nat->β->M}(hsz:0<sz)(hl:∀m i j v,i<sz->j<sz->g (s m i v) j=if j=i then v else g m j)(x:F8 M)(i j:Nat)(v:β)(hi:i<8*sz)(hj:j<8*sz) :
  F8.getM sz g (F8.BV sz s x i v) j=if j=i then v else F8.getM sz g x j:=by
 have h1:i/sz<8:=(Nr hsz).2 hi;have h2:j/sz<8:=(Nr hsz).2 hj;unfold F8.getM F8.BV;rw[F8.Ac _ _ _ _ h1 h2];have e1:=N4 i sz;have e2:=N4 j sz
 by_cases h:j/sz=i/sz
 rw[MG h,hl _ _ _ _ (Nx _ hsz) (Nx _ hsz)]
 by_cases h':j%sz=i%sz
 have:j=i:=by rw[<-e1,<-e2,h,h']
 rw[MG h',MG this]
 have:j≠i:=fun e=>h' (by rw[e])
 rw[ME h',ME this,h]
 have:j≠i:=fun e=>h (by rw[e])
 rw[ME h,ME this]
abbrev JS(α:Type):=F8 (F8 α)
abbrev ye(α:Type):=F8 (JS α)
abbrev tp(α:Type):=F8 (ye α)
abbrev nR(α:Type):=F8 (tp α)
def vZ{α:Type}:JS α->Nat->α:=F8.getM 8 F8.Fb
def nC{α:Type}:ye α->Nat->α:=F8.getM 64 vZ
def nu{α:Type}:tp α->Nat->α:=F8.getM 512 nC
def kD{α:Type}:nR α->Nat->α:=F8.getM 4096 nu
def EM{α:Type}:JS α->Nat->α->JS α:=F8.BV 8 F8.put
def uv{α:Type}:ye α->Nat->α->ye α:=F8.BV 64 EM
def uf{α:Type}:tp α->Nat->α->tp α:=F8.BV 512 uv
def xW{α:Type}:nR α->Nat->α->nR α:=F8.BV 4096 uf
def B1{α:Type}(x:JS α)(i j:Nat)(v:α)(hi:i<64)(hj:j<64):vZ (EM x i v) j=if j=i then v else vZ x j :=
 F8.kW (by omega) (fun m i j v hi hj=>F8.Ac m i j v hi hj) x i j v (by omega) (by omega)
def rl{α:Type}(x:ye α)(i j:Nat)(v:α)(hi:i<512)(hj:j<512):nC (uv x i v) j=if j=i then v else nC x j :=
 F8.kW (by omega) (fun m i j v hi hj=>B1 m i j v hi hj) x i j v (by omega) (by omega)
def xQ{α:Type}(x:tp α)(i j:Nat)(v:α)(hi:i<4096)(hj:j<4096):nu (uf x i v) j=if j=i then v else nu x j :=
 F8.kW (by omega) (fun m i j v hi hj=>rl m i j v hi hj) x i j v (by omega) (by omega)
def vm{α:Type}(x:nR α)(i j:Nat)(v:α)(hi:i<32768)(hj:j<32768):kD (xW x i v) j=if j=i then v else kD x j :=
 F8.kW (by omega) (fun m i j v hi hj=>xQ m i j v hi hj) x i j v (by omega) (by omega)
def DL{α:Type}(x:α):JS α:=F8.all (F8.all x)
def uV{α:Type}(x:α):ye α:=F8.all (DL x)
def uk{α:Type}(x:α):tp α:=F8.all (uV x)
def qX{α:Type}(x:α):nR α:=F8.all (uk x)
def Bg{α:Type}(x:α)(i:Nat):vZ (DL x) i=x:=by simp[vZ,DL,F8.getM,F8.pw]
def rj{α:Type}(x:α)(i:Nat):nC (uV x) i=x:=by simp[nC,uV,F8.getM,F8.pw,Bg]
def xn{α:Type}(x:α)(i:Nat):nu (uk x) i=x:=by simp[nu,uk,F8.getM,F8.pw,rj]
def tT{α:Type}(x:α)(i:Nat):kD (qX x) i=x:=by simp[kD,qX,F8.getM,F8.pw,xn]
def AQ{α:Type}:PM (Nat×α)->Nat->PE α
 | [],_=>none
 |(i,v)::l,j=>if j=i then some v else AQ l j
structure Trie(α:Type) where
 lo:ye (PE α)
 hi:PM (Nat×α)
def Trie.nil{α:Type}:Trie α:=⟨uV none,[]⟩
def Trie.get{α:Type}(t:Trie α)(n:Nat):PE α:=if n<512 then nC t.lo n else AQ t.hi n
def Trie.set{α:Type}(t:Trie α)(n:Nat)(v:α):Trie α:=if n<512 then{ t with lo:=uv t.lo n (some v)} else{ t with hi:=(n,v)::t.hi}
def Trie.get_nil{α:Type}(n:Nat):(Trie.nil:Trie α).get n=none:=by
 unfold Trie.get Trie.nil
 split
 exact rj _ _
 rfl
def Trie.cb{α:Type}(t:Trie α)(n m:Nat)(v:α):(t.set n v).get m=if m=n then some v else t.get m:=by
 unfold Trie.set Trie.get
 by_cases h1:n<512<;>by_cases h2:m<512<;>simp only[h1,h2,if_true,if_false]
 rw[rl _ _ _ _ h1 h2]
 rw[OV]
 rw[OV]
 rfl
structure Heap(α:Type) where
 lo:nR (PE α)
 hi:PM (Nat×α)
def Heap.nil{α:Type}:Heap α:=⟨qX none,[]⟩
def Heap.get{α:Type}(t:Heap α)(n:Nat):PE α:=if n<32768 then kD t.lo n else AQ t.hi n
def Heap.set{α:Type}(t:Heap α)(n:Nat)(v:α):Heap α:=if n<32768 then{ t with lo:=xW t.lo n (some v)} else{ t with hi:=(n,v)::t.hi}
def Heap.get_nil{α:Type}(n:Nat):(Heap.nil:Heap α).get n=none:=by
 unfold Heap.get Heap.nil
 split
 exact tT _ _
 rfl
def Heap.cb{α:Type}(t:Heap α)(n m:Nat)(v:α):(t.set n v).get m=if m=n then some v else t.get m:=by
 unfold Heap.set Heap.get
 by_cases h1:n<32768<;>by_cases h2:m<32768<;>simp only[h1,h2,if_true,if_false]
 rw[vm _ _ _ _ h1 h2]
 rw[OV]
 rw[OV]
 rfl
def Trie.ofList{α:Type}:PM α->Nat->Trie α->Trie α
 | [],_,t=>t
 | v::vs,i,t=>Trie.ofList vs (i+1) (t.set i v)
abbrev Tm:=Trie ON
def Tm.at(t:Tm)(i:Nat):ON:=(Trie.get t i).getD undef
inductive Tag where
 | ro
 | own
 | more (sz:Nat)
 deriving DecidableEq
structure ALoop where
 state:LoopState
 pending:PE Code
 fn:PU
 tmps:Tm
 n:Nat
 params:PO Tmp
 assign:Code
 body:Code
inductive PL where
 | cells (cs:PM ON) (tag:Tag)
 | map (es:PM (ON×ON))
 | loop (r:ALoop)
structure PJ where
 next:Nat
 wl:Nat
 bT:Heap (PE PL)
 base:Nat->PE PL
def PJ.get(m:PJ)(b:Nat):PE PL :=
 match m.bT.get b with
 | some x=>x
 | none=>m.base b
def PJ.set(m:PJ)(b:Nat)(o:PL):PJ:={ m with bT:=m.bT.set b (some o),wl:=min m.wl b}
def PJ.kill(m:PJ)(b:Nat):PJ:={ m with bT:=m.bT.set b none,wl:=min m.wl b}
def PJ.alloc(m:PJ)(o:PL):PJ:={ m with next:=m.next+1,bT:=m.bT.set m.next (some o)}
def ptr(b:Nat)(o:Nat):ON:=.pointer (some ⟨b,o,none⟩)
def PJ.cells(m:PJ)(b:Nat):PE (PM ON×Tag) :=
 match m.get b with
 | some (.cells cs tag)=>some (cs,tag)
 | _=>none
def PJ.dB(m:PJ)(b o n:Nat):PE (PM ON) :=
 match m.get b with
 | some (.cells cs _)=>let l:=(cs.drop o).take n; if l.length=n then some l else none
 | _=>none
def aH:PM ON->Nat->PM ON->PM ON
 | cs,0,[]=>cs
 | [],0,_=>[]
 | _::cs,0,v::vs=>v::aH cs 0 vs
 | [],_+1,_=>[]
 | c::cs,o+1,vs=>c::aH cs o vs
def PJ.dn(m:PJ)(b o:Nat)(vs:PM ON):PE PJ :=
 match vs with
 | []=>some m
 | _=>match m.get b with
  | some (.cells _ .ro)=>none
  | some (.cells cs tag)=>if o+vs.length<=cs.length then some (m.set b (.cells (aH cs o vs) tag)) else none
  | _=>none
def lD:ON->Bool
 | .agg _|.tuple _=>false
 | _=>true
def bh(vs:PM ON):Bool:=vs.all lD
structure Prim where
 run:PM ON->PJ->PE (ON×PJ)
structure Env where
 P:OQ
 glob:Nat
 cR:PU->PE Prim
 mono:Prop:=True
def aM:ON->Bool
 | .bool _|.int _ _|.string _|.pointer none|.slice none _ _|.map none|.nilFunc|.nilIface=>true
 | _=>false
def bu:ON->Bool
 | .agg cs=>cs.toList.all aM
 | .tuple cs=>cs.toList.all aM
 | v=>aM v
def au(E:Env)(t:Tm):OP->PE ON
 | .tmp i=>some (t.at i)
 | .const v=>if bu v then some v else none
 | .global g=>if g<E.glob then some (ptr g 0) else none
 | .func f=>some (.func (.func f) #[] #[])
def bI(E:Env)(t:Tm):PM OP->PE (PM ON)
 | []=>some []
 | x::xs=>match au E t x,bI E t xs with
  | some v,some vs=>some (v::vs)
  | _,_=>none
def dK(P:OQ)(t:OO):Bool :=
 match P.underlying t with
 | some (.struct _)|some (.array _ _)=>true
 | _=>false
def known(P:OQ)(t:OO):Bool:=(P.underlying t).isSome &&(P.info? t).isSome
def ax(P:OQ)(t:OO):Nat:=P.cellsOf t
def bU(P:OQ)(t:OO):PE ON:=(P.info? t).bind (·.zero)
def eE(P:OQ)(t:OO)(cs:PO ON)(off:Nat):PE ON :=
 if !known P t then none else
 if dK P t then some (.agg (cs.extract off (off+ax P t)))
 else cs[off]?
def gL(eq:OO->ON->ON->PE Bool)(P:OQ)(xs ys:PO ON):PM (OO×Nat)->PE Bool
 | []=>some true
 | (t,off)::rest =>
  match eE P t xs off,eE P t ys off with
  | some x,some y=>match eq t x y with
   | some true=>gL eq P xs ys rest
   | r=>r
  | _,_=>none
def jn(P:OQ):Nat->OO->ON->ON->PE Bool
 | 0,_,_,_=>none
 | d+1,t,x,y =>
  match P.underlying t,x,y with
  | some .bool,.bool a,.bool b=>some (a==b)
  | some (.int _),.int k a,.int k' b=>if k=k' then some (a==b) else none
  | some .string,.string a,.string b=>some (a==b)
  | some (.pointer _),.pointer none,.pointer b=>some b.isNone
  | some (.pointer _),.pointer (some _),.pointer none=>some false
  | some (.slice _),.slice none _ _,.slice b _ _=>some b.isNone
  | some (.slice _),.slice (some _) _ _,.slice none _ _=>some false
  | some (.map _ _),.map none,.map b=>some b.isNone
  | some (.map _ _),.map (some _),.map none=>some false
  | some (.func _ _ _),.nilFunc,.nilFunc=>some true
  | some (.func _ _ _),.nilFunc,.func _ _ _=>some false
  | some (.func _ _ _),.func _ _ _,.nilFunc=>some false
  | some (.struct fs),.agg xs,.agg ys =>
   if P.stoodInHeld t || fs.any (·.name == "_") then none else
   gL (jn P d) P xs ys (fs.toList.map fun f=>(f.type,f.offset))
  | some (.array len elem),.agg xs,.agg ys=>if known P elem then gL (jn P d) P xs ys ((List.range len).map fun i=>(elem,i*ax P elem)) else none
  | _,_,_=>none
def bz(op:BinOp)(xType:OO)(P:OQ)(x y:ON):PE ON :=
 match op,x,y with
 | .shl,.int k a,.int _ b=>if b<0 then none else some (.int k (k.wrap (a*2 ^ (min b.toNat k.bits))))
 | .shr,.int k a,.int _ b=>if b<0 then none else some (.int k (a.fdiv (2 ^ (min b.toNat k.bits))))
 | .eql,.int k a,.int k' b=>if k=k' then some (.bool (a==b)) else none
 | .neq,.int k a,.int k' b=>if k=k' then some (.bool (a != b)) else none
 | .lss,.int k a,.int k' b=>if k=k' then some (.bool (decide (a<b))) else none
 | .leq,.int k a,.int k' b=>if k=k' then some (.bool (decide (a<=b))) else none
 | .gtr,.int k a,.int k' b=>if k=k' then some (.bool (decide (a>b))) else none
 | .geq,.int k a,.int k' b=>if k=k' then some (.bool (decide (a≥b))) else none
 | .add,.int k a,.int k' b=>if k=k' then some (.int k (k.wrap (a+b))) else none
 | .sub,.int k a,.int k' b=>if k=k' then some (.int k (k.wrap (a-b))) else none
 | .mul,.int k a,.int k' b=>if k=k' then some (.int k (k.wrap (a*b))) else none
 | .quo,.int k a,.int k' b=>if k=k' then(if b=0 then none else some (.int k (k.wrap (a.tdiv b)))) else none
 | .rem,.int k a,.int k' b=>if k=k' then(if b=0 then none else some (.int k (a.tmod b))) else none
 | .and,.int k a,.int k' b=>if k=k' then some (.int k (k.wrap (BitVec.ofInt k.bits a &&& BitVec.ofInt k.bits b).toNat)) else none
 | .or,.int k a,.int k' b=>if k=k' then some (.int k (k.wrap (BitVec.ofInt k.bits a ||| BitVec.ofInt k.bits b).toNat)) else none
 | .xor,.int k a,.int k' b=>if k=k' then some (.int k (k.wrap (BitVec.ofInt k.bits a ^^^ BitVec.ofInt k.bits b).toNat)) else none
 | .andNot,.int k a,.int k' b=>if k=k' then some (.int k (k.wrap (BitVec.ofInt k.bits a &&& ~~~ BitVec.ofInt k.bits b).toNat)) else none
 | .eql,.string a,.string b=>some (.bool (a==b))
 | .neq,.string a,.string b=>some (.bool (a != b))
 | _,.string _,_=>none
 | .eql,.agg xs,.agg ys=>if P.eqGuardType P.depth xType then none else(jn P Op.maxDepth xType (.agg xs) (.agg ys)).map .bool
 | .neq,.agg xs,.agg ys=>if P.eqGuardType P.depth xType then none else(jn P Op.maxDepth xType (.agg xs) (.agg ys)).map fun b=>.bool (!b)
 | .eql,x,y=>match x with
  | .bool _|.pointer _|.slice _ _ _|.map _|.func _ _ _|.nilFunc=>(jn P Op.maxDepth xType x y).map .bool
  | _=>none
 | .neq,x,y=>match x with
  | .bool _|.pointer _|.slice _ _ _|.map _|.func _ _ _|.nilFunc=>(jn P Op.maxDepth xType x y).map fun b=>.bool (!b)
  | _=>none
 | _,_,_=>none
def yr(op:UnOp)(x:ON):PE ON :=
 match op,x with
 | .neg,.int k n=>some (.int k (k.wrap (0-n)))
 | .xor,.int k n=>some (.int k (k.wrap (BitVec.ofInt k.bits (if k.signed then -1 else k.max) ^^^ BitVec.ofInt k.bits n).toNat))
 | .not,.bool b=>some (.bool !b)
 | _,_=>none
def fw(P:OQ)(src dst:OO)(x:ON):PE ON :=
 match P.underlying src,P.underlying dst,x with
 | some _,some (.int k),.int _ n=>some (.int k (k.wrap n))
 | some _,some .string,.string s=>some (.string s)
 | _,_,_=>none
def gH(place:Nat->PE (Nat×Nat))(cells:PM ON):PM (Nat×ON)->PE (PM ON)
 | []=>some cells
 | (i,v)::rest =>
  match place i with
  | none=>none
  | some (off,size) =>
   if v.cells.size≠size||off+v.cells.size>cells.length then none
   else gH place (aH cells off v.cells.toList) rest
def cX(E:Env)(t:Tm):PM (Nat×OP)->PE (PM (Nat×ON))
 | []=>some []
 |(i,x)::xs=>match au E t x,cX E t xs with
  | some v,some vs=>some ((i,v)::vs)
  | _,_=>none
def jB(P:OQ)(t:OO)(parts:PM (Nat×ON)):PE ON :=
 match bU P t,P.underlying t with
 | some z,some (.struct fields) =>
  if fields.toList.all (fun f=>known P f.type) then
   (gH (fun i=>(fields[i]?).map fun f=>(f.offset,ax P f.type)) z.cells.toList parts).map fun cs=>.agg cs.toArray
  else none
 | some z,some (.array _ elem) =>
  if known P elem then(gH (fun i=>some (i*ax P elem,ax P elem)) z.cells.toList parts).map fun cs=>.agg cs.toArray else none
 | _,_=>none
def cm(zero:PM ON):Nat->PM ON
 | 0=>[]
 | n+1=>zero++cm zero n
def fD(P:OQ)(elem:OO)(n:Nat):PE (PM ON) :=
 match bU P elem with
 | some z=>if z.cells.size=ax P elem then some (cm z.cells.toList n) else none
 | none=>none
def jq(x:ON)(y:Nat):PE Nat :=
 match x with
 | .int _ i=>if 0<=i/\i<=y then some i.toNat else none
 | _=>none
def ew(len cap:Nat)(low high max:PE ON):PE (Nat×Nat×Nat) :=
 match(match max with|some v=>jq v cap|none=>some cap) with
 | none=>none
 | some m =>
  match(match high,max with|some v,_=>jq v m|none,none=>some len|none,some _=>none) with
  | none=>none
  | some h =>
   match(match low with|some v=>jq v h|none=>some 0) with
   | none=>none
   | some l=>some (l,h,m)
def gA(b:Nat):ON:=.slice (some ⟨b,0,some 0⟩) 0 0
def dk(E:Env)(t:Tm):PE OP->PE (PE ON)
 | none=>some none
 | some x=>(au E t x).map some
def cB(P:OQ)(xType:OO)(x:ON)(low high max:PE ON)(m:PJ):PE ON :=
 match P.underlying xType,x with
 | some (.slice elem),.slice none len cap =>
  if known P elem then
   match ew len cap low high max with
   | some (l,h,mx)=>some (.slice none (h-l) (mx-l))
   | none=>none
  else none
 | some (.slice elem),.slice (some ⟨b,o,none⟩) len cap =>
  if known P elem then
   match m.get b with
   | some (.cells _ (.more sz)) =>
    if sz≠ax P elem then none else
    match max with
    | none=>match ew len cap low high none with
     | some (l,h,_)=>if cap=l then some (gA b) else some (.slice (some ⟨b,o+l*ax P elem,none⟩) (h-l) (cap-l))
     | none=>none
    | some mv =>
     match ew len cap low high (some mv) with
     | some (l,h,mx)=>if mx=l/\h=l then some (.slice (some ⟨b,0,some 1⟩) 0 0) else some (.complex .f64 0 0)
     | none=>none
   | some (.cells _ _) =>
    match ew len cap low high max with
    | some (l,h,mx)=>some (.slice (some (if mx=l then⟨b,o,none⟩ else⟨b,o+l*ax P elem,none⟩)) (h-l) (mx-l))
    | none=>none
   | _=>none
  else none
 | some (.slice elem),.slice (some ⟨b,_,some sp⟩) 0 0 =>
  if known P elem then
   match ew 0 0 low high max with
   | some _=>some (.slice (some ⟨b,0,some sp⟩) 0 0)
   | none=>none
  else none
 | some (.array n elem),.pointer (some ⟨b,o,none⟩) =>
  if known P elem then
   match m.get b with
   | some (.cells _ (.more _))=>none
   | some (.cells _ _) =>
    match ew n n low high max with
    | some (l,h,mx)=>some (.slice (some (if mx=l then⟨b,o,none⟩ else⟨b,o+l*ax P elem,none⟩)) (h-l) (mx-l))
    | none=>none
   | _=>none
  else none
 | _,_=>none
def aR(P:OQ)(s:OO)(x:ON)(f:Nat):PE ON :=
 match P.underlying s,x with
 | some (.struct fields),.pointer (some ⟨b,o,none⟩) =>
  match fields[f]? with
  | some fl=>if known P fl.type&&ax P fl.type != 0 then some (ptr b (o+fl.offset)) else none
  | none=>none
 | _,_=>none
def bM(P:OQ)(t:OO)(x index:ON):PE ON :=
 match P.underlying t,x,index with
 | some (.array len elem),.pointer (some ⟨b,o,none⟩),.int _ i =>
  if known P elem&&decide (0<=i/\i<len) then some (ptr b (o+i.toNat*ax P elem)) else none
 | some (.slice elem),.slice (some ⟨b,o,none⟩) len _,.int _ i =>
  if known P elem&&decide (0<=i/\i<len) then some (ptr b (o+i.toNat*ax P elem)) else none
 | _,_,_=>none
def zS(P:OQ)(t:OO)(x:ON):PE ON :=
 match P.underlying t,x with
 | some (.array n _),.slice (some ⟨b,o,none⟩) len _=>if n<=len then some (ptr b o) else none
 | _,_=>none
def gh(P:OQ)(t:OO)(x index:ON):PE ON :=
 match P.underlying t,x,index with
 | some (.array len elem),.agg cs,.int _ i=>if 0<=i/\i<len then eE P elem cs (i.toNat*ax P elem) else none
 | some .string,.string s,.int _ i=>if 0<=i then(s[i.toNat]?).map fun b=>.int .u8 b.toNat else none
 | _,_,_=>none
def eH(P:OQ)(t:OO)(x:ON)(f:Nat):PE ON :=
 match P.underlying t,x with
 | some (.struct fields),.agg cs =>
  match fields[f]? with
  | some fl=>eE P fl.type cs fl.offset
  | none=>none
 | _,_=>none
def dz(P:OQ)(t:OO)(a:ON)(m:PJ):PE ON :=
 match a with
 | .pointer (some ⟨b,o,none⟩) =>
  if !known P t then none else
  if dK P t then(m.dB b o (ax P t)).map fun cs=>.agg cs.toArray
  else match m.get b with
   | some (.cells cs _)=>cs[o]?
   | _=>none
 | _=>none
def fa(P:OQ)(t:OO)(a v:ON)(m:PJ):PE PJ :=
 match a with
 | .pointer (some ⟨b,o,none⟩) =>
  if known P t&&v.cells.size==ax P t&&bh v.cells.toList then m.dn b o v.cells.toList else none
 | _=>none
def iD(P:OQ)(keyType:OO)(k:ON):PM (ON×ON)->Nat->PE (PE (Nat×ON))
 | [],_=>some none
 | e::es,i =>
  match jn P Op.maxDepth keyType k e.1 with
  | some true=>some (some (i,e.2))
  | some false=>iD P keyType k es (i+1)
  | none=>none
def gj(P:OQ)(t:OO):Bool :=
 match P.underlying t with
 | some (.int _)|some .string|some .bool=>true
 | _=>false
def iw(P:OQ)(t:OO)(v:ON):Bool :=
 match P.underlying t,v with
 | some (.int _),.int _ _|some .string,.string _|some .bool,.bool _=>true
 | some (.array len elem),.agg cs=>gj P elem&&known P elem&&ax P elem==1&&cs.size==len&&cs.toList.all aM
 | some (.struct fs),.agg cs=>fs.toList.all (fun f=>gj P f.type&&known P f.type&&decide (f.offset<cs.size))&&cs.toList.all aM
 | _,_=>false
def mapOf(m:PJ)(x:ON):PE (PM (ON×ON)) :=
 match x with
 | .map none=>some []
 | .map (some r)=>match m.get r with
  | some (.map es)=>some es
  | _=>none
 | _=>none
def dI(P:OQ)(xType:OO)(x index:ON)(commaOk:Bool)(m:PJ):PE ON :=
 match P.underlying xType with
 | some (.map key elem) =>
  match mapOf m x,bU P elem with
  | some es,some z =>
   if iw P key index then
    match iD P key index es 0 with
    | some (some (_,v))=>some (if commaOk then .tuple #[v,.bool true] else v)
    | some none=>if bu z then some (if commaOk then .tuple #[z,.bool false] else z) else none
    | none=>none
   else none
  | _,_=>none
 | _=>none
def mA:PM (ON×ON)->Nat->ON->ON->PM (ON×ON)
 | [],_,k,v=>[(k,v)]
 | _::es,0,k,v=>(k,v)::es
 | e::es,n+1,k,v=>e::mA es n k v
def nk(es:PM (ON×ON))(i:Nat)(key:ON):Bool :=
 match es[i]? with
 | some e=>bu e.1&&Instr.sameBits 10000 e.1 key
 | none=>false
def eo(P:OQ)(mapType:OO)(x key value:ON)(m:PJ):PE PJ :=
 match P.underlying mapType,x with
 | some (.map kt _),.map (some r) =>
  match m.get r with
  | some (.map es) =>
   if iw P kt key then
    match iD P kt key es 0 with
    | some (some (i,_)) =>
     if nk es i key then some (m.set r (.map (mA es i key value))) else none
    | some none=>some (m.set r (.map (es++[(key,value)])))
    | none=>none
   else none
  | _=>none
 | _,_=>none
def pO(P:OQ)(mapType:OO)(x key:ON)(m:PJ):PE PJ :=
 match P.underlying mapType,x with
 | some (.map kt _),.map (some r) =>
  match m.get r with
  | some (.map es) =>
   if iw P kt key then
    match iD P kt key es 0 with
    | some (some (i,_))=>some (m.set r (.map (es.eraseIdx i)))
    | some none=>some m
    | none=>none
   else none
  | _=>none
 | _,_=>none
def cd(sz:Nat)(x:ON)(n:Nat)(m:PJ):PE (PM ON) :=
 match x with
 | .slice none _ _=>if n=0 then some [] else none
 | .slice (some ⟨b,o,none⟩) _ _=>if n=0 then some [] else m.dB b o (n*sz)
 | .slice (some ⟨_,_,some _⟩) _ _=>if n=0 then some [] else none
 | _=>none
def gp(bytes need:Nat):Bool:=(2*need+2000)*bytes<=2 ^ 48
def hJ(P:OQ)(elem:OO)(xType:PE OO)(x:ON)(m:PJ):PE (Nat×PM ON) :=
 match xType.bind P.underlying,x with
 | some (.slice _),.slice a l c=>(cd (ax P elem) (.slice a l c) l m).map fun cs=>(l,cs)
 | some (.int _),.int _ l=>if 0<=l/\l<=2 ^ 40 then(fD P elem l.toNat).bind fun zs=>if zs.all aM then some (l.toNat,zs) else none else none
 | _,_=>none
def dy (P:OQ) (sType:OO) (xType:PE OO) (s x:ON) (m:PJ):PE (ON × PJ) :=
 match P.underlying sType,s,hJ P (match P.underlying sType with|some (.slice e)=>e|_=>0) xType x m with
 | some (.slice elem),.slice base len cap,some (n,new) =>
  let sz:=ax P elem
  if !(known P elem)||sz==0 || !bh new || !(P.info? elem).any (fun i=>gp i.bytes (len+n)&&i.bytes != 0)||new.length != n*sz || !(bU P elem).any (fun z=>z.cells.size==sz&&z.cells.toList.all aM) then none else
  match base with
  | none =>
   if len≠0\/cap≠0 then none else
   if n=0 then some (.slice none 0 0,m)
   else some (.slice (some ⟨m.next,0,none⟩) n n,m.alloc (.cells new (.more sz)))
  | some ⟨b,o,none⟩ =>
   match m.get b with
   | some (.cells cs tag) =>
    if len+n<=cap then
     (m.dn b (o+len*sz) new).map fun m'=>(.slice (some ⟨b,o,none⟩) (len+n) cap,m')
    else match tag with
     | .more sz' =>
      if sz'=sz/\o=0 then
       let old:=cs.take (len*sz)
       if old.length=len*sz then some (.slice (some ⟨m.next,0,none⟩) (len+n) (len+n),(m.kill b).alloc (.cells (old++new) (.more sz))) else none
      else none
     | _ =>
      match m.dB b o (len*sz) with
      | some old=>some (.slice (some ⟨m.next,0,none⟩) (len+n) (len+n),m.alloc (.cells (old++new) (.more sz)))
      | none=>none
   | _=>none
  | some ⟨b,_,some 1⟩ =>
   if len≠0\/cap≠0 then none else
   if n=0 then some (.slice (some ⟨b,0,some 1⟩) 0 0,m)
   else some (.slice (some ⟨m.next,0,none⟩) n n,m.alloc (.cells new (.more sz)))
  | _=>if len=0/\cap=0/\n=0 then some (s,m) else none
 | _,_,_=>none
def qK(P:OQ)(dType:OO)(dst src:ON)(m:PJ):PE (ON×PJ) :=
 match P.underlying dType,dst,src with
 | some (.slice elem),.slice base dLen _,.slice _ sLen _ =>
  let n:=min sLen dLen
  if !(known P elem) then none else
  match cd (ax P elem) src n m with
  | none=>none
  | some cells =>
   if !bh cells then none else
   match base,n with
   | _,0=>some (.int .i64 0,m)
   | some ⟨b,o,none⟩,n+1=>(m.dn b o cells).map fun m'=>(.int .i64 (n+1:Nat),m')
   | _,_=>none
 | _,_,_=>none
def yN(P:OQ)(t:OO)(x:ON)(m:PJ):PE (ON×PJ) :=
 match P.underlying t,x with
 | some (.slice _),.slice _ 0 _=>some (.tuple #[],m)
 | some (.slice elem),.slice (some ⟨b,o,none⟩) n _ =>
  match fD P elem n with
  | some zs=>if zs.all aM then(m.dn b o zs).map fun m'=>(.tuple #[],m') else none
  | none=>none
 | _,_=>none
def eg(f:Int->Int->Int):IntKind->Int->PM ON->PE ON
 | k,a,[]=>some (.int k a)
 | k,a,.int _ b::vs=>eg f k (f a b) vs
 | _,_,_=>none
def bD(P:OQ)(b:Builtin)(argTypes:PO OO)(args:PM ON)(m:PJ):PE (ON×PJ) :=
 match b,args with
 | .len,[x] =>
  match(argTypes[0]?).bind P.underlying,x with
  | some .string,.string s=>some (.int .i64 s.size,m)
  | some (.array n _),_=>some (.int .i64 n,m)
  | some (.pointer a),_=>match P.underlying a with
   | some (.array n _)=>some (.int .i64 n,m)
   | _=>none
  | some (.slice _),.slice _ n _=>some (.int .i64 n,m)
  | some (.map _ _),x=>(mapOf m x).map fun es=>(.int .i64 es.length,m)
  | _,_=>none
 | .cap,[x] =>
  match(argTypes[0]?).bind P.underlying,x with
  | some (.slice _),.slice none _ n=>some (.int .i64 n,m)
  | some (.slice _),.slice (some ⟨b,_,none⟩) _ n=>match m.get b with
   | some (.cells _ (.more _))=>none
   | some (.cells _ _)=>some (.int .i64 n,m)
   | _=>none
  | _,_=>none
 | .append,[s,x]=>match argTypes[0]? with
  | some t=>dy P t argTypes[1]? s x m
  | none=>none
 | .copy,[d,s]=>match argTypes[0]? with
  | some t=>qK P t d s m
  | none=>none
 | .clear,[x]=>match argTypes[0]? with
  | some t=>yN P t x m
  | none=>none
 | .delete,[x,k]=>match argTypes[0]? with
  | some t=>(pO P t x k m).map fun m'=>(.tuple #[],m')
  | none=>none
 | .max,.int k a::vs=>(eg (fun x y=>if y>x then y else x) k a vs).map fun v=>(v,m)
 | .min,.int k a::vs=>(eg (fun x y=>if y<x then y else x) k a vs).map fun v=>(v,m)
 | _,_=>none
def cD(E:Env)(t:Tm)(m:PJ)(o:Op):PE (ON×PJ) :=
 let P:=E.P
 match o with
 | .move x|.assign x=>(au E t x).map fun v=>(v,m)
 | .pick c a b=>match au E t c with
  | some (.bool true)=>(au E t a).map fun v=>(v,m)
  | some (.bool false)=>(au E t b).map fun v=>(v,m)
  | _=>none
 | .alloc elem=>match bU P elem with
  | some z=>if bu z then some (ptr m.next 0,m.alloc (.cells z.cells.toList .own)) else none
  | none=>none
 | .box _ x=>(au E t x).map fun v=>(ptr m.next 0,m.alloc (.cells v.cells.toList .own))
 | .build ty parts=>match cX E t parts.toList,bU P ty with
  | some ps,some z=>if bu z then(jB P ty ps).map fun v=>(v,m) else none
  | _,_=>none
 | .buildSlice ty len parts =>
  match P.underlying ty,cX E t parts.toList with
  | some (.slice elem),some ps =>
   let sz:=ax P elem
   if !(known P elem)||len*sz>2 ^ 24 then none else
   match fD P elem len with
   | some zs=>if zs.all aM then(gH (fun i=>some (i*sz,sz)) zs ps).map fun cs=>(.slice (some ⟨m.next,0,none⟩) len len,m.alloc (.cells cs .own)) else none
   | none=>none
  | _,_=>none
 | .load ty a=>match au E t a with
  | some p=>(dz P ty p m).map fun v=>(v,m)
  | none=>none
 | .store ty a x=>match au E t a,au E t x with
  | some p,some v=>(fa P ty p v m).map fun m'=>(undef,m')
  | _,_=>none
 | .nilCheck x=>match au E t x with
  | some (.pointer (some a))=>some (.pointer (some a),m)
  | some (.func (.func f) a b)=>some (.func (.func f) a b,m)
  | some (.func (.yield f) a b)=>some (.func (.yield f) a b,m)
  | _=>none
 | .binOp op xType x y _=>match au E t x,au E t y with
  | some a,some b=>(bz op xType P a b).map fun v=>(v,m)
  | _,_=>none
 | .unOp op _ x=>match au E t x with
  | some a=>(yr op a).map fun v=>(v,m)
  | none=>none
 | .convert src dst x=>match au E t x with
  | some a=>(fw P src dst a).map fun v=>(v,m)
  | none=>none
 | .makeFunc (.func f) first captured=>match bI E t first.toList,bI E t captured.toList with
  | some fs,some cs=>some (.func (.func f) fs.toArray cs.toArray,m)
  | _,_=>none
 | .makeMap _ none=>some (.map (some m.next),m.alloc (.map []))
 | .makeSlice ty len cap=>match P.underlying ty,au E t len,au E t cap with
  | some (.slice elem),some (.int .i64 l),some (.int .i64 c) =>
   if 0<=l/\l<=c/\(P.info? elem).any (fun i=>i.bytes*c<=2 ^ 40&&i.bytes != 0)/\known P elem then
    match fD P elem c.toNat with
    | some zs=>if zs.all aM then some (.slice (some ⟨m.next,0,none⟩) l.toNat c.toNat,m.alloc (.cells zs .own)) else none
    | none=>none
   else none
  | _,_,_=>none
 | .slice ty x lo hi mx=>match au E t x,dk E t lo,dk E t hi,dk E t mx with
  | some v,some l,some h,some k=>(cB P ty v l h k m).map fun v=>(v,m)
  | _,_,_,_=>none
 | .fieldAddr s x f=>match au E t x with
  | some v=>(aR P s v f).map fun v=>(v,m)
  | none=>none
 | .field ty x f=>match au E t x with
  | some v=>(eH P ty v f).map fun v=>(v,m)
  | none=>none
 | .sliceToArrayPointer ty x=>match au E t x with
  | some v=>(zS P ty v).map fun v=>(v,m)
  | none=>none
 | .indexAddr ty x i=>match au E t x,au E t i with
  | some v,some n=>(bM P ty v n).map fun v=>(v,m)
  | _,_=>none
 | .index ty x i=>match au E t x,au E t i with
  | some v,some n=>(gh P ty v n).map fun v=>(v,m)
  | _,_=>none
 | .lookup ty x i ok=>match au E t x,au E t i with
  | some v,some n=>(dI P ty v n ok m).map fun v=>(v,m)
  | _,_=>none
 | .mapUpdate ty x k v|.insert ty x k v=>match au E t x,au E t k,au E t v with
  | some x,some k,some v=>(eo P ty x k v m).map fun m'=>(undef,m')
  | _,_,_=>none
 | .extract x i=>match au E t x with
  | some (.tuple vs)=>(vs[i]?).map fun v=>(v,m)
  | _=>none
 | .call c=>match c.callee with
  | .builtin b=>match bI E t c.args.toList with
   | some vs=>bD P b c.argTypes vs m
   | none=>none
  | _=>none
 | _=>none
def aA:Op->Bool
 | .store .. | .mapUpdate .. | .insert ..=>true
 | .call c=>match c.callee with
  | .builtin .append|.builtin .copy|.builtin .delete|.builtin .clear=>true
  | .builtin _=>false
  | _=>true
 | _=>false
def mZ:Op->Bool
 | .load .. | .lookup .. | .slice ..=>true
 | .call c=>match c.callee with
  | .builtin .len|.builtin .cap=>true
  | _=>false
 | _=>false
def tmpsOf:PM OP->PM Tmp
 | []=>[]
 | .tmp t::xs=>t::tmpsOf xs
 | _::xs=>tmpsOf xs
def looks(ops:PO Oper)(o:Oper):PM Tmp :=
 tmpsOf o.op.operands.toList++(match o.guard with
  | some (g,_)=>((ops[g]?).bind (·.dst)).toList
  | none=>[])
def Ap(ops:PO Oper):PM Nat:=(Region.before ops).toList
def po(ops:PO Oper)(a b:Oper):Bool :=
 !(aA a.op&&aA b.op) &&
 (match a.dst with
  | some d=>!(looks ops b).contains d&&b.dst != some d
  | none=>true) &&
 (match b.dst with
  | some d=>!(looks ops a).contains d
  | none=>true)
def clash(a b:Oper):Bool:=(aA a.op&&mZ b.op) ||(mZ a.op&&aA b.op)
def uy:PM Nat->Bool
 | []=>true
 | x::xs=>!xs.contains x&&uy xs
def eZ(o:Oper):PM Nat:=o.after.toList.filterMap fun e=>if Region.binds .any e then some e.on else none
def vK(ops:PO Oper)(bs:PM Nat):Bool :=
 uy (ops.toList.filterMap (·.dst)) &&
 (List.range ops.size).all fun j =>
  (eZ (ops.getD j default)).all (fun e=>decide (e<j)) &&
  (match(ops.getD j default).guard with
   | none=>true
   | some (g,_)=>decide (g<j) &&(bs.getD j 0).testBit g) &&
  (List.range j).all fun i =>
   if(bs.getD j 0).testBit i then(eZ (ops.getD j default)).any (fun e=>e==i ||(Nat.blt i e &&(bs.getD e 0).testBit i))
   else po ops (ops.getD i default) (ops.getD j default)
def k6(ops:PO Oper)(bs:PM Nat):PM (Nat×Nat) :=
 (List.range ops.size).flatMap fun j=>((List.range j).filter fun i=>!(bs.getD j 0).testBit i&&clash (ops.getD i default) (ops.getD j default)).map fun i=>(i,j)
def iz(ops:PO Oper):PE (PM (Nat×Nat)) :=
 if vK ops (Ap ops) then some (k6 ops (Ap ops)) else none
def fO:ON->PE Nat
 | .pointer (some a)=>some a.block
 | .slice (some a) _ _=>some a.block
 | .map (some r)=>some r
 | _=>none
def aQ(E:Env)(t:Tm)(o:Op):PE Nat :=
 match o with
 | .load _ a=>(au E t a).bind fO
 | .lookup _ x _ _=>(au E t x).bind fO
 | .slice _ x _ _ _=>(au E t x).bind fO
 | .call c=>match c.callee with
  | .builtin .len|.builtin .cap=>match bI E t c.args.toList with
   | some [v]=>fO v
   | _=>none
  | _=>none
 | _=>none
def dT(E:Env)(t:Tm)(o:Op):PE Nat :=
 match o with
 | .store _ a _=>match au E t a with
  | some (.pointer (some a))=>some a.block
  | _=>none
 | _=>none
def nY:ON->ON->Bool
 | .int k a,.int k' b=>decide (k=k')&&decide (a=b)
 | .bool a,.bool b=>a==b
 | .slice a l c,.slice a' l' c'=>decide (a=a') &&(Nat.beq l l'&&Nat.beq c c')
 | .map a,.map b=>decide (a=b)
 | .pointer a,.pointer b=>decide (a=b)
 | _,_=>false
def qm:PM ON->PM ON->Bool
 | [],[]=>true
 | v::vs,u::us=>nY v u&&qm vs us
 | _,_=>false
def tw:ON->ON->Bool
 | .func (.func f) a c,.func (.func f') a' c'=>Nat.beq f f' &&(qm a.toList a'.toList&&qm c.toList c'.toList)
 | v,u=>nY v u
def oI:PM ON->PM ON->Bool
 | [],[]=>true
 | v::vs,u::us=>tw v u&&oI vs us
 | _,_=>false
def uC:PM (ON×ON)->PM (ON×ON)->Bool
 | [],[]=>true
 | v::vs,u::us=>tw v.1 u.1&&tw v.2 u.2&&uC vs us
 | _,_=>false
def A3:PE PL->PE PL->Bool
 | some (.cells cs t),some (.cells cs' t')=>decide (t=t')&&oI cs cs'
 | some (.map es),some (.map es')=>uC es es'
 | _,_=>false
noncomputable def gJ (m m':PJ) (b:Nat):Bool:=A3 (m.get b) (m'.get b)||@decide (m.get b=m'.get b) (Classical.propDecidable _)
structure Note where
 read:PE Nat
 wl:Nat
 next:Nat
 wrote:PE Nat
 kept:Nat->Bool
def Note.ok(r e:Note):Bool :=
 match r.read with
 | none=>true
 | some b=>decide (b<e.wl)||decide (e.next<=b) ||(match e.wrote with
  | some b'=>b != b'
  | none=>false)||e.kept b
def cV(a:Note):Bool :=
 match a.read with
 | none=>true
 | some b=>Nat.blt b a.next
def dj(notes:PM Note)(ops:PO Oper)(p:Nat×Nat):Bool :=
 match notes[p.1]?,notes[p.2]? with
 | some a,some b =>
  (!(aA (ops.getD p.2 default).op)||Note.ok a b) &&(!(aA (ops.getD p.1 default).op)||Note.ok b a)
 | _,_=>false
inductive PK where
 | normal
 | exit (id:Nat)
 | ret
 deriving DecidableEq
structure Fr where
 tmps:Tm
 n:Nat
 fn:PU
 round:PE Nat
inductive Task where
 | code (c:Code) (fr:Fr) (m:PJ)
 | loop (c:Code) (fr:Fr) (m:PJ)
 | call (f:PU) (args:PM ON) (m:PJ)
 | round (l:Nat) (args:PM ON) (m:PJ)
inductive Res where
 | code (e:PK) (t:Tm) (m:PJ)
 | val (v:ON) (m:PJ)
abbrev K:=Task->PE Res
def fQ(n:Nat)(t:Tm)(dst:PE Tmp)(v:ON):PE Tm :=
 match dst with
 | some d=>match Nat.blt d n with
  | true=>some (t.set d v)
  | false=>none
 | none=>some t
def dU(k:K)(E:Env)(t:Tm)(m:PJ)(o:Op):PE (ON×PJ) :=
 match o with
 | .call c=>match c.callee with
  | .value f=>match au E t f,bI E t c.args.toList with
   | some (.func (.func g) first captured),some args=>match k (.call g (first.toList++args++captured.toList) m) with
    | some (.val v m')=>some (v,m')
    | _=>none
   | some (.func (.yield l) first _),some args=>match k (.round l (first.toList++args) m) with
    | some (.val v m')=>some (v,m')
    | _=>none
   | _,_=>none
  | _=>cD E t m o
 | _=>cD E t m o
def cJ(ops:PO Oper)(t:Tm)(j:Nat):PE Bool :=
 match((ops[j]?).bind (·.dst)) with
 | some d=>match t.get d with
  | some (.bool b)=>some b
  | _=>none
 | none=>none
def aT(ops:PO Oper)(o:Oper)(t:Tm):Bool :=
 match o.guard with
 | none=>true
 | some (j,want)=>match cJ ops t j with
  | some b=>b==want
  | none=>false
def ia(k:K)(E:Env)(n:Nat)(ops:PO Oper):PM Oper->Tm->PJ->PE (Tm×PJ)
 | [],t,m=>some (t,m)
 | o::os,t,m =>
  if aT ops o t then
   match dU k E t m o.op with
   | some (v,m')=>match fQ n t o.dst v with
    | some t'=>ia k E n ops os t' m'
    | none=>none
   | none=>none
  else match fQ n t o.dst undef with
   | some t'=>ia k E n ops os t' m
   | none=>none
noncomputable def dA (k:K) (E:Env) (n:Nat) (ops:PO Oper):PM Oper->Tm->PJ->PE (Tm×PJ×PM Note)
 | [],t,m=>some (t,m,[])
 | o::os,t,m =>
  if aT ops o t then
   match dU k E t { m with wl:=m.next} o.op with
   | some (v,m')=>match fQ n t o.dst v with
    | some t1=>match dA k E n ops os t1 { m' with wl:=min m.wl m'.wl} with
     | some (t',m'',ns)=>some (t',m'',{ read:=aQ E t o.op,wl:=m'.wl,next:=m.next,wrote:=dT E t o.op,kept:=gJ m m'}::ns)
     | none=>none
    | none=>none
   | none=>none
  else match fQ n t o.dst undef with
   | some t1=>match dA k E n ops os t1 m with
    | some (t',m'',ns)=>some (t',m'',{ read:=none,wl:=m.next,next:=m.next,wrote:=none,kept:=fun _=>false}::ns)
    | none=>none
   | none=>none
def bX(E:Env)(t:Tm)(m:PJ):PM ResultVar->PE (PM ON)
 | []=>some []
 | .tmp i::rs=>(bX E t m rs).map fun vs=>t.at i::vs
 | .cell a ty::rs=>match dz E.P ty (t.at a) m,bX E t m rs with
  | some v,some vs=>some (v::vs)
  | _,_=>none
def fR:PM ON->ON
 | [v]=>v
 | vs=>.tuple vs.toArray
def fm(n:Nat)(t:Tm):PM Tmp->PM ON->PE Tm
 | p::ps,v::vs=>match Nat.blt p n with
  | true=>fm n (t.set p v) ps vs
  | false=>none
 | _,_=>some t
def vd:PK->PE Code
 | .normal=>none
 | .exit id=>some (.exit id)
 | .ret=>some .ret
def jd(E:Env)(fr:Fr)(m:PJ)(f:OP):Bool :=
 (match au E fr.tmps f with
  | some (.func (.func g) _ _)=>(E.cR g).isNone
  | _=>false) &&
 (match fr.round with
  | none=>true
  | some l=>match m.get l with
   | some (.loop _)=>true
   | _=>false)
def lQ(E:Env)(f:PU)(args:PM ON)(m:PJ):PE (ON×PJ):=(E.cR f).bind fun p=>p.run args m
noncomputable def step (E:Env) (k:K):Task->PE Res
 | .code c fr m =>
  match c with
  | .skip=>some (.code .normal fr.tmps m)
  | .label _=>some (.code .normal fr.tmps m)
  | .seq a b=>match k (.code a fr m) with
   | some (.code .normal t m')=>k (.code b { fr with tmps:=t} m')
   | some (.code e t m')=>some (.code e t m')
   | _=>none
  | .cond x a b=>match au E fr.tmps x with
   | some (.bool true)=>k (.code a fr m)
   | some (.bool false)=>k (.code b fr m)
   | _=>none
  | .block id a=>match k (.code a fr m) with
   | some (.code (.exit id') t m')=>if id'=id then some (.code .normal t m') else some (.code (.exit id') t m')
   | some (.code e t m')=>some (.code e t m')
   | _=>none
  | .loop a=>k (.loop a fr m)
  | .exit id=>some (.code (.exit id) fr.tmps m)
  | .ret=>some (.code .ret fr.tmps m)
  | .scope a=>match k (.code a fr m) with
   | some (.code e t m')=>some (.code e t m')
   | _=>none
  | .region _ ops draw =>
   if draw then
    match iz ops with
    | some ps=>match dA k E fr.n ops ops.toList fr.tmps m with
     | some (t,m',ns)=>if ps.all (dj ns ops)&&ns.all cV then some (.code .normal t m') else none
     | none=>none
    | none=>none
   else match ia k E fr.n ops ops.toList fr.tmps m with
    | some (t,m')=>some (.code .normal t m')
    | none=>none
  | .rangeFunc f params assign body =>
   match au E fr.tmps f,jd E fr m f with
   | some (.func (.func g) first captured),true =>
    let l:=m.next
    let m1:=m.alloc (.loop { state:=.ready,pending:=none,fn:=fr.fn,tmps:=fr.tmps,n:=fr.n,params,assign,body})
    match k (.call g (first.toList++[.func (.yield l) #[] #[]]++captured.toList) m1) with
    | some (.val _ m2)=>match m2.get l with
     | some (.loop r)=>match r.state with
      | .busy=>none
      | _ =>
       let m3:=m2.set l (.loop { r with state:=.exhausted})
       match r.pending with
       | none=>some (.code .normal fr.tmps m3)
       | some c=>match k (.code c fr m3) with
        | some (.code e t m')=>some (.code e t m')
        | _=>none
     | _=>none
    | _=>none
   | _,_=>none
  | _=>none
 | .loop c fr m=>match k (.code c fr m) with
  | some (.code .normal t m')=>k (.loop c { fr with tmps:=t} m')
  | some (.code e t m')=>some (.code e t m')
  | _=>none
 | .call f args m =>
  match lQ E f args m with
  | some r=>some (.val r.1 r.2)
  | none =>
   match E.P.funcs[f]? with
   | some fn=>match fn.body with
    | some c=>match k (.code c { tmps:=Trie.ofList args 0 .nil,n:=max args.length fn.ntmps,fn:=f,round:=none} m) with
     | some (.code (.exit _) _ _)=>none
     | some (.code _ t m')=>(bX E t m' fn.results.toList).map fun vs=>.val (fR vs) m'
     | _=>none
    | none=>none
   | none=>none
 | .round l args m =>
  match m.get l with
  | some (.loop r)=>match r.state with
   | .ready =>
    if args.length≠r.params.size then none else
    match fm r.n r.tmps r.params.toList args with
    | none=>none
    | some t0=>match k (.code r.assign { tmps:=t0,n:=r.n,fn:=r.fn,round:=some l} m) with
    | some (.code .normal t1 m1)=>match m1.get l with
     | some (.loop r1)=>match r1.state with
      | .ready =>
       match k (.code r.body { tmps:=t1,n:=r.n,fn:=r.fn,round:=some l} (m1.set l (.loop { r1 with state:=.busy}))) with
       | some (.code e _ m2)=>match m2.get l with
        | some (.loop r2) =>
         let j:=vd e
         some (.val (.bool j.isNone) (m2.set l (.loop { r2 with state:=if j.isNone then .ready else .done,pending:=j})))
        | _=>none
       | _=>none
      | _=>none
     | _=>none
    | _=>none
   | _=>none
  | _=>none
noncomputable def run (E:Env):Nat->K
 | 0=>fun _=>none
 | n+1=>step E (run E n)
structure Blk where
 c:Nat
 more:PE (Nat×Nat×Nat)
abbrev aI:=Nat->PE Blk
def wZ(v:ON):Bool:=lD v && !aM v
def sH{v:ON}(h:wZ v=true):lD v=true:=by simp only[wZ,My] at h; exact h.1
inductive VR(j:aI):ON->ON->Prop
 | junk {v':ON} (h:wZ v'=true):VR j (.complex .f64 0 0) v'
 | bool (b:Bool):VR j (.bool b) (.bool b)
 | int (k:IntKind) (n:Int):VR j (.int k n) (.int k n)
 | string (s:ByteArray):VR j (.string s) (.string s)
 | pnil:VR j (.pointer none) (.pointer none)
 | ptr {b o:Nat} {k:Blk} (h:j b=some k):VR j (.pointer (some ⟨b,o,none⟩)) (.pointer (some ⟨k.c,o,none⟩))
 | snil (l c:Nat):VR j (.slice none l c) (.slice none l c)
 | slice {b o len cap:Nat} {k:Blk} (h:j b=some k) (hm:k.more=none):VR j (.slice (some ⟨b,o,none⟩) len cap) (.slice (some ⟨k.c,o,none⟩) len cap)
 | sliceM {b o len cap cap' sz na nc:Nat} {k:Blk} (h:j b=some k) (hm:k.more=some (sz,na,nc)) (h1:cap*sz+o=na) (h2:cap'*sz+o=nc) (hl:len<=cap) (hc:cap<=cap') :
   VR j (.slice (some ⟨b,o,none⟩) len cap) (.slice (some ⟨k.c,o,none⟩) len cap')
 | gA {b:Nat} {a':Addr} {cap':Nat}:VR j (.slice (some ⟨b,0,some 0⟩) 0 0) (.slice (some a') 0 cap')
 | dry {b:Nat} {a':Addr}:VR j (.slice (some ⟨b,0,some 1⟩) 0 0) (.slice (some a') 0 0)
 | mnil:VR j (.map none) (.map none)
 | map {b:Nat} {k:Blk} (h:j b=some k):VR j (.map (some b)) (.map (some k.c))
 | func {f:PU} {xs ys cs ds:PO ON} (h1:xs.size=ys.size) (h2:∀(i:Nat) (a:i<xs.size) (b:i<ys.size),VR j xs[i] ys[i])
   (h3:cs.size=ds.size) (h4:∀(i:Nat) (a:i<cs.size) (b:i<ds.size),VR j cs[i] ds[i]):VR j (.func (.func f) xs cs) (.func (.func f) ys ds)
 | yield {l:Nat} {k:Blk} {xs ys cs ds:PO ON} (h:j l=some k) (h1:xs.size=ys.size) (h2:∀(i:Nat) (a:i<xs.size) (b:i<ys.size),VR j xs[i] ys[i]) :
   VR j (.func (.yield l) xs cs) (.func (.yield k.c) ys ds)
 | nilFunc:VR j .nilFunc .nilFunc
 | nilIface:VR j .nilIface .nilIface
 | agg {xs ys:PO ON} (h1:xs.size=ys.size) (h2:∀(i:Nat) (a:i<xs.size) (b:i<ys.size),VR j xs[i] ys[i]):VR j (.agg xs) (.agg ys)
 | tuple {xs ys:PO ON} (h1:xs.size=ys.size) (h2:∀(i:Nat) (a:i<xs.size) (b:i<ys.size),VR j xs[i] ys[i]):VR j (.tuple xs) (.tuple ys)
def LR(j:aI)(xs ys:PM ON):Prop:=xs.length=ys.length/\∀(i:Nat) (v:ON),xs[i]? = some v->∃v',ys[i]? = some v'/\VR j v v'
def LR.nil(j:aI):LR j [] []:=⟨rfl,fun i v h=>by simp at h⟩
def LR.cons{j:aI}{x y:ON}{xs ys:PM ON}(h:VR j x y)(hs:LR j xs ys):LR j (x::xs) (y::ys) :=
 ⟨by simp[hs.1],fun i v hi=>by
  cases i with
  | zero=>simp at hi; subst hi; exact⟨y,rfl,h⟩
  | succ i=>simpa using hs.2 i v (by simpa using hi)⟩
def LR.head{j:aI}{x y:ON}{xs ys:PM ON}(h:LR j (x::xs) (y::ys)):VR j x y:=by
 obtain⟨v',hv,hr⟩:=h.2 0 x rfl;simp at hv; subst hv; exact hr
def LR.tail{j:aI}{x y:ON}{xs ys:PM ON}(h:LR j (x::xs) (y::ys)):LR j xs ys :=
 ⟨by have:=h.1; simpa using this,fun i v hi=>by simpa using h.2 (i+1) v (by simpa using hi)⟩
def LR.cons_inv{j:aI}{x:ON}{xs l:PM ON}(h:LR j (x::xs) l):∃y ys,l=y::ys/\VR j x y/\LR j xs ys:=by
 cases l with
 | nil=>exact MX h.1 (by simp)
 | cons y ys=>exact⟨y,ys,rfl,h.head,h.tail⟩
def LR.dc{j:aI}{l:PM ON}(h:LR j [] l):l=[]:=by
 have:=h.1; simp at this; exact NL.1 this.symm
def LR.append{j:aI}{xs ys xs' ys':PM ON}(h:LR j xs ys)(h':LR j xs' ys'):LR j (xs++xs') (ys++ys') :=
 ⟨by simp[h.1,h'.1],fun i v hi=>by
  by_cases hlt:i<xs.length
  rw[Nn hlt] at hi;rw[Nn (h.1▸hlt)];exact h.2 i v hi
  rw[M1 (by omega)] at hi
  rw[M1 (by have:=h.1; omega),<-h.1]
  exact h'.2 _ v hi⟩
def LR.drop{j:aI}{xs ys:PM ON}(h:LR j xs ys)(n:Nat):LR j (xs.drop n) (ys.drop n) :=
 ⟨by simp[h.1],fun i v hi=>by rw[NO] at *; exact h.2 _ v hi⟩
def LR.take{j:aI}{xs ys:PM ON}(h:LR j xs ys)(n:Nat):LR j (xs.take n) (ys.take n) :=
 ⟨by simp[h.1],fun i v hi=>by
  rw[Oj] at *
  split at hi
  rename_i hlt; rw[MG hlt]; exact h.2 _ v hi
  simp at hi⟩
def LR.get{j:aI}{xs ys:PM ON}(h:LR j xs ys){i:Nat}{v:ON}(hi:xs[i]? = some v):∃v',ys[i]? = some v'/\VR j v v':=h.2 i v hi
def LR.eK{j:aI}{xs ys:PO ON}(h1:xs.size=ys.size)(h2:∀(i:Nat) (a:i<xs.size) (b:i<ys.size),VR j xs[i] ys[i]):LR j xs.toList ys.toList :=
 ⟨by simpa using h1,fun i v hi=>by
  have hlt:i<xs.toList.length:=(ML.1 hi).1;have ha:i<xs.size:=by simpa using hlt
  have hb:i<ys.size:=h1▸ha;refine⟨ys[i],by simp[hb],?_⟩
  have:xs[i]=v:=by simpa [ha] using hi
  exact this▸h2 i ha hb⟩
def LR.arr{j:aI}{xs ys:PO ON}(h:LR j xs.toList ys.toList):∀(i:Nat) (a:i<xs.size) (b:i<ys.size),VR j xs[i] ys[i]:=fun i a b=>by
 obtain⟨v',hv,hr⟩:=h.2 i xs[i] (by simp[a])
 have:ys[i]=v':=by simpa [b] using hv
 exact this▸hr
def LR.size{j:aI}{xs ys:PO ON}(h:LR j xs.toList ys.toList):xs.size=ys.size:=by simpa using h.1
def VR.yl{j:aI}{xs ys:PO ON}(h:LR j xs.toList ys.toList):VR j (.agg xs) (.agg ys):=.agg h.size h.arr
def VR.tuple'{j:aI}{xs ys:PO ON}(h:LR j xs.toList ys.toList):VR j (.tuple xs) (.tuple ys):=.tuple h.size h.arr
def VR.undef(j:aI):VR j undef undef:=.tuple rfl (fun i a _=>by simp at a)
def aI.le(j j':aI):Prop:=∀b k,j b=some k->j' b=some k
def aI.le.refl(j:aI):j.le j:=fun _ _ h=>h
def aI.le.trans{j j' j'':aI}(h:j.le j')(h':j'.le j''):j.le j'':=fun b k e=>h' b k (h b k e)
def VR.mono{j j':aI}(hj:j.le j'){v v':ON}(h:VR j v v'):VR j' v v':=by
 induction h with
 | junk h=>exact .junk h
 | bool b=>exact .bool b
 | int k n=>exact .int k n
 | string s=>exact .string s
 | pnil=>exact .pnil
 | ptr h=>exact .ptr (hj _ _ h)
 | snil l c=>exact .snil l c
 | slice h hm=>exact .slice (hj _ _ h) hm
 | sliceM h hm h1 h2 hl hc=>exact .sliceM (hj _ _ h) hm h1 h2 hl hc
 | gA=>exact .gA
 | dry=>exact .dry
 | mnil=>exact .mnil
 | map h=>exact .map (hj _ _ h)
 | func h1 _ h3 _ ih2 ih4=>exact .func h1 ih2 h3 ih4
 | yield h h1 _ ih2=>exact .yield (hj _ _ h) h1 ih2
 | nilFunc=>exact .nilFunc
 | nilIface=>exact .nilIface
 | agg h1 _ ih=>exact .agg h1 ih
 | tuple h1 _ ih=>exact .tuple h1 ih
def LR.mono{j j':aI}(hj:j.le j'){xs ys:PM ON}(h:LR j xs ys):LR j' xs ys :=
 ⟨h.1,fun i v hi=>let⟨v',a,b⟩:=h.2 i v hi;⟨v',a,b.mono hj⟩⟩
def VR.aM{j:aI}{v:ON}(h:aM v=true):VR j v v:=by
 unfold Ab.aM at h
 split at h<;>first|constructor |(simp at h)
def LR.plain{j:aI}{l:PM ON}(h:l.all Ab.aM=true):LR j l l :=
 ⟨rfl,fun _ v hi=>⟨v,hi,VR.aM (MK.1 h v (M5 hi))⟩⟩
def VR.bu{j:aI}{v:ON}(h:bu v=true):VR j v v:=by
 unfold Ab.bu at h
 split at h
 exact .yl (LR.plain h)
 exact .tuple' (LR.plain h)
 exact .aM h
def ER(j:aI):PM (ON×ON)->PM MapEntry->Prop
 | [],[]=>True
 | e::es,f::fs=>VR j e.1 f.key/\VR j e.2 f.val/\ER j es fs
 | _,_=>False
def ER.mono{j j':aI}(hj:j.le j'):∀{es:PM (ON×ON)} {fs:PM MapEntry},ER j es fs->ER j' es fs
 | [],[],_=>trivial
 | _::_,_::_,h=>⟨h.1.mono hj,h.2.1.mono hj,ER.mono hj h.2.2⟩
 | [],_::_,h=>h.elim
 | _::_,[],h=>h.elim
def TR(n:Nat)(j:aI)(t:Tm)(tmps:PO ON):Prop:=tmps.size=n/\∀i,VR j (t.at i) (tmps.getD i undef)
def TR.mono{n:Nat}{j j':aI}(hj:j.le j'){t:Tm}{tmps:PO ON}(h:TR n j t tmps):TR n j' t tmps:=⟨h.1,fun i=>(h.2 i).mono hj⟩
def mn(sz:Nat)(c:PO ON):Prop:=c.size<=sz*9223372036854775807
def nm(k:Blk)(tag:Tag)(len:Nat)(c:PO ON)(fz:Nat×Nat):Prop :=
 match tag with
 | .ro=>k.more=none/\c.size=len
 | .own=>k.more=none/\c.size=len/\fz=(0,0)
 | .more sz=>k.more=some (sz,len,c.size)/\len<=c.size/\fz=(0,0)/\0<sz/\mn sz c
def nm.put{k:Blk}{tag:Tag}{len:Nat}{c c':PO ON}{fz:Nat×Nat}(h:nm k tag len c fz)(hs:c'.size=c.size)(hr:∀i,len<=i->c'[i]? = c[i]?):nm k tag len c' fz:=by
 cases tag with
 | ro=>exact⟨h.1,hs.trans h.2⟩
 | own=>exact⟨h.1,hs.trans h.2.1,h.2.2⟩
 | more sz=>exact⟨by rw[hs]; exact h.1,by rw[hs]; exact h.2.1,h.2.2.1,h.2.2.2.1,by unfold mn; rw[hs]; exact h.2.2.2.2⟩
def E7(es:PO MapEntry)(clock:Nat):Prop:=(∀x∈es.toList,x.born<clock)/\(es.toList.map (·.born)).Nodup
def Bp(c:Nat):E7 #[] c:=⟨fun x hx=>by simp at hx,by simp⟩
def DN{es:PO MapEntry}{clock:Nat}(h:E7 es clock)(k v:ON):E7 (es.push { key:=k,val:=v,born:=clock}) (clock+1):=by
 refine⟨fun x hx=>?_,?_⟩
 rw[Array.toList_push,NW,NH] at hx;rcases hx with hx|rfl
 exact Nat.lt_succ_of_lt (h.1 x hx)
 exact Nq _
 rw[Array.toList_push,List.map_append,List.map_singleton];refine List.nodup_append.2 ⟨h.2,by simp,fun a ha b hb=>?_⟩
 rw[NH] at hb;obtain⟨x,hx,rfl⟩:=Ov.1 ha;have:=h.1 x hx;rw[hb]; exact Nat.ne_of_lt this
def yK{es:PO MapEntry}{clock:Nat}(h:E7 es clock)(i:Nat)(f:MapEntry->MapEntry)(hf:∀e,(f e).born=e.born):E7 (es.modify i f) clock:=by
 have e:(es.modify i f).toList.map (·.born)=es.toList.map (·.born):=by
  rw[Array.toList_modify];refine List.ext_getElem? fun t=>?_;rw[MP,MP,List.getElem?_modify];cases es.toList[t]? with
  | none=>rfl
  | some a =>
   show some ((if i=t then f a else a).born)=some a.born
   split
   rw[hf]
   rfl
 refine⟨fun x hx=>?_,by rw[e]; exact h.2⟩
 have hm:x.born∈es.toList.map (·.born):=e▸Ov.2 ⟨x,hx,rfl⟩;obtain⟨y,hy,he⟩:=Ov.1 hm;rw[<-he]; exact h.1 y hy
def Bs{es:PO MapEntry}{clock:Nat}(h:E7 es clock)(i:Nat):E7 (es.eraseIdxIfInBounds i) clock:=by
 have hs:(es.eraseIdxIfInBounds i).toList.Sublist es.toList:=by
  rw[Array.toList_eraseIdxIfInBounds]; exact List.eraseIdx_sublist _ _
 exact⟨fun x hx=>h.1 x (hs.subset hx),(hs.map _).nodup h.2⟩
def OR(j:aI)(k:Blk):PL->Obj->Prop
 | .cells cs tag,.cells c _ fz=>nm k tag cs.length c fz/\∀(i:Nat) (v:ON),cs[i]? = some v->∃v',c[i]? = some v'/\VR j v v'
 | .map es,.map entries clock=>ER j es entries.toList/\E7 entries clock
 | .loop r,.loop r'=>r.state=r'.state/\r.pending=r'.pending/\r.params=r'.params/\r.assign=r'.assign/\r.body=r'.body/\TR r.n j r.tmps r'.tmps
 | _,_=>False
def OR.mono{j j':aI}(hj:j.le j'){k:Blk}{o:PL}{o':Obj}(h:OR j k o o'):OR j' k o o':=by
 cases o with
 | cells cs tag =>
  cases o' with
  | cells c e fz=>exact⟨h.1,fun i v hi=>let⟨v',a,b⟩:=h.2 i v hi;⟨v',a,b.mono hj⟩⟩
  | _=>exact h.elim
 | map es =>
  cases o' with
  | map c e=>exact⟨ER.mono hj h.1,h.2⟩
  | _=>exact h.elim
 | loop r =>
  cases o' with
  | loop c=>exact⟨h.1,h.2.1,h.2.2.1,h.2.2.2.1,h.2.2.2.2.1,h.2.2.2.2.2.mono hj⟩
  | _=>exact h.elim
structure MR(E:Env)(j:aI)(m:PJ)(w:OS):Prop where
 lt:∀b k,j b=some k->b<m.next/\k.c<w.heap.size
 obj:∀b o k,m.get b=some o->j b=some k->∃o',w.heap[k.c]? = some o'/\OR j k o o'
 inj:∀b b' k k',j b=some k->j b'=some k'->(m.get b).isSome=true->(m.get b').isSome=true->k.c=k'.c->b=b'
 glob:∀g,g<E.glob->j g=some ⟨g,none⟩
structure AExt(m m':PJ):Prop where
 next:m.next<=m'.next
 wl:m'.wl<=m.wl
 same:∀b,b<m.next->b<m'.wl->m'.get b=m.get b
 dead:∀b,b<m.next->m.get b=none->m'.get b=none
def AExt.refl(m:PJ):AExt m m:=⟨MA _,MA _,fun _ _ _=>rfl,fun _ _ h=>h⟩
def AExt.trans{a b c:PJ}(h:AExt a b)(h':AExt b c):AExt a c :=
 ⟨MU h.next h'.next,MU h'.wl h.wl,
  fun x hx hw=>(h'.same x (MC hx h.next) hw).trans (h.same x hx (MC hw h'.wl)),
  fun x hx hn=>h'.dead x (MC hx h.next) (h.dead x hx hn)⟩
abbrev Calm(w w':OS):Prop:=w'.os=w.os/\w'.output=w.output/\w'.tape=w.tape/\w.drawn<=w'.drawn
abbrev ib(E:Env)(w w':OS):Prop:=w'.os=w.os/\w'.output=w.output/\w'.tape=w.tape/\(E.mono->w.drawn<=w'.drawn)
def Calm.e{E:Env}{w w':OS}(h:Calm w w'):ib E w w':=⟨h.1,h.2.1,h.2.2.1,fun _=>h.2.2.2⟩
def ib.refl{E:Env}(w:OS):ib E w w:=⟨rfl,rfl,rfl,fun _=>MA _⟩
def ib.trans{E:Env}{a b c:OS}(h:ib E a b)(g:ib E b c):ib E a c:=⟨g.1.trans h.1,g.2.1.trans h.2.1,g.2.2.1.trans h.2.2.1,fun e=>MU (h.2.2.2 e) (g.2.2.2 e)⟩
structure Sim(E:Env)(j:aI)(m:PJ)(w:OS)(j':aI)(m':PJ)(w':OS):Prop where
 ext:AExt m m'
 le:j.le j'
 new:∀b k,j' b=some k->j b=none->m.next<=b
 mr:MR E j' m' w'
 size:w.heap.size<=w'.heap.size
 full:∀b,m.next<=b->b<m'.next->(m'.get b).isSome=true->∃k,j' b=some k
 away:∀b,b<m.next->j b=none->m'.get b=m.get b
 fresh:∀b k,j' b=some k->j b=none->w.heap.size<=k.c\/∃b0 k0,j b0=some k0/\(m.get b0).isSome=true/\k0.c=k.c/\m'.wl<=b0
 frame:∀c,c<w.heap.size->(∀b k,j b=some k->(m.get b).isSome=true->k.c=c->b<m'.wl)->w'.heap[c]? = w.heap[c]?
 calm:ib E w w'
def Sim.refl{E:Env}{j:aI}{m:PJ}{w:OS}(h:MR E j m w):Sim E j m w j m w where
 ext:=.refl m
 le:=.refl j
 new:=fun b k h h'=>by simp[h'] at h
 mr:=h
 size:=MA _
 full:=fun b h h' _=>MX h (by omega)
 away:=fun _ _ _=>rfl
 fresh:=fun b k h h'=>by simp[h'] at h
 frame:=fun _ _ _=>rfl
 calm:=.refl w
def Sim.trans{E:Env}{j j1 j2:aI}{m m1 m2:PJ}{w w1 w2:OS}(h0:MR E j m w)(h:Sim E j m w j1 m1 w1)(h':Sim E j1 m1 w1 j2 m2 w2):Sim E j m w j2 m2 w2 where
 ext:=h.ext.trans h'.ext
 le:=h.le.trans h'.le
 mr:=h'.mr
 calm:=ib.trans h.calm h'.calm
 size:=MU h.size h'.size
 full:=by
  intro b hb hb' hl;rcases M7 b m1.next with hlt|hge
  ·have hl1:(m1.get b).isSome=true:=by
    cases hm:m1.get b with
    | some o=>rfl
    | none=>rw[h'.ext.dead b hlt hm] at hl; cases hl
   obtain⟨k,hk⟩:=h.full b hb hlt hl1;exact⟨k,h'.le b k hk⟩
  exact h'.full b hge hb' hl
 new:=by
  intro b k hk hn;cases h1:j1 b with
  | none=>exact MU h.ext.next (h'.new b k hk h1)
  | some k1=>exact h.new b k1 h1 hn
 away:=by
  intro b hb hn;have h1:j1 b=none:=by
   cases h1:j1 b with
   | none=>rfl
   | some k1=>exact MX (h.new b k1 h1 hn) (by omega)
  exact(h'.away b (MC hb h.ext.next) h1).trans (h.away b hb hn)
 fresh:=by
  intro b k hk hn;cases h1:j1 b with
  | some k1 =>
   have:=h'.le b k1 h1;rw[hk] at this; cases this;rcases h.fresh b k h1 hn with hf|⟨b0,k0,a1,a2,a3,a4⟩
   exact .inl hf
   exact .inr ⟨b0,k0,a1,a2,a3,MU h'.ext.wl a4⟩
  | none =>
   rcases h'.fresh b k hk h1 with hf|⟨b0,k0,a1,a2,a3,a4⟩
   exact .inl (MU h.size hf)
   ·cases hj0:j b0 with
    | some k0' =>
     have e:=h.le b0 k0' hj0;rw[a1] at e; cases e;refine .inr ⟨b0,k0,hj0,?_,a3,a4⟩;cases hm:m.get b0 with
     | some o=>rfl
     | none=>rw[h.ext.dead b0 (h0.lt b0 k0 hj0).1 hm] at a2; cases a2
    | none =>
     rcases h.fresh b0 k0 a1 hj0 with hf|⟨b1,k1,c1,c2,c3,c4⟩
     exact .inl (a3▸hf)
     exact .inr ⟨b1,k1,c1,c2,c3.trans a3,MU h'.ext.wl c4⟩
 frame:=by
  intro c hc H;have s1:w1.heap[c]? = w.heap[c]?:=h.frame c hc fun b k hb hl he=>MC (H b k hb hl he) h'.ext.wl;refine(h'.frame c (MC hc h.size) ?_).trans s1;intro b k hb hl he;cases hj:j b with
  | some k' =>
   have e:=h.le b k' hj;rw[hb] at e; cases e;refine H b k hj ?_ he;cases hm:m.get b with
   | some o=>rfl
   | none=>rw[h.ext.dead b (h0.lt b k hj).1 hm] at hl; cases hl
  | none =>
   rcases h.fresh b k hb hj with hf|⟨b1,k1,c1,c2,c3,c4⟩
   omega
   have:=H b1 k1 c1 c2 (c3.trans he);have:=h'.ext.wl;omega
def aI.set(j:aI)(b:Nat)(k:Blk):aI:=fun x=>if x=b then some k else j x
def aI.cj(j:aI)(b:Nat)(k:Blk):j.set b k b=some k:=by simp[aI.set]
def aI.bQ(j:aI){b x:Nat}(k:Blk)(h:x≠b):j.set b k x=j x:=by simp[aI.set,h]
def aI.mq{j:aI}{b:Nat}(k:Blk)(h:j b=none):j.le (j.set b k):=fun x k' hx=>by
 by_cases e:x=b
 subst e; rw[h] at hx; cases hx
 rw[aI.bQ _ _ e]; exact hx
def PJ.bg(m:PJ)(o:PL)(b:Nat):(m.alloc o).get b=if b=m.next then some o else m.get b:=by
 unfold PJ.alloc PJ.get;simp only[Heap.cb]
 by_cases h:b=m.next<;>simp[h]
def PJ.cb(m:PJ)(b x:Nat)(o:PL):(m.set b o).get x=if x=b then some o else m.get x:=by
 unfold PJ.set PJ.get;simp only[Heap.cb]
 by_cases h:x=b<;>simp[h]
def PJ.fC(m:PJ)(b x:Nat):(m.kill b).get x=if x=b then none else m.get x:=by
 unfold PJ.kill PJ.get;simp only[Heap.cb]
 by_cases h:x=b<;>simp[h]
@[simp] theorem PJ.next_alloc (m:PJ) (o:PL):(m.alloc o).next=m.next+1:=rfl
@[simp] theorem PJ.next_set (m:PJ) (b:Nat) (o:PL):(m.set b o).next=m.next:=rfl
@[simp] theorem PJ.next_kill (m:PJ) (b:Nat):(m.kill b).next=m.next:=rfl
@[simp] theorem PJ.wl_alloc (m:PJ) (o:PL):(m.alloc o).wl=m.wl:=rfl
@[simp] theorem PJ.wl_set (m:PJ) (b:Nat) (o:PL):(m.set b o).wl=min m.wl b:=rfl
@[simp] theorem PJ.wl_kill (m:PJ) (b:Nat):(m.kill b).wl=min m.wl b:=rfl
def AExt.alloc(m:PJ)(o:PL):AExt m (m.alloc o) :=
 ⟨Nat.le_succ _,MA _,fun b h _=>by rw[PJ.bg,OV],fun b h hn=>by rw[PJ.bg,OV]; exact hn⟩
def AExt.set{m:PJ}{b:Nat}(o:PL)(hb:(m.get b).isSome=true):AExt m (m.set b o) :=
 ⟨MA _,Nat.min_le_left _ _,fun x _ h=>by
  rw[PJ.cb,ME]; intro e; subst e; simp at h; omega,
 fun x _ hn=>by
  rw[PJ.cb,ME]
  exact hn
  intro e; subst e; rw[hn] at hb; cases hb⟩
def AExt.kill(m:PJ)(b:Nat):AExt m (m.kill b) :=
 ⟨MA _,Nat.min_le_left _ _,fun x _ h=>by
  rw[PJ.fC,ME]; intro e; subst e; simp at h; omega,
 fun x _ hn=>by rw[PJ.fC]; split<;>first|rfl|exact hn⟩
def wb{j:aI}{n:Nat}{k:Blk}{m':PJ}:∀b,n<=b->b<n+1->(m'.get b).isSome=true->∃k',j.set n k b=some k':=fun b h1 h2 _=>by
 have:b=n:=by omega
 subst this;exact⟨k,aI.cj _ _ _⟩
section
variable{E:Env}{j:aI}{m:PJ}{w:OS}
def MR.lf(h:MR E j m w):j m.next=none:=by
 cases e:j m.next with
 | none=>rfl
 | some k=>exact MX (h.lt _ _ e).1 (Nat.lt_irrefl _)
def MR.of_heap{w':OS}(h:MR E j m w)(e:w'.heap=w.heap):MR E j m w' :=
 ⟨by rw[e]; exact h.lt,by rw[e]; exact h.obj,h.inj,h.glob⟩
def Sim.of_heap{w':OS}(h:MR E j m w)(e:w'.heap=w.heap)(e2:Calm w w':=by first|exact⟨rfl,rfl,rfl,MA _⟩|exact⟨rfl,rfl,rfl,Nat.le_succ _⟩):Sim E j m w j m w' :=
 { Sim.refl h with mr:=h.of_heap e,size:=by rw[e]; exact MA _,frame:=fun c _ _=>by rw[e],calm:=e2.e}
def MR.sC{x:Nat}(h:MR E j m w):MR E j { m with wl:=x} w:=⟨h.lt,h.obj,h.inj,h.glob⟩
def lj(h:MR E j m w){ao:PL}{co:Obj}{mo:PE (Nat×Nat×Nat)}(ho:OR j ⟨w.heap.size,mo⟩ ao co) :
  Sim E j m w (j.set m.next ⟨w.heap.size,mo⟩) (m.alloc ao) (w.alloc co):=by
 have hle:j.le (j.set m.next ⟨w.heap.size,mo⟩):=aI.mq _ h.lf
 have hlt:∀b k,j b=some k->b≠m.next:=fun b k e=>Nat.ne_of_lt (h.lt b k e).1
 refine⟨.alloc m ao,hle,?_,⟨?_,?_,?_,?_⟩,by simp,wb,?_,?_,?_,⟨rfl,rfl,rfl,fun _=>MA _⟩⟩
 intro b k hb hn
 by_cases e:b=m.next
 exact Nat.le_of_eq e.symm
 rw[aI.bQ _ _ e,hn] at hb; cases hb
 intro b k hb
 by_cases e:b=m.next
 subst e; rw[aI.cj] at hb; cases hb; simp
 rw[aI.bQ _ _ e] at hb;have:=h.lt b k hb;simp; omega
 intro b o k hg hb
 by_cases e:b=m.next
 subst e;rw[aI.cj] at hb; cases hb;rw[PJ.bg,MG rfl] at hg; cases hg;exact⟨co,World.alloc_heap_new w co,ho.mono hle⟩
 rw[aI.bQ _ _ e] at hb;rw[PJ.bg,ME e] at hg;obtain⟨o',h1,h2⟩:=h.obj b o k hg hb;refine⟨o',?_,h2.mono hle⟩;have hk:=(h.lt b k hb).2
 show(w.heap.push co)[k.c]? = some o'
 rw[Ot,OV]; exact h1
 intro b b' k k' hb hb' hl hl' hc
 by_cases e:b=m.next<;>by_cases e':b'=m.next
 rw[e,e']
 subst e;rw[aI.cj] at hb; cases hb;rw[aI.bQ _ _ e'] at hb';exact MX (h.lt b' k' hb').2 (by simp at hc; omega)
 subst e';rw[aI.cj] at hb'; cases hb';rw[aI.bQ _ _ e] at hb;exact MX (h.lt b k hb).2 (by simp at hc; omega)
 rw[aI.bQ _ _ e] at hb;rw[aI.bQ _ _ e'] at hb';rw[PJ.bg,ME e] at hl;rw[PJ.bg,ME e'] at hl';exact h.inj b b' k k' hb hb' hl hl' hc
 intro g hg; exact hle _ _ (h.glob g hg)
 intro b hb _; rw[PJ.bg,OV]
 intro b k hb hn
 by_cases e:b=m.next
 subst e; rw[aI.cj] at hb; cases hb; exact .inl (MA _)
 rw[aI.bQ _ _ e,hn] at hb; cases hb
 intro c hc _
 show(w.heap.push co)[c]? = w.heap[c]?
 rw[Ot,OV]
def jL(h:MR E j m w){b:Nat}{k:Blk}(hk:j b=some k)(hl:(m.get b).isSome=true){ao:PL}{co:Obj}(ho:OR j k ao co) :
  Sim E j m w j (m.set b ao) (w.putObj k.c co):=by
 refine⟨.set ao hl,.refl j,fun x k' e e'=>by simp[e'] at e,⟨?_,?_,?_,h.glob⟩,by simp,fun b h1 h2 _=>MX h1 (by simp at h2; omega),?_,fun x k' e e'=>by simp[e'] at e,?_,⟨rfl,rfl,rfl,fun _=>MA _⟩⟩
 intro x k' e; simpa using h.lt x k' e
 intro x o k' hg e
 by_cases hx:x=b
 subst hx;rw[hk] at e; cases e;rw[PJ.cb,MG rfl] at hg; cases hg;exact⟨co,World.putObj_heap_same (h.lt x k hk).2,ho⟩
 rw[PJ.cb,ME hx] at hg;obtain⟨o',h1,h2⟩:=h.obj x o k' hg e;refine⟨o',?_,h2⟩;rw[World.putObj_heap_other]
 exact h1
 intro hc;exact hx (h.inj x b k' k e hk (by rw[hg]; rfl) hl hc)
 intro x x' k1 k2 e e' hl1 hl2 hc;refine h.inj x x' k1 k2 e e' ?_ ?_ hc
 rw[PJ.cb] at hl1; split at hl1
 rename_i hx; subst hx; exact hl
 exact hl1
 rw[PJ.cb] at hl2; split at hl2
 rename_i hx; subst hx; exact hl
 exact hl2
 intro x hx hn;rw[PJ.cb,ME]; intro e; subst e; rw[hk] at hn; cases hn
 intro c hc H;apply World.putObj_heap_other;intro e;have:=H b k hk hl e.symm;simp at this; omega
def Ex(h:MR E j m w){b:Nat}{k0:Blk}(hk0:j b=some k0):Sim E j m w j (m.kill b) w:=by
 refine⟨.kill m b,.refl j,fun x k' e e'=>by simp[e'] at e,⟨h.lt,?_,?_,h.glob⟩,MA _,fun b h1 h2 _=>MX h1 (by simp at h2; omega),?_,fun x k' e e'=>by simp[e'] at e,fun _ _ _=>rfl,⟨rfl,rfl,rfl,fun _=>MA _⟩⟩
 intro x o k hg e;rw[PJ.fC] at hg
 split at hg
 cases hg
 exact h.obj x o k hg e
 intro x x' k k' e e' hl hl' hc;rw[PJ.fC] at hl hl'
 split at hl
 cases hl
 split at hl'
 cases hl'
 exact h.inj x x' k k' e e' hl hl' hc
 intro x hx hn;rw[PJ.fC,ME];intro e; subst e; rw[hk0] at hn; cases hn
def yw(h:MR E j m w){b:Nat}{k:Blk}(hk:j b=some k)(hl:(m.get b).isSome=true){ao:PL}{co:Obj}{mo:PE (Nat×Nat×Nat)}(ho:OR j ⟨k.c,mo⟩ ao co) :
  Sim E j m w (j.set m.next ⟨k.c,mo⟩) ((m.kill b).alloc ao) (w.putObj k.c co):=by
 have hle:j.le (j.set m.next ⟨k.c,mo⟩):=aI.mq _ h.lf
 have hbn:b<m.next:=(h.lt b k hk).1
 have hkc:k.c<w.heap.size:=(h.lt b k hk).2;have hget:∀x,((m.kill b).alloc ao).get x=if x=m.next then some ao else if x=b then none else m.get x:=by
  intro x; rw[PJ.bg,PJ.fC]; rfl
 refine⟨(AExt.kill m b).trans (AExt.alloc _ ao),hle,?_,⟨?_,?_,?_,fun g hg=>hle _ _ (h.glob g hg)⟩,by simp,wb,?_,?_,?_,⟨rfl,rfl,rfl,fun _=>MA _⟩⟩
 intro x k' hx hn
 by_cases e:x=m.next
 exact Nat.le_of_eq e.symm
 rw[aI.bQ _ _ e,hn] at hx; cases hx
 intro x k' hx
 by_cases e:x=m.next
 subst e; rw[aI.cj] at hx; cases hx; simp; exact hkc
 rw[aI.bQ _ _ e] at hx;have:=h.lt x k' hx;simp; omega
 intro x o k' hg hx;rw[hget] at hg
 by_cases e:x=m.next
 subst e;rw[aI.cj] at hx; cases hx;rw[MG rfl] at hg; cases hg;exact⟨co,World.putObj_heap_same hkc,ho.mono hle⟩
 rw[aI.bQ _ _ e] at hx;rw[ME e] at hg
 split at hg
 cases hg
 rename_i hxb;obtain⟨o',h1,h2⟩:=h.obj x o k' hg hx;refine⟨o',?_,h2.mono hle⟩;rw[World.putObj_heap_other]
 exact h1
 intro hc;exact hxb (h.inj x b k' k hx hk (by rw[hg]; rfl) hl hc)
 intro x x' k1 k2 hx hx' hl1 hl2 hc;rw[hget] at hl1 hl2
 by_cases e:x=m.next<;>by_cases e':x'=m.next
 rw[e,e']
 subst e;rw[aI.cj] at hx; cases hx;rw[aI.bQ _ _ e'] at hx';rw[ME e'] at hl2
 split at hl2
 cases hl2
 rename_i hxb;exact MX (h.inj x' b k2 k hx' hk hl2 hl hc.symm) hxb
 subst e';rw[aI.cj] at hx'; cases hx';rw[aI.bQ _ _ e] at hx;rw[ME e] at hl1
 split at hl1
 cases hl1
 rename_i hxb;exact MX (h.inj x b k1 k hx hk hl1 hl hc) hxb
 rw[aI.bQ _ _ e] at hx;rw[aI.bQ _ _ e'] at hx';rw[ME e] at hl1;rw[ME e'] at hl2
 split at hl1
 cases hl1
 split at hl2
 cases hl2
 exact h.inj x x' k1 k2 hx hx' hl1 hl2 hc
 intro x hx hn;rw[hget,OV,ME]
 intro e; subst e; rw[hk] at hn; cases hn
 intro x k' hx hn
 by_cases e:x=m.next
 subst e; rw[aI.cj] at hx; cases hx;exact .inr ⟨b,k,hk,hl,rfl,by simp; omega⟩
 rw[aI.bQ _ _ e,hn] at hx; cases hx
 intro c hc H;apply World.putObj_heap_other;intro e;have:=H b k hk hl e.symm;simp at this; omega
def MR.pB(h:MR E j m w){b:Nat}{k:Blk}(hk:j b=some k){cs:PM ON}{tag:Tag}(hg:m.get b=some (.cells cs tag)) :
  ∃c e fz,w.heap[k.c]? = some (.cells c e fz)/\nm k tag cs.length c fz/\∀(i:Nat) (v:ON),cs[i]? = some v->∃v',c[i]? = some v'/\VR j v v':=by
 obtain⟨o',h1,h2⟩:=h.obj b _ k hg hk;cases o' with
 | cells c e fz=>exact⟨c,e,fz,h1,h2.1,h2.2⟩
 | _=>exact h2.elim
def MR.cell(h:MR E j m w){b:Nat}{k:Blk}(hk:j b=some k){cs:PM ON}{tag:Tag}(hg:m.get b=some (.cells cs tag)){o:Nat}{v:ON}(hv:cs[o]? = some v) :
  ∃v',w.cell? ⟨k.c,o,none⟩=some v'/\VR j v v':=by
 obtain⟨c,e,fz,h1,_,h3⟩:=h.pB hk hg;obtain⟨v',h4,h5⟩:=h3 o v hv;exact⟨v',by simp[World.cell?,h1,h4],h5⟩
def kC(c o i:Nat):(⟨c,o,none⟩:Addr).add i=⟨c,o+i,none⟩:=by
 unfold Addr.add
 split
 rename_i e; subst e; rfl
 rfl
def qV{b o n:Nat}{vs:PM ON}(hm:m.dB b o n=some vs):∃cs tag,m.get b=some (.cells cs tag)/\vs=(cs.drop o).take n/\vs.length=n:=by
 unfold PJ.dB at hm
 split at hm
 rename_i cs tag hg;simp only at hm
 split at hm
 rename_i hl;cases hm;exact⟨cs,tag,hg,rfl,hl⟩
 cases hm
 cases hm
def MR.dB(h:MR E j m w){b:Nat}{k:Blk}(hk:j b=some k){o n:Nat}{vs:PM ON}(hm:m.dB b o n=some vs) :
  ∃vs',(∀w0:OS,w0.heap=w.heap->(loadCells ⟨k.c,o,none⟩ n).run E.P w0=.ok vs'.toArray w0)/\LR j vs vs':=by
 obtain⟨cs,tag,hg,rfl,hl⟩:=qV hm;obtain⟨c,e,fz,h1,_,h3⟩:=h.pB hk hg;have hcell:∀i,i<n->∃v v',cs[o+i]? = some v/\c[o+i]? = some v'/\VR j v v':=by
  intro i hi;have:o+i<cs.length:=by simp at hl; omega
  obtain⟨v',a,b⟩:=h3 (o+i) _ (MF this);exact⟨_,v',MF this,a,b⟩
 refine⟨(List.range n).map fun i=>c.getD (o+i) undef,fun w0 hw0=>run_loadCells w0 _ n _ ?_,?_⟩
 intro i hi;obtain⟨v,v',_,a,_⟩:=hcell i hi;rw[kC];simp[World.cell?,hw0,h1,a]
 refine⟨by simp; simpa using hl,fun i v hi=>?_⟩
 rw[Oj] at hi
 split at hi
 rename_i hlt;rw[NO] at hi;obtain⟨v1,v',a,b,r⟩:=hcell i hlt;rw[hi] at a; cases a;refine⟨v',?_,r⟩;simp[hlt,b]
 cases hi
def fh(cs:PM ON)(o:Nat):aH cs o []=cs:=by
 induction cs generalizing o with
 | nil=>cases o<;>rfl
 | cons c cs ih=>cases o<;>simp[aH,ih]
def cw:∀(cs:PM ON) (o:Nat) (vs:PM ON),(aH cs o vs).length=cs.length
 | [],0,[]=>rfl
 | [],0,_::_=>rfl
 | [],_+1,_=>rfl
 | _::_,0,[]=>rfl
 | _::cs,0,_::vs=>by simp[aH,cw cs 0 vs]
 | _::cs,o+1,vs=>by simp[aH,cw cs o vs]
def ct:∀(cs:PM ON) (o:Nat) (vs:PM ON) (i:Nat),(aH cs o vs)[i]? = if o<=i/\i<o+vs.length/\i<cs.length then vs[i-o]? else cs[i]?
 | [],0,[],i=>by simp[aH]
 | [],0,_::_,i=>by simp[aH]
 | [],_+1,_,i=>by simp[aH]
 | c::cs,0,[],i=>by simp[aH]
 | c::cs,0,v::vs,0=>by simp[aH]
 | c::cs,0,v::vs,i+1=>by
  have:=ct cs 0 vs i;simp only[aH,Nl,this,Ni,NV,true_and,Nu,Nat.sub_zero,Nat.add_lt_add_iff_right]
 | c::cs,o+1,vs,0=>by simp[aH]
 | c::cs,o+1,vs,i+1=>by
  have:=ct cs o vs i;simp only[aH,Nl,this,Ni,Nat.add_le_add_iff_right,Nat.add_lt_add_iff_right,Nat.add_sub_add_right,Nat.add_right_comm o 1 vs.length]
def fX:∀(cs:PM ON) (o:Nat) (v:ON) (vs:PM ON),o<cs.length->aH cs o (v::vs)=aH (cs.set o v) (o+1) vs
 | [],_,_,_,h=>by simp at h
 | c::cs,0,v,vs,_=>by simp[aH]
 | c::cs,o+1,v,vs,h=>by simp[aH,fX cs o v vs (by simpa using h)]
def qw{w:OS}{B o:Nat}{c:PO ON}{e:OO}{fz:Nat×Nat}(h:w.heap[B]? = some (.cells c e fz))(v:ON) :
  w.setCell ⟨B,o,none⟩ v=w.putObj B (.cells (c.setIfInBounds o v) e fz):=by
 unfold World.setCell World.putObj
 congr 1
 apply Array.ext_getElem?;intro i;rw[Array.getElem?_modify,Array.getElem?_setIfInBounds]
 by_cases hi:B=i
 subst hi;obtain⟨hlt,hv⟩:=MI.1 h;simp[hlt,hv]
 simp[hi]
def rQ{w:OS}{B:Nat}{o o':Obj}:(w.putObj B o).putObj B o'=w.putObj B o':=by
 unfold World.putObj;simp
def oU{w:OS}{B:Nat}{o:Obj}(h:w.heap[B]? = some o):w.putObj B o=w:=by
 unfold World.putObj
 congr 1
 apply Array.ext_getElem?;intro i;rw[Array.getElem?_setIfInBounds]
 split
 rename_i hi; subst hi;obtain⟨hlt,hv⟩:=MI.1 h;simp[hlt,hv]
 rfl
def fK{P:OQ}{B:Nat}{e:OO}:∀(vs:PM ON) (w:OS) (c:PO ON) (off i:Nat),w.heap[B]? = some (.cells c e (0,0))->off+i+vs.length<=c.size ->
  bh vs=true->(storeCells ⟨B,off,none⟩ vs i).run P w=.ok () (w.putObj B (.cells (aH c.toList (off+i) vs).toArray e (0,0)))
 | [],w,c,off,i,h,_,_=>by
  simp only[storeCells,PS,fh];rw[show c.toList.toArray=c from rfl,oU h]
 | v::vs,w,c,off,i,h,hlen,hone=>by
  have hlen':off+i+(vs.length+1)<=c.size:=by simpa using hlen
  have hone':lD v=true/\bh vs=true:=by simpa [bh] using hone
  have hv:v.oneCell'=true:=by
   have:=hone'.1; cases v<;>first|rfl |(simp[lD] at this)
  have hcell:w.cell? ⟨B,off+i,none⟩=some c[off+i]:=by
   simp[World.cell?,h]
  have hfz:w.frozen? ⟨B,off+i,none⟩=false:=by simp[World.frozen?,h]
  have hh:(w.putObj B (.cells (c.setIfInBounds (off+i) v) e (0,0))).heap[B]? = some (.cells (c.setIfInBounds (off+i) v) e (0,0)) :=
   World.putObj_heap_same (MI.1 h).1
  have ih:=fK (P:=P) vs _ (c.setIfInBounds (off+i) v) off (i+1) hh (by simp; omega) hone'.2
  simp only[storeCells,PR,kC];rw[run_store _ _ _ _ _ hv];simp only[hcell,hfz,PQ,MJ,if_false,qw h,ih,rQ]
  congr 4
  rw[fX _ _ _ _ (by simp; omega)]
  simp[OB]
def zA{j:aI}{v v':ON}(h:VR j v v')(ho:lD v=true):lD v'=true:=by
 cases h<;>first|rfl|exact sH ‹_› |(simp[lD] at ho)
def mj{j:aI}{vs vs':PM ON}(h:LR j vs vs')(ho:bh vs=true):bh vs'=true:=by
 induction vs generalizing vs' with
 | nil=>rw[h.dc]; rfl
 | cons v vs ih =>
  obtain⟨y,ys,rfl,h1,h2⟩:=h.cons_inv;simp only[bh,NF,My] at ho ⊢;exact⟨zA h1 ho.1,ih h2 ho.2⟩
def wm{b o:Nat}{vs:PM ON}{m':PJ}(hm:m.dn b o vs=some m') :
  (vs=[]/\m'=m)\/∃cs tag,m.get b=some (.cells cs tag)/\tag≠.ro/\o+vs.length<=cs.length/\m'=m.set b (.cells (aH cs o vs) tag):=by
 unfold PJ.dn at hm
 split at hm
 cases hm; exact .inl ⟨rfl,rfl⟩
 split at hm
 cases hm
 rename_i cs tag hro hg
 split at hm
 rename_i hl;cases hm;exact .inr ⟨cs,tag,hg,fun e=>hro e,hl,rfl⟩
 cases hm
 cases hm
def hZ(h:MR E j m w){b:Nat}{k:Blk}(hk:j b=some k){o:Nat}{vs vs':PM ON}(hv:LR j vs vs')(ho:bh vs=true){m':PJ}(hm:m.dn b o vs=some m') :
  ∃w',(storeCells ⟨k.c,o,none⟩ vs').run E.P w=.ok () w'/\Sim E j m w j m' w':=by
 rcases wm hm with⟨rfl,rfl⟩|⟨cs,tag,hg,hro,hl,rfl⟩
 rw[hv.dc];exact⟨w,rfl,.refl h⟩
 ·obtain⟨c,e,fz,h1,h2,h3⟩:=h.pB hk hg;have hfz:fz=(0,0)/\cs.length<=c.size:=by
   cases tag with
   | ro=>exact MX rfl hro
   | own=>exact⟨h2.2.2,by rw[h2.2.1]; exact MA _⟩
   | more sz=>exact⟨h2.2.2.1,h2.2.1⟩
  obtain⟨rfl,hsz⟩:=hfz;refine⟨_,fK vs' w c o 0 h1 (by rw[<-hv.1]; simp; omega) (mj hv ho),jL h hk (by rw[hg]; rfl) ⟨?_,?_⟩⟩
  rw[cw];have:(aH c.toList (o+0) vs').toArray.size=c.size:=by simp[cw]
  exact h2.put this fun i hi=>by
   rw[MQ,ct,ME (by rw[<-hv.1]; omega)]; simp
  intro i v hi;rw[ct] at hi;have:(aH c.toList (o+0) vs').toArray[i]? = if o<=i/\i<o+vs'.length/\i<c.size then vs'[i-o]? else c[i]?:=by
   rw[MQ,ct]; simp
  rw[this]
  by_cases hc:o<=i/\i<o+vs.length/\i<cs.length
  rw[MG hc] at hi;rw[MG ⟨hc.1,hv.1▸hc.2.1,by omega⟩]
  exact hv.2 _ v hi
  rw[ME hc] at hi;have hi':=(ML.1 hi).1;rw[ME (by rw[<-hv.1]; omega)]
  exact h3 i v hi
end
section
variable{P:OQ}{w:OS}
def rA{t:OO}{i:TypeInfo}(h:P.info? t=some i)(w:OS):(typeInfo t).run P w=.ok i w:=by simp[typeInfo,h]
def cr{t:OO}(h:known P t=true)(w:OS):(sizeOf t).run P w=.ok (ax P t) w:=by
 simp only[known,My,Option.isSome_iff_exists] at h;obtain⟨_,i,hi⟩:=h;simp[sizeOf,rA hi,ax,Program.cellsOf,hi]
def nq{t:OO}(h:known P t=true)(w:OS):(isAgg t).run P w=.ok (dK P t) w:=by
 simp only[known,My,Option.isSome_iff_exists] at h;obtain⟨⟨d,hd⟩,_⟩:=h;simp only[isAgg,PR,PT hd,PQ,dK,hd];cases d<;>rfl
def gY{t:OO}{z:ON}(h:bU P t=some z)(w:OS):(zeroValue t).run P w=.ok z w:=by
 unfold bU at h;cases hi:P.info? t with
 | none=>rw[hi] at h; cases h
 | some i =>
  rw[hi] at h;have hz:i.zero=some z:=h;simp[zeroValue,rA hi,hz]
def tS{t:OO}{z:ON}(h:bU P t=some z):∃i,P.info? t=some i/\i.zero=some z:=by
 unfold bU at h;cases hi:P.info? t with
 | none=>rw[hi] at h; cases h
 | some i=>rw[hi] at h; exact⟨i,rfl,h⟩
def LR.extract{j:aI}{xs ys:PO ON}(h:LR j xs.toList ys.toList)(a b:Nat):LR j (xs.extract a b).toList (ys.extract a b).toList:=by
 simp only[Array.toList_extract];exact(h.drop a).take (b-a)
def mK{j:aI}{t:OO}{cs cs':PO ON}{off:Nat}{v:ON}(h:eE P t cs off=some v)(hc:LR j cs.toList cs'.toList) :
  ∃v',(∀w,(part t cs' off).run P w=.ok v' w)/\VR j v v':=by
 unfold eE at h
 split at h
 cases h
 rename_i hk;have hk':known P t=true:=by simpa using hk
 split at h
 rename_i ha;cases h;refine⟨.agg (cs'.extract off (off+ax P t)),fun w=>?_,.yl (hc.extract _ _)⟩;simp[part,nq hk',ha,cr hk']
 rename_i ha;have:cs.toList[off]? = some v:=by simpa using h
 obtain⟨v',h1,h2⟩:=hc.get this;refine⟨v',fun w=>?_,h2⟩;have h1':cs'[off]? = some v':=by simpa using h1
 have ha':dK P t=false:=by simpa using ha
 simp[part,nq hk',ha',h1']
def gy(d:Nat)(xs ys:PO ON):PM (OO×Nat)->Sem Bool
 | []=>pure true
 |(t,off)::rest=>do
  let a <-part t xs off
  let b <-part t ys off
  let r <-Op.equalIn d t a b
  if(!r)=true then pure false else gy d xs ys rest
def gZ (d : Nat) (xs ys : PO ON) : ∀ (fs : PM Field) (w : OS), fs.any (·.name == "_") = false ->
  (Op.eqFields d xs ys fs).run P w=(gy d xs ys (fs.map fun f=>(f.type,f.offset))).run P w
 | [],_,_=>rfl
 | f::fs,w,h=>by
  simp only[List.any_cons,Bool.or_eq_false_iff] at h;have hn : f.name ≠ "_" := by simpa using h.1
  simp only[Op.eqFields,MG hn,OF,gy,PR,Sem.run_ite]
  congr 1; funext a w1; congr 1; funext b w2; congr 1; funext r w3
  split
  rfl
  exact gZ d xs ys fs w3 h.2
def run_equalIn_array(d:Nat)(t:OO)(len:Nat)(elem:OO)(xs ys:PO ON)(ht:P.underlying t=some (.array len elem))(he:known P elem=true)(w:OS) :
  (Op.equalIn (d+1) t (.agg xs) (.agg ys)).run P w=(gy d xs ys ((List.range len).map fun i=>(elem,i*ax P elem))).run P w:=by
 simp only[Op.equalIn,PR,PT ht,PQ,cr he];rw[Std.Legacy.Range.forIn_eq_forIn_range'];simp only[Std.Legacy.Range.size,Nat.sub_zero,Nat.add_sub_cancel,Nat.div_one];rw[<-List.range_eq_range'];generalize List.range len=is
 induction is generalizing w with
 | nil=>simp[gy]
 | cons i is ih =>
  simp only[List.forIn_cons,OF,gy,PR,Sem.run_ite];generalize(part elem xs (i*ax P elem)).run P w=r1;cases r1 with
  | ok a w1 =>
   simp only[PQ];generalize(part elem ys (i*ax P elem)).run P w1=r2;cases r2 with
   | ok b w2 =>
    simp only[PQ];generalize(Op.equalIn d elem a b).run P w2=r3;cases r3 with
    | ok r w3 =>
     cases r
     simp only[PQ,NG,if_true,PS]
     simp only[PQ,MO,MJ,if_false,PS];exact ih w3
    | halt x w3=>simp[Result.andThen]
   | halt x w2=>simp[Result.andThen]
  | halt x w1=>simp[Result.andThen]
def kg{j:aI}{d:Nat}(ih:∀{t:OO} {x y x' y':ON} {b:Bool},jn P d t x y=some b->VR j x x'->VR j y y'->∀w,(Op.equalIn d t x' y').run P w=.ok b w)
  {xs ys xs' ys':PO ON} (hx:LR j xs.toList xs'.toList) (hy:LR j ys.toList ys'.toList) :
  ∀(l:PM (OO×Nat)) {b:Bool},gL (jn P d) P xs ys l=some b->∀w,(gy d xs' ys' l).run P w=.ok b w
 | [],b,h,w=>by cases h; rfl
 | (t,off)::rest,b,h,w=>by
  simp only[gL] at h
  split at h
  ·rename_i x y h1 h2;obtain⟨x',e1,r1⟩:=mK h1 hx;obtain⟨y',e2,r2⟩:=mK h2 hy;simp only[gy,PR,e1,e2,PQ]
   split at h
   rename_i he;rw[ih he r1 r2 w];simp only[PQ,MO,MJ,if_false];exact kg ih hx hy rest h w
   ·rename_i hne;cases b with
    | true=>exact MX h hne
    | false =>
     rw[ih h r1 r2 w];simp
  cases h
def jC{j:aI}:∀(d:Nat) {t:OO} {x y x' y':ON} {b:Bool},jn P d t x y=some b->VR j x x'->VR j y y'->∀w,(Op.equalIn d t x' y').run P w=.ok b w
 | 0,_,_,_,_,_,_,h,_,_,_=>by cases h
 | d+1,t,x,y,x',y',b,h,hx,hy,w=>by
  unfold jn at h
  split at h
  rename_i ht; cases h; cases hx; cases hy; simp only[Op.equalIn,PR,PT ht,PQ,PS]
  rename_i ht
  split at h
  rename_i hk; cases h; cases hx; cases hy; simp only[Op.equalIn,PR,PT ht,PQ,PS,MG hk]
  cases h
  rename_i ht; cases h; cases hx; cases hy; simp only[Op.equalIn,PR,PT ht,PQ,PS]
  rename_i ht; cases h; cases hx; cases hy<;>simp only[Op.equalIn,PR,PT ht,PQ,PS]<;>rfl
  rename_i ht; cases h; cases hx; cases hy; simp only[Op.equalIn,PR,PT ht,PQ,PS]
  rename_i ht; cases h; cases hx; cases hy<;>simp only[Op.equalIn,PR,PT ht,PQ,PS]<;>rfl
  rename_i ht; cases h; cases hy; cases hx<;>simp only[Op.equalIn,PR,PT ht,PQ,PS]
  rename_i ht; cases h; cases hx; cases hy<;>simp only[Op.equalIn,PR,PT ht,PQ,PS]<;>rfl
  rename_i ht; cases h; cases hy; cases hx<;>simp only[Op.equalIn,PR,PT ht,PQ,PS]
  rename_i ht; cases h; cases hx; cases hy; simp only[Op.equalIn,PR,PT ht,PQ,PS]
  rename_i ht; cases h; cases hx; cases hy<;>simp only[Op.equalIn,PR,PT ht,PQ,PS]
  rename_i ht; cases h; cases hy; cases hx<;>simp only[Op.equalIn,PR,PT ht,PQ,PS]
  ·rename_i fs xs ys ht
   split at h
   cases h
   ·rename_i hs;simp only[NJ,not_or,Bool.not_eq_true] at hs;cases hx with
    | agg h1 h2 =>
    cases hy with
    | agg h3 h4 =>
    have hf:P.fieldsOf t=fs:=by simp[Program.fieldsOf,ht]
    rw[run_equalIn_struct _ d t _ _ (by rw[hf]; exact ht) hs.1,hf,gZ _ _ _ _ _ (by simpa using hs.2)]
    exact kg (fun a b c w=>jC d a b c w) (LR.eK h1 h2) (LR.eK h3 h4) _ h w
  ·rename_i len elem xs ys ht
   split at h
   ·rename_i hk;cases hx with
    | agg h1 h2 =>
    cases hy with
    | agg h3 h4 =>
    rw[run_equalIn_array d t len elem _ _ ht hk];exact kg (fun a b c w=>jC d a b c w) (LR.eK h1 h2) (LR.eK h3 h4) _ h w
   cases h
  cases h
end
def lO(P:OQ)(s:Sem ON)(v:ON):Prop:=∀w,s.run P w=.ok v w
section
variable{P:OQ}{j:aI}
def dP(op:BinOp)(t:OO)(x y:OP){a b:ON}(h1:∀xs ys,a=.agg xs->b=.agg ys->False)(h2:a≠.nilIface)(w:OS) :
  (eqGuard op t x y a b).run P w=.ok () w:=by
 unfold eqGuard;cases op<;>simp only[NG,MO,if_true,MJ,if_false,PS]<;>
  (split
   exact MX rfl h2
   exact(h1 _ _ rfl rfl).elim
   rfl)
def k8:ON->Bool
 | .bool _|.pointer _|.slice _ _ _|.map _|.func _ _ _|.nilFunc=>true
 | _=>false
def binOp_eql{t:OO}{x y:ON}(h:k8 x=true):binOp .eql t x y=(do pure (.bool (<-Op.equal t x y))):=by
 cases x<;>first |(simp[k8] at h; done) |(cases y<;>rfl)
def binOp_neq{t:OO}{x y:ON}(h:k8 x=true):binOp .neq t x y=(do pure (.bool (!(<-Op.equal t x y)))):=by
 cases x<;>first |(simp[k8] at h; done) |(cases y<;>rfl)
def Gp {op:BinOp} {t:OO} {x y x' y' v:ON} (h:bz op t P x y=some v) (hx:VR j x x') (hy:VR j y y') (ox oy:OP) :
  ∃v',lO P (do eqGuard op t ox oy x' y'; binOp op t x' y') v'/\VR j v v':=by
 unfold bz at h
 split at h
 case h_1 =>
  cases hx; cases hy
  split at h
  cases h
  rename_i hb;cases h;refine⟨_,fun w=>?_,.int _ _⟩;rw[PR,dP _ _ _ _ (by intro _ _ e; cases e) (by intro e; cases e)]
  simp only[PQ,binOp,Op.shift,ME hb,PS]
 case h_2 =>
  cases hx; cases hy
  split at h
  cases h
  rename_i hb;cases h;refine⟨_,fun w=>?_,.int _ _⟩;rw[PR,dP _ _ _ _ (by intro _ _ e; cases e) (by intro e; cases e)]
  simp only[PQ,binOp,Op.shift,ME hb,PS]
 case h_12 =>
  cases hx; cases hy
  split at h
  rename_i hk
  split at h
  cases h
  rename_i hb;cases h;refine⟨_,fun w=>?_,.int _ _⟩;rw[PR,dP _ _ _ _ (by intro _ _ e; cases e) (by intro e; cases e)]
  simp only[PQ,binOp,hk,ne_eq,not_true_eq_false,if_false,Op.intDiv,ME hb,PS]
  cases h
 case h_13 =>
  cases hx; cases hy
  split at h
  rename_i hk
  split at h
  cases h
  rename_i hb;cases h;refine⟨_,fun w=>?_,.int _ _⟩;rw[PR,dP _ _ _ _ (by intro _ _ e; cases e) (by intro e; cases e)]
  simp only[PQ,binOp,hk,ne_eq,not_true_eq_false,if_false,Op.intDiv,ME hb,PS]
  cases h
 case h_18 =>
  cases h; cases hx; cases hy;refine⟨_,fun w=>?_,.bool _⟩;rw[PR,dP _ _ _ _ (by intro _ _ e; cases e) (by intro e; cases e)]
  simp only[PQ,binOp,Op.stringOp,PS,beq_toListBytes]
 case h_19 =>
  cases h; cases hx; cases hy;refine⟨_,fun w=>?_,.bool _⟩;rw[PR,dP _ _ _ _ (by intro _ _ e; cases e) (by intro e; cases e)]
  simp only[PQ,binOp,Op.stringOp,PS,bne,beq_toListBytes]
 case h_20=>cases h
 case h_21 =>
  cases hx with
  | agg h1 h2 =>
  cases hy with
  | agg h3 h4 =>
  split at h
  cases h
  ·rename_i hg;cases he:jn P Op.maxDepth t (.agg _) (.agg _) with
   | none=>rw[he] at h; cases h
   | some b =>
    rw[he] at h; cases h;refine⟨_,fun w=>?_,.bool _⟩;have:=jC (P:=P) Op.maxDepth he (.agg h1 h2) (.agg h3 h4) w;have hg':P.eqGuardType P.depth t=false:=by simpa using hg
    rw[PR,run_eqGuard_agg w _ _ _ _ _ _ hg'];simp only[PQ,binOp,Op.equal,PR,this,PS]
 case h_22 =>
  cases hx with
  | agg h1 h2 =>
  cases hy with
  | agg h3 h4 =>
  split at h
  cases h
  ·rename_i hg;cases he:jn P Op.maxDepth t (.agg _) (.agg _) with
   | none=>rw[he] at h; cases h
   | some b =>
    rw[he] at h; cases h;refine⟨_,fun w=>?_,.bool _⟩;have:=jC (P:=P) Op.maxDepth he (.agg h1 h2) (.agg h3 h4) w;have hg':P.eqGuardType P.depth t=false:=by simpa using hg
    rw[PR,run_eqGuard_agg w _ _ _ _ _ _ hg'];simp only[PQ,binOp,Op.equal,PR,this,PS]
 case h_23 =>
  have key:k8 x'=true/\∃b,jn P Op.maxDepth t x y=some b/\v=.bool b:=by
   split at h<;>first
    |(cases h; done)
    | (refine⟨?_,?_⟩
       cases hx<;>rfl
       ·cases he:jn P Op.maxDepth t _ y with
        | none=>rw[he] at h; cases h
        | some b=>rw[he] at h; cases h; exact⟨b,rfl,rfl⟩)
  obtain⟨hs,b,he,rfl⟩:=key;refine⟨_,fun w=>?_,.bool b⟩;rw[PR,dP _ _ _ _ (by intro _ _ e; subst e; cases hs) (by intro e; subst e; cases hs),PQ,binOp_eql hs]
  simp only[Op.equal,PR,jC _ he hx hy,PQ,PS]
 case h_24 =>
  have key:k8 x'=true/\∃b,jn P Op.maxDepth t x y=some b/\v=.bool (!b):=by
   split at h<;>first
    |(cases h; done)
    | (refine⟨?_,?_⟩
       cases hx<;>rfl
       ·cases he:jn P Op.maxDepth t _ y with
        | none=>rw[he] at h; cases h
        | some b=>rw[he] at h; cases h; exact⟨b,rfl,rfl⟩)
  obtain⟨hs,b,he,rfl⟩:=key;refine⟨_,fun w=>?_,.bool (!b)⟩;rw[PR,dP _ _ _ _ (by intro _ _ e; subst e; cases hs) (by intro e; subst e; cases hs),PQ,binOp_neq hs]
  simp only[Op.equal,PR,jC _ he hx hy,PQ,PS]
 case h_25=>cases h
 all_goals
  cases hx; cases hy
  split at h
  rename_i hk;cases h;refine⟨_,fun w=>?_,(by first|exact .bool _|exact .int _ _)⟩
  rw[PR,dP _ _ _ _ (by intro _ _ e; cases e) (by intro e; cases e)]
  simp only[PQ,binOp,hk,ne_eq,not_true_eq_false,if_false,Op.intArith,Op.intBits,Op.intCmp,PS]
  cases h
def Ji{op:UnOp}{x x' v:ON}(h:yr op x=some v)(hx:VR j x x'):∃v',lO P (Op.unary op x') v'/\VR j v v':=by
 unfold yr at h
 split at h
 cases h; cases hx; exact⟨_,fun w=>rfl,.int _ _⟩
 cases h; cases hx; exact⟨_,fun w=>rfl,.int _ _⟩
 cases h; cases hx; exact⟨_,fun w=>rfl,.bool _⟩
 cases h
def Es{s d:OO}{x x' v:ON}(h:fw P s d x=some v)(hx:VR j x x'):∃v',lO P (convert s d x') v'/\VR j v v':=by
 unfold fw at h
 split at h
 rename_i e1 e2;cases h; cases hx;refine⟨_,fun w=>?_,.int _ _⟩;simp only[convert,PR,PT e1,PT e2,PQ,Conv.intToInt,PS]
 rename_i e1 e2;cases h; cases hx;refine⟨_,fun w=>?_,.string _⟩;simp only[convert,PR,PT e1,PT e2,PQ]
 rfl
 cases h
end
section
variable{P:OQ}{j:aI}
def A4{v:ON}(h:lD v=true):v.cells.toList=[v]:=by
 cases v<;>first|rfl |(simp[lD] at h)
def gD{v v':ON}(h:VR j v v'):LR j v.cells.toList v'.cells.toList:=by
 cases h with
 | junk h=>rw[A4 (sH h)]; exact LR.cons (.junk h) (.nil j)
 | agg h1 h2=>exact LR.eK h1 h2
 | bool b=>exact LR.cons (.bool b) (.nil j)
 | int k n=>exact LR.cons (.int k n) (.nil j)
 | string s=>exact LR.cons (.string s) (.nil j)
 | pnil=>exact LR.cons .pnil (.nil j)
 | ptr h=>exact LR.cons (.ptr h) (.nil j)
 | snil l c=>exact LR.cons (.snil l c) (.nil j)
 | slice h hm=>exact LR.cons (.slice h hm) (.nil j)
 | sliceM h hm h1 h2 hl hc=>exact LR.cons (.sliceM h hm h1 h2 hl hc) (.nil j)
 | gA=>exact LR.cons .gA (.nil j)
 | dry=>exact LR.cons .dry (.nil j)
 | mnil=>exact LR.cons .mnil (.nil j)
 | map h=>exact LR.cons (.map h) (.nil j)
 | func h1 h2 h3 h4=>exact LR.cons (.func h1 h2 h3 h4) (.nil j)
 | yield h h1 h2=>exact LR.cons (.yield h h1 h2) (.nil j)
 | nilFunc=>exact LR.cons .nilFunc (.nil j)
 | nilIface=>exact LR.cons .nilIface (.nil j)
 | tuple h1 h2=>exact LR.cons (.tuple h1 h2) (.nil j)
def LR.JL{cs cs' vs vs':PM ON}(h:LR j cs cs')(hv:LR j vs vs')(o:Nat):LR j (aH cs o vs) (aH cs' o vs') :=
 ⟨by rw[cw,cw,h.1],fun i v hi=>by
  rw[ct] at hi ⊢;rw[<-hv.1,<-h.1]
  split at hi
  rename_i hc; rw[MG hc]; exact hv.2 _ v hi
  rename_i hc; rw[ME hc]; exact h.2 _ v hi⟩
def mR(off:Nat):∀(l:PM ON) (k:Nat) (cs:PO ON),off+k+l.length<=cs.size ->
  (l.zipIdx k).foldl (fun(cs:PO ON) (x:ON×Nat)=>cs.setIfInBounds (off+x.2) x.1) cs=(aH cs.toList (off+k) l).toArray
 | [],k,cs,_=>by simp[fh]
 | v::l,k,cs,h=>by
  have h':off+k+(l.length+1)<=cs.size:=by simpa using h
  simp only[List.zipIdx_cons,List.foldl_cons];rw[mR off l (k+1) _ (by simp; omega),fX _ _ _ _ (by simp; omega)]
  simp[OB]
def mN{place:Nat->PE (Nat×Nat)}:∀{ps:PM (Nat×ON)} {ps':PM (Nat×ON)} {cells cells' r:PM ON},ps.map (·.1)=ps'.map (·.1)->LR j (ps.map (·.2)) (ps'.map (·.2)) ->
  LR j cells cells'->gH place cells ps=some r->∃r',Instr.fill place cells'.toArray ps'=some r'.toArray/\LR j r r'
 | [],ps',cells,cells',r,h1,_,hc,h=>by
  cases ps' with
  | nil=>cases h; exact⟨cells',rfl,hc⟩
  | cons _ _=>simp at h1
 | (i,v)::rest,ps',cells,cells',r,h1,h2,hc,h=>by
  cases ps' with
  | nil=>simp at h1
  | cons p rest' =>
   obtain⟨i',v'⟩:=p;simp only[OF,List.cons.injEq] at h1;obtain⟨rfl,h1⟩:=h1;have hv:=h2.head;have hrest:=h2.tail;simp only[gH] at h
   split at h
   cases h
   rename_i off size hp
   split at h
   cases h
   rename_i hcond;have hcells:=gD hv;have hsz:v.cells.size=v'.cells.size:=by simpa using hcells.1
   have hlen:cells.length=cells'.length:=hc.1;have hcond':¬((v'.cells.size≠size||off+v'.cells.size>cells'.toArray.size)=true):=by
    rw[<-hsz]; simpa [<-hlen] using hcond
   simp only[Instr.fill,hp,ME hcond'];have hle:off+0+v'.cells.toList.length<=cells'.toArray.size:=by
    simp only[NJ,not_or,MW] at hcond';simp; have:=hcond'.2; simp at this; omega
   have hfold:=mR off v'.cells.toList 0 cells'.toArray hle;have hz:v'.cells.zipIdx.foldl (fun cs x=>cs.setIfInBounds (off+x.2) x.1) cells'.toArray=(aH cells' off v'.cells.toList).toArray:=by
    rw[<-Array.foldl_toList,Array.toList_zipIdx];exact hfold
   rw[show(v'.cells.zipIdx.foldl (fun cs (x:ON×Nat)=>match x with |(c,j)=>cs.setIfInBounds (off+j) c) cells'.toArray)=(aH cells' off v'.cells.toList).toArray from hz]
   exact mN h1 hrest (hc.JL hcells off) h
def sD:∀(l:PM Field) (w:OS),l.all (fun f=>known P f.type)=true ->
  (l.mapM fun(f:Field)=>(do pure (f.offset,<-sizeOf f.type):Sem (Nat×Nat))).run P w=.ok (l.map fun f=>(f.offset,ax P f.type)) w
 | [],w,_=>rfl
 | f::l,w,h=>by
  simp only[NF,My] at h;simp only[List.mapM_cons,PR,cr h.1,PQ,PS,sD l w h.2,OF]
def Dt(fields:PO Field)(h:fields.toList.all (fun f=>known P f.type)=true)(w:OS) :
  (fields.mapM fun(f:Field)=>(do pure (f.offset,<-sizeOf f.type):Sem (Nat×Nat))).run P w=.ok (fields.map fun f=>(f.offset,ax P f.type)) w:=by
 obtain⟨l⟩:=fields;simp only[List.mapM_toArray,Sem.run_map,List.map_toArray];rw[sD l w h]; rfl
def B5{t:OO}{ps ps':PM (Nat×ON)}{v:ON}(h:jB P t ps=some v)(h1:ps.map (·.1)=ps'.map (·.1))(h2:LR j (ps.map (·.2)) (ps'.map (·.2)))
  {z:ON} (hz:bU P t=some z) (hp:bu z=true):∃v',lO P (Instr.build t ps'.toArray) v'/\VR j v v':=by
 have hzc:LR j z.cells.toList z.cells.toList:=gD (VR.bu hp);unfold jB at h;rw[hz] at h
 split at h
 ·rename_i z0 fields hz0 hu;cases hz0
  split at h
  ·rename_i hall;cases hf:gH (fun i=>(fields[i]?).map fun f=>(f.offset,ax P f.type)) z.cells.toList ps with
   | none=>rw[hf] at h; cases h
   | some r =>
    rw[hf] at h; cases h;obtain⟨r',h3,h4⟩:=mN h1 h2 hzc hf;refine⟨.agg r'.toArray,fun w=>?_,.yl (by simpa using h4)⟩
    have hpl:(fun(i:Nat)=>(fields.map fun(f:Field)=>(f.offset,ax P f.type))[i]?)=fun i=>(fields[i]?).map fun(f:Field)=>(f.offset,ax P f.type):=by
     funext i; simp
    simp only[Instr.build,PR,gY hz,PT hu,PQ,Dt fields hall,hpl];have h3':Instr.fill _ z.cells ps'=some r'.toArray:=h3;rw[h3']; rfl
  cases h
 ·rename_i z0 n elem hz0 hu;cases hz0
  split at h
  ·rename_i hk;cases hf:gH (fun i=>some (i*ax P elem,ax P elem)) z.cells.toList ps with
   | none=>rw[hf] at h; cases h
   | some r =>
    rw[hf] at h; cases h;obtain⟨r',h3,h4⟩:=mN h1 h2 hzc hf;refine⟨.agg r'.toArray,fun w=>?_,.yl (by simpa using h4)⟩
    simp only[Instr.build,PR,gY hz,PT hu,PQ,cr hk];have h3':Instr.fill _ z.cells ps'=some r'.toArray:=h3;rw[h3']; rfl
  cases h
 cases h
def gQ{x x':ON}{y l:Nat}(h:jq x y=some l)(hx:VR j x x'){y':Nat}(hy:y<=y')(code:BoundsCode)(w:OS) :
  (Instr.sliceBound x' y' code).run P w=.ok l w/\l<=y:=by
 unfold jq at h
 split at h
 rename_i k i
 split at h
 rename_i hc;cases h;cases hx;refine⟨?_,by omega⟩
 simp only[Instr.sliceBound,asIntOf,PR,PS,PQ];rw[MG ⟨hc.1,by omega⟩]; rfl
 cases h
 cases h
def gx(mx:PE ON)(c m:Nat):Nat:=match mx with|none=>c|some _=>m
inductive OVR(j:aI):PE ON->PE ON->Prop
 | none:OVR j none none
 | some {v v':ON} (h:VR j v v'):OVR j (some v) (some v')
def gU{len cap:Nat}{lo hi mx:PE ON}{l h m:Nat}(e:ew len cap lo hi mx=some (l,h,m)):l<=h/\m<=cap/\(hi.isSome=true->h<=m)/\(hi=none->h=len/\mx=none)/\(mx=none->m=cap):=by
 have hb:∀(x:ON) (y l:Nat),jq x y=some l->l<=y:=by
  intro x y l h;unfold jq at h
  split at h
  split at h
  rename_i hc; cases h; omega
  cases h
  cases h
 unfold ew at e
 split at e
 cases e
 ·rename_i m' hm
  split at e
  cases e
  ·rename_i h' hh
   split at e
   cases e
   ·rename_i l' hl;cases e;have h1:m<=cap:=by
     cases mx with
     | none=>simp at hm; omega
     | some v=>exact hb _ _ _ hm
    have h2:hi.isSome=true->h<=m:=by
     cases hi with
     | none=>intro e; cases e
     | some v=>intro _; cases mx<;>exact hb _ _ _ hh
    have h3:hi=none->h=len/\mx=none:=by
     intro e; subst e;cases mx with
     | none=>simp at hh; exact⟨hh.symm,rfl⟩
     | some v=>simp at hh
    have h4:l<=h:=by
     cases lo with
     | none=>simp at hl; omega
     | some v=>exact hb _ _ _ hl
    have h5:mx=none->m=cap:=by intro e; subst e; simpa using hm.symm
    exact⟨h4,h1,h2,h3,h5⟩
def eh {len cap cap':Nat} {lo hi mx lo' hi' mx':PE ON} {l h m:Nat} (e:ew len cap lo hi mx=some (l,h,m)) (h1:OVR j lo lo') (h2:OVR j hi hi') (h3:OVR j mx mx') (hc:cap<=cap') (b:Bool) (w:OS) :
  (Instr.sliceBounds b len cap' lo' hi' mx').run P w=.ok (l,h,gx mx cap' m) w:=by
 unfold ew at e
 split at e
 cases e
 ·rename_i m' hm
  split at e
  cases e
  ·rename_i h' hh
   split at e
   cases e
   ·rename_i l' hl;cases e;cases h3 with
    | none =>
     have hm':cap=m:=by simpa using hm
     subst hm';cases h2 with
     | none =>
      have hh':len=h:=by simpa using hh
      subst hh';cases h1 with
      | none =>
       have:0=l:=by simpa using hl
       subst this;simp only[gx,Instr.sliceBounds,PR,PS,PQ]
      | some r1 =>
       have:=(gQ (P:=P) (by simpa using hl) r1 (MA _) .sliceB w).1
       simp only[gx,Instr.sliceBounds,PR,PS,PQ,Option.isSome_none,MJ,if_false,this]
     | some r2 =>
      have e2:=gQ (P:=P) (by simpa using hh) r2 hc (if b then .sliceAcap else .sliceAlen) w
      cases h1 with
      | none =>
       have:0=l:=by simpa using hl
       subst this;simp only[gx,Instr.sliceBounds,PR,PS,PQ,e2.1]
      | some r1 =>
       have:=(gQ (P:=P) (by simpa using hl) r1 (MA _) .sliceB w).1
       simp only[gx,Instr.sliceBounds,PR,PS,PQ,Option.isSome_none,MJ,if_false,e2.1,this]
    | some r3 =>
     have e3:=gQ (P:=P) (by simpa using hm) r3 hc (if b then .slice3Acap else .slice3Alen) w
     cases h2 with
     | none=>simp at hh
     | some r2 =>
      have e2:=(gQ (P:=P) (by simpa using hh) r2 (MA _) .slice3B w).1
      cases h1 with
      | none =>
       have:0=l:=by simpa using hl
       subst this;simp only[gx,Instr.sliceBounds,PR,PS,PQ,e2,e3.1]
      | some r1 =>
       have:=(gQ (P:=P) (by simpa using hl) r1 (MA _) .slice3C w).1
       simp only[gx,Instr.sliceBounds,PR,PS,PQ,Option.isSome_some,if_true,e2,e3.1,this]
def ep(c o i:Nat):(⟨c,o,none⟩:Addr).add i=⟨c,o+i,none⟩:=by
 unfold Addr.add
 split
 rename_i e; subst e; rfl
 rfl
def MR.kindOf{E:Env}{m:PJ}{w:OS}(h:MR E j m w){b:Nat}{k:Blk}(hk:j b=some k){cs:PM ON}{tag:Tag}(hg:m.get b=some (.cells cs tag)) :
  match tag with
  | .more sz=>∃nc,k.more=some (sz,cs.length,nc)/\0<sz
  | _=>k.more=none:=by
 obtain⟨o',h1,h2⟩:=h.obj b _ k hg hk;cases o' with
 | cells c e fz =>
  have:=h2.1;cases tag with
  | ro=>exact this.1
  | own=>exact this.1
  | more sz=>exact⟨_,this.1,this.2.2.2.1⟩
 | _=>exact h2.elim
def Br {E:Env} {m:PJ} {w:OS} (h:MR E j m w) {t:OO} {x x' v:ON} {lo hi mx lo' hi' mx':PE ON} (e:cB E.P t x lo hi mx m=some v) (hx:VR j x x') (h1:OVR j lo lo') (h2:OVR j hi hi') (h3:OVR j mx mx') :
  ∃v',lO E.P (Instr.sliceAt t x' lo' hi' mx') v'/\VR j v v':=by
 unfold cB at e
 split at e
 ·
  rename_i elem len cap hu
  split at e
  ·rename_i hk
   split at e
   ·rename_i l hh mm hb;cases e; cases hx;refine⟨_,fun w=>?_,.snil _ _⟩;have:=eh (P:=E.P) (cap':=cap) hb h1 h2 h3 (MA _) true w;have hm:gx mx cap mm=mm:=by
     cases mx with
     | none=>exact((gU hb).2.2.2.2 rfl).symm
     | some _=>rfl
    rw[hm] at this;simp only[Instr.sliceAt,Instr.slice,PR,PT hu,PQ,this,cr hk,PS]
    split<;>rfl
   cases e
  cases e
 ·rename_i elem b o len cap hu
  split at e
  ·rename_i hk
   split at e
   ·rename_i cs sz hg
    split at e
    cases e
    ·rename_i hsz;have hsz:sz=ax E.P elem:=Decidable.of_not_not hsz;cases hx with
     | slice hj hm =>
      have:=h.kindOf hj hg;simp only at this;obtain⟨nc,hmm,_⟩:=this;rw[hm] at hmm; cases hmm
     | sliceM hj hm e1 e2 hl hc =>
      rename_i cap' sz' na nc k;have hkd:=h.kindOf hj hg;simp only at hkd;obtain⟨nc',hmm,hpos⟩:=hkd;rw[hm] at hmm; cases hmm;cases h3 with
      | none =>
       simp only at e
       split at e
       ·rename_i l hh mm hb;have hbl:=gU hb;have hrun:=fun w=>eh (P:=E.P) (cap':=cap') hb h1 h2 .none hc true w;have hlc:l<=cap:=by
         cases hi with
         | none=>have:=hbl.2.2.2.1 rfl; omega
         | some _=>have:=hbl.2.2.1 rfl; omega
        split at e
        ·rename_i hcl;cases e;refine⟨_,fun w=>?_,.gA (a':=if cap'=l then⟨k.c,o,none⟩ else⟨k.c,o+l*ax E.P elem,none⟩) (cap':=cap'-l)⟩
         have hhl:hh-l=0:=by
          cases hi with
          | none=>have:=hbl.2.2.2.1 rfl; omega
          | some _=>have:=hbl.2.2.1 rfl; omega
         simp only[Instr.sliceAt,Instr.slice,PR,PT hu,PQ,hrun,cr hk,PS,hhl,gx]
         split
         rfl
         rw[MB,ep]
        ·rename_i hcl;cases e;refine⟨.slice (some ⟨k.c,o+l*ax E.P elem,none⟩) (hh-l) (cap'-l),fun w=>?_,.sliceM hj hm ?_ ?_ ?_ ?_⟩
         have:¬cap'=l:=by omega
         simp only[Instr.sliceAt,Instr.slice,PR,PT hu,PQ,hrun,cr hk,PS,ME this,MB,ep,gx]
         subst hsz; rw[<-e1,Nat.sub_mul]; have:l*ax E.P elem<=cap*ax E.P elem:=Nj _ hlc; omega
         subst hsz; rw[<-e2,Nat.sub_mul]; have:l*ax E.P elem<=cap'*ax E.P elem:=Nj _ (by omega); omega
         ·cases hi with
          | none=>have:=hbl.2.2.2.1 rfl; omega
          | some _=>have:=hbl.2.2.1 rfl; omega
         omega
       cases e
      | some r3 =>
       simp only at e
       split at e
       rename_i l hh mm hb
       split at e
       rename_i hcond;cases e;have hrun:=fun w=>eh (P:=E.P) (cap':=cap') hb h1 h2 (.some r3) hc true w;refine⟨_,fun w=>?_,.dry (a':=⟨k.c,o,none⟩)⟩;simp only[Instr.sliceAt,Instr.slice,PR,PT hu,PQ,hrun,cr hk,PS,hcond.2,hcond.1,Ou,gx];simp
       cases e;have hrun:=fun w=>eh (P:=E.P) (cap':=cap') hb h1 h2 (.some r3) hc true w;refine⟨.slice (some (if mm=l then⟨k.c,o,none⟩ else⟨k.c,o+l*ax E.P elem,none⟩)) (hh-l) (mm-l),fun w=>?_,.junk rfl⟩
       simp only[Instr.sliceAt,Instr.slice,PR,PT hu,PQ,hrun,cr hk,PS,gx]
       split
       rfl
       rw[MB,ep]
       cases e
   ·rename_i cs tag hnm hg
    split at e
    ·rename_i l hh mm hb;cases e;cases hx with
     | slice hj hm =>
      rename_i k;have hrun:=fun w=>eh (P:=E.P) (cap':=cap) hb h1 h2 h3 (MA _) true w;have hmm:gx mx cap mm=mm:=by
       cases mx with
       | none=>exact((gU hb).2.2.2.2 rfl).symm
       | some _=>rfl
      rw[hmm] at hrun;refine⟨.slice (some (if mm=l then⟨k.c,o,none⟩ else⟨k.c,o+l*ax E.P elem,none⟩)) (hh-l) (mm-l),fun w=>?_,?_⟩
      simp only[Instr.sliceAt,Instr.slice,PR,PT hu,PQ,hrun,cr hk,PS]
      split
      rename_i hc; simp only[MG hc]
      rename_i hc; simp only[MB,ep]
      split
      exact .slice hj hm
      exact .slice hj hm
     | sliceM hj hm e1 e2 hl hc =>
      have hkd:=h.kindOf hj hg;cases tag with
      | more sz=>exact MX rfl (hnm sz)
      | ro=>simp only at hkd; rw[hm] at hkd; cases hkd
      | own=>simp only at hkd; rw[hm] at hkd; cases hkd
    cases e
   cases e
  cases e
 ·
  rename_i elem b o sp hu
  split at e
  ·rename_i hk
   split at e
   ·rename_i r hb;obtain⟨l,hh,mm⟩:=r;cases e;have hbl:=gU hb;have hl0:l=0/\hh=0:=by
     cases hi with
     | none=>have:=hbl.2.2.2.1 rfl; omega
     | some _=>have:=hbl.2.2.1 rfl; omega
    cases hx with
    | gA =>
     rename_i a' cap';have hrun:=fun w=>eh (P:=E.P) (cap':=cap') hb h1 h2 h3 (NV _) true w;refine⟨_,fun w=>?_,.gA (a':=a') (cap':=gx mx cap' mm)⟩;simp only[Instr.sliceAt,Instr.slice,PR,PT hu,PQ,hrun,cr hk,PS,hl0.1,hl0.2,Ou,Om,Nat.sub_zero,MB];simp[Addr.add]
    | dry =>
     rename_i a';have hrun:=fun w=>eh (P:=E.P) (cap':=0) hb h1 h2 h3 (NV _) true w;have hmm:gx mx 0 mm=0:=by
      cases mx with
      | none=>rfl
      | some _=>have:=hbl.2.1; simp[gx]; omega
     rw[hmm] at hrun;refine⟨_,fun w=>?_,.dry (a':=a')⟩;simp only[Instr.sliceAt,Instr.slice,PR,PT hu,PQ,hrun,cr hk,PS,hl0.1,hl0.2,Ou,Om,MB];simp
   cases e
  cases e
 ·
  rename_i n elem b o hu
  split at e
  ·rename_i hk
   split at e
   cases e
   ·rename_i cs tag hnm hg
    split at e
    ·rename_i l hh mm hb;cases e;cases hx with
     | ptr hj =>
      rename_i k;have hrun:=fun w=>eh (P:=E.P) (cap':=n) hb h1 h2 h3 (MA _) false w;have hmm:gx mx n mm=mm:=by
       cases mx with
       | none=>exact((gU hb).2.2.2.2 rfl).symm
       | some _=>rfl
      rw[hmm] at hrun;have hkd:=h.kindOf hj hg;have hm:k.more=none:=by
       cases tag with
       | more sz=>exact MX rfl (hnm sz)
       | ro=>exact hkd
       | own=>exact hkd
      refine⟨.slice (some (if mm=l then⟨k.c,o,none⟩ else⟨k.c,o+l*ax E.P elem,none⟩)) (hh-l) (mm-l),fun w=>?_,?_⟩
      simp only[Instr.sliceAt,Instr.sureAddr,PR,PT hu,PQ,hrun,cr hk,PS]
      split
      rename_i hc; simp only[MG hc]
      rename_i hc; simp only[ep]
      split
      exact .slice hj hm
      exact .slice hj hm
    cases e
   cases e
  cases e
 cases e
def rO{t:OO}{x x' v:ON}{f:Nat}(e:aR P t x f=some v)(hx:VR j x x'):∃v',lO P (Instr.fieldAt t x' f) v'/\VR j v v':=by
 unfold aR at e
 split at e
 ·rename_i fields b o hu
  split at e
  ·rename_i fl hf
   split at e
   ·rename_i hk;simp only[My,bne_iff_ne,ne_eq] at hk;cases e;cases hx with
    | ptr hj =>
    rename_i k;refine⟨_,fun w=>?_,.ptr hj⟩;simp only[Instr.fieldAt,PR,PT hu,PQ,hf,Instr.sureAddr,PS,fieldPlace,cr hk.1,ME hk.2,ep]
   cases e
  cases e
 cases e
def DU{t:OO}{x x' v:ON}(e:zS P t x=some v)(hx:VR j x x'):∃v',lO P (Instr.arrayAt t x') v'/\VR j v v':=by
 unfold zS at e
 split at e
 ·rename_i n el b o len cap hu
  split at e
  ·rename_i hc;cases e;have hn:¬len<n:=by omega
   cases hx with
   | slice hj hm=>exact⟨_,fun w=>by simp only[Instr.arrayAt,PR,PT hu,PQ,ME hn,PS],.ptr hj⟩
   | sliceM hj hm h1 h2 hl hc2=>exact⟨_,fun w=>by simp only[Instr.arrayAt,PR,PT hu,PQ,ME hn,PS],.ptr hj⟩
  cases e
 cases e
def rR{t:OO}{x x' y y' v:ON}(e:bM P t x y=some v)(hx:VR j x x')(hy:VR j y y'):∃v',lO P (Instr.indexAt t x' y') v'/\VR j v v':=by
 unfold bM at e
 split at e
 ·rename_i len elem b o k i hu
  split at e
  ·rename_i hc;simp only[My,MW] at hc;cases e;cases hy;cases hx with
   | ptr hj =>
   refine⟨_,fun w=>?_,.ptr hj⟩;simp only[Instr.indexAt,asIntOf,PR,PT hu,PQ,Instr.sureAddr,PS,cr hc.1,MG hc.2,ep]
  cases e
 ·rename_i elem b o len cap k i hu
  split at e
  ·rename_i hc;simp only[My,MW] at hc;cases e;cases hy;cases hx with
   | slice hj hm =>
    refine⟨_,fun w=>?_,.ptr hj⟩;simp only[Instr.indexAt,asIntOf,PR,PT hu,PQ,PS,cr hc.1,MG hc.2,ep]
   | sliceM hj hm e1 e2 hl hcap =>
    refine⟨_,fun w=>?_,.ptr hj⟩;simp only[Instr.indexAt,asIntOf,PR,PT hu,PQ,PS,cr hc.1,MG hc.2,ep]
  cases e
 cases e
def BP{t:OO}{x x' y y' v:ON}(e:gh P t x y=some v)(hx:VR j x x')(hy:VR j y y'):∃v',lO P (Instr.index t x' y') v'/\VR j v v':=by
 unfold gh at e
 split at e
 ·rename_i len elem cs k i hu
  split at e
  ·rename_i hc;cases hy;cases hx with
   | agg h1 h2 =>
   have hk:known P elem=true:=by
    unfold eE at e
    split at e
    cases e
    rename_i hk; simpa using hk
   obtain⟨v',h3,h4⟩:=mK e (LR.eK h1 h2);refine⟨v',fun w=>?_,h4⟩;simp only[Instr.index,asIntOf,PR,PT hu,PQ,PS,MG hc,cr hk,h3]
  cases e
 ·rename_i s k i hu
  split at e
  ·rename_i hc;cases hy; cases hx;cases hs:s[i.toNat]? with
   | none=>rw[hs] at e; cases e
   | some b =>
    rw[hs] at e; cases e;refine⟨_,fun w=>?_,.int _ _⟩;simp only[Instr.index,asIntOf,PR,PT hu,PQ,PS,MG hc,hs]
  cases e
 cases e
def Bm{t:OO}{x x' v:ON}{f:Nat}(e:eH P t x f=some v)(hx:VR j x x'):∃v',lO P (Instr.field t x' f) v'/\VR j v v':=by
 unfold eH at e
 split at e
 ·rename_i fields cs hu
  split at e
  ·rename_i fl hf;cases hx with
   | agg h1 h2 =>
   obtain⟨v',h3,h4⟩:=mK e (LR.eK h1 h2);refine⟨v',fun w=>?_,h4⟩;simp only[Instr.field,PR,PT hu,PQ,hf,asAgg,PS,h3]
  cases e
 cases e
def wq{E:Env}{m:PJ}{w:OS}(h:MR E j m w){t:OO}{x x' v:ON}(e:dz E.P t x m=some v)(hx:VR j x x') :
  ∃v',(Instr.loadAt t x').run E.P w=.ok v' w/\VR j v v':=by
 unfold dz at e
 split at e
 ·rename_i b o
  split at e
  cases e
  ·rename_i hk;have hk':known E.P t=true:=by simpa using hk
   cases hx with
   | ptr hj =>
   rename_i k
   split at e
   ·rename_i ha;cases hl:m.dB b o (ax E.P t) with
    | none=>rw[hl] at e; cases e
    | some vs =>
     rw[hl] at e; cases e;obtain⟨vs',h1,h2⟩:=h.dB hj hl;refine⟨.agg vs'.toArray,?_,.yl (by simpa using h2)⟩
     simp only[Instr.loadAt,Instr.sureAddr,PR,PS,PQ,loadVar,nq hk',ha,if_true,cr hk',h1 w rfl]
   rename_i ha;have ha':dK E.P t=false:=by simpa using ha
   split at e
   rename_i cs tag hg;obtain⟨v',h1,h2⟩:=h.cell hj hg e;refine⟨v',?_,h2⟩;simp only[Instr.loadAt,Instr.sureAddr,PR,PS,PQ,loadVar,nq hk',ha',MJ,if_false,run_load,h1]
   cases e
 cases e
end
section
variable{E:Env}{j:aI}{m:PJ}{w:OS}
def OR.own{c:Nat}{cs:PM ON}{c':PO ON}{elem:OO}(h:LR j cs c'.toList):OR j ⟨c,none⟩ (.cells cs .own) (.cells c' elem) :=
 ⟨⟨rfl,by simpa using h.1.symm,rfl⟩,fun i v hi=>by
  obtain⟨v',a,b⟩:=h.get hi;exact⟨v',by simpa using a,b⟩⟩
def kq{zero:PO ON}:∀(n:Nat),((Array.range (n*zero.size)).map fun i=>zero[i%zero.size]!).toList=cm zero.toList n:=by
 intro n
 by_cases hz:zero.size=0
 ·have:zero=#[]:=Ol hz;subst this;have:∀n,cm ([]:PM ON) n=[]:=by
   intro n
   induction n with
   | zero=>rfl
   | succ n ih=>simpa [cm] using ih
  simp[this]
 ·have hpos:0<zero.size:=MZ hz;have hlen:∀n,(cm zero.toList n).length=n*zero.size:=by
   intro n
   induction n with
   | zero=>simp[cm]
   | succ n ih=>simp[cm,ih,N9,Nat.add_comm]
  have hget:∀n i,i<n*zero.size->(cm zero.toList n)[i]? = zero[i%zero.size]?:=by
   intro n
   induction n with
   | zero=>intro i hi; simp at hi
   | succ n ih =>
    intro i hi;simp only[cm]
    by_cases hlt:i<zero.size
    rw[Nn (by simpa using hlt),Nh hlt]; simp
    have hge:zero.size<=i:=by omega
    rw[M1 (by simpa using hge)]
    have:=ih (i-zero.size) (by rw[N9] at hi; omega)
    simp only[Oq];rw[this,<-Nat.mod_eq_sub_mod hge]
  apply List.ext_getElem?;intro i
  by_cases hi:i<n*zero.size
  rw[hget n i hi];have hlt:i%zero.size<zero.size:=Nx _ hpos;simp[hi,hlt]
  rw[NB (by simp; omega),NB (by rw[hlen]; omega)]
def iJ{P:OQ}{elem:OO}{n:Nat}{zs:PM ON}(h:fD P elem n=some zs):∃z,bU P elem=some z/\z.cells.size=ax P elem/\zs=cm z.cells.toList n:=by
 unfold fD at h
 split at h
 rename_i z hz
 split at h
 rename_i hs; cases h; exact⟨z,hz,hs,rfl⟩
 cases h
 cases h
def fH(l:PM ON)(n:Nat):(cm l n).length=n*l.length:=by
 induction n with
 | zero=>simp[cm]
 | succ n ih=>simp[cm,ih,N9,Nat.add_comm]
def BE(h:MR E j m w){t:OO}{x x' v v':ON}{m':PJ}(e:fa E.P t x v m=some m')(hx:VR j x x')(hv:VR j v v') :
  ∃w',(Instr.storeAt t x' v').run E.P w=.ok () w'/\Sim E j m w j m' w':=by
 unfold fa at e
 split at e
 ·rename_i b o
  split at e
  ·rename_i hc;simp only[My,beq_iff_eq] at hc;obtain⟨⟨hk,hs⟩,ho⟩:=hc;cases hx with
   | ptr hj =>
   have hvc:=gD hv;obtain⟨w',h1,h2⟩:=hZ h hj hvc ho e;refine⟨w',?_,h2⟩;have hs':v'.cells.size=ax E.P t:=by have:=hvc.1; simp at this; omega
   have hne:¬v'.cells.size≠ax E.P t:=by simp[hs']
   simp only[Instr.storeAt,Instr.sureAddr,PR,PS,PQ,storeVar,cr hk,ME hne,h1]
  cases e
 cases e
def eA{v v':ON}(hp:aM v=true)(h:VR j v v'):v'=v:=by
 cases h<;>first|rfl |(simp[aM] at hp)
def nG:∀{l l':PM ON},l.all aM=true->LR j l l'->l'=l
 | [],_,_,h=>h.dc
 | v::l,l',hp,h=>by
  obtain⟨y,ys,rfl,h1,h2⟩:=h.cons_inv;simp only[NF,My] at hp;rw[eA hp.1 h1,nG hp.2 h2]
def gP{v v':ON}(hp:bu v=true)(h:VR j v v'):v'=v:=by
 cases h with
 | agg h1 h2 =>
  have:=nG (by simpa [bu] using hp) (LR.eK h1 h2)
  exact NS Value.agg (Nd.1 this)
 | tuple h1 h2 =>
  have:=nG (by simpa [bu] using hp) (LR.eK h1 h2)
  exact NS Value.tuple (Nd.1 this)
 | func h1 h2 h3 h4=>simp[bu,aM] at hp
 | yield h h1 h2=>simp[bu,aM] at hp
 | _=>first|rfl |(simp[bu,aM] at hp)
def gz{P:OQ}{kt:OO}{k:ON}(h:iw P kt k=true):bu k=true:=by
 unfold iw at h
 split at h
 rfl
 rfl
 rfl
 simp only[My] at h; exact h.2
 simp only[My] at h; exact h.2
 cases h
def checkKind{P:OQ}{t:OO}(ht:gj P t=true)(n:Nat)(v:ON)(b:Bool)(w:OS):(Instr.checkKey b (n+1) t v).run P w=.ok () w:=by
 unfold gj at ht;simp only[Instr.checkKey,PR];cases hu:P.underlying t with
 | none=>rw[hu] at ht; cases ht
 | some d =>
  rw[hu] at ht;simp only[PT hu,PQ];cases d<;>first |(simp at ht; done)|rfl
def kr{P:OQ}{α:Type}(f:α->Sem PN)(w:OS):∀(l:PM α),(∀x∈l,(f x).run P w=.ok () w) ->
  (forIn l PUnit.unit (fun x _=>do f x; pure (ForInStep.yield PUnit.unit)):Sem PUnit).run P w=.ok PUnit.unit w
 | [],_=>rfl
 | x::l,h=>by
  simp only[List.forIn_cons,PR,h x (by simp),PQ,PS]
  exact kr f w l fun y hy=>h y (by simp[hy])
def zv{P:OQ}{t:OO}(h:gj P t=true):dK P t=false:=by
 unfold gj at h;unfold dK;cases hu:P.underlying t with
 | none=>rfl
 | some d=>rw[hu] at h; cases d<;>first|rfl |(simp at h)
def tz{P:OQ}{t:OO}(h:gj P t=true)(hk:known P t=true){cs:PO ON}{o:Nat}(ho:o<cs.size)(w:OS):(part t cs o).run P w=.ok cs[o] w:=by
 simp[part,nq hk,zv h,ho]
def dH{P:OQ}{kt:OO}{k:ON}(h:iw P kt k=true)(b:Bool)(w:OS):(Instr.checkKey b 10000 kt k).run P w=.ok () w:=by
 unfold iw at h
 split at h
 rename_i hu; exact checkKind (by simp[gj,hu]) 9999 _ b w
 rename_i hu; exact checkKind (by simp[gj,hu]) 9999 _ b w
 rename_i hu; exact checkKind (by simp[gj,hu]) 9999 _ b w
 rename_i len elem cs hu;simp only[My,beq_iff_eq] at h;obtain⟨⟨⟨⟨hek,hkn⟩,hsz⟩,hlen⟩,_⟩:=h;have key:∀n,(Instr.checkKey b (n+1+1) kt (.agg cs)).run P w=.ok () w:=by
  intro n;unfold Instr.checkKey;simp only[PR,PT hu,PQ];rw[Std.Legacy.Range.forIn_eq_forIn_range'];simp only[Std.Legacy.Range.size,Nat.sub_zero,Nat.add_sub_cancel,Nat.div_one];have:=kr (P:=P) (fun i=>do Instr.checkKey b (n+1) elem (<-part elem cs (i*(<-sizeOf elem)))) w (List.range' 0 len) (fun x hx=>by
   have hlt:x<cs.size:=by rw[List.mem_range'] at hx; obtain⟨i,h1,h2⟩:=hx; omega
   simp only[PR,cr hkn,hsz,Nat.mul_one,tz hek hkn hlt,PQ];exact checkKind hek n _ b w)
  simp only[bind_assoc] at this;rw[this]; rfl
 exact key 9998
 ·rename_i fs cs hu;simp only[My] at h;have key:∀n,(Instr.checkKey b (n+1+1) kt (.agg cs)).run P w=.ok () w:=by
   intro n;unfold Instr.checkKey;simp only[PR,PT hu,PQ];rw[<-Array.forIn_toList];have hall:=h.1;generalize fs.toList=l at hall;clear hu
   induction l with
   | nil=>rfl
   | cons f l ih =>
    simp only[NF,My,MW] at hall;obtain⟨⟨⟨h1,h2⟩,h3⟩,h4⟩:=hall;have ih':=ih (by simpa [My] using h4)
    simp only[List.forIn_cons,PR,Sem.run_ite]
    split
    simp only[tz h1 h2 h3,PQ,checkKind h1 n _ b w,PS];exact ih'
    simp only[PS,PQ];exact ih'
  exact key 9998
 cases h
inductive FR(j:aI):PE (Nat×ON)->PE (Nat×ON)->Prop
 | none:FR j none none
 | some {i:Nat} {v v':ON} (h:VR j v v'):FR j (some (i,v)) (some (i,v'))
def lG{P:OQ}{kt:OO}{k k':ON}(hk:VR j k k'):∀{es:PM (ON×ON)} {es':PM MapEntry} {i:Nat} {r:PE (Nat×ON)},iD P kt k es i=some r->ER j es es' ->
  ∃r',(∀w,(Instr.findAsking kt k' es' i).run P w=.ok r' w)/\FR j r r'
 | [],[],i,r,h,_=>by cases h; exact⟨_,fun w=>rfl,.none⟩
 | e::es,f::fs,i,r,h,he=>by
  simp only[iD] at h
  split at h
  rename_i hq;cases h;refine⟨some (i,f.val),fun w=>?_,.some he.2.1⟩;simp only[Instr.findAsking,PR,Op.equal,jC _ hq hk he.1,PQ,if_true,PS]
  rename_i hq;obtain⟨r',h1,h2⟩:=lG hk h he.2.2;refine⟨r',fun w=>?_,h2⟩;simp only[Instr.findAsking,PR,Op.equal,jC _ hq hk he.1,PQ,MJ,if_false,h1]
  cases h
 | [],_::_,_,_,_,he=>he.elim
 | _::_,[],_,_,_,he=>he.elim
def re{P:OQ}{kt:OO}{d:TypeDesc}{k k' x x':ON}{b b':Bool}(hu:P.underlying kt=some d)(hk:VR j k k')(hx:VR j x x')(h:Instr.sameNow d k' x'=some b')(he:jn P Op.maxDepth kt k x=some b):b=b':=by
 have:=jC (P:=P) Op.maxDepth he hk hx default;rw[show Op.maxDepth=9999+1 from rfl] at this
 unfold Instr.sameNow at h
 split at h
 rename_i k0 k1 a k2 c
 split at h
 rename_i hkk;subst hkk;cases h;rw[run_equalIn_int _ 9999 kt _ _ a c hu] at this;injection this with h1 _; exact h1.symm
 cases h
 cases h;rw[run_equalIn_string _ 9999 kt _ _ hu,<-beq_toListBytes] at this;injection this with h1 _; exact h1.symm
 cases h;rw[run_equalIn_bool' _ 9999 kt _ _ hu] at this;injection this with h1 _; exact h1.symm
 cases h
def qe{P:OQ}{kt:OO}{d:TypeDesc}{k k':ON}(hu:P.underlying kt=some d)(hk:VR j k k'):∀{es:PM (ON×ON)} {es':PM MapEntry} {i:Nat} {r r':PE (Nat×ON)},iD P kt k es i=some r->ER j es es' ->
  Instr.findNow d k' es' i=some r'->FR j r r'
 | [],[],i,r,r',h,_,h'=>by cases h; cases h'; exact .none
 | e::es,f::fs,i,r,r',h,he,h'=>by
  simp only[iD] at h;simp only[Instr.findNow] at h'
  split at h'
  rename_i hs;cases h'
  split at h
  cases h; exact .some he.2.1
  rename_i hq; cases re hu hk he.1 hs hq
  cases h
  rename_i hs
  split at h
  rename_i hq; cases re hu hk he.1 hs hq
  exact qe hu hk h he.2.2 h'
  cases h
  cases h'
 | [],_::_,_,_,_,_,he,_=>he.elim
 | _::_,[],_,_,_,_,he,_=>he.elim
def fT{P:OQ}{kt:OO}{d:TypeDesc}{k k':ON}(hu:P.underlying kt=some d)(hk:VR j k k'){es:PM (ON×ON)}{es':PM MapEntry}{r:PE (Nat×ON)}(h:iD P kt k es 0=some r)(he:ER j es es') :
  ∃r',(∀w,(Instr.findKey kt k' es').run P w=.ok r' w)/\FR j r r':=by
 cases hn:Instr.findNow d k' es' 0 with
 | some r' =>
  refine⟨r',fun w=>?_,qe hu hk h he hn⟩;simp only[Instr.findKey,PR,PT hu,PQ,hn,PS]
 | none =>
  obtain⟨r',h1,h2⟩:=lG hk h he;refine⟨r',fun w=>?_,h2⟩;simp only[Instr.findKey,PR,PT hu,PQ,hn,h1]
def kn{P:OQ}{kt:OO}{k:ON}(h:iw P kt k=true):∃d,P.underlying kt=some d:=by
 unfold iw at h;cases hu:P.underlying kt with
 | some d=>exact⟨d,rfl⟩
 | none=>rw[hu] at h; simp at h
def MR.AN(h:MR E j m w){b:Nat}{k:Blk}(hk:j b=some k){es:PM (ON×ON)}(hg:m.get b=some (.map es)):∃es' clock,w.heap[k.c]? = some (.map es' clock)/\ER j es es'.toList:=by
 obtain⟨o',h1,h2⟩:=h.obj b _ k hg hk;cases o' with
 | map es' clock=>exact⟨es',clock,h1,h2.1⟩
 | _=>exact h2.elim
def MR.yW(h:MR E j m w){b:Nat}{k:Blk}(hk:j b=some k){es:PM (ON×ON)}(hg:m.get b=some (.map es)){es':PO MapEntry}{clock:Nat}(hw:w.heap[k.c]? = some (.map es' clock)):E7 es' clock:=by
 obtain⟨o',h1,h2⟩:=h.obj b _ k hg hk;rw[hw] at h1;cases h1;exact h2.2
def run_getObj_map{P:OQ}{w:OS}{r:Nat}{es:PO MapEntry}{c:Nat}(h:w.heap[r]? = some (.map es c)):(getObj r).run P w=.ok (.map es c) w:=by simp[getObj,Sem.run,h]
def run_setObj_map{P:OQ}{w:OS}{r:Nat}{es:PO MapEntry}{c:Nat}(o:Obj)(h:w.heap[r]? = some (.map es c)):(setObj r o).run P w=.ok () (w.putObj r o):=by simp[setObj,Sem.run,h,World.putObj]
def zE (h:MR E j m w) {t:OO} {x x' y y' v:ON} {ok:Bool} (e:dI E.P t x y ok m=some v) (hx:VR j x x') (hy:VR j y y') :
  ∃v',(Instr.lookup t x' y' ok).run E.P w=.ok v' w/\VR j v v':=by
 unfold dI at e
 split at e
 ·rename_i key elem hu
  split at e
  ·rename_i es z hes hz
   split at e
   ·rename_i hko;obtain⟨d,hd⟩:=kn hko;have hy':y'=y:=gP (gz hko) hy;subst hy';have hmap:∃es':PO MapEntry,ER j es es'.toList/\((x'=.map none/\es'=#[])\/∃r c,x'=.map (some r)/\w.heap[r]? = some (.map es' c)):=by
     unfold mapOf at hes
     split at hes
     cases hes; cases hx;exact⟨#[],trivial,.inl ⟨rfl,rfl⟩⟩
     ·rename_i r
      split at hes
      ·rename_i es0 hg;cases hes;cases hx with
       | map hj =>
       obtain⟨es',clock,h1,h2⟩:=h.AN hj hg;exact⟨es',h2,.inr ⟨_,_,rfl,h1⟩⟩
      cases hes
     cases hes
    obtain⟨es',hes',hsh⟩:=hmap
    split at e
    ·rename_i i v0 hf;cases e;obtain⟨r',h1,h2⟩:=fT hd hy hf hes';cases h2 with
     | some hv =>
     rename_i v0';refine⟨if ok then .tuple #[v0',.bool true] else v0',?_,?_⟩
     rcases hsh with⟨rfl,rfl⟩|⟨r,c,rfl,h5⟩
     simp only[Instr.lookup,PR,PT hu,PQ,PS,dH hko,h1]
     simp only[Instr.lookup,PR,PT hu,PQ,run_getObj_map h5,PS,dH hko,h1]
     ·cases ok with
      | true=>exact .tuple' (by exact LR.cons hv (LR.cons (.bool true) (.nil j)))
      | false=>exact hv
    ·rename_i hf
     split at e
     ·rename_i hpz;cases e;obtain⟨r',h1,h2⟩:=fT hd hy hf hes';cases h2;refine⟨if ok then .tuple #[z,.bool false] else z,?_,?_⟩
      rcases hsh with⟨rfl,rfl⟩|⟨r,c,rfl,h5⟩
      simp only[Instr.lookup,PR,PT hu,PQ,PS,dH hko,h1,gY hz]
      simp only[Instr.lookup,PR,PT hu,PQ,run_getObj_map h5,PS,dH hko,h1,gY hz]
      ·cases ok with
       | true=>exact .tuple' (by exact LR.cons (VR.bu hpz) (LR.cons (.bool false) (.nil j)))
       | false=>exact VR.bu hpz
     cases e
    cases e
   cases e
  cases e
 cases e
def ER.get:∀{es:PM (ON×ON)} {fs:PM MapEntry} {i:Nat} {e:ON×ON},ER j es fs->es[i]? = some e->∃f,fs[i]? = some f/\VR j e.1 f.key/\VR j e.2 f.val
 | [],[],_,_,_,h=>by simp at h
 | x::es,f::fs,0,e,h,hi=>by simp at hi; subst hi; exact⟨f,rfl,h.1,h.2.1⟩
 | x::es,f::fs,i+1,e,h,hi=>by simpa using ER.get h.2.2 (by simpa using hi)
 | [],_::_,_,_,h,_=>h.elim
 | _::_,[],_,_,h,_=>h.elim
def ER.qu:∀{es:PM (ON×ON)} {fs:PM MapEntry} {e:ON×ON} {f:MapEntry},ER j es fs->VR j e.1 f.key->VR j e.2 f.val->ER j (es++[e]) (fs++[f])
 | [],[],_,_,_,h1,h2=>⟨h1,h2,trivial⟩
 | _::_,_::_,_,_,h,h1,h2=>⟨h.1,h.2.1,ER.qu h.2.2 h1 h2⟩
 | [],_::_,_,_,h,_,_=>h.elim
 | _::_,[],_,_,h,_,_=>h.elim
def ER.put:∀{es:PM (ON×ON)} {fs:PM MapEntry} {i:Nat} {k k' v v':ON},ER j es fs->i<es.length->VR j k k'->VR j v v'->ER j (mA es i k v) (fs.modify i fun e=>{ e with key:=k',val:=v'})
 | x::es,f::fs,0,_,_,_,_,h,_,h1,h2=>⟨h1,h2,h.2.2⟩
 | x::es,f::fs,i+1,_,_,_,_,h,hi,h1,h2=>⟨h.1,h.2.1,ER.put h.2.2 (by simpa using hi) h1 h2⟩
 | [],_,_,_,_,_,_,_,hi,_,_=>by simp at hi
 | _::_,[],_,_,_,_,_,h,_,_,_=>h.elim
def ER.erase:∀{es:PM (ON×ON)} {fs:PM MapEntry} (i:Nat),ER j es fs->ER j (es.eraseIdx i) (fs.eraseIdx i)
 | [],[],_,_=>trivial
 | _::_,_::_,0,h=>h.2.2
 | _::_,_::_,i+1,h=>⟨h.1,h.2.1,ER.erase i h.2.2⟩
 | [],_::_,_,h=>h.elim
 | _::_,[],_,h=>h.elim
def lH (h:MR E j m w) {t:OO} {x x' k k' v v':ON} {m':PJ} (e:eo E.P t x k v m=some m') (hx:VR j x x') (hk:VR j k k') (hv:VR j v v') :
  ∃w',(Instr.mapUpdate t x' k' v').run E.P w=.ok () w'/\Sim E j m w j m' w':=by
 unfold eo at e
 split at e
 ·rename_i kt et r hu
  split at e
  ·rename_i es hg
   split at e
   ·rename_i hko;obtain⟨d,hd⟩:=kn hko;have hk':k'=k:=gP (gz hko) hk;cases hx with
    | map hj =>
    rename_i kb;obtain⟨es',clock,h1,h2⟩:=h.AN hj hg
    split at e
    ·rename_i i v0 hf
     split at e
     ·rename_i hsame;cases e;unfold nk at hsame
      split at hsame
      ·rename_i e0 he0;simp only[My] at hsame;obtain⟨r',h3,h4⟩:=fT hd hk hf h2;cases h4 with
       | some _ =>
       obtain⟨f0,g1,g2,g3⟩:=h2.get he0;have hf0:f0.key=e0.1:=gP hsame.1 g2;have hi:i<es.length:=(ML.1 he0).1;refine⟨_,?_,jL h hj (by rw[hg]; rfl) (co:=.map (es'.modify i fun e=>{ e with key:=k,val:=v'}) clock) ?_⟩
       have g1':es'[i]? = some f0:=by simpa using g1
       simp only[Instr.mapUpdate,PR,PT hu,PQ,run_getObj_map h1,hk',dH hko];rw[hk'] at h3;simp only[h3,PQ,PR,g1',MB,Option.getD_some,hf0,Instr.keyThatStays,hsame.2,if_true,PS,run_setObj_map _ h1]
       refine⟨?_,yK (h.yW hj hg h1) i _ fun _=>rfl⟩
       show ER j (mA es i k v) (es'.modify i fun e=>{ e with key:=k,val:=v'}).toList
       rw[Array.toList_modify];exact h2.put hi (VR.bu (gz hko)) hv
      cases hsame
     cases e
    rename_i hf;cases e;obtain⟨r',h3,h4⟩:=fT hd hk hf h2;cases h4;refine⟨_,?_,jL h hj (by rw[hg]; rfl) (co:=.map (es'.push { key:=k,val:=v',born:=clock}) (clock+1)) ?_⟩
    simp only[Instr.mapUpdate,PR,PT hu,PQ,run_getObj_map h1,hk',dH hko];rw[hk'] at h3;simp only[h3,PQ,run_setObj_map _ h1]
    refine⟨?_,DN (h.yW hj hg h1) k v'⟩
    show ER j (es++[(k,v)]) (es'.push { key:=k,val:=v',born:=clock}).toList
    rw[Array.toList_push];exact h2.qu (VR.bu (gz hko)) hv
    cases e
   cases e
  cases e
 cases e
def zi(h:MR E j m w){t:OO}{x x' k k':ON}{m':PJ}(e:pO E.P t x k m=some m')(hx:VR j x x')(hk:VR j k k')(ts:PO OO)(hts:ts[0]? = some t)(ty:OO) :
  ∃w',(Builtin.delete_ ts ty #[x',k']).run E.P w=.ok (.tuple #[]) w'/\Sim E j m w j m' w':=by
 unfold pO at e
 split at e
 ·rename_i kt et r hu
  split at e
  ·rename_i es hg
   split at e
   ·rename_i hko;obtain⟨d,hd⟩:=kn hko;have hk':k'=k:=gP (gz hko) hk;cases hx with
    | map hj =>
    rename_i kb;obtain⟨es',clock,h1,h2⟩:=h.AN hj hg
    split at e
    ·rename_i i v0 hf;cases e;obtain⟨r',h3,h4⟩:=fT hd hk hf h2;cases h4 with
     | some _ =>
     refine⟨_,?_,jL h hj (by rw[hg]; rfl) (co:=.map (es'.eraseIdxIfInBounds i) clock) ?_⟩
     simp only[Builtin.delete_,hts,MQ,MM,Nl,PR,PT hu,PQ,run_getObj_map h1,hk',dH hko];rw[hk'] at h3;simp only[h3,PQ,PR,run_setObj_map _ h1,PS]
     refine⟨?_,Bs (h.yW hj hg h1) i⟩
     show ER j (es.eraseIdx i) (es'.eraseIdxIfInBounds i).toList
     rw[Array.toList_eraseIdxIfInBounds];exact h2.erase i
    rename_i hf;cases e;obtain⟨r',h3,h4⟩:=fT hd hk hf h2;cases h4;refine⟨w,?_,.refl h⟩;simp only[Builtin.delete_,hts,MQ,MM,Nl,PR,PT hu,PQ,run_getObj_map h1,hk',dH hko];rw[hk'] at h3;simp only[h3,PQ,PR,run_setObj_map _ h1,PS,oU h1]
    cases e
   cases e
  cases e
 cases e
end
def sA(n:Nat):∀(r c:Nat),Builtin.growBy n r c<=max c (n+(n+768)/4)
 | 0,c=>by simp only[Builtin.growBy]; omega
 | r+1,c=>by
  simp only[Builtin.growBy]
  split
  omega
  have:=sA n r (c+(c+768)/4);omega
def nextslicecap_le{need cap:Nat}(h:cap<need):Builtin.nextslicecap need cap<=2*need+2000:=by
 unfold Builtin.nextslicecap
 split
 omega
 split
 omega
 have:=sA need 4 cap;omega
section
variable{E:Env}{j:aI}{m:PJ}{w:OS}
def appendCore(elem:OO)(size:Nat)(base:OL)(sLen sCap n:Nat)(zeros:Bool)(s x:ON)(appended:Sem (PO ON)):Sem ON:=do
 let need:=sLen+n
 if need<=sCap then
  let new <-appended
  if let some a:=base then storeCells (a.add (sLen*size)) new.toList
  pure (.slice base need sCap)
 else
  if (need : Int) > IntKind.i64.max /\ (zeros \/ (<- typeInfo elem).bytes = 0) then runtimePanic (.error "growslice: len out of range")
  if Builtin.nextslicecap need sCap * (<- typeInfo elem).bytes > 2 ^ 48 then (if zeros then runtimePanic (.error "growslice: len out of range") else do
   if !(<-Builtin.mayShare size sLen n base x) then mark .noRoom
   unsupported (.resourceLimit "append: a slice or a string whose bytes no memory bears"))
  let newCap <-choose (.appendCap need sCap elem)
  askRoom (newCap*(<-typeInfo elem).bytes)
  let old <-Builtin.firstCells size sLen s
  let new <-appended
  let rest:=Builtin.zeroCells (<-zeroValue elem).cells (newCap-need)
  pure (.slice (some (<-newRow elem (old++new++rest))) need newCap)
def jk{P:OQ}{elem:OO}{size sLen sCap n:Nat}{zeros:Bool}{s x:ON}{a:Addr}{app:Sem (PO ON)}{new:PM ON}{w w':OS}
  (happ:app.run P w=.ok new.toArray w) (hfit:sLen+n<=sCap) (hst:(storeCells (a.add (sLen*size)) new).run P w=.ok () w') :
  (appendCore elem size (some a) sLen sCap n zeros s x app).run P w=.ok (.slice (some a) (sLen+n) sCap) w':=by
 simp only[appendCore,MG hfit,PR,happ,PQ,hst,PS]
def lS{l:PM ON}(h:l.all aM=true):∀n,(cm l n).all aM=true
 | 0=>rfl
 | n+1=>by simp only[cm,List.all_append,h,lS h n,Ns]
def jT{P:OQ}{elem:OO}{size sLen sCap n:Nat}{zeros:Bool}{s x:ON}{base:OL}{app:Sem (PO ON)}{new old:PM ON}{w:OS}{i:TypeInfo}{z:ON}
  (happ:∀w0:OS,w0.heap=w.heap->app.run P w0=.ok new.toArray w0) (hold:∀w0:OS,w0.heap=w.heap->(Builtin.firstCells size sLen s).run P w0=.ok old.toArray w0) (hgrow:¬sLen+n<=sCap)
  (hi:P.info? elem=some i) (hz:i.zero=some z) (hfit:gp i.bytes (sLen+n)=true) (hb:i.bytes≠0) (hzs:z.cells.size=size) (hzp:z.cells.toList.all aM=true) (ho:old.length=sLen*size) (hn:new.length=n*size) :
  ∃(cap:Nat) (rest:PM ON) (w0:OS),(w0.heap=w.heap/\Calm w w0)/\(sLen+n<=cap/\cap<=9223372036854775807)/\(old++new++rest).length=cap*size/\rest.all aM=true /\
   (appendCore elem size base sLen sCap n zeros s x app).run P w=.ok (.slice (some ⟨w.heap.size,0,none⟩) (sLen+n) cap) (w0.alloc (.cells (old++new++rest).toArray elem)):=by
 have hfit':(2*(sLen+n)+2000)*i.bytes<=2 ^ 48:=by simpa [gp] using hfit
 have h1:¬(((sLen+n:Nat):Int)>IntKind.i64.max/\(zeros=true\/i.bytes=0)):=by
  intro hc;have hbig:sLen+n<=2 ^ 48:=by
   have:1<=i.bytes:=Nat.one_le_iff_ne_zero.2 hb;have:(sLen+n)*1<=(2*(sLen+n)+2000)*i.bytes:=Nb (by omega) this
   omega
  have hmax:IntKind.i64.max=9223372036854775807:=by decide
  rw[hmax] at hc;omega
 have h2:¬Builtin.nextslicecap (sLen+n) sCap*i.bytes>2 ^ 48:=by
  have:=Nj i.bytes (nextslicecap_le (need:=sLen+n) (cap:=sCap) (by omega))
  omega
 have hzv:∀w0:OS,(zeroValue elem).run P w0=.ok z w0:=fun w0=>gY (by simp[bU,hi,hz]) w0
 obtain⟨cap,hcap⟩:∃cap,cap=(Question.appendCap (sLen+n) sCap elem).cut (w.tape w.drawn (.appendCap (sLen+n) sCap elem)):=⟨_,rfl⟩;have hle:sLen+n<=cap:=by rw[hcap]; simp[Question.cut]
 have hmx:cap<=9223372036854775807:=by
  have hbig:sLen+n<=2 ^ 48:=by
   have:1<=i.bytes:=Nat.one_le_iff_ne_zero.2 hb;have:(sLen+n)*1<=(2*(sLen+n)+2000)*i.bytes:=Nb (by omega) this
   omega
  rw[hcap]
  show sLen+n+_%(2 ^ 63-(sLen+n))<=_
  have:=Nx (w.tape w.drawn (.appendCap (sLen+n) sCap elem)) (show 0<2 ^ 63-(sLen+n) by omega)
  omega
 refine⟨cap,cm z.cells.toList (cap-(sLen+n)),w.drew,⟨rfl,rfl,rfl,rfl,Nat.le_succ _⟩,⟨hle,hmx⟩,?_,lS hzp _,?_⟩
 simp only[MV,fH,ho,hn,Oq,hzs];rw[<-Nc,<-Nc]
 congr 1; omega
 have hzc:Builtin.zeroCells z.cells (cap-(sLen+n))=(cm z.cells.toList (cap-(sLen+n))).toArray:=by
  rw[<-kq (zero:=z.cells)]; rfl
 simp only[appendCore,ME hgrow,PR,rA hi,PQ,Sem.run_ite,ME h1,ME h2,PS,run_choose,Question.forced,MJ,if_false,World.drew_eq,run_askRoom,
  hold w.drew rfl,happ w.drew rfl,hzv,<-hcap,hzc,newRow,run_newObj,World.alloc_eq]
 simp
def vz(h:MR E j m w){sz n:Nat}{x x':ON}{new:PM ON}(e:cd sz x n m=some new)(hx:VR j x x') :
  ∃new',(∀w0:OS,w0.heap=w.heap->(Builtin.firstCells sz n x').run E.P w0=.ok new'.toArray w0)/\LR j new new':=by
 unfold cd at e
 split at e
 split at e
 rename_i hn; subst hn; cases e; cases hx;exact⟨[],fun w0 _=>rfl,.nil j⟩
 cases e
 ·rename_i b o l c
  split at e
  rename_i hn; subst hn; cases e;refine⟨[],fun w0 _=>?_,.nil j⟩;cases hx<;>simp[Builtin.firstCells,loadCells,loadCellsFrom]
  ·have hgo:∀k:Blk,j b=some k->∃new',(∀w0:OS,w0.heap=w.heap->(loadCells ⟨k.c,o,none⟩ (n*sz)).run E.P w0=.ok new'.toArray w0)/\LR j new new':=by
    intro k hj;exact h.dB hj e
   cases hx with
   | slice hj hm=>exact hgo _ hj
   | sliceM hj hm e1 e2 hl hc=>exact hgo _ hj
 split at e
 rename_i hn; subst hn; cases e;refine⟨[],fun w0 _=>?_,.nil j⟩;cases hx<;>simp[Builtin.firstCells,loadCells,loadCellsFrom]
 cases e
 cases e
def vN(h:MR E j m w){elem:OO}{xt:PE OO}{x x':ON}{n:Nat}{new:PM ON}(e:hJ E.P elem xt x m=some (n,new))(hx:VR j x x')(hk:known E.P elem=true)
  {i:TypeInfo} (hi:E.P.info? elem=some i) (hbytes:n*i.bytes<=2 ^ 48) {sType:OO} (hu:E.P.underlying sType=some (.slice elem)) {ts:PO OO} (h0:ts[0]? = some sType) (h1:ts[1]? = xt) (ty:OO) :
  ∃(new':PM ON) (zeros:Bool) (app:Sem (PO ON)),LR j new new'/\(∀w0:OS,w0.heap=w.heap->app.run E.P w0=.ok new'.toArray w0) /\
   ∀base sLen sCap,(Builtin.append_ ts ty #[.slice base sLen sCap,x']).run E.P w=(appendCore elem (ax E.P elem) base sLen sCap n zeros (.slice base sLen sCap) x' app).run E.P w:=by
 unfold hJ at e
 split at e
 ·rename_i et a l c hxt;cases hs:cd (ax E.P elem) (.slice a l c) l m with
  | none=>rw[hs] at e; cases e
  | some cs =>
   rw[hs] at e; cases e;obtain⟨new',h2,h3⟩:=vz h hs hx;refine⟨new',false,Builtin.firstCells (ax E.P elem) n x',h3,h2,fun base sLen sCap=>?_⟩;have hlen:∀w0:OS,(Builtin.lenOf x').run E.P w0=.ok n w0:=by
    intro w0;cases hx<;>rfl
   obtain⟨xt',hxt',hu'⟩:∃xt',xt=some xt'/\E.P.underlying xt'=some (.slice et):=by
    cases xt with
    | none=>cases hxt
    | some xt'=>exact⟨xt',rfl,hxt⟩
   rw[hxt'] at h1;simp only[appendCore,Builtin.append_,h0,h1,MQ,MM,Nl,PR,PT hu,PT hu',PQ,cr hk,PS,MJ,if_false,hlen,NG,if_true]
   congr
 ·rename_i k l hxt
  split at e
  ·rename_i hl;cases hz:fD E.P elem l.toNat with
   | none=>rw[hz] at e; cases e
   | some zs =>
    rw[hz] at e;simp only[M3] at e
    split at e
    ·rename_i hp;cases e;cases hx;obtain⟨z,hz1,hz2,hz3⟩:=iJ hz;obtain⟨xt',k',hxt',hu'⟩:∃xt' k',xt=some xt'/\E.P.underlying xt'=some (.int k'):=by
      cases xt with
      | none=>cases hxt
      | some xt'=>exact⟨xt',_,rfl,hxt⟩
     have hwrap:IntKind.i64.wrap l=l:=IntWalk.i64_in l (by have:=hl.1; have:=hl.2; omega)
     have hlb:¬(l*i.bytes>2 ^ 48):=by
      have:((l.toNat*i.bytes:Nat):Int)<=2 ^ 48:=by exact_mod_cast hbytes
      have h3:((l.toNat:Nat):Int)=l:=Of hl.1;rw[N6,h3] at this;omega
     refine⟨new,true,if l.toNat*ax E.P elem=0 then pure #[] else do pure (Builtin.zeroCells (<-zeroValue elem).cells l.toNat),LR.plain hp,?_,fun base sLen sCap=>?_⟩
     intro w0 _;rw[Sem.run_ite]
     split
     rename_i h0;have:new=[]:=by
      apply NC;rw[hz3,fH,Oq,hz2,h0]
     rw[this]; rfl
     simp only[PR,gY hz1,PQ,PS];rw[hz3,<-kq (zero:=z.cells)]; rfl
     rw[hxt'] at h1;have hneg:¬l<0:=by have:=hl.1; omega
     simp only[appendCore,Builtin.append_,h0,h1,MQ,MM,Nl,PR,PT hu,PT hu',PQ,cr hk,PS,if_true,asInt,asIntOf,hwrap,ME hneg,rA hi,ME hlb,MO,MJ,if_false]
     congr
    cases e
  cases e
 cases e
def OR.more{c na nc sz:Nat}{cs:PM ON}{c':PO ON}{elem:OO}(h1:cs.length=na)(h2:c'.size=nc)(h3:na<=nc)(hsz:0<sz)(hr:mn sz c')(h:∀(i:Nat) (v:ON),cs[i]? = some v->∃v',c'[i]? = some v'/\VR j v v') :
  OR j ⟨c,some (sz,na,nc)⟩ (.cells cs (.more sz)) (.cells c' elem) :=
 ⟨⟨by rw[h1,h2],by omega,rfl,hsz,hr⟩,h⟩
def iF(h:MR E j m w){w0:OS}(hw3:w0.heap=w.heap/\Calm w w0){cs cs' rest:PM ON}{elem:OO}{sz n cap:Nat}(hc:LR j cs cs')(hl:cs.length=n*sz)(hr:(cs'++rest).length=cap*sz)(hn:n<=cap)(hsz:0<sz)(hp:rest.all aM=true)(hmx:cap<=9223372036854775807) :
  ∃j',Sim E j m w j' (m.alloc (.cells cs (.more sz))) (w0.alloc (.cells (cs'++rest).toArray elem))/\VR j' (.slice (some ⟨m.next,0,none⟩) n n) (.slice (some ⟨w.heap.size,0,none⟩) n cap):=by
 have hw:=hw3.1;have h0:=h.of_heap hw;have hle:n*sz<=cap*sz:=Nj _ hn;have ho:OR j ⟨w0.heap.size,some (sz,n*sz,cap*sz)⟩ (.cells cs (.more sz)) (.cells (cs'++rest).toArray elem):=by
  refine OR.more hl (by simpa using hr) hle hsz (by unfold mn; rw[List.size_toArray,hr,M9]; exact Np _ hmx) fun i v hi=>?_
  obtain⟨v',a,b⟩:=hc.get hi;refine⟨v',?_,b⟩;rw[MQ,Nn (ML.1 a).1];exact a
 have s:=lj h0 ho;refine⟨_,(Sim.of_heap h hw hw3.2).trans h s,?_⟩;have:VR (j.set m.next ⟨w0.heap.size,some (sz,n*sz,cap*sz)⟩) (.slice (some ⟨m.next,0,none⟩) n n) (.slice (some ⟨w0.heap.size,0,none⟩) n cap) :=
  .sliceM (k:=⟨w0.heap.size,some (sz,n*sz,cap*sz)⟩) (aI.cj _ _ _) rfl rfl rfl (MA _) hn
 rw[hw] at this ⊢;exact this
def zK (h:MR E j m w) {t:OO} {xt:PE OO} {s s' x x' v:ON} {m':PJ} (e:dy E.P t xt s x m=some (v,m')) (hs:VR j s s') (hx:VR j x x')
  {ts:PO OO} (h5:ts[0]? = some t) (h1:ts[1]? = xt) (ty:OO) :
  ∃j' w' v',(Builtin.append_ ts ty #[s',x']).run E.P w=.ok v' w'/\Sim E j m w j' m' w'/\VR j' v v':=by
 unfold dy at e
 split at e
 ·rename_i elem base len cap n new hu hnc;simp only[hu] at hnc;simp only at e
  split at e
  cases e
  ·rename_i hcond;simp only[NJ,Ng,not_or,Bool.not_eq_false,beq_iff_eq,bne_iff_ne,ne_eq,Decidable.not_not,Option.any_eq_true] at hcond;obtain⟨⟨⟨⟨⟨hk,h6⟩,hone⟩,⟨i,hi,hfit⟩⟩,hlen⟩,⟨z,hz,hzs⟩⟩:=hcond;simp only[My,bne_iff_ne,ne_eq] at hfit;obtain⟨hfit,hb⟩:=hfit;obtain⟨i',hi',hz'⟩:=tS hz;rw[hi] at hi'; cases hi';simp only[My,beq_iff_eq] at hzs;have hzs':z.cells.size=ax E.P elem:=hzs.1;have hzp:=hzs.2;have hsz:0<ax E.P elem:=MZ h6;have hbytes:n*i.bytes<=2 ^ 48:=by
    have:(2*(len+n)+2000)*i.bytes<=2 ^ 48:=by simpa [gp] using hfit
    have:=Nj i.bytes (show n<=2*(len+n)+2000 by omega)
    omega
   obtain⟨new',zeros,app,hnew,happ,hrun⟩:=vN h hnc hx hk hi hbytes hu h5 h1 ty;have hnl:new'.length=n*ax E.P elem:=by rw[<-hnew.1]; exact hlen
   split at e
   
   split at e
   cases e
   rename_i h4;have hlc:len=0/\cap=0:=by omega
   obtain⟨rfl,rfl⟩:=hlc;cases hs
   split at e
   rename_i hn; cases e;subst hn;refine⟨j,w,.slice none 0 0,?_,.refl h,.snil 0 0⟩;rw[hrun];simp only[appendCore,NA,MA,if_true,PR,happ w rfl,PQ,PS]
   rename_i hn; cases e;obtain⟨cap',rest,w0,h0,⟨hle,hmx⟩,hlr,hrp,hr⟩:=jT (P:=E.P) (zeros:=zeros) (s:=.slice none 0 0) (x:=x') (base:=none) (sLen:=0) (sCap:=0) (old:=[]) happ (fun w0 _=>rfl) (by omega) hi hz' (by simpa using hfit) hb hzs' hzp (by simp) hnl
   obtain⟨j',s1,s2⟩:=iF h h0 (elem:=elem) hnew hlen (by simpa using hlr) (by omega) hsz hrp hmx
   refine⟨j',_,_,by rw[hrun]; exact hr,by simpa using s1,by simpa using s2⟩
   ·rename_i b o
    split at e
    ·rename_i cs tag hg
     split at e
     ·
      rename_i hfits;cases hst:m.dn b (o+len*ax E.P elem) new with
      | none=>rw[hst] at e; cases e
      | some m1 =>
       rw[hst] at e; cases e;cases hs with
       | slice hj hm =>
        obtain⟨w',g1,g0⟩:=hZ h hj hnew hone hst;refine⟨j,w',_,?_,g0,.slice hj hm⟩;rw[hrun];exact jk (happ w rfl) hfits (by rw[kC]; exact g1)
       | sliceM hj hm e1 e2 hl hc =>
        obtain⟨w',g1,g0⟩:=hZ h hj hnew hone hst;refine⟨j,w',_,?_,g0,.sliceM hj hm e1 e2 hfits hc⟩;rw[hrun];exact jk (happ w rfl) (by omega) (by rw[kC]; exact g1)
     ·rename_i hno;have hexact:∀k:Blk,j b=some k->k.more=none->∀old,m.dB b o (len*ax E.P elem)=some old->v=.slice (some ⟨m.next,0,none⟩) (len+n) (len+n)->m'=m.alloc (.cells (old++new) (.more (ax E.P elem))) ->
        ∃j' w' v',(Builtin.append_ ts ty #[.slice (some ⟨k.c,o,none⟩) len cap,x']).run E.P w=.ok v' w'/\Sim E j m w j' m' w'/\VR j' v v':=by
       intro k hj hm old hold ev em;obtain⟨old',g1,g0⟩:=h.dB hj hold;have hol:old.length=len*ax E.P elem:=(qV hold).choose_spec.choose_spec.2.2;obtain⟨cap',rest,w0,h0,⟨hle,hmx⟩,hlr,hrp,hr⟩:=jT (P:=E.P) (zeros:=zeros) (s:=.slice (some ⟨k.c,o,none⟩) len cap) (x:=x') (base:=some ⟨k.c,o,none⟩) (sLen:=len) (sCap:=cap) (old:=old') happ
        (fun w0 h0=>g1 w0 h0) hno hi hz' hfit hb hzs' hzp (by rw[<-g0.1]; exact hol) hnl
       obtain⟨j',s1,s2⟩:=iF h h0 (elem:=elem) (g0.append hnew) (n:=len+n) (by rw[MV,hol,hlen,Nc]) hlr hle hsz hrp hmx
       exact⟨j',_,_,by rw[hrun]; exact hr,em▸s1,ev▸s2⟩
      split at e
      ·
       rename_i sz'
       split at e
       ·rename_i hso;obtain⟨rfl,rfl⟩:=hso
        split at e
        ·rename_i hol;cases e;cases hs with
         | slice hj hm =>
          have:=h.kindOf hj hg;simp only at this;obtain⟨nc,hmm,_⟩:=this;rw[hm] at hmm; cases hmm
         | sliceM hj hm e1 e2 hl hc =>
          rename_i cap' sz' na nc k;have hkd:=h.kindOf hj hg;simp only at hkd;obtain⟨nc',hmm,_⟩:=hkd;rw[hm] at hmm;simp only[Option.some.injEq,OA] at hmm;obtain⟨rfl,rfl,rfl⟩:=hmm
          by_cases hfits:len+n<=cap'
          
          obtain⟨c,el,fz,c1,c2,c3⟩:=h.pB hj hg;have c2':k.more=some (ax E.P elem,cs.length,c.size)/\cs.length<=c.size/\fz=(0,0)/\0<ax E.P elem/\mn (ax E.P elem) c:=c2;obtain⟨c0,c5,rfl,_,c4⟩:=c2';rw[hm] at c0;simp only[Option.some.injEq,OA,true_and] at c0;have hcs:(len+n)*ax E.P elem<=c.size:=by
           rw[<-c0,<-e2]; simp; exact Nj _ hfits
          have hmul:(len+n)*ax E.P elem=len*ax E.P elem+n*ax E.P elem:=Nc _ _ _;have hst:=fK (P:=E.P) new' w c 0 (len*ax E.P elem) c1 (by rw[hnl]; omega) (mj hnew hone)
          have hold:(cs.take (len*ax E.P elem)).length=len*ax E.P elem:=hol;have hlecs:len*ax E.P elem<=cs.length:=by rw[NK] at hold; omega
          have hor:OR j ⟨k.c,some (ax E.P elem,(len+n)*ax E.P elem,c.size)⟩ (.cells (cs.take (len*ax E.P elem)++new) (.more (ax E.P elem))) (.cells (aH c.toList (0+len*ax E.P elem) new').toArray el):=by
           refine OR.more (by rw[MV,hold,hlen,hmul]) (by simp[cw]) hcs hsz (by unfold mn at *; simpa [cw] using c4) fun ix vx hix=>?_
           rw[MQ,ct,Nu]
           by_cases hlt:ix<len*ax E.P elem
           rw[Nn (by rw[hold]; exact hlt),Oj,MG hlt] at hix
           rw[OV]
           obtain⟨vx',q0,q2⟩:=c3 ix vx hix;exact⟨vx',by simpa using q0,q2⟩
           rw[M1 (by rw[hold]; omega),hold] at hix
           obtain⟨vx',q0,q2⟩:=hnew.get hix;have hlt':=(ML.1 q0).1;rw[MG ⟨by omega,by omega,by simp; omega⟩]
           exact⟨vx',q0,q2⟩
          have s1:=yw h hj (by rw[hg]; rfl) hor
          refine⟨_,_,.slice (some ⟨k.c,0,none⟩) (len+n) cap',?_,s1,.sliceM (k:=⟨k.c,some (ax E.P elem,(len+n)*ax E.P elem,c.size)⟩) (aI.cj _ _ _) rfl rfl (by rw[<-c0]; exact e2) (MA _) hfits⟩
          rw[hrun];refine jk (happ w rfl) hfits ?_;rw[kC];have:=fK (P:=E.P) new' w c (0+len*ax E.P elem) 0 c1 (by rw[hnl]; omega) (mj hnew hone)
          simpa using this
          
          have hol':m.dB b 0 (len*ax E.P elem)=some (cs.take (len*ax E.P elem)):=by
           simp only[PJ.dB,hg,List.drop_zero];rw[MG hol]
          obtain⟨old',g1,g0⟩:=h.dB hj hol';obtain⟨c6,rest,w0,h0,⟨hle,hmx⟩,hlr,hrp,hr⟩:=jT (P:=E.P) (zeros:=zeros) (s:=.slice (some ⟨k.c,0,none⟩) len cap') (x:=x') (base:=some ⟨k.c,0,none⟩) (sLen:=len) (sCap:=cap') (old:=old') happ
           (fun w0 h0=>g1 w0 h0) hfits hi hz' hfit hb hzs' hzp (by rw[<-g0.1]; exact hol) hnl
          have sk:=Ex h hj;obtain⟨j',s1,s2⟩:=iF sk.mr h0 (elem:=elem) (g0.append hnew) (n:=len+n) (by rw[MV,hol,hlen,Nc]) hlr hle hsz hrp hmx
          exact⟨j',_,_,by rw[hrun]; exact hr,sk.trans h s1,s2⟩
        cases e
       cases e
      ·
       rename_i htag
       split at e
       ·rename_i old hold;cases e;have hkm:∀k:Blk,j b=some k->k.more=none:=by
         intro k hj;have:=h.kindOf hj hg;cases tag with
         | more sz=>exact MX rfl (htag sz)
         | ro=>exact this
         | own=>exact this
        cases hs with
        | slice hj hm=>exact hexact _ hj hm _ hold rfl rfl
        | sliceM hj hm e1 e2 hl hc=>rw[hkm _ hj] at hm; cases hm
       cases e
    cases e
   ·
    rename_i b o
    split at e
    cases e
    ·rename_i h4;have hlc:len=0/\cap=0:=by omega
     obtain⟨rfl,rfl⟩:=hlc;cases hs with
     | dry =>
     rename_i a'
     split at e
     rename_i hn; subst hn; cases e;have:new'=[]:=NC (by rw[hnl]; simp)
     subst this;refine⟨j,w,_,?_,.refl h,.dry (a':=a')⟩;rw[hrun];exact jk (happ w rfl) (by omega) rfl
     rename_i hn; cases e;obtain⟨cap',rest,w0,h0,⟨hle,hmx⟩,hlr,hrp,hr⟩:=jT (P:=E.P) (zeros:=zeros) (s:=.slice (some a') 0 0) (x:=x') (base:=some a') (sLen:=0) (sCap:=0) (old:=[]) happ
      (fun w0 _=>by simp[Builtin.firstCells,loadCells,loadCellsFrom]) (by omega) hi hz' (by simpa using hfit) hb hzs' hzp (by simp) hnl
     obtain⟨j',s1,s2⟩:=iF h h0 (elem:=elem) hnew hlen (by simpa using hlr) (by omega) hsz hrp hmx
     refine⟨j',_,_,by rw[hrun]; exact hr,by simpa using s1,by simpa using s2⟩
   ·split at e
    ·rename_i hnil hmem hdry h4;obtain⟨rfl,rfl,rfl⟩:=h4;cases e;have:new'=[]:=NC (by rw[hnl]; simp)
     subst this;cases hs with
     | snil=>exact MX rfl hnil
     | slice hj hm=>exact MX rfl (hmem _ _)
     | sliceM hj hm e1 e2 hl hc=>exact MX rfl (hmem _ _)
     | dry=>exact MX rfl (hdry _ _)
     | gA =>
      rename_i a' cap';refine⟨j,w,_,?_,.refl h,.gA (a':=a') (cap':=cap')⟩;rw[hrun];exact jk (happ w rfl) (by omega) rfl
    cases e
 cases e
end
section
variable{E:Env}{j:aI}{m:PJ}{w:OS}
def EZ (h:MR E j m w) {t:OO} {d d' s s' v:ON} {m':PJ} (e:qK E.P t d s m=some (v,m')) (hd:VR j d d') (hs:VR j s s') {ts:PO OO} (h0:ts[0]? = some t) (ty:OO) :
  ∃w' v',(Builtin.copy_ ts ty #[d',s']).run E.P w=.ok v' w'/\Sim E j m w j m' w'/\VR j v v':=by
 unfold qK at e
 split at e
 ·rename_i elem base dLen dCap sa sLen sCap hu;simp only at e
  split at e
  cases e
  ·rename_i hk;have hk':known E.P elem=true:=by simpa using hk
   split at e
   cases e
   ·rename_i cells hsrc
    split at e
    cases e
    ·rename_i hone;have hone':bh cells=true:=by simpa using hone
     obtain⟨cells',hc1,hc2⟩:=vz h hsrc hs;have hlen:∀w0:OS,(Builtin.lenOf s').run E.P w0=.ok sLen w0:=by
      intro w0;cases hs<;>rfl
     have hbase:∃base' dCap',d'=.slice base' dLen dCap'/\(∀b o,base=some ⟨b,o,none⟩->∃k:Blk,j b=some k/\base'=some ⟨k.c,o,none⟩):=by
      cases hd with
      | snil=>exact⟨_,_,rfl,fun b o e=>by cases e⟩
      | slice hj hm=>exact⟨_,_,rfl,fun b o e=>by cases e; exact⟨_,hj,rfl⟩⟩
      | sliceM hj hm e1 e2 hl hc=>exact⟨_,_,rfl,fun b o e=>by cases e; exact⟨_,hj,rfl⟩⟩
      | gA=>exact⟨_,_,rfl,fun b o e=>by cases e⟩
      | dry=>exact⟨_,_,rfl,fun b o e=>by cases e⟩
     obtain⟨base',dCap',rfl,hb⟩:=hbase;have hrun0:∀K:ON->OS->Result ON,True:=fun _=>trivial
     split at e
     rename_i hn;cases e;have hcl:cells=[]:=by
      unfold cd at hsrc
      split at hsrc<;>first |(split at hsrc<;>first |(cases hsrc; rfl) |(cases hsrc; done) |(rename_i hne; exact MX hn hne)) |(cases hsrc; done)
     subst hcl;have:cells'=[]:=hc2.dc;subst this;refine⟨w,.int .i64 0,?_,.refl h,.int _ _⟩;have hmin:Nat.min sLen dLen=0:=hn;simp only[Builtin.copy_,h0,MQ,MM,Nl,PR,PT hu,PQ,hlen,hmin,cr hk'];rw[hn] at hc1;simp only[hc1 w rfl,PQ];cases base'<;>rfl
     ·rename_i b o n hn;cases hst:m.dn b o cells with
      | none=>rw[hst] at e; cases e
      | some m1 =>
       rw[hst] at e; cases e;obtain⟨k,hj,rfl⟩:=hb b o rfl;obtain⟨w',g1,g2⟩:=hZ h hj hc2 hone' hst;refine⟨w',.int .i64 (n+1:Nat),?_,g2,.int _ _⟩;have hmin:Nat.min sLen dLen=n+1:=hn;simp only[Builtin.copy_,h0,MQ,MM,Nl,PR,PT hu,PQ,hlen,hmin,cr hk'];rw[hn] at hc1;simp only[hc1 w rfl,PQ,g1,PS,goInt]
     cases e
 cases e
def A7(h:MR E j m w){t:OO}{x x' v:ON}{m':PJ}(e:yN E.P t x m=some (v,m'))(hx:VR j x x'){ts:PO OO}(h0:ts[0]? = some t)(ty:OO) :
  ∃w' v',(Builtin.clear_ ts ty #[x']).run E.P w=.ok v' w'/\Sim E j m w j m' w'/\VR j v v':=by
 unfold yN at e
 split at e
 rename_i elem a c hu;cases e;refine⟨w,.tuple #[],?_,.refl h,VR.undef j⟩;cases hx<;>simp only[Builtin.clear_,h0,MQ,MM,PR,PT hu,PQ]<;>rfl
 ·rename_i elem b o n c hnz hu
  split at e
  ·rename_i zs hz
   split at e
   ·rename_i hp;cases hst:m.dn b o zs with
    | none=>rw[hst] at e; cases e
    | some m1 =>
     rw[hst] at e; cases e;obtain⟨z,hz1,hz2,hz3⟩:=iJ hz;have hone:bh zs=true:=by
      unfold bh;rw[MK] at hp ⊢;intro v hv;have:=hp v hv;cases v<;>first|rfl |(simp[aM] at this)
     have hn0:n≠0:=fun e=>hnz e;have hzc:(Builtin.zeroCells z.cells n).toList=zs:=by rw[hz3]; exact kq n
     have hgo:∀k:Blk,j b=some k->∃w',(storeCells ⟨k.c,o,none⟩ zs).run E.P w=.ok () w'/\Sim E j m w j m' w':=fun k hj=>hZ h hj (LR.plain hp) hone hst;cases hx with
     | slice hj hm =>
      obtain⟨w',g1,g2⟩:=hgo _ hj;refine⟨w',.tuple #[],?_,g2,VR.undef j⟩;simp only[Builtin.clear_,h0,MQ,MM,PR,PT hu,PQ];cases n with
      | zero=>exact MX rfl hn0
      | succ n=>simp only[gY hz1,PQ,hzc,g1,PS]
     | sliceM hj hm e1 e2 hl hc =>
      obtain⟨w',g1,g2⟩:=hgo _ hj;refine⟨w',.tuple #[],?_,g2,VR.undef j⟩;simp only[Builtin.clear_,h0,MQ,MM,PR,PT hu,PQ];cases n with
      | zero=>exact MX rfl hn0
      | succ n=>simp only[gY hz1,PQ,hzc,g1,PS]
   cases e
  cases e
 cases e
def o7:∀(vs vs':PM ON) (k:IntKind) (a:Int) (v:ON),eg (fun x y=>if y>x then y else x) k a vs=some v->LR j vs vs'->∀w,(vs'.foldlM Builtin.max2 (.int k a)).run E.P w=.ok v w
 | [],vs',k,a,v,e,hl,w=>by rw[hl.dc]; cases e; rfl
 | x::vs,vs',k,a,v,e,hl,w=>by
  obtain⟨y,ys,rfl,h1,h2⟩:=hl.cons_inv;cases x<;>simp only[eg] at e<;>first |(cases e; done)|skip
  cases h1;simp only[List.foldlM_cons,Builtin.max2,PR,PS,PQ];exact o7 vs ys k _ v e h2 w
def oW:∀(vs vs':PM ON) (k:IntKind) (a:Int) (v:ON),eg (fun x y=>if y<x then y else x) k a vs=some v->LR j vs vs'->∀w,(vs'.foldlM Builtin.min2 (.int k a)).run E.P w=.ok v w
 | [],vs',k,a,v,e,hl,w=>by rw[hl.dc]; cases e; rfl
 | x::vs,vs',k,a,v,e,hl,w=>by
  obtain⟨y,ys,rfl,h1,h2⟩:=hl.cons_inv;cases x<;>simp only[eg] at e<;>first |(cases e; done)|skip
  cases h1;simp only[List.foldlM_cons,Builtin.min2,PR,PS,PQ];exact oW vs ys k _ v e h2 w
def jR(f:Int->Int->Int):∀(vs:PM ON) (k:IntKind) (a:Int) (v:ON),eg f k a vs=some v->∃n,v=.int k n
 | [],k,a,v,e=>by cases e; exact⟨a,rfl⟩
 | x::vs,k,a,v,e=>by
  cases x<;>simp only[eg] at e<;>first |(cases e; done)|exact jR f vs k _ v e
def ER.len:∀{a:PM (ON×ON)} {b:PM MapEntry},ER j a b->a.length=b.length
 | [],[],_=>rfl
 | _::_,_::_,h=>by simp[ER.len h.2.2]
 | [],_::_,h=>h.elim
 | _::_,[],h=>h.elim
def wU (h:MR E j m w) {b:Builtin} {ts:PO OO} {args args':PM ON} {v:ON} {m':PJ} (e:bD E.P b ts args m=some (v,m')) (ha:LR j args args') (ty:OO) (cs:PO Bool) :
  (m'=m/\(∀m2:PJ,((b=.len\/b=.cap)->∀x b0,args=[x]->fO x=some b0->m2.get b0=m.get b0)->bD E.P b ts args m2=some (v,m2))/\∃v',(builtin b ts ty cs args'.toArray).run E.P w=.ok (.value v') w/\VR j v v') \/
  ((b=.append\/b=.copy\/b=.clear\/b=.delete)/\∃j' w' v',(builtin b ts ty cs args'.toArray).run E.P w=.ok (.value v') w'/\Sim E j m w j' m' w'/\VR j' v v'):=by
 unfold bD at e
 split at e
 ·
  rename_i x;obtain⟨x',l,rfl,hx,hl⟩:=ha.cons_inv;rw[hl.dc];refine .inl ?_;have k0:∀n:Int,(Builtin.len_ ts ty [x'].toArray).run E.P w=.ok (.int .i64 n) w->∃v',(builtin .len ts ty cs [x'].toArray).run E.P w=.ok (.value v') w/\VR j (.int .i64 n) v' :=
   fun n hr=>⟨_,by simp only[builtin,PR,hr,PQ,PS],.int _ _⟩
  cases ht:ts[0]? with
  | none=>rw[ht] at e; simp at e
  | some t =>
   rw[ht] at e;simp only[M3] at e
   split at e
   rename_i hu; cases e; cases hx;exact⟨rfl,fun m2 h0=>by simp only[bD,ht,M3,hu],k0 _ (by simp only[Builtin.len_,ht,MQ,MM,PR,PT hu,PQ,PS,goInt])⟩
   rename_i hu; cases e;exact⟨rfl,fun m2 h0=>by simp only[bD,ht,M3,hu],k0 _ (by simp only[Builtin.len_,ht,MQ,MM,PR,PT hu,PQ,PS,goInt])⟩
   rename_i a hu
   split at e
   rename_i h4; cases e;exact⟨rfl,fun m2 h0=>by simp only[bD,ht,M3,hu,h4],k0 _ (by simp only[Builtin.len_,ht,MQ,MM,PR,PT hu,PT h4,PQ,PS,goInt])⟩
   cases e
   rename_i hu; cases e;cases hx<;>exact⟨rfl,fun m2 h0=>by simp only[bD,ht,M3,hu],k0 _ (by simp only[Builtin.len_,ht,MQ,MM,PR,PT hu,PQ,PS,goInt])⟩
   ·rename_i hu;cases hes:mapOf m _ with
    | none=>rw[hes] at e; cases e
    | some es =>
     rw[hes] at e; cases e;unfold mapOf at hes
     split at hes
     cases hes; cases hx;exact⟨rfl,fun m2 h0=>by simp only[bD,ht,M3,hu,mapOf,MB],k0 _ (by simp only[Builtin.len_,ht,MQ,MM,PR,PT hu,PQ,PS,goInt]; rfl)⟩
     ·rename_i r
      split at hes
      ·rename_i e0 hg;cases hes;cases hx with
       | map hj =>
       obtain⟨es',clock,h1,h2⟩:=h.AN hj hg;have hlen:es.length=es'.size:=by
        simpa using ER.len h2
       exact⟨rfl,fun m2 h0=>by simp only[bD,ht,M3,hu,mapOf,h0 (.inl rfl) _ _ rfl rfl,hg,MB],k0 _ (by simp only[Builtin.len_,ht,MQ,MM,PR,PT hu,PQ,run_getObj_map h1,PS,goInt,hlen])⟩
      cases hes
     cases hes
   cases e
 ·
  rename_i x;obtain⟨x',l,rfl,hx,hl⟩:=ha.cons_inv;rw[hl.dc];refine .inl ?_;have k0:∀n:Int,(Builtin.cap_ ts ty [x'].toArray).run E.P w=.ok (.int .i64 n) w->∃v',(builtin .cap ts ty cs [x'].toArray).run E.P w=.ok (.value v') w/\VR j (.int .i64 n) v' :=
   fun n hr=>⟨_,by simp only[builtin,PR,hr,PQ,PS],.int _ _⟩
  cases ht:ts[0]? with
  | none=>rw[ht] at e; simp at e
  | some t =>
   rw[ht] at e;simp only[M3] at e
   split at e
   rename_i hu; cases e; cases hx;exact⟨rfl,fun m2 h0=>by simp only[bD,ht,M3,hu],k0 _ (by simp only[Builtin.cap_,ht,MQ,MM,PR,PT hu,PQ,PS,goInt])⟩
   ·rename_i b0 o l0 n hu
    split at e
    cases e
    ·rename_i c0 tag htag hg;cases e;cases hx with
     | slice hj hm =>
      refine⟨rfl,fun m2 h0=>?_,k0 _ (by simp only[Builtin.cap_,ht,MQ,MM,PR,PT hu,PQ,PS,goInt])⟩
      have h5:m2.get b0=some (.cells c0 tag):=(h0 (.inr rfl) _ _ rfl rfl).trans hg;simp only[bD,ht,M3,hu,h5]
     | sliceM hj hm e1 e2 hl hc =>
      have:=h.kindOf hj hg;cases tag with
      | more sz=>exact MX rfl (htag sz)
      | ro=>simp only at this; rw[hm] at this; cases this
      | own=>simp only at this; rw[hm] at this; cases this
    cases e
   cases e
 
 rename_i s x;obtain⟨s',l,rfl,hs,hl⟩:=ha.cons_inv;obtain⟨x',l',rfl,hx,hl'⟩:=hl.cons_inv;rw[hl'.dc]
 split at e
 rename_i t ht;obtain⟨j',w',v',h1,h2,h3⟩:=zK h e hs hx ht rfl ty;exact .inr ⟨by simp,j',w',v',by simp only[builtin,PR]; rw[h1]; rfl,h2,h3⟩
 cases e
 
 rename_i d s;obtain⟨d',l,rfl,hd,hl⟩:=ha.cons_inv;obtain⟨s',l',rfl,hs,hl'⟩:=hl.cons_inv;rw[hl'.dc]
 split at e
 rename_i t ht;obtain⟨w',v',h1,h2,h3⟩:=EZ h e hd hs ht ty;exact .inr ⟨by simp,j,w',v',by simp only[builtin,PR]; rw[h1]; rfl,h2,h3⟩
 cases e
 
 rename_i x;obtain⟨x',l,rfl,hx,hl⟩:=ha.cons_inv;rw[hl.dc]
 split at e
 rename_i t ht;obtain⟨w',v',h1,h2,h3⟩:=A7 h e hx ht ty;exact .inr ⟨by simp,j,w',v',by simp only[builtin,PR]; rw[h1]; rfl,h2,h3⟩
 cases e
 ·
  rename_i x k;obtain⟨x',l,rfl,hx,hl⟩:=ha.cons_inv;obtain⟨k',l',rfl,hk,hl'⟩:=hl.cons_inv;rw[hl'.dc]
  split at e
  ·rename_i t ht;cases hd:pO E.P t x k m with
   | none=>rw[hd] at e; cases e
   | some m1 =>
    rw[hd] at e; cases e;obtain⟨w',h1,h2⟩:=zi h hd hx hk ts ht ty;exact .inr ⟨by simp,j,w',.tuple #[],by simp only[builtin,PR]; rw[h1]; rfl,h2,VR.undef j⟩
  cases e
 ·
  rename_i k a vs;obtain⟨x',l,rfl,hx,hl⟩:=ha.cons_inv;cases hx;cases hf:eg (fun x y=>if y>x then y else x) k a vs with
  | none=>rw[hf] at e; cases e
  | some r =>
   rw[hf] at e; cases e;obtain⟨n,rfl⟩:=jR _ _ _ _ _ hf;refine .inl ⟨rfl,fun m2 _=>by simp only[bD,hf,MB],.int k n,?_,.int _ _⟩
   have:=o7 (E:=E) vs l k a _ hf hl w;simp only[builtin,PR,Builtin.max_,this,PQ,PS]
 ·
  rename_i k a vs;obtain⟨x',l,rfl,hx,hl⟩:=ha.cons_inv;cases hx;cases hf:eg (fun x y=>if y<x then y else x) k a vs with
  | none=>rw[hf] at e; cases e
  | some r =>
   rw[hf] at e; cases e;obtain⟨n,rfl⟩:=jR _ _ _ _ _ hf;refine .inl ⟨rfl,fun m2 _=>by simp only[bD,hf,MB],.int k n,?_,.int _ _⟩
   have:=oW (E:=E) vs l k a _ hf hl w;simp only[builtin,PR,Builtin.min_,this,PQ,PS]
 cases e
end
section
variable{E:Env}{j:aI}{m:PJ}{w:OS}{t:Tm}{n:Nat}{a:Act}
def aF(h:MR E j m w)(ht:TR n j t a.tmps){x:OP}{v:ON}(e:au E t x=some v):VR j v (a.eval x):=by
 unfold au at e
 split at e
 cases e; exact ht.2 _
 split at e
 rename_i hp; cases e; exact VR.bu hp
 cases e
 split at e
 rename_i hg; cases e; exact .ptr (h.glob _ hg)
 cases e
 cases e; exact .func rfl (fun i a _=>by simp at a) rfl (fun i a _=>by simp at a)
def ee(h:MR E j m w)(ht:TR n j t a.tmps):∀{xs:PM OP} {vs:PM ON},bI E t xs=some vs->LR j vs (xs.map a.eval)
 | [],vs,e=>by cases e; exact .nil j
 | x::xs,vs,e=>by
  simp only[bI] at e
  split at e
  rename_i v vs' h1 h2;cases e;exact .cons (aF h ht h1) (ee h ht h2)
  cases e
def iM(h:MR E j m w)(ht:TR n j t a.tmps):∀{xs:PM (Nat×OP)} {vs:PM (Nat×ON)},cX E t xs=some vs ->
  vs.map (·.1)=(xs.map fun p=>(p.1,a.eval p.2)).map (·.1)/\LR j (vs.map (·.2)) ((xs.map fun p=>(p.1,a.eval p.2)).map (·.2))
 | [],vs,e=>by cases e; exact⟨rfl,.nil j⟩
 |(i,x)::xs,vs,e=>by
  simp only[cX] at e
  split at e
  rename_i v vs' h1 h2;cases e;obtain⟨h3,h4⟩:=iM h ht h2;exact⟨by simpa using h3,.cons (aF h ht h1) h4⟩
  cases e
def ml(h:MR E j m w)(ht:TR n j t a.tmps){x:PE OP}{v:PE ON}(e:dk E t x=some v):OVR j v (x.map a.eval):=by
 cases x with
 | none=>cases e; exact .none
 | some x =>
  simp only[dk] at e;cases hv:au E t x with
  | none=>rw[hv] at e; cases e
  | some v0=>rw[hv] at e; cases e; exact .some (aF h ht hv)
def jO(P:OQ)(s:Sem Next)(v:ON)(w w':OS):Prop:=s.run P w=.ok (.value v) w'\/(s.run P w=.ok .skip w'/\v=undef)
def jO.value{P:OQ}{s:Sem ON}{v:ON}{w w':OS}(h:s.run P w=.ok v w'):jO P (do pure (.value (<-s))) v w w' :=
 .inl (by simp only[PR,h,PQ,PS])
def jO.unit{P:OQ}{s:Sem PN}{w w':OS}(h:s.run P w=.ok () w'):jO P (do s; pure .skip) undef w w' :=
 .inr ⟨by simp only[PR,h,PQ,PS],rfl⟩
def map_some{α β:Type}{f:α->β}{x:PE α}{y:β}(h:x.map f=some y):∃a,x=some a/\y=f a:=by
 cases x with
 | none=>cases h
 | some a=>cases h; exact⟨a,rfl,rfl⟩
def xN{m2 m:PJ}{b o n:Nat}(h:m2.get b=m.get b):m2.dB b o n=m.dB b o n:=by simp only[PJ.dB,h]
def wj{P:OQ}{t:OO}{p:ON}{m2 m:PJ}(h:∀b0,fO p=some b0->m2.get b0=m.get b0):dz P t p m2=dz P t p m:=by
 unfold dz
 split
 rename_i b o;have hb:=h b rfl;simp only[xN hb,hb]
 rfl
def tL{P:OQ}{t:OO}{p:ON}{l hh k:PE ON}{m2 m:PJ}(h:∀b0,fO p=some b0->m2.get b0=m.get b0):cB P t p l hh k m2=cB P t p l hh k m:=by
 unfold cB
 split
 rfl
 rename_i b o len cap _;simp only[h b rfl]
 rfl
 rename_i b o _;simp only[h b rfl]
 rfl
def rW{P:OQ}{t:OO}{p q:ON}{ok:Bool}{m2 m:PJ}(h:∀b0,fO p=some b0->m2.get b0=m.get b0):dI P t p q ok m2=dI P t p q ok m:=by
 have:mapOf m2 p=mapOf m p:=by
  unfold mapOf
  split
  rfl
  rename_i r; simp only[h r rfl]
  rfl
 unfold dI;simp only[this]
def HR(E:Env)(j:aI)(m:PJ)(w:OS)(t:Tm)(a:Act)(o:Oper)(v:ON)(m':PJ):Prop :=
 m'=m/\(∀m2:PJ,(∀b0,aQ E t o.op=some b0->m2.get b0=m.get b0)->cD E t m2 o.op=some (v,m2))/\∃v',jO E.P (execOp a.eval o) v' w w/\VR j v v'
def Ka(E:Env)(j:aI)(m:PJ)(w:OS)(t:Tm)(a:Act)(o:Oper)(v:ON)(m':PJ):Prop :=
 ∃(ao:PL) (co:Obj) (vb:Nat->ON) (v':ON),v=vb m.next/\m'=m.alloc ao/\jO E.P (execOp a.eval o) v' w (w.alloc co)/\OR j ⟨w.heap.size,none⟩ ao co /\
  (∀(j':aI) (b:Nat),j' b=some ⟨w.heap.size,none⟩->VR j' (vb b) v')/\∀m2:PJ,cD E t m2 o.op=some (vb m2.next,m2.alloc ao)
def vG(h:MR E j m w)(ht:TR n j t a.tmps){o:Oper}{v:ON}{m':PJ}(e:cD E t m o.op=some (v,m')) :
  HR E j m w t a o v m'\/Ka E j m w t a o v m'\/(aA o.op=true/\∃j' w' v',jO E.P (execOp a.eval o) v' w w'/\Sim E j m w j' m' w'/\VR j' v v'):=by
 have hpure:∀{s:Sem ON} {f:PJ->PE ON} {v0:ON} {m0:PJ},(∀m2:PJ,cD E t m2 o.op=(f m2).map fun v=>(v,m2))->(∀m2:PJ,(∀b0,aQ E t o.op=some b0->m2.get b0=m.get b0)->f m2=f m) ->
   (∀v1,f m=some v1->∃v',s.run E.P w=.ok v' w/\VR j v1 v')->(f m).map (fun v=>(v,m))=some (v0,m0)->execOp a.eval o=(do pure (.value (<-s))) ->
   HR E j m w t a o v0 m0:=by
  intro s f v0 m0 hf hf2 h1 h2 hx;obtain⟨v1,hr,he⟩:=map_some h2;cases he;obtain⟨v',h3,h4⟩:=h1 _ hr;exact⟨rfl,fun m2 hm2=>by rw[hf,hf2 m2 hm2,hr]; rfl,v',by rw[hx]; exact .value h3,h4⟩
 cases hop:o.op<;>rw[hop] at e<;>simp only[cD] at e<;>try(cases e; done)
 case move x =>
  refine .inl ⟨(by obtain⟨v1,hv,he⟩:=map_some e; cases he; rfl),fun m2 _=>?_,?_⟩
  rw[hop]; obtain⟨v1,hv,he⟩:=map_some e; cases he;simp only[cD,hv,MB]
  obtain⟨v1,hv,he⟩:=map_some e;cases he;exact⟨_,.inl (by simp only[execOp,hop]; rfl),aF h ht hv⟩
 case assign x =>
  refine .inl ⟨(by obtain⟨v1,hv,he⟩:=map_some e; cases he; rfl),fun m2 _=>?_,?_⟩
  rw[hop]; obtain⟨v1,hv,he⟩:=map_some e; cases he;simp only[cD,hv,MB]
  obtain⟨v1,hv,he⟩:=map_some e;cases he;exact⟨_,.inl (by simp only[execOp,hop]; rfl),aF h ht hv⟩
 case pick c x y =>
  have hx:execOp a.eval o=(do pure (.value (if <-asBool (a.eval c) then a.eval x else a.eval y))):=by simp only[execOp,hop]
  refine .inl ?_
  split at e
  rename_i hc;obtain⟨v1,hv,he⟩:=map_some e;cases he;have hb:=aF h ht hc;refine⟨rfl,fun m2 _=>by rw[hop]; simp only[cD,hc,hv,MB],a.eval x,?_,aF h ht hv⟩
  rw[hx];generalize a.eval c=cv at hb;cases hb;exact .inl rfl
  rename_i hc;obtain⟨v1,hv,he⟩:=map_some e;cases he;have hb:=aF h ht hc;refine⟨rfl,fun m2 _=>by rw[hop]; simp only[cD,hc,hv,MB],a.eval y,?_,aF h ht hv⟩
  rw[hx];generalize a.eval c=cv at hb;cases hb;exact .inl rfl
  cases e
 case alloc elem =>
  have hx:execOp a.eval o=(do pure (.value (<-Instr.alloc elem true (.tuple #[])))):=by simp only[execOp,hop]
  split at e
  rename_i z hz
  split at e
  rename_i hp;cases e;refine .inr (.inl ⟨_,.cells z.cells elem,fun b=>ptr b 0,.pointer (some ⟨w.heap.size,0,none⟩),rfl,rfl,?_,OR.own (gD (VR.bu hp)),fun j' b hb=>.ptr hb,fun m2=>by rw[hop]; simp only[cD,hz,hp,if_true]⟩)
  rw[hx];refine .value ?_;simp only[Instr.alloc,PR,gY hz,PQ,newVar,newRow,run_newObj,PS,World.alloc_eq]
  cases e
  cases e
 case box elem x =>
  have hx:execOp a.eval o=(do pure (.value (<-Instr.box elem (a.eval x)))):=by simp only[execOp,hop]
  obtain⟨v1,hv,he⟩:=map_some e;cases he;refine .inr (.inl ⟨_,.cells (a.eval x).cells elem,fun b=>ptr b 0,.pointer (some ⟨w.heap.size,0,none⟩),rfl,rfl,?_,OR.own (gD (aF h ht hv)),fun j' b hb=>.ptr hb,fun m2=>by rw[hop]; simp only[cD,hv,MB]⟩)
  rw[hx];refine .value ?_;simp only[Instr.box,PR,newVar,newRow,run_newObj,PQ,PS,World.alloc_eq]
 case build ty parts =>
  have hx:execOp a.eval o=(do pure (.value (<-Instr.build ty (parts.map fun(i,x)=>(i,a.eval x))))):=by simp only[execOp,hop]
  split at e
  rename_i ps z hps hz
  split at e
  rename_i hp;obtain⟨h1,h2⟩:=iM h ht hps;refine .inl (hpure (f:=fun _=>jB E.P ty ps) (fun m2=>by rw[hop]; simp only[cD,hps,hz,MG hp]) (fun _ _=>rfl) (fun v1 hv1=>?_) e hx)
  obtain⟨v',h3,h4⟩:=B5 hv1 h1 h2 hz hp;refine⟨v',?_,h4⟩;have:(parts.map fun(i,x)=>(i,a.eval x))=(parts.toList.map fun p=>(p.1,a.eval p.2)).toArray:=by
   apply Nd.1; simp
  rw[this]; exact h3 w
  cases e
  cases e
 case buildSlice ty len parts =>
  have hx:execOp a.eval o=(do pure (.value (<-Instr.buildSlice ty len (parts.map fun(i,x)=>(i,a.eval x))))):=by simp only[execOp,hop]
  split at e
  rename_i elem ps hu hps
  split at e
  cases e
  rename_i hc;simp only[NJ,Ng,MW,not_or,Bool.not_eq_false] at hc;obtain⟨hk,hbig⟩:=hc
  split at e
  rename_i zs hz
  split at e
  rename_i hp;obtain⟨cs,hcs,he⟩:=map_some e;cases he;obtain⟨h1,h2⟩:=iM h ht hps;obtain⟨z,hz1,hz2,hz3⟩:=iJ hz;obtain⟨cs',h3,h4⟩:=mN h1 h2 (LR.plain (j:=j) hp) hcs;have hparts:(parts.map fun(i,x)=>(i,a.eval x)).toList=parts.toList.map fun p=>(p.1,a.eval p.2):=by simp
  refine .inr (.inl ⟨_,.cells cs'.toArray elem,fun b=>.slice (some ⟨b,0,none⟩) len len,.slice (some ⟨w.heap.size,0,none⟩) len len,rfl,rfl,?_,OR.own (by simpa using h4),fun j' b hb=>.slice hb rfl,fun m2=>by rw[hop]; simp only[cD,hu,hps,hk,hz,hp,hcs,Nv hbig,MO,Bool.or_self,MJ,if_true,if_false,MB]⟩)
  rw[hx];refine .value ?_;have hc0:len*ax E.P elem=0->((Array.range (len*ax E.P elem)).map fun i=>(#[]:PO ON)[i%(#[]:PO ON).size]!)=zs.toArray:=by
   intro h0;apply Nd.1;have:zs=[]:=by apply NC; rw[hz3,fH,Oq,hz2,h0]
   simp[h0,this]
  have hc1:((Array.range (len*ax E.P elem)).map fun i=>z.cells[i%z.cells.size]!)=zs.toArray:=by
   apply Nd.1;rw[hz3,<-hz2]; exact kq len
  simp only[Instr.buildSlice,PR,PT hu,PQ,cr hk,Sem.run_ite,ME hbig,hparts]
  split
  rename_i h0;simp only[PS,PQ,hc0 h0,h3,newRow,PR,run_newObj,World.alloc_eq]
  simp only[PR,gY hz1,PS,PQ,hc1,h3,newRow,run_newObj,World.alloc_eq]
  cases e
  cases e
  cases e
 case load ty x =>
  have hx:execOp a.eval o=(do pure (.value (<-Instr.loadAt ty (a.eval x)))):=by simp only[execOp,hop]
  split at e
  rename_i p hp;refine .inl (hpure (f:=fun m2=>dz E.P ty p m2) (fun m2=>by rw[hop]; simp only[cD,hp]) (fun m2 hm2=>?_) (fun v1 hv1=>wq h hv1 (aF h ht hp)) e hx)
  rw[hop] at hm2;simp only[aQ,hp,M3] at hm2;exact wj hm2
  cases e
 case store ty x y =>
  have hx:execOp a.eval o=(do Instr.storeAt ty (a.eval x) (a.eval y); pure .skip):=by simp only[execOp,hop]
  rw[hx]
  split at e
  rename_i p v0 hp hv0;obtain⟨m1,hm1,he⟩:=map_some e;cases he;obtain⟨w',h1,h2⟩:=BE h hm1 (aF h ht hp) (aF h ht hv0);exact .inr (.inr ⟨rfl,j,w',undef,.unit h1,h2,VR.undef j⟩)
  cases e
 case nilCheck x =>
  split at e
  rename_i ad hp;cases e;have hv:=aF h ht hp;refine .inl ⟨rfl,fun m2 _=>by rw[hop]; simp only[cD,hp],a.eval x,.inl ?_,hv⟩
  generalize hxv:a.eval x=xv at hv;cases hv;simp only[execOp,hop,hxv,PS]
  rename_i f fs cs hp;cases e;have hv:=aF h ht hp;refine .inl ⟨rfl,fun m2 _=>by rw[hop]; simp only[cD,hp],a.eval x,.inl ?_,hv⟩
  generalize hxv:a.eval x=xv at hv;cases hv;simp only[execOp,hop,hxv,PS]
  rename_i f fs cs hp;cases e;have hv:=aF h ht hp;refine .inl ⟨rfl,fun m2 _=>by rw[hop]; simp only[cD,hp],a.eval x,.inl ?_,hv⟩
  generalize hxv:a.eval x=xv at hv;cases hv;simp only[execOp,hop,hxv,PS]
  cases e
 case binOp op xt x y yt =>
  have hx:execOp a.eval o=(do pure (.value (<-(do eqGuard op xt x y (a.eval x) (a.eval y); binOp op xt (a.eval x) (a.eval y))))):=by simp only[execOp,hop]
  split at e
  rename_i p q hp hq;refine .inl (hpure (f:=fun _=>bz op xt E.P p q) (fun m2=>by rw[hop]; simp only[cD,hp,hq]) (fun _ _=>rfl) (fun v1 hv1=>?_) e hx)
  obtain⟨v',h1,h2⟩:=Gp hv1 (aF h ht hp) (aF h ht hq) x y;exact⟨v',h1 w,h2⟩
  cases e
 case unOp op xt x =>
  have hx:execOp a.eval o=(do pure (.value (<-Op.unary op (a.eval x)))):=by simp only[execOp,hop]
  split at e
  rename_i p hp;refine .inl (hpure (f:=fun _=>yr op p) (fun m2=>by rw[hop]; simp only[cD,hp]) (fun _ _=>rfl) (fun v1 hv1=>?_) e hx)
  obtain⟨v',h1,h2⟩:=Ji (P:=E.P) hv1 (aF h ht hp);exact⟨v',h1 w,h2⟩
  cases e
 case convert s d x =>
  have hx:execOp a.eval o=(do pure (.value (<-convert s d (a.eval x)))):=by simp only[execOp,hop]
  split at e
  rename_i p hp;refine .inl (hpure (f:=fun _=>fw E.P s d p) (fun m2=>by rw[hop]; simp only[cD,hp]) (fun _ _=>rfl) (fun v1 hv1=>?_) e hx)
  obtain⟨v',h1,h2⟩:=Es hv1 (aF h ht hp);exact⟨v',h1 w,h2⟩
  cases e
 case makeFunc fn first captured =>
  cases fn<;>simp only at e<;>try(cases e; done)
  rename_i f;have hx:execOp a.eval o=(do pure (.value (<-Instr.makeFunc (.func f) (first.map a.eval) (captured.map a.eval)))):=by simp only[execOp,hop]
  split at e
  rename_i fs cs h1 h2;cases e;have h3:=ee h ht h1;have h4:=ee h ht h2;have h3':LR j fs.toArray.toList (first.map a.eval).toList:=by simpa using h3
  have h4':LR j cs.toArray.toList (captured.map a.eval).toList:=by simpa using h4
  refine .inl ⟨rfl,fun m2 _=>by rw[hop]; simp only[cD,h1,h2],_,?_,.func h3'.size h3'.arr h4'.size h4'.arr⟩
  rw[hx]; exact .value rfl
  cases e
 case makeMap ty r =>
  cases r with
  | some _=>simp at e
  | none =>
   simp only at e;cases e;have hx:execOp a.eval o=(do pure (.value (<-Instr.makeMap ty none))):=by simp only[execOp,hop]; rfl
   refine .inr (.inl ⟨.map [],.map #[] 0,fun b=>.map (some b),.map (some w.heap.size),rfl,rfl,?_,⟨trivial,Bp _⟩,fun j' b hb=>.map hb,fun m2=>by rw[hop]; rfl⟩)
   rw[hx];refine .value ?_;simp only[Instr.makeMap,PR,run_newObj,PQ,PS,World.alloc_eq]
 case makeSlice ty l c =>
  have hx:execOp a.eval o=(do pure (.value (<-Instr.makeSlice ty (a.eval l) (a.eval c)))):=by simp only[execOp,hop]
  split at e
  rename_i elem li ci hu hl hc
  split at e
  rename_i hcond;have hcond0:=hcond;obtain⟨h0l,hlc,hany,hk⟩:=hcond;simp only[Option.any_eq_true,My,MW,bne_iff_ne,ne_eq] at hany;obtain⟨i,hi,hby,hb0⟩:=hany
  split at e
  rename_i zs hz
  split at e
  rename_i hp;cases e;obtain⟨z,hz1,hz2,hz3⟩:=iJ hz;have hlv:=aF h ht hl;have hcv:=aF h ht hc;refine .inr (.inl ⟨_,.cells zs.toArray elem,fun b=>.slice (some ⟨b,0,none⟩) li.toNat ci.toNat,.slice (some ⟨w.heap.size,0,none⟩) li.toNat ci.toNat,rfl,rfl,?_,OR.own (LR.plain hp),fun j' b hb=>.slice hb rfl,fun m2=>by rw[hop]; simp only[cD,hu,hl,hc]; rw[MG hcond0]; simp only[hz,hp,if_true]⟩)
  rw[hx];refine .value ?_;generalize a.eval l=lv at hlv;generalize a.eval c=cv at hcv;cases hlv; cases hcv;have hci:ci<=2 ^ 40:=by
   have h1:(1:Int)<=(i.bytes:Int):=by exact_mod_cast Nat.one_le_iff_ne_zero.2 hb0
   have:1*ci<=(i.bytes:Int)*ci:=Int.mul_le_mul_of_nonneg_right h1 (by omega)
   omega
  have hwl:IntKind.i64.wrap li=li:=IntWalk.i64_in li (by omega)
  have hwc:IntKind.i64.wrap ci=ci:=IntWalk.i64_in ci (by omega)
  have hneg:¬(((ci<0 ||(i.bytes:Int)*ci>2 ^ 48)||li<0||li>ci)=true):=by
   simp only[NJ,MW,not_or];omega
  have hc0:ci.toNat*ax E.P elem=0->((Array.range (ci.toNat*ax E.P elem)).map fun i=>(#[]:PO ON)[i%(#[]:PO ON).size]!)=zs.toArray:=by
   intro h0;apply Nd.1;have:zs=[]:=by apply NC; rw[hz3,fH,Oq,hz2,h0]
   simp[h0,this]
  have hc1:((Array.range (ci.toNat*ax E.P elem)).map fun i=>z.cells[i%z.cells.size]!)=zs.toArray:=by
   apply Nd.1;rw[hz3,<-hz2]; exact kq ci.toNat
  simp only[Instr.makeSlice,PR,PT hu,PQ,asInt,asIntOf,PS,rA hi,hwl,hwc,Sem.run_ite,ME hneg,run_askRoom,cr hk]
  split
  rename_i h0;simp only[PS,PQ,hc0 h0,newRow,PR,run_newObj,World.alloc_eq]
  simp only[PR,gY hz1,PS,PQ,hc1,newRow,run_newObj,World.alloc_eq]
  cases e
  cases e
  cases e
  cases e
 case slice ty x lo hi mx =>
  have hx:execOp a.eval o=(do pure (.value (<-Instr.sliceAt ty (a.eval x) (lo.map a.eval) (hi.map a.eval) (mx.map a.eval)))):=by simp only[execOp,hop]
  split at e
  rename_i p l hh k hp h1 h2 h3;refine .inl (hpure (f:=fun m2=>cB E.P ty p l hh k m2) (fun m2=>by rw[hop]; simp only[cD,hp,h1,h2,h3]) (fun m2 hm2=>?_) (fun v1 hv1=>?_) e hx)
  rw[hop] at hm2;simp only[aQ,hp,M3] at hm2;exact tL hm2
  obtain⟨v',g1,g2⟩:=Br h hv1 (aF h ht hp) (ml h ht h1) (ml h ht h2) (ml h ht h3);exact⟨v',g1 w,g2⟩
  cases e
 case fieldAddr s x f =>
  have hx:execOp a.eval o=(do pure (.value (<-Instr.fieldAt s (a.eval x) f))):=by simp only[execOp,hop]
  split at e
  rename_i p hp;refine .inl (hpure (f:=fun _=>aR E.P s p f) (fun m2=>by rw[hop]; simp only[cD,hp]) (fun _ _=>rfl) (fun v1 hv1=>?_) e hx)
  obtain⟨v',g1,g2⟩:=rO hv1 (aF h ht hp);exact⟨v',g1 w,g2⟩
  cases e
 case field ty x f =>
  have hx:execOp a.eval o=(do pure (.value (<-Instr.field ty (a.eval x) f))):=by simp only[execOp,hop]
  split at e
  rename_i p hp;refine .inl (hpure (f:=fun _=>eH E.P ty p f) (fun m2=>by rw[hop]; simp only[cD,hp]) (fun _ _=>rfl) (fun v1 hv1=>?_) e hx)
  obtain⟨v',g1,g2⟩:=Bm hv1 (aF h ht hp);exact⟨v',g1 w,g2⟩
  cases e
 case sliceToArrayPointer ty x =>
  have hx:execOp a.eval o=(do pure (.value (<-Instr.arrayAt ty (a.eval x)))):=by simp only[execOp,hop]
  split at e
  rename_i p hp;refine .inl (hpure (f:=fun _=>zS E.P ty p) (fun m2=>by rw[hop]; simp only[cD,hp]) (fun _ _=>rfl) (fun v1 hv1=>?_) e hx)
  obtain⟨v',g1,g2⟩:=DU hv1 (aF h ht hp);exact⟨v',g1 w,g2⟩
  cases e
 case indexAddr ty x i =>
  have hx:execOp a.eval o=(do pure (.value (<-Instr.indexAt ty (a.eval x) (a.eval i)))):=by simp only[execOp,hop]
  split at e
  rename_i p q hp hq;refine .inl (hpure (f:=fun _=>bM E.P ty p q) (fun m2=>by rw[hop]; simp only[cD,hp,hq]) (fun _ _=>rfl) (fun v1 hv1=>?_) e hx)
  obtain⟨v',g1,g2⟩:=rR hv1 (aF h ht hp) (aF h ht hq);exact⟨v',g1 w,g2⟩
  cases e
 case index ty x i =>
  have hx:execOp a.eval o=(do pure (.value (<-Instr.index ty (a.eval x) (a.eval i)))):=by simp only[execOp,hop]
  split at e
  rename_i p q hp hq;refine .inl (hpure (f:=fun _=>gh E.P ty p q) (fun m2=>by rw[hop]; simp only[cD,hp,hq]) (fun _ _=>rfl) (fun v1 hv1=>?_) e hx)
  obtain⟨v',g1,g2⟩:=BP hv1 (aF h ht hp) (aF h ht hq);exact⟨v',g1 w,g2⟩
  cases e
 case lookup ty x i ok =>
  have hx:execOp a.eval o=(do pure (.value (<-Instr.lookup ty (a.eval x) (a.eval i) ok))):=by simp only[execOp,hop]
  split at e
  rename_i p q hp hq;refine .inl (hpure (f:=fun m2=>dI E.P ty p q ok m2) (fun m2=>by rw[hop]; simp only[cD,hp,hq]) (fun m2 hm2=>?_) (fun v1 hv1=>zE h hv1 (aF h ht hp) (aF h ht hq)) e hx)
  rw[hop] at hm2;simp only[aQ,hp,M3] at hm2;exact rW hm2
  cases e
 case mapUpdate ty x k y =>
  have hx:execOp a.eval o=(do Instr.mapUpdate ty (a.eval x) (a.eval k) (a.eval y); pure .skip):=by simp only[execOp,hop]
  rw[hx]
  split at e
  rename_i p q r hp hq hr;obtain⟨m1,hm1,he⟩:=map_some e;cases he;obtain⟨w',h1,h2⟩:=lH h hm1 (aF h ht hp) (aF h ht hq) (aF h ht hr);exact .inr (.inr ⟨rfl,j,w',undef,.unit h1,h2,VR.undef j⟩)
  cases e
 case insert ty x k y =>
  have hx:execOp a.eval o=(do Instr.mapUpdate ty (a.eval x) (a.eval k) (a.eval y); pure .skip):=by simp only[execOp,hop]
  rw[hx]
  split at e
  rename_i p q r hp hq hr;obtain⟨m1,hm1,he⟩:=map_some e;cases he;obtain⟨w',h1,h2⟩:=lH h hm1 (aF h ht hp) (aF h ht hq) (aF h ht hr);exact .inr (.inr ⟨rfl,j,w',undef,.unit h1,h2,VR.undef j⟩)
  cases e
 case extract x i =>
  have hx:execOp a.eval o=(do pure (.value (<-Instr.extract (a.eval x) i))):=by simp only[execOp,hop]
  split at e
  ·rename_i vs hp;refine .inl (hpure (f:=fun _=>vs[i]?) (fun m2=>by rw[hop]; simp only[cD,hp]) (fun _ _=>rfl) (fun v1 hv1=>?_) e hx)
   have hv:=aF h ht hp;generalize a.eval x=xv at hv;cases hv with
   | tuple h1 h2 =>
   rename_i ys;obtain⟨v',g1,g2⟩:=(LR.eK h1 h2).get (show vs.toList[i]? = some v1 by simpa using hv1)
   refine⟨v',?_,g2⟩;have g1':ys[i]? = some v':=by simpa using g1
   simp only[Instr.extract,g1',PS]
  cases e
 case call c =>
  split at e
  rename_i b hb
  split at e
  rename_i vs hvs;have hx:execOp a.eval o=(do let d <-resolve a.eval c o.type; invoke d.target d.args):=by simp only[execOp,hop]
  have hargs:c.args.map a.eval=(c.args.toList.map a.eval).toArray:=by apply Nd.1; simp
  have hrun:∃cs,(execOp a.eval o).run E.P w=(builtin b c.argTypes o.type cs (c.args.toList.map a.eval).toArray).run E.P w :=
   ⟨_,by rw[hx]; simp only[resolve,hb,PR,PS,PQ,invoke,hargs]; rfl⟩
  obtain⟨cs,hrun⟩:=hrun;rcases wU h e (ee h ht hvs) o.type cs with⟨rfl,hm,v',h1,h2⟩|⟨hbb,j',w',v',h1,h2,h3⟩
  refine .inl ⟨rfl,fun m2 hm2=>?_,v',.inl (hrun.trans h1),h2⟩;rw[hop] at hm2 ⊢;simp only[cD,hb,hvs];refine hm m2 fun hlc x b0 hx1 hx2=>hm2 b0 ?_;subst hx1;rcases hlc with rfl|rfl<;>simp only[aQ,hb,hvs,hx2]
  refine .inr (.inr ⟨?_,j',w',v',.inl (hrun.trans h1),h2,h3⟩);rcases hbb with rfl|rfl|rfl|rfl<;>simp only[aA,hb]
  cases e
  cases e
def El(h:MR E j m w)(ht:TR n j t a.tmps){o:Oper}{v:ON}{m':PJ}(e:cD E t m o.op=some (v,m')) :
  ∃j' w' v',jO E.P (execOp a.eval o) v' w w'/\Sim E j m w j' m' w'/\VR j' v v':=by
 rcases vG h ht e with⟨rfl,_,v',h1,h2⟩|⟨ao,co,vb,v',rfl,rfl,h1,h2,h3,_⟩|⟨_,h1⟩
 exact⟨j,w,v',h1,.refl h,h2⟩
 exact⟨_,_,v',h1,lj h h2,h3 _ _ (aI.cj _ _ _)⟩
 exact h1
end
def EJ:PK->Exit
 | .normal=>.normal
 | .exit id=>.exit id
 | .ret=>.ret
def jh(F:Fence):Prop:=F=Fence.wide\/∃l,F=Fence.wide.inRound l
def jh.fn{F:Fence}(h:jh F)(f:PU):F.fn f:=by
 rcases h with rfl|⟨l,rfl⟩<;>trivial
def jh.room{F:Fence}(h:jh F)(n:Nat):F.room n:=by
 rcases h with rfl|⟨l,rfl⟩<;>intro d hd<;>simp[Fence.wide] at hd
def jh.depth{F:Fence}(h:jh F){n:Nat}:F.depth.isSome=true->1<=n:=by
 rcases h with rfl|⟨l,rfl⟩<;>intro hd<;>simp[Fence.wide] at hd
def jh.calls{F:Fence}(h:jh F){n:Nat}{P:OQ}{f:PU}{args:PO ON}{w:OS}{R:Ending->OS->Prop}(hc:CallsIn Fence.wide n P f args w R):CallsIn F n P f args w R:=by
 rcases h with rfl|⟨l,rfl⟩
 exact hc
 exact hc
def jh.Hq{F:Fence}(h:jh F){n:Nat}{P:OQ}{l:Nat}{f:PU}{tmps:PO ON}{x y:Code}{w:OS}{R:Ending->OS->Prop}(hc:RoundIn Fence.wide n P l f tmps x y w R):RoundIn F n P l f tmps x y w R:=by
 rcases h with rfl|⟨l,rfl⟩
 exact hc
 exact hc
def jJ(j:aI)(r:PE Nat)(F:Fence):Prop :=
 match r with
 | none=>F=Fence.wide
 | some l=>∃k,j l=some k/\F=Fence.wide.inRound k.c
def jJ.wide{j:aI}{r:PE Nat}{F:Fence}(h:jJ j r F):jh F:=by
 cases r with
 | none=>exact .inl h
 | some l=>obtain⟨k,_,rfl⟩:=h; exact .inr ⟨_,rfl⟩
def jJ.mono{j j':aI}(hj:j.le j'){r:PE Nat}{F:Fence}(h:jJ j r F):jJ j' r F:=by
 cases r with
 | none=>exact h
 | some l=>obtain⟨k,h1,rfl⟩:=h; exact⟨k,hj _ _ h1,rfl⟩
def pY(r:Nat):Deferred:={ target:=.collected r,args:=#[]}
def Marks(N:Nat)(w:OS)(ds:PM Deferred):Prop:=∃rs:PM Nat,rs.Nodup/\ds=rs.map pY/\∀r∈rs,N<=r/\w.heap[r]? = some (.deferred (some []))
def Marks.nil(N:Nat)(w:OS):Marks N w []:=⟨[],List.nodup_nil,rfl,fun r h=>by simp at h⟩
def wQ{E:Env}{j:aI}{m:PJ}{w:OS}(h:MR E j m w){r:Nat}(hr:w.heap[r]? = some (.deferred (some []))):∀b k,j b=some k->(m.get b).isSome=true->k.c≠r:=by
 intro b k hb hl he;cases hg:m.get b with
 | none=>rw[hg] at hl; cases hl
 | some o =>
  obtain⟨o',h1,h2⟩:=h.obj b o k hg hb;rw[he,hr] at h1;cases h1;cases o<;>exact h2.elim
def Marks.B6{E:Env}{j j':aI}{m m':PJ}{w w':OS}(h:MR E j m w)(s:Sim E j m w j' m' w'){N:Nat}{ds:PM Deferred}(hm:Marks N w ds):Marks N w' ds:=by
 obtain⟨rs,h1,h2,h3⟩:=hm;refine⟨rs,h1,h2,fun r hr=>⟨(h3 r hr).1,?_⟩⟩;have hh:=(h3 r hr).2;rw[s.frame r (MI.1 hh).1 fun b k hb hl he=>MX he (wQ h hh b k hb hl)];exact hh
def jW(E:Env)(j:aI)(m:PJ)(w:OS)(N n:Nat)(e:PK)(t:Tm)(m':PJ):Exit->Act->OS->Prop:=fun e' a' w' =>
 e'=EJ e/\∃j',Sim E j m w j' m' w'/\TR n j' t a'.tmps/\Marks N w' a'.defers
def An(E:Env)(cs:Nat->OQ->Fence->(Exit->Act->OS->Prop)->Act->OS->Prop)(fr:Fr)(m:PJ)(r:Res):Prop :=
 ∃e t m',r=.code e t m'/\∀(j:aI) (w:OS) (a:Act) (F:Fence) (N:Nat),MR E j m w->TR fr.n j fr.tmps a.tmps->jJ j fr.round F->Marks N w a.defers->N<=w.heap.size ->
  cs 0 E.P F (jW E j m w N fr.n e t m') a w
def dL(P:OQ)(pr:Bool)(f:PU)(args:PO ON)(w:OS)(R:ON->OS->Prop):Prop :=
 ((callFunc f args).run P w=.ok (.enter f args) w/\CallsIn Fence.wide 0 P f args w (fun e w'=>∃v,e=.returned v/\R v w')) \/
  (pr=true/\∃v w',(callFunc f args).run P w=.ok (.value v) w'/\R v w')
def fo(E:Env)(j:aI)(m:PJ)(w:OS)(v:ON)(m':PJ):ON->OS->Prop:=fun v' w'=>∃j',Sim E j m w j' m' w'/\VR j' v v'
def GM(E:Env)(f:PU)(args:PM ON)(m:PJ)(r:Res):Prop :=
 ∃v m',r=.val v m'/\∀(j:aI) (w:OS) (args':PM ON),MR E j m w->LR j args args'->dL E.P (E.cR f).isSome f args'.toArray w (fo E j m w v m')
def D8(E:Env)(l:Nat)(args:PM ON)(m:PJ)(r:Res):Prop :=
 ∃v m',r=.val v m'/\∀(j:aI) (w:OS) (k:Blk) (args':PM ON),MR E j m w->j l=some k->LR j args args' ->
  ∃fn tmps assign body,(Instr.yield k.c args'.toArray).run E.P w=.ok (.round k.c fn tmps assign body) w /\
   RoundIn Fence.wide 0 E.P k.c fn tmps assign body w (fun e w'=>∃v',e=.returned v'/\fo E j m w v m' v' w')
def mz(F:Fence)(n:Nat)(P:OQ)(c:Code)(Q:Exit->Act->OS->Prop)(a:Act)(w:OS):Prop :=
 ∀(b:Frame) (k:PM Item) (cs:PM Frame),b.roundOf=F.round->F.fn b.fn->F.room (cs.length+1+n) ->
  ∃e a' w',Q e a' w'/\ArrivesIn (Machine.fenced P F) P (lone (b.atR a (.code c::.inLoop c::k)) cs w) b k cs e a' w'
def cA(E:Env):Task->Res->Prop
 | .code c fr m,r=>An E (fun n P F Q a w=>c.wpIn F n P Q a w) fr m r
 | .loop c fr m,r=>An E (fun n P F Q a w=>mz F n P c Q a w) fr m r
 | .call f args m,r=>GM E f args m r
 | .round l args m,r=>D8 E l args m r
structure EnvOk(E:Env):Prop where
 call:∀f fn c,E.P.funcs[f]? = some fn->fn.body=some c->∀args w,(callFunc f args).run E.P w=.ok (.enter f args) w
 mixed:E.P.follows .mixedOrders=true
 cR:∀f p,E.cR f=some p->∀args m v m',p.run args m=some (v,m')->∀(j:aI) (w:OS) (args':PM ON),MR E j m w->LR j args args'->dL E.P (E.cR f).isSome f args'.toArray w (fo E j m w v m')
def cH{F:Fence}(hF:jh F){P:OQ}{o:Oper}{a:Act}{w w':OS}{v:ON}{next:Act->OS->Prop}{Q:Exit->Act->OS->Prop}(hd:∀c,o.op≠.defer c)
  (h:jO P (execOp a.eval o) v w w') (hn:next (a.put o.dst v) w'):o.wpIn F 0 P a w next Q:=by
 refine⟨fun f _=>hF.fn f,?_⟩;rw[Oper.semAt_eq _ _ _ hd];rcases h with h|⟨h,rfl⟩
 rw[h]; exact hn
 rw[h]; exact hn
section
variable{E:Env}{k:K}
def kI{t:Tm}{m:PJ}{o:Op}{r:ON×PJ}(h:cD E t m o=some r):∀c,o≠.defer c:=by
 intro c e; subst e; simp[cD] at h
def Does(P:OQ)(s:Sem Next)(w:OS)(G:ON->OS->Prop):Prop :=
 (∃v w',jO P s v w w'/\G v w') \/
 (∃f args,s.run P w=.ok (.enter f args) w/\CallsIn Fence.wide 0 P f args w (fun e w'=>∃v,e=.returned v/\G v w')) \/
 (∃l fn tmps x y,s.run P w=.ok (.round l fn tmps x y) w/\RoundIn Fence.wide 0 P l fn tmps x y w (fun e w'=>∃v,e=.returned v/\G v w'))
def Does.wpIn{F:Fence}(hF:jh F){P:OQ}{o:Oper}(hd:∀c,o.op≠.defer c){a:Act}{w:OS}{G:ON->OS->Prop}(h:Does P (execOp a.eval o) w G){next:Act->OS->Prop}{Q:Exit->Act->OS->Prop}
  (hn:∀v' w',G v' w'->next (a.put o.dst v') w'):o.wpIn F 0 P a w next Q:=by
 rcases h with⟨v,w',h1,h2⟩|⟨f,args,h1,h2⟩|⟨l,fn,tmps,x,y,h1,h2⟩
 exact cH hF hd h1 (hn _ _ h2)
 refine⟨fun f _=>hF.fn f,?_⟩;rw[Oper.semAt_eq _ _ _ hd,h1];exact⟨hF.depth,CallsIn.mono (hF.calls h2) fun e' w' he=>by
  obtain⟨v',rfl,hq⟩:=he;exact hn v' w' hq⟩
 refine⟨fun f _=>hF.fn f,?_⟩;rw[Oper.semAt_eq _ _ _ hd,h1];exact⟨hF.depth,RoundIn.mono (hF.Hq h2) fun e' w' he=>by
  obtain⟨v',rfl,hq⟩:=he;exact hn v' w' hq⟩
def Does.ends{P:OQ}{s:Sem Next}{w:OS}{G:ON->OS->Prop}(h:Does P s w G):∃v w',G v w':=by
 rcases h with⟨v,w',_,h2⟩|⟨f,args,_,h2⟩|⟨l,fn,tmps,x,y,_,h2⟩
 exact⟨v,w',h2⟩
 obtain⟨e,w',fr,⟨v,_,hq⟩,_⟩:=h2.2 [] (jh.room (.inl rfl) _);exact⟨v,w',hq⟩
 obtain⟨e,w',⟨v,_,hq⟩,_⟩:=h2.2 default [] (jh.room (.inl rfl) _);exact⟨v,w',hq⟩
def lF{t:Tm}{m:PJ}{o:Op}{r:ON×PJ}(h:dU k E t m o=some r):∀c,o≠.defer c:=by
 intro c e; subst e; simp[dU,cD] at h
def kK(hk:∀tk r,k tk=some r->cA E tk r){j:aI}{m:PJ}{w:OS}{t:Tm}{n:Nat}{a:Act}(h:MR E j m w)(ht:TR n j t a.tmps){o:Oper}{v:ON}{m':PJ}(e:dU k E t m o.op=some (v,m')) :
  Does E.P (execOp a.eval o) w (fo E j m w v m'):=by
 have hplain:cD E t m o.op=some (v,m')->Does E.P (execOp a.eval o) w (fo E j m w v m'):=by
  intro e;obtain⟨j',w',v',h1,h2,h3⟩:=El h ht e;exact .inl ⟨v',w',h1,j',h2,h3⟩
 unfold dU at e
 split at e
 ·rename_i c hop
  split at e
  ·rename_i f hc
   split at e
   ·rename_i g first captured args hf hargs
    split at e
    ·rename_i v0 m0 hcall;cases e;obtain⟨v1,m1,hr,hsim⟩:=hk _ _ hcall;cases hr;have hfv:=aF h ht hf;generalize hfe:a.eval f=fv at hfv;cases hfv with
     | func h1 h2 h3 h4 =>
     rename_i ys ds;have hl:LR j (first.toList++args++captured.toList) (ys.toList++(c.args.toList.map a.eval)++ds.toList) :=
      ((LR.eK h1 h2).append (ee h ht hargs)).append (LR.eK h3 h4)
     have hcs:=hsim j w _ h hl;have harr:(ys.toList++(c.args.toList.map a.eval)++ds.toList).toArray=ys++c.args.map a.eval++ds:=by apply Nd.1; simp
     rw[harr] at hcs;have hexec:execOp a.eval o=(do let d <-resolve a.eval c o.type; invoke d.target d.args):=by simp only[execOp,hop]
     have hrun:(execOp a.eval o).run E.P w=(callFunc g (ys++c.args.map a.eval++ds)).run E.P w:=by
      rw[hexec];simp only[resolve,hc,hfe,Deferred.ofValue,PR,PS,PQ,invoke]
     rcases hcs with⟨hr,hci⟩|⟨_,v',w',hr,hq⟩
     exact .inr (.inl ⟨_,_,hrun.trans hr,hci⟩)
     exact .inl ⟨v',w',.inl (hrun.trans hr),hq⟩
    cases e
   ·rename_i l first cap args hf hargs
    split at e
    ·rename_i v0 m0 hcall;cases e;obtain⟨v1,m1,hr,hsim⟩:=hk _ _ hcall;cases hr;have hfv:=aF h ht hf;generalize hfe:a.eval f=fv at hfv;cases hfv with
     | yield hj h1 h2 =>
     rename_i kb ys ds;have hl:LR j (first.toList++args) (ys.toList++(c.args.toList.map a.eval)):=(LR.eK h1 h2).append (ee h ht hargs)
     obtain⟨fn,tmps,assign,body,hy,hro⟩:=hsim j w kb _ h hj hl;have harr:(ys.toList++(c.args.toList.map a.eval)).toArray=ys++c.args.map a.eval:=by apply Nd.1; simp
     rw[harr] at hy;have hexec:execOp a.eval o=(do let d <-resolve a.eval c o.type; invoke d.target d.args):=by simp only[execOp,hop]
     have hrun:(execOp a.eval o).run E.P w=.ok (.round kb.c fn tmps assign body) w:=by
      rw[hexec];simp only[resolve,hc,hfe,Deferred.ofValue,PR,PS,PQ,invoke,hy]
     exact .inr (.inr ⟨_,_,_,_,_,hrun,hro⟩)
    cases e
   cases e
  exact hplain e
 exact hplain e
def tq(hk:∀tk r,k tk=some r->cA E tk r){j:aI}{m:PJ}{w:OS}{t:Tm}{n:Nat}{a:Act}(h:MR E j m w)(ht:TR n j t a.tmps){o:Oper}{v:ON}{m':PJ}(e:dU k E t m o.op=some (v,m'))
  {F:Fence} (hF:jh F) {next:Act->OS->Prop} {Q:Exit->Act->OS->Prop} (hn:∀v' w',fo E j m w v m' v' w'->next (a.put o.dst v') w'):o.wpIn F 0 E.P a w next Q :=
 (kK hk h ht e).wpIn hF (lF e) hn
def TR.put{n:Nat}{j:aI}{t t':Tm}{a:Act}{dst:PE Tmp}{v v':ON}(h:TR n j t a.tmps)(hv:VR j v v')(hp:fQ n t dst v=some t'):TR n j t' (a.put dst v').tmps:=by
 unfold fQ at hp
 split at hp
 rename_i d
 split at hp
 rename_i hlt;cases hp;have hlt':d<n:=by simpa using hlt
 refine⟨by simp[Act.put,h.1],fun i=>?_⟩
 simp only[Act.put,Tm.at,Trie.cb]
 by_cases hi:i=d
 subst hi;simp only[MG rfl];have:i<a.tmps.size:=by rw[h.1]; exact hlt'
 simp[this,hv]
 simp only[ME hi];have:=h.2 i;simp only[Tm.at] at this
 simpa [NU (Ne.symm hi)] using this
 cases hp
 cases hp; exact h
def iW {n:Nat} {j:aI} {t:Tm} {a:Act} (h:TR n j t a.tmps) (ops:PO Oper) (o:Oper):Region.wanted o (yielded ops a.tmps)=aT ops o t:=by
 unfold Region.wanted aT;cases hgd:o.guard with
 | none=>rfl
 | some p =>
  obtain⟨g,want⟩:=p;simp only;have key:yielded ops a.tmps g=cJ ops t g:=by
   unfold yielded cJ;cases hd:(ops[g]?).bind (·.dst) with
   | none=>rfl
   | some d =>
    simp only[M3];have hv:=h.2 d;unfold Tm.at at hv;cases hg:t.get d with
    | none =>
     rw[hg] at hv;simp only[Option.getD_none] at hv;have:a.tmps[d]? = none\/a.tmps[d]? = some undef:=by
      cases ha:a.tmps[d]? with
      | none=>exact .inl rfl
      | some x =>
       right
       have:a.tmps.getD d undef=x:=by simp[ha]
       rw[this] at hv;have:x=undef:=gP (by rfl) hv
       rw[this]
     rcases this with e|e<;>rw[e]<;>rfl
    | some x =>
     rw[hg] at hv;simp only[Option.getD_some] at hv;cases ha:a.tmps[d]? with
     | none =>
      have:a.tmps.getD d undef=undef:=by simp[ha]
      rw[this] at hv;cases x<;>first|rfl|cases hv
     | some y =>
      have:a.tmps.getD d undef=y:=by simp[ha]
      rw[this] at hv;cases hv with
      | junk hj=>cases y<;>first|rfl |(simp[wZ,aM] at hj)
      | _=>rfl
  rw[key];cases cJ ops t g with
  | none=>rfl
  | some b=>simp
def jN(hk:∀tk r,k tk=some r->cA E tk r){ops:PO Oper}{n:Nat}{F:Fence}(hF:jh F){Q:Exit->Act->OS->Prop}{m0:PJ}{w0:OS}{j0:aI}(h0:MR E j0 m0 w0){tf:Tm}{mf:PJ}
  (ds:PM Deferred) (hQ:∀j' w' a',Sim E j0 m0 w0 j' mf w'->TR n j' tf a'.tmps->a'.defers=ds->Q .normal a' w') :
  ∀(os:PM Oper) (i:Nat) (t:Tm) (m:PJ) (j:aI) (w:OS) (a:Act),ops.toList.drop i=os->ia k E n ops os t m=some (tf,mf)->Sim E j0 m0 w0 j m w->TR n j t a.tmps->a.defers=ds ->
   wpOpsIn F 0 E.P ops Q (List.range' i (ops.size-i)) a w
 | [],i,t,m,j,w,a,hd,hr,s,ht,hds=>by
  cases hr;have hlen:ops.size<=i:=by
   have:=NS List.length hd;simp at this; omega
  rw[show ops.size-i=0 by omega]
  exact hQ j w a s ht hds
 | o::os,i,t,m,j,w,a,hd,hr,s,ht,hds=>by
  have hlt:i<ops.size:=by
   have:=NS List.length hd;simp at this; omega
  have ho:ops[i]? = some o:=by
   have:=NS (·[0]?) hd
   simpa [NO] using this
  have hd':ops.toList.drop (i+1)=os:=by
   rw[<-On,hd]; rfl
  have hidx:List.range' i (ops.size-i)=i::List.range' (i+1) (ops.size-(i+1)):=by
   rw[show ops.size-i=(ops.size-(i+1))+1 by omega]; rfl
  rw[hidx];simp only[wpOpsIn,ho,iW ht];simp only[ia] at hr
  split at hr
  rename_i hw;rw[MG hw]
  split at hr
  rename_i v m' he
  split at hr
  rename_i t' hp;refine tq hk s.mr ht he hF ?_;rintro v' w' ⟨j',s',hv⟩;exact jN hk hF h0 ds hQ os (i+1) t' m' j' w' _ hd' hr (s.trans h0 s') ((ht.mono s'.le).put hv hp) (by cases hds':o.dst<;>simp[Act.put,hds])
  cases hr
  cases hr
  rename_i hw;rw[ME hw]
  split at hr
  rename_i t' hp;exact⟨fun f _=>hF.fn f,jN hk hF h0 ds hQ os (i+1) t' m j w _ hd' hr s (ht.put (VR.undef j) hp) (by cases hds':o.dst<;>simp[Act.put,hds])⟩
  cases hr
end
def uN(k:K)(E:Env)(n:Nat)(ops:PO Oper)(i:Nat)(t:Tm)(m:PJ)(v:ON)(t':Tm)(m':PJ)(note:Note):Prop :=
 ∃o,ops[i]? = some o/\fQ n t o.dst v=some t' /\
  ((aT ops o t=true/\∃r,dU k E t { m with wl:=m.next} o.op=some (v,r)/\m' ={ r with wl:=min m.wl r.wl}/\note ={ read:=aQ E t o.op,wl:=r.wl,next:=m.next,wrote:=dT E t o.op,kept:=gJ m r}) \/
   (aT ops o t=false/\v=undef/\m'=m/\note ={ read:=none,wl:=m.next,next:=m.next,wrote:=none,kept:=fun _=>false}))
structure Tr(k:K)(E:Env)(n:Nat)(ops:PO Oper)(i L:Nat)(T:Nat->Tm)(M:Nat->PJ)(V:Nat->ON)(ns:PM Note):Prop where
 len:ns.length=L
 step:∀x,x<L->∃note,ns[x]? = some note/\uN k E n ops (i+x) (T x) (M x) (V x) (T (x+1)) (M (x+1)) note
def D9{α:Type}(a:α)(f:Nat->α):Nat->α
 | 0=>a
 | x+1=>f x
def wC{k:K}{E:Env}{n:Nat}{ops:PO Oper}:∀(os:PM Oper) (i:Nat) (t:Tm) (m:PJ) (tf:Tm) (mf:PJ) (ns:PM Note),ops.toList.drop i=os->dA k E n ops os t m=some (tf,mf,ns) ->
  ∃T M V,Tr k E n ops i os.length T M V ns/\T 0=t/\M 0=m/\T os.length=tf/\M os.length=mf
 | [],i,t,m,tf,mf,ns,_,h=>by
  cases h;exact⟨fun _=>t,fun _=>m,fun _=>undef,⟨rfl,fun x hx=>MX hx (Nat.not_lt_zero _)⟩,rfl,rfl,rfl,rfl⟩
 | o::os,i,t,m,tf,mf,ns,hd,h=>by
  have ho:ops[i]? = some o:=by
   have:=NS (·[0]?) hd
   simpa [NO] using this
  have hd':ops.toList.drop (i+1)=os:=by rw[<-On,hd]; rfl
  have cons:∀(v:ON) (t1:Tm) (m1:PJ) (note:Note) (ns':PM Note),uN k E n ops i t m v t1 m1 note->dA k E n ops os t1 m1=some (tf,mf,ns')->ns=note::ns' ->
    ∃T M V,Tr k E n ops i (os.length+1) T M V ns/\T 0=t/\M 0=m/\T (os.length+1)=tf/\M (os.length+1)=mf:=by
   intro v t1 m1 note ns' hst hr hns;obtain⟨T,M,V,htr,h1,h2,h3,h4⟩:=wC os (i+1) t1 m1 tf mf ns' hd' hr;refine⟨D9 t T,D9 m M,D9 v V,⟨by rw[hns]; simp[htr.len],fun x hx=>?_⟩,rfl,rfl,h3,h4⟩
   cases x with
   | zero =>
    refine⟨note,by rw[hns]; rfl,?_⟩
    show uN k E n ops i t m v (T 0) (M 0) note
    rw[h1,h2]; exact hst
   | succ x =>
    obtain⟨nt,h5,h6⟩:=htr.step x (by omega)
    refine⟨nt,by rw[hns]; simpa using h5,?_⟩
    show uN k E n ops (i+(x+1)) (T x) (M x) (V x) (T (x+1)) (M (x+1)) nt
    rw[show i+(x+1)=i+1+x by omega]; exact h6
  simp only[dA] at h
  split at h
  rename_i hw
  split at h
  rename_i v r he
  split at h
  rename_i t1 hp
  split at h
  rename_i t' m'' ns' hr;cases h;exact cons v t1 _ _ ns' ⟨o,ho,hp,.inl ⟨hw,r,he,rfl,rfl⟩⟩ hr rfl
  cases h
  cases h
  cases h
  rename_i hw
  split at h
  rename_i t1 hp
  split at h
  rename_i t' m'' ns' hr;cases h;exact cons undef t1 m _ ns' ⟨o,ho,hp,.inr ⟨by simpa using hw,rfl,rfl,rfl⟩⟩ hr rfl
  cases h
  cases h
def Sim.KW{E:Env}{j j':aI}{m r:PJ}{w w':OS}(s:Sim E j { m with wl:=m.next} w j' r w'):Sim E j m w j' { r with wl:=min m.wl r.wl} w' where
 ext:=⟨s.ext.next,Nat.min_le_left _ _,fun b hb hw=>s.ext.same b hb (MC hw (Nat.min_le_right _ _)),s.ext.dead⟩
 le:=s.le
 new:=s.new
 mr:=s.mr.sC
 size:=s.size
 full:=s.full
 away:=s.away
 fresh:=fun b k h h'=>(s.fresh b k h h').imp id fun⟨b0,k0,a1,a2,a3,a4⟩=>⟨b0,k0,a1,a2,a3,MU (Nat.min_le_right _ _) a4⟩
 frame:=fun c hc H=>s.frame c hc fun b k hb hl he=>MC (H b k hb hl he) (Nat.min_le_right _ _)
 calm:=s.calm
def aI.below(j:aI)(x:Nat):aI:=fun b=>if b<x then j b else none
def aI.bq{j:aI}{x b:Nat}{k:Blk}:j.below x b=some k↔b<x/\j b=some k:=by
 unfold aI.below
 split
 rename_i h; simp[h]
 rename_i h; simp[h]
def VR.cut{j jc:aI}{x:Nat}(hc:∀b k,jc b=some k->b<x):∀{v v':ON},VR j v v'->∀{u:ON},VR jc v u->VR (j.below x) v v':=by
 intro v v' h
 induction h with
 | junk h=>intro u _; exact .junk h
 | bool b=>intro u _; exact .bool b
 | int k n=>intro u _; exact .int k n
 | string s=>intro u _; exact .string s
 | pnil=>intro u _; exact .pnil
 | ptr h=>intro u hu; cases hu with
  | ptr h'=>exact .ptr (aI.bq.2 ⟨hc _ _ h',h⟩)
 | snil l c=>intro u _; exact .snil l c
 | slice h hm=>intro u hu; cases hu with
  | slice h' _=>exact .slice (aI.bq.2 ⟨hc _ _ h',h⟩) hm
  | sliceM h' _ _ _ _ _=>exact .slice (aI.bq.2 ⟨hc _ _ h',h⟩) hm
 | sliceM h hm h1 h2 hl hcap=>intro u hu; cases hu with
  | slice h' _=>exact .sliceM (aI.bq.2 ⟨hc _ _ h',h⟩) hm h1 h2 hl hcap
  | sliceM h' _ _ _ _ _=>exact .sliceM (aI.bq.2 ⟨hc _ _ h',h⟩) hm h1 h2 hl hcap
 | gA=>intro u _; exact .gA
 | dry=>intro u _; exact .dry
 | mnil=>intro u _; exact .mnil
 | map h=>intro u hu; cases hu with
  | map h'=>exact .map (aI.bq.2 ⟨hc _ _ h',h⟩)
 | func h1 _ h3 _ ih2 ih4=>intro u hu; cases hu with
  | func g1 g2 g3 g4=>exact .func h1 (fun i a b=>ih2 i a b (g2 i a (g1▸a))) h3 (fun i a b=>ih4 i a b (g4 i a (g3▸a)))
 | yield h h1 _ ih2=>intro u hu; cases hu with
  | yield g g1 g2=>exact .yield (aI.bq.2 ⟨hc _ _ g,h⟩) h1 (fun i a b=>ih2 i a b (g2 i a (g1▸a)))
 | nilFunc=>intro u _; exact .nilFunc
 | nilIface=>intro u _; exact .nilIface
 | agg h1 _ ih=>intro u hu; cases hu with
  | agg g1 g2=>exact .agg h1 (fun i a b=>ih i a b (g2 i a (g1▸a)))
 | tuple h1 _ ih=>intro u hu; cases hu with
  | tuple g1 g2=>exact .tuple h1 (fun i a b=>ih i a b (g2 i a (g1▸a)))
def ER.cut{j jc:aI}{x:Nat}(hc:∀b k,jc b=some k->b<x):∀{es:PM (ON×ON)} {fs gs:PM MapEntry},ER j es fs->ER jc es gs->ER (j.below x) es fs
 | [],[],_,_,_=>trivial
 | _::_,_::_,_::_,h,g=>⟨h.1.cut hc g.1,h.2.1.cut hc g.2.1,ER.cut hc h.2.2 g.2.2⟩
 | [],_::_,_,h,_=>h.elim
 | _::_,[],_,h,_=>h.elim
 | _::_,_::_,[],_,g=>g.elim
def OR.cut{j jc:aI}{x:Nat}(hc:∀b k,jc b=some k->b<x){k k':Blk}{o:PL}{o1 o2:Obj}(h:OR j k o o1)(g:OR jc k' o o2):OR (j.below x) k o o1:=by
 cases o with
 | cells cs tag =>
  cases o1 with
  | cells c e fz =>
   cases o2 with
   | cells c2 e2 fz2 =>
    refine⟨h.1,fun i v hi=>?_⟩;obtain⟨v',a,b⟩:=h.2 i v hi;obtain⟨u,_,b2⟩:=g.2 i v hi;exact⟨v',a,b.cut hc b2⟩
   | _=>exact g.elim
  | _=>exact h.elim
 | map es =>
  cases o1 with
  | map c e =>
   cases o2 with
   | map c2 e2=>exact⟨ER.cut hc h.1 g.1,h.2⟩
   | _=>exact g.elim
  | _=>exact h.elim
 | loop r =>
  cases o1 with
  | loop r1 =>
   cases o2 with
   | loop r2 =>
    refine⟨h.1,h.2.1,h.2.2.1,h.2.2.2.1,h.2.2.2.2.1,h.2.2.2.2.2.1,fun i=>?_⟩;exact(h.2.2.2.2.2.2 i).cut hc (g.2.2.2.2.2.2 i)
   | _=>exact g.elim
  | _=>exact h.elim
def eO{E:Env}{t t':Tm}:∀{xs:PM OP},(∀x∈xs,au E t x=au E t' x)->bI E t xs=bI E t' xs
 | [],_=>rfl
 | x::xs,h=>by
  simp only[bI];rw[h x (by simp),eO fun y hy=>h y (by simp[hy])]
def gF{E:Env}{t t':Tm}:∀{xs:PM (Nat×OP)},(∀x∈xs,au E t x.2=au E t' x.2)->cX E t xs=cX E t' xs
 | [],_=>rfl
 |(i,x)::xs,h=>by
  simp only[cX];rw[h (i,x) (by simp),gF fun y hy=>h y (by simp[hy])]
def jz{E:Env}{t t':Tm}{x:PE OP}(h:∀y,x=some y->au E t y=au E t' y):dk E t x=dk E t' x:=by
 cases x with
 | none=>rfl
 | some y=>simp only[dk,h y rfl]
def oF{E:Env}{t t':Tm}{m:PJ}{o:Op}(h:∀x∈o.operands.toList,au E t x=au E t' x):cD E t m o=cD E t' m o:=by
 cases o<;>simp only[Op.operands] at h<;>simp only[cD]
 case build ty ps=>rw[gF fun x hx=>h x.2 (by simp; exact⟨x.1,by simpa using hx⟩)]
 case buildSlice ty n ps=>rw[gF fun x hx=>h x.2 (by simp; exact⟨x.1,by simpa using hx⟩)]
 case makeFunc fn first captured =>
  cases fn<;>simp only;rw[eO (xs:=first.toList) fun x hx=>h x (by simp at hx ⊢; exact .inl hx),eO (xs:=captured.toList) fun x hx=>h x (by simp at hx ⊢; exact .inr hx)]
 case makeMap ty r=>cases r<;>rfl
 case slice ty x lo hi mx =>
  rw[h x (by simp),jz (x:=lo) fun y hy=>h y (by simp[hy]),jz (x:=hi) fun y hy=>h y (by simp[hy]),jz (x:=mx) fun y hy=>h y (by simp[hy])]
 case call c =>
  cases hc:c.callee<;>simp only;rw[eO (xs:=c.args.toList) fun x hx=>h x (by simp[Call.operands,hc]; simpa using hx)]
 all_goals first|rfl |(simp_all; done)
def xw{k:K}{E:Env}{t t':Tm}{m:PJ}{o:Op}(h:∀x∈o.operands.toList,au E t x=au E t' x):dU k E t m o=dU k E t' m o:=by
 have hop:=oF (m:=m) h;unfold dU;cases o with
 | call c =>
  simp only;cases hc:c.callee with
  | value f =>
   simp only;rw[h f (by simp[Op.operands,Call.operands,hc]),eO (xs:=c.args.toList) fun x hx=>h x (by simp[Op.operands,Call.operands,hc]; exact .inr (by simpa using hx))]
  | _=>exact hop
 | _=>exact hop
def oL(t:Tm):PM Tmp->Tm
 | []=>.nil
 | d::ds=>(oL t ds).set d (t.at d)
def ki(t:Tm):∀(S:PM Tmp) (d:Nat),(oL t S).at d=if d∈S then t.at d else undef
 | [],d=>by simp[oL,Tm.at,Trie.get_nil]
 | x::S,d=>by
  have ih:=ki t S d;simp only[Tm.at] at ih;simp only[oL,Tm.at,Trie.cb]
  by_cases h:d=x
  simp[h]
  simp only[M0,h,false_or]; exact ih
def jX(tm:PO ON)(S:PM Tmp):PO ON:=(Array.range tm.size).map fun d=>if d∈S then tm.getD d undef else undef
def jv(tm:PO ON)(S:PM Tmp)(d:Nat):(jX tm S).getD d undef=if d∈S then tm.getD d undef else undef:=by
 unfold jX
 by_cases h:d<tm.size
 simp[h]
 have:tm.getD d undef=undef:=by simp[h]
 simp[h]
def gX:∀{l:PM OP} {d:Tmp},d∈tmpsOf l↔Operand.tmp d∈l
 | [],d=>by simp[tmpsOf]
 | x::l,d=>by
  have ih:=gX (l:=l) (d:=d);cases x<;>simp[tmpsOf,ih]
def wI{k:K}{E:Env}(hk:∀tk r,k tk=some r->cA E tk r){j:aI}{m:PJ}{w:OS}{t:Tm}{a:Act}(h:MR E j m w){o:Oper}(ht:∀d∈tmpsOf o.op.operands.toList,VR j (t.at d) (a.tmps.getD d undef)){v:ON}{m':PJ}
  (e:dU k E t m o.op=some (v,m')):Does E.P (execOp a.eval o) w (fo E j m w v m'):=by
 have hT:TR (jX a.tmps (tmpsOf o.op.operands.toList)).size j (oL t (tmpsOf o.op.operands.toList)) ({ tmps:=jX a.tmps (tmpsOf o.op.operands.toList),defers:=a.defers}:Act).tmps:=by
  refine⟨rfl,fun d=>?_⟩
  show VR j _ ((jX a.tmps _).getD d undef)
  rw[ki,jv]
  split
  rename_i hd; exact ht d hd
  exact VR.undef j
 have hev:∀x∈o.op.operands.toList,au E (oL t (tmpsOf o.op.operands.toList)) x=au E t x:=by
  intro x hx;cases x with
  | tmp d=>simp only[au,ki,MG (gX.2 hx)]
  | _=>rfl
 have hd:=kK hk h hT (o:=o) (v:=v) (m':=m') ((xw hev).trans e);have hex:execOp ({ tmps:=jX a.tmps (tmpsOf o.op.operands.toList),defers:=a.defers}:Act).eval o=execOp a.eval o:=by
  refine execOp_congr o (fun cs b hs=>?_) fun x hx=>?_
  rw[hs] at e; simp[dU,cD] at e
  ·cases x with
   | tmp d =>
    show(jX a.tmps _).getD d undef=a.tmps.getD d undef
    rw[jv,MG (gX.2 (by simpa using hx))]
   | _=>rfl
 rw[hex] at hd;exact hd
end Go.Ab
