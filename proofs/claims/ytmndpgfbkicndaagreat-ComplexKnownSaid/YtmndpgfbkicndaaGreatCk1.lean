/- A part of the proof. -/
import Derived.RangeFuncRecord
import Derived.RangeFuncLeaves
import Derived.Laws.Cells
import Derived.Laws.Entries
import Derived.Laws.StructEq
import Derived.IntWalk
import Derived.OrdersIn
import Derived.LeavingIn
section
namespace Go.Ab
open Go
structure F8 (α:Type) where
 a:α
 b:α
 c:α
 d:α
 e:α
 f:α
 g:α
 h:α
def F8.all {α:Type} (x:α):F8 α:=⟨x,x,x,x,x,x,x,x⟩
def F8.xA {α:Type} (x:F8 α) (i:Nat):α :=
 match i with
 | 0=>x.a
 | 1=>x.b
 | 2=>x.c
 | 3=>x.d
 | 4=>x.e
 | 5=>x.f
 | 6=>x.g
 | _=>x.h
def F8.put {α:Type} (x:F8 α) (i:Nat) (v:α):F8 α :=
 match i with
 | 0=>{ x with a:=v}
 | 1=>{ x with b:=v}
 | 2=>{ x with c:=v}
 | 3=>{ x with d:=v}
 | 4=>{ x with e:=v}
 | 5=>{ x with f:=v}
 | 6=>{ x with g:=v}
 | _=>{ x with h:=v}
theorem F8.qP {α:Type} (x:F8 α) (i j:Nat) (v:α) (hi:i<8) (hj:j<8):(x.put i v).xA j=if j=i then v else x.xA j:=by
 have h1:i=0∨i=1∨i=2∨i=3∨i=4∨i=5∨i=6∨i=7:=by omega
 have h2:j=0∨j=1∨j=2∨j=3∨j=4∨j=5∨j=6∨j=7:=by omega
 rcases h1 with rfl|rfl|rfl|rfl|rfl|rfl|rfl|rfl<;>rcases h2 with rfl|rfl|rfl|rfl|rfl|rfl|rfl|rfl<;>rfl
theorem F8.kl {α:Type} (x:α) (i:Nat):(F8.all x).xA i=x:=by
 unfold F8.xA F8.all; split<;>rfl
def F8.getM {M β:Type} (sz:Nat) (g:M→Nat→β) (x:F8 M) (i:Nat):β:=g (x.xA (i/sz)) (i%sz)
def F8.q7 {M β:Type} (sz:Nat) (s:M→Nat→β→M) (x:F8 M) (i:Nat) (v:β):F8 M:=x.put (i/sz) (s (x.xA (i/sz)) (i%sz) v)
theorem F8.iI {M β:Type} {sz:Nat} {g:M→Nat→β} {s:M→Nat→β→M} (hsz:0<sz) (hl:∀m i j v,i<sz→j<sz→g (s m i v) j=if j=i then v else g m j) (x:F8 M) (i j:Nat) (v:β) (hi:i<8*sz) (hj:j<8*sz) :
  F8.getM sz g (F8.q7 sz s x i v) j=if j=i then v else F8.getM sz g x j:=by
 have h1:i/sz<8:=(Nat.div_lt_iff_lt_mul hsz).2 hi;have h2:j/sz<8:=(Nat.div_lt_iff_lt_mul hsz).2 hj;unfold F8.getM F8.q7;rw[F8.qP _ _ _ _ h1 h2];have e1:=Nat.div_add_mod i sz;have e2:=Nat.div_add_mod j sz
 by_cases h:j/sz=i/sz
 ·rw[if_pos h,hl _ _ _ _ (Nat.mod_lt _ hsz) (Nat.mod_lt _ hsz)]
  by_cases h':j%sz=i%sz
  ·have:j=i:=by rw[←e1,←e2,h,h']
   rw[if_pos h',if_pos this]
  ·have:j≠i:=fun e=>h' (by rw[e])
   rw[if_neg h',if_neg this,h]
 ·have:j≠i:=fun e=>h (by rw[e])
  rw[if_neg h,if_neg this]
abbrev xW (α:Type):=F8 (F8 α)
abbrev pj (α:Type):=F8 (xW α)
abbrev lV (α:Type):=F8 (pj α)
abbrev jT (α:Type):=F8 (lV α)
def ot {α:Type}:xW α→Nat→α:=F8.getM 8 F8.xA
def jN {α:Type}:pj α→Nat→α:=F8.getM 64 ot
def ju {α:Type}:lV α→Nat→α:=F8.getM 512 jN
def im {α:Type}:jT α→Nat→α:=F8.getM 4096 ju
def wj {α:Type}:xW α→Nat→α→xW α:=F8.q7 8 F8.put
def pq {α:Type}:pj α→Nat→α→pj α:=F8.q7 64 wj
def qE {α:Type}:lV α→Nat→α→lV α:=F8.q7 512 pq
def nK {α:Type}:jT α→Nat→α→jT α:=F8.q7 4096 qE
theorem rm {α:Type} (x:xW α) (i j:Nat) (v:α) (hi:i<64) (hj:j<64):ot (wj x i v) j=if j=i then v else ot x j :=
 F8.iI (by omega) (fun m i j v hi hj=>F8.qP m i j v hi hj) x i j v (by omega) (by omega)
theorem kF {α:Type} (x:pj α) (i j:Nat) (v:α) (hi:i<512) (hj:j<512):jN (pq x i v) j=if j=i then v else jN x j :=
 F8.iI (by omega) (fun m i j v hi hj=>rm m i j v hi hj) x i j v (by omega) (by omega)
theorem oa {α:Type} (x:lV α) (i j:Nat) (v:α) (hi:i<4096) (hj:j<4096):ju (qE x i v) j=if j=i then v else ju x j :=
 F8.iI (by omega) (fun m i j v hi hj=>kF m i j v hi hj) x i j v (by omega) (by omega)
theorem mN {α:Type} (x:jT α) (i j:Nat) (v:α) (hi:i<32768) (hj:j<32768):im (nK x i v) j=if j=i then v else im x j :=
 F8.iI (by omega) (fun m i j v hi hj=>oa m i j v hi hj) x i j v (by omega) (by omega)
def sv {α:Type} (x:α):xW α:=F8.all (F8.all x)
def nf {α:Type} (x:α):pj α:=F8.all (sv x)
def mS {α:Type} (x:α):lV α:=F8.all (nf x)
def k6 {α:Type} (x:α):jT α:=F8.all (mS x)
theorem rl {α:Type} (x:α) (i:Nat):ot (sv x) i=x:=by simp[ot,sv,F8.getM,F8.kl]
theorem kz {α:Type} (x:α) (i:Nat):jN (nf x) i=x:=by simp[jN,nf,F8.getM,F8.kl,rl]
theorem oq {α:Type} (x:α) (i:Nat):ju (mS x) i=x:=by simp[ju,mS,F8.getM,F8.kl,kz]
theorem nB {α:Type} (x:α) (i:Nat):im (k6 x) i=x:=by simp[im,k6,F8.getM,F8.kl,oq]
def tt {α:Type}:List (Nat × α)→Nat→Option α
 | [],_=>none
 | (i,v)::l,j=>if j=i then some v else tt l j
structure Trie (α:Type) where
 lo:pj (Option α)
 hi:List (Nat × α)
def Trie.nil {α:Type}:Trie α:=⟨nf none,[]⟩
def Trie.get {α:Type} (t:Trie α) (n:Nat):Option α:=if n<512 then jN t.lo n else tt t.hi n
def Trie.set {α:Type} (t:Trie α) (n:Nat) (v:α):Trie α:=if n<512 then { t with lo:=pq t.lo n (some v)} else { t with hi:=(n,v)::t.hi}
theorem Trie.get_nil {α:Type} (n:Nat):(Trie.nil:Trie α).get n=none:=by
 unfold Trie.get Trie.nil
 split
 ·exact kz _ _
 ·rfl
theorem Trie.bB {α:Type} (t:Trie α) (n m:Nat) (v:α):(t.set n v).get m=if m=n then some v else t.get m:=by
 unfold Trie.set Trie.get
 by_cases h1:n<512<;>by_cases h2:m<512<;>simp only[h1,h2,if_true,if_false]
 ·rw[kF _ _ _ _ h1 h2]
 ·rw[if_neg (by omega)]
 ·rw[if_neg (by omega)]
 ·rfl
structure Heap (α:Type) where
 lo:jT (Option α)
 hi:List (Nat × α)
def Heap.nil {α:Type}:Heap α:=⟨k6 none,[]⟩
def Heap.get {α:Type} (t:Heap α) (n:Nat):Option α:=if n<32768 then im t.lo n else tt t.hi n
def Heap.set {α:Type} (t:Heap α) (n:Nat) (v:α):Heap α:=if n<32768 then { t with lo:=nK t.lo n (some v)} else { t with hi:=(n,v)::t.hi}
theorem Heap.get_nil {α:Type} (n:Nat):(Heap.nil:Heap α).get n=none:=by
 unfold Heap.get Heap.nil
 split
 ·exact nB _ _
 ·rfl
theorem Heap.bB {α:Type} (t:Heap α) (n m:Nat) (v:α):(t.set n v).get m=if m=n then some v else t.get m:=by
 unfold Heap.set Heap.get
 by_cases h1:n<32768<;>by_cases h2:m<32768<;>simp only[h1,h2,if_true,if_false]
 ·rw[mN _ _ _ _ h1 h2]
 ·rw[if_neg (by omega)]
 ·rw[if_neg (by omega)]
 ·rfl
def Trie.ofList {α:Type}:List α→Nat→Trie α→Trie α
 | [],_,t=>t
 | v::vs,i,t=>Trie.ofList vs (i+1) (t.set i v)
abbrev Tm:=Trie Value
def Tm.at (t:Tm) (i:Nat):Value:=(Trie.get t i).getD undef
inductive Tag where
 | ro
 | own
 | more (sz:Nat)
 deriving DecidableEq
structure ALoop where
 state:LoopState
 pending:Option Code
 fn:FuncId
 tmps:Tm
 n:Nat
 params:Array Tmp
 assign:Code
 body:Code
inductive AObj where
 | cells (cs:List Value) (tag:Tag)
 | map (es:List (Value × Value))
 | loop (r:ALoop)
structure AMem where
 next:Nat
 wl:Nat
 objs:Heap (Option AObj)
 base:Nat→Option AObj
def AMem.get (m:AMem) (b:Nat):Option AObj :=
 match m.objs.get b with
 | some x=>x
 | none=>m.base b
def AMem.set (m:AMem) (b:Nat) (o:AObj):AMem:={ m with objs:=m.objs.set b (some o),wl:=min m.wl b}
def AMem.kill (m:AMem) (b:Nat):AMem:={ m with objs:=m.objs.set b none,wl:=min m.wl b}
def AMem.alloc (m:AMem) (o:AObj):AMem:={ m with next:=m.next+1,objs:=m.objs.set m.next (some o)}
def ptr (b:Nat) (o:Nat):Value:=.pointer (some ⟨b,o,none⟩)
def AMem.cells (m:AMem) (b:Nat):Option (List Value × Tag) :=
 match m.get b with
 | some (.cells cs tag)=>some (cs,tag)
 | _=>none
def AMem.dg (m:AMem) (b o n:Nat):Option (List Value) :=
 match m.get b with
 | some (.cells cs _)=>let l:=(cs.drop o).take n; if l.length=n then some l else none
 | _=>none
def aT:List Value→Nat→List Value→List Value
 | cs,0,[]=>cs
 | [],0,_=>[]
 | _::cs,0,v::vs=>v::aT cs 0 vs
 | [],_+1,_=>[]
 | c::cs,o+1,vs=>c::aT cs o vs
def AMem.dn (m:AMem) (b o:Nat) (vs:List Value):Option AMem :=
 match vs with
 | []=>some m
 | _=>match m.get b with
  | some (.cells _ .ro)=>none
  | some (.cells cs tag)=>if o+vs.length≤cs.length then some (m.set b (.cells (aT cs o vs) tag)) else none
  | _=>none
def gQ:Value→Bool
 | .agg _ | .tuple _=>false
 | _=>true
def bh (vs:List Value):Bool:=vs.all gQ
structure Prim where
 run:List Value→AMem→Option (Value × AMem)
structure Env where
 P:Program
 glob:Nat
 cu:FuncId→Option Prim
 mono:Prop:=True
def aP:Value→Bool
 | .bool _ | .int _ _ | .string _ | .pointer none | .slice none _ _ | .map none | .nilFunc | .nilIface=>true
 | _=>false
def bC:Value→Bool
 | .agg cs=>cs.toList.all aP
 | .tuple cs=>cs.toList.all aP
 | v=>aP v
def av (E:Env) (t:Tm):Operand→Option Value
 | .tmp i=>some (t.at i)
 | .const v=>if bC v then some v else none
 | .global g=>if g<E.glob then some (ptr g 0) else none
 | .func f=>some (.func (.func f) #[] #[])
def bz (E:Env) (t:Tm):List Operand→Option (List Value)
 | []=>some []
 | x::xs=>match av E t x,bz E t xs with
  | some v,some vs=>some (v::vs)
  | _,_=>none
def cL (P:Program) (t:TypeId):Bool :=
 match P.underlying t with
 | some (.struct _) | some (.array _ _)=>true
 | _=>false
def known (P:Program) (t:TypeId):Bool:=(P.underlying t).isSome && (P.info? t).isSome
def aE (P:Program) (t:TypeId):Nat:=P.cellsOf t
def bq (P:Program) (t:TypeId):Option Value:=(P.info? t).bind (·.zero)
def cw (P:Program) (t:TypeId) (cs:Array Value) (off:Nat):Option Value :=
 if !known P t then none else
 if cL P t then some (.agg (cs.extract off (off+aE P t)))
 else cs[off]?
def ek (eq:TypeId→Value→Value→Option Bool) (P:Program) (xs ys:Array Value):List (TypeId × Nat)→Option Bool
 | []=>some true
 | (t,off)::rest =>
  match cw P t xs off,cw P t ys off with
  | some x,some y=>match eq t x y with
   | some true=>ek eq P xs ys rest
   | r=>r
  | _,_=>none
def fU (P:Program):Nat→TypeId→Value→Value→Option Bool
 | 0,_,_,_=>none
 | d+1,t,x,y =>
  match P.underlying t,x,y with
  | some .bool,.bool a,.bool b=>some (a == b)
  | some (.int _),.int k a,.int k' b=>if k=k' then some (a == b) else none
  | some .string,.string a,.string b=>some (a == b)
  | some (.pointer _),.pointer none,.pointer b=>some b.isNone
  | some (.pointer _),.pointer (some _),.pointer none=>some false
  | some (.slice _),.slice none _ _,.slice b _ _=>some b.isNone
  | some (.slice _),.slice (some _) _ _,.slice none _ _=>some false
  | some (.map _ _),.map none,.map b=>some b.isNone
  | some (.map _ _),.map (some _),.map none=>some false
  | some (.func _ _ _),.nilFunc,.nilFunc=>some true
  | some (.func _ _ _),.nilFunc,.func _ _ _=>some false
  | some (.func _ _ _),.func _ _ _,.nilFunc=>some false
  | some (.struct fs),.agg xs,.agg ys =>
   if P.stoodInHeld t || fs.any (·.name == "_") then none else
   ek (fU P d) P xs ys (fs.toList.map fun f=>(f.type,f.offset))
  | some (.array len elem),.agg xs,.agg ys=>if known P elem then ek (fU P d) P xs ys ((List.range len).map fun i=>(elem,i*aE P elem)) else none
  | _,_,_=>none
def cB (op:BinOp) (xType:TypeId) (P:Program) (x y:Value):Option Value :=
 match op,x,y with
 | .shl,.int k a,.int _ b=>if b<0 then none else some (.int k (k.wrap (a*2 ^ (min b.toNat k.bits))))
 | .shr,.int k a,.int _ b=>if b<0 then none else some (.int k (a.fdiv (2 ^ (min b.toNat k.bits))))
 | .eql,.int k a,.int k' b=>if k=k' then some (.bool (a == b)) else none
 | .neq,.int k a,.int k' b=>if k=k' then some (.bool (a != b)) else none
 | .lss,.int k a,.int k' b=>if k=k' then some (.bool (decide (a<b))) else none
 | .leq,.int k a,.int k' b=>if k=k' then some (.bool (decide (a≤b))) else none
 | .gtr,.int k a,.int k' b=>if k=k' then some (.bool (decide (a>b))) else none
 | .geq,.int k a,.int k' b=>if k=k' then some (.bool (decide (a≥b))) else none
 | .add,.int k a,.int k' b=>if k=k' then some (.int k (k.wrap (a+b))) else none
 | .sub,.int k a,.int k' b=>if k=k' then some (.int k (k.wrap (a-b))) else none
 | .mul,.int k a,.int k' b=>if k=k' then some (.int k (k.wrap (a*b))) else none
 | .quo,.int k a,.int k' b=>if k=k' then(if b=0 then none else some (.int k (k.wrap (a.tdiv b)))) else none
 | .rem,.int k a,.int k' b=>if k=k' then(if b=0 then none else some (.int k (a.tmod b))) else none
 | .and,.int k a,.int k' b=>if k=k' then some (.int k (k.wrap (BitVec.ofInt k.bits a &&& BitVec.ofInt k.bits b).toNat)) else none
 | .or,.int k a,.int k' b=>if k=k' then some (.int k (k.wrap (BitVec.ofInt k.bits a ||| BitVec.ofInt k.bits b).toNat)) else none
 | .xor,.int k a,.int k' b=>if k=k' then some (.int k (k.wrap (BitVec.ofInt k.bits a ^^^ BitVec.ofInt k.bits b).toNat)) else none
 | .andNot,.int k a,.int k' b=>if k=k' then some (.int k (k.wrap (BitVec.ofInt k.bits a &&& ~~~ BitVec.ofInt k.bits b).toNat)) else none
 | .eql,.string a,.string b=>some (.bool (a == b))
 | .neq,.string a,.string b=>some (.bool (a != b))
 | _,.string _,_=>none
 | .eql,.agg xs,.agg ys=>if P.eqGuardType P.depth xType then none else(fU P Op.maxDepth xType (.agg xs) (.agg ys)).map .bool
 | .neq,.agg xs,.agg ys=>if P.eqGuardType P.depth xType then none else(fU P Op.maxDepth xType (.agg xs) (.agg ys)).map fun b=>.bool (!b)
 | .eql,x,y=>match x with
  | .bool _ | .pointer _ | .slice _ _ _ | .map _ | .func _ _ _ | .nilFunc=>(fU P Op.maxDepth xType x y).map .bool
  | _=>none
 | .neq,x,y=>match x with
  | .bool _ | .pointer _ | .slice _ _ _ | .map _ | .func _ _ _ | .nilFunc=>(fU P Op.maxDepth xType x y).map fun b=>.bool (!b)
  | _=>none
 | _,_,_=>none
def rO (op:UnOp) (x:Value):Option Value :=
 match op,x with
 | .neg,.int k n=>some (.int k (k.wrap (0-n)))
 | .xor,.int k n=>some (.int k (k.wrap (BitVec.ofInt k.bits (if k.signed then -1 else k.max) ^^^ BitVec.ofInt k.bits n).toNat))
 | .not,.bool b=>some (.bool !b)
 | _,_=>none
def qf (P:Program) (src dst:TypeId) (x:Value):Option Value :=
 match P.underlying src,P.underlying dst,x with
 | some _,some (.int k),.int _ n=>some (.int k (k.wrap n))
 | some _,some .string,.string s=>some (.string s)
 | _,_,_=>none
def fw (place:Nat→Option (Nat × Nat)) (cells:List Value):List (Nat × Value)→Option (List Value)
 | []=>some cells
 | (i,v)::rest =>
  match place i with
  | none=>none
  | some (off,size) =>
   if v.cells.size≠size || off+v.cells.size>cells.length then none
   else fw place (aT cells off v.cells.toList) rest
def da (E:Env) (t:Tm):List (Nat × Operand)→Option (List (Nat × Value))
 | []=>some []
 | (i,x)::xs=>match av E t x,da E t xs with
  | some v,some vs=>some ((i,v)::vs)
  | _,_=>none
def iw (P:Program) (t:TypeId) (parts:List (Nat × Value)):Option Value :=
 match bq P t,P.underlying t with
 | some z,some (.struct fields) =>
  if fields.toList.all (fun f=>known P f.type) then
   (fw (fun i=>(fields[i]?).map fun f=>(f.offset,aE P f.type)) z.cells.toList parts).map fun cs=>.agg cs.toArray
  else none
 | some z,some (.array _ elem) =>
  if known P elem then(fw (fun i=>some (i*aE P elem,aE P elem)) z.cells.toList parts).map fun cs=>.agg cs.toArray else none
 | _,_=>none
def bS (zero:List Value):Nat→List Value
 | 0=>[]
 | n+1=>zero++bS zero n
def dW (P:Program) (elem:TypeId) (n:Nat):Option (List Value) :=
 match bq P elem with
 | some z=>if z.cells.size=aE P elem then some (bS z.cells.toList n) else none
 | none=>none
def gb (x:Value) (y:Nat):Option Nat :=
 match x with
 | .int _ i=>if 0≤i∧i≤y then some i.toNat else none
 | _=>none
def dc (len cap:Nat) (low high max:Option Value):Option (Nat × Nat × Nat) :=
 match (match max with|some v=>gb v cap|none=>some cap) with
 | none=>none
 | some m =>
  match (match high,max with|some v,_=>gb v m|none,none=>some len|none,some _=>none) with
  | none=>none
  | some h =>
   match (match low with|some v=>gb v h|none=>some 0) with
   | none=>none
   | some l=>some (l,h,m)
def fF (b:Nat):Value:=.slice (some ⟨b,0,some 0⟩) 0 0
def cX (E:Env) (t:Tm):Option Operand→Option (Option Value)
 | none=>some none
 | some x=>(av E t x).map some
def du (P:Program) (xType:TypeId) (x:Value) (low high max:Option Value) (m:AMem):Option Value :=
 match P.underlying xType,x with
 | some (.slice elem),.slice none len cap =>
  if known P elem then
   match dc len cap low high max with
   | some (l,h,mx)=>some (.slice none (h-l) (mx-l))
   | none=>none
  else none
 | some (.slice elem),.slice (some ⟨b,o,none⟩) len cap =>
  if known P elem then
   match m.get b with
   | some (.cells _ (.more sz)) =>
    if sz≠aE P elem then none else
    match max with
    | none=>match dc len cap low high none with
     | some (l,h,_)=>if cap=l then some (fF b) else some (.slice (some ⟨b,o+l*aE P elem,none⟩) (h-l) (cap-l))
     | none=>none
    | some mv =>
     match dc len cap low high (some mv) with
     | some (l,h,mx)=>if mx=l∧h=l then some (.slice (some ⟨b,0,some 1⟩) 0 0) else none
     | none=>none
   | some (.cells _ _) =>
    match dc len cap low high max with
    | some (l,h,mx)=>some (.slice (some (if mx=l then⟨b,o,none⟩ else⟨b,o+l*aE P elem,none⟩)) (h-l) (mx-l))
    | none=>none
   | _=>none
  else none
 | some (.slice elem),.slice (some ⟨b,_,some sp⟩) 0 0 =>
  if known P elem then
   match dc 0 0 low high max with
   | some _=>some (.slice (some ⟨b,0,some sp⟩) 0 0)
   | none=>none
  else none
 | some (.array n elem),.pointer (some ⟨b,o,none⟩) =>
  if known P elem then
   match m.get b with
   | some (.cells _ (.more _))=>none
   | some (.cells _ _) =>
    match dc n n low high max with
    | some (l,h,mx)=>some (.slice (some (if mx=l then⟨b,o,none⟩ else⟨b,o+l*aE P elem,none⟩)) (h-l) (mx-l))
    | none=>none
   | _=>none
  else none
 | _,_=>none
def aM (P:Program) (s:TypeId) (x:Value) (f:Nat):Option Value :=
 match P.underlying s,x with
 | some (.struct fields),.pointer (some ⟨b,o,none⟩) =>
  match fields[f]? with
  | some fl=>if known P fl.type && aE P fl.type != 0 then some (ptr b (o+fl.offset)) else none
  | none=>none
 | _,_=>none
def bN (P:Program) (t:TypeId) (x index:Value):Option Value :=
 match P.underlying t,x,index with
 | some (.array len elem),.pointer (some ⟨b,o,none⟩),.int _ i =>
  if known P elem && decide (0≤i∧i<len) then some (ptr b (o+i.toNat*aE P elem)) else none
 | some (.slice elem),.slice (some ⟨b,o,none⟩) len _,.int _ i =>
  if known P elem && decide (0≤i∧i<len) then some (ptr b (o+i.toNat*aE P elem)) else none
 | _,_,_=>none
def qN (P:Program) (t:TypeId) (x:Value):Option Value :=
 match P.underlying t,x with
 | some (.array n _),.slice (some ⟨b,o,none⟩) len _=>if n≤len then some (ptr b o) else none
 | _,_=>none
def ed (P:Program) (t:TypeId) (x index:Value):Option Value :=
 match P.underlying t,x,index with
 | some (.array len elem),.agg cs,.int _ i=>if 0≤i∧i<len then cw P elem cs (i.toNat*aE P elem) else none
 | some .string,.string s,.int _ i=>if 0≤i then(s[i.toNat]?).map fun b=>.int .u8 b.toNat else none
 | _,_,_=>none
def mA (P:Program) (t:TypeId) (x:Value) (f:Nat):Option Value :=
 match P.underlying t,x with
 | some (.struct fields),.agg cs =>
  match fields[f]? with
  | some fl=>cw P fl.type cs fl.offset
  | none=>none
 | _,_=>none
def cT (P:Program) (t:TypeId) (a:Value) (m:AMem):Option Value :=
 match a with
 | .pointer (some ⟨b,o,none⟩) =>
  if !known P t then none else
  if cL P t then(m.dg b o (aE P t)).map fun cs=>.agg cs.toArray
  else match m.get b with
   | some (.cells cs _)=>cs[o]?
   | _=>none
 | _=>none
def eg (P:Program) (t:TypeId) (a v:Value) (m:AMem):Option AMem :=
 match a with
 | .pointer (some ⟨b,o,none⟩) =>
  if known P t && v.cells.size == aE P t && bh v.cells.toList then m.dn b o v.cells.toList else none
 | _=>none
def ia (P:Program) (keyType:TypeId) (k:Value):List (Value × Value)→Nat→Option (Option (Nat × Value))
 | [],_=>some none
 | e::es,i =>
  match fU P Op.maxDepth keyType k e.1 with
  | some true=>some (some (i,e.2))
  | some false=>ia P keyType k es (i+1)
  | none=>none
def cr (P:Program) (t:TypeId):Bool :=
 match P.underlying t with
 | some (.int _) | some .string|some .bool=>true
 | _=>false
def fY (P:Program) (t:TypeId) (v:Value):Bool :=
 match P.underlying t,v with
 | some (.int _),.int _ _|some .string,.string _|some .bool,.bool _=>true
 | some (.array len elem),.agg cs=>cr P elem && known P elem && aE P elem == 1 && cs.size == len && cs.toList.all aP
 | some (.struct fs),.agg cs=>fs.toList.all (fun f=>cr P f.type && known P f.type && decide (f.offset<cs.size)) && cs.toList.all aP
 | _,_=>false
def mapOf (m:AMem) (x:Value):Option (List (Value × Value)) :=
 match x with
 | .map none=>some []
 | .map (some r)=>match m.get r with
  | some (.map es)=>some es
  | _=>none
 | _=>none
def eR (P:Program) (xType:TypeId) (x index:Value) (commaOk:Bool) (m:AMem):Option Value :=
 match P.underlying xType with
 | some (.map key elem) =>
  match mapOf m x,bq P elem with
  | some es,some z =>
   if fY P key index then
    match ia P key index es 0 with
    | some (some (_,v))=>some (if commaOk then .tuple #[v,.bool true] else v)
    | some none=>if bC z then some (if commaOk then .tuple #[z,.bool false] else z) else none
    | none=>none
   else none
  | _,_=>none
 | _=>none
def jH:List (Value × Value)→Nat→Value→Value→List (Value × Value)
 | [],_,k,v=>[(k,v)]
 | _::es,0,k,v=>(k,v)::es
 | e::es,n+1,k,v=>e::jH es n k v
def kv (es:List (Value × Value)) (i:Nat) (key:Value):Bool :=
 match es[i]? with
 | some e=>bC e.1 && Instr.sameBits 10000 e.1 key
 | none=>false
def fa (P:Program) (mapType:TypeId) (x key value:Value) (m:AMem):Option AMem :=
 match P.underlying mapType,x with
 | some (.map kt _),.map (some r) =>
  match m.get r with
  | some (.map es) =>
   if fY P kt key then
    match ia P kt key es 0 with
    | some (some (i,_)) =>
     if kv es i key then some (m.set r (.map (jH es i key value))) else none
    | some none=>some (m.set r (.map (es++[(key,value)])))
    | none=>none
   else none
  | _=>none
 | _,_=>none
def km (P:Program) (mapType:TypeId) (x key:Value) (m:AMem):Option AMem :=
 match P.underlying mapType,x with
 | some (.map kt _),.map (some r) =>
  match m.get r with
  | some (.map es) =>
   if fY P kt key then
    match ia P kt key es 0 with
    | some (some (i,_))=>some (m.set r (.map (es.eraseIdx i)))
    | some none=>some m
    | none=>none
   else none
  | _=>none
 | _,_=>none
def dA (sz:Nat) (x:Value) (n:Nat) (m:AMem):Option (List Value) :=
 match x with
 | .slice none _ _=>if n=0 then some [] else none
 | .slice (some ⟨b,o,none⟩) _ _=>if n=0 then some [] else m.dg b o (n*sz)
 | .slice (some ⟨_,_,some _⟩) _ _=>if n=0 then some [] else none
 | _=>none
def dw (bytes need:Nat):Bool:=(2*need+2000)*bytes≤2 ^ 48
def dX (P:Program) (elem:TypeId) (xType:Option TypeId) (x:Value) (m:AMem):Option (Nat × List Value) :=
 match xType.bind P.underlying,x with
 | some (.slice _),.slice a l c=>(dA (aE P elem) (.slice a l c) l m).map fun cs=>(l,cs)
 | some (.int _),.int _ l=>if 0≤l∧l≤2 ^ 40 then(dW P elem l.toNat).bind fun zs=>if zs.all aP then some (l.toNat,zs) else none else none
 | _,_=>none
def cq (P:Program) (sType:TypeId) (xType:Option TypeId) (s x:Value) (m:AMem):Option (Value × AMem) :=
 match P.underlying sType,s,dX P (match P.underlying sType with|some (.slice e)=>e|_=>0) xType x m with
 | some (.slice elem),.slice base len cap,some (n,new) =>
  let sz:=aE P elem
  if !(known P elem) || sz == 0 || !bh new || !(P.info? elem).any (fun i=>dw i.bytes (len+n) && i.bytes != 0) || new.length != n*sz || !(bq P elem).any (fun z=>z.cells.size == sz && z.cells.toList.all aP) then none else
  match base with
  | none =>
   if len≠0∨cap≠0 then none else
   if n=0 then some (.slice none 0 0,m)
   else some (.slice (some ⟨m.next,0,none⟩) n n,m.alloc (.cells new (.more sz)))
  | some ⟨b,o,none⟩ =>
   match m.get b with
   | some (.cells cs tag) =>
    if len+n≤cap then
     (m.dn b (o+len*sz) new).map fun m'=>(.slice (some ⟨b,o,none⟩) (len+n) cap,m')
    else match tag with
     | .more sz' =>
      if sz'=sz∧o=0 then
       let old:=cs.take (len*sz)
       if old.length=len*sz then some (.slice (some ⟨m.next,0,none⟩) (len+n) (len+n),(m.kill b).alloc (.cells (old++new) (.more sz))) else none
      else none
     | _ =>
      match m.dg b o (len*sz) with
      | some old=>some (.slice (some ⟨m.next,0,none⟩) (len+n) (len+n),m.alloc (.cells (old++new) (.more sz)))
      | none=>none
   | _=>none
  | some ⟨b,_,some 1⟩ =>
   if len≠0∨cap≠0 then none else
   if n=0 then some (.slice (some ⟨b,0,some 1⟩) 0 0,m)
   else some (.slice (some ⟨m.next,0,none⟩) n n,m.alloc (.cells new (.more sz)))
  | _=>if len=0∧cap=0∧n=0 then some (s,m) else none
 | _,_,_=>none
def tI (P:Program) (dType:TypeId) (dst src:Value) (m:AMem):Option (Value × AMem) :=
 match P.underlying dType,dst,src with
 | some (.slice elem),.slice base dLen _,.slice _ sLen _ =>
  let n:=min sLen dLen
  if !(known P elem) then none else
  match dA (aE P elem) src n m with
  | none=>none
  | some cells =>
   if !bh cells then none else
   match base,n with
   | _,0=>some (.int .i64 0,m)
   | some ⟨b,o,none⟩,n+1=>(m.dn b o cells).map fun m'=>(.int .i64 (n+1:Nat),m')
   | _,_=>none
 | _,_,_=>none
def pn (P:Program) (t:TypeId) (x:Value) (m:AMem):Option (Value × AMem) :=
 match P.underlying t,x with
 | some (.slice _),.slice _ 0 _=>some (.tuple #[],m)
 | some (.slice elem),.slice (some ⟨b,o,none⟩) n _ =>
  match dW P elem n with
  | some zs=>if zs.all aP then(m.dn b o zs).map fun m'=>(.tuple #[],m') else none
  | none=>none
 | _,_=>none
def dm (f:Int→Int→Int):IntKind→Int→List Value→Option Value
 | k,a,[]=>some (.int k a)
 | k,a,.int _ b::vs=>dm f k (f a b) vs
 | _,_,_=>none
def bj (P:Program) (b:Builtin) (argTypes:Array TypeId) (args:List Value) (m:AMem):Option (Value × AMem) :=
 match b,args with
 | .len,[x] =>
  match (argTypes[0]?).bind P.underlying,x with
  | some .string,.string s=>some (.int .i64 s.size,m)
  | some (.array n _),_=>some (.int .i64 n,m)
  | some (.pointer a),_=>match P.underlying a with
   | some (.array n _)=>some (.int .i64 n,m)
   | _=>none
  | some (.slice _),.slice _ n _=>some (.int .i64 n,m)
  | some (.map _ _),x=>(mapOf m x).map fun es=>(.int .i64 es.length,m)
  | _,_=>none
 | .cap,[x] =>
  match (argTypes[0]?).bind P.underlying,x with
  | some (.slice _),.slice none _ n=>some (.int .i64 n,m)
  | some (.slice _),.slice (some ⟨b,_,none⟩) _ n=>match m.get b with
   | some (.cells _ (.more _))=>none
   | some (.cells _ _)=>some (.int .i64 n,m)
   | _=>none
  | _,_=>none
 | .append,[s,x]=>match argTypes[0]? with
  | some t=>cq P t argTypes[1]? s x m
  | none=>none
 | .copy,[d,s]=>match argTypes[0]? with
  | some t=>tI P t d s m
  | none=>none
 | .clear,[x]=>match argTypes[0]? with
  | some t=>pn P t x m
  | none=>none
 | .delete,[x,k]=>match argTypes[0]? with
  | some t=>(km P t x k m).map fun m'=>(.tuple #[],m')
  | none=>none
 | .max,.int k a::vs=>(dm (fun x y=>if y>x then y else x) k a vs).map fun v=>(v,m)
 | .min,.int k a::vs=>(dm (fun x y=>if y<x then y else x) k a vs).map fun v=>(v,m)
 | _,_=>none
def dx (E:Env) (t:Tm) (m:AMem) (o:Op):Option (Value × AMem) :=
 let P:=E.P
 match o with
 | .move x | .assign x=>(av E t x).map fun v=>(v,m)
 | .pick c a b=>match av E t c with
  | some (.bool true)=>(av E t a).map fun v=>(v,m)
  | some (.bool false)=>(av E t b).map fun v=>(v,m)
  | _=>none
 | .alloc elem=>match bq P elem with
  | some z=>if bC z then some (ptr m.next 0,m.alloc (.cells z.cells.toList .own)) else none
  | none=>none
 | .box _ x=>(av E t x).map fun v=>(ptr m.next 0,m.alloc (.cells v.cells.toList .own))
 | .build ty parts=>match da E t parts.toList,bq P ty with
  | some ps,some z=>if bC z then(iw P ty ps).map fun v=>(v,m) else none
  | _,_=>none
 | .buildSlice ty len parts =>
  match P.underlying ty,da E t parts.toList with
  | some (.slice elem),some ps =>
   let sz:=aE P elem
   if !(known P elem) || len*sz>2 ^ 24 then none else
   match dW P elem len with
   | some zs=>if zs.all aP then(fw (fun i=>some (i*sz,sz)) zs ps).map fun cs=>(.slice (some ⟨m.next,0,none⟩) len len,m.alloc (.cells cs .own)) else none
   | none=>none
  | _,_=>none
 | .load ty a=>match av E t a with
  | some p=>(cT P ty p m).map fun v=>(v,m)
  | none=>none
 | .store ty a x=>match av E t a,av E t x with
  | some p,some v=>(eg P ty p v m).map fun m'=>(undef,m')
  | _,_=>none
 | .nilCheck x=>match av E t x with
  | some (.pointer (some a))=>some (.pointer (some a),m)
  | some (.func (.func f) a b)=>some (.func (.func f) a b,m)
  | some (.func (.yield f) a b)=>some (.func (.yield f) a b,m)
  | _=>none
 | .binOp op xType x y _=>match av E t x,av E t y with
  | some a,some b=>(cB op xType P a b).map fun v=>(v,m)
  | _,_=>none
 | .unOp op _ x=>match av E t x with
  | some a=>(rO op a).map fun v=>(v,m)
  | none=>none
 | .convert src dst x=>match av E t x with
  | some a=>(qf P src dst a).map fun v=>(v,m)
  | none=>none
 | .makeFunc (.func f) first captured=>match bz E t first.toList,bz E t captured.toList with
  | some fs,some cs=>some (.func (.func f) fs.toArray cs.toArray,m)
  | _,_=>none
 | .makeMap _ none=>some (.map (some m.next),m.alloc (.map []))
 | .makeSlice ty len cap=>match P.underlying ty,av E t len,av E t cap with
  | some (.slice elem),some (.int .i64 l),some (.int .i64 c) =>
   if 0≤l∧l≤c∧(P.info? elem).any (fun i=>i.bytes*c≤2 ^ 40 && i.bytes != 0)∧known P elem then
    match dW P elem c.toNat with
    | some zs=>if zs.all aP then some (.slice (some ⟨m.next,0,none⟩) l.toNat c.toNat,m.alloc (.cells zs .own)) else none
    | none=>none
   else none
  | _,_,_=>none
 | .slice ty x lo hi mx=>match av E t x,cX E t lo,cX E t hi,cX E t mx with
  | some v,some l,some h,some k=>(du P ty v l h k m).map fun v=>(v,m)
  | _,_,_,_=>none
 | .fieldAddr s x f=>match av E t x with
  | some v=>(aM P s v f).map fun v=>(v,m)
  | none=>none
 | .field ty x f=>match av E t x with
  | some v=>(mA P ty v f).map fun v=>(v,m)
  | none=>none
 | .sliceToArrayPointer ty x=>match av E t x with
  | some v=>(qN P ty v).map fun v=>(v,m)
  | none=>none
 | .indexAddr ty x i=>match av E t x,av E t i with
  | some v,some n=>(bN P ty v n).map fun v=>(v,m)
  | _,_=>none
 | .index ty x i=>match av E t x,av E t i with
  | some v,some n=>(ed P ty v n).map fun v=>(v,m)
  | _,_=>none
 | .lookup ty x i ok=>match av E t x,av E t i with
  | some v,some n=>(eR P ty v n ok m).map fun v=>(v,m)
  | _,_=>none
 | .mapUpdate ty x k v | .insert ty x k v=>match av E t x,av E t k,av E t v with
  | some x,some k,some v=>(fa P ty x k v m).map fun m'=>(undef,m')
  | _,_,_=>none
 | .extract x i=>match av E t x with
  | some (.tuple vs)=>(vs[i]?).map fun v=>(v,m)
  | _=>none
 | .call c=>match c.callee with
  | .builtin b=>match bz E t c.args.toList with
   | some vs=>bj P b c.argTypes vs m
   | none=>none
  | _=>none
 | _=>none
def az:Op→Bool
 | .store .. | .mapUpdate .. | .insert ..=>true
 | .call c=>match c.callee with
  | .builtin .append | .builtin .copy | .builtin .delete | .builtin .clear=>true
  | .builtin _=>false
  | _=>true
 | _=>false
def jD:Op→Bool
 | .load .. | .lookup .. | .slice ..=>true
 | .call c=>match c.callee with
  | .builtin .len | .builtin .cap=>true
  | _=>false
 | _=>false
def tmpsOf:List Operand→List Tmp
 | []=>[]
 | .tmp t::xs=>t::tmpsOf xs
 | _::xs=>tmpsOf xs
def looks (ops:Array Oper) (o:Oper):List Tmp :=
 tmpsOf o.op.operands.toList++(match o.guard with
  | some (g,_)=>((ops[g]?).bind (·.dst)).toList
  | none=>[])
def qL (ops:Array Oper):List Nat:=(Region.before ops).toList
def ky (ops:Array Oper) (a b:Oper):Bool :=
 !(az a.op && az b.op) &&
 (match a.dst with
  | some d=>!(looks ops b).contains d && b.dst != some d
  | none=>true) &&
 (match b.dst with
  | some d=>!(looks ops a).contains d
  | none=>true)
def clash (a b:Oper):Bool:=(az a.op && jD b.op) || (jD a.op && az b.op)
def mG:List Nat→Bool
 | []=>true
 | x::xs=>!xs.contains x && mG xs
def bV (o:Oper):List Nat:=o.after.toList.filterMap fun e=>if Region.binds .any e then some e.on else none
def mE (ops:Array Oper) (bs:List Nat):Bool :=
 mG (ops.toList.filterMap (·.dst)) &&
 (List.range ops.size).all fun j =>
  (bV (ops.getD j default)).all (fun e=>decide (e<j)) &&
  (match (ops.getD j default).guard with
   | none=>true
   | some (g,_)=>decide (g<j) && (bs.getD j 0).testBit g) &&
  (List.range j).all fun i =>
   if (bs.getD j 0).testBit i then(bV (ops.getD j default)).any (fun e=>e == i || (Nat.blt i e && (bs.getD e 0).testBit i))
   else ky ops (ops.getD i default) (ops.getD j default)
def iM (ops:Array Oper) (bs:List Nat):List (Nat × Nat) :=
 (List.range ops.size).flatMap fun j=>((List.range j).filter fun i=>!(bs.getD j 0).testBit i && clash (ops.getD i default) (ops.getD j default)).map fun i=>(i,j)
def gx (ops:Array Oper):Option (List (Nat × Nat)) :=
 if mE ops (qL ops) then some (iM ops (qL ops)) else none
def dD:Value→Option Nat
 | .pointer (some a)=>some a.block
 | .slice (some a) _ _=>some a.block
 | .map (some r)=>some r
 | _=>none
def aS (E:Env) (t:Tm) (o:Op):Option Nat :=
 match o with
 | .load _ a=>(av E t a).bind dD
 | .lookup _ x _ _=>(av E t x).bind dD
 | .slice _ x _ _ _=>(av E t x).bind dD
 | .call c=>match c.callee with
  | .builtin .len | .builtin .cap=>match bz E t c.args.toList with
   | some [v]=>dD v
   | _=>none
  | _=>none
 | _=>none
def dq (E:Env) (t:Tm) (o:Op):Option Nat :=
 match o with
 | .store _ a _=>match av E t a with
  | some (.pointer (some a))=>some a.block
  | _=>none
 | _=>none
def mD:Value→Value→Bool
 | .int k a,.int k' b=>decide (k=k') && decide (a=b)
 | .bool a,.bool b=>a == b
 | .slice a l c,.slice a' l' c'=>decide (a=a') && (Nat.beq l l' && Nat.beq c c')
 | .map a,.map b=>decide (a=b)
 | .pointer a,.pointer b=>decide (a=b)
 | _,_=>false
def kO:List Value→List Value→Bool
 | [],[]=>true
 | v::vs,u::us=>mD v u && kO vs us
 | _,_=>false
def oj:Value→Value→Bool
 | .func (.func f) a c,.func (.func f') a' c'=>Nat.beq f f' && (kO a.toList a'.toList && kO c.toList c'.toList)
 | v,u=>mD v u
def ql:List Value→List Value→Bool
 | [],[]=>true
 | v::vs,u::us=>oj v u && ql vs us
 | _,_=>false
def mP:List (Value × Value)→List (Value × Value)→Bool
 | [],[]=>true
 | v::vs,u::us=>oj v.1 u.1 && oj v.2 u.2 && mP vs us
 | _,_=>false
def td:Option AObj→Option AObj→Bool
 | some (.cells cs t),some (.cells cs' t')=>decide (t=t') && ql cs cs'
 | some (.map es),some (.map es')=>mP es es'
 | _,_=>false
noncomputable def eZ (m m':AMem) (b:Nat):Bool:=td (m.get b) (m'.get b) || @decide (m.get b=m'.get b) (Classical.propDecidable _)
structure Note where
 read:Option Nat
 wl:Nat
 next:Nat
 wrote:Option Nat
 kept:Nat→Bool
def Note.ok (r e:Note):Bool :=
 match r.read with
 | none=>true
 | some b=>decide (b<e.wl) || decide (e.next≤b) || (match e.wrote with
  | some b'=>b != b'
  | none=>false) || e.kept b
def dI (a:Note):Bool :=
 match a.read with
 | none=>true
 | some b=>Nat.blt b a.next
def cN (notes:List Note) (ops:Array Oper) (p:Nat × Nat):Bool :=
 match notes[p.1]?,notes[p.2]? with
 | some a,some b =>
  (!(az (ops.getD p.2 default).op) || Note.ok a b) && (!(az (ops.getD p.1 default).op) || Note.ok b a)
 | _,_=>false
inductive AExit where
 | normal
 | exit (id:Nat)
 | ret
 deriving DecidableEq
structure Fr where
 tmps:Tm
 n:Nat
 fn:FuncId
 round:Option Nat
inductive Task where
 | code (c:Code) (fr:Fr) (m:AMem)
 | loop (c:Code) (fr:Fr) (m:AMem)
 | call (f:FuncId) (args:List Value) (m:AMem)
 | round (l:Nat) (args:List Value) (m:AMem)
inductive Res where
 | code (e:AExit) (t:Tm) (m:AMem)
 | val (v:Value) (m:AMem)
abbrev K:=Task→Option Res
def fM (n:Nat) (t:Tm) (dst:Option Tmp) (v:Value):Option Tm :=
 match dst with
 | some d=>match Nat.blt d n with
  | true=>some (t.set d v)
  | false=>none
 | none=>some t
def cZ (k:K) (E:Env) (t:Tm) (m:AMem) (o:Op):Option (Value × AMem) :=
 match o with
 | .call c=>match c.callee with
  | .value f=>match av E t f,bz E t c.args.toList with
   | some (.func (.func g) first captured),some args=>match k (.call g (first.toList++args++captured.toList) m) with
    | some (.val v m')=>some (v,m')
    | _=>none
   | some (.func (.yield l) first _),some args=>match k (.round l (first.toList++args) m) with
    | some (.val v m')=>some (v,m')
    | _=>none
   | _,_=>none
  | _=>dx E t m o
 | _=>dx E t m o
def dB (ops:Array Oper) (t:Tm) (j:Nat):Option Bool :=
 match ((ops[j]?).bind (·.dst)) with
 | some d=>match t.get d with
  | some (.bool b)=>some b
  | _=>none
 | none=>none
def bK (ops:Array Oper) (o:Oper) (t:Tm):Bool :=
 match o.guard with
 | none=>true
 | some (j,want)=>match dB ops t j with
  | some b=>b == want
  | none=>false
def fh (k:K) (E:Env) (n:Nat) (ops:Array Oper):List Oper→Tm→AMem→Option (Tm × AMem)
 | [],t,m=>some (t,m)
 | o::os,t,m =>
  if bK ops o t then
   match cZ k E t m o.op with
   | some (v,m')=>match fM n t o.dst v with
    | some t'=>fh k E n ops os t' m'
    | none=>none
   | none=>none
  else match fM n t o.dst undef with
   | some t'=>fh k E n ops os t' m
   | none=>none
noncomputable def cM (k:K) (E:Env) (n:Nat) (ops:Array Oper):List Oper→Tm→AMem→Option (Tm × AMem × List Note)
 | [],t,m=>some (t,m,[])
 | o::os,t,m =>
  if bK ops o t then
   match cZ k E t { m with wl:=m.next} o.op with
   | some (v,m')=>match fM n t o.dst v with
    | some t1=>match cM k E n ops os t1 { m' with wl:=min m.wl m'.wl} with
     | some (t',m'',ns)=>some (t',m'',{ read:=aS E t o.op,wl:=m'.wl,next:=m.next,wrote:=dq E t o.op,kept:=eZ m m'}::ns)
     | none=>none
    | none=>none
   | none=>none
  else match fM n t o.dst undef with
   | some t1=>match cM k E n ops os t1 m with
    | some (t',m'',ns)=>some (t',m'',{ read:=none,wl:=m.next,next:=m.next,wrote:=none,kept:=fun _=>false}::ns)
    | none=>none
   | none=>none
def bY (E:Env) (t:Tm) (m:AMem):List ResultVar→Option (List Value)
 | []=>some []
 | .tmp i::rs=>(bY E t m rs).map fun vs=>t.at i::vs
 | .cell a ty::rs=>match cT E.P ty (t.at a) m,bY E t m rs with
  | some v,some vs=>some (v::vs)
  | _,_=>none
def fm:List Value→Value
 | [v]=>v
 | vs=>.tuple vs.toArray
def eX (n:Nat) (t:Tm):List Tmp→List Value→Option Tm
 | p::ps,v::vs=>match Nat.blt p n with
  | true=>eX n (t.set p v) ps vs
  | false=>none
 | _,_=>some t
def fg:AExit→Option Code
 | .normal=>none
 | .exit id=>some (.exit id)
 | .ret=>some .ret
def fT (E:Env) (fr:Fr) (m:AMem) (f:Operand):Bool :=
 (match av E fr.tmps f with
  | some (.func (.func g) _ _)=>(E.cu g).isNone
  | _=>false) &&
 (match fr.round with
  | none=>true
  | some l=>match m.get l with
   | some (.loop _)=>true
   | _=>false)
def mw (E:Env) (f:FuncId) (args:List Value) (m:AMem):Option (Value × AMem):=(E.cu f).bind fun p=>p.run args m
noncomputable def step (E:Env) (k:K):Task→Option Res
 | .code c fr m =>
  match c with
  | .skip=>some (.code .normal fr.tmps m)
  | .label _=>some (.code .normal fr.tmps m)
  | .seq a b=>match k (.code a fr m) with
   | some (.code .normal t m')=>k (.code b { fr with tmps:=t} m')
   | some (.code e t m')=>some (.code e t m')
   | _=>none
  | .cond x a b=>match av E fr.tmps x with
   | some (.bool true)=>k (.code a fr m)
   | some (.bool false)=>k (.code b fr m)
   | _=>none
  | .block id a=>match k (.code a fr m) with
   | some (.code (.exit id') t m')=>if id'=id then some (.code .normal t m') else some (.code (.exit id') t m')
   | some (.code e t m')=>some (.code e t m')
   | _=>none
  | .loop a=>k (.loop a fr m)
  | .exit id=>some (.code (.exit id) fr.tmps m)
  | .ret=>some (.code .ret fr.tmps m)
  | .scope a=>match k (.code a fr m) with
   | some (.code e t m')=>some (.code e t m')
   | _=>none
  | .region _ ops draw =>
   if draw then
    match gx ops with
    | some ps=>match cM k E fr.n ops ops.toList fr.tmps m with
     | some (t,m',ns)=>if ps.all (cN ns ops) && ns.all dI then some (.code .normal t m') else none
     | none=>none
    | none=>none
   else match fh k E fr.n ops ops.toList fr.tmps m with
    | some (t,m')=>some (.code .normal t m')
    | none=>none
  | .rangeFunc f params assign body =>
   match av E fr.tmps f,fT E fr m f with
   | some (.func (.func g) first captured),true =>
    let l:=m.next
    let m1:=m.alloc (.loop { state:=.ready,pending:=none,fn:=fr.fn,tmps:=fr.tmps,n:=fr.n,params,assign,body})
    match k (.call g (first.toList++[.func (.yield l) #[] #[]]++captured.toList) m1) with
    | some (.val _ m2)=>match m2.get l with
     | some (.loop r)=>match r.state with
      | .busy=>none
      | _ =>
       let m3:=m2.set l (.loop { r with state:=.exhausted})
       match r.pending with
       | none=>some (.code .normal fr.tmps m3)
       | some c=>match k (.code c fr m3) with
        | some (.code e t m')=>some (.code e t m')
        | _=>none
     | _=>none
    | _=>none
   | _,_=>none
  | _=>none
 | .loop c fr m=>match k (.code c fr m) with
  | some (.code .normal t m')=>k (.loop c { fr with tmps:=t} m')
  | some (.code e t m')=>some (.code e t m')
  | _=>none
 | .call f args m =>
  match mw E f args m with
  | some r=>some (.val r.1 r.2)
  | none =>
   match E.P.funcs[f]? with
   | some fn=>match fn.body with
    | some c=>match k (.code c { tmps:=Trie.ofList args 0 .nil,n:=max args.length fn.ntmps,fn:=f,round:=none} m) with
     | some (.code (.exit _) _ _)=>none
     | some (.code _ t m')=>(bY E t m' fn.results.toList).map fun vs=>.val (fm vs) m'
     | _=>none
    | none=>none
   | none=>none
 | .round l args m =>
  match m.get l with
  | some (.loop r)=>match r.state with
   | .ready =>
    if args.length≠r.params.size then none else
    match eX r.n r.tmps r.params.toList args with
    | none=>none
    | some t0=>match k (.code r.assign { tmps:=t0,n:=r.n,fn:=r.fn,round:=some l} m) with
    | some (.code .normal t1 m1)=>match m1.get l with
     | some (.loop r1)=>match r1.state with
      | .ready =>
       match k (.code r.body { tmps:=t1,n:=r.n,fn:=r.fn,round:=some l} (m1.set l (.loop { r1 with state:=.busy}))) with
       | some (.code e _ m2)=>match m2.get l with
        | some (.loop r2) =>
         let j:=fg e
         some (.val (.bool j.isNone) (m2.set l (.loop { r2 with state:=if j.isNone then .ready else .done,pending:=j})))
        | _=>none
       | _=>none
      | _=>none
     | _=>none
    | _=>none
   | _=>none
  | _=>none
noncomputable def run (E:Env):Nat→K
 | 0=>fun _=>none
 | n+1=>step E (run E n)
structure Blk where
 c:Nat
 more:Option (Nat × Nat × Nat)
abbrev aL:=Nat→Option Blk
def pg (v:Value):Bool:=gQ v && !aP v
theorem mn {v:Value} (h:pg v=true):gQ v=true:=by simp only[pg,Bool.and_eq_true] at h; exact h.1
inductive VR (j:aL):Value→Value→Prop
 | junk {v':Value} (h:pg v'=true):VR j (.complex .f64 0 0) v'
 | bool (b:Bool):VR j (.bool b) (.bool b)
 | int (k:IntKind) (n:Int):VR j (.int k n) (.int k n)
 | string (s:ByteArray):VR j (.string s) (.string s)
 | pnil:VR j (.pointer none) (.pointer none)
 | ptr {b o:Nat} {k:Blk} (h:j b=some k):VR j (.pointer (some ⟨b,o,none⟩)) (.pointer (some ⟨k.c,o,none⟩))
 | snil (l c:Nat):VR j (.slice none l c) (.slice none l c)
 | slice {b o len cap:Nat} {k:Blk} (h:j b=some k) (hm:k.more=none):VR j (.slice (some ⟨b,o,none⟩) len cap) (.slice (some ⟨k.c,o,none⟩) len cap)
 | sliceM {b o len cap cap' sz na nc:Nat} {k:Blk} (h:j b=some k) (hm:k.more=some (sz,na,nc)) (h1:cap*sz+o=na) (h2:cap'*sz+o=nc) (hl:len≤cap) (hc:cap≤cap') :
   VR j (.slice (some ⟨b,o,none⟩) len cap) (.slice (some ⟨k.c,o,none⟩) len cap')
 | fF {b:Nat} {a':Addr} {cap':Nat}:VR j (.slice (some ⟨b,0,some 0⟩) 0 0) (.slice (some a') 0 cap')
 | dry {b:Nat} {a':Addr}:VR j (.slice (some ⟨b,0,some 1⟩) 0 0) (.slice (some a') 0 0)
 | mnil:VR j (.map none) (.map none)
 | map {b:Nat} {k:Blk} (h:j b=some k):VR j (.map (some b)) (.map (some k.c))
 | func {f:FuncId} {xs ys cs ds:Array Value} (h1:xs.size=ys.size) (h2:∀(i:Nat) (a:i<xs.size) (b:i<ys.size),VR j xs[i] ys[i])
   (h3:cs.size=ds.size) (h4:∀(i:Nat) (a:i<cs.size) (b:i<ds.size),VR j cs[i] ds[i]):VR j (.func (.func f) xs cs) (.func (.func f) ys ds)
 | yield {l:Nat} {k:Blk} {xs ys cs ds:Array Value} (h:j l=some k) (h1:xs.size=ys.size) (h2:∀(i:Nat) (a:i<xs.size) (b:i<ys.size),VR j xs[i] ys[i]) :
   VR j (.func (.yield l) xs cs) (.func (.yield k.c) ys ds)
 | nilFunc:VR j .nilFunc .nilFunc
 | nilIface:VR j .nilIface .nilIface
 | agg {xs ys:Array Value} (h1:xs.size=ys.size) (h2:∀(i:Nat) (a:i<xs.size) (b:i<ys.size),VR j xs[i] ys[i]):VR j (.agg xs) (.agg ys)
 | tuple {xs ys:Array Value} (h1:xs.size=ys.size) (h2:∀(i:Nat) (a:i<xs.size) (b:i<ys.size),VR j xs[i] ys[i]):VR j (.tuple xs) (.tuple ys)
def LR (j:aL) (xs ys:List Value):Prop:=xs.length=ys.length∧∀(i:Nat) (v:Value),xs[i]? = some v→∃v',ys[i]? = some v'∧VR j v v'
theorem LR.nil (j:aL):LR j [] []:=⟨rfl,fun i v h=>by simp at h⟩
theorem LR.cons {j:aL} {x y:Value} {xs ys:List Value} (h:VR j x y) (hs:LR j xs ys):LR j (x::xs) (y::ys) :=
 ⟨by simp[hs.1],fun i v hi=>by
  cases i with
  | zero=>simp at hi; subst hi; exact⟨y,rfl,h⟩
  | succ i=>simpa using hs.2 i v (by simpa using hi)⟩
theorem LR.head {j:aL} {x y:Value} {xs ys:List Value} (h:LR j (x::xs) (y::ys)):VR j x y:=by
 obtain⟨v',hv,hr⟩:=h.2 0 x rfl;simp at hv; subst hv; exact hr
theorem LR.tail {j:aL} {x y:Value} {xs ys:List Value} (h:LR j (x::xs) (y::ys)):LR j xs ys :=
 ⟨by have:=h.1; simpa using this,fun i v hi=>by simpa using h.2 (i+1) v (by simpa using hi)⟩
theorem LR.cons_inv {j:aL} {x:Value} {xs l:List Value} (h:LR j (x::xs) l):∃y ys,l=y::ys∧VR j x y∧LR j xs ys:=by
 cases l with
 | nil=>exact absurd h.1 (by simp)
 | cons y ys=>exact⟨y,ys,rfl,h.head,h.tail⟩
theorem LR.cJ {j:aL} {l:List Value} (h:LR j [] l):l = []:=by
 have:=h.1; simp at this; exact List.length_eq_zero_iff.1 this.symm
theorem LR.append {j:aL} {xs ys xs' ys':List Value} (h:LR j xs ys) (h':LR j xs' ys'):LR j (xs++xs') (ys++ys') :=
 ⟨by simp[h.1,h'.1],fun i v hi=>by
  by_cases hlt:i<xs.length
  ·rw[List.getElem?_append_left hlt] at hi;rw[List.getElem?_append_left (h.1 ▸ hlt)];exact h.2 i v hi
  ·rw[List.getElem?_append_right (by omega)] at hi
   rw[List.getElem?_append_right (by have:=h.1; omega),←h.1]
   exact h'.2 _ v hi⟩
theorem LR.drop {j:aL} {xs ys:List Value} (h:LR j xs ys) (n:Nat):LR j (xs.drop n) (ys.drop n) :=
 ⟨by simp[h.1],fun i v hi=>by rw[List.getElem?_drop] at *; exact h.2 _ v hi⟩
theorem LR.take {j:aL} {xs ys:List Value} (h:LR j xs ys) (n:Nat):LR j (xs.take n) (ys.take n) :=
 ⟨by simp[h.1],fun i v hi=>by
  rw[List.getElem?_take] at *
  split at hi
  ·rename_i hlt; rw[if_pos hlt]; exact h.2 _ v hi
  ·simp at hi⟩
theorem LR.get {j:aL} {xs ys:List Value} (h:LR j xs ys) {i:Nat} {v:Value} (hi:xs[i]? = some v):∃v',ys[i]? = some v'∧VR j v v':=h.2 i v hi
theorem LR.dJ {j:aL} {xs ys:Array Value} (h1:xs.size=ys.size) (h2:∀(i:Nat) (a:i<xs.size) (b:i<ys.size),VR j xs[i] ys[i]):LR j xs.toList ys.toList :=
 ⟨by simpa using h1,fun i v hi=>by
  have hlt:i<xs.toList.length:=(List.getElem?_eq_some_iff.1 hi).1;have ha:i<xs.size:=by simpa using hlt
  have hb:i<ys.size:=h1 ▸ ha;refine⟨ys[i],by simp[hb],?_⟩
  have:xs[i]=v:=by simpa [ha] using hi
  exact this ▸ h2 i ha hb⟩
theorem LR.arr {j:aL} {xs ys:Array Value} (h:LR j xs.toList ys.toList):∀(i:Nat) (a:i<xs.size) (b:i<ys.size),VR j xs[i] ys[i]:=fun i a b=>by
 obtain⟨v',hv,hr⟩:=h.2 i xs[i] (by simp[a])
 have:ys[i]=v':=by simpa [b] using hv
 exact this ▸ hr
theorem LR.size {j:aL} {xs ys:Array Value} (h:LR j xs.toList ys.toList):xs.size=ys.size:=by simpa using h.1
theorem VR.rY {j:aL} {xs ys:Array Value} (h:LR j xs.toList ys.toList):VR j (.agg xs) (.agg ys):=.agg h.size h.arr
theorem VR.tuple' {j:aL} {xs ys:Array Value} (h:LR j xs.toList ys.toList):VR j (.tuple xs) (.tuple ys):=.tuple h.size h.arr
theorem VR.undef (j:aL):VR j undef undef:=.tuple rfl (fun i a _=>by simp at a)
def aL.le (j j':aL):Prop:=∀b k,j b=some k→j' b=some k
theorem aL.le.refl (j:aL):j.le j:=fun _ _ h=>h
theorem aL.le.trans {j j' j'':aL} (h:j.le j') (h':j'.le j''):j.le j'':=fun b k e=>h' b k (h b k e)
theorem VR.mono {j j':aL} (hj:j.le j') {v v':Value} (h:VR j v v'):VR j' v v':=by
 induction h with
 | junk h=>exact .junk h
 | bool b=>exact .bool b
 | int k n=>exact .int k n
 | string s=>exact .string s
 | pnil=>exact .pnil
 | ptr h=>exact .ptr (hj _ _ h)
 | snil l c=>exact .snil l c
 | slice h hm=>exact .slice (hj _ _ h) hm
 | sliceM h hm h1 h2 hl hc=>exact .sliceM (hj _ _ h) hm h1 h2 hl hc
 | fF=>exact .fF
 | dry=>exact .dry
 | mnil=>exact .mnil
 | map h=>exact .map (hj _ _ h)
 | func h1 _ h3 _ ih2 ih4=>exact .func h1 ih2 h3 ih4
 | yield h h1 _ ih2=>exact .yield (hj _ _ h) h1 ih2
 | nilFunc=>exact .nilFunc
 | nilIface=>exact .nilIface
 | agg h1 _ ih=>exact .agg h1 ih
 | tuple h1 _ ih=>exact .tuple h1 ih
theorem LR.mono {j j':aL} (hj:j.le j') {xs ys:List Value} (h:LR j xs ys):LR j' xs ys :=
 ⟨h.1,fun i v hi=>let ⟨v',a,b⟩:=h.2 i v hi; ⟨v',a,b.mono hj⟩⟩
theorem VR.aP {j:aL} {v:Value} (h:aP v=true):VR j v v:=by
 unfold Ab.aP at h
 split at h<;>first|constructor | (simp at h)
theorem LR.plain {j:aL} {l:List Value} (h:l.all Ab.aP=true):LR j l l :=
 ⟨rfl,fun _ v hi=>⟨v,hi,VR.aP (List.all_eq_true.1 h v (List.mem_of_getElem? hi))⟩⟩
theorem VR.bC {j:aL} {v:Value} (h:bC v=true):VR j v v:=by
 unfold Ab.bC at h
 split at h
 ·exact .rY (LR.plain h)
 ·exact .tuple' (LR.plain h)
 ·exact .aP h
def ER (j:aL):List (Value × Value)→List MapEntry→Prop
 | [],[]=>True
 | e::es,f::fs=>VR j e.1 f.key∧VR j e.2 f.val∧ER j es fs
 | _,_=>False
theorem ER.mono {j j':aL} (hj:j.le j'):∀{es:List (Value × Value)} {fs:List MapEntry},ER j es fs→ER j' es fs
 | [],[],_=>trivial
 | _::_,_::_,h=>⟨h.1.mono hj,h.2.1.mono hj,ER.mono hj h.2.2⟩
 | [],_::_,h=>h.elim
 | _::_,[],h=>h.elim
def TR (n:Nat) (j:aL) (t:Tm) (tmps:Array Value):Prop:=tmps.size=n∧∀i,VR j (t.at i) (tmps.getD i undef)
theorem TR.mono {n:Nat} {j j':aL} (hj:j.le j') {t:Tm} {tmps:Array Value} (h:TR n j t tmps):TR n j' t tmps:=⟨h.1,fun i=>(h.2 i).mono hj⟩
def gD (sz:Nat) (c:Array Value):Prop:=c.size≤sz*9223372036854775807
def jr (k:Blk) (tag:Tag) (len:Nat) (c:Array Value) (fz:Nat × Nat):Prop :=
 match tag with
 | .ro=>k.more=none∧c.size=len
 | .own=>k.more=none∧c.size=len∧fz=(0,0)
 | .more sz=>k.more=some (sz,len,c.size)∧len≤c.size∧fz=(0,0)∧0<sz∧gD sz c
theorem jr.put {k:Blk} {tag:Tag} {len:Nat} {c c':Array Value} {fz:Nat × Nat} (h:jr k tag len c fz) (hs:c'.size=c.size) (_:∀i,len≤i→c'[i]? = c[i]?):jr k tag len c' fz:=by
 cases tag with
 | ro=>exact⟨h.1,hs.trans h.2⟩
 | own=>exact⟨h.1,hs.trans h.2.1,h.2.2⟩
 | more sz=>exact⟨by rw[hs]; exact h.1,by rw[hs]; exact h.2.1,h.2.2.1,h.2.2.2.1,by unfold gD; rw[hs]; exact h.2.2.2.2⟩
def uv (es:Array MapEntry) (clock:Nat):Prop:=(∀x ∈ es.toList,x.born<clock)∧(es.toList.map (·.born)).Nodup
theorem qT (c:Nat):uv #[] c:=⟨fun x hx=>by simp at hx,by simp⟩
theorem tT {es:Array MapEntry} {clock:Nat} (h:uv es clock) (k v:Value):uv (es.push { key:=k,val:=v,born:=clock}) (clock+1):=by
 refine⟨fun x hx=>?_,?_⟩
 ·rw[Array.toList_push,List.mem_append,List.mem_singleton] at hx;rcases hx with hx|rfl
  ·exact Nat.lt_succ_of_lt (h.1 x hx)
  ·exact Nat.lt_succ_self _
 ·rw[Array.toList_push,List.map_append,List.map_singleton];refine List.nodup_append.2 ⟨h.2,by simp,fun a ha b hb=>?_⟩
  rw[List.mem_singleton] at hb;obtain⟨x,hx,rfl⟩:=List.mem_map.1 ha;have:=h.1 x hx;rw[hb]; exact Nat.ne_of_lt this
theorem pN {es:Array MapEntry} {clock:Nat} (h:uv es clock) (i:Nat) (f:MapEntry→MapEntry) (hf:∀e,(f e).born=e.born):uv (es.modify i f) clock:=by
 have e:(es.modify i f).toList.map (·.born)=es.toList.map (·.born):=by
  rw[Array.toList_modify];refine List.ext_getElem? fun t=>?_;rw[List.getElem?_map,List.getElem?_map,List.getElem?_modify];cases es.toList[t]? with
  | none=>rfl
  | some a =>
   show some ((if i=t then f a else a).born)=some a.born
   split
   ·rw[hf]
   ·rfl
 refine⟨fun x hx=>?_,by rw[e]; exact h.2⟩
 have hm:x.born ∈ es.toList.map (·.born):=e ▸ List.mem_map.2 ⟨x,hx,rfl⟩;obtain⟨y,hy,he⟩:=List.mem_map.1 hm;rw[←he]; exact h.1 y hy
theorem qZ {es:Array MapEntry} {clock:Nat} (h:uv es clock) (i:Nat):uv (es.eraseIdxIfInBounds i) clock:=by
 have hs:(es.eraseIdxIfInBounds i).toList.Sublist es.toList:=by
  rw[Array.toList_eraseIdxIfInBounds]; exact List.eraseIdx_sublist _ _
 exact⟨fun x hx=>h.1 x (hs.subset hx),(hs.map _).nodup h.2⟩
def OR (j:aL) (k:Blk):AObj→Obj→Prop
 | .cells cs tag,.cells c _ fz=>jr k tag cs.length c fz∧∀(i:Nat) (v:Value),cs[i]? = some v→∃v',c[i]? = some v'∧VR j v v'
 | .map es,.map entries clock=>ER j es entries.toList∧uv entries clock
 | .loop r,.loop r'=>r.state=r'.state∧r.pending=r'.pending∧r.params=r'.params∧r.assign=r'.assign∧r.body=r'.body∧TR r.n j r.tmps r'.tmps
 | _,_=>False
theorem OR.mono {j j':aL} (hj:j.le j') {k:Blk} {o:AObj} {o':Obj} (h:OR j k o o'):OR j' k o o':=by
 cases o with
 | cells cs tag =>
  cases o' with
  | cells c e fz=>exact⟨h.1,fun i v hi=>let ⟨v',a,b⟩:=h.2 i v hi; ⟨v',a,b.mono hj⟩⟩
  | _=>exact h.elim
 | map es =>
  cases o' with
  | map c e=>exact⟨ER.mono hj h.1,h.2⟩
  | _=>exact h.elim
 | loop r =>
  cases o' with
  | loop c=>exact⟨h.1,h.2.1,h.2.2.1,h.2.2.2.1,h.2.2.2.2.1,h.2.2.2.2.2.mono hj⟩
  | _=>exact h.elim
structure MR (E:Env) (j:aL) (m:AMem) (w:World):Prop where
 lt:∀b k,j b=some k→b<m.next∧k.c<w.heap.size
 obj:∀b o k,m.get b=some o→j b=some k→∃o',w.heap[k.c]? = some o'∧OR j k o o'
 inj:∀b b' k k',j b=some k→j b'=some k'→(m.get b).isSome=true→(m.get b').isSome=true→k.c=k'.c→b=b'
 glob:∀g,g<E.glob→j g=some ⟨g,none⟩
structure AExt (m m':AMem):Prop where
 next:m.next≤m'.next
 wl:m'.wl≤m.wl
 same:∀b,b<m.next→b<m'.wl→m'.get b=m.get b
 dead:∀b,b<m.next→m.get b=none→m'.get b=none
theorem AExt.refl (m:AMem):AExt m m:=⟨Nat.le_refl _,Nat.le_refl _,fun _ _ _=>rfl,fun _ _ h=>h⟩
theorem AExt.trans {a b c:AMem} (h:AExt a b) (h':AExt b c):AExt a c :=
 ⟨Nat.le_trans h.next h'.next,Nat.le_trans h'.wl h.wl,
  fun x hx hw=>(h'.same x (Nat.lt_of_lt_of_le hx h.next) hw).trans (h.same x hx (Nat.lt_of_lt_of_le hw h'.wl)),
  fun x hx hn=>h'.dead x (Nat.lt_of_lt_of_le hx h.next) (h.dead x hx hn)⟩
abbrev Calm (w w':World):Prop:=w'.os=w.os∧w'.output=w.output∧w'.tape=w.tape∧w.drawn≤w'.drawn
abbrev fb (E:Env) (w w':World):Prop:=w'.os=w.os∧w'.output=w.output∧w'.tape=w.tape∧(E.mono→w.drawn≤w'.drawn)
theorem Calm.e {E:Env} {w w':World} (h:Calm w w'):fb E w w':=⟨h.1,h.2.1,h.2.2.1,fun _=>h.2.2.2⟩
theorem fb.refl {E:Env} (w:World):fb E w w:=⟨rfl,rfl,rfl,fun _=>Nat.le_refl _⟩
theorem fb.trans {E:Env} {a b c:World} (h:fb E a b) (g:fb E b c):fb E a c:=⟨g.1.trans h.1,g.2.1.trans h.2.1,g.2.2.1.trans h.2.2.1,fun e=>Nat.le_trans (h.2.2.2 e) (g.2.2.2 e)⟩
structure Sim (E:Env) (j:aL) (m:AMem) (w:World) (j':aL) (m':AMem) (w':World):Prop where
 ext:AExt m m'
 le:j.le j'
 new:∀b k,j' b=some k→j b=none→m.next≤b
 mr:MR E j' m' w'
 size:w.heap.size≤w'.heap.size
 full:∀b,m.next≤b→b<m'.next→(m'.get b).isSome=true→∃k,j' b=some k
 away:∀b,b<m.next→j b=none→m'.get b=m.get b
 fresh:∀b k,j' b=some k→j b=none→w.heap.size≤k.c∨∃b0 k0,j b0=some k0∧(m.get b0).isSome=true∧k0.c=k.c∧m'.wl≤b0
 frame:∀c,c<w.heap.size→(∀b k,j b=some k→(m.get b).isSome=true→k.c=c→b<m'.wl)→w'.heap[c]? = w.heap[c]?
 calm:fb E w w'
theorem Sim.refl {E:Env} {j:aL} {m:AMem} {w:World} (h:MR E j m w):Sim E j m w j m w where
 ext:=.refl m
 le:=.refl j
 new:=fun b k h h'=>by simp[h'] at h
 mr:=h
 size:=Nat.le_refl _
 full:=fun b h h' _=>absurd h (by omega)
 away:=fun _ _ _=>rfl
 fresh:=fun b k h h'=>by simp[h'] at h
 frame:=fun _ _ _=>rfl
 calm:=.refl w
theorem Sim.trans {E:Env} {j j1 j2:aL} {m m1 m2:AMem} {w w1 w2:World} (h0:MR E j m w) (h:Sim E j m w j1 m1 w1) (h':Sim E j1 m1 w1 j2 m2 w2):Sim E j m w j2 m2 w2 where
 ext:=h.ext.trans h'.ext
 le:=h.le.trans h'.le
 mr:=h'.mr
 calm:=fb.trans h.calm h'.calm
 size:=Nat.le_trans h.size h'.size
 full:=by
  intro b hb hb' hl;rcases Nat.lt_or_ge b m1.next with hlt|hge
  ·have hl1:(m1.get b).isSome=true:=by
    cases hm:m1.get b with
    | some o=>rfl
    | none=>rw[h'.ext.dead b hlt hm] at hl; cases hl
   obtain⟨k,hk⟩:=h.full b hb hlt hl1;exact⟨k,h'.le b k hk⟩
  ·exact h'.full b hge hb' hl
 new:=by
  intro b k hk hn;cases h1:j1 b with
  | none=>exact Nat.le_trans h.ext.next (h'.new b k hk h1)
  | some k1=>exact h.new b k1 h1 hn
 away:=by
  intro b hb hn;have h1:j1 b=none:=by
   cases h1:j1 b with
   | none=>rfl
   | some k1=>exact absurd (h.new b k1 h1 hn) (by omega)
  exact(h'.away b (Nat.lt_of_lt_of_le hb h.ext.next) h1).trans (h.away b hb hn)
 fresh:=by
  intro b k hk hn;cases h1:j1 b with
  | some k1 =>
   have:=h'.le b k1 h1;rw[hk] at this; cases this;rcases h.fresh b k h1 hn with hf|⟨b0,k0,a1,a2,a3,a4⟩
   ·exact .inl hf
   ·exact .inr ⟨b0,k0,a1,a2,a3,Nat.le_trans h'.ext.wl a4⟩
  | none =>
   rcases h'.fresh b k hk h1 with hf|⟨b0,k0,a1,a2,a3,a4⟩
   ·exact .inl (Nat.le_trans h.size hf)
   ·cases hj0:j b0 with
    | some k0' =>
     have e:=h.le b0 k0' hj0;rw[a1] at e; cases e;refine .inr ⟨b0,k0,hj0,?_,a3,a4⟩;cases hm:m.get b0 with
     | some o=>rfl
     | none=>rw[h.ext.dead b0 (h0.lt b0 k0 hj0).1 hm] at a2; cases a2
    | none =>
     rcases h.fresh b0 k0 a1 hj0 with hf|⟨b1,k1,c1,c2,c3,c4⟩
     ·exact .inl (a3 ▸ hf)
     ·exact .inr ⟨b1,k1,c1,c2,c3.trans a3,Nat.le_trans h'.ext.wl c4⟩
 frame:=by
  intro c hc H;have s1:w1.heap[c]? = w.heap[c]?:=h.frame c hc fun b k hb hl he=>Nat.lt_of_lt_of_le (H b k hb hl he) h'.ext.wl;refine(h'.frame c (Nat.lt_of_lt_of_le hc h.size) ?_).trans s1;intro b k hb hl he;cases hj:j b with
  | some k' =>
   have e:=h.le b k' hj;rw[hb] at e; cases e;refine H b k hj ?_ he;cases hm:m.get b with
   | some o=>rfl
   | none=>rw[h.ext.dead b (h0.lt b k hj).1 hm] at hl; cases hl
  | none =>
   rcases h.fresh b k hb hj with hf|⟨b1,k1,c1,c2,c3,c4⟩
   ·omega
   ·have:=H b1 k1 c1 c2 (c3.trans he);have:=h'.ext.wl;omega
def aL.set (j:aL) (b:Nat) (k:Blk):aL:=fun x=>if x=b then some k else j x
theorem aL.bQ (j:aL) (b:Nat) (k:Blk):j.set b k b=some k:=by simp[aL.set]
theorem aL.bI (j:aL) {b x:Nat} (k:Blk) (h:x≠b):j.set b k x=j x:=by simp[aL.set,h]
theorem aL.jj {j:aL} {b:Nat} (k:Blk) (h:j b=none):j.le (j.set b k):=fun x k' hx=>by
 by_cases e:x=b
 ·subst e; rw[h] at hx; cases hx
 ·rw[aL.bI _ _ e]; exact hx
theorem AMem.aY (m:AMem) (o:AObj) (b:Nat):(m.alloc o).get b=if b=m.next then some o else m.get b:=by
 unfold AMem.alloc AMem.get;simp only[Heap.bB]
 by_cases h:b=m.next<;>simp[h]
theorem AMem.bB (m:AMem) (b x:Nat) (o:AObj):(m.set b o).get x=if x=b then some o else m.get x:=by
 unfold AMem.set AMem.get;simp only[Heap.bB]
 by_cases h:x=b<;>simp[h]
theorem AMem.dt (m:AMem) (b x:Nat):(m.kill b).get x=if x=b then none else m.get x:=by
 unfold AMem.kill AMem.get;simp only[Heap.bB]
 by_cases h:x=b<;>simp[h]
@[simp] theorem AMem.next_alloc (m:AMem) (o:AObj):(m.alloc o).next=m.next+1:=rfl
@[simp] theorem AMem.next_set (m:AMem) (b:Nat) (o:AObj):(m.set b o).next=m.next:=rfl
@[simp] theorem AMem.next_kill (m:AMem) (b:Nat):(m.kill b).next=m.next:=rfl
@[simp] theorem AMem.wl_alloc (m:AMem) (o:AObj):(m.alloc o).wl=m.wl:=rfl
@[simp] theorem AMem.wl_set (m:AMem) (b:Nat) (o:AObj):(m.set b o).wl=min m.wl b:=rfl
@[simp] theorem AMem.wl_kill (m:AMem) (b:Nat):(m.kill b).wl=min m.wl b:=rfl
theorem AExt.alloc (m:AMem) (o:AObj):AExt m (m.alloc o) :=
 ⟨Nat.le_succ _,Nat.le_refl _,fun b h _=>by rw[AMem.aY,if_neg (by omega)],fun b h hn=>by rw[AMem.aY,if_neg (by omega)]; exact hn⟩
theorem AExt.set {m:AMem} {b:Nat} (o:AObj) (hb:(m.get b).isSome=true):AExt m (m.set b o) :=
 ⟨Nat.le_refl _,Nat.min_le_left _ _,fun x _ h=>by
  rw[AMem.bB,if_neg]; intro e; subst e; simp at h; omega,
 fun x _ hn=>by
  rw[AMem.bB,if_neg]
  ·exact hn
  ·intro e; subst e; rw[hn] at hb; cases hb⟩
theorem AExt.kill (m:AMem) (b:Nat):AExt m (m.kill b) :=
 ⟨Nat.le_refl _,Nat.min_le_left _ _,fun x _ h=>by
  rw[AMem.dt,if_neg]; intro e; subst e; simp at h; omega,
 fun x _ hn=>by rw[AMem.dt]; split<;>first|rfl|exact hn⟩
theorem ou {j:aL} {n:Nat} {k:Blk} {m':AMem}:∀b,n≤b→b<n+1→(m'.get b).isSome=true→∃k',j.set n k b=some k':=fun b h1 h2 _=>by
 have:b=n:=by omega
 subst this;exact⟨k,aL.bQ _ _ _⟩
section
variable {E : Env} {j : aL} {m : AMem} {w : World}
theorem MR.iG (h:MR E j m w):j m.next=none:=by
 cases e:j m.next with
 | none=>rfl
 | some k=>exact absurd (h.lt _ _ e).1 (Nat.lt_irrefl _)
theorem MR.of_heap {w':World} (h:MR E j m w) (e:w'.heap=w.heap):MR E j m w' :=
 ⟨by rw[e]; exact h.lt,by rw[e]; exact h.obj,h.inj,h.glob⟩
theorem Sim.of_heap {w':World} (h:MR E j m w) (e:w'.heap=w.heap) (e2:Calm w w':=by first|exact⟨rfl,rfl,rfl,Nat.le_refl _⟩|exact⟨rfl,rfl,rfl,Nat.le_succ _⟩):Sim E j m w j m w' :=
 { Sim.refl h with mr:=h.of_heap e,size:=by rw[e]; exact Nat.le_refl _,frame:=fun c _ _=>by rw[e],calm:=e2.e}
theorem MR.mg {x:Nat} (h:MR E j m w):MR E j { m with wl:=x} w:=⟨h.lt,h.obj,h.inj,h.glob⟩
theorem iF (h:MR E j m w) {ao:AObj} {co:Obj} {mo:Option (Nat × Nat × Nat)} (ho:OR j ⟨w.heap.size,mo⟩ ao co) :
  Sim E j m w (j.set m.next ⟨w.heap.size,mo⟩) (m.alloc ao) (w.alloc co):=by
 have hle:j.le (j.set m.next ⟨w.heap.size,mo⟩):=aL.jj _ h.iG
 have hlt:∀b k,j b=some k→b≠m.next:=fun b k e=>Nat.ne_of_lt (h.lt b k e).1
 refine⟨.alloc m ao,hle,?_,⟨?_,?_,?_,?_⟩,by simp,ou,?_,?_,?_,⟨rfl,rfl,rfl,fun _=>Nat.le_refl _⟩⟩
 ·intro b k hb hn
  by_cases e:b=m.next
  ·exact Nat.le_of_eq e.symm
  ·rw[aL.bI _ _ e,hn] at hb; cases hb
 ·intro b k hb
  by_cases e:b=m.next
  ·subst e; rw[aL.bQ] at hb; cases hb; simp
  ·rw[aL.bI _ _ e] at hb;have:=h.lt b k hb;simp; omega
 ·intro b o k hg hb
  by_cases e:b=m.next
  ·subst e;rw[aL.bQ] at hb; cases hb;rw[AMem.aY,if_pos rfl] at hg; cases hg;exact⟨co,World.alloc_heap_new w co,ho.mono hle⟩
  ·rw[aL.bI _ _ e] at hb;rw[AMem.aY,if_neg e] at hg;obtain⟨o',h1,h2⟩:=h.obj b o k hg hb;refine⟨o',?_,h2.mono hle⟩;have hk:=(h.lt b k hb).2
   show(w.heap.push co)[k.c]? = some o'
   rw[Array.getElem?_push,if_neg (by omega)]; exact h1
 ·intro b b' k k' hb hb' hl hl' hc
  by_cases e:b=m.next<;>by_cases e':b'=m.next
  ·rw[e,e']
  ·subst e;rw[aL.bQ] at hb; cases hb;rw[aL.bI _ _ e'] at hb';exact absurd (h.lt b' k' hb').2 (by simp at hc; omega)
  ·subst e';rw[aL.bQ] at hb'; cases hb';rw[aL.bI _ _ e] at hb;exact absurd (h.lt b k hb).2 (by simp at hc; omega)
  ·rw[aL.bI _ _ e] at hb;rw[aL.bI _ _ e'] at hb';rw[AMem.aY,if_neg e] at hl;rw[AMem.aY,if_neg e'] at hl';exact h.inj b b' k k' hb hb' hl hl' hc
 ·intro g hg; exact hle _ _ (h.glob g hg)
 ·intro b hb _; rw[AMem.aY,if_neg (by omega)]
 ·intro b k hb hn
  by_cases e:b=m.next
  ·subst e; rw[aL.bQ] at hb; cases hb; exact .inl (Nat.le_refl _)
  ·rw[aL.bI _ _ e,hn] at hb; cases hb
 ·intro c hc _
  show(w.heap.push co)[c]? = w.heap[c]?
  rw[Array.getElem?_push,if_neg (by omega)]
theorem eS (h:MR E j m w) {b:Nat} {k:Blk} (hk:j b=some k) (hl:(m.get b).isSome=true) {ao:AObj} {co:Obj} (ho:OR j k ao co) :
  Sim E j m w j (m.set b ao) (w.putObj k.c co):=by
 refine⟨.set ao hl,.refl j,fun x k' e e'=>by simp[e'] at e,⟨?_,?_,?_,h.glob⟩,by simp,fun b h1 h2 _=>absurd h1 (by simp at h2; omega),?_,fun x k' e e'=>by simp[e'] at e,?_,⟨rfl,rfl,rfl,fun _=>Nat.le_refl _⟩⟩
 ·intro x k' e; simpa using h.lt x k' e
 ·intro x o k' hg e
  by_cases hx:x=b
  ·subst hx;rw[hk] at e; cases e;rw[AMem.bB,if_pos rfl] at hg; cases hg;exact⟨co,World.putObj_heap_same (h.lt x k hk).2,ho⟩
  ·rw[AMem.bB,if_neg hx] at hg;obtain⟨o',h1,h2⟩:=h.obj x o k' hg e;refine⟨o',?_,h2⟩;rw[World.putObj_heap_other]
   ·exact h1
   ·intro hc;exact hx (h.inj x b k' k e hk (by rw[hg]; rfl) hl hc)
 ·intro x x' k1 k2 e e' hl1 hl2 hc;refine h.inj x x' k1 k2 e e' ?_ ?_ hc
  ·rw[AMem.bB] at hl1; split at hl1
   ·rename_i hx; subst hx; exact hl
   ·exact hl1
  ·rw[AMem.bB] at hl2; split at hl2
   ·rename_i hx; subst hx; exact hl
   ·exact hl2
 ·intro x hx hn;rw[AMem.bB,if_neg]; intro e; subst e; rw[hk] at hn; cases hn
 ·intro c hc H;apply World.putObj_heap_other;intro e;have:=H b k hk hl e.symm;simp at this; omega
theorem um (h:MR E j m w) {b:Nat} {k0:Blk} (hk0:j b=some k0):Sim E j m w j (m.kill b) w:=by
 refine⟨.kill m b,.refl j,fun x k' e e'=>by simp[e'] at e,⟨h.lt,?_,?_,h.glob⟩,Nat.le_refl _,fun b h1 h2 _=>absurd h1 (by simp at h2; omega),?_,fun x k' e e'=>by simp[e'] at e,fun _ _ _=>rfl,⟨rfl,rfl,rfl,fun _=>Nat.le_refl _⟩⟩
 ·intro x o k hg e;rw[AMem.dt] at hg
  split at hg
  ·cases hg
  ·exact h.obj x o k hg e
 ·intro x x' k k' e e' hl hl' hc;rw[AMem.dt] at hl hl'
  split at hl
  ·cases hl
  ·split at hl'
   ·cases hl'
   ·exact h.inj x x' k k' e e' hl hl' hc
 ·intro x hx hn;rw[AMem.dt,if_neg];intro e; subst e; rw[hk0] at hn; cases hn
theorem pR (h:MR E j m w) {b:Nat} {k:Blk} (hk:j b=some k) (hl:(m.get b).isSome=true) {ao:AObj} {co:Obj} {mo:Option (Nat × Nat × Nat)} (ho:OR j ⟨k.c,mo⟩ ao co) :
  Sim E j m w (j.set m.next ⟨k.c,mo⟩) ((m.kill b).alloc ao) (w.putObj k.c co):=by
 have hle:j.le (j.set m.next ⟨k.c,mo⟩):=aL.jj _ h.iG
 have hbn:b<m.next:=(h.lt b k hk).1
 have hkc:k.c<w.heap.size:=(h.lt b k hk).2;have hget:∀x,((m.kill b).alloc ao).get x=if x=m.next then some ao else if x=b then none else m.get x:=by
  intro x; rw[AMem.aY,AMem.dt]; rfl
 refine⟨(AExt.kill m b).trans (AExt.alloc _ ao),hle,?_,⟨?_,?_,?_,fun g hg=>hle _ _ (h.glob g hg)⟩,by simp,ou,?_,?_,?_,⟨rfl,rfl,rfl,fun _=>Nat.le_refl _⟩⟩
 ·intro x k' hx hn
  by_cases e:x=m.next
  ·exact Nat.le_of_eq e.symm
  ·rw[aL.bI _ _ e,hn] at hx; cases hx
 ·intro x k' hx
  by_cases e:x=m.next
  ·subst e; rw[aL.bQ] at hx; cases hx; simp; exact hkc
  ·rw[aL.bI _ _ e] at hx;have:=h.lt x k' hx;simp; omega
 ·intro x o k' hg hx;rw[hget] at hg
  by_cases e:x=m.next
  ·subst e;rw[aL.bQ] at hx; cases hx;rw[if_pos rfl] at hg; cases hg;exact⟨co,World.putObj_heap_same hkc,ho.mono hle⟩
  ·rw[aL.bI _ _ e] at hx;rw[if_neg e] at hg
   split at hg
   ·cases hg
   ·rename_i hxb;obtain⟨o',h1,h2⟩:=h.obj x o k' hg hx;refine⟨o',?_,h2.mono hle⟩;rw[World.putObj_heap_other]
    ·exact h1
    ·intro hc;exact hxb (h.inj x b k' k hx hk (by rw[hg]; rfl) hl hc)
 ·intro x x' k1 k2 hx hx' hl1 hl2 hc;rw[hget] at hl1 hl2
  by_cases e:x=m.next<;>by_cases e':x'=m.next
  ·rw[e,e']
  ·subst e;rw[aL.bQ] at hx; cases hx;rw[aL.bI _ _ e'] at hx';rw[if_neg e'] at hl2
   split at hl2
   ·cases hl2
   ·rename_i hxb;exact absurd (h.inj x' b k2 k hx' hk hl2 hl hc.symm) hxb
  ·subst e';rw[aL.bQ] at hx'; cases hx';rw[aL.bI _ _ e] at hx;rw[if_neg e] at hl1
   split at hl1
   ·cases hl1
   ·rename_i hxb;exact absurd (h.inj x b k1 k hx hk hl1 hl hc) hxb
  ·rw[aL.bI _ _ e] at hx;rw[aL.bI _ _ e'] at hx';rw[if_neg e] at hl1;rw[if_neg e'] at hl2
   split at hl1
   ·cases hl1
   ·split at hl2
    ·cases hl2
    ·exact h.inj x x' k1 k2 hx hx' hl1 hl2 hc
 ·intro x hx hn;rw[hget,if_neg (by omega),if_neg]
  intro e; subst e; rw[hk] at hn; cases hn
 ·intro x k' hx hn
  by_cases e:x=m.next
  ·subst e; rw[aL.bQ] at hx; cases hx;exact .inr ⟨b,k,hk,hl,rfl,by simp; omega⟩
  ·rw[aL.bI _ _ e,hn] at hx; cases hx
 ·intro c hc H;apply World.putObj_heap_other;intro e;have:=H b k hk hl e.symm;simp at this; omega
theorem MR.eT (h:MR E j m w) {b:Nat} {k:Blk} (hk:j b=some k) {cs:List Value} {tag:Tag} (hg:m.get b=some (.cells cs tag)) :
  ∃c e fz,w.heap[k.c]? = some (.cells c e fz)∧jr k tag cs.length c fz∧∀(i:Nat) (v:Value),cs[i]? = some v→∃v',c[i]? = some v'∧VR j v v':=by
 obtain⟨o',h1,h2⟩:=h.obj b _ k hg hk;cases o' with
 | cells c e fz=>exact⟨c,e,fz,h1,h2.1,h2.2⟩
 | _=>exact h2.elim
theorem MR.cell (h:MR E j m w) {b:Nat} {k:Blk} (hk:j b=some k) {cs:List Value} {tag:Tag} (hg:m.get b=some (.cells cs tag)) {o:Nat} {v:Value} (hv:cs[o]? = some v) :
  ∃v',w.cell? ⟨k.c,o,none⟩=some v'∧VR j v v':=by
 obtain⟨c,e,fz,h1,_,h3⟩:=h.eT hk hg;obtain⟨v',h4,h5⟩:=h3 o v hv;exact⟨v',by simp[World.cell?,h1,h4],h5⟩
theorem iv (c o i:Nat):(⟨c,o,none⟩:Addr).add i=⟨c,o+i,none⟩:=by
 unfold Addr.add
 split
 ·rename_i e; subst e; rfl
 ·rfl
theorem kZ {b o n:Nat} {vs:List Value} (hm:m.dg b o n=some vs):∃cs tag,m.get b=some (.cells cs tag)∧vs=(cs.drop o).take n∧vs.length=n:=by
 unfold AMem.dg at hm
 split at hm
 ·rename_i cs tag hg;simp only at hm
  split at hm
  ·rename_i hl;cases hm;exact⟨cs,tag,hg,rfl,hl⟩
  ·cases hm
 ·cases hm
theorem MR.dg (h:MR E j m w) {b:Nat} {k:Blk} (hk:j b=some k) {o n:Nat} {vs:List Value} (hm:m.dg b o n=some vs) :
  ∃vs',(∀w0:World,w0.heap=w.heap→(loadCells ⟨k.c,o,none⟩ n).run E.P w0 = .ok vs'.toArray w0)∧LR j vs vs':=by
 obtain⟨cs,tag,hg,rfl,hl⟩:=kZ hm;obtain⟨c,e,fz,h1,_,h3⟩:=h.eT hk hg;have hcell:∀i,i<n→∃v v',cs[o+i]? = some v∧c[o+i]? = some v'∧VR j v v':=by
  intro i hi;have:o+i<cs.length:=by simp at hl; omega
  obtain⟨v',a,b⟩:=h3 (o+i) _ (List.getElem?_eq_getElem this);exact⟨_,v',List.getElem?_eq_getElem this,a,b⟩
 refine⟨(List.range n).map fun i=>c.getD (o+i) undef,fun w0 hw0=>run_loadCells w0 _ n _ ?_,?_⟩
 ·intro i hi;obtain⟨v,v',_,a,_⟩:=hcell i hi;rw[iv];simp[World.cell?,hw0,h1,a]
 ·refine⟨by simp; simpa using hl,fun i v hi=>?_⟩
  rw[List.getElem?_take] at hi
  split at hi
  ·rename_i hlt;rw[List.getElem?_drop] at hi;obtain⟨v1,v',a,b,r⟩:=hcell i hlt;rw[hi] at a; cases a;refine⟨v',?_,r⟩;simp[hlt,b]
  ·cases hi
theorem j8 (cs:List Value) (o:Nat):aT cs o []=cs:=by
 induction cs generalizing o with
 | nil=>cases o<;>rfl
 | cons c cs ih=>cases o<;>simp[aT,ih]
theorem bU:∀(cs:List Value) (o:Nat) (vs:List Value),(aT cs o vs).length=cs.length
 | [],0,[]=>rfl
 | [],0,_::_=>rfl
 | [],_+1,_=>rfl
 | _::_,0,[]=>rfl
 | _::cs,0,_::vs=>by simp[aT,bU cs 0 vs]
 | _::cs,o+1,vs=>by simp[aT,bU cs o vs]
theorem bO:∀(cs:List Value) (o:Nat) (vs:List Value) (i:Nat),(aT cs o vs)[i]? = if o≤i∧i<o+vs.length∧i<cs.length then vs[i-o]? else cs[i]?
 | [],0,[],i=>by simp[aT]
 | [],0,_::_,i=>by simp[aT]
 | [],_+1,_,i=>by simp[aT]
 | c::cs,0,[],i=>by simp[aT]
 | c::cs,0,v::vs,0=>by simp[aT]
 | c::cs,0,v::vs,i+1=>by
  have:=bO cs 0 vs i;simp only[aT,List.getElem?_cons_succ,this,List.length_cons,Nat.zero_le,true_and,Nat.zero_add,Nat.sub_zero,Nat.add_lt_add_iff_right]
 | c::cs,o+1,vs,0=>by simp[aT]
 | c::cs,o+1,vs,i+1=>by
  have:=bO cs o vs i;simp only[aT,List.getElem?_cons_succ,this,List.length_cons,Nat.add_le_add_iff_right,Nat.add_lt_add_iff_right,Nat.add_sub_add_right,Nat.add_right_comm o 1 vs.length]
theorem eh:∀(cs:List Value) (o:Nat) (v:Value) (vs:List Value),o<cs.length→aT cs o (v::vs)=aT (cs.set o v) (o+1) vs
 | [],_,_,_,h=>by simp at h
 | c::cs,0,v,vs,_=>by simp[aT]
 | c::cs,o+1,v,vs,h=>by simp[aT,eh cs o v vs (by simpa using h)]
theorem k4 {w:World} {B o:Nat} {c:Array Value} {e:TypeId} {fz:Nat × Nat} (h:w.heap[B]? = some (.cells c e fz)) (v:Value) :
  w.setCell ⟨B,o,none⟩ v=w.putObj B (.cells (c.setIfInBounds o v) e fz):=by
 unfold World.setCell World.putObj
 congr 1
 apply Array.ext_getElem?;intro i;rw[Array.getElem?_modify,Array.getElem?_setIfInBounds]
 by_cases hi:B=i
 ·subst hi;obtain⟨hlt,hv⟩:=Array.getElem?_eq_some_iff.1 h;simp[hlt,hv]
 ·simp[hi]
theorem lB {w:World} {B:Nat} {o o':Obj}:(w.putObj B o).putObj B o'=w.putObj B o':=by
 unfold World.putObj;simp
theorem kg {w:World} {B:Nat} {o:Obj} (h:w.heap[B]? = some o):w.putObj B o=w:=by
 unfold World.putObj
 congr 1
 apply Array.ext_getElem?;intro i;rw[Array.getElem?_setIfInBounds]
 split
 ·rename_i hi; subst hi;obtain⟨hlt,hv⟩:=Array.getElem?_eq_some_iff.1 h;simp[hlt,hv]
 ·rfl
theorem dV {P:Program} {B:Nat} {e:TypeId}:∀(vs:List Value) (w:World) (c:Array Value) (off i:Nat),w.heap[B]? = some (.cells c e (0,0))→off+i+vs.length≤c.size →
  bh vs=true→(storeCells ⟨B,off,none⟩ vs i).run P w = .ok () (w.putObj B (.cells (aT c.toList (off+i) vs).toArray e (0,0)))
 | [],w,c,off,i,h,_,_=>by
  simp only[storeCells,Sem.run_pure,j8];rw[show c.toList.toArray=c from rfl,kg h]
 | v::vs,w,c,off,i,h,hlen,hone=>by
  have hlen':off+i+(vs.length+1)≤c.size:=by simpa using hlen
  have hone':gQ v=true∧bh vs=true:=by simpa [bh] using hone
  have hv:v.oneCell'=true:=by
   have:=hone'.1; cases v<;>first|rfl | (simp[gQ] at this)
  have hcell:w.cell? ⟨B,off+i,none⟩=some c[off+i]:=by
   simp[World.cell?,h]
  have hfz:w.frozen? ⟨B,off+i,none⟩=false:=by simp[World.frozen?,h]
  have hh:(w.putObj B (.cells (c.setIfInBounds (off+i) v) e (0,0))).heap[B]? = some (.cells (c.setIfInBounds (off+i) v) e (0,0)) :=
   World.putObj_heap_same (Array.getElem?_eq_some_iff.1 h).1
  have ih:=dV (P:=P) vs _ (c.setIfInBounds (off+i) v) off (i+1) hh (by simp; omega) hone'.2
  simp only[storeCells,Sem.run_bind,iv];rw[run_store _ _ _ _ _ hv];simp only[hcell,hfz,Result.andThen_ok,Bool.false_eq_true,if_false,k4 h,ih,lB]
  congr 4
  rw[eh _ _ _ _ (by simp; omega)]
  simp[Nat.add_assoc]
theorem lg {j:aL} {v v':Value} (h:VR j v v') (ho:gQ v=true):gQ v'=true:=by
 cases h<;>first|rfl|exact mn ‹_› | (simp[gQ] at ho)
theorem jb {j:aL} {vs vs':List Value} (h:LR j vs vs') (ho:bh vs=true):bh vs'=true:=by
 induction vs generalizing vs' with
 | nil=>rw[h.cJ]; rfl
 | cons v vs ih =>
  obtain⟨y,ys,rfl,h1,h2⟩:=h.cons_inv;simp only[bh,List.all_cons,Bool.and_eq_true] at ho ⊢;exact⟨lg h1 ho.1,ih h2 ho.2⟩
theorem nU {b o:Nat} {vs:List Value} {m':AMem} (hm:m.dn b o vs=some m') :
  (vs = []∧m'=m)∨∃cs tag,m.get b=some (.cells cs tag)∧tag≠.ro∧o+vs.length≤cs.length∧m'=m.set b (.cells (aT cs o vs) tag):=by
 unfold AMem.dn at hm
 split at hm
 ·cases hm; exact .inl ⟨rfl,rfl⟩
 ·split at hm
  ·cases hm
  ·rename_i cs tag hro hg
   split at hm
   ·rename_i hl;cases hm;exact .inr ⟨cs,tag,hg,fun e=>hro e,hl,rfl⟩
   ·cases hm
  ·cases hm
theorem fe (h:MR E j m w) {b:Nat} {k:Blk} (hk:j b=some k) {o:Nat} {vs vs':List Value} (hv:LR j vs vs') (ho:bh vs=true) {m':AMem} (hm:m.dn b o vs=some m') :
  ∃w',(storeCells ⟨k.c,o,none⟩ vs').run E.P w = .ok () w'∧Sim E j m w j m' w':=by
 rcases nU hm with⟨rfl,rfl⟩|⟨cs,tag,hg,hro,hl,rfl⟩
 ·rw[hv.cJ];exact⟨w,rfl,.refl h⟩
 ·obtain⟨c,e,fz,h1,h2,h3⟩:=h.eT hk hg;have hfz:fz=(0,0)∧cs.length≤c.size:=by
   cases tag with
   | ro=>exact absurd rfl hro
   | own=>exact⟨h2.2.2,by rw[h2.2.1]; exact Nat.le_refl _⟩
   | more sz=>exact⟨h2.2.2.1,h2.2.1⟩
  obtain⟨rfl,hsz⟩:=hfz;refine⟨_,dV vs' w c o 0 h1 (by rw[←hv.1]; simp; omega) (jb hv ho),eS h hk (by rw[hg]; rfl) ⟨?_,?_⟩⟩
  ·rw[bU];have:(aT c.toList (o+0) vs').toArray.size=c.size:=by simp[bU]
   exact h2.put this fun i hi=>by
    rw[List.getElem?_toArray,bO,if_neg (by rw[←hv.1]; omega)]; simp
  ·intro i v hi;rw[bO] at hi;have:(aT c.toList (o+0) vs').toArray[i]? = if o≤i∧i<o+vs'.length∧i<c.size then vs'[i-o]? else c[i]?:=by
    rw[List.getElem?_toArray,bO]; simp
   rw[this]
   by_cases hc:o≤i∧i<o+vs.length∧i<cs.length
   ·rw[if_pos hc] at hi;rw[if_pos ⟨hc.1,hv.1 ▸ hc.2.1,by omega⟩]
    exact hv.2 _ v hi
   ·rw[if_neg hc] at hi;have hi':=(List.getElem?_eq_some_iff.1 hi).1;rw[if_neg (by rw[←hv.1]; omega)]
    exact h3 i v hi
end
section
variable {P : Program} {w : World}
theorem lb {t:TypeId} {i:TypeInfo} (h:P.info? t=some i) (w:World):(typeInfo t).run P w = .ok i w:=by simp[typeInfo,h]
theorem bW {t:TypeId} (h:known P t=true) (w:World):(sizeOf t).run P w = .ok (aE P t) w:=by
 simp only[known,Bool.and_eq_true,Option.isSome_iff_exists] at h;obtain⟨_,i,hi⟩:=h;simp[sizeOf,lb hi,aE,Program.cellsOf,hi]
theorem iH {t:TypeId} (h:known P t=true) (w:World):(isAgg t).run P w = .ok (cL P t) w:=by
 simp only[known,Bool.and_eq_true,Option.isSome_iff_exists] at h;obtain⟨⟨d,hd⟩,_⟩:=h;simp only[isAgg,Sem.run_bind,run_underlying hd,Result.andThen_ok,cL,hd];cases d<;>rfl
theorem fk {t:TypeId} {z:Value} (h:bq P t=some z) (w:World):(zeroValue t).run P w = .ok z w:=by
 unfold bq at h;cases hi:P.info? t with
 | none=>rw[hi] at h; cases h
 | some i =>
  rw[hi] at h;have hz:i.zero=some z:=h;simp[zeroValue,lb hi,hz]
theorem nk {t:TypeId} {z:Value} (h:bq P t=some z):∃i,P.info? t=some i∧i.zero=some z:=by
 unfold bq at h;cases hi:P.info? t with
 | none=>rw[hi] at h; cases h
 | some i=>rw[hi] at h; exact⟨i,rfl,h⟩
theorem LR.extract {j:aL} {xs ys:Array Value} (h:LR j xs.toList ys.toList) (a b:Nat):LR j (xs.extract a b).toList (ys.extract a b).toList:=by
 simp only[Array.toList_extract];exact(h.drop a).take (b-a)
theorem jB {j:aL} {t:TypeId} {cs cs':Array Value} {off:Nat} {v:Value} (h:cw P t cs off=some v) (hc:LR j cs.toList cs'.toList) :
  ∃v',(∀w,(part t cs' off).run P w = .ok v' w)∧VR j v v':=by
 unfold cw at h
 split at h
 ·cases h
 ·rename_i hk;have hk':known P t=true:=by simpa using hk
  split at h
  ·rename_i ha;cases h;refine⟨.agg (cs'.extract off (off+aE P t)),fun w=>?_,.rY (hc.extract _ _)⟩;simp[part,iH hk',ha,bW hk']
  ·rename_i ha;have:cs.toList[off]? = some v:=by simpa using h
   obtain⟨v',h1,h2⟩:=hc.get this;refine⟨v',fun w=>?_,h2⟩;have h1':cs'[off]? = some v':=by simpa using h1
   have ha':cL P t=false:=by simpa using ha
   simp[part,iH hk',ha',h1']
def eB (d:Nat) (xs ys:Array Value):List (TypeId × Nat)→Sem Bool
 | []=>pure true
 | (t,off)::rest=>do
  let a ←part t xs off
  let b ←part t ys off
  let r ←Op.equalIn d t a b
  if (!r)=true then pure false else eB d xs ys rest
theorem fA (d : Nat) (xs ys : Array Value) : ∀ (fs : List Field) (w : World), fs.any (·.name == "_") = false →
  (Op.eqFields d xs ys fs).run P w=(eB d xs ys (fs.map fun f=>(f.type,f.offset))).run P w
 | [],_,_=>rfl
 | f::fs,w,h=>by
  simp only[List.any_cons,Bool.or_eq_false_iff] at h;have hn : f.name ≠ "_" := by simpa using h.1
  simp only[Op.eqFields,if_pos hn,List.map_cons,eB,Sem.run_bind,Sem.run_ite]
  congr 1; funext a w1; congr 1; funext b w2; congr 1; funext r w3
  split
  ·rfl
  ·exact fA d xs ys fs w3 h.2
theorem run_equalIn_array (d:Nat) (t:TypeId) (len:Nat) (elem:TypeId) (xs ys:Array Value) (ht:P.underlying t=some (.array len elem)) (he:known P elem=true) (w:World) :
  (Op.equalIn (d+1) t (.agg xs) (.agg ys)).run P w=(eB d xs ys ((List.range len).map fun i=>(elem,i*aE P elem))).run P w:=by
 simp only[Op.equalIn,Sem.run_bind,run_underlying ht,Result.andThen_ok,bW he];rw[Std.Legacy.Range.forIn_eq_forIn_range'];simp only[Std.Legacy.Range.size,Nat.sub_zero,Nat.add_sub_cancel,Nat.div_one];rw[←List.range_eq_range'];generalize List.range len=is
 induction is generalizing w with
 | nil=>simp[eB]
 | cons i is ih =>
  simp only[List.forIn_cons,List.map_cons,eB,Sem.run_bind,Sem.run_ite];generalize (part elem xs (i*aE P elem)).run P w=r1;cases r1 with
  | ok a w1 =>
   simp only[Result.andThen_ok];generalize (part elem ys (i*aE P elem)).run P w1=r2;cases r2 with
   | ok b w2 =>
    simp only[Result.andThen_ok];generalize (Op.equalIn d elem a b).run P w2=r3;cases r3 with
    | ok r w3 =>
     cases r
     ·simp only[Result.andThen_ok,Bool.not_false,if_true,Sem.run_pure]
     ·simp only[Result.andThen_ok,Bool.not_true,Bool.false_eq_true,if_false,Sem.run_pure];exact ih w3
    | halt x w3=>simp[Result.andThen]
   | halt x w2=>simp[Result.andThen]
  | halt x w1=>simp[Result.andThen]
theorem gW {j:aL} {d:Nat} (ih:∀{t:TypeId} {x y x' y':Value} {b:Bool},fU P d t x y=some b→VR j x x'→VR j y y'→∀w,(Op.equalIn d t x' y').run P w = .ok b w)
  {xs ys xs' ys':Array Value} (hx:LR j xs.toList xs'.toList) (hy:LR j ys.toList ys'.toList) :
  ∀(l:List (TypeId × Nat)) {b:Bool},ek (fU P d) P xs ys l=some b→∀w,(eB d xs' ys' l).run P w = .ok b w
 | [],b,h,w=>by cases h; rfl
 | (t,off)::rest,b,h,w=>by
  simp only[ek] at h
  split at h
  ·rename_i x y h1 h2;obtain⟨x',e1,r1⟩:=jB h1 hx;obtain⟨y',e2,r2⟩:=jB h2 hy;simp only[eB,Sem.run_bind,e1,e2,Result.andThen_ok]
   split at h
   ·rename_i he;rw[ih he r1 r2 w];simp only[Result.andThen_ok,Bool.not_true,Bool.false_eq_true,if_false];exact gW ih hx hy rest h w
   ·rename_i hne;cases b with
    | true=>exact absurd h hne
    | false =>
     rw[ih h r1 r2 w];simp
  ·cases h
theorem gC {j:aL}:∀(d:Nat) {t:TypeId} {x y x' y':Value} {b:Bool},fU P d t x y=some b→VR j x x'→VR j y y'→∀w,(Op.equalIn d t x' y').run P w = .ok b w
 | 0,_,_,_,_,_,_,h,_,_,_=>by cases h
 | d+1,t,x,y,x',y',b,h,hx,hy,w=>by
  unfold fU at h
  split at h
  ·rename_i ht; cases h; cases hx; cases hy; simp only[Op.equalIn,Sem.run_bind,run_underlying ht,Result.andThen_ok,Sem.run_pure]
  ·rename_i ht
   split at h
   ·rename_i hk; cases h; cases hx; cases hy; simp only[Op.equalIn,Sem.run_bind,run_underlying ht,Result.andThen_ok,Sem.run_pure,if_pos hk]
   ·cases h
  ·rename_i ht; cases h; cases hx; cases hy; simp only[Op.equalIn,Sem.run_bind,run_underlying ht,Result.andThen_ok,Sem.run_pure]
  ·rename_i ht; cases h; cases hx; cases hy<;>simp only[Op.equalIn,Sem.run_bind,run_underlying ht,Result.andThen_ok,Sem.run_pure]<;>rfl
  ·rename_i ht; cases h; cases hx; cases hy; simp only[Op.equalIn,Sem.run_bind,run_underlying ht,Result.andThen_ok,Sem.run_pure]
  ·rename_i ht; cases h; cases hx; cases hy<;>simp only[Op.equalIn,Sem.run_bind,run_underlying ht,Result.andThen_ok,Sem.run_pure]<;>rfl
  ·rename_i ht; cases h; cases hy; cases hx<;>simp only[Op.equalIn,Sem.run_bind,run_underlying ht,Result.andThen_ok,Sem.run_pure]
  ·rename_i ht; cases h; cases hx; cases hy<;>simp only[Op.equalIn,Sem.run_bind,run_underlying ht,Result.andThen_ok,Sem.run_pure]<;>rfl
  ·rename_i ht; cases h; cases hy; cases hx<;>simp only[Op.equalIn,Sem.run_bind,run_underlying ht,Result.andThen_ok,Sem.run_pure]
  ·rename_i ht; cases h; cases hx; cases hy; simp only[Op.equalIn,Sem.run_bind,run_underlying ht,Result.andThen_ok,Sem.run_pure]
  ·rename_i ht; cases h; cases hx; cases hy<;>simp only[Op.equalIn,Sem.run_bind,run_underlying ht,Result.andThen_ok,Sem.run_pure]
  ·rename_i ht; cases h; cases hy; cases hx<;>simp only[Op.equalIn,Sem.run_bind,run_underlying ht,Result.andThen_ok,Sem.run_pure]
  ·rename_i fs xs ys ht
   split at h
   ·cases h
   ·rename_i hs;simp only[Bool.or_eq_true,not_or,Bool.not_eq_true] at hs;cases hx with
    | agg h1 h2 =>
    cases hy with
    | agg h3 h4 =>
    have hf:P.fieldsOf t=fs:=by simp[Program.fieldsOf,ht]
    rw[run_equalIn_struct _ d t _ _ (by rw[hf]; exact ht) hs.1,hf,fA _ _ _ _ _ (by simpa using hs.2)]
    exact gW (fun a b c w=>gC d a b c w) (LR.dJ h1 h2) (LR.dJ h3 h4) _ h w
  ·rename_i len elem xs ys ht
   split at h
   ·rename_i hk;cases hx with
    | agg h1 h2 =>
    cases hy with
    | agg h3 h4 =>
    rw[run_equalIn_array d t len elem _ _ ht hk];exact gW (fun a b c w=>gC d a b c w) (LR.dJ h1 h2) (LR.dJ h3 h4) _ h w
   ·cases h
  ·cases h
end
def iU (P:Program) (s:Sem Value) (v:Value):Prop:=∀w,s.run P w = .ok v w
section
variable {P : Program} {j : aL}
theorem cV (op:BinOp) (t:TypeId) (x y:Operand) {a b:Value} (h1:∀xs ys,a = .agg xs→b = .agg ys→False) (h2:a≠.nilIface) (w:World) :
  (eqGuard op t x y a b).run P w = .ok () w:=by
 unfold eqGuard;cases op<;>simp only[Bool.not_false,Bool.not_true,if_true,Bool.false_eq_true,if_false,Sem.run_pure]<;>
  (split
   ·exact absurd rfl h2
   ·exact(h1 _ _ rfl rfl).elim
   ·rfl)
def iE:Value→Bool
 | .bool _ | .pointer _ | .slice _ _ _ | .map _ | .func _ _ _ | .nilFunc=>true
 | _=>false
theorem binOp_eql {t:TypeId} {x y:Value} (h:iE x=true):binOp .eql t x y=(do pure (.bool (←Op.equal t x y))):=by
 cases x<;>first | (simp[iE] at h; done) | (cases y<;>rfl)
theorem binOp_neq {t:TypeId} {x y:Value} (h:iE x=true):binOp .neq t x y=(do pure (.bool (!(←Op.equal t x y)))):=by
 cases x<;>first | (simp[iE] at h; done) | (cases y<;>rfl)
theorem vD {op:BinOp} {t:TypeId} {x y x' y' v:Value} (h:cB op t P x y=some v) (hx:VR j x x') (hy:VR j y y') (ox oy:Operand) :
  ∃v',iU P (do eqGuard op t ox oy x' y'; binOp op t x' y') v'∧VR j v v':=by
 unfold cB at h
 split at h
 case h_1 =>
  cases hx; cases hy
  split at h
  ·cases h
  ·rename_i hb;cases h;refine⟨_,fun w=>?_,.int _ _⟩;rw[Sem.run_bind,cV _ _ _ _ (by intro _ _ e; cases e) (by intro e; cases e)]
   simp only[Result.andThen_ok,binOp,Op.shift,if_neg hb,Sem.run_pure]
 case h_2 =>
  cases hx; cases hy
  split at h
  ·cases h
  ·rename_i hb;cases h;refine⟨_,fun w=>?_,.int _ _⟩;rw[Sem.run_bind,cV _ _ _ _ (by intro _ _ e; cases e) (by intro e; cases e)]
   simp only[Result.andThen_ok,binOp,Op.shift,if_neg hb,Sem.run_pure]
 case h_12 =>
  cases hx; cases hy
  split at h
  ·rename_i hk
   split at h
   ·cases h
   ·rename_i hb;cases h;refine⟨_,fun w=>?_,.int _ _⟩;rw[Sem.run_bind,cV _ _ _ _ (by intro _ _ e; cases e) (by intro e; cases e)]
    simp only[Result.andThen_ok,binOp,hk,ne_eq,not_true_eq_false,if_false,Op.intDiv,if_neg hb,Sem.run_pure]
  ·cases h
 case h_13 =>
  cases hx; cases hy
  split at h
  ·rename_i hk
   split at h
   ·cases h
   ·rename_i hb;cases h;refine⟨_,fun w=>?_,.int _ _⟩;rw[Sem.run_bind,cV _ _ _ _ (by intro _ _ e; cases e) (by intro e; cases e)]
    simp only[Result.andThen_ok,binOp,hk,ne_eq,not_true_eq_false,if_false,Op.intDiv,if_neg hb,Sem.run_pure]
  ·cases h
 case h_18 =>
  cases h; cases hx; cases hy;refine⟨_,fun w=>?_,.bool _⟩;rw[Sem.run_bind,cV _ _ _ _ (by intro _ _ e; cases e) (by intro e; cases e)]
  simp only[Result.andThen_ok,binOp,Op.stringOp,Sem.run_pure,beq_toListBytes]
 case h_19 =>
  cases h; cases hx; cases hy;refine⟨_,fun w=>?_,.bool _⟩;rw[Sem.run_bind,cV _ _ _ _ (by intro _ _ e; cases e) (by intro e; cases e)]
  simp only[Result.andThen_ok,binOp,Op.stringOp,Sem.run_pure,bne,beq_toListBytes]
 case h_20=>cases h
 case h_21 =>
  cases hx with
  | agg h1 h2 =>
  cases hy with
  | agg h3 h4 =>
  split at h
  ·cases h
  ·rename_i hg;cases he:fU P Op.maxDepth t (.agg _) (.agg _) with
   | none=>rw[he] at h; cases h
   | some b =>
    rw[he] at h; cases h;refine⟨_,fun w=>?_,.bool _⟩;have:=gC (P:=P) Op.maxDepth he (.agg h1 h2) (.agg h3 h4) w;have hg':P.eqGuardType P.depth t=false:=by simpa using hg
    rw[Sem.run_bind,run_eqGuard_agg w _ _ _ _ _ _ hg'];simp only[Result.andThen_ok,binOp,Op.equal,Sem.run_bind,this,Sem.run_pure]
 case h_22 =>
  cases hx with
  | agg h1 h2 =>
  cases hy with
  | agg h3 h4 =>
  split at h
  ·cases h
  ·rename_i hg;cases he:fU P Op.maxDepth t (.agg _) (.agg _) with
   | none=>rw[he] at h; cases h
   | some b =>
    rw[he] at h; cases h;refine⟨_,fun w=>?_,.bool _⟩;have:=gC (P:=P) Op.maxDepth he (.agg h1 h2) (.agg h3 h4) w;have hg':P.eqGuardType P.depth t=false:=by simpa using hg
    rw[Sem.run_bind,run_eqGuard_agg w _ _ _ _ _ _ hg'];simp only[Result.andThen_ok,binOp,Op.equal,Sem.run_bind,this,Sem.run_pure]
 case h_23 =>
  have key:iE x'=true∧∃b,fU P Op.maxDepth t x y=some b∧v = .bool b:=by
   split at h<;>first
    | (cases h; done)
    | (refine⟨?_,?_⟩
       ·cases hx<;>rfl
       ·cases he:fU P Op.maxDepth t _ y with
        | none=>rw[he] at h; cases h
        | some b=>rw[he] at h; cases h; exact⟨b,rfl,rfl⟩)
  obtain⟨hs,b,he,rfl⟩:=key;refine⟨_,fun w=>?_,.bool b⟩;rw[Sem.run_bind,cV _ _ _ _ (by intro _ _ e; subst e; cases hs) (by intro e; subst e; cases hs),Result.andThen_ok,binOp_eql hs]
  simp only[Op.equal,Sem.run_bind,gC _ he hx hy,Result.andThen_ok,Sem.run_pure]
 case h_24 =>
  have key:iE x'=true∧∃b,fU P Op.maxDepth t x y=some b∧v = .bool (!b):=by
   split at h<;>first
    | (cases h; done)
    | (refine⟨?_,?_⟩
       ·cases hx<;>rfl
       ·cases he:fU P Op.maxDepth t _ y with
        | none=>rw[he] at h; cases h
        | some b=>rw[he] at h; cases h; exact⟨b,rfl,rfl⟩)
  obtain⟨hs,b,he,rfl⟩:=key;refine⟨_,fun w=>?_,.bool (!b)⟩;rw[Sem.run_bind,cV _ _ _ _ (by intro _ _ e; subst e; cases hs) (by intro e; subst e; cases hs),Result.andThen_ok,binOp_neq hs]
  simp only[Op.equal,Sem.run_bind,gC _ he hx hy,Result.andThen_ok,Sem.run_pure]
 case h_25=>cases h
 all_goals
  cases hx; cases hy
  split at h
  ·rename_i hk;cases h;refine⟨_,fun w=>?_,(by first|exact .bool _|exact .int _ _)⟩
   rw[Sem.run_bind,cV _ _ _ _ (by intro _ _ e; cases e) (by intro e; cases e)]
   simp only[Result.andThen_ok,binOp,hk,ne_eq,not_true_eq_false,if_false,Op.intArith,Op.intBits,Op.intCmp,Sem.run_pure]
  ·cases h
theorem xo {op:UnOp} {x x' v:Value} (h:rO op x=some v) (hx:VR j x x'):∃v',iU P (Op.unary op x') v'∧VR j v v':=by
 unfold rO at h
 split at h
 ·cases h; cases hx; exact⟨_,fun w=>rfl,.int _ _⟩
 ·cases h; cases hx; exact⟨_,fun w=>rfl,.int _ _⟩
 ·cases h; cases hx; exact⟨_,fun w=>rfl,.bool _⟩
 ·cases h
theorem sR {s d:TypeId} {x x' v:Value} (h:qf P s d x=some v) (hx:VR j x x'):∃v',iU P (convert s d x') v'∧VR j v v':=by
 unfold qf at h
 split at h
 ·rename_i e1 e2;cases h; cases hx;refine⟨_,fun w=>?_,.int _ _⟩;simp only[convert,Sem.run_bind,run_underlying e1,run_underlying e2,Result.andThen_ok,Conv.intToInt,Sem.run_pure]
 ·rename_i e1 e2;cases h; cases hx;refine⟨_,fun w=>?_,.string _⟩;simp only[convert,Sem.run_bind,run_underlying e1,run_underlying e2,Result.andThen_ok]
  rfl
 ·cases h
end
section
variable {P : Program} {j : aL}
theorem cells_one {v:Value} (h:gQ v=true):v.cells.toList = [v]:=by
 cases v<;>first|rfl | (simp[gQ] at h)
theorem ew {v v':Value} (h:VR j v v'):LR j v.cells.toList v'.cells.toList:=by
 cases h with
 | junk h=>rw[cells_one (mn h)]; exact LR.cons (.junk h) (.nil j)
 | agg h1 h2=>exact LR.dJ h1 h2
 | bool b=>exact LR.cons (.bool b) (.nil j)
 | int k n=>exact LR.cons (.int k n) (.nil j)
 | string s=>exact LR.cons (.string s) (.nil j)
 | pnil=>exact LR.cons .pnil (.nil j)
 | ptr h=>exact LR.cons (.ptr h) (.nil j)
 | snil l c=>exact LR.cons (.snil l c) (.nil j)
 | slice h hm=>exact LR.cons (.slice h hm) (.nil j)
 | sliceM h hm h1 h2 hl hc=>exact LR.cons (.sliceM h hm h1 h2 hl hc) (.nil j)
 | fF=>exact LR.cons .fF (.nil j)
 | dry=>exact LR.cons .dry (.nil j)
 | mnil=>exact LR.cons .mnil (.nil j)
 | map h=>exact LR.cons (.map h) (.nil j)
 | func h1 h2 h3 h4=>exact LR.cons (.func h1 h2 h3 h4) (.nil j)
 | yield h h1 h2=>exact LR.cons (.yield h h1 h2) (.nil j)
 | nilFunc=>exact LR.cons .nilFunc (.nil j)
 | nilIface=>exact LR.cons .nilIface (.nil j)
 | tuple h1 h2=>exact LR.cons (.tuple h1 h2) (.nil j)
theorem LR.xl {cs cs' vs vs':List Value} (h:LR j cs cs') (hv:LR j vs vs') (o:Nat):LR j (aT cs o vs) (aT cs' o vs') :=
 ⟨by rw[bU,bU,h.1],fun i v hi=>by
  rw[bO] at hi ⊢;rw[←hv.1,←h.1]
  split at hi
  ·rename_i hc; rw[if_pos hc]; exact hv.2 _ v hi
  ·rename_i hc; rw[if_neg hc]; exact h.2 _ v hi⟩
theorem jt (off:Nat):∀(l:List Value) (k:Nat) (cs:Array Value),off+k+l.length≤cs.size →
  (l.zipIdx k).foldl (fun(cs:Array Value) (x:Value × Nat)=>cs.setIfInBounds (off+x.2) x.1) cs=(aT cs.toList (off+k) l).toArray
 | [],k,cs,_=>by simp[j8]
 | v::l,k,cs,h=>by
  have h':off+k+(l.length+1)≤cs.size:=by simpa using h
  simp only[List.zipIdx_cons,List.foldl_cons];rw[jt off l (k+1) _ (by simp; omega),eh _ _ _ _ (by simp; omega)]
  simp[Nat.add_assoc]
theorem js {place:Nat→Option (Nat × Nat)}:∀{ps:List (Nat × Value)} {ps':List (Nat × Value)} {cells cells' r:List Value},ps.map (·.1)=ps'.map (·.1)→LR j (ps.map (·.2)) (ps'.map (·.2)) →
  LR j cells cells'→fw place cells ps=some r→∃r',Instr.fill place cells'.toArray ps'=some r'.toArray∧LR j r r'
 | [],ps',cells,cells',r,h1,_,hc,h=>by
  cases ps' with
  | nil=>cases h; exact⟨cells',rfl,hc⟩
  | cons _ _=>simp at h1
 | (i,v)::rest,ps',cells,cells',r,h1,h2,hc,h=>by
  cases ps' with
  | nil=>simp at h1
  | cons p rest' =>
   obtain⟨i',v'⟩:=p;simp only[List.map_cons,List.cons.injEq] at h1;obtain⟨rfl,h1⟩:=h1;have hv:=h2.head;have hrest:=h2.tail;simp only[fw] at h
   split at h
   ·cases h
   ·rename_i off size hp
    split at h
    ·cases h
    ·rename_i hcond;have hcells:=ew hv;have hsz:v.cells.size=v'.cells.size:=by simpa using hcells.1
     have hlen:cells.length=cells'.length:=hc.1;have hcond':¬((v'.cells.size≠size || off+v'.cells.size>cells'.toArray.size)=true):=by
      rw[←hsz]; simpa [←hlen] using hcond
     simp only[Instr.fill,hp,if_neg hcond'];have hle:off+0+v'.cells.toList.length≤cells'.toArray.size:=by
      simp only[Bool.or_eq_true,not_or,decide_eq_true_eq] at hcond';simp; have:=hcond'.2; simp at this; omega
     have hfold:=jt off v'.cells.toList 0 cells'.toArray hle;have hz:v'.cells.zipIdx.foldl (fun cs x=>cs.setIfInBounds (off+x.2) x.1) cells'.toArray=(aT cells' off v'.cells.toList).toArray:=by
      rw[←Array.foldl_toList,Array.toList_zipIdx];exact hfold
     rw[show(v'.cells.zipIdx.foldl (fun cs (x:Value × Nat)=>match x with | (c,j)=>cs.setIfInBounds (off+j) c) cells'.toArray)=(aT cells' off v'.cells.toList).toArray from hz]
     exact js h1 hrest (hc.xl hcells off) h
theorem mc:∀(l:List Field) (w:World),l.all (fun f=>known P f.type)=true →
  (l.mapM fun(f:Field)=>(do pure (f.offset,←sizeOf f.type):Sem (Nat × Nat))).run P w = .ok (l.map fun f=>(f.offset,aE P f.type)) w
 | [],w,_=>rfl
 | f::l,w,h=>by
  simp only[List.all_cons,Bool.and_eq_true] at h;simp only[List.mapM_cons,Sem.run_bind,bW h.1,Result.andThen_ok,Sem.run_pure,mc l w h.2,List.map_cons]
theorem tu (fields:Array Field) (h:fields.toList.all (fun f=>known P f.type)=true) (w:World) :
  (fields.mapM fun(f:Field)=>(do pure (f.offset,←sizeOf f.type):Sem (Nat × Nat))).run P w = .ok (fields.map fun f=>(f.offset,aE P f.type)) w:=by
 obtain⟨l⟩:=fields;simp only[List.mapM_toArray,Sem.run_map,List.map_toArray];rw[mc l w h]; rfl
theorem q3 {t:TypeId} {ps ps':List (Nat × Value)} {v:Value} (h:iw P t ps=some v) (h1:ps.map (·.1)=ps'.map (·.1)) (h2:LR j (ps.map (·.2)) (ps'.map (·.2)))
  {z:Value} (hz:bq P t=some z) (hp:bC z=true):∃v',iU P (Instr.build t ps'.toArray) v'∧VR j v v':=by
 have hzc:LR j z.cells.toList z.cells.toList:=ew (VR.bC hp);unfold iw at h;rw[hz] at h
 split at h
 ·rename_i z0 fields hz0 hu;cases hz0
  split at h
  ·rename_i hall;cases hf:fw (fun i=>(fields[i]?).map fun f=>(f.offset,aE P f.type)) z.cells.toList ps with
   | none=>rw[hf] at h; cases h
   | some r =>
    rw[hf] at h; cases h;obtain⟨r',h3,h4⟩:=js h1 h2 hzc hf;refine⟨.agg r'.toArray,fun w=>?_,.rY (by simpa using h4)⟩
    have hpl:(fun(i:Nat)=>(fields.map fun(f:Field)=>(f.offset,aE P f.type))[i]?)=fun i=>(fields[i]?).map fun(f:Field)=>(f.offset,aE P f.type):=by
     funext i; simp
    simp only[Instr.build,Sem.run_bind,fk hz,run_underlying hu,Result.andThen_ok,tu fields hall,hpl];have h3':Instr.fill _ z.cells ps'=some r'.toArray:=h3;rw[h3']; rfl
  ·cases h
 ·rename_i z0 n elem hz0 hu;cases hz0
  split at h
  ·rename_i hk;cases hf:fw (fun i=>some (i*aE P elem,aE P elem)) z.cells.toList ps with
   | none=>rw[hf] at h; cases h
   | some r =>
    rw[hf] at h; cases h;obtain⟨r',h3,h4⟩:=js h1 h2 hzc hf;refine⟨.agg r'.toArray,fun w=>?_,.rY (by simpa using h4)⟩
    simp only[Instr.build,Sem.run_bind,fk hz,run_underlying hu,Result.andThen_ok,bW hk];have h3':Instr.fill _ z.cells ps'=some r'.toArray:=h3;rw[h3']; rfl
  ·cases h
 ·cases h
theorem eW {x x':Value} {y l:Nat} (h:gb x y=some l) (hx:VR j x x') {y':Nat} (hy:y≤y') (code:BoundsCode) (w:World) :
  (Instr.sliceBound x' y' code).run P w = .ok l w∧l≤y:=by
 unfold gb at h
 split at h
 ·rename_i k i
  split at h
  ·rename_i hc;cases h;cases hx;refine⟨?_,by omega⟩
   simp only[Instr.sliceBound,asIntOf,Sem.run_bind,Sem.run_pure,Result.andThen_ok];rw[if_pos ⟨hc.1,by omega⟩]; rfl
  ·cases h
 ·cases h
def eQ (mx:Option Value) (c m:Nat):Nat:=match mx with|none=>c|some _=>m
inductive OVR (j:aL):Option Value→Option Value→Prop
 | none:OVR j none none
 | some {v v':Value} (h:VR j v v'):OVR j (some v) (some v')
theorem fo {len cap:Nat} {lo hi mx:Option Value} {l h m:Nat} (e:dc len cap lo hi mx=some (l,h,m)):l≤h∧m≤cap∧(hi.isSome=true→h≤m)∧(hi=none→h=len∧mx=none)∧(mx=none→m=cap):=by
 have hb:∀(x:Value) (y l:Nat),gb x y=some l→l≤y:=by
  intro x y l h;unfold gb at h
  split at h
  ·split at h
   ·rename_i hc; cases h; omega
   ·cases h
  ·cases h
 unfold dc at e
 split at e
 ·cases e
 ·rename_i m' hm
  split at e
  ·cases e
  ·rename_i h' hh
   split at e
   ·cases e
   ·rename_i l' hl;cases e;have h1:m≤cap:=by
     cases mx with
     | none=>simp at hm; omega
     | some v=>exact hb _ _ _ hm
    have h2:hi.isSome=true→h≤m:=by
     cases hi with
     | none=>intro e; cases e
     | some v=>intro _; cases mx<;>exact hb _ _ _ hh
    have h3:hi=none→h=len∧mx=none:=by
     intro e; subst e;cases mx with
     | none=>simp at hh; exact⟨hh.symm,rfl⟩
     | some v=>simp at hh
    have h4:l≤h:=by
     cases lo with
     | none=>simp at hl; omega
     | some v=>exact hb _ _ _ hl
    have h5:mx=none→m=cap:=by intro e; subst e; simpa using hm.symm
    exact⟨h4,h1,h2,h3,h5⟩
theorem dM {len cap cap':Nat} {lo hi mx lo' hi' mx':Option Value} {l h m:Nat} (e:dc len cap lo hi mx=some (l,h,m)) (h1:OVR j lo lo') (h2:OVR j hi hi') (h3:OVR j mx mx') (hc:cap≤cap') (b:Bool) (w:World) :
  (Instr.sliceBounds b len cap' lo' hi' mx').run P w = .ok (l,h,eQ mx cap' m) w:=by
 unfold dc at e
 split at e
 ·cases e
 ·rename_i m' hm
  split at e
  ·cases e
  ·rename_i h' hh
   split at e
   ·cases e
   ·rename_i l' hl;cases e;cases h3 with
    | none =>
     have hm':cap=m:=by simpa using hm
     subst hm';cases h2 with
     | none =>
      have hh':len=h:=by simpa using hh
      subst hh';cases h1 with
      | none =>
       have:0=l:=by simpa using hl
       subst this;simp only[eQ,Instr.sliceBounds,Sem.run_bind,Sem.run_pure,Result.andThen_ok]
      | some r1 =>
       have:=(eW (P:=P) (by simpa using hl) r1 (Nat.le_refl _) .sliceB w).1
       simp only[eQ,Instr.sliceBounds,Sem.run_bind,Sem.run_pure,Result.andThen_ok,Option.isSome_none,Bool.false_eq_true,if_false,this]
     | some r2 =>
      have e2:=eW (P:=P) (by simpa using hh) r2 hc (if b then .sliceAcap else .sliceAlen) w
      cases h1 with
      | none =>
       have:0=l:=by simpa using hl
       subst this;simp only[eQ,Instr.sliceBounds,Sem.run_bind,Sem.run_pure,Result.andThen_ok,e2.1]
      | some r1 =>
       have:=(eW (P:=P) (by simpa using hl) r1 (Nat.le_refl _) .sliceB w).1
       simp only[eQ,Instr.sliceBounds,Sem.run_bind,Sem.run_pure,Result.andThen_ok,Option.isSome_none,Bool.false_eq_true,if_false,e2.1,this]
    | some r3 =>
     have e3:=eW (P:=P) (by simpa using hm) r3 hc (if b then .slice3Acap else .slice3Alen) w
     cases h2 with
     | none=>simp at hh
     | some r2 =>
      have e2:=(eW (P:=P) (by simpa using hh) r2 (Nat.le_refl _) .slice3B w).1
      cases h1 with
      | none =>
       have:0=l:=by simpa using hl
       subst this;simp only[eQ,Instr.sliceBounds,Sem.run_bind,Sem.run_pure,Result.andThen_ok,e2,e3.1]
      | some r1 =>
       have:=(eW (P:=P) (by simpa using hl) r1 (Nat.le_refl _) .slice3C w).1
       simp only[eQ,Instr.sliceBounds,Sem.run_bind,Sem.run_pure,Result.andThen_ok,Option.isSome_some,if_true,e2,e3.1,this]
theorem dS (c o i:Nat):(⟨c,o,none⟩:Addr).add i=⟨c,o+i,none⟩:=by
 unfold Addr.add
 split
 ·rename_i e; subst e; rfl
 ·rfl
theorem MR.kindOf {E:Env} {m:AMem} {w:World} (h:MR E j m w) {b:Nat} {k:Blk} (hk:j b=some k) {cs:List Value} {tag:Tag} (hg:m.get b=some (.cells cs tag)) :
  match tag with
  | .more sz=>∃nc,k.more=some (sz,cs.length,nc)∧0<sz
  | _=>k.more=none:=by
 obtain⟨o',h1,h2⟩:=h.obj b _ k hg hk;cases o' with
 | cells c e fz =>
  have:=h2.1;cases tag with
  | ro=>exact this.1
  | own=>exact this.1
  | more sz=>exact⟨_,this.1,this.2.2.2.1⟩
 | _=>exact h2.elim
theorem q9 {E:Env} {m:AMem} {w:World} (h:MR E j m w) {t:TypeId} {x x' v:Value} {lo hi mx lo' hi' mx':Option Value} (e:du E.P t x lo hi mx m=some v) (hx:VR j x x') (h1:OVR j lo lo') (h2:OVR j hi hi') (h3:OVR j mx mx') :
  ∃v',iU E.P (Instr.sliceAt t x' lo' hi' mx') v'∧VR j v v':=by
 unfold du at e
 split at e
 ·
  rename_i elem len cap hu
  split at e
  ·rename_i hk
   split at e
   ·rename_i l hh mm hb;cases e; cases hx;refine⟨_,fun w=>?_,.snil _ _⟩;have:=dM (P:=E.P) (cap':=cap) hb h1 h2 h3 (Nat.le_refl _) true w;have hm:eQ mx cap mm=mm:=by
     cases mx with
     | none=>exact((fo hb).2.2.2.2 rfl).symm
     | some _=>rfl
    rw[hm] at this;simp only[Instr.sliceAt,Instr.slice,Sem.run_bind,run_underlying hu,Result.andThen_ok,this,bW hk,Sem.run_pure]
    split<;>rfl
   ·cases e
  ·cases e
 ·rename_i elem b o len cap hu
  split at e
  ·rename_i hk
   split at e
   ·rename_i cs sz hg
    split at e
    ·cases e
    ·rename_i hsz;have hsz:sz=aE E.P elem:=Decidable.of_not_not hsz;cases hx with
     | slice hj hm =>
      have:=h.kindOf hj hg;simp only at this;obtain⟨nc,hmm,_⟩:=this;rw[hm] at hmm; cases hmm
     | sliceM hj hm e1 e2 hl hc =>
      rename_i cap' sz' na nc k;have hkd:=h.kindOf hj hg;simp only at hkd;obtain⟨nc',hmm,hpos⟩:=hkd;rw[hm] at hmm; cases hmm;cases h3 with
      | none =>
       simp only at e
       split at e
       ·rename_i l hh mm hb;have hbl:=fo hb;have hrun:=fun w=>dM (P:=E.P) (cap':=cap') hb h1 h2 .none hc true w;have hlc:l≤cap:=by
         cases hi with
         | none=>have:=hbl.2.2.2.1 rfl; omega
         | some _=>have:=hbl.2.2.1 rfl; omega
        split at e
        ·rename_i hcl;cases e;refine⟨_,fun w=>?_,.fF (a':=if cap'=l then⟨k.c,o,none⟩ else⟨k.c,o+l*aE E.P elem,none⟩) (cap':=cap'-l)⟩
         have hhl:hh-l=0:=by
          cases hi with
          | none=>have:=hbl.2.2.2.1 rfl; omega
          | some _=>have:=hbl.2.2.1 rfl; omega
         simp only[Instr.sliceAt,Instr.slice,Sem.run_bind,run_underlying hu,Result.andThen_ok,hrun,bW hk,Sem.run_pure,hhl,eQ]
         split
         ·rfl
         ·rw[Option.map_some,dS]
        ·rename_i hcl;cases e;refine⟨.slice (some ⟨k.c,o+l*aE E.P elem,none⟩) (hh-l) (cap'-l),fun w=>?_,.sliceM hj hm ?_ ?_ ?_ ?_⟩
         ·have:¬cap'=l:=by omega
          simp only[Instr.sliceAt,Instr.slice,Sem.run_bind,run_underlying hu,Result.andThen_ok,hrun,bW hk,Sem.run_pure,if_neg this,Option.map_some,dS,eQ]
         ·subst hsz; rw[←e1,Nat.sub_mul]; have:l*aE E.P elem≤cap*aE E.P elem:=Nat.mul_le_mul_right _ hlc; omega
         ·subst hsz; rw[←e2,Nat.sub_mul]; have:l*aE E.P elem≤cap'*aE E.P elem:=Nat.mul_le_mul_right _ (by omega); omega
         ·cases hi with
          | none=>have:=hbl.2.2.2.1 rfl; omega
          | some _=>have:=hbl.2.2.1 rfl; omega
         ·omega
       ·cases e
      | some r3 =>
       simp only at e
       split at e
       ·rename_i l hh mm hb
        split at e
        ·rename_i hcond;cases e;have hrun:=fun w=>dM (P:=E.P) (cap':=cap') hb h1 h2 (.some r3) hc true w;refine⟨_,fun w=>?_,.dry (a':=⟨k.c,o,none⟩)⟩;simp only[Instr.sliceAt,Instr.slice,Sem.run_bind,run_underlying hu,Result.andThen_ok,hrun,bW hk,Sem.run_pure,hcond.2,hcond.1,Nat.sub_self,eQ];simp
        ·cases e
       ·cases e
   ·rename_i cs tag hnm hg
    split at e
    ·rename_i l hh mm hb;cases e;cases hx with
     | slice hj hm =>
      rename_i k;have hrun:=fun w=>dM (P:=E.P) (cap':=cap) hb h1 h2 h3 (Nat.le_refl _) true w;have hmm:eQ mx cap mm=mm:=by
       cases mx with
       | none=>exact((fo hb).2.2.2.2 rfl).symm
       | some _=>rfl
      rw[hmm] at hrun;refine⟨.slice (some (if mm=l then⟨k.c,o,none⟩ else⟨k.c,o+l*aE E.P elem,none⟩)) (hh-l) (mm-l),fun w=>?_,?_⟩
      ·simp only[Instr.sliceAt,Instr.slice,Sem.run_bind,run_underlying hu,Result.andThen_ok,hrun,bW hk,Sem.run_pure]
       split
       ·rename_i hc; simp only
       ·rename_i hc; simp only[Option.map_some,dS]
      ·split
       ·exact .slice hj hm
       ·exact .slice hj hm
     | sliceM hj hm e1 e2 hl hc =>
      have hkd:=h.kindOf hj hg;cases tag with
      | more sz=>exact absurd rfl (hnm sz)
      | ro=>simp only at hkd; rw[hm] at hkd; cases hkd
      | own=>simp only at hkd; rw[hm] at hkd; cases hkd
    ·cases e
   ·cases e
  ·cases e
 ·
  rename_i elem b o sp hu
  split at e
  ·rename_i hk
   split at e
   ·rename_i r hb;obtain⟨l,hh,mm⟩:=r;cases e;have hbl:=fo hb;have hl0:l=0∧hh=0:=by
     cases hi with
     | none=>have:=hbl.2.2.2.1 rfl; omega
     | some _=>have:=hbl.2.2.1 rfl; omega
    cases hx with
    | fF =>
     rename_i a' cap';have hrun:=fun w=>dM (P:=E.P) (cap':=cap') hb h1 h2 h3 (Nat.zero_le _) true w;refine⟨_,fun w=>?_,.fF (a':=a') (cap':=eQ mx cap' mm)⟩;simp only[Instr.sliceAt,Instr.slice,Sem.run_bind,run_underlying hu,Result.andThen_ok,hrun,bW hk,Sem.run_pure,hl0.1,hl0.2,Nat.sub_self,Nat.zero_mul,Nat.sub_zero,Option.map_some];simp[Addr.add]
    | dry =>
     rename_i a';have hrun:=fun w=>dM (P:=E.P) (cap':=0) hb h1 h2 h3 (Nat.zero_le _) true w;have hmm:eQ mx 0 mm=0:=by
      cases mx with
      | none=>rfl
      | some _=>have:=hbl.2.1; simp[eQ]; omega
     rw[hmm] at hrun;refine⟨_,fun w=>?_,.dry (a':=a')⟩;simp only[Instr.sliceAt,Instr.slice,Sem.run_bind,run_underlying hu,Result.andThen_ok,hrun,bW hk,Sem.run_pure,hl0.1,hl0.2,Nat.sub_self,Nat.zero_mul,Option.map_some];simp
   ·cases e
  ·cases e
 ·
  rename_i n elem b o hu
  split at e
  ·rename_i hk
   split at e
   ·cases e
   ·rename_i cs tag hnm hg
    split at e
    ·rename_i l hh mm hb;cases e;cases hx with
     | ptr hj =>
      rename_i k;have hrun:=fun w=>dM (P:=E.P) (cap':=n) hb h1 h2 h3 (Nat.le_refl _) false w;have hmm:eQ mx n mm=mm:=by
       cases mx with
       | none=>exact((fo hb).2.2.2.2 rfl).symm
       | some _=>rfl
      rw[hmm] at hrun;have hkd:=h.kindOf hj hg;have hm:k.more=none:=by
       cases tag with
       | more sz=>exact absurd rfl (hnm sz)
       | ro=>exact hkd
       | own=>exact hkd
      refine⟨.slice (some (if mm=l then⟨k.c,o,none⟩ else⟨k.c,o+l*aE E.P elem,none⟩)) (hh-l) (mm-l),fun w=>?_,?_⟩
      ·simp only[Instr.sliceAt,Instr.sureAddr,Sem.run_bind,run_underlying hu,Result.andThen_ok,hrun,bW hk,Sem.run_pure]
       split
       ·rename_i hc; simp only
       ·rename_i hc; simp only[dS]
      ·split
       ·exact .slice hj hm
       ·exact .slice hj hm
    ·cases e
   ·cases e
  ·cases e
 ·cases e
theorem lD {t:TypeId} {x x' v:Value} {f:Nat} (e:aM P t x f=some v) (hx:VR j x x'):∃v',iU P (Instr.fieldAt t x' f) v'∧VR j v v':=by
 unfold aM at e
 split at e
 ·rename_i fields b o hu
  split at e
  ·rename_i fl hf
   split at e
   ·rename_i hk;simp only[Bool.and_eq_true,bne_iff_ne,ne_eq] at hk;cases e;cases hx with
    | ptr hj =>
    rename_i k;refine⟨_,fun w=>?_,.ptr hj⟩;simp only[Instr.fieldAt,Sem.run_bind,run_underlying hu,Result.andThen_ok,hf,Instr.sureAddr,Sem.run_pure,fieldPlace,bW hk.1,if_neg hk.2,dS]
   ·cases e
  ·cases e
 ·cases e
theorem tl {t:TypeId} {x x' v:Value} (e:qN P t x=some v) (hx:VR j x x'):∃v',iU P (Instr.arrayAt t x') v'∧VR j v v':=by
 unfold qN at e
 split at e
 ·rename_i n el b o len cap hu
  split at e
  ·rename_i hc;cases e;have hn:¬len<n:=by omega
   cases hx with
   | slice hj hm=>exact⟨_,fun w=>by simp only[Instr.arrayAt,Sem.run_bind,run_underlying hu,Result.andThen_ok,if_neg hn,Sem.run_pure],.ptr hj⟩
   | sliceM hj hm h1 h2 hl hc2=>exact⟨_,fun w=>by simp only[Instr.arrayAt,Sem.run_bind,run_underlying hu,Result.andThen_ok,if_neg hn,Sem.run_pure],.ptr hj⟩
  ·cases e
 ·cases e
theorem lz {t:TypeId} {x x' y y' v:Value} (e:bN P t x y=some v) (hx:VR j x x') (hy:VR j y y'):∃v',iU P (Instr.indexAt t x' y') v'∧VR j v v':=by
 unfold bN at e
 split at e
 ·rename_i len elem b o k i hu
  split at e
  ·rename_i hc;simp only[Bool.and_eq_true,decide_eq_true_eq] at hc;cases e;cases hy;cases hx with
   | ptr hj =>
   refine⟨_,fun w=>?_,.ptr hj⟩;simp only[Instr.indexAt,asIntOf,Sem.run_bind,run_underlying hu,Result.andThen_ok,Instr.sureAddr,Sem.run_pure,bW hc.1,if_pos hc.2,dS]
  ·cases e
 ·rename_i elem b o len cap k i hu
  split at e
  ·rename_i hc;simp only[Bool.and_eq_true,decide_eq_true_eq] at hc;cases e;cases hy;cases hx with
   | slice hj hm =>
    refine⟨_,fun w=>?_,.ptr hj⟩;simp only[Instr.indexAt,asIntOf,Sem.run_bind,run_underlying hu,Result.andThen_ok,Sem.run_pure,bW hc.1,if_pos hc.2,dS]
   | sliceM hj hm e1 e2 hl hcap =>
    refine⟨_,fun w=>?_,.ptr hj⟩;simp only[Instr.indexAt,asIntOf,Sem.run_bind,run_underlying hu,Result.andThen_ok,Sem.run_pure,bW hc.1,if_pos hc.2,dS]
  ·cases e
 ·cases e
theorem rJ {t:TypeId} {x x' y y' v:Value} (e:ed P t x y=some v) (hx:VR j x x') (hy:VR j y y'):∃v',iU P (Instr.index t x' y') v'∧VR j v v':=by
 unfold ed at e
 split at e
 ·rename_i len elem cs k i hu
  split at e
  ·rename_i hc;cases hy;cases hx with
   | agg h1 h2 =>
   have hk:known P elem=true:=by
    unfold cw at e
    split at e
    ·cases e
    ·rename_i hk; simpa using hk
   obtain⟨v',h3,h4⟩:=jB e (LR.dJ h1 h2);refine⟨v',fun w=>?_,h4⟩;simp only[Instr.index,asIntOf,Sem.run_bind,run_underlying hu,Result.andThen_ok,Sem.run_pure,if_pos hc,bW hk,h3]
  ·cases e
 ·rename_i s k i hu
  split at e
  ·rename_i hc;cases hy; cases hx;cases hs:s[i.toNat]? with
   | none=>rw[hs] at e; cases e
   | some b =>
    rw[hs] at e; cases e;refine⟨_,fun w=>?_,.int _ _⟩;simp only[Instr.index,asIntOf,Sem.run_bind,run_underlying hu,Result.andThen_ok,Sem.run_pure,if_pos hc,hs]
  ·cases e
 ·cases e
theorem rf {t:TypeId} {x x' v:Value} {f:Nat} (e:mA P t x f=some v) (hx:VR j x x'):∃v',iU P (Instr.field t x' f) v'∧VR j v v':=by
 unfold mA at e
 split at e
 ·rename_i fields cs hu
  split at e
  ·rename_i fl hf;cases hx with
   | agg h1 h2 =>
   obtain⟨v',h3,h4⟩:=jB e (LR.dJ h1 h2);refine⟨v',fun w=>?_,h4⟩;simp only[Instr.field,Sem.run_bind,run_underlying hu,Result.andThen_ok,hf,asAgg,Sem.run_pure,h3]
  ·cases e
 ·cases e
theorem nQ {E:Env} {m:AMem} {w:World} (h:MR E j m w) {t:TypeId} {x x' v:Value} (e:cT E.P t x m=some v) (hx:VR j x x') :
  ∃v',(Instr.loadAt t x').run E.P w = .ok v' w∧VR j v v':=by
 unfold cT at e
 split at e
 ·rename_i b o
  split at e
  ·cases e
  ·rename_i hk;have hk':known E.P t=true:=by simpa using hk
   cases hx with
   | ptr hj =>
   rename_i k
   split at e
   ·rename_i ha;cases hl:m.dg b o (aE E.P t) with
    | none=>rw[hl] at e; cases e
    | some vs =>
     rw[hl] at e; cases e;obtain⟨vs',h1,h2⟩:=h.dg hj hl;refine⟨.agg vs'.toArray,?_,.rY (by simpa using h2)⟩
     simp only[Instr.loadAt,Instr.sureAddr,Sem.run_bind,Sem.run_pure,Result.andThen_ok,loadVar,iH hk',ha,if_true,bW hk',h1 w rfl]
   ·rename_i ha;have ha':cL E.P t=false:=by simpa using ha
    split at e
    ·rename_i cs tag hg;obtain⟨v',h1,h2⟩:=h.cell hj hg e;refine⟨v',?_,h2⟩;simp only[Instr.loadAt,Instr.sureAddr,Sem.run_bind,Sem.run_pure,Result.andThen_ok,loadVar,iH hk',ha',Bool.false_eq_true,if_false,run_load,h1]
    ·cases e
 ·cases e
end
section
variable {E : Env} {j : aL} {m : AMem} {w : World}
theorem OR.own {c:Nat} {cs:List Value} {c':Array Value} {elem:TypeId} (h:LR j cs c'.toList):OR j ⟨c,none⟩ (.cells cs .own) (.cells c' elem) :=
 ⟨⟨rfl,by simpa using h.1.symm,rfl⟩,fun i v hi=>by
  obtain⟨v',a,b⟩:=h.get hi;exact⟨v',by simpa using a,b⟩⟩
theorem hU {zero:Array Value}:∀(n:Nat),((Array.range (n*zero.size)).map fun i=>zero[i%zero.size]!).toList=bS zero.toList n:=by
 intro n
 by_cases hz:zero.size=0
 ·have:zero=#[]:=Array.eq_empty_of_size_eq_zero hz;subst this;have:∀n,bS ([]:List Value) n = []:=by
   intro n
   induction n with
   | zero=>rfl
   | succ n ih=>simpa [bS] using ih
  simp[this]
 ·have hpos:0<zero.size:=Nat.pos_of_ne_zero hz;have hlen:∀n,(bS zero.toList n).length=n*zero.size:=by
   intro n
   induction n with
   | zero=>simp[bS]
   | succ n ih=>simp[bS,ih,Nat.succ_mul,Nat.add_comm]
  have hget:∀n i,i<n*zero.size→(bS zero.toList n)[i]? = zero[i%zero.size]?:=by
   intro n
   induction n with
   | zero=>intro i hi; simp at hi
   | succ n ih =>
    intro i hi;simp only[bS]
    by_cases hlt:i<zero.size
    ·rw[List.getElem?_append_left (by simpa using hlt),Nat.mod_eq_of_lt hlt]; simp
    ·have hge:zero.size≤i:=by omega
     rw[List.getElem?_append_right (by simpa using hge)]
     have:=ih (i-zero.size) (by rw[Nat.succ_mul] at hi; omega)
     simp only[Array.length_toList];rw[this,←Nat.mod_eq_sub_mod hge]
  apply List.ext_getElem?;intro i
  by_cases hi:i<n*zero.size
  ·rw[hget n i hi];have hlt:i%zero.size<zero.size:=Nat.mod_lt _ hpos;simp[hi,hlt]
  ·rw[List.getElem?_eq_none (by simp; omega),List.getElem?_eq_none (by rw[hlen]; omega)]
theorem fH {P:Program} {elem:TypeId} {n:Nat} {zs:List Value} (h:dW P elem n=some zs):∃z,bq P elem=some z∧z.cells.size=aE P elem∧zs=bS z.cells.toList n:=by
 unfold dW at h
 split at h
 ·rename_i z hz
  split at h
  ·rename_i hs; cases h; exact⟨z,hz,hs,rfl⟩
  ·cases h
 ·cases h
theorem dT (l:List Value) (n:Nat):(bS l n).length=n*l.length:=by
 induction n with
 | zero=>simp[bS]
 | succ n ih=>simp[bS,ih,Nat.succ_mul,Nat.add_comm]
theorem rB (h:MR E j m w) {t:TypeId} {x x' v v':Value} {m':AMem} (e:eg E.P t x v m=some m') (hx:VR j x x') (hv:VR j v v') :
  ∃w',(Instr.storeAt t x' v').run E.P w = .ok () w'∧Sim E j m w j m' w':=by
 unfold eg at e
 split at e
 ·rename_i b o
  split at e
  ·rename_i hc;simp only[Bool.and_eq_true,beq_iff_eq] at hc;obtain⟨⟨hk,hs⟩,ho⟩:=hc;cases hx with
   | ptr hj =>
   have hvc:=ew hv;obtain⟨w',h1,h2⟩:=fe h hj hvc ho e;refine⟨w',?_,h2⟩;have hs':v'.cells.size=aE E.P t:=by have:=hvc.1; simp at this; omega
   have hne:¬v'.cells.size≠aE E.P t:=by simp[hs']
   simp only[Instr.storeAt,Instr.sureAddr,Sem.run_bind,Sem.run_pure,Result.andThen_ok,storeVar,bW hk,if_neg hne,h1]
  ·cases e
 ·cases e
theorem ec {v v':Value} (hp:aP v=true) (h:VR j v v'):v'=v:=by
 cases h<;>first|rfl | (simp[aP] at hp)
theorem jW:∀{l l':List Value},l.all aP=true→LR j l l'→l'=l
 | [],_,_,h=>h.cJ
 | v::l,l',hp,h=>by
  obtain⟨y,ys,rfl,h1,h2⟩:=h.cons_inv;simp only[List.all_cons,Bool.and_eq_true] at hp;rw[ec hp.1 h1,jW hp.2 h2]
theorem eb {v v':Value} (hp:bC v=true) (h:VR j v v'):v'=v:=by
 cases h with
 | agg h1 h2 =>
  have:=jW (by simpa [bC] using hp) (LR.dJ h1 h2)
  exact congrArg Value.agg (Array.toList_inj.1 this)
 | tuple h1 h2 =>
  have:=jW (by simpa [bC] using hp) (LR.dJ h1 h2)
  exact congrArg Value.tuple (Array.toList_inj.1 this)
 | func h1 h2 h3 h4=>simp[bC,aP] at hp
 | yield h h1 h2=>simp[bC,aP] at hp
 | _=>first|rfl | (simp[bC,aP] at hp)
theorem eA {P:Program} {kt:TypeId} {k:Value} (h:fY P kt k=true):bC k=true:=by
 unfold fY at h
 split at h
 ·rfl
 ·rfl
 ·rfl
 ·simp only[Bool.and_eq_true] at h; exact h.2
 ·simp only[Bool.and_eq_true] at h; exact h.2
 ·cases h
theorem checkKind {P:Program} {t:TypeId} (ht:cr P t=true) (n:Nat) (v:Value) (b:Bool) (w:World):(Instr.checkKey b (n+1) t v).run P w = .ok () w:=by
 unfold cr at ht;simp only[Instr.checkKey,Sem.run_bind];cases hu:P.underlying t with
 | none=>rw[hu] at ht; cases ht
 | some d =>
  rw[hu] at ht;simp only[run_underlying hu,Result.andThen_ok];cases d<;>first | (simp at ht; done) | rfl
theorem hM {P:Program} {α:Type} (f:α→Sem Unit) (w:World):∀(l:List α),(∀x ∈ l,(f x).run P w = .ok () w) →
  (forIn l PUnit.unit (fun x _=>do f x; pure (ForInStep.yield PUnit.unit)):Sem PUnit).run P w = .ok PUnit.unit w
 | [],_=>rfl
 | x::l,h=>by
  simp only[List.forIn_cons,Sem.run_bind,h x (by simp),Result.andThen_ok,Sem.run_pure]
  exact hM f w l fun y hy=>h y (by simp[hy])
theorem qa {P:Program} {t:TypeId} (h:cr P t=true):cL P t=false:=by
 unfold cr at h;unfold cL;cases hu:P.underlying t with
 | none=>rfl
 | some d=>rw[hu] at h; cases d<;>first|rfl | (simp at h)
theorem mu {P:Program} {t:TypeId} (h:cr P t=true) (hk:known P t=true) {cs:Array Value} {o:Nat} (ho:o<cs.size) (w:World):(part t cs o).run P w = .ok cs[o] w:=by
 simp[part,iH hk,qa h,ho]
theorem cS {P:Program} {kt:TypeId} {k:Value} (h:fY P kt k=true) (b:Bool) (w:World):(Instr.checkKey b 10000 kt k).run P w = .ok () w:=by
 unfold fY at h
 split at h
 ·rename_i hu; exact checkKind (by simp[cr,hu]) 9999 _ b w
 ·rename_i hu; exact checkKind (by simp[cr,hu]) 9999 _ b w
 ·rename_i hu; exact checkKind (by simp[cr,hu]) 9999 _ b w
 ·rename_i len elem cs hu;simp only[Bool.and_eq_true,beq_iff_eq] at h;obtain⟨⟨⟨⟨hek,hkn⟩,hsz⟩,hlen⟩,_⟩:=h;have key:∀n,(Instr.checkKey b (n+1+1) kt (.agg cs)).run P w = .ok () w:=by
   intro n;unfold Instr.checkKey;simp only[Sem.run_bind,run_underlying hu,Result.andThen_ok];rw[Std.Legacy.Range.forIn_eq_forIn_range'];simp only[Std.Legacy.Range.size,Nat.sub_zero,Nat.add_sub_cancel,Nat.div_one];have:=hM (P:=P) (fun i=>do Instr.checkKey b (n+1) elem (←part elem cs (i*(←sizeOf elem)))) w (List.range' 0 len) (fun x hx=>by
    have hlt:x<cs.size:=by rw[List.mem_range'] at hx; obtain⟨i,h1,h2⟩:=hx; omega
    simp only[Sem.run_bind,bW hkn,hsz,Nat.mul_one,mu hek hkn hlt,Result.andThen_ok];exact checkKind hek n _ b w)
   simp only[bind_assoc] at this;rw[this]; rfl
  exact key 9998
 ·rename_i fs cs hu;simp only[Bool.and_eq_true] at h;have key:∀n,(Instr.checkKey b (n+1+1) kt (.agg cs)).run P w = .ok () w:=by
   intro n;unfold Instr.checkKey;simp only[Sem.run_bind,run_underlying hu,Result.andThen_ok];rw[←Array.forIn_toList];have hall:=h.1;generalize fs.toList=l at hall;clear hu
   induction l with
   | nil=>rfl
   | cons f l ih =>
    simp only[List.all_cons,Bool.and_eq_true,decide_eq_true_eq] at hall;obtain⟨⟨⟨h1,h2⟩,h3⟩,h4⟩:=hall;have ih':=ih (by simpa [Bool.and_eq_true] using h4)
    simp only[List.forIn_cons,Sem.run_bind,Sem.run_ite]
    split
    ·simp only[mu h1 h2 h3,Result.andThen_ok,checkKind h1 n _ b w,Sem.run_pure];exact ih'
    ·simp only[Sem.run_pure,Result.andThen_ok];exact ih'
  exact key 9998
 ·cases h
inductive FR (j:aL):Option (Nat × Value)→Option (Nat × Value)→Prop
 | none:FR j none none
 | some {i:Nat} {v v':Value} (h:VR j v v'):FR j (some (i,v)) (some (i,v'))
theorem iR {P:Program} {kt:TypeId} {k k':Value} (hk:VR j k k'):∀{es:List (Value × Value)} {es':List MapEntry} {i:Nat} {r:Option (Nat × Value)},ia P kt k es i=some r→ER j es es' →
  ∃r',(∀w,(Instr.findAsking kt k' es' i).run P w = .ok r' w)∧FR j r r'
 | [],[],i,r,h,_=>by cases h; exact⟨_,fun w=>rfl,.none⟩
 | e::es,f::fs,i,r,h,he=>by
  simp only[ia] at h
  split at h
  ·rename_i hq;cases h;refine⟨some (i,f.val),fun w=>?_,.some he.2.1⟩;simp only[Instr.findAsking,Sem.run_bind,Op.equal,gC _ hq hk he.1,Result.andThen_ok,if_true,Sem.run_pure]
  ·rename_i hq;obtain⟨r',h1,h2⟩:=iR hk h he.2.2;refine⟨r',fun w=>?_,h2⟩;simp only[Instr.findAsking,Sem.run_bind,Op.equal,gC _ hq hk he.1,Result.andThen_ok,Bool.false_eq_true,if_false,h1]
  ·cases h
 | [],_::_,_,_,_,he=>he.elim
 | _::_,[],_,_,_,he=>he.elim
theorem kX {P:Program} {kt:TypeId} {d:TypeDesc} {k k' x x':Value} {b b':Bool} (hu:P.underlying kt=some d) (hk:VR j k k') (hx:VR j x x') (h:Instr.sameNow d k' x'=some b') (he:fU P Op.maxDepth kt k x=some b):b=b':=by
 have:=gC (P:=P) Op.maxDepth he hk hx default;rw[show Op.maxDepth=9999+1 from rfl] at this
 unfold Instr.sameNow at h
 split at h
 ·rename_i k0 k1 a k2 c
  split at h
  ·rename_i hkk;subst hkk;cases h;rw[run_equalIn_int _ 9999 kt _ _ a c hu] at this;injection this with h1 _; exact h1.symm
  ·cases h
 ·cases h;rw[run_equalIn_string _ 9999 kt _ _ hu,←beq_toListBytes] at this;injection this with h1 _; exact h1.symm
 ·cases h;rw[run_equalIn_bool' _ 9999 kt _ _ hu] at this;injection this with h1 _; exact h1.symm
 ·cases h
theorem kC {P:Program} {kt:TypeId} {d:TypeDesc} {k k':Value} (hu:P.underlying kt=some d) (hk:VR j k k'):∀{es:List (Value × Value)} {es':List MapEntry} {i:Nat} {r r':Option (Nat × Value)},ia P kt k es i=some r→ER j es es' →
  Instr.findNow d k' es' i=some r'→FR j r r'
 | [],[],i,r,r',h,_,h'=>by cases h; cases h'; exact .none
 | e::es,f::fs,i,r,r',h,he,h'=>by
  simp only[ia] at h;simp only[Instr.findNow] at h'
  split at h'
  ·rename_i hs;cases h'
   split at h
   ·cases h; exact .some he.2.1
   ·rename_i hq; cases kX hu hk he.1 hs hq
   ·cases h
  ·rename_i hs
   split at h
   ·rename_i hq; cases kX hu hk he.1 hs hq
   ·exact kC hu hk h he.2.2 h'
   ·cases h
  ·cases h'
 | [],_::_,_,_,_,_,he,_=>he.elim
 | _::_,[],_,_,_,_,he,_=>he.elim
theorem ee {P:Program} {kt:TypeId} {d:TypeDesc} {k k':Value} (hu:P.underlying kt=some d) (hk:VR j k k') {es:List (Value × Value)} {es':List MapEntry} {r:Option (Nat × Value)} (h:ia P kt k es 0=some r) (he:ER j es es') :
  ∃r',(∀w,(Instr.findKey kt k' es').run P w = .ok r' w)∧FR j r r':=by
 cases hn:Instr.findNow d k' es' 0 with
 | some r' =>
  refine⟨r',fun w=>?_,kC hu hk h he hn⟩;simp only[Instr.findKey,Sem.run_bind,run_underlying hu,Result.andThen_ok,hn,Sem.run_pure]
 | none =>
  obtain⟨r',h1,h2⟩:=iR hk h he;refine⟨r',fun w=>?_,h2⟩;simp only[Instr.findKey,Sem.run_bind,run_underlying hu,Result.andThen_ok,hn,h1]
theorem hJ {P:Program} {kt:TypeId} {k:Value} (h:fY P kt k=true):∃d,P.underlying kt=some d:=by
 unfold fY at h;cases hu:P.underlying kt with
 | some d=>exact⟨d,rfl⟩
 | none=>rw[hu] at h; simp at h
theorem MR.qO (h:MR E j m w) {b:Nat} {k:Blk} (hk:j b=some k) {es:List (Value × Value)} (hg:m.get b=some (.map es)):∃es' clock,w.heap[k.c]? = some (.map es' clock)∧ER j es es'.toList:=by
 obtain⟨o',h1,h2⟩:=h.obj b _ k hg hk;cases o' with
 | map es' clock=>exact⟨es',clock,h1,h2.1⟩
 | _=>exact h2.elim
theorem MR.pI (h:MR E j m w) {b:Nat} {k:Blk} (hk:j b=some k) {es:List (Value × Value)} (hg:m.get b=some (.map es)) {es':Array MapEntry} {clock:Nat} (hw:w.heap[k.c]? = some (.map es' clock)):uv es' clock:=by
 obtain⟨o',h1,h2⟩:=h.obj b _ k hg hk;rw[hw] at h1;cases h1;exact h2.2
theorem run_getObj_map {P:Program} {w:World} {r:Nat} {es:Array MapEntry} {c:Nat} (h:w.heap[r]? = some (.map es c)):(getObj r).run P w = .ok (.map es c) w:=by simp[getObj,Sem.run,h]
theorem run_setObj_map {P:Program} {w:World} {r:Nat} {es:Array MapEntry} {c:Nat} (o:Obj) (h:w.heap[r]? = some (.map es c)):(setObj r o).run P w = .ok () (w.putObj r o):=by simp[setObj,Sem.run,h,World.putObj]
theorem pW (h:MR E j m w) {t:TypeId} {x x' y y' v:Value} {ok:Bool} (e:eR E.P t x y ok m=some v) (hx:VR j x x') (hy:VR j y y') :
  ∃v',(Instr.lookup t x' y' ok).run E.P w = .ok v' w∧VR j v v':=by
 unfold eR at e
 split at e
 ·rename_i key elem hu
  split at e
  ·rename_i es z hes hz
   split at e
   ·rename_i hko;obtain⟨d,hd⟩:=hJ hko;have hy':y'=y:=eb (eA hko) hy;subst hy';have hmap:∃es':Array MapEntry,ER j es es'.toList∧((x' = .map none∧es'=#[])∨∃r c,x' = .map (some r)∧w.heap[r]? = some (.map es' c)):=by
     unfold mapOf at hes
     split at hes
     ·cases hes; cases hx;exact⟨#[],trivial,.inl ⟨rfl,rfl⟩⟩
     ·rename_i r
      split at hes
      ·rename_i es0 hg;cases hes;cases hx with
       | map hj =>
       obtain⟨es',clock,h1,h2⟩:=h.qO hj hg;exact⟨es',h2,.inr ⟨_,_,rfl,h1⟩⟩
      ·cases hes
     ·cases hes
    obtain⟨es',hes',hsh⟩:=hmap
    split at e
    ·rename_i i v0 hf;cases e;obtain⟨r',h1,h2⟩:=ee hd hy hf hes';cases h2 with
     | some hv =>
     rename_i v0';refine⟨if ok then .tuple #[v0',.bool true] else v0',?_,?_⟩
     ·rcases hsh with⟨rfl,rfl⟩|⟨r,c,rfl,h5⟩
      ·simp only[Instr.lookup,Sem.run_bind,run_underlying hu,Result.andThen_ok,Sem.run_pure,cS hko,h1]
      ·simp only[Instr.lookup,Sem.run_bind,run_underlying hu,Result.andThen_ok,run_getObj_map h5,Sem.run_pure,cS hko,h1]
     ·cases ok with
      | true=>exact .tuple' (by exact LR.cons hv (LR.cons (.bool true) (.nil j)))
      | false=>exact hv
    ·rename_i hf
     split at e
     ·rename_i hpz;cases e;obtain⟨r',h1,h2⟩:=ee hd hy hf hes';cases h2;refine⟨if ok then .tuple #[z,.bool false] else z,?_,?_⟩
      ·rcases hsh with⟨rfl,rfl⟩|⟨r,c,rfl,h5⟩
       ·simp only[Instr.lookup,Sem.run_bind,run_underlying hu,Result.andThen_ok,Sem.run_pure,cS hko,h1,fk hz]
       ·simp only[Instr.lookup,Sem.run_bind,run_underlying hu,Result.andThen_ok,run_getObj_map h5,Sem.run_pure,cS hko,h1,fk hz]
      ·cases ok with
       | true=>exact .tuple' (by exact LR.cons (VR.bC hpz) (LR.cons (.bool false) (.nil j)))
       | false=>exact VR.bC hpz
     ·cases e
    ·cases e
   ·cases e
  ·cases e
 ·cases e
theorem ER.get:∀{es:List (Value × Value)} {fs:List MapEntry} {i:Nat} {e:Value × Value},ER j es fs→es[i]? = some e→∃f,fs[i]? = some f∧VR j e.1 f.key∧VR j e.2 f.val
 | [],[],_,_,_,h=>by simp at h
 | x::es,f::fs,0,e,h,hi=>by simp at hi; subst hi; exact⟨f,rfl,h.1,h.2.1⟩
 | x::es,f::fs,i+1,e,h,hi=>by simpa using ER.get h.2.2 (by simpa using hi)
 | [],_::_,_,_,h,_=>h.elim
 | _::_,[],_,_,h,_=>h.elim
theorem ER.kJ:∀{es:List (Value × Value)} {fs:List MapEntry} {e:Value × Value} {f:MapEntry},ER j es fs→VR j e.1 f.key→VR j e.2 f.val→ER j (es++[e]) (fs++[f])
 | [],[],_,_,_,h1,h2=>⟨h1,h2,trivial⟩
 | _::_,_::_,_,_,h,h1,h2=>⟨h.1,h.2.1,ER.kJ h.2.2 h1 h2⟩
 | [],_::_,_,_,h,_,_=>h.elim
 | _::_,[],_,_,h,_,_=>h.elim
theorem ER.put:∀{es:List (Value × Value)} {fs:List MapEntry} {i:Nat} {k k' v v':Value},ER j es fs→i<es.length→VR j k k'→VR j v v'→ER j (jH es i k v) (fs.modify i fun e=>{ e with key:=k',val:=v'})
 | x::es,f::fs,0,_,_,_,_,h,_,h1,h2=>⟨h1,h2,h.2.2⟩
 | x::es,f::fs,i+1,_,_,_,_,h,hi,h1,h2=>⟨h.1,h.2.1,ER.put h.2.2 (by simpa using hi) h1 h2⟩
 | [],_,_,_,_,_,_,_,hi,_,_=>by simp at hi
 | _::_,[],_,_,_,_,_,h,_,_,_=>h.elim
theorem ER.erase:∀{es:List (Value × Value)} {fs:List MapEntry} (i:Nat),ER j es fs→ER j (es.eraseIdx i) (fs.eraseIdx i)
 | [],[],_,_=>trivial
 | _::_,_::_,0,h=>h.2.2
 | _::_,_::_,i+1,h=>⟨h.1,h.2.1,ER.erase i h.2.2⟩
 | [],_::_,_,h=>h.elim
 | _::_,[],_,h=>h.elim
theorem iT (h:MR E j m w) {t:TypeId} {x x' k k' v v':Value} {m':AMem} (e:fa E.P t x k v m=some m') (hx:VR j x x') (hk:VR j k k') (hv:VR j v v') :
  ∃w',(Instr.mapUpdate t x' k' v').run E.P w = .ok () w'∧Sim E j m w j m' w':=by
 unfold fa at e
 split at e
 ·rename_i kt et r hu
  split at e
  ·rename_i es hg
   split at e
   ·rename_i hko;obtain⟨d,hd⟩:=hJ hko;have hk':k'=k:=eb (eA hko) hk;cases hx with
    | map hj =>
    rename_i kb;obtain⟨es',clock,h1,h2⟩:=h.qO hj hg
    split at e
    ·rename_i i v0 hf
     split at e
     ·rename_i hsame;cases e;unfold kv at hsame
      split at hsame
      ·rename_i e0 he0;simp only[Bool.and_eq_true] at hsame;obtain⟨r',h3,h4⟩:=ee hd hk hf h2;cases h4 with
       | some _ =>
       obtain⟨f0,g1,g2,g3⟩:=h2.get he0;have hf0:f0.key=e0.1:=eb hsame.1 g2;have hi:i<es.length:=(List.getElem?_eq_some_iff.1 he0).1;refine⟨_,?_,eS h hj (by rw[hg]; rfl) (co:=.map (es'.modify i fun e=>{ e with key:=k,val:=v'}) clock) ?_⟩
       ·have g1':es'[i]? = some f0:=by simpa using g1
        simp only[Instr.mapUpdate,Sem.run_bind,run_underlying hu,Result.andThen_ok,run_getObj_map h1,hk',cS hko];rw[hk'] at h3;simp only[h3,Result.andThen_ok,Sem.run_bind,g1',Option.map_some,Option.getD_some,hf0,Instr.keyThatStays,hsame.2,if_true,Sem.run_pure,run_setObj_map _ h1]
       ·refine⟨?_,pN (h.pI hj hg h1) i _ fun _=>rfl⟩
        show ER j (jH es i k v) (es'.modify i fun e=>{ e with key:=k,val:=v'}).toList
        rw[Array.toList_modify];exact h2.put hi (VR.bC (eA hko)) hv
      ·cases hsame
     ·cases e
    ·rename_i hf;cases e;obtain⟨r',h3,h4⟩:=ee hd hk hf h2;cases h4;refine⟨_,?_,eS h hj (by rw[hg]; rfl) (co:=.map (es'.push { key:=k,val:=v',born:=clock}) (clock+1)) ?_⟩
     ·simp only[Instr.mapUpdate,Sem.run_bind,run_underlying hu,Result.andThen_ok,run_getObj_map h1,hk',cS hko];rw[hk'] at h3;simp only[h3,Result.andThen_ok,run_setObj_map _ h1]
     ·refine⟨?_,tT (h.pI hj hg h1) k v'⟩
      show ER j (es++[(k,v)]) (es'.push { key:=k,val:=v',born:=clock}).toList
      rw[Array.toList_push];exact h2.kJ (VR.bC (eA hko)) hv
    ·cases e
   ·cases e
  ·cases e
 ·cases e
theorem pU (h:MR E j m w) {t:TypeId} {x x' k k':Value} {m':AMem} (e:km E.P t x k m=some m') (hx:VR j x x') (hk:VR j k k') (ts:Array TypeId) (hts:ts[0]? = some t) (ty:TypeId) :
  ∃w',(Builtin.delete_ ts ty #[x',k']).run E.P w = .ok (.tuple #[]) w'∧Sim E j m w j m' w':=by
 unfold km at e
 split at e
 ·rename_i kt et r hu
  split at e
  ·rename_i es hg
   split at e
   ·rename_i hko;obtain⟨d,hd⟩:=hJ hko;have hk':k'=k:=eb (eA hko) hk;cases hx with
    | map hj =>
    rename_i kb;obtain⟨es',clock,h1,h2⟩:=h.qO hj hg
    split at e
    ·rename_i i v0 hf;cases e;obtain⟨r',h3,h4⟩:=ee hd hk hf h2;cases h4 with
     | some _ =>
     refine⟨_,?_,eS h hj (by rw[hg]; rfl) (co:=.map (es'.eraseIdxIfInBounds i) clock) ?_⟩
     ·simp only[Builtin.delete_,hts,List.getElem?_toArray,List.getElem?_cons_zero,List.getElem?_cons_succ,Sem.run_bind,run_underlying hu,Result.andThen_ok,run_getObj_map h1,hk',cS hko];rw[hk'] at h3;simp only[h3,Result.andThen_ok,Sem.run_bind,run_setObj_map _ h1,Sem.run_pure]
     ·refine⟨?_,qZ (h.pI hj hg h1) i⟩
      show ER j (es.eraseIdx i) (es'.eraseIdxIfInBounds i).toList
      rw[Array.toList_eraseIdxIfInBounds];exact h2.erase i
    ·rename_i hf;cases e;obtain⟨r',h3,h4⟩:=ee hd hk hf h2;cases h4;refine⟨w,?_,.refl h⟩;simp only[Builtin.delete_,hts,List.getElem?_toArray,List.getElem?_cons_zero,List.getElem?_cons_succ,Sem.run_bind,run_underlying hu,Result.andThen_ok,run_getObj_map h1,hk',cS hko];rw[hk'] at h3;simp only[h3,Result.andThen_ok,Sem.run_bind,run_setObj_map _ h1,Sem.run_pure,kg h1]
    ·cases e
   ·cases e
  ·cases e
 ·cases e
end
theorem me (n:Nat):∀(r c:Nat),Builtin.growBy n r c≤max c (n+(n+768)/4)
 | 0,c=>by simp only[Builtin.growBy]; omega
 | r+1,c=>by
  simp only[Builtin.growBy]
  split
  ·omega
  ·have:=me n r (c+(c+768)/4);omega
theorem nextslicecap_le {need cap:Nat} (h:cap<need):Builtin.nextslicecap need cap≤2*need+2000:=by
 unfold Builtin.nextslicecap
 split
 ·omega
 ·split
  ·omega
  ·have:=me need 4 cap;omega
section
variable {E : Env} {j : aL} {m : AMem} {w : World}
def appendCore (elem:TypeId) (size:Nat) (base:Option Addr) (sLen sCap n:Nat) (zeros:Bool) (s x:Value) (appended:Sem (Array Value)):Sem Value:=do
 let need:=sLen+n
 if need≤sCap then
  let new ←appended
  if let some a:=base then storeCells (a.add (sLen*size)) new.toList
  pure (.slice base need sCap)
 else
  if (need : Int) > IntKind.i64.max ∧ (zeros ∨ (← typeInfo elem).bytes = 0) then runtimePanic (.error "growslice: len out of range")
  if Builtin.nextslicecap need sCap * (← typeInfo elem).bytes > 2 ^ 48 then (if zeros then runtimePanic (.error "growslice: len out of range") else do
   if !(←Builtin.mayShare size sLen n base x) then mark .noRoom
   unsupported (.resourceLimit "append: a slice or a string whose bytes no memory bears"))
  let newCap ←choose (.appendCap need sCap elem)
  askRoom (newCap*(←typeInfo elem).bytes)
  let old ←Builtin.firstCells size sLen s
  let new ←appended
  let rest:=Builtin.zeroCells (←zeroValue elem).cells (newCap-need)
  pure (.slice (some (←newRow elem (old++new++rest))) need newCap)
theorem fR {P:Program} {elem:TypeId} {size sLen sCap n:Nat} {zeros:Bool} {s x:Value} {a:Addr} {app:Sem (Array Value)} {new:List Value} {w w':World}
  (happ:app.run P w = .ok new.toArray w) (hfit:sLen+n≤sCap) (hst:(storeCells (a.add (sLen*size)) new).run P w = .ok () w') :
  (appendCore elem size (some a) sLen sCap n zeros s x app).run P w = .ok (.slice (some a) (sLen+n) sCap) w':=by
 simp only[appendCore,if_pos hfit,Sem.run_bind,happ,Result.andThen_ok,hst,Sem.run_pure]
theorem iW {l:List Value} (h:l.all aP=true):∀n,(bS l n).all aP=true
 | 0=>rfl
 | n+1=>by simp only[bS,List.all_append,h,iW h n,Bool.and_self]
theorem gq {P:Program} {elem:TypeId} {size sLen sCap n:Nat} {zeros:Bool} {s x:Value} {base:Option Addr} {app:Sem (Array Value)} {new old:List Value} {w:World} {i:TypeInfo} {z:Value}
  (happ:∀w0:World,w0.heap=w.heap→app.run P w0 = .ok new.toArray w0) (hold:∀w0:World,w0.heap=w.heap→(Builtin.firstCells size sLen s).run P w0 = .ok old.toArray w0) (hgrow:¬sLen+n≤sCap)
  (hi:P.info? elem=some i) (hz:i.zero=some z) (hfit:dw i.bytes (sLen+n)=true) (hb:i.bytes≠0) (hzs:z.cells.size=size) (hzp:z.cells.toList.all aP=true) (ho:old.length=sLen*size) (hn:new.length=n*size) :
  ∃(cap:Nat) (rest:List Value) (w0:World),(w0.heap=w.heap∧Calm w w0)∧(sLen+n≤cap∧cap≤9223372036854775807)∧(old++new++rest).length=cap*size∧rest.all aP=true ∧
   (appendCore elem size base sLen sCap n zeros s x app).run P w = .ok (.slice (some ⟨w.heap.size,0,none⟩) (sLen+n) cap) (w0.alloc (.cells (old++new++rest).toArray elem)):=by
 have hfit':(2*(sLen+n)+2000)*i.bytes≤2 ^ 48:=by simpa [dw] using hfit
 have h1:¬(((sLen+n:Nat):Int)>IntKind.i64.max∧(zeros=true∨i.bytes=0)):=by
  intro hc;have hbig:sLen+n≤2 ^ 48:=by
   have:1≤i.bytes:=Nat.one_le_iff_ne_zero.2 hb;have:(sLen+n)*1≤(2*(sLen+n)+2000)*i.bytes:=Nat.mul_le_mul (by omega) this
   omega
  have hmax:IntKind.i64.max=9223372036854775807:=by decide
  rw[hmax] at hc;omega
 have h2:¬Builtin.nextslicecap (sLen+n) sCap*i.bytes>2 ^ 48:=by
  have:=Nat.mul_le_mul_right i.bytes (nextslicecap_le (need:=sLen+n) (cap:=sCap) (by omega))
  omega
 have hzv:∀w0:World,(zeroValue elem).run P w0 = .ok z w0:=fun w0=>fk (by simp[bq,hi,hz]) w0
 obtain⟨cap,hcap⟩:∃cap,cap=(Question.appendCap (sLen+n) sCap elem).cut (w.tape w.drawn (.appendCap (sLen+n) sCap elem)):=⟨_,rfl⟩;have hle:sLen+n≤cap:=by rw[hcap]; simp[Question.cut]
 have hmx:cap≤9223372036854775807:=by
  have hbig:sLen+n≤2 ^ 48:=by
   have:1≤i.bytes:=Nat.one_le_iff_ne_zero.2 hb;have:(sLen+n)*1≤(2*(sLen+n)+2000)*i.bytes:=Nat.mul_le_mul (by omega) this
   omega
  rw[hcap]
  show sLen+n+_%(2 ^ 63-(sLen+n))≤_
  have:=Nat.mod_lt (w.tape w.drawn (.appendCap (sLen+n) sCap elem)) (show 0<2 ^ 63-(sLen+n) by omega)
  omega
 refine⟨cap,bS z.cells.toList (cap-(sLen+n)),w.drew,⟨rfl,rfl,rfl,rfl,Nat.le_succ _⟩,⟨hle,hmx⟩,?_,iW hzp _,?_⟩
 ·simp only[List.length_append,dT,ho,hn,Array.length_toList,hzs];rw[←Nat.add_mul,←Nat.add_mul]
  congr 1; omega
 ·have hzc:Builtin.zeroCells z.cells (cap-(sLen+n))=(bS z.cells.toList (cap-(sLen+n))).toArray:=by
   rw[←hU (zero:=z.cells)]; rfl
  simp only[appendCore,if_neg hgrow,Sem.run_bind,lb hi,Result.andThen_ok,Sem.run_ite,if_neg h1,if_neg h2,Sem.run_pure,run_choose,Question.forced,Bool.false_eq_true,if_false,World.drew_eq,run_askRoom,
   hold w.drew rfl,happ w.drew rfl,hzv,←hcap,hzc,newRow,run_newObj,World.alloc_eq]
  simp
theorem qB (h:MR E j m w) {sz n:Nat} {x x':Value} {new:List Value} (e:dA sz x n m=some new) (hx:VR j x x') :
  ∃new',(∀w0:World,w0.heap=w.heap→(Builtin.firstCells sz n x').run E.P w0 = .ok new'.toArray w0)∧LR j new new':=by
 unfold dA at e
 split at e
 ·split at e
  ·rename_i hn; subst hn; cases e; cases hx;exact⟨[],fun w0 _=>rfl,.nil j⟩
  ·cases e
 ·rename_i b o l c
  split at e
  ·rename_i hn; subst hn; cases e;refine⟨[],fun w0 _=>?_,.nil j⟩;cases hx<;>simp[Builtin.firstCells,loadCells,loadCellsFrom]
  ·have hgo:∀k:Blk,j b=some k→∃new',(∀w0:World,w0.heap=w.heap→(loadCells ⟨k.c,o,none⟩ (n*sz)).run E.P w0 = .ok new'.toArray w0)∧LR j new new':=by
    intro k hj;exact h.dg hj e
   cases hx with
   | slice hj hm=>exact hgo _ hj
   | sliceM hj hm e1 e2 hl hc=>exact hgo _ hj
 ·split at e
  ·rename_i hn; subst hn; cases e;refine⟨[],fun w0 _=>?_,.nil j⟩;cases hx<;>simp[Builtin.firstCells,loadCells,loadCellsFrom]
  ·cases e
 ·cases e
theorem nD (h:MR E j m w) {elem:TypeId} {xt:Option TypeId} {x x':Value} {n:Nat} {new:List Value} (e:dX E.P elem xt x m=some (n,new)) (hx:VR j x x') (hk:known E.P elem=true)
  {i:TypeInfo} (hi:E.P.info? elem=some i) (hbytes:n*i.bytes≤2 ^ 48) {sType:TypeId} (hu:E.P.underlying sType=some (.slice elem)) {ts:Array TypeId} (h0:ts[0]? = some sType) (h1:ts[1]? = xt) (ty:TypeId) :
  ∃(new':List Value) (zeros:Bool) (app:Sem (Array Value)),LR j new new'∧(∀w0:World,w0.heap=w.heap→app.run E.P w0 = .ok new'.toArray w0) ∧
   ∀base sLen sCap,(Builtin.append_ ts ty #[.slice base sLen sCap,x']).run E.P w=(appendCore elem (aE E.P elem) base sLen sCap n zeros (.slice base sLen sCap) x' app).run E.P w:=by
 unfold dX at e
 split at e
 ·rename_i et a l c hxt;cases hs:dA (aE E.P elem) (.slice a l c) l m with
  | none=>rw[hs] at e; cases e
  | some cs =>
   rw[hs] at e; cases e;obtain⟨new',h2,h3⟩:=qB h hs hx;refine⟨new',false,Builtin.firstCells (aE E.P elem) n x',h3,h2,fun base sLen sCap=>?_⟩;have hlen:∀w0:World,(Builtin.lenOf x').run E.P w0 = .ok n w0:=by
    intro w0;cases hx<;>rfl
   obtain⟨xt',hxt',hu'⟩:∃xt',xt=some xt'∧E.P.underlying xt'=some (.slice et):=by
    cases xt with
    | none=>cases hxt
    | some xt'=>exact⟨xt',rfl,hxt⟩
   rw[hxt'] at h1;simp only[appendCore,Builtin.append_,h0,h1,List.getElem?_toArray,List.getElem?_cons_zero,List.getElem?_cons_succ,Sem.run_bind,run_underlying hu,run_underlying hu',Result.andThen_ok,bW hk,Sem.run_pure,Bool.false_eq_true,if_false,hlen,Bool.not_false,if_true]
   congr
 ·rename_i k l hxt
  split at e
  ·rename_i hl;cases hz:dW E.P elem l.toNat with
   | none=>rw[hz] at e; cases e
   | some zs =>
    rw[hz] at e;simp only[Option.bind_some] at e
    split at e
    ·rename_i hp;cases e;cases hx;obtain⟨z,hz1,hz2,hz3⟩:=fH hz;obtain⟨xt',k',hxt',hu'⟩:∃xt' k',xt=some xt'∧E.P.underlying xt'=some (.int k'):=by
      cases xt with
      | none=>cases hxt
      | some xt'=>exact⟨xt',_,rfl,hxt⟩
     have hwrap:IntKind.i64.wrap l=l:=IntWalk.i64_in l (by have:=hl.1; have:=hl.2; omega)
     have hlb:¬(l*i.bytes>2 ^ 48):=by
      have:((l.toNat*i.bytes:Nat):Int)≤2 ^ 48:=by exact_mod_cast hbytes
      have h3:((l.toNat:Nat):Int)=l:=Int.toNat_of_nonneg hl.1;rw[Int.natCast_mul,h3] at this;omega
     refine⟨new,true,if l.toNat*aE E.P elem=0 then pure #[] else do pure (Builtin.zeroCells (←zeroValue elem).cells l.toNat),LR.plain hp,?_,fun base sLen sCap=>?_⟩
     ·intro w0 _;rw[Sem.run_ite]
      split
      ·rename_i h0;have:new = []:=by
        apply List.eq_nil_of_length_eq_zero;rw[hz3,dT,Array.length_toList,hz2,h0]
       rw[this]; rfl
      ·simp only[Sem.run_bind,fk hz1,Result.andThen_ok,Sem.run_pure];rw[hz3,←hU (zero:=z.cells)]; rfl
     ·rw[hxt'] at h1;have hneg:¬l<0:=by have:=hl.1; omega
      simp only[appendCore,Builtin.append_,h0,h1,List.getElem?_toArray,List.getElem?_cons_zero,List.getElem?_cons_succ,Sem.run_bind,run_underlying hu,run_underlying hu',Result.andThen_ok,bW hk,Sem.run_pure,if_true,asInt,asIntOf,hwrap,if_neg hneg,lb hi,if_neg hlb,Bool.not_true,Bool.false_eq_true,if_false]
      congr
    ·cases e
  ·cases e
 ·cases e
theorem OR.more {c na nc sz:Nat} {cs:List Value} {c':Array Value} {elem:TypeId} (h1:cs.length=na) (h2:c'.size=nc) (h3:na≤nc) (hsz:0<sz) (hr:gD sz c') (h:∀(i:Nat) (v:Value),cs[i]? = some v→∃v',c'[i]? = some v'∧VR j v v') :
  OR j ⟨c,some (sz,na,nc)⟩ (.cells cs (.more sz)) (.cells c' elem) :=
 ⟨⟨by rw[h1,h2],by omega,rfl,hsz,hr⟩,h⟩
theorem fD (h:MR E j m w) {w0:World} (hw3:w0.heap=w.heap∧Calm w w0) {cs cs' rest:List Value} {elem:TypeId} {sz n cap:Nat} (hc:LR j cs cs') (hl:cs.length=n*sz) (hr:(cs'++rest).length=cap*sz) (hn:n≤cap) (hsz:0<sz) (_:rest.all aP=true) (hmx:cap≤9223372036854775807) :
  ∃j',Sim E j m w j' (m.alloc (.cells cs (.more sz))) (w0.alloc (.cells (cs'++rest).toArray elem))∧VR j' (.slice (some ⟨m.next,0,none⟩) n n) (.slice (some ⟨w.heap.size,0,none⟩) n cap):=by
 have hw:=hw3.1;have h0:=h.of_heap hw;have hle:n*sz≤cap*sz:=Nat.mul_le_mul_right _ hn;have ho:OR j ⟨w0.heap.size,some (sz,n*sz,cap*sz)⟩ (.cells cs (.more sz)) (.cells (cs'++rest).toArray elem):=by
  refine OR.more hl (by simpa using hr) hle hsz (by unfold gD; rw[List.size_toArray,hr,Nat.mul_comm]; exact Nat.mul_le_mul_left _ hmx) fun i v hi=>?_
  obtain⟨v',a,b⟩:=hc.get hi;refine⟨v',?_,b⟩;rw[List.getElem?_toArray,List.getElem?_append_left (List.getElem?_eq_some_iff.1 a).1];exact a
 have s:=iF h0 ho;refine⟨_,(Sim.of_heap h hw hw3.2).trans h s,?_⟩;have:VR (j.set m.next ⟨w0.heap.size,some (sz,n*sz,cap*sz)⟩) (.slice (some ⟨m.next,0,none⟩) n n) (.slice (some ⟨w0.heap.size,0,none⟩) n cap) :=
  .sliceM (k:=⟨w0.heap.size,some (sz,n*sz,cap*sz)⟩) (aL.bQ _ _ _) rfl rfl rfl (Nat.le_refl _) hn
 rw[hw] at this ⊢;exact this
theorem pv (h:MR E j m w) {t:TypeId} {xt:Option TypeId} {s s' x x' v:Value} {m':AMem} (e:cq E.P t xt s x m=some (v,m')) (hs:VR j s s') (hx:VR j x x')
  {ts:Array TypeId} (h2:ts[0]? = some t) (h3:ts[1]? = xt) (ty:TypeId) :
  ∃j' w' v',(Builtin.append_ ts ty #[s',x']).run E.P w = .ok v' w'∧Sim E j m w j' m' w'∧VR j' v v':=by
 unfold cq at e
 split at e
 ·rename_i elem base len cap n new hu hnc;simp only[hu] at hnc;simp only at e
  split at e
  ·cases e
  ·rename_i hcond;simp only[Bool.or_eq_true,Bool.not_eq_true',not_or,Bool.not_eq_false,beq_iff_eq,bne_iff_ne,ne_eq,Decidable.not_not,Option.any_eq_true] at hcond;obtain⟨⟨⟨⟨⟨hk,h4⟩,hone⟩,⟨i,hi,hfit⟩⟩,hlen⟩,⟨z,hz,hzs⟩⟩:=hcond;simp only[Bool.and_eq_true,bne_iff_ne,ne_eq] at hfit;obtain⟨hfit,hb⟩:=hfit;obtain⟨i',hi',hz'⟩:=nk hz;rw[hi] at hi'; cases hi';simp only[Bool.and_eq_true,beq_iff_eq] at hzs;have hzs':z.cells.size=aE E.P elem:=hzs.1;have hzp:=hzs.2;have hsz:0<aE E.P elem:=Nat.pos_of_ne_zero h4;have hbytes:n*i.bytes≤2 ^ 48:=by
    have:(2*(len+n)+2000)*i.bytes≤2 ^ 48:=by simpa [dw] using hfit
    have:=Nat.mul_le_mul_right i.bytes (show n≤2*(len+n)+2000 by omega)
    omega
   obtain⟨new',zeros,app,hnew,happ,hrun⟩:=nD h hnc hx hk hi hbytes hu h2 h3 ty;have hnl:new'.length=n*aE E.P elem:=by rw[←hnew.1]; exact hlen
   split at e
   ·
    split at e
    ·cases e
    ·rename_i h1;have hlc:len=0∧cap=0:=by omega
     obtain⟨rfl,rfl⟩:=hlc;cases hs
     split at e
     ·rename_i hn; cases e;subst hn;refine⟨j,w,.slice none 0 0,?_,.refl h,.snil 0 0⟩;rw[hrun];simp only[appendCore,Nat.add_zero,Nat.le_refl,if_true,Sem.run_bind,happ w rfl,Result.andThen_ok,Sem.run_pure]
     ·rename_i hn; cases e;obtain⟨cap',rest,w0,h0,⟨hle,hmx⟩,hlr,hrp,hr⟩:=gq (P:=E.P) (zeros:=zeros) (s:=.slice none 0 0) (x:=x') (base:=none) (sLen:=0) (sCap:=0) (old:=[]) happ (fun w0 _=>rfl) (by omega) hi hz' (by simpa using hfit) hb hzs' hzp (by simp) hnl
      obtain⟨j',s1,s2⟩:=fD h h0 (elem:=elem) hnew hlen (by simpa using hlr) (by omega) hsz hrp hmx
      refine⟨j',_,_,by rw[hrun]; exact hr,by simpa using s1,by simpa using s2⟩
   ·rename_i b o
    split at e
    ·rename_i cs tag hg
     split at e
     ·
      rename_i hfits;cases hst:m.dn b (o+len*aE E.P elem) new with
      | none=>rw[hst] at e; cases e
      | some m1 =>
       rw[hst] at e; cases e;cases hs with
       | slice hj hm =>
        obtain⟨w',g1,g0⟩:=fe h hj hnew hone hst;refine⟨j,w',_,?_,g0,.slice hj hm⟩;rw[hrun];exact fR (happ w rfl) hfits (by rw[iv]; exact g1)
       | sliceM hj hm e1 e0 hl hc =>
        obtain⟨w',g1,g0⟩:=fe h hj hnew hone hst;refine⟨j,w',_,?_,g0,.sliceM hj hm e1 e0 hfits hc⟩;rw[hrun];exact fR (happ w rfl) (by omega) (by rw[iv]; exact g1)
     ·rename_i hno;have hexact:∀k:Blk,j b=some k→k.more=none→∀old,m.dg b o (len*aE E.P elem)=some old→v = .slice (some ⟨m.next,0,none⟩) (len+n) (len+n)→m'=m.alloc (.cells (old++new) (.more (aE E.P elem))) →
        ∃j' w' v',(Builtin.append_ ts ty #[.slice (some ⟨k.c,o,none⟩) len cap,x']).run E.P w = .ok v' w'∧Sim E j m w j' m' w'∧VR j' v v':=by
       intro k hj hm old hold ev em;obtain⟨old',g1,g0⟩:=h.dg hj hold;have hol:old.length=len*aE E.P elem:=(kZ hold).choose_spec.choose_spec.2.2;obtain⟨cap',rest,w0,h0,⟨hle,hmx⟩,hlr,hrp,hr⟩:=gq (P:=E.P) (zeros:=zeros) (s:=.slice (some ⟨k.c,o,none⟩) len cap) (x:=x') (base:=some ⟨k.c,o,none⟩) (sLen:=len) (sCap:=cap) (old:=old') happ
        (fun w0 h0=>g1 w0 h0) hno hi hz' hfit hb hzs' hzp (by rw[←g0.1]; exact hol) hnl
       obtain⟨j',s1,s2⟩:=fD h h0 (elem:=elem) (g0.append hnew) (n:=len+n) (by rw[List.length_append,hol,hlen,Nat.add_mul]) hlr hle hsz hrp hmx
       exact⟨j',_,_,by rw[hrun]; exact hr,em ▸ s1,ev ▸ s2⟩
      split at e
      ·
       rename_i sz'
       split at e
       ·rename_i hso;obtain⟨rfl,rfl⟩:=hso
        split at e
        ·rename_i hol;cases e;cases hs with
         | slice hj hm =>
          have:=h.kindOf hj hg;simp only at this;obtain⟨nc,hmm,_⟩:=this;rw[hm] at hmm; cases hmm
         | sliceM hj hm e1 e0 hl hc =>
          rename_i cap' sz' na nc k;have hkd:=h.kindOf hj hg;simp only at hkd;obtain⟨nc',hmm,_⟩:=hkd;rw[hm] at hmm;simp only[Option.some.injEq,Prod.mk.injEq] at hmm;obtain⟨rfl,rfl,rfl⟩:=hmm
          by_cases hfits:len+n≤cap'
          ·
           obtain⟨c,el,fz,c1,c2,c3⟩:=h.eT hj hg;have c2':k.more=some (aE E.P elem,cs.length,c.size)∧cs.length≤c.size∧fz=(0,0)∧0<aE E.P elem∧gD (aE E.P elem) c:=c2;obtain⟨c0,c5,rfl,_,c4⟩:=c2';rw[hm] at c0;simp only[Option.some.injEq,Prod.mk.injEq,true_and] at c0;have hcs:(len+n)*aE E.P elem≤c.size:=by
            rw[←c0,←e0]; simp; exact Nat.mul_le_mul_right _ hfits
           have hmul:(len+n)*aE E.P elem=len*aE E.P elem+n*aE E.P elem:=Nat.add_mul _ _ _;have hst:=dV (P:=E.P) new' w c 0 (len*aE E.P elem) c1 (by rw[hnl]; omega) (jb hnew hone)
           have hold:(cs.take (len*aE E.P elem)).length=len*aE E.P elem:=hol;have hlecs:len*aE E.P elem≤cs.length:=by rw[List.length_take] at hold; omega
           have hor:OR j ⟨k.c,some (aE E.P elem,(len+n)*aE E.P elem,c.size)⟩ (.cells (cs.take (len*aE E.P elem)++new) (.more (aE E.P elem))) (.cells (aT c.toList (0+len*aE E.P elem) new').toArray el):=by
            refine OR.more (by rw[List.length_append,hold,hlen,hmul]) (by simp[bU]) hcs hsz (by unfold gD at *; simpa [bU] using c4) fun ix vx hix=>?_
            rw[List.getElem?_toArray,bO,Nat.zero_add]
            by_cases hlt:ix<len*aE E.P elem
            ·rw[List.getElem?_append_left (by rw[hold]; exact hlt),List.getElem?_take,if_pos hlt] at hix
             rw[if_neg (by omega)]
             obtain⟨vx',q0,q2⟩:=c3 ix vx hix;exact⟨vx',by simpa using q0,q2⟩
            ·rw[List.getElem?_append_right (by rw[hold]; omega),hold] at hix
             obtain⟨vx',q0,q2⟩:=hnew.get hix;have hlt':=(List.getElem?_eq_some_iff.1 q0).1;rw[if_pos ⟨by omega,by omega,by simp; omega⟩]
             exact⟨vx',q0,q2⟩
           have s1:=pR h hj (by rw[hg]; rfl) hor
           refine⟨_,_,.slice (some ⟨k.c,0,none⟩) (len+n) cap',?_,s1,.sliceM (k:=⟨k.c,some (aE E.P elem,(len+n)*aE E.P elem,c.size)⟩) (aL.bQ _ _ _) rfl rfl (by rw[←c0]; exact e0) (Nat.le_refl _) hfits⟩
           rw[hrun];refine fR (happ w rfl) hfits ?_;rw[iv];have:=dV (P:=E.P) new' w c (0+len*aE E.P elem) 0 c1 (by rw[hnl]; omega) (jb hnew hone)
           simpa using this
          ·
           have hol':m.dg b 0 (len*aE E.P elem)=some (cs.take (len*aE E.P elem)):=by
            simp only[AMem.dg,hg,List.drop_zero];rw[if_pos hol]
           obtain⟨old',g1,g0⟩:=h.dg hj hol';obtain⟨c6,rest,w0,h0,⟨hle,hmx⟩,hlr,hrp,hr⟩:=gq (P:=E.P) (zeros:=zeros) (s:=.slice (some ⟨k.c,0,none⟩) len cap') (x:=x') (base:=some ⟨k.c,0,none⟩) (sLen:=len) (sCap:=cap') (old:=old') happ
            (fun w0 h0=>g1 w0 h0) hfits hi hz' hfit hb hzs' hzp (by rw[←g0.1]; exact hol) hnl
           have sk:=um h hj;obtain⟨j',s1,s2⟩:=fD sk.mr h0 (elem:=elem) (g0.append hnew) (n:=len+n) (by rw[List.length_append,hol,hlen,Nat.add_mul]) hlr hle hsz hrp hmx
           exact⟨j',_,_,by rw[hrun]; exact hr,sk.trans h s1,s2⟩
        ·cases e
       ·cases e
      ·
       rename_i htag
       split at e
       ·rename_i old hold;cases e;have hkm:∀k:Blk,j b=some k→k.more=none:=by
         intro k hj;have:=h.kindOf hj hg;cases tag with
         | more sz=>exact absurd rfl (htag sz)
         | ro=>exact this
         | own=>exact this
        cases hs with
        | slice hj hm=>exact hexact _ hj hm _ hold rfl rfl
        | sliceM hj hm e1 e0 hl hc=>rw[hkm _ hj] at hm; cases hm
       ·cases e
    ·cases e
   ·
    rename_i b o
    split at e
    ·cases e
    ·rename_i h1;have hlc:len=0∧cap=0:=by omega
     obtain⟨rfl,rfl⟩:=hlc;cases hs with
     | dry =>
     rename_i a'
     split at e
     ·rename_i hn; subst hn; cases e;have:new' = []:=List.eq_nil_of_length_eq_zero (by rw[hnl]; simp)
      subst this;refine⟨j,w,_,?_,.refl h,.dry (a':=a')⟩;rw[hrun];exact fR (happ w rfl) (by omega) rfl
     ·rename_i hn; cases e;obtain⟨cap',rest,w0,h0,⟨hle,hmx⟩,hlr,hrp,hr⟩:=gq (P:=E.P) (zeros:=zeros) (s:=.slice (some a') 0 0) (x:=x') (base:=some a') (sLen:=0) (sCap:=0) (old:=[]) happ
       (fun w0 _=>by simp[Builtin.firstCells,loadCells,loadCellsFrom]) (by omega) hi hz' (by simpa using hfit) hb hzs' hzp (by simp) hnl
      obtain⟨j',s1,s2⟩:=fD h h0 (elem:=elem) hnew hlen (by simpa using hlr) (by omega) hsz hrp hmx
      refine⟨j',_,_,by rw[hrun]; exact hr,by simpa using s1,by simpa using s2⟩
   ·split at e
    ·rename_i hnil hmem hdry h1;obtain⟨rfl,rfl,rfl⟩:=h1;cases e;have:new' = []:=List.eq_nil_of_length_eq_zero (by rw[hnl]; simp)
     subst this;cases hs with
     | snil=>exact absurd rfl hnil
     | slice hj hm=>exact absurd rfl (hmem _ _)
     | sliceM hj hm e1 e0 hl hc=>exact absurd rfl (hmem _ _)
     | dry=>exact absurd rfl (hdry _ _)
     | fF =>
      rename_i a' cap';refine⟨j,w,_,?_,.refl h,.fF (a':=a') (cap':=cap')⟩;rw[hrun];exact fR (happ w rfl) (by omega) rfl
    ·cases e
 ·cases e
end
section
variable {E : Env} {j : aL} {m : AMem} {w : World}
theorem sL (h:MR E j m w) {t:TypeId} {d d' s s' v:Value} {m':AMem} (e:tI E.P t d s m=some (v,m')) (hd:VR j d d') (hs:VR j s s') {ts:Array TypeId} (h0:ts[0]? = some t) (ty:TypeId) :
  ∃w' v',(Builtin.copy_ ts ty #[d',s']).run E.P w = .ok v' w'∧Sim E j m w j m' w'∧VR j v v':=by
 unfold tI at e
 split at e
 ·rename_i elem base dLen dCap sa sLen sCap hu;simp only at e
  split at e
  ·cases e
  ·rename_i hk;have hk':known E.P elem=true:=by simpa using hk
   split at e
   ·cases e
   ·rename_i cells hsrc
    split at e
    ·cases e
    ·rename_i hone;have hone':bh cells=true:=by simpa using hone
     obtain⟨cells',hc1,hc2⟩:=qB h hsrc hs;have hlen:∀w0:World,(Builtin.lenOf s').run E.P w0 = .ok sLen w0:=by
      intro w0;cases hs<;>rfl
     have hbase:∃base' dCap',d' = .slice base' dLen dCap'∧(∀b o,base=some ⟨b,o,none⟩→∃k:Blk,j b=some k∧base'=some ⟨k.c,o,none⟩):=by
      cases hd with
      | snil=>exact⟨_,_,rfl,fun b o e=>by cases e⟩
      | slice hj hm=>exact⟨_,_,rfl,fun b o e=>by cases e; exact⟨_,hj,rfl⟩⟩
      | sliceM hj hm e1 e2 hl hc=>exact⟨_,_,rfl,fun b o e=>by cases e; exact⟨_,hj,rfl⟩⟩
      | fF=>exact⟨_,_,rfl,fun b o e=>by cases e⟩
      | dry=>exact⟨_,_,rfl,fun b o e=>by cases e⟩
     obtain⟨base',dCap',rfl,hb⟩:=hbase;have hrun0:∀K:Value→World→Result Value,True:=fun _=>trivial
     split at e
     ·rename_i hn;cases e;have hcl:cells = []:=by
       unfold dA at hsrc
       split at hsrc<;>first | (split at hsrc<;>first | (cases hsrc; rfl) | (cases hsrc; done) | (rename_i hne; exact absurd hn hne)) | (cases hsrc; done)
      subst hcl;have:cells' = []:=hc2.cJ;subst this;refine⟨w,.int .i64 0,?_,.refl h,.int _ _⟩;have hmin:Nat.min sLen dLen=0:=hn;simp only[Builtin.copy_,h0,List.getElem?_toArray,List.getElem?_cons_zero,List.getElem?_cons_succ,Sem.run_bind,run_underlying hu,Result.andThen_ok,hlen,hmin,bW hk'];rw[hn] at hc1;simp only[hc1 w rfl,Result.andThen_ok];cases base'<;>rfl
     ·rename_i b o n hn;cases hst:m.dn b o cells with
      | none=>rw[hst] at e; cases e
      | some m1 =>
       rw[hst] at e; cases e;obtain⟨k,hj,rfl⟩:=hb b o rfl;obtain⟨w',g1,g2⟩:=fe h hj hc2 hone' hst;refine⟨w',.int .i64 (n+1:Nat),?_,g2,.int _ _⟩;have hmin:Nat.min sLen dLen=n+1:=hn;simp only[Builtin.copy_,h0,List.getElem?_toArray,List.getElem?_cons_zero,List.getElem?_cons_succ,Sem.run_bind,run_underlying hu,Result.andThen_ok,hlen,hmin,bW hk'];rw[hn] at hc1;simp only[hc1 w rfl,Result.andThen_ok,g1,Sem.run_pure,goInt]
     ·cases e
 ·cases e
theorem qS (h:MR E j m w) {t:TypeId} {x x' v:Value} {m':AMem} (e:pn E.P t x m=some (v,m')) (hx:VR j x x') {ts:Array TypeId} (h0:ts[0]? = some t) (ty:TypeId) :
  ∃w' v',(Builtin.clear_ ts ty #[x']).run E.P w = .ok v' w'∧Sim E j m w j m' w'∧VR j v v':=by
 unfold pn at e
 split at e
 ·rename_i elem a c hu;cases e;refine⟨w,.tuple #[],?_,.refl h,VR.undef j⟩;cases hx<;>simp only[Builtin.clear_,h0,List.getElem?_toArray,List.getElem?_cons_zero,Sem.run_bind,run_underlying hu,Result.andThen_ok]<;>rfl
 ·rename_i elem b o n c hnz hu
  split at e
  ·rename_i zs hz
   split at e
   ·rename_i hp;cases hst:m.dn b o zs with
    | none=>rw[hst] at e; cases e
    | some m1 =>
     rw[hst] at e; cases e;obtain⟨z,hz1,hz2,hz3⟩:=fH hz;have hone:bh zs=true:=by
      unfold bh;rw[List.all_eq_true] at hp ⊢;intro v hv;have:=hp v hv;cases v<;>first|rfl | (simp[aP] at this)
     have hn0:n≠0:=fun e=>hnz e;have hzc:(Builtin.zeroCells z.cells n).toList=zs:=by rw[hz3]; exact hU n
     have hgo:∀k:Blk,j b=some k→∃w',(storeCells ⟨k.c,o,none⟩ zs).run E.P w = .ok () w'∧Sim E j m w j m' w':=fun k hj=>fe h hj (LR.plain hp) hone hst;cases hx with
     | slice hj hm =>
      obtain⟨w',g1,g2⟩:=hgo _ hj;refine⟨w',.tuple #[],?_,g2,VR.undef j⟩;simp only[Builtin.clear_,h0,List.getElem?_toArray,List.getElem?_cons_zero,Sem.run_bind,run_underlying hu,Result.andThen_ok];cases n with
      | zero=>exact absurd rfl hn0
      | succ n=>simp only[fk hz1,Result.andThen_ok,hzc,g1,Sem.run_pure]
     | sliceM hj hm e1 e2 hl hc =>
      obtain⟨w',g1,g2⟩:=hgo _ hj;refine⟨w',.tuple #[],?_,g2,VR.undef j⟩;simp only[Builtin.clear_,h0,List.getElem?_toArray,List.getElem?_cons_zero,Sem.run_bind,run_underlying hu,Result.andThen_ok];cases n with
      | zero=>exact absurd rfl hn0
      | succ n=>simp only[fk hz1,Result.andThen_ok,hzc,g1,Sem.run_pure]
   ·cases e
  ·cases e
 ·cases e
theorem jZ:∀(vs vs':List Value) (k:IntKind) (a:Int) (v:Value),dm (fun x y=>if y>x then y else x) k a vs=some v→LR j vs vs'→∀w,(vs'.foldlM Builtin.max2 (.int k a)).run E.P w = .ok v w
 | [],vs',k,a,v,e,hl,w=>by rw[hl.cJ]; cases e; rfl
 | x::vs,vs',k,a,v,e,hl,w=>by
  obtain⟨y,ys,rfl,h1,h2⟩:=hl.cons_inv;cases x<;>simp only[dm] at e<;>first | (cases e; done) | skip
  cases h1;simp only[List.foldlM_cons,Builtin.max2,Sem.run_bind,Sem.run_pure,Result.andThen_ok];exact jZ vs ys k _ v e h2 w
theorem kh:∀(vs vs':List Value) (k:IntKind) (a:Int) (v:Value),dm (fun x y=>if y<x then y else x) k a vs=some v→LR j vs vs'→∀w,(vs'.foldlM Builtin.min2 (.int k a)).run E.P w = .ok v w
 | [],vs',k,a,v,e,hl,w=>by rw[hl.cJ]; cases e; rfl
 | x::vs,vs',k,a,v,e,hl,w=>by
  obtain⟨y,ys,rfl,h1,h2⟩:=hl.cons_inv;cases x<;>simp only[dm] at e<;>first | (cases e; done) | skip
  cases h1;simp only[List.foldlM_cons,Builtin.min2,Sem.run_bind,Sem.run_pure,Result.andThen_ok];exact kh vs ys k _ v e h2 w
theorem gG (f:Int→Int→Int):∀(vs:List Value) (k:IntKind) (a:Int) (v:Value),dm f k a vs=some v→∃n,v = .int k n
 | [],k,a,v,e=>by cases e; exact⟨a,rfl⟩
 | x::vs,k,a,v,e=>by
  cases x<;>simp only[dm] at e<;>first | (cases e; done) | exact gG f vs k _ v e
theorem ER.len:∀{a:List (Value × Value)} {b:List MapEntry},ER j a b→a.length=b.length
 | [],[],_=>rfl
 | _::_,_::_,h=>by simp[ER.len h.2.2]
 | [],_::_,h=>h.elim
 | _::_,[],h=>h.elim
theorem nT (h:MR E j m w) {b:Builtin} {ts:Array TypeId} {args args':List Value} {v:Value} {m':AMem} (e:bj E.P b ts args m=some (v,m')) (ha:LR j args args') (ty:TypeId) (cs:Array Bool) :
  (m'=m∧(∀m2:AMem,((b = .len∨b = .cap)→∀x b0,args = [x]→dD x=some b0→m2.get b0=m.get b0)→bj E.P b ts args m2=some (v,m2))∧∃v',(builtin b ts ty cs args'.toArray).run E.P w = .ok (.value v') w∧VR j v v') ∨
  ((b = .append∨b = .copy∨b = .clear∨b = .delete)∧∃j' w' v',(builtin b ts ty cs args'.toArray).run E.P w = .ok (.value v') w'∧Sim E j m w j' m' w'∧VR j' v v'):=by
 unfold bj at e
 split at e
 ·
  rename_i x;obtain⟨x',l,rfl,hx,hl⟩:=ha.cons_inv;rw[hl.cJ];refine .inl ?_;have k3:∀n:Int,(Builtin.len_ ts ty [x'].toArray).run E.P w = .ok (.int .i64 n) w→∃v',(builtin .len ts ty cs [x'].toArray).run E.P w = .ok (.value v') w∧VR j (.int .i64 n) v' :=
   fun n hr=>⟨_,by simp only[builtin,Sem.run_bind,hr,Result.andThen_ok,Sem.run_pure],.int _ _⟩
  cases ht:ts[0]? with
  | none=>rw[ht] at e; simp at e
  | some t =>
   rw[ht] at e;simp only[Option.bind_some] at e
   split at e
   ·rename_i hu; cases e; cases hx;exact⟨rfl,fun m2 h0=>by simp only[bj,ht,Option.bind_some,hu],k3 _ (by simp only[Builtin.len_,ht,List.getElem?_toArray,List.getElem?_cons_zero,Sem.run_bind,run_underlying hu,Result.andThen_ok,Sem.run_pure,goInt])⟩
   ·rename_i hu; cases e;exact⟨rfl,fun m2 h0=>by simp only[bj,ht,Option.bind_some,hu],k3 _ (by simp only[Builtin.len_,ht,List.getElem?_toArray,List.getElem?_cons_zero,Sem.run_bind,run_underlying hu,Result.andThen_ok,Sem.run_pure,goInt])⟩
   ·rename_i a hu
    split at e
    ·rename_i h4; cases e;exact⟨rfl,fun m2 h0=>by simp only[bj,ht,Option.bind_some,hu,h4],k3 _ (by simp only[Builtin.len_,ht,List.getElem?_toArray,List.getElem?_cons_zero,Sem.run_bind,run_underlying hu,run_underlying h4,Result.andThen_ok,Sem.run_pure,goInt])⟩
    ·cases e
   ·rename_i hu; cases e;cases hx<;>exact⟨rfl,fun m2 h0=>by simp only[bj,ht,Option.bind_some,hu],k3 _ (by simp only[Builtin.len_,ht,List.getElem?_toArray,List.getElem?_cons_zero,Sem.run_bind,run_underlying hu,Result.andThen_ok,Sem.run_pure,goInt])⟩
   ·rename_i hu;cases hes:mapOf m _ with
    | none=>rw[hes] at e; cases e
    | some es =>
     rw[hes] at e; cases e;unfold mapOf at hes
     split at hes
     ·cases hes; cases hx;exact⟨rfl,fun m2 h0=>by simp only[bj,ht,Option.bind_some,hu,mapOf,Option.map_some],k3 _ (by simp only[Builtin.len_,ht,List.getElem?_toArray,List.getElem?_cons_zero,Sem.run_bind,run_underlying hu,Result.andThen_ok,Sem.run_pure,goInt]; rfl)⟩
     ·rename_i r
      split at hes
      ·rename_i e0 hg;cases hes;cases hx with
       | map hj =>
       obtain⟨es',clock,h1,h2⟩:=h.qO hj hg;have hlen:es.length=es'.size:=by
        simpa using ER.len h2
       exact⟨rfl,fun m2 h0=>by simp only[bj,ht,Option.bind_some,hu,mapOf,h0 (.inl rfl) _ _ rfl rfl,hg,Option.map_some],k3 _ (by simp only[Builtin.len_,ht,List.getElem?_toArray,List.getElem?_cons_zero,Sem.run_bind,run_underlying hu,Result.andThen_ok,run_getObj_map h1,Sem.run_pure,goInt,hlen])⟩
      ·cases hes
     ·cases hes
   ·cases e
 ·
  rename_i x;obtain⟨x',l,rfl,hx,hl⟩:=ha.cons_inv;rw[hl.cJ];refine .inl ?_;have k3:∀n:Int,(Builtin.cap_ ts ty [x'].toArray).run E.P w = .ok (.int .i64 n) w→∃v',(builtin .cap ts ty cs [x'].toArray).run E.P w = .ok (.value v') w∧VR j (.int .i64 n) v' :=
   fun n hr=>⟨_,by simp only[builtin,Sem.run_bind,hr,Result.andThen_ok,Sem.run_pure],.int _ _⟩
  cases ht:ts[0]? with
  | none=>rw[ht] at e; simp at e
  | some t =>
   rw[ht] at e;simp only[Option.bind_some] at e
   split at e
   ·rename_i hu; cases e; cases hx;exact⟨rfl,fun m2 h0=>by simp only[bj,ht,Option.bind_some,hu],k3 _ (by simp only[Builtin.cap_,ht,List.getElem?_toArray,List.getElem?_cons_zero,Sem.run_bind,run_underlying hu,Result.andThen_ok,Sem.run_pure,goInt])⟩
   ·rename_i b0 o l0 n hu
    split at e
    ·cases e
    ·rename_i c0 tag htag hg;cases e;cases hx with
     | slice hj hm =>
      refine⟨rfl,fun m2 h0=>?_,k3 _ (by simp only[Builtin.cap_,ht,List.getElem?_toArray,List.getElem?_cons_zero,Sem.run_bind,run_underlying hu,Result.andThen_ok,Sem.run_pure,goInt])⟩
      have h5:m2.get b0=some (.cells c0 tag):=(h0 (.inr rfl) _ _ rfl rfl).trans hg;simp only[bj,ht,Option.bind_some,hu,h5]
     | sliceM hj hm e1 e2 hl hc =>
      have:=h.kindOf hj hg;cases tag with
      | more sz=>exact absurd rfl (htag sz)
      | ro=>simp only at this; rw[hm] at this; cases this
      | own=>simp only at this; rw[hm] at this; cases this
    ·cases e
   ·cases e
 ·
  rename_i s x;obtain⟨s',l,rfl,hs,hl⟩:=ha.cons_inv;obtain⟨x',l',rfl,hx,hl'⟩:=hl.cons_inv;rw[hl'.cJ]
  split at e
  ·rename_i t ht;obtain⟨j',w',v',h1,h2,h3⟩:=pv h e hs hx ht rfl ty;exact .inr ⟨by simp,j',w',v',by simp only[builtin,Sem.run_bind]; rw[h1]; rfl,h2,h3⟩
  ·cases e
 ·
  rename_i d s;obtain⟨d',l,rfl,hd,hl⟩:=ha.cons_inv;obtain⟨s',l',rfl,hs,hl'⟩:=hl.cons_inv;rw[hl'.cJ]
  split at e
  ·rename_i t ht;obtain⟨w',v',h1,h2,h3⟩:=sL h e hd hs ht ty;exact .inr ⟨by simp,j,w',v',by simp only[builtin,Sem.run_bind]; rw[h1]; rfl,h2,h3⟩
  ·cases e
 ·
  rename_i x;obtain⟨x',l,rfl,hx,hl⟩:=ha.cons_inv;rw[hl.cJ]
  split at e
  ·rename_i t ht;obtain⟨w',v',h1,h2,h3⟩:=qS h e hx ht ty;exact .inr ⟨by simp,j,w',v',by simp only[builtin,Sem.run_bind]; rw[h1]; rfl,h2,h3⟩
  ·cases e
 ·
  rename_i x k;obtain⟨x',l,rfl,hx,hl⟩:=ha.cons_inv;obtain⟨k',l',rfl,hk,hl'⟩:=hl.cons_inv;rw[hl'.cJ]
  split at e
  ·rename_i t ht;cases hd:km E.P t x k m with
   | none=>rw[hd] at e; cases e
   | some m1 =>
    rw[hd] at e; cases e;obtain⟨w',h1,h2⟩:=pU h hd hx hk ts ht ty;exact .inr ⟨by simp,j,w',.tuple #[],by simp only[builtin,Sem.run_bind]; rw[h1]; rfl,h2,VR.undef j⟩
  ·cases e
 ·
  rename_i k a vs;obtain⟨x',l,rfl,hx,hl⟩:=ha.cons_inv;cases hx;cases hf:dm (fun x y=>if y>x then y else x) k a vs with
  | none=>rw[hf] at e; cases e
  | some r =>
   rw[hf] at e; cases e;obtain⟨n,rfl⟩:=gG _ _ _ _ _ hf;refine .inl ⟨rfl,fun m2 _=>by simp only[bj,hf,Option.map_some],.int k n,?_,.int _ _⟩
   have:=jZ (E:=E) vs l k a _ hf hl w;simp only[builtin,Sem.run_bind,Builtin.max_,this,Result.andThen_ok,Sem.run_pure]
 ·
  rename_i k a vs;obtain⟨x',l,rfl,hx,hl⟩:=ha.cons_inv;cases hx;cases hf:dm (fun x y=>if y<x then y else x) k a vs with
  | none=>rw[hf] at e; cases e
  | some r =>
   rw[hf] at e; cases e;obtain⟨n,rfl⟩:=gG _ _ _ _ _ hf;refine .inl ⟨rfl,fun m2 _=>by simp only[bj,hf,Option.map_some],.int k n,?_,.int _ _⟩
   have:=kh (E:=E) vs l k a _ hf hl w;simp only[builtin,Sem.run_bind,Builtin.min_,this,Result.andThen_ok,Sem.run_pure]
 ·cases e
end
section
variable {E : Env} {j : aL} {m : AMem} {w : World} {t : Tm} {n : Nat} {a : Act}
theorem aK (h:MR E j m w) (ht:TR n j t a.tmps) {x:Operand} {v:Value} (e:av E t x=some v):VR j v (a.eval x):=by
 unfold av at e
 split at e
 ·cases e; exact ht.2 _
 ·split at e
  ·rename_i hp; cases e; exact VR.bC hp
  ·cases e
 ·split at e
  ·rename_i hg; cases e; exact .ptr (h.glob _ hg)
  ·cases e
 ·cases e; exact .func rfl (fun i a _=>by simp at a) rfl (fun i a _=>by simp at a)
theorem dR (h:MR E j m w) (ht:TR n j t a.tmps):∀{xs:List Operand} {vs:List Value},bz E t xs=some vs→LR j vs (xs.map a.eval)
 | [],vs,e=>by cases e; exact .nil j
 | x::xs,vs,e=>by
  simp only[bz] at e
  split at e
  ·rename_i v vs' h1 h2;cases e;exact .cons (aK h ht h1) (dR h ht h2)
  ·cases e
theorem fP (h:MR E j m w) (ht:TR n j t a.tmps):∀{xs:List (Nat × Operand)} {vs:List (Nat × Value)},da E t xs=some vs →
  vs.map (·.1)=(xs.map fun p=>(p.1,a.eval p.2)).map (·.1)∧LR j (vs.map (·.2)) ((xs.map fun p=>(p.1,a.eval p.2)).map (·.2))
 | [],vs,e=>by cases e; exact⟨rfl,.nil j⟩
 | (i,x)::xs,vs,e=>by
  simp only[da] at e
  split at e
  ·rename_i v vs' h1 h2;cases e;obtain⟨h3,h4⟩:=fP h ht h2;exact⟨by simpa using h3,.cons (aK h ht h1) h4⟩
  ·cases e
theorem jl (h:MR E j m w) (ht:TR n j t a.tmps) {x:Option Operand} {v:Option Value} (e:cX E t x=some v):OVR j v (x.map a.eval):=by
 cases x with
 | none=>cases e; exact .none
 | some x =>
  simp only[cX] at e;cases hv:av E t x with
  | none=>rw[hv] at e; cases e
  | some v0=>rw[hv] at e; cases e; exact .some (aK h ht hv)
def gN (P:Program) (s:Sem Next) (v:Value) (w w':World):Prop:=s.run P w = .ok (.value v) w'∨(s.run P w = .ok .skip w'∧v=undef)
theorem gN.value {P:Program} {s:Sem Value} {v:Value} {w w':World} (h:s.run P w = .ok v w'):gN P (do pure (.value (←s))) v w w' :=
 .inl (by simp only[Sem.run_bind,h,Result.andThen_ok,Sem.run_pure])
theorem gN.unit {P:Program} {s:Sem Unit} {w w':World} (h:s.run P w = .ok () w'):gN P (do s; pure .skip) undef w w' :=
 .inr ⟨by simp only[Sem.run_bind,h,Result.andThen_ok,Sem.run_pure],rfl⟩
theorem map_some {α β:Type} {f:α→β} {x:Option α} {y:β} (h:x.map f=some y):∃a,x=some a∧y=f a:=by
 cases x with
 | none=>cases h
 | some a=>cases h; exact⟨a,rfl,rfl⟩
theorem nI {m2 m:AMem} {b o n:Nat} (h:m2.get b=m.get b):m2.dg b o n=m.dg b o n:=by simp only[AMem.dg,h]
theorem pa {P:Program} {t:TypeId} {p:Value} {m2 m:AMem} (h:∀b0,dD p=some b0→m2.get b0=m.get b0):cT P t p m2=cT P t p m:=by
 unfold cT
 split
 ·rename_i b o;have hb:=h b rfl;simp only[nI hb,hb]
 ·rfl
theorem mU {P:Program} {t:TypeId} {p:Value} {l hh k:Option Value} {m2 m:AMem} (h:∀b0,dD p=some b0→m2.get b0=m.get b0):du P t p l hh k m2=du P t p l hh k m:=by
 unfold du
 split
 ·rfl
 ·rename_i b o len cap _;simp only[h b rfl]
 ·rfl
 ·rename_i b o _;simp only[h b rfl]
 ·rfl
theorem lK {P:Program} {t:TypeId} {p q:Value} {ok:Bool} {m2 m:AMem} (h:∀b0,dD p=some b0→m2.get b0=m.get b0):eR P t p q ok m2=eR P t p q ok m:=by
 have:mapOf m2 p=mapOf m p:=by
  unfold mapOf
  split
  ·rfl
  ·rename_i r; simp only[h r rfl]
  ·rfl
 unfold eR;simp only[this]
def Quiet (E:Env) (j:aL) (m:AMem) (w:World) (t:Tm) (a:Act) (o:Oper) (v:Value) (m':AMem):Prop :=
 m'=m∧(∀m2:AMem,(∀b0,aS E t o.op=some b0→m2.get b0=m.get b0)→dx E t m2 o.op=some (v,m2))∧∃v',gN E.P (execOp a.eval o) v' w w∧VR j v v'
def yN (E:Env) (j:aL) (m:AMem) (w:World) (t:Tm) (a:Act) (o:Oper) (v:Value) (m':AMem):Prop :=
 ∃(ao:AObj) (co:Obj) (vb:Nat→Value) (v':Value),v=vb m.next∧m'=m.alloc ao∧gN E.P (execOp a.eval o) v' w (w.alloc co)∧OR j ⟨w.heap.size,none⟩ ao co ∧
  (∀(j':aL) (b:Nat),j' b=some ⟨w.heap.size,none⟩→VR j' (vb b) v')∧∀m2:AMem,dx E t m2 o.op=some (vb m2.next,m2.alloc ao)
theorem nj (h:MR E j m w) (ht:TR n j t a.tmps) {o:Oper} {v:Value} {m':AMem} (e:dx E t m o.op=some (v,m')) :
  Quiet E j m w t a o v m'∨yN E j m w t a o v m'∨(az o.op=true∧∃j' w' v',gN E.P (execOp a.eval o) v' w w'∧Sim E j m w j' m' w'∧VR j' v v'):=by
 have hpure:∀{s:Sem Value} {f:AMem→Option Value} {v0:Value} {m0:AMem},(∀m2:AMem,dx E t m2 o.op=(f m2).map fun v=>(v,m2))→(∀m2:AMem,(∀b0,aS E t o.op=some b0→m2.get b0=m.get b0)→f m2=f m) →
   (∀v1,f m=some v1→∃v',s.run E.P w = .ok v' w∧VR j v1 v')→(f m).map (fun v=>(v,m))=some (v0,m0)→execOp a.eval o=(do pure (.value (←s))) →
   Quiet E j m w t a o v0 m0:=by
  intro s f v0 m0 hf hf2 h1 h2 hx;obtain⟨v1,hr,he⟩:=map_some h2;cases he;obtain⟨v',h3,h4⟩:=h1 _ hr;exact⟨rfl,fun m2 hm2=>by rw[hf,hf2 m2 hm2,hr]; rfl,v',by rw[hx]; exact .value h3,h4⟩
 cases hop:o.op<;>rw[hop] at e<;>simp only[dx] at e<;>try (cases e; done)
 case move x =>
  refine .inl ⟨(by obtain⟨v1,hv,he⟩:=map_some e; cases he; rfl),fun m2 _=>?_,?_⟩
  ·rw[hop]; obtain⟨v1,hv,he⟩:=map_some e; cases he;simp only[dx,hv,Option.map_some]
  ·obtain⟨v1,hv,he⟩:=map_some e;cases he;exact⟨_,.inl (by simp only[execOp,hop]; rfl),aK h ht hv⟩
 case assign x =>
  refine .inl ⟨(by obtain⟨v1,hv,he⟩:=map_some e; cases he; rfl),fun m2 _=>?_,?_⟩
  ·rw[hop]; obtain⟨v1,hv,he⟩:=map_some e; cases he;simp only[dx,hv,Option.map_some]
  ·obtain⟨v1,hv,he⟩:=map_some e;cases he;exact⟨_,.inl (by simp only[execOp,hop]; rfl),aK h ht hv⟩
 case pick c x y =>
  have hx:execOp a.eval o=(do pure (.value (if ←asBool (a.eval c) then a.eval x else a.eval y))):=by simp only[execOp,hop]
  refine .inl ?_
  split at e
  ·rename_i hc;obtain⟨v1,hv,he⟩:=map_some e;cases he;have hb:=aK h ht hc;refine⟨rfl,fun m2 _=>by rw[hop]; simp only[dx,hc,hv,Option.map_some],a.eval x,?_,aK h ht hv⟩
   rw[hx];generalize a.eval c=cv at hb;cases hb;exact .inl rfl
  ·rename_i hc;obtain⟨v1,hv,he⟩:=map_some e;cases he;have hb:=aK h ht hc;refine⟨rfl,fun m2 _=>by rw[hop]; simp only[dx,hc,hv,Option.map_some],a.eval y,?_,aK h ht hv⟩
   rw[hx];generalize a.eval c=cv at hb;cases hb;exact .inl rfl
  ·cases e
 case alloc elem =>
  have hx:execOp a.eval o=(do pure (.value (←Instr.alloc elem true (.tuple #[])))):=by simp only[execOp,hop]
  split at e
  ·rename_i z hz
   split at e
   ·rename_i hp;cases e;refine .inr (.inl ⟨_,.cells z.cells elem,fun b=>ptr b 0,.pointer (some ⟨w.heap.size,0,none⟩),rfl,rfl,?_,OR.own (ew (VR.bC hp)),fun j' b hb=>.ptr hb,fun m2=>by rw[hop]; simp only[dx,hz,hp,if_true]⟩)
    rw[hx];refine .value ?_;simp only[Instr.alloc,Sem.run_bind,fk hz,Result.andThen_ok,newVar,newRow,run_newObj,Sem.run_pure,World.alloc_eq]
   ·cases e
  ·cases e
 case box elem x =>
  have hx:execOp a.eval o=(do pure (.value (←Instr.box elem (a.eval x)))):=by simp only[execOp,hop]
  obtain⟨v1,hv,he⟩:=map_some e;cases he;refine .inr (.inl ⟨_,.cells (a.eval x).cells elem,fun b=>ptr b 0,.pointer (some ⟨w.heap.size,0,none⟩),rfl,rfl,?_,OR.own (ew (aK h ht hv)),fun j' b hb=>.ptr hb,fun m2=>by rw[hop]; simp only[dx,hv,Option.map_some]⟩)
  rw[hx];refine .value ?_;simp only[Instr.box,Sem.run_bind,newVar,newRow,run_newObj,Result.andThen_ok,Sem.run_pure,World.alloc_eq]
 case build ty parts =>
  have hx:execOp a.eval o=(do pure (.value (←Instr.build ty (parts.map fun(i,x)=>(i,a.eval x))))):=by simp only[execOp,hop]
  split at e
  ·rename_i ps z hps hz
   split at e
   ·rename_i hp;obtain⟨h1,h2⟩:=fP h ht hps;refine .inl (hpure (f:=fun _=>iw E.P ty ps) (fun m2=>by rw[hop]; simp only[dx,hps,hz,if_pos hp]) (fun _ _=>rfl) (fun v1 hv1=>?_) e hx)
    obtain⟨v',h3,h4⟩:=q3 hv1 h1 h2 hz hp;refine⟨v',?_,h4⟩;have:(parts.map fun(i,x)=>(i,a.eval x))=(parts.toList.map fun p=>(p.1,a.eval p.2)).toArray:=by
     apply Array.toList_inj.1; simp
    rw[this]; exact h3 w
   ·cases e
  ·cases e
 case buildSlice ty len parts =>
  have hx:execOp a.eval o=(do pure (.value (←Instr.buildSlice ty len (parts.map fun(i,x)=>(i,a.eval x))))):=by simp only[execOp,hop]
  split at e
  ·rename_i elem ps hu hps
   split at e
   ·cases e
   ·rename_i hc;simp only[Bool.or_eq_true,Bool.not_eq_true',decide_eq_true_eq,not_or,Bool.not_eq_false] at hc;obtain⟨hk,hbig⟩:=hc
    split at e
    ·rename_i zs hz
     split at e
     ·rename_i hp;obtain⟨cs,hcs,he⟩:=map_some e;cases he;obtain⟨h1,h2⟩:=fP h ht hps;obtain⟨z,hz1,hz2,hz3⟩:=fH hz;obtain⟨cs',h3,h4⟩:=js h1 h2 (LR.plain (j:=j) hp) hcs;have hparts:(parts.map fun(i,x)=>(i,a.eval x)).toList=parts.toList.map fun p=>(p.1,a.eval p.2):=by simp
      refine .inr (.inl ⟨_,.cells cs'.toArray elem,fun b=>.slice (some ⟨b,0,none⟩) len len,.slice (some ⟨w.heap.size,0,none⟩) len len,rfl,rfl,?_,OR.own (by simpa using h4),fun j' b hb=>.slice hb rfl,fun m2=>by rw[hop]; simp only[dx,hu,hps,hk,hz,hp,hcs,decide_eq_false hbig,Bool.not_true,Bool.or_self,Bool.false_eq_true,if_true,if_false,Option.map_some]⟩)
      rw[hx];refine .value ?_;have hc0:len*aE E.P elem=0→((Array.range (len*aE E.P elem)).map fun i=>(#[]:Array Value)[i%(#[]:Array Value).size]!)=zs.toArray:=by
       intro h0;apply Array.toList_inj.1;have:zs = []:=by apply List.eq_nil_of_length_eq_zero; rw[hz3,dT,Array.length_toList,hz2,h0]
       simp[h0,this]
      have hc1:((Array.range (len*aE E.P elem)).map fun i=>z.cells[i%z.cells.size]!)=zs.toArray:=by
       apply Array.toList_inj.1;rw[hz3,←hz2]; exact hU len
      simp only[Instr.buildSlice,Sem.run_bind,run_underlying hu,Result.andThen_ok,bW hk,Sem.run_ite,if_neg hbig,hparts]
      split
      ·rename_i h0;simp only[Sem.run_pure,Result.andThen_ok,hc0 h0,h3,newRow,Sem.run_bind,run_newObj,World.alloc_eq]
      ·simp only[Sem.run_bind,fk hz1,Sem.run_pure,Result.andThen_ok,hc1,h3,newRow,run_newObj,World.alloc_eq]
     ·cases e
    ·cases e
  ·cases e
 case load ty x =>
  have hx:execOp a.eval o=(do pure (.value (←Instr.loadAt ty (a.eval x)))):=by simp only[execOp,hop]
  split at e
  ·rename_i p hp;refine .inl (hpure (f:=fun m2=>cT E.P ty p m2) (fun m2=>by rw[hop]; simp only[dx,hp]) (fun m2 hm2=>?_) (fun v1 hv1=>nQ h hv1 (aK h ht hp)) e hx)
   rw[hop] at hm2;simp only[aS,hp,Option.bind_some] at hm2;exact pa hm2
  ·cases e
 case store ty x y =>
  have hx:execOp a.eval o=(do Instr.storeAt ty (a.eval x) (a.eval y); pure .skip):=by simp only[execOp,hop]
  rw[hx]
  split at e
  ·rename_i p v0 hp hv0;obtain⟨m1,hm1,he⟩:=map_some e;cases he;obtain⟨w',h1,h2⟩:=rB h hm1 (aK h ht hp) (aK h ht hv0);exact .inr (.inr ⟨rfl,j,w',undef,.unit h1,h2,VR.undef j⟩)
  ·cases e
 case nilCheck x =>
  split at e
  ·rename_i ad hp;cases e;have hv:=aK h ht hp;refine .inl ⟨rfl,fun m2 _=>by rw[hop]; simp only[dx,hp],a.eval x,.inl ?_,hv⟩
   generalize hxv:a.eval x=xv at hv;cases hv;simp only[execOp,hop,hxv,Sem.run_pure]
  ·rename_i f fs cs hp;cases e;have hv:=aK h ht hp;refine .inl ⟨rfl,fun m2 _=>by rw[hop]; simp only[dx,hp],a.eval x,.inl ?_,hv⟩
   generalize hxv:a.eval x=xv at hv;cases hv;simp only[execOp,hop,hxv,Sem.run_pure]
  ·rename_i f fs cs hp;cases e;have hv:=aK h ht hp;refine .inl ⟨rfl,fun m2 _=>by rw[hop]; simp only[dx,hp],a.eval x,.inl ?_,hv⟩
   generalize hxv:a.eval x=xv at hv;cases hv;simp only[execOp,hop,hxv,Sem.run_pure]
  ·cases e
 case binOp op xt x y yt =>
  have hx:execOp a.eval o=(do pure (.value (←(do eqGuard op xt x y (a.eval x) (a.eval y); binOp op xt (a.eval x) (a.eval y))))):=by simp only[execOp,hop]
  split at e
  ·rename_i p q hp hq;refine .inl (hpure (f:=fun _=>cB op xt E.P p q) (fun m2=>by rw[hop]; simp only[dx,hp,hq]) (fun _ _=>rfl) (fun v1 hv1=>?_) e hx)
   obtain⟨v',h1,h2⟩:=vD hv1 (aK h ht hp) (aK h ht hq) x y;exact⟨v',h1 w,h2⟩
  ·cases e
 case unOp op xt x =>
  have hx:execOp a.eval o=(do pure (.value (←Op.unary op (a.eval x)))):=by simp only[execOp,hop]
  split at e
  ·rename_i p hp;refine .inl (hpure (f:=fun _=>rO op p) (fun m2=>by rw[hop]; simp only[dx,hp]) (fun _ _=>rfl) (fun v1 hv1=>?_) e hx)
   obtain⟨v',h1,h2⟩:=xo (P:=E.P) hv1 (aK h ht hp);exact⟨v',h1 w,h2⟩
  ·cases e
 case convert s d x =>
  have hx:execOp a.eval o=(do pure (.value (←convert s d (a.eval x)))):=by simp only[execOp,hop]
  split at e
  ·rename_i p hp;refine .inl (hpure (f:=fun _=>qf E.P s d p) (fun m2=>by rw[hop]; simp only[dx,hp]) (fun _ _=>rfl) (fun v1 hv1=>?_) e hx)
   obtain⟨v',h1,h2⟩:=sR hv1 (aK h ht hp);exact⟨v',h1 w,h2⟩
  ·cases e
 case makeFunc fn first captured =>
  cases fn<;>simp only at e<;>try (cases e; done)
  rename_i f;have hx:execOp a.eval o=(do pure (.value (←Instr.makeFunc (.func f) (first.map a.eval) (captured.map a.eval)))):=by simp only[execOp,hop]
  split at e
  ·rename_i fs cs h1 h2;cases e;have h3:=dR h ht h1;have h4:=dR h ht h2;have h3':LR j fs.toArray.toList (first.map a.eval).toList:=by simpa using h3
   have h4':LR j cs.toArray.toList (captured.map a.eval).toList:=by simpa using h4
   refine .inl ⟨rfl,fun m2 _=>by rw[hop]; simp only[dx,h1,h2],_,?_,.func h3'.size h3'.arr h4'.size h4'.arr⟩
   rw[hx]; exact .value rfl
  ·cases e
 case makeMap ty r =>
  cases r with
  | some _=>simp at e
  | none =>
   simp only at e;cases e;have hx:execOp a.eval o=(do pure (.value (←Instr.makeMap ty none))):=by simp only[execOp,hop]; rfl
   refine .inr (.inl ⟨.map [],.map #[] 0,fun b=>.map (some b),.map (some w.heap.size),rfl,rfl,?_,⟨trivial,qT _⟩,fun j' b hb=>.map hb,fun m2=>by rw[hop]; rfl⟩)
   rw[hx];refine .value ?_;simp only[Instr.makeMap,Sem.run_bind,run_newObj,Result.andThen_ok,Sem.run_pure,World.alloc_eq]
 case makeSlice ty l c =>
  have hx:execOp a.eval o=(do pure (.value (←Instr.makeSlice ty (a.eval l) (a.eval c)))):=by simp only[execOp,hop]
  split at e
  ·rename_i elem li ci hu hl hc
   split at e
   ·rename_i hcond;have hcond0:=hcond;obtain⟨h0l,hlc,hany,hk⟩:=hcond;simp only[Option.any_eq_true,Bool.and_eq_true,decide_eq_true_eq,bne_iff_ne,ne_eq] at hany;obtain⟨i,hi,hby,hb0⟩:=hany
    split at e
    ·rename_i zs hz
     split at e
     ·rename_i hp;cases e;obtain⟨z,hz1,hz2,hz3⟩:=fH hz;have hlv:=aK h ht hl;have hcv:=aK h ht hc;refine .inr (.inl ⟨_,.cells zs.toArray elem,fun b=>.slice (some ⟨b,0,none⟩) li.toNat ci.toNat,.slice (some ⟨w.heap.size,0,none⟩) li.toNat ci.toNat,rfl,rfl,?_,OR.own (LR.plain hp),fun j' b hb=>.slice hb rfl,fun m2=>by rw[hop]; simp only[dx,hu,hl,hc]; rw[if_pos hcond0]; simp only[hz,hp,if_true]⟩)
      rw[hx];refine .value ?_;generalize a.eval l=lv at hlv;generalize a.eval c=cv at hcv;cases hlv; cases hcv;have hci:ci≤2 ^ 40:=by
       have h1:(1:Int)≤(i.bytes:Int):=by exact_mod_cast Nat.one_le_iff_ne_zero.2 hb0
       have:1*ci≤(i.bytes:Int)*ci:=Int.mul_le_mul_of_nonneg_right h1 (by omega)
       omega
      have hwl:IntKind.i64.wrap li=li:=IntWalk.i64_in li (by omega)
      have hwc:IntKind.i64.wrap ci=ci:=IntWalk.i64_in ci (by omega)
      have hneg:¬(((ci<0 || (i.bytes:Int)*ci>2 ^ 48) || li<0 || li>ci)=true):=by
       simp only[Bool.or_eq_true,decide_eq_true_eq,not_or];omega
      have hc0:ci.toNat*aE E.P elem=0→((Array.range (ci.toNat*aE E.P elem)).map fun i=>(#[]:Array Value)[i%(#[]:Array Value).size]!)=zs.toArray:=by
       intro h0;apply Array.toList_inj.1;have:zs = []:=by apply List.eq_nil_of_length_eq_zero; rw[hz3,dT,Array.length_toList,hz2,h0]
       simp[h0,this]
      have hc1:((Array.range (ci.toNat*aE E.P elem)).map fun i=>z.cells[i%z.cells.size]!)=zs.toArray:=by
       apply Array.toList_inj.1;rw[hz3,←hz2]; exact hU ci.toNat
      simp only[Instr.makeSlice,Sem.run_bind,run_underlying hu,Result.andThen_ok,asInt,asIntOf,Sem.run_pure,lb hi,hwl,hwc,Sem.run_ite,if_neg hneg,run_askRoom,bW hk]
      split
      ·rename_i h0;simp only[Sem.run_pure,Result.andThen_ok,hc0 h0,newRow,Sem.run_bind,run_newObj,World.alloc_eq]
      ·simp only[Sem.run_bind,fk hz1,Sem.run_pure,Result.andThen_ok,hc1,newRow,run_newObj,World.alloc_eq]
     ·cases e
    ·cases e
   ·cases e
  ·cases e
 case slice ty x lo hi mx =>
  have hx:execOp a.eval o=(do pure (.value (←Instr.sliceAt ty (a.eval x) (lo.map a.eval) (hi.map a.eval) (mx.map a.eval)))):=by simp only[execOp,hop]
  split at e
  ·rename_i p l hh k hp h1 h2 h3;refine .inl (hpure (f:=fun m2=>du E.P ty p l hh k m2) (fun m2=>by rw[hop]; simp only[dx,hp,h1,h2,h3]) (fun m2 hm2=>?_) (fun v1 hv1=>?_) e hx)
   ·rw[hop] at hm2;simp only[aS,hp,Option.bind_some] at hm2;exact mU hm2
   ·obtain⟨v',g1,g2⟩:=q9 h hv1 (aK h ht hp) (jl h ht h1) (jl h ht h2) (jl h ht h3);exact⟨v',g1 w,g2⟩
  ·cases e
 case fieldAddr s x f =>
  have hx:execOp a.eval o=(do pure (.value (←Instr.fieldAt s (a.eval x) f))):=by simp only[execOp,hop]
  split at e
  ·rename_i p hp;refine .inl (hpure (f:=fun _=>aM E.P s p f) (fun m2=>by rw[hop]; simp only[dx,hp]) (fun _ _=>rfl) (fun v1 hv1=>?_) e hx)
   obtain⟨v',g1,g2⟩:=lD hv1 (aK h ht hp);exact⟨v',g1 w,g2⟩
  ·cases e
 case field ty x f =>
  have hx:execOp a.eval o=(do pure (.value (←Instr.field ty (a.eval x) f))):=by simp only[execOp,hop]
  split at e
  ·rename_i p hp;refine .inl (hpure (f:=fun _=>mA E.P ty p f) (fun m2=>by rw[hop]; simp only[dx,hp]) (fun _ _=>rfl) (fun v1 hv1=>?_) e hx)
   obtain⟨v',g1,g2⟩:=rf hv1 (aK h ht hp);exact⟨v',g1 w,g2⟩
  ·cases e
 case sliceToArrayPointer ty x =>
  have hx:execOp a.eval o=(do pure (.value (←Instr.arrayAt ty (a.eval x)))):=by simp only[execOp,hop]
  split at e
  ·rename_i p hp;refine .inl (hpure (f:=fun _=>qN E.P ty p) (fun m2=>by rw[hop]; simp only[dx,hp]) (fun _ _=>rfl) (fun v1 hv1=>?_) e hx)
   obtain⟨v',g1,g2⟩:=tl hv1 (aK h ht hp);exact⟨v',g1 w,g2⟩
  ·cases e
 case indexAddr ty x i =>
  have hx:execOp a.eval o=(do pure (.value (←Instr.indexAt ty (a.eval x) (a.eval i)))):=by simp only[execOp,hop]
  split at e
  ·rename_i p q hp hq;refine .inl (hpure (f:=fun _=>bN E.P ty p q) (fun m2=>by rw[hop]; simp only[dx,hp,hq]) (fun _ _=>rfl) (fun v1 hv1=>?_) e hx)
   obtain⟨v',g1,g2⟩:=lz hv1 (aK h ht hp) (aK h ht hq);exact⟨v',g1 w,g2⟩
  ·cases e
 case index ty x i =>
  have hx:execOp a.eval o=(do pure (.value (←Instr.index ty (a.eval x) (a.eval i)))):=by simp only[execOp,hop]
  split at e
  ·rename_i p q hp hq;refine .inl (hpure (f:=fun _=>ed E.P ty p q) (fun m2=>by rw[hop]; simp only[dx,hp,hq]) (fun _ _=>rfl) (fun v1 hv1=>?_) e hx)
   obtain⟨v',g1,g2⟩:=rJ hv1 (aK h ht hp) (aK h ht hq);exact⟨v',g1 w,g2⟩
  ·cases e
 case lookup ty x i ok =>
  have hx:execOp a.eval o=(do pure (.value (←Instr.lookup ty (a.eval x) (a.eval i) ok))):=by simp only[execOp,hop]
  split at e
  ·rename_i p q hp hq;refine .inl (hpure (f:=fun m2=>eR E.P ty p q ok m2) (fun m2=>by rw[hop]; simp only[dx,hp,hq]) (fun m2 hm2=>?_) (fun v1 hv1=>pW h hv1 (aK h ht hp) (aK h ht hq)) e hx)
   rw[hop] at hm2;simp only[aS,hp,Option.bind_some] at hm2;exact lK hm2
  ·cases e
 case mapUpdate ty x k y =>
  have hx:execOp a.eval o=(do Instr.mapUpdate ty (a.eval x) (a.eval k) (a.eval y); pure .skip):=by simp only[execOp,hop]
  rw[hx]
  split at e
  ·rename_i p q r hp hq hr;obtain⟨m1,hm1,he⟩:=map_some e;cases he;obtain⟨w',h1,h2⟩:=iT h hm1 (aK h ht hp) (aK h ht hq) (aK h ht hr);exact .inr (.inr ⟨rfl,j,w',undef,.unit h1,h2,VR.undef j⟩)
  ·cases e
 case insert ty x k y =>
  have hx:execOp a.eval o=(do Instr.mapUpdate ty (a.eval x) (a.eval k) (a.eval y); pure .skip):=by simp only[execOp,hop]
  rw[hx]
  split at e
  ·rename_i p q r hp hq hr;obtain⟨m1,hm1,he⟩:=map_some e;cases he;obtain⟨w',h1,h2⟩:=iT h hm1 (aK h ht hp) (aK h ht hq) (aK h ht hr);exact .inr (.inr ⟨rfl,j,w',undef,.unit h1,h2,VR.undef j⟩)
  ·cases e
 case extract x i =>
  have hx:execOp a.eval o=(do pure (.value (←Instr.extract (a.eval x) i))):=by simp only[execOp,hop]
  split at e
  ·rename_i vs hp;refine .inl (hpure (f:=fun _=>vs[i]?) (fun m2=>by rw[hop]; simp only[dx,hp]) (fun _ _=>rfl) (fun v1 hv1=>?_) e hx)
   have hv:=aK h ht hp;generalize a.eval x=xv at hv;cases hv with
   | tuple h1 h2 =>
   rename_i ys;obtain⟨v',g1,g2⟩:=(LR.dJ h1 h2).get (show vs.toList[i]? = some v1 by simpa using hv1)
   refine⟨v',?_,g2⟩;have g1':ys[i]? = some v':=by simpa using g1
   simp only[Instr.extract,g1',Sem.run_pure]
  ·cases e
 case call c =>
  split at e
  ·rename_i b hb
   split at e
   ·rename_i vs hvs;have hx:execOp a.eval o=(do let d ←resolve a.eval c o.type; invoke d.target d.args):=by simp only[execOp,hop]
    have hargs:c.args.map a.eval=(c.args.toList.map a.eval).toArray:=by apply Array.toList_inj.1; simp
    have hrun:∃cs,(execOp a.eval o).run E.P w=(builtin b c.argTypes o.type cs (c.args.toList.map a.eval).toArray).run E.P w :=
     ⟨_,by rw[hx]; simp only[resolve,hb,Sem.run_bind,Sem.run_pure,Result.andThen_ok,invoke,hargs]; rfl⟩
    obtain⟨cs,hrun⟩:=hrun;rcases nT h e (dR h ht hvs) o.type cs with⟨rfl,hm,v',h1,h2⟩|⟨hbb,j',w',v',h1,h2,h3⟩
    ·refine .inl ⟨rfl,fun m2 hm2=>?_,v',.inl (hrun.trans h1),h2⟩;rw[hop] at hm2 ⊢;simp only[dx,hb,hvs];refine hm m2 fun hlc x b0 hx1 hx2=>hm2 b0 ?_;subst hx1;rcases hlc with rfl|rfl<;>simp only[aS,hb,hvs,hx2]
    ·refine .inr (.inr ⟨?_,j',w',v',.inl (hrun.trans h1),h2,h3⟩);rcases hbb with rfl|rfl|rfl|rfl<;>simp only[az,hb]
   ·cases e
  ·cases e
theorem tH (h:MR E j m w) (ht:TR n j t a.tmps) {o:Oper} {v:Value} {m':AMem} (e:dx E t m o.op=some (v,m')) :
  ∃j' w' v',gN E.P (execOp a.eval o) v' w w'∧Sim E j m w j' m' w'∧VR j' v v':=by
 rcases nj h ht e with⟨rfl,_,v',h1,h2⟩|⟨ao,co,vb,v',rfl,rfl,h1,h2,h3,_⟩|⟨_,h1⟩
 ·exact⟨j,w,v',h1,.refl h,h2⟩
 ·exact⟨_,_,v',h1,iF h h2,h3 _ _ (aL.bQ _ _ _)⟩
 ·exact h1
end
def se:AExit→Exit
 | .normal=>.normal
 | .exit id=>.exit id
 | .ret=>.ret
def gh (F:Fence):Prop:=F=Fence.wide∨∃l,F=Fence.wide.inRound l
theorem gh.fn {F:Fence} (h:gh F) (f:FuncId):F.fn f:=by
 rcases h with rfl|⟨l,rfl⟩<;>trivial
theorem gh.room {F:Fence} (h:gh F) (n:Nat):F.room n:=by
 rcases h with rfl|⟨l,rfl⟩<;>intro d hd<;>simp[Fence.wide] at hd
theorem gh.depth {F:Fence} (h:gh F) {n:Nat}:F.depth.isSome=true→1≤n:=by
 rcases h with rfl|⟨l,rfl⟩<;>intro hd<;>simp[Fence.wide] at hd
theorem gh.calls {F:Fence} (h:gh F) {n:Nat} {P:Program} {f:FuncId} {args:Array Value} {w:World} {R:Ending→World→Prop} (hc:CallsIn Fence.wide n P f args w R):CallsIn F n P f args w R:=by
 rcases h with rfl|⟨l,rfl⟩
 ·exact hc
 ·exact hc
theorem gh.vr {F:Fence} (h:gh F) {n:Nat} {P:Program} {l:Nat} {f:FuncId} {tmps:Array Value} {x y:Code} {w:World} {R:Ending→World→Prop} (hc:RoundIn Fence.wide n P l f tmps x y w R):RoundIn F n P l f tmps x y w R:=by
 rcases h with rfl|⟨l,rfl⟩
 ·exact hc
 ·exact hc
def gw (j:aL) (r:Option Nat) (F:Fence):Prop :=
 match r with
 | none=>F=Fence.wide
 | some l=>∃k,j l=some k∧F=Fence.wide.inRound k.c
theorem gw.wide {j:aL} {r:Option Nat} {F:Fence} (h:gw j r F):gh F:=by
 cases r with
 | none=>exact .inl h
 | some l=>obtain⟨k,_,rfl⟩:=h; exact .inr ⟨_,rfl⟩
theorem gw.mono {j j':aL} (hj:j.le j') {r:Option Nat} {F:Fence} (h:gw j r F):gw j' r F:=by
 cases r with
 | none=>exact h
 | some l=>obtain⟨k,h1,rfl⟩:=h; exact⟨k,hj _ _ h1,rfl⟩
def kP (r:Nat):Deferred:={ target:=.collected r,args:=#[]}
def Marks (N:Nat) (w:World) (ds:List Deferred):Prop:=∃rs:List Nat,rs.Nodup∧ds=rs.map kP∧∀r ∈ rs,N≤r∧w.heap[r]? = some (.deferred (some []))
theorem Marks.nil (N:Nat) (w:World):Marks N w []:=⟨[],List.nodup_nil,rfl,fun r h=>by simp at h⟩
theorem pf {E:Env} {j:aL} {m:AMem} {w:World} (h:MR E j m w) {r:Nat} (hr:w.heap[r]? = some (.deferred (some []))):∀b k,j b=some k→(m.get b).isSome=true→k.c≠r:=by
 intro b k hb hl he;cases hg:m.get b with
 | none=>rw[hg] at hl; cases hl
 | some o =>
  obtain⟨o',h1,h2⟩:=h.obj b o k hg hb;rw[he,hr] at h1;cases h1;cases o<;>exact h2.elim
theorem Marks.tL {E:Env} {j j':aL} {m m':AMem} {w w':World} (h:MR E j m w) (s:Sim E j m w j' m' w') {N:Nat} {ds:List Deferred} (hm:Marks N w ds):Marks N w' ds:=by
 obtain⟨rs,h1,h2,h3⟩:=hm;refine⟨rs,h1,h2,fun r hr=>⟨(h3 r hr).1,?_⟩⟩;have hh:=(h3 r hr).2;rw[s.frame r (Array.getElem?_eq_some_iff.1 hh).1 fun b k hb hl he=>absurd he (pf h hh b k hb hl)];exact hh
def gU (E:Env) (j:aL) (m:AMem) (w:World) (N n:Nat) (e:AExit) (t:Tm) (m':AMem):Exit→Act→World→Prop:=fun e' a' w' =>
 e'=se e∧∃j',Sim E j m w j' m' w'∧TR n j' t a'.tmps∧Marks N w' a'.defers
def qA (E:Env) (cs:Nat→Program→Fence→(Exit→Act→World→Prop)→Act→World→Prop) (fr:Fr) (m:AMem) (r:Res):Prop :=
 ∃e t m',r = .code e t m'∧∀(j:aL) (w:World) (a:Act) (F:Fence) (N:Nat),MR E j m w→TR fr.n j fr.tmps a.tmps→gw j fr.round F→Marks N w a.defers→N≤w.heap.size →
  cs 0 E.P F (gU E j m w N fr.n e t m') a w
def eK (P:Program) (pr:Bool) (f:FuncId) (args:Array Value) (w:World) (R:Value→World→Prop):Prop :=
 ((callFunc f args).run P w = .ok (.enter f args) w∧CallsIn Fence.wide 0 P f args w (fun e w'=>∃v,e = .returned v∧R v w')) ∨
  (pr=true∧∃v w',(callFunc f args).run P w = .ok (.value v) w'∧R v w')
def fV (E:Env) (j:aL) (m:AMem) (w:World) (v:Value) (m':AMem):Value→World→Prop:=fun v' w'=>∃j',Sim E j m w j' m' w'∧VR j' v v'
def uC (E:Env) (f:FuncId) (args:List Value) (m:AMem) (r:Res):Prop :=
 ∃v m',r = .val v m'∧∀(j:aL) (w:World) (args':List Value),MR E j m w→LR j args args'→eK E.P (E.cu f).isSome f args'.toArray w (fV E j m w v m')
def sM (E:Env) (l:Nat) (args:List Value) (m:AMem) (r:Res):Prop :=
 ∃v m',r = .val v m'∧∀(j:aL) (w:World) (k:Blk) (args':List Value),MR E j m w→j l=some k→LR j args args' →
  ∃fn tmps assign body,(Instr.yield k.c args'.toArray).run E.P w = .ok (.round k.c fn tmps assign body) w ∧
   RoundIn Fence.wide 0 E.P k.c fn tmps assign body w (fun e w'=>∃v',e = .returned v'∧fV E j m w v m' v' w')
def jh (F:Fence) (n:Nat) (P:Program) (c:Code) (Q:Exit→Act→World→Prop) (a:Act) (w:World):Prop :=
 ∀(b:Frame) (k:List Item) (cs:List Frame),b.roundOf=F.round→F.fn b.fn→F.room (cs.length+1+n) →
  ∃e a' w',Q e a' w'∧ArrivesIn (Machine.fenced P F) P (lone (b.atR a (.code c::.inLoop c::k)) cs w) b k cs e a' w'
def ca (E:Env):Task→Res→Prop
 | .code c fr m,r=>qA E (fun n P F Q a w=>c.wpIn F n P Q a w) fr m r
 | .loop c fr m,r=>qA E (fun n P F Q a w=>jh F n P c Q a w) fr m r
 | .call f args m,r=>uC E f args m r
 | .round l args m,r=>sM E l args m r
structure EnvOk (E:Env):Prop where
 call:∀f fn c,E.P.funcs[f]? = some fn→fn.body=some c→∀args w,(callFunc f args).run E.P w = .ok (.enter f args) w
 mixed:E.P.follows .mixedOrders=true
 cu:∀f p,E.cu f=some p→∀args m v m',p.run args m=some (v,m')→∀(j:aL) (w:World) (args':List Value),MR E j m w→LR j args args'→eK E.P (E.cu f).isSome f args'.toArray w (fV E j m w v m')
theorem cC {F:Fence} (hF:gh F) {P:Program} {o:Oper} {a:Act} {w w':World} {v:Value} {next:Act→World→Prop} {Q:Exit→Act→World→Prop} (hd:∀c,o.op≠.defer c)
  (h:gN P (execOp a.eval o) v w w') (hn:next (a.put o.dst v) w'):o.wpIn F 0 P a w next Q:=by
 refine⟨fun f _=>hF.fn f,?_⟩;rw[Oper.semAt_eq _ _ _ hd];rcases h with h|⟨h,rfl⟩
 ·rw[h]; exact hn
 ·rw[h]; exact hn
section
variable {E : Env} {k : K}
theorem iq {t:Tm} {m:AMem} {o:Op} {r:Value × AMem} (h:dx E t m o=some r):∀c,o≠.defer c:=by
 intro c e; subst e; simp[dx] at h
def Does (P:Program) (s:Sem Next) (w:World) (G:Value→World→Prop):Prop :=
 (∃v w',gN P s v w w'∧G v w') ∨
 (∃f args,s.run P w = .ok (.enter f args) w∧CallsIn Fence.wide 0 P f args w (fun e w'=>∃v,e = .returned v∧G v w')) ∨
 (∃l fn tmps x y,s.run P w = .ok (.round l fn tmps x y) w∧RoundIn Fence.wide 0 P l fn tmps x y w (fun e w'=>∃v,e = .returned v∧G v w'))
theorem Does.wpIn {F:Fence} (hF:gh F) {P:Program} {o:Oper} (hd:∀c,o.op≠.defer c) {a:Act} {w:World} {G:Value→World→Prop} (h:Does P (execOp a.eval o) w G) {next:Act→World→Prop} {Q:Exit→Act→World→Prop}
  (hn:∀v' w',G v' w'→next (a.put o.dst v') w'):o.wpIn F 0 P a w next Q:=by
 rcases h with⟨v,w',h1,h2⟩|⟨f,args,h1,h2⟩|⟨l,fn,tmps,x,y,h1,h2⟩
 ·exact cC hF hd h1 (hn _ _ h2)
 ·refine⟨fun f _=>hF.fn f,?_⟩;rw[Oper.semAt_eq _ _ _ hd,h1];exact⟨hF.depth,CallsIn.mono (hF.calls h2) fun e' w' he=>by
   obtain⟨v',rfl,hq⟩:=he;exact hn v' w' hq⟩
 ·refine⟨fun f _=>hF.fn f,?_⟩;rw[Oper.semAt_eq _ _ _ hd,h1];exact⟨hF.depth,RoundIn.mono (hF.vr h2) fun e' w' he=>by
   obtain⟨v',rfl,hq⟩:=he;exact hn v' w' hq⟩
theorem Does.ends {P:Program} {s:Sem Next} {w:World} {G:Value→World→Prop} (h:Does P s w G):∃v w',G v w':=by
 rcases h with⟨v,w',_,h2⟩|⟨f,args,_,h2⟩|⟨l,fn,tmps,x,y,_,h2⟩
 ·exact⟨v,w',h2⟩
 ·obtain⟨e,w',fr,⟨v,_,hq⟩,_⟩:=h2.2 [] (gh.room (.inl rfl) _);exact⟨v,w',hq⟩
 ·obtain⟨e,w',⟨v,_,hq⟩,_⟩:=h2.2 default [] (gh.room (.inl rfl) _);exact⟨v,w',hq⟩
theorem iZ {t:Tm} {m:AMem} {o:Op} {r:Value × AMem} (h:cZ k E t m o=some r):∀c,o≠.defer c:=by
 intro c e; subst e; simp[cZ,dx] at h
theorem ij (hk:∀tk r,k tk=some r→ca E tk r) {j:aL} {m:AMem} {w:World} {t:Tm} {n:Nat} {a:Act} (h:MR E j m w) (ht:TR n j t a.tmps) {o:Oper} {v:Value} {m':AMem} (e:cZ k E t m o.op=some (v,m')) :
  Does E.P (execOp a.eval o) w (fV E j m w v m'):=by
 have hplain:dx E t m o.op=some (v,m')→Does E.P (execOp a.eval o) w (fV E j m w v m'):=by
  intro e;obtain⟨j',w',v',h1,h2,h3⟩:=tH h ht e;exact .inl ⟨v',w',h1,j',h2,h3⟩
 unfold cZ at e
 split at e
 ·rename_i c hop
  split at e
  ·rename_i f hc
   split at e
   ·rename_i g first captured args hf hargs
    split at e
    ·rename_i v0 m0 hcall;cases e;obtain⟨v1,m1,hr,hsim⟩:=hk _ _ hcall;cases hr;have hfv:=aK h ht hf;generalize hfe:a.eval f=fv at hfv;cases hfv with
     | func h1 h2 h3 h4 =>
     rename_i ys ds;have hl:LR j (first.toList++args++captured.toList) (ys.toList++(c.args.toList.map a.eval)++ds.toList) :=
      ((LR.dJ h1 h2).append (dR h ht hargs)).append (LR.dJ h3 h4)
     have hcs:=hsim j w _ h hl;have harr:(ys.toList++(c.args.toList.map a.eval)++ds.toList).toArray=ys++c.args.map a.eval++ds:=by apply Array.toList_inj.1; simp
     rw[harr] at hcs;have hexec:execOp a.eval o=(do let d ←resolve a.eval c o.type; invoke d.target d.args):=by simp only[execOp,hop]
     have hrun:(execOp a.eval o).run E.P w=(callFunc g (ys++c.args.map a.eval++ds)).run E.P w:=by
      rw[hexec];simp only[resolve,hc,hfe,Deferred.ofValue,Sem.run_bind,Sem.run_pure,Result.andThen_ok,invoke]
     rcases hcs with⟨hr,hci⟩|⟨_,v',w',hr,hq⟩
     ·exact .inr (.inl ⟨_,_,hrun.trans hr,hci⟩)
     ·exact .inl ⟨v',w',.inl (hrun.trans hr),hq⟩
    ·cases e
   ·rename_i l first cap args hf hargs
    split at e
    ·rename_i v0 m0 hcall;cases e;obtain⟨v1,m1,hr,hsim⟩:=hk _ _ hcall;cases hr;have hfv:=aK h ht hf;generalize hfe:a.eval f=fv at hfv;cases hfv with
     | yield hj h1 h2 =>
     rename_i kb ys ds;have hl:LR j (first.toList++args) (ys.toList++(c.args.toList.map a.eval)):=(LR.dJ h1 h2).append (dR h ht hargs)
     obtain⟨fn,tmps,assign,body,hy,hro⟩:=hsim j w kb _ h hj hl;have harr:(ys.toList++(c.args.toList.map a.eval)).toArray=ys++c.args.map a.eval:=by apply Array.toList_inj.1; simp
     rw[harr] at hy;have hexec:execOp a.eval o=(do let d ←resolve a.eval c o.type; invoke d.target d.args):=by simp only[execOp,hop]
     have hrun:(execOp a.eval o).run E.P w = .ok (.round kb.c fn tmps assign body) w:=by
      rw[hexec];simp only[resolve,hc,hfe,Deferred.ofValue,Sem.run_bind,Sem.run_pure,Result.andThen_ok,invoke,hy]
     exact .inr (.inr ⟨_,_,_,_,_,hrun,hro⟩)
    ·cases e
   ·cases e
  ·exact hplain e
 ·exact hplain e
theorem rF (hk:∀tk r,k tk=some r→ca E tk r) {j:aL} {m:AMem} {w:World} {t:Tm} {n:Nat} {a:Act} (h:MR E j m w) (ht:TR n j t a.tmps) {o:Oper} {v:Value} {m':AMem} (e:cZ k E t m o.op=some (v,m'))
  {F:Fence} (hF:gh F) {next:Act→World→Prop} {Q:Exit→Act→World→Prop} (hn:∀v' w',fV E j m w v m' v' w'→next (a.put o.dst v') w'):o.wpIn F 0 E.P a w next Q :=
 (ij hk h ht e).wpIn hF (iZ e) hn
theorem TR.put {n:Nat} {j:aL} {t t':Tm} {a:Act} {dst:Option Tmp} {v v':Value} (h:TR n j t a.tmps) (hv:VR j v v') (hp:fM n t dst v=some t'):TR n j t' (a.put dst v').tmps:=by
 unfold fM at hp
 split at hp
 ·rename_i d
  split at hp
  ·rename_i hlt;cases hp;have hlt':d<n:=by simpa using hlt
   refine⟨by simp[Act.put,h.1],fun i=>?_⟩
   simp only[Act.put,Tm.at,Trie.bB]
   by_cases hi:i=d
   ·subst hi;simp only;have:i<a.tmps.size:=by rw[h.1]; exact hlt'
    simp[this,hv]
   ·simp only[if_neg hi];have:=h.2 i;simp only[Tm.at] at this
    simpa [Array.getElem?_setIfInBounds_ne (Ne.symm hi)] using this
  ·cases hp
 ·cases hp; exact h
theorem rh {n:Nat} {j:aL} {t:Tm} {a:Act} (h:TR n j t a.tmps) (ops:Array Oper) (o:Oper):Region.wanted o (yielded ops a.tmps)=bK ops o t:=by
 unfold Region.wanted bK;cases hgd:o.guard with
 | none=>rfl
 | some p =>
  obtain⟨g,want⟩:=p;simp only;have key:yielded ops a.tmps g=dB ops t g:=by
   unfold yielded dB;cases hd:(ops[g]?).bind (·.dst) with
   | none=>rfl
   | some d =>
    simp only[Option.bind_some];have hv:=h.2 d;unfold Tm.at at hv;cases hg:t.get d with
    | none =>
     rw[hg] at hv;simp only[Option.getD_none] at hv;have:a.tmps[d]? = none∨a.tmps[d]? = some undef:=by
      cases ha:a.tmps[d]? with
      | none=>exact .inl rfl
      | some x =>
       right
       have:a.tmps.getD d undef=x:=by simp[ha]
       rw[this] at hv;have:x=undef:=eb (by rfl) hv
       rw[this]
     rcases this with e|e<;>rw[e]<;>rfl
    | some x =>
     rw[hg] at hv;simp only[Option.getD_some] at hv;cases ha:a.tmps[d]? with
     | none =>
      have:a.tmps.getD d undef=undef:=by simp[ha]
      rw[this] at hv;cases x<;>first|rfl|cases hv
     | some y =>
      have:a.tmps.getD d undef=y:=by simp[ha]
      rw[this] at hv;cases hv with
      | junk hj=>cases y<;>first|rfl | (simp[pg,aP] at hj)
      | _=>rfl
  rw[key];cases dB ops t g with
  | none=>rfl
  | some b=>simp
theorem gy (hk:∀tk r,k tk=some r→ca E tk r) {ops:Array Oper} {n:Nat} {F:Fence} (hF:gh F) {Q:Exit→Act→World→Prop} {m0:AMem} {w0:World} {j0:aL} (h0:MR E j0 m0 w0) {tf:Tm} {mf:AMem}
  (ds:List Deferred) (hQ:∀j' w' a',Sim E j0 m0 w0 j' mf w'→TR n j' tf a'.tmps→a'.defers=ds→Q .normal a' w') :
  ∀(os:List Oper) (i:Nat) (t:Tm) (m:AMem) (j:aL) (w:World) (a:Act),ops.toList.drop i=os→fh k E n ops os t m=some (tf,mf)→Sim E j0 m0 w0 j m w→TR n j t a.tmps→a.defers=ds →
   wpOpsIn F 0 E.P ops Q (List.range' i (ops.size-i)) a w
 | [],i,t,m,j,w,a,hd,hr,s,ht,hds=>by
  cases hr;have hlen:ops.size≤i:=by
   have:=congrArg List.length hd;simp at this; omega
  rw[show ops.size-i=0 by omega]
  exact hQ j w a s ht hds
 | o::os,i,t,m,j,w,a,hd,hr,s,ht,hds=>by
  have hlt:i<ops.size:=by
   have:=congrArg List.length hd;simp at this; omega
  have ho:ops[i]? = some o:=by
   have:=congrArg (·[0]?) hd
   simpa [List.getElem?_drop] using this
  have hd':ops.toList.drop (i+1)=os:=by
   rw[←List.drop_drop,hd]; rfl
  have hidx:List.range' i (ops.size-i)=i::List.range' (i+1) (ops.size-(i+1)):=by
   rw[show ops.size-i=(ops.size-(i+1))+1 by omega]; rfl
  rw[hidx];simp only[wpOpsIn,ho,rh ht];simp only[fh] at hr
  split at hr
  ·rename_i hw;rw[if_pos hw]
   split at hr
   ·rename_i v m' he
    split at hr
    ·rename_i t' hp;refine rF hk s.mr ht he hF ?_;rintro v' w' ⟨j',s',hv⟩;exact gy hk hF h0 ds hQ os (i+1) t' m' j' w' _ hd' hr (s.trans h0 s') ((ht.mono s'.le).put hv hp) (by cases hds':o.dst<;>simp[Act.put,hds])
    ·cases hr
   ·cases hr
  ·rename_i hw;rw[if_neg hw]
   split at hr
   ·rename_i t' hp;exact⟨fun f _=>hF.fn f,gy hk hF h0 ds hQ os (i+1) t' m j w _ hd' hr s (ht.put (VR.undef j) hp) (by cases hds':o.dst<;>simp[Act.put,hds])⟩
   ·cases hr
end
def mJ (k:K) (E:Env) (n:Nat) (ops:Array Oper) (i:Nat) (t:Tm) (m:AMem) (v:Value) (t':Tm) (m':AMem) (note:Note):Prop :=
 ∃o,ops[i]? = some o∧fM n t o.dst v=some t' ∧
  ((bK ops o t=true∧∃r,cZ k E t { m with wl:=m.next} o.op=some (v,r)∧m' = { r with wl:=min m.wl r.wl}∧note = { read:=aS E t o.op,wl:=r.wl,next:=m.next,wrote:=dq E t o.op,kept:=eZ m r}) ∨
   (bK ops o t=false∧v=undef∧m'=m∧note = { read:=none,wl:=m.next,next:=m.next,wrote:=none,kept:=fun _=>false}))
structure Tr (k:K) (E:Env) (n:Nat) (ops:Array Oper) (i L:Nat) (T:Nat→Tm) (M:Nat→AMem) (V:Nat→Value) (ns:List Note):Prop where
 len:ns.length=L
 step:∀x,x<L→∃note,ns[x]? = some note∧mJ k E n ops (i+x) (T x) (M x) (V x) (T (x+1)) (M (x+1)) note
def tW {α:Type} (a:α) (f:Nat→α):Nat→α
 | 0=>a
 | x+1=>f x
theorem oc {k:K} {E:Env} {n:Nat} {ops:Array Oper}:∀(os:List Oper) (i:Nat) (t:Tm) (m:AMem) (tf:Tm) (mf:AMem) (ns:List Note),ops.toList.drop i=os→cM k E n ops os t m=some (tf,mf,ns) →
  ∃T M V,Tr k E n ops i os.length T M V ns∧T 0=t∧M 0=m∧T os.length=tf∧M os.length=mf
 | [],i,t,m,tf,mf,ns,_,h=>by
  cases h;exact⟨fun _=>t,fun _=>m,fun _=>undef,⟨rfl,fun x hx=>absurd hx (Nat.not_lt_zero _)⟩,rfl,rfl,rfl,rfl⟩
 | o::os,i,t,m,tf,mf,ns,hd,h=>by
  have ho:ops[i]? = some o:=by
   have:=congrArg (·[0]?) hd
   simpa [List.getElem?_drop] using this
  have hd':ops.toList.drop (i+1)=os:=by rw[←List.drop_drop,hd]; rfl
  have cons:∀(v:Value) (t1:Tm) (m1:AMem) (note:Note) (ns':List Note),mJ k E n ops i t m v t1 m1 note→cM k E n ops os t1 m1=some (tf,mf,ns')→ns=note::ns' →
    ∃T M V,Tr k E n ops i (os.length+1) T M V ns∧T 0=t∧M 0=m∧T (os.length+1)=tf∧M (os.length+1)=mf:=by
   intro v t1 m1 note ns' hst hr hns;obtain⟨T,M,V,htr,h1,h2,h3,h4⟩:=oc os (i+1) t1 m1 tf mf ns' hd' hr;refine⟨tW t T,tW m M,tW v V,⟨by rw[hns]; simp[htr.len],fun x hx=>?_⟩,rfl,rfl,h3,h4⟩
   cases x with
   | zero =>
    refine⟨note,by rw[hns]; rfl,?_⟩
    show mJ k E n ops i t m v (T 0) (M 0) note
    rw[h1,h2]; exact hst
   | succ x =>
    obtain⟨nt,h5,h6⟩:=htr.step x (by omega)
    refine⟨nt,by rw[hns]; simpa using h5,?_⟩
    show mJ k E n ops (i+(x+1)) (T x) (M x) (V x) (T (x+1)) (M (x+1)) nt
    rw[show i+(x+1)=i+1+x by omega]; exact h6
  simp only[cM] at h
  split at h
  ·rename_i hw
   split at h
   ·rename_i v r he
    split at h
    ·rename_i t1 hp
     split at h
     ·rename_i t' m'' ns' hr;cases h;exact cons v t1 _ _ ns' ⟨o,ho,hp,.inl ⟨hw,r,he,rfl,rfl⟩⟩ hr rfl
     ·cases h
    ·cases h
   ·cases h
  ·rename_i hw
   split at h
   ·rename_i t1 hp
    split at h
    ·rename_i t' m'' ns' hr;cases h;exact cons undef t1 m _ ns' ⟨o,ho,hp,.inr ⟨by simpa using hw,rfl,rfl,rfl⟩⟩ hr rfl
    ·cases h
   ·cases h
theorem Sim.xZ {E:Env} {j j':aL} {m r:AMem} {w w':World} (s:Sim E j { m with wl:=m.next} w j' r w'):Sim E j m w j' { r with wl:=min m.wl r.wl} w' where
 ext:=⟨s.ext.next,Nat.min_le_left _ _,fun b hb hw=>s.ext.same b hb (Nat.lt_of_lt_of_le hw (Nat.min_le_right _ _)),s.ext.dead⟩
 le:=s.le
 new:=s.new
 mr:=s.mr.mg
 size:=s.size
 full:=s.full
 away:=s.away
 fresh:=fun b k h h'=>(s.fresh b k h h').imp id fun⟨b0,k0,a1,a2,a3,a4⟩=>⟨b0,k0,a1,a2,a3,Nat.le_trans (Nat.min_le_right _ _) a4⟩
 frame:=fun c hc H=>s.frame c hc fun b k hb hl he=>Nat.lt_of_lt_of_le (H b k hb hl he) (Nat.min_le_right _ _)
 calm:=s.calm
def aL.below (j:aL) (x:Nat):aL:=fun b=>if b<x then j b else none
theorem aL.bt {j:aL} {x b:Nat} {k:Blk}:j.below x b=some k↔b<x∧j b=some k:=by
 unfold aL.below
 split
 ·rename_i h; simp[h]
 ·rename_i h; simp[h]
theorem VR.cut {j jc:aL} {x:Nat} (hc:∀b k,jc b=some k→b<x):∀{v v':Value},VR j v v'→∀{u:Value},VR jc v u→VR (j.below x) v v':=by
 intro v v' h
 induction h with
 | junk h=>intro u _; exact .junk h
 | bool b=>intro u _; exact .bool b
 | int k n=>intro u _; exact .int k n
 | string s=>intro u _; exact .string s
 | pnil=>intro u _; exact .pnil
 | ptr h=>intro u hu; cases hu with
  | ptr h'=>exact .ptr (aL.bt.2 ⟨hc _ _ h',h⟩)
 | snil l c=>intro u _; exact .snil l c
 | slice h hm=>intro u hu; cases hu with
  | slice h' _=>exact .slice (aL.bt.2 ⟨hc _ _ h',h⟩) hm
  | sliceM h' _ _ _ _ _=>exact .slice (aL.bt.2 ⟨hc _ _ h',h⟩) hm
 | sliceM h hm h1 h2 hl hcap=>intro u hu; cases hu with
  | slice h' _=>exact .sliceM (aL.bt.2 ⟨hc _ _ h',h⟩) hm h1 h2 hl hcap
  | sliceM h' _ _ _ _ _=>exact .sliceM (aL.bt.2 ⟨hc _ _ h',h⟩) hm h1 h2 hl hcap
 | fF=>intro u _; exact .fF
 | dry=>intro u _; exact .dry
 | mnil=>intro u _; exact .mnil
 | map h=>intro u hu; cases hu with
  | map h'=>exact .map (aL.bt.2 ⟨hc _ _ h',h⟩)
 | func h1 _ h3 _ ih2 ih4=>intro u hu; cases hu with
  | func g1 g2 g3 g4=>exact .func h1 (fun i a b=>ih2 i a b (g2 i a (g1 ▸ a))) h3 (fun i a b=>ih4 i a b (g4 i a (g3 ▸ a)))
 | yield h h1 _ ih2=>intro u hu; cases hu with
  | yield g g1 g2=>exact .yield (aL.bt.2 ⟨hc _ _ g,h⟩) h1 (fun i a b=>ih2 i a b (g2 i a (g1 ▸ a)))
 | nilFunc=>intro u _; exact .nilFunc
 | nilIface=>intro u _; exact .nilIface
 | agg h1 _ ih=>intro u hu; cases hu with
  | agg g1 g2=>exact .agg h1 (fun i a b=>ih i a b (g2 i a (g1 ▸ a)))
 | tuple h1 _ ih=>intro u hu; cases hu with
  | tuple g1 g2=>exact .tuple h1 (fun i a b=>ih i a b (g2 i a (g1 ▸ a)))
theorem ER.cut {j jc:aL} {x:Nat} (hc:∀b k,jc b=some k→b<x):∀{es:List (Value × Value)} {fs gs:List MapEntry},ER j es fs→ER jc es gs→ER (j.below x) es fs
 | [],[],_,_,_=>trivial
 | _::_,_::_,_::_,h,g=>⟨h.1.cut hc g.1,h.2.1.cut hc g.2.1,ER.cut hc h.2.2 g.2.2⟩
 | [],_::_,_,h,_=>h.elim
 | _::_,[],_,h,_=>h.elim
 | _::_,_::_,[],_,g=>g.elim
theorem OR.cut {j jc:aL} {x:Nat} (hc:∀b k,jc b=some k→b<x) {k k':Blk} {o:AObj} {o1 o2:Obj} (h:OR j k o o1) (g:OR jc k' o o2):OR (j.below x) k o o1:=by
 cases o with
 | cells cs tag =>
  cases o1 with
  | cells c e fz =>
   cases o2 with
   | cells c2 e2 fz2 =>
    refine⟨h.1,fun i v hi=>?_⟩;obtain⟨v',a,b⟩:=h.2 i v hi;obtain⟨u,_,b2⟩:=g.2 i v hi;exact⟨v',a,b.cut hc b2⟩
   | _=>exact g.elim
  | _=>exact h.elim
 | map es =>
  cases o1 with
  | map c e =>
   cases o2 with
   | map c2 e2=>exact⟨ER.cut hc h.1 g.1,h.2⟩
   | _=>exact g.elim
  | _=>exact h.elim
 | loop r =>
  cases o1 with
  | loop r1 =>
   cases o2 with
   | loop r2 =>
    refine⟨h.1,h.2.1,h.2.2.1,h.2.2.2.1,h.2.2.2.2.1,h.2.2.2.2.2.1,fun i=>?_⟩;exact(h.2.2.2.2.2.2 i).cut hc (g.2.2.2.2.2.2 i)
   | _=>exact g.elim
  | _=>exact h.elim
theorem dC {E:Env} {t t':Tm}:∀{xs:List Operand},(∀x ∈ xs,av E t x=av E t' x)→bz E t xs=bz E t' xs
 | [],_=>rfl
 | x::xs,h=>by
  simp only[bz];rw[h x (by simp),dC fun y hy=>h y (by simp[hy])]
theorem eF {E:Env} {t t':Tm}:∀{xs:List (Nat × Operand)},(∀x ∈ xs,av E t x.2=av E t' x.2)→da E t xs=da E t' xs
 | [],_=>rfl
 | (i,x)::xs,h=>by
  simp only[da];rw[h (i,x) (by simp),eF fun y hy=>h y (by simp[hy])]
theorem ga {E:Env} {t t':Tm} {x:Option Operand} (h:∀y,x=some y→av E t y=av E t' y):cX E t x=cX E t' x:=by
 cases x with
 | none=>rfl
 | some y=>simp only[cX,h y rfl]
theorem jK {E:Env} {t t':Tm} {m:AMem} {o:Op} (h:∀x ∈ o.operands.toList,av E t x=av E t' x):dx E t m o=dx E t' m o:=by
 cases o<;>simp only[Op.operands] at h<;>simp only[dx]
 case build ty ps=>rw[eF fun x hx=>h x.2 (by simp; exact⟨x.1,by simpa using hx⟩)]
 case buildSlice ty n ps=>rw[eF fun x hx=>h x.2 (by simp; exact⟨x.1,by simpa using hx⟩)]
 case makeFunc fn first captured =>
  cases fn<;>simp only;rw[dC (xs:=first.toList) fun x hx=>h x (by simp at hx ⊢; exact .inl hx),dC (xs:=captured.toList) fun x hx=>h x (by simp at hx ⊢; exact .inr hx)]
 case makeMap ty r=>cases r<;>rfl
 case slice ty x lo hi mx =>
  rw[h x (by simp),ga (x:=lo) fun y hy=>h y (by simp[hy]),ga (x:=hi) fun y hy=>h y (by simp[hy]),ga (x:=mx) fun y hy=>h y (by simp[hy])]
 case call c =>
  cases hc:c.callee<;>simp only;rw[dC (xs:=c.args.toList) fun x hx=>h x (by simp[Call.operands,hc]; simpa using hx)]
 all_goals first|rfl | (simp_all; done)
theorem oz {k:K} {E:Env} {t t':Tm} {m:AMem} {o:Op} (h:∀x ∈ o.operands.toList,av E t x=av E t' x):cZ k E t m o=cZ k E t' m o:=by
 have hop:=jK (m:=m) h;unfold cZ;cases o with
 | call c =>
  simp only;cases hc:c.callee with
  | value f =>
   simp only;rw[h f (by simp[Op.operands,Call.operands,hc]),dC (xs:=c.args.toList) fun x hx=>h x (by simp[Op.operands,Call.operands,hc]; exact .inr (by simpa using hx))]
  | _=>exact hop
 | _=>exact hop
def j7 (t:Tm):List Tmp→Tm
 | []=>.nil
 | d::ds=>(j7 t ds).set d (t.at d)
theorem gX (t:Tm):∀(S:List Tmp) (d:Nat),(j7 t S).at d=if d ∈ S then t.at d else undef
 | [],d=>by simp[j7,Tm.at,Trie.get_nil]
 | x::S,d=>by
  have ih:=gX t S d;simp only[Tm.at] at ih;simp only[j7,Tm.at,Trie.bB]
  by_cases h:d=x
  ·simp[h]
  ·simp only[List.mem_cons,h,false_or]; exact ih
def gI (tm:Array Value) (S:List Tmp):Array Value:=(Array.range tm.size).map fun d=>if d ∈ S then tm.getD d undef else undef
theorem gk (tm:Array Value) (S:List Tmp) (d:Nat):(gI tm S).getD d undef=if d ∈ S then tm.getD d undef else undef:=by
 unfold gI
 by_cases h:d<tm.size
 ·simp[h]
 ·have:tm.getD d undef=undef:=by simp[h]
  simp[h]
theorem ff:∀{l:List Operand} {d:Tmp},d ∈ tmpsOf l↔Operand.tmp d ∈ l
 | [],d=>by simp[tmpsOf]
 | x::l,d=>by
  have ih:=ff (l:=l) (d:=d);cases x<;>simp[tmpsOf,ih]
theorem oY {k:K} {E:Env} (hk:∀tk r,k tk=some r→ca E tk r) {j:aL} {m:AMem} {w:World} {t:Tm} {a:Act} (h:MR E j m w) {o:Oper} (ht:∀d ∈ tmpsOf o.op.operands.toList,VR j (t.at d) (a.tmps.getD d undef)) {v:Value} {m':AMem}
  (e:cZ k E t m o.op=some (v,m')):Does E.P (execOp a.eval o) w (fV E j m w v m'):=by
 have hT:TR (gI a.tmps (tmpsOf o.op.operands.toList)).size j (j7 t (tmpsOf o.op.operands.toList)) ({ tmps:=gI a.tmps (tmpsOf o.op.operands.toList),defers:=a.defers}:Act).tmps:=by
  refine⟨rfl,fun d=>?_⟩
  show VR j _ ((gI a.tmps _).getD d undef)
  rw[gX,gk]
  split
  ·rename_i hd; exact ht d hd
  ·exact VR.undef j
 have hev:∀x ∈ o.op.operands.toList,av E (j7 t (tmpsOf o.op.operands.toList)) x=av E t x:=by
  intro x hx;cases x with
  | tmp d=>simp only[av,gX,if_pos (ff.2 hx)]
  | _=>rfl
 have hd:=ij hk h hT (o:=o) (v:=v) (m':=m') ((oz hev).trans e);have hex:execOp ({ tmps:=gI a.tmps (tmpsOf o.op.operands.toList),defers:=a.defers}:Act).eval o=execOp a.eval o:=by
  refine execOp_congr o (fun cs b hs=>?_) fun x hx=>?_
  ·rw[hs] at e; simp[cZ,dx] at e
  ·cases x with
   | tmp d =>
    show(gI a.tmps _).getD d undef=a.tmps.getD d undef
    rw[gk,if_pos (ff.2 (by simpa using hx))]
   | _=>rfl
 rw[hex] at hd;exact hd
end Go.Ab
end
