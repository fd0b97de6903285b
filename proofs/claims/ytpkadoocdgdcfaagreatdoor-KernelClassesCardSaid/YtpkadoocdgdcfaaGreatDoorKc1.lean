/- A part of the proof. -/
import Derived.RangeFuncRecord
import Derived.RangeFuncLeaves
import Derived.Laws.Cells
import Derived.Laws.Entries
import Derived.Laws.StructEq
import Derived.IntWalk
import Derived.OrdersIn
import Derived.LeavingIn
set_option linter.all false
section
namespace Go.Ab
open Go
structure F8 (α:Type) where
 a:α
 b:α
 c:α
 d:α
 e:α
 f:α
 g:α
 h:α
def F8.all {α:Type} (x:α):F8 α:=⟨x,x,x,x,x,x,x,x⟩
def F8.D3 {α:Type} (x:F8 α) (i:Nat):α :=
 match i with
 | 0=>x.a
 | 1=>x.b
 | 2=>x.c
 | 3=>x.d
 | 4=>x.e
 | 5=>x.f
 | 6=>x.g
 | _=>x.h
def F8.put {α:Type} (x:F8 α) (i:Nat) (v:α):F8 α :=
 match i with
 | 0=>{ x with a:=v}
 | 1=>{ x with b:=v}
 | 2=>{ x with c:=v}
 | 3=>{ x with d:=v}
 | 4=>{ x with e:=v}
 | 5=>{ x with f:=v}
 | 6=>{ x with g:=v}
 | _=>{ x with h:=v}
theorem F8.yE {α:Type} (x:F8 α) (i j:Nat) (v:α) (hi:i<8) (hj:j<8):(x.put i v).D3 j=if j=i then v else x.D3 j:=by
 have h1:i=0∨i=1∨i=2∨i=3∨i=4∨i=5∨i=6∨i=7:=by omega
 have h2:j=0∨j=1∨j=2∨j=3∨j=4∨j=5∨j=6∨j=7:=by omega
 rcases h1 with rfl|rfl|rfl|rfl|rfl|rfl|rfl|rfl<;>rcases h2 with rfl|rfl|rfl|rfl|rfl|rfl|rfl|rfl<;>rfl
theorem F8.o6 {α:Type} (x:α) (i:Nat):(F8.all x).D3 i=x:=by
 unfold F8.D3 F8.all; split<;>rfl
def F8.getM {M β:Type} (sz:Nat) (g:M→Nat→β) (x:F8 M) (i:Nat):β:=g (x.D3 (i/sz)) (i%sz)
def F8.An {M β:Type} (sz:Nat) (s:M→Nat→β→M) (x:F8 M) (i:Nat) (v:β):F8 M:=x.put (i/sz) (s (x.D3 (i/sz)) (i%sz) v)
theorem F8.kU {M β:Type} {sz:Nat} {g:M→Nat→β} {s:M→Nat→β→M} (hsz:0<sz) (hl:∀m i j v,i<sz→j<sz→g (s m i v) j=if j=i then v else g m j) (x:F8 M) (i j:Nat) (v:β) (hi:i<8*sz) (hj:j<8*sz) :
  F8.getM sz g (F8.An sz s x i v) j=if j=i then v else F8.getM sz g x j:=by
 have h1:i/sz<8:=(Nat.div_lt_iff_lt_mul hsz).2 hi;have h2:j/sz<8:=(Nat.div_lt_iff_lt_mul hsz).2 hj;unfold F8.getM F8.An;rw[F8.yE _ _ _ _ h1 h2];have e1:=Nat.div_add_mod i sz;have e2:=Nat.div_add_mod j sz
 by_cases h:j/sz=i/sz
 ·rw[if_pos h,hl _ _ _ _ (Nat.mod_lt _ hsz) (Nat.mod_lt _ hsz)]
  by_cases h':j%sz=i%sz
  ·have:j=i:=by rw[←e1,←e2,h,h']
   rw[if_pos h',if_pos this]
  ·have:j≠i:=fun e=>h' (by rw[e])
   rw[if_neg h',if_neg this,h]
 ·have:j≠i:=fun e=>h (by rw[e])
  rw[if_neg h,if_neg this]
abbrev IK (α:Type):=F8 (F8 α)
abbrev wT (α:Type):=F8 (IK α)
abbrev rF (α:Type):=F8 (wT α)
abbrev nO (α:Type):=F8 (rF α)
def uH {α:Type}:IK α→Nat→α:=F8.getM 8 F8.D3
def nJ {α:Type}:wT α→Nat→α:=F8.getM 64 uH
def m9 {α:Type}:rF α→Nat→α:=F8.getM 512 nJ
def kr {α:Type}:nO α→Nat→α:=F8.getM 4096 m9
def Bo {α:Type}:IK α→Nat→α→IK α:=F8.An 8 F8.put
def ti {α:Type}:wT α→Nat→α→wT α:=F8.An 64 Bo
def tW {α:Type}:rF α→Nat→α→rF α:=F8.An 512 ti
def vA {α:Type}:nO α→Nat→α→nO α:=F8.An 4096 tW
theorem Ad {α:Type} (x:IK α) (i j:Nat) (v:α) (hi:i<64) (hj:j<64):uH (Bo x i v) j=if j=i then v else uH x j :=
 F8.kU (by omega) (fun m i j v hi hj=>F8.yE m i j v hi hj) x i j v (by omega) (by omega)
theorem p6 {α:Type} (x:wT α) (i j:Nat) (v:α) (hi:i<512) (hj:j<512):nJ (ti x i v) j=if j=i then v else nJ x j :=
 F8.kU (by omega) (fun m i j v hi hj=>Ad m i j v hi hj) x i j v (by omega) (by omega)
theorem vi {α:Type} (x:rF α) (i j:Nat) (v:α) (hi:i<4096) (hj:j<4096):m9 (tW x i v) j=if j=i then v else m9 x j :=
 F8.kU (by omega) (fun m i j v hi hj=>p6 m i j v hi hj) x i j v (by omega) (by omega)
theorem uc {α:Type} (x:nO α) (i j:Nat) (v:α) (hi:i<32768) (hj:j<32768):kr (vA x i v) j=if j=i then v else kr x j :=
 F8.kU (by omega) (fun m i j v hi hj=>vi m i j v hi hj) x i j v (by omega) (by omega)
def By {α:Type} (x:α):IK α:=F8.all (F8.all x)
def tK {α:Type} (x:α):wT α:=F8.all (By x)
def tA {α:Type} (x:α):rF α:=F8.all (tK x)
def ql {α:Type} (x:α):nO α:=F8.all (tA x)
theorem AK {α:Type} (x:α) (i:Nat):uH (By x) i=x:=by simp[uH,By,F8.getM,F8.o6]
theorem pZ {α:Type} (x:α) (i:Nat):nJ (tK x) i=x:=by simp[nJ,tK,F8.getM,F8.o6,AK]
theorem vj {α:Type} (x:α) (i:Nat):m9 (tA x) i=x:=by simp[m9,tA,F8.getM,F8.o6,pZ]
theorem tZ {α:Type} (x:α) (i:Nat):kr (ql x) i=x:=by simp[kr,ql,F8.getM,F8.o6,vj]
def zv {α:Type}:List (Nat × α)→Nat→Option α
 | [],_=>none
 | (i,v)::l,j=>if j=i then some v else zv l j
structure Trie (α:Type) where
 lo:wT (Option α)
 hi:List (Nat × α)
def Trie.nil {α:Type}:Trie α:=⟨tK none,[]⟩
def Trie.get {α:Type} (t:Trie α) (n:Nat):Option α:=if n<512 then nJ t.lo n else zv t.hi n
def Trie.set {α:Type} (t:Trie α) (n:Nat) (v:α):Trie α:=if n<512 then { t with lo:=ti t.lo n (some v)} else { t with hi:=(n,v)::t.hi}
theorem Trie.get_nil {α:Type} (n:Nat):(Trie.nil:Trie α).get n=none:=by
 unfold Trie.get Trie.nil
 split
 ·exact pZ _ _
 ·rfl
theorem Trie.bO {α:Type} (t:Trie α) (n m:Nat) (v:α):(t.set n v).get m=if m=n then some v else t.get m:=by
 unfold Trie.set Trie.get
 by_cases h1:n<512<;>by_cases h2:m<512<;>simp only[h1,h2,if_true,if_false]
 ·rw[p6 _ _ _ _ h1 h2]
 ·rw[if_neg (by omega)]
 ·rw[if_neg (by omega)]
 ·rfl
structure Heap (α:Type) where
 lo:nO (Option α)
 hi:List (Nat × α)
def Heap.nil {α:Type}:Heap α:=⟨ql none,[]⟩
def Heap.get {α:Type} (t:Heap α) (n:Nat):Option α:=if n<32768 then kr t.lo n else zv t.hi n
def Heap.set {α:Type} (t:Heap α) (n:Nat) (v:α):Heap α:=if n<32768 then { t with lo:=vA t.lo n (some v)} else { t with hi:=(n,v)::t.hi}
theorem Heap.get_nil {α:Type} (n:Nat):(Heap.nil:Heap α).get n=none:=by
 unfold Heap.get Heap.nil
 split
 ·exact tZ _ _
 ·rfl
theorem Heap.bO {α:Type} (t:Heap α) (n m:Nat) (v:α):(t.set n v).get m=if m=n then some v else t.get m:=by
 unfold Heap.set Heap.get
 by_cases h1:n<32768<;>by_cases h2:m<32768<;>simp only[h1,h2,if_true,if_false]
 ·rw[uc _ _ _ _ h1 h2]
 ·rw[if_neg (by omega)]
 ·rw[if_neg (by omega)]
 ·rfl
def Trie.ofList {α:Type}:List α→Nat→Trie α→Trie α
 | [],_,t=>t
 | v::vs,i,t=>Trie.ofList vs (i+1) (t.set i v)
abbrev Tm:=Trie Value
def Tm.at (t:Tm) (i:Nat):Value:=(Trie.get t i).getD undef
inductive Tag where
 | ro
 | own
 | more (sz:Nat)
 deriving DecidableEq
structure ALoop where
 state:LoopState
 pending:Option Code
 fn:FuncId
 tmps:Tm
 n:Nat
 params:Array Tmp
 assign:Code
 body:Code
inductive AObj where
 | cells (cs:List Value) (tag:Tag)
 | map (es:List (Value × Value))
 | loop (r:ALoop)
structure AMem where
 next:Nat
 wl:Nat
 bM:Heap (Option AObj)
 base:Nat→Option AObj
def AMem.get (m:AMem) (b:Nat):Option AObj :=
 match m.bM.get b with
 | some x=>x
 | none=>m.base b
def AMem.set (m:AMem) (b:Nat) (o:AObj):AMem:={ m with bM:=m.bM.set b (some o),wl:=min m.wl b}
def AMem.kill (m:AMem) (b:Nat):AMem:={ m with bM:=m.bM.set b none,wl:=min m.wl b}
def AMem.alloc (m:AMem) (o:AObj):AMem:={ m with next:=m.next+1,bM:=m.bM.set m.next (some o)}
def ptr (b:Nat) (o:Nat):Value:=.pointer (some ⟨b,o,none⟩)
def AMem.cells (m:AMem) (b:Nat):Option (List Value × Tag) :=
 match m.get b with
 | some (.cells cs tag)=>some (cs,tag)
 | _=>none
def AMem.dD (m:AMem) (b o n:Nat):Option (List Value) :=
 match m.get b with
 | some (.cells cs _)=>let l:=(cs.drop o).take n; if l.length=n then some l else none
 | _=>none
def aG:List Value→Nat→List Value→List Value
 | cs,0,[]=>cs
 | [],0,_=>[]
 | _::cs,0,v::vs=>v::aG cs 0 vs
 | [],_+1,_=>[]
 | c::cs,o+1,vs=>c::aG cs o vs
def AMem.dh (m:AMem) (b o:Nat) (vs:List Value):Option AMem :=
 match vs with
 | []=>some m
 | _=>match m.get b with
  | some (.cells _ .ro)=>none
  | some (.cells cs tag)=>if o+vs.length≤cs.length then some (m.set b (.cells (aG cs o vs) tag)) else none
  | _=>none
def lA:Value→Bool
 | .agg _ | .tuple _=>false
 | _=>true
def bf (vs:List Value):Bool:=vs.all lA
structure Prim where
 run:List Value→AMem→Option (Value × AMem)
structure Env where
 P:Program
 glob:Nat
 cR:FuncId→Option Prim
 mono:Prop:=True
def aL:Value→Bool
 | .bool _ | .int _ _ | .string _ | .pointer none | .slice none _ _ | .map none | .nilFunc | .nilIface=>true
 | _=>false
def bg:Value→Bool
 | .agg cs=>cs.toList.all aL
 | .tuple cs=>cs.toList.all aL
 | v=>aL v
def aq (E:Env) (t:Tm):Operand→Option Value
 | .tmp i=>some (t.at i)
 | .const v=>if bg v then some v else none
 | .global g=>if g<E.glob then some (ptr g 0) else none
 | .func f=>some (.func (.func f) #[] #[])
def bB (E:Env) (t:Tm):List Operand→Option (List Value)
 | []=>some []
 | x::xs=>match aq E t x,bB E t xs with
  | some v,some vs=>some (v::vs)
  | _,_=>none
def dI (P:Program) (t:TypeId):Bool :=
 match P.underlying t with
 | some (.struct _) | some (.array _ _)=>true
 | _=>false
def known (P:Program) (t:TypeId):Bool:=(P.underlying t).isSome && (P.info? t).isSome
def au (P:Program) (t:TypeId):Nat:=P.cellsOf t
def bI (P:Program) (t:TypeId):Option Value:=(P.info? t).bind (·.zero)
def eE (P:Program) (t:TypeId) (cs:Array Value) (off:Nat):Option Value :=
 if !known P t then none else
 if dI P t then some (.agg (cs.extract off (off+au P t)))
 else cs[off]?
def gF (eq:TypeId→Value→Value→Option Bool) (P:Program) (xs ys:Array Value):List (TypeId × Nat)→Option Bool
 | []=>some true
 | (t,off)::rest =>
  match eE P t xs off,eE P t ys off with
  | some x,some y=>match eq t x y with
   | some true=>gF eq P xs ys rest
   | r=>r
  | _,_=>none
def jv (P:Program):Nat→TypeId→Value→Value→Option Bool
 | 0,_,_,_=>none
 | d+1,t,x,y =>
  match P.underlying t,x,y with
  | some .bool,.bool a,.bool b=>some (a == b)
  | some (.int _),.int k a,.int k' b=>if k=k' then some (a == b) else none
  | some .string,.string a,.string b=>some (a == b)
  | some (.pointer _),.pointer none,.pointer b=>some b.isNone
  | some (.pointer _),.pointer (some _),.pointer none=>some false
  | some (.slice _),.slice none _ _,.slice b _ _=>some b.isNone
  | some (.slice _),.slice (some _) _ _,.slice none _ _=>some false
  | some (.map _ _),.map none,.map b=>some b.isNone
  | some (.map _ _),.map (some _),.map none=>some false
  | some (.func _ _ _),.nilFunc,.nilFunc=>some true
  | some (.func _ _ _),.nilFunc,.func _ _ _=>some false
  | some (.func _ _ _),.func _ _ _,.nilFunc=>some false
  | some (.struct fs),.agg xs,.agg ys =>
   if P.stoodInHeld t || fs.any (·.name == "_") then none else
   gF (jv P d) P xs ys (fs.toList.map fun f=>(f.type,f.offset))
  | some (.array len elem),.agg xs,.agg ys=>if known P elem then gF (jv P d) P xs ys ((List.range len).map fun i=>(elem,i*au P elem)) else none
  | _,_,_=>none
def bA (op:BinOp) (xType:TypeId) (P:Program) (x y:Value):Option Value :=
 match op,x,y with
 | .shl,.int k a,.int _ b=>if b<0 then none else some (.int k (k.wrap (a*2 ^ (min b.toNat k.bits))))
 | .shr,.int k a,.int _ b=>if b<0 then none else some (.int k (a.fdiv (2 ^ (min b.toNat k.bits))))
 | .eql,.int k a,.int k' b=>if k=k' then some (.bool (a == b)) else none
 | .neq,.int k a,.int k' b=>if k=k' then some (.bool (a != b)) else none
 | .lss,.int k a,.int k' b=>if k=k' then some (.bool (decide (a<b))) else none
 | .leq,.int k a,.int k' b=>if k=k' then some (.bool (decide (a≤b))) else none
 | .gtr,.int k a,.int k' b=>if k=k' then some (.bool (decide (a>b))) else none
 | .geq,.int k a,.int k' b=>if k=k' then some (.bool (decide (a≥b))) else none
 | .add,.int k a,.int k' b=>if k=k' then some (.int k (k.wrap (a+b))) else none
 | .sub,.int k a,.int k' b=>if k=k' then some (.int k (k.wrap (a-b))) else none
 | .mul,.int k a,.int k' b=>if k=k' then some (.int k (k.wrap (a*b))) else none
 | .quo,.int k a,.int k' b=>if k=k' then(if b=0 then none else some (.int k (k.wrap (a.tdiv b)))) else none
 | .rem,.int k a,.int k' b=>if k=k' then(if b=0 then none else some (.int k (a.tmod b))) else none
 | .and,.int k a,.int k' b=>if k=k' then some (.int k (k.wrap (BitVec.ofInt k.bits a &&& BitVec.ofInt k.bits b).toNat)) else none
 | .or,.int k a,.int k' b=>if k=k' then some (.int k (k.wrap (BitVec.ofInt k.bits a ||| BitVec.ofInt k.bits b).toNat)) else none
 | .xor,.int k a,.int k' b=>if k=k' then some (.int k (k.wrap (BitVec.ofInt k.bits a ^^^ BitVec.ofInt k.bits b).toNat)) else none
 | .andNot,.int k a,.int k' b=>if k=k' then some (.int k (k.wrap (BitVec.ofInt k.bits a &&& ~~~ BitVec.ofInt k.bits b).toNat)) else none
 | .eql,.string a,.string b=>some (.bool (a == b))
 | .neq,.string a,.string b=>some (.bool (a != b))
 | _,.string _,_=>none
 | .eql,.agg xs,.agg ys=>if P.eqGuardType P.depth xType then none else(jv P Op.maxDepth xType (.agg xs) (.agg ys)).map .bool
 | .neq,.agg xs,.agg ys=>if P.eqGuardType P.depth xType then none else(jv P Op.maxDepth xType (.agg xs) (.agg ys)).map fun b=>.bool (!b)
 | .eql,x,y=>match x with
  | .bool _ | .pointer _ | .slice _ _ _ | .map _ | .func _ _ _ | .nilFunc=>(jv P Op.maxDepth xType x y).map .bool
  | _=>none
 | .neq,x,y=>match x with
  | .bool _ | .pointer _ | .slice _ _ _ | .map _ | .func _ _ _ | .nilFunc=>(jv P Op.maxDepth xType x y).map fun b=>.bool (!b)
  | _=>none
 | _,_,_=>none
def xA (op:UnOp) (x:Value):Option Value :=
 match op,x with
 | .neg,.int k n=>some (.int k (k.wrap (0-n)))
 | .xor,.int k n=>some (.int k (k.wrap (BitVec.ofInt k.bits (if k.signed then -1 else k.max) ^^^ BitVec.ofInt k.bits n).toNat))
 | .not,.bool b=>some (.bool !b)
 | _,_=>none
def fg (P:Program) (src dst:TypeId) (x:Value):Option Value :=
 match P.underlying src,P.underlying dst,x with
 | some _,some (.int k),.int _ n=>some (.int k (k.wrap n))
 | some _,some .string,.string s=>some (.string s)
 | _,_,_=>none
def gz (place:Nat→Option (Nat × Nat)) (cells:List Value):List (Nat × Value)→Option (List Value)
 | []=>some cells
 | (i,v)::rest =>
  match place i with
  | none=>none
  | some (off,size) =>
   if v.cells.size≠size || off+v.cells.size>cells.length then none
   else gz place (aG cells off v.cells.toList) rest
def cZ (E:Env) (t:Tm):List (Nat × Operand)→Option (List (Nat × Value))
 | []=>some []
 | (i,x)::xs=>match aq E t x,cZ E t xs with
  | some v,some vs=>some ((i,v)::vs)
  | _,_=>none
def ju (P:Program) (t:TypeId) (parts:List (Nat × Value)):Option Value :=
 match bI P t,P.underlying t with
 | some z,some (.struct fields) =>
  if fields.toList.all (fun f=>known P f.type) then
   (gz (fun i=>(fields[i]?).map fun f=>(f.offset,au P f.type)) z.cells.toList parts).map fun cs=>.agg cs.toArray
  else none
 | some z,some (.array _ elem) =>
  if known P elem then(gz (fun i=>some (i*au P elem,au P elem)) z.cells.toList parts).map fun cs=>.agg cs.toArray else none
 | _,_=>none
def bW (zero:List Value):Nat→List Value
 | 0=>[]
 | n+1=>zero++bW zero n
def fi (P:Program) (elem:TypeId) (n:Nat):Option (List Value) :=
 match bI P elem with
 | some z=>if z.cells.size=au P elem then some (bW z.cells.toList n) else none
 | none=>none
def jB (x:Value) (y:Nat):Option Nat :=
 match x with
 | .int _ i=>if 0≤i∧i≤y then some i.toNat else none
 | _=>none
def eA (len cap:Nat) (low high max:Option Value):Option (Nat × Nat × Nat) :=
 match (match max with|some v=>jB v cap|none=>some cap) with
 | none=>none
 | some m =>
  match (match high,max with|some v,_=>jB v m|none,none=>some len|none,some _=>none) with
  | none=>none
  | some h =>
   match (match low with|some v=>jB v h|none=>some 0) with
   | none=>none
   | some l=>some (l,h,m)
def gq (b:Nat):Value:=.slice (some ⟨b,0,some 0⟩) 0 0
def dk (E:Env) (t:Tm):Option Operand→Option (Option Value)
 | none=>some none
 | some x=>(aq E t x).map some
def cz (P:Program) (xType:TypeId) (x:Value) (low high max:Option Value) (m:AMem):Option Value :=
 match P.underlying xType,x with
 | some (.slice elem),.slice none len cap =>
  if known P elem then
   match eA len cap low high max with
   | some (l,h,mx)=>some (.slice none (h-l) (mx-l))
   | none=>none
  else none
 | some (.slice elem),.slice (some ⟨b,o,none⟩) len cap =>
  if known P elem then
   match m.get b with
   | some (.cells _ (.more sz)) =>
    if sz≠au P elem then none else
    match max with
    | none=>match eA len cap low high none with
     | some (l,h,_)=>if cap=l then some (gq b) else some (.slice (some ⟨b,o+l*au P elem,none⟩) (h-l) (cap-l))
     | none=>none
    | some mv =>
     match eA len cap low high (some mv) with
     | some (l,h,mx)=>if mx=l∧h=l then some (.slice (some ⟨b,0,some 1⟩) 0 0) else some (.complex .f64 0 0)
     | none=>none
   | some (.cells _ _) =>
    match eA len cap low high max with
    | some (l,h,mx)=>some (.slice (some (if mx=l then⟨b,o,none⟩ else⟨b,o+l*au P elem,none⟩)) (h-l) (mx-l))
    | none=>none
   | _=>none
  else none
 | some (.slice elem),.slice (some ⟨b,_,some sp⟩) 0 0 =>
  if known P elem then
   match eA 0 0 low high max with
   | some _=>some (.slice (some ⟨b,0,some sp⟩) 0 0)
   | none=>none
  else none
 | some (.array n elem),.pointer (some ⟨b,o,none⟩) =>
  if known P elem then
   match m.get b with
   | some (.cells _ (.more _))=>none
   | some (.cells _ _) =>
    match eA n n low high max with
    | some (l,h,mx)=>some (.slice (some (if mx=l then⟨b,o,none⟩ else⟨b,o+l*au P elem,none⟩)) (h-l) (mx-l))
    | none=>none
   | _=>none
  else none
 | _,_=>none
def aR (P:Program) (s:TypeId) (x:Value) (f:Nat):Option Value :=
 match P.underlying s,x with
 | some (.struct fields),.pointer (some ⟨b,o,none⟩) =>
  match fields[f]? with
  | some fl=>if known P fl.type && au P fl.type != 0 then some (ptr b (o+fl.offset)) else none
  | none=>none
 | _,_=>none
def bG (P:Program) (t:TypeId) (x index:Value):Option Value :=
 match P.underlying t,x,index with
 | some (.array len elem),.pointer (some ⟨b,o,none⟩),.int _ i =>
  if known P elem && decide (0≤i∧i<len) then some (ptr b (o+i.toNat*au P elem)) else none
 | some (.slice elem),.slice (some ⟨b,o,none⟩) len _,.int _ i =>
  if known P elem && decide (0≤i∧i<len) then some (ptr b (o+i.toNat*au P elem)) else none
 | _,_,_=>none
def zo (P:Program) (t:TypeId) (x:Value):Option Value :=
 match P.underlying t,x with
 | some (.array n _),.slice (some ⟨b,o,none⟩) len _=>if n≤len then some (ptr b o) else none
 | _,_=>none
def fI (P:Program) (t:TypeId) (x index:Value):Option Value :=
 match P.underlying t,x,index with
 | some (.array len elem),.agg cs,.int _ i=>if 0≤i∧i<len then eE P elem cs (i.toNat*au P elem) else none
 | some .string,.string s,.int _ i=>if 0≤i then(s[i.toNat]?).map fun b=>.int .u8 b.toNat else none
 | _,_,_=>none
def eH (P:Program) (t:TypeId) (x:Value) (f:Nat):Option Value :=
 match P.underlying t,x with
 | some (.struct fields),.agg cs =>
  match fields[f]? with
  | some fl=>eE P fl.type cs fl.offset
  | none=>none
 | _,_=>none
def dx (P:Program) (t:TypeId) (a:Value) (m:AMem):Option Value :=
 match a with
 | .pointer (some ⟨b,o,none⟩) =>
  if !known P t then none else
  if dI P t then(m.dD b o (au P t)).map fun cs=>.agg cs.toArray
  else match m.get b with
   | some (.cells cs _)=>cs[o]?
   | _=>none
 | _=>none
def eY (P:Program) (t:TypeId) (a v:Value) (m:AMem):Option AMem :=
 match a with
 | .pointer (some ⟨b,o,none⟩) =>
  if known P t && v.cells.size == au P t && bf v.cells.toList then m.dh b o v.cells.toList else none
 | _=>none
def gA (P:Program) (keyType:TypeId) (k:Value):List (Value × Value)→Nat→Option (Option (Nat × Value))
 | [],_=>some none
 | e::es,i =>
  match jv P Op.maxDepth keyType k e.1 with
  | some true=>some (some (i,e.2))
  | some false=>gA P keyType k es (i+1)
  | none=>none
def fS (P:Program) (t:TypeId):Bool :=
 match P.underlying t with
 | some (.int _) | some .string|some .bool=>true
 | _=>false
def gW (P:Program) (t:TypeId) (v:Value):Bool :=
 match P.underlying t,v with
 | some (.int _),.int _ _|some .string,.string _|some .bool,.bool _=>true
 | some (.array len elem),.agg cs=>fS P elem && known P elem && au P elem == 1 && cs.size == len && cs.toList.all aL
 | some (.struct fs),.agg cs=>fs.toList.all (fun f=>fS P f.type && known P f.type && decide (f.offset<cs.size)) && cs.toList.all aL
 | _,_=>false
def mapOf (m:AMem) (x:Value):Option (List (Value × Value)) :=
 match x with
 | .map none=>some []
 | .map (some r)=>match m.get r with
  | some (.map es)=>some es
  | _=>none
 | _=>none
def da (P:Program) (xType:TypeId) (x index:Value) (commaOk:Bool) (m:AMem):Option Value :=
 match P.underlying xType with
 | some (.map key elem) =>
  match mapOf m x,bI P elem with
  | some es,some z =>
   if gW P key index then
    match gA P key index es 0 with
    | some (some (_,v))=>some (if commaOk then .tuple #[v,.bool true] else v)
    | some none=>if bg z then some (if commaOk then .tuple #[z,.bool false] else z) else none
    | none=>none
   else none
  | _,_=>none
 | _=>none
def jl:List (Value × Value)→Nat→Value→Value→List (Value × Value)
 | [],_,k,v=>[(k,v)]
 | _::es,0,k,v=>(k,v)::es
 | e::es,n+1,k,v=>e::jl es n k v
def gG (es:List (Value × Value)) (i:Nat) (key:Value):Bool :=
 match es[i]? with
 | some e=>bg e.1 && Instr.sameBits 10000 e.1 key
 | none=>false
def cy (P:Program) (mapType:TypeId) (x key value:Value) (m:AMem):Option AMem :=
 match P.underlying mapType,x with
 | some (.map kt _),.map (some r) =>
  match m.get r with
  | some (.map es) =>
   if gW P kt key then
    match gA P kt key es 0 with
    | some (some (i,_)) =>
     if gG es i key then some (m.set r (.map (jl es i key value))) else none
    | some none=>some (m.set r (.map (es++[(key,value)])))
    | none=>none
   else none
  | _=>none
 | _,_=>none
def oZ (P:Program) (mapType:TypeId) (x key:Value) (m:AMem):Option AMem :=
 match P.underlying mapType,x with
 | some (.map kt _),.map (some r) =>
  match m.get r with
  | some (.map es) =>
   if gW P kt key then
    match gA P kt key es 0 with
    | some (some (i,_))=>some (m.set r (.map (es.eraseIdx i)))
    | some none=>some m
    | none=>none
   else none
  | _=>none
 | _,_=>none
def bV (sz:Nat) (x:Value) (n:Nat) (m:AMem):Option (List Value) :=
 match x with
 | .slice none _ _=>if n=0 then some [] else none
 | .slice (some ⟨b,o,none⟩) _ _=>if n=0 then some [] else m.dD b o (n*sz)
 | .slice (some ⟨_,_,some _⟩) _ _=>if n=0 then some [] else none
 | _=>none
def fR (bytes need:Nat):Bool:=(2*need+2000)*bytes≤2 ^ 48
def hJ (P:Program) (elem:TypeId) (xType:Option TypeId) (x:Value) (m:AMem):Option (Nat × List Value) :=
 match xType.bind P.underlying,x with
 | some (.slice _),.slice a l c=>(bV (au P elem) (.slice a l c) l m).map fun cs=>(l,cs)
 | some (.int _),.int _ l=>if 0≤l∧l≤2 ^ 40 then(fi P elem l.toNat).bind fun zs=>if zs.all aL then some (l.toNat,zs) else none else none
 | _,_=>none
def dn (P:Program) (sType:TypeId) (xType:Option TypeId) (s x:Value) (m:AMem):Option (Value × AMem) :=
 match P.underlying sType,s,hJ P (match P.underlying sType with|some (.slice e)=>e|_=>0) xType x m with
 | some (.slice elem),.slice base len cap,some (n,new) =>
  let sz:=au P elem
  if !(known P elem) || sz == 0 || !bf new || !(P.info? elem).any (fun i=>fR i.bytes (len+n) && i.bytes != 0) || new.length != n*sz || !(bI P elem).any (fun z=>z.cells.size == sz && z.cells.toList.all aL) then none else
  match base with
  | none =>
   if len≠0∨cap≠0 then none else
   if n=0 then some (.slice none 0 0,m)
   else some (.slice (some ⟨m.next,0,none⟩) n n,m.alloc (.cells new (.more sz)))
  | some ⟨b,o,none⟩ =>
   match m.get b with
   | some (.cells cs tag) =>
    if len+n≤cap then
     (m.dh b (o+len*sz) new).map fun m'=>(.slice (some ⟨b,o,none⟩) (len+n) cap,m')
    else match tag with
     | .more sz' =>
      if sz'=sz∧o=0 then
       let old:=cs.take (len*sz)
       if old.length=len*sz then some (.slice (some ⟨m.next,0,none⟩) (len+n) (len+n),(m.kill b).alloc (.cells (old++new) (.more sz))) else none
      else none
     | _ =>
      match m.dD b o (len*sz) with
      | some old=>some (.slice (some ⟨m.next,0,none⟩) (len+n) (len+n),m.alloc (.cells (old++new) (.more sz)))
      | none=>none
   | _=>none
  | some ⟨b,_,some 1⟩ =>
   if len≠0∨cap≠0 then none else
   if n=0 then some (.slice (some ⟨b,0,some 1⟩) 0 0,m)
   else some (.slice (some ⟨m.next,0,none⟩) n n,m.alloc (.cells new (.more sz)))
  | _=>if len=0∧cap=0∧n=0 then some (s,m) else none
 | _,_,_=>none
def pY (P:Program) (dType:TypeId) (dst src:Value) (m:AMem):Option (Value × AMem) :=
 match P.underlying dType,dst,src with
 | some (.slice elem),.slice base dLen _,.slice _ sLen _ =>
  let n:=min sLen dLen
  if !(known P elem) then none else
  match bV (au P elem) src n m with
  | none=>none
  | some cells =>
   if !bf cells then none else
   match base,n with
   | _,0=>some (.int .i64 0,m)
   | some ⟨b,o,none⟩,n+1=>(m.dh b o cells).map fun m'=>(.int .i64 (n+1:Nat),m')
   | _,_=>none
 | _,_,_=>none
def yk (P:Program) (t:TypeId) (x:Value) (m:AMem):Option (Value × AMem) :=
 match P.underlying t,x with
 | some (.slice _),.slice _ 0 _=>some (.tuple #[],m)
 | some (.slice elem),.slice (some ⟨b,o,none⟩) n _ =>
  match fi P elem n with
  | some zs=>if zs.all aL then(m.dh b o zs).map fun m'=>(.tuple #[],m') else none
  | none=>none
 | _,_=>none
def ep (f:Int→Int→Int):IntKind→Int→List Value→Option Value
 | k,a,[]=>some (.int k a)
 | k,a,.int _ b::vs=>ep f k (f a b) vs
 | _,_,_=>none
def bj (P:Program) (b:Builtin) (argTypes:Array TypeId) (args:List Value) (m:AMem):Option (Value × AMem) :=
 match b,args with
 | .len,[x] =>
  match (argTypes[0]?).bind P.underlying,x with
  | some .string,.string s=>some (.int .i64 s.size,m)
  | some (.array n _),_=>some (.int .i64 n,m)
  | some (.pointer a),_=>match P.underlying a with
   | some (.array n _)=>some (.int .i64 n,m)
   | _=>none
  | some (.slice _),.slice _ n _=>some (.int .i64 n,m)
  | some (.map _ _),x=>(mapOf m x).map fun es=>(.int .i64 es.length,m)
  | _,_=>none
 | .cap,[x] =>
  match (argTypes[0]?).bind P.underlying,x with
  | some (.slice _),.slice none _ n=>some (.int .i64 n,m)
  | some (.slice _),.slice (some ⟨b,_,none⟩) _ n=>match m.get b with
   | some (.cells _ (.more _))=>none
   | some (.cells _ _)=>some (.int .i64 n,m)
   | _=>none
  | _,_=>none
 | .append,[s,x]=>match argTypes[0]? with
  | some t=>dn P t argTypes[1]? s x m
  | none=>none
 | .copy,[d,s]=>match argTypes[0]? with
  | some t=>pY P t d s m
  | none=>none
 | .clear,[x]=>match argTypes[0]? with
  | some t=>yk P t x m
  | none=>none
 | .delete,[x,k]=>match argTypes[0]? with
  | some t=>(oZ P t x k m).map fun m'=>(.tuple #[],m')
  | none=>none
 | .max,.int k a::vs=>(ep (fun x y=>if y>x then y else x) k a vs).map fun v=>(v,m)
 | .min,.int k a::vs=>(ep (fun x y=>if y<x then y else x) k a vs).map fun v=>(v,m)
 | _,_=>none
def cA (E:Env) (t:Tm) (m:AMem) (o:Op):Option (Value × AMem) :=
 let P:=E.P
 match o with
 | .move x | .assign x=>(aq E t x).map fun v=>(v,m)
 | .pick c a b=>match aq E t c with
  | some (.bool true)=>(aq E t a).map fun v=>(v,m)
  | some (.bool false)=>(aq E t b).map fun v=>(v,m)
  | _=>none
 | .alloc elem=>match bI P elem with
  | some z=>if bg z then some (ptr m.next 0,m.alloc (.cells z.cells.toList .own)) else none
  | none=>none
 | .box _ x=>(aq E t x).map fun v=>(ptr m.next 0,m.alloc (.cells v.cells.toList .own))
 | .build ty parts=>match cZ E t parts.toList,bI P ty with
  | some ps,some z=>if bg z then(ju P ty ps).map fun v=>(v,m) else none
  | _,_=>none
 | .buildSlice ty len parts =>
  match P.underlying ty,cZ E t parts.toList with
  | some (.slice elem),some ps =>
   let sz:=au P elem
   if !(known P elem) || len*sz>2 ^ 24 then none else
   match fi P elem len with
   | some zs=>if zs.all aL then(gz (fun i=>some (i*sz,sz)) zs ps).map fun cs=>(.slice (some ⟨m.next,0,none⟩) len len,m.alloc (.cells cs .own)) else none
   | none=>none
  | _,_=>none
 | .load ty a=>match aq E t a with
  | some p=>(dx P ty p m).map fun v=>(v,m)
  | none=>none
 | .store ty a x=>match aq E t a,aq E t x with
  | some p,some v=>(eY P ty p v m).map fun m'=>(undef,m')
  | _,_=>none
 | .nilCheck x=>match aq E t x with
  | some (.pointer (some a))=>some (.pointer (some a),m)
  | some (.func (.func f) a b)=>some (.func (.func f) a b,m)
  | some (.func (.yield f) a b)=>some (.func (.yield f) a b,m)
  | _=>none
 | .binOp op xType x y _=>match aq E t x,aq E t y with
  | some a,some b=>(bA op xType P a b).map fun v=>(v,m)
  | _,_=>none
 | .unOp op _ x=>match aq E t x with
  | some a=>(xA op a).map fun v=>(v,m)
  | none=>none
 | .convert src dst x=>match aq E t x with
  | some a=>(fg P src dst a).map fun v=>(v,m)
  | none=>none
 | .makeFunc (.func f) first captured=>match bB E t first.toList,bB E t captured.toList with
  | some fs,some cs=>some (.func (.func f) fs.toArray cs.toArray,m)
  | _,_=>none
 | .makeMap _ none=>some (.map (some m.next),m.alloc (.map []))
 | .makeSlice ty len cap=>match P.underlying ty,aq E t len,aq E t cap with
  | some (.slice elem),some (.int .i64 l),some (.int .i64 c) =>
   if 0≤l∧l≤c∧(P.info? elem).any (fun i=>i.bytes*c≤2 ^ 40 && i.bytes != 0)∧known P elem then
    match fi P elem c.toNat with
    | some zs=>if zs.all aL then some (.slice (some ⟨m.next,0,none⟩) l.toNat c.toNat,m.alloc (.cells zs .own)) else none
    | none=>none
   else none
  | _,_,_=>none
 | .slice ty x lo hi mx=>match aq E t x,dk E t lo,dk E t hi,dk E t mx with
  | some v,some l,some h,some k=>(cz P ty v l h k m).map fun v=>(v,m)
  | _,_,_,_=>none
 | .fieldAddr s x f=>match aq E t x with
  | some v=>(aR P s v f).map fun v=>(v,m)
  | none=>none
 | .field ty x f=>match aq E t x with
  | some v=>(eH P ty v f).map fun v=>(v,m)
  | none=>none
 | .sliceToArrayPointer ty x=>match aq E t x with
  | some v=>(zo P ty v).map fun v=>(v,m)
  | none=>none
 | .indexAddr ty x i=>match aq E t x,aq E t i with
  | some v,some n=>(bG P ty v n).map fun v=>(v,m)
  | _,_=>none
 | .index ty x i=>match aq E t x,aq E t i with
  | some v,some n=>(fI P ty v n).map fun v=>(v,m)
  | _,_=>none
 | .lookup ty x i ok=>match aq E t x,aq E t i with
  | some v,some n=>(da P ty v n ok m).map fun v=>(v,m)
  | _,_=>none
 | .mapUpdate ty x k v | .insert ty x k v=>match aq E t x,aq E t k,aq E t v with
  | some x,some k,some v=>(cy P ty x k v m).map fun m'=>(undef,m')
  | _,_,_=>none
 | .extract x i=>match aq E t x with
  | some (.tuple vs)=>(vs[i]?).map fun v=>(v,m)
  | _=>none
 | .call c=>match c.callee with
  | .builtin b=>match bB E t c.args.toList with
   | some vs=>bj P b c.argTypes vs m
   | none=>none
  | _=>none
 | _=>none
def ax:Op→Bool
 | .store .. | .mapUpdate .. | .insert ..=>true
 | .call c=>match c.callee with
  | .builtin .append | .builtin .copy | .builtin .delete | .builtin .clear=>true
  | .builtin _=>false
  | _=>true
 | _=>false
def nb:Op→Bool
 | .load .. | .lookup .. | .slice ..=>true
 | .call c=>match c.callee with
  | .builtin .len | .builtin .cap=>true
  | _=>false
 | _=>false
def tmpsOf:List Operand→List Tmp
 | []=>[]
 | .tmp t::xs=>t::tmpsOf xs
 | _::xs=>tmpsOf xs
def looks (ops:Array Oper) (o:Oper):List Tmp :=
 tmpsOf o.op.operands.toList++(match o.guard with
  | some (g,_)=>((ops[g]?).bind (·.dst)).toList
  | none=>[])
def yw (ops:Array Oper):List Nat:=(Region.before ops).toList
def pj (ops:Array Oper) (a b:Oper):Bool :=
 !(ax a.op && ax b.op) &&
 (match a.dst with
  | some d=>!(looks ops b).contains d && b.dst != some d
  | none=>true) &&
 (match b.dst with
  | some d=>!(looks ops a).contains d
  | none=>true)
def clash (a b:Oper):Bool:=(ax a.op && nb b.op) || (nb a.op && ax b.op)
def tX:List Nat→Bool
 | []=>true
 | x::xs=>!xs.contains x && tX xs
def eW (o:Oper):List Nat:=o.after.toList.filterMap fun e=>if Region.binds .any e then some e.on else none
def sF (ops:Array Oper) (bs:List Nat):Bool :=
 tX (ops.toList.filterMap (·.dst)) &&
 (List.range ops.size).all fun j =>
  (eW (ops.getD j default)).all (fun e=>decide (e<j)) &&
  (match (ops.getD j default).guard with
   | none=>true
   | some (g,_)=>decide (g<j) && (bs.getD j 0).testBit g) &&
  (List.range j).all fun i =>
   if (bs.getD j 0).testBit i then(eW (ops.getD j default)).any (fun e=>e == i || (Nat.blt i e && (bs.getD e 0).testBit i))
   else pj ops (ops.getD i default) (ops.getD j default)
def ld (ops:Array Oper) (bs:List Nat):List (Nat × Nat) :=
 (List.range ops.size).flatMap fun j=>((List.range j).filter fun i=>!(bs.getD j 0).testBit i && clash (ops.getD i default) (ops.getD j default)).map fun i=>(i,j)
def iB (ops:Array Oper):Option (List (Nat × Nat)) :=
 if sF ops (yw ops) then some (ld ops (yw ops)) else none
def fh:Value→Option Nat
 | .pointer (some a)=>some a.block
 | .slice (some a) _ _=>some a.block
 | .map (some r)=>some r
 | _=>none
def aN (E:Env) (t:Tm) (o:Op):Option Nat :=
 match o with
 | .load _ a=>(aq E t a).bind fh
 | .lookup _ x _ _=>(aq E t x).bind fh
 | .slice _ x _ _ _=>(aq E t x).bind fh
 | .call c=>match c.callee with
  | .builtin .len | .builtin .cap=>match bB E t c.args.toList with
   | some [v]=>fh v
   | _=>none
  | _=>none
 | _=>none
def dQ (E:Env) (t:Tm) (o:Op):Option Nat :=
 match o with
 | .store _ a _=>match aq E t a with
  | some (.pointer (some a))=>some a.block
  | _=>none
 | _=>none
def nQ:Value→Value→Bool
 | .int k a,.int k' b=>decide (k=k') && decide (a=b)
 | .bool a,.bool b=>a == b
 | .slice a l c,.slice a' l' c'=>decide (a=a') && (Nat.beq l l' && Nat.beq c c')
 | .map a,.map b=>decide (a=b)
 | .pointer a,.pointer b=>decide (a=b)
 | _,_=>false
def p4:List Value→List Value→Bool
 | [],[]=>true
 | v::vs,u::us=>nQ v u && p4 vs us
 | _,_=>false
def sw:Value→Value→Bool
 | .func (.func f) a c,.func (.func f') a' c'=>Nat.beq f f' && (p4 a.toList a'.toList && p4 c.toList c'.toList)
 | v,u=>nQ v u
def om:List Value→List Value→Bool
 | [],[]=>true
 | v::vs,u::us=>sw v u && om vs us
 | _,_=>false
def sV:List (Value × Value)→List (Value × Value)→Bool
 | [],[]=>true
 | v::vs,u::us=>sw v.1 u.1 && sw v.2 u.2 && sV vs us
 | _,_=>false
def yS:Option AObj→Option AObj→Bool
 | some (.cells cs t),some (.cells cs' t')=>decide (t=t') && om cs cs'
 | some (.map es),some (.map es')=>sV es es'
 | _,_=>false
noncomputable def gB (m m':AMem) (b:Nat):Bool:=yS (m.get b) (m'.get b) || @decide (m.get b=m'.get b) (Classical.propDecidable _)
structure Note where
 read:Option Nat
 wl:Nat
 next:Nat
 wrote:Option Nat
 kept:Nat→Bool
def Note.ok (r e:Note):Bool :=
 match r.read with
 | none=>true
 | some b=>decide (b<e.wl) || decide (e.next≤b) || (match e.wrote with
  | some b'=>b != b'
  | none=>false) || e.kept b
def cW (a:Note):Bool :=
 match a.read with
 | none=>true
 | some b=>Nat.blt b a.next
def dg (notes:List Note) (ops:Array Oper) (p:Nat × Nat):Bool :=
 match notes[p.1]?,notes[p.2]? with
 | some a,some b =>
  (!(ax (ops.getD p.2 default).op) || Note.ok a b) && (!(ax (ops.getD p.1 default).op) || Note.ok b a)
 | _,_=>false
inductive AExit where
 | normal
 | exit (id:Nat)
 | ret
 deriving DecidableEq
structure Fr where
 tmps:Tm
 n:Nat
 fn:FuncId
 round:Option Nat
inductive Task where
 | code (c:Code) (fr:Fr) (m:AMem)
 | loop (c:Code) (fr:Fr) (m:AMem)
 | call (f:FuncId) (args:List Value) (m:AMem)
 | round (l:Nat) (args:List Value) (m:AMem)
inductive Res where
 | code (e:AExit) (t:Tm) (m:AMem)
 | val (v:Value) (m:AMem)
abbrev K:=Task→Option Res
def fH (n:Nat) (t:Tm) (dst:Option Tmp) (v:Value):Option Tm :=
 match dst with
 | some d=>match Nat.blt d n with
  | true=>some (t.set d v)
  | false=>none
 | none=>some t
def dR (k:K) (E:Env) (t:Tm) (m:AMem) (o:Op):Option (Value × AMem) :=
 match o with
 | .call c=>match c.callee with
  | .value f=>match aq E t f,bB E t c.args.toList with
   | some (.func (.func g) first captured),some args=>match k (.call g (first.toList++args++captured.toList) m) with
    | some (.val v m')=>some (v,m')
    | _=>none
   | some (.func (.yield l) first _),some args=>match k (.round l (first.toList++args) m) with
    | some (.val v m')=>some (v,m')
    | _=>none
   | _,_=>none
  | _=>cA E t m o
 | _=>cA E t m o
def cJ (ops:Array Oper) (t:Tm) (j:Nat):Option Bool :=
 match ((ops[j]?).bind (·.dst)) with
 | some d=>match t.get d with
  | some (.bool b)=>some b
  | _=>none
 | none=>none
def aT (ops:Array Oper) (o:Oper) (t:Tm):Bool :=
 match o.guard with
 | none=>true
 | some (j,want)=>match cJ ops t j with
  | some b=>b == want
  | none=>false
def hY (k:K) (E:Env) (n:Nat) (ops:Array Oper):List Oper→Tm→AMem→Option (Tm × AMem)
 | [],t,m=>some (t,m)
 | o::os,t,m =>
  if aT ops o t then
   match dR k E t m o.op with
   | some (v,m')=>match fH n t o.dst v with
    | some t'=>hY k E n ops os t' m'
    | none=>none
   | none=>none
  else match fH n t o.dst undef with
   | some t'=>hY k E n ops os t' m
   | none=>none
noncomputable def dB (k:K) (E:Env) (n:Nat) (ops:Array Oper):List Oper→Tm→AMem→Option (Tm × AMem × List Note)
 | [],t,m=>some (t,m,[])
 | o::os,t,m =>
  if aT ops o t then
   match dR k E t { m with wl:=m.next} o.op with
   | some (v,m')=>match fH n t o.dst v with
    | some t1=>match dB k E n ops os t1 { m' with wl:=min m.wl m'.wl} with
     | some (t',m'',ns)=>some (t',m'',{ read:=aN E t o.op,wl:=m'.wl,next:=m.next,wrote:=dQ E t o.op,kept:=gB m m'}::ns)
     | none=>none
    | none=>none
   | none=>none
  else match fH n t o.dst undef with
   | some t1=>match dB k E n ops os t1 m with
    | some (t',m'',ns)=>some (t',m'',{ read:=none,wl:=m.next,next:=m.next,wrote:=none,kept:=fun _=>false}::ns)
    | none=>none
   | none=>none
def bP (E:Env) (t:Tm) (m:AMem):List ResultVar→Option (List Value)
 | []=>some []
 | .tmp i::rs=>(bP E t m rs).map fun vs=>t.at i::vs
 | .cell a ty::rs=>match dx E.P ty (t.at a) m,bP E t m rs with
  | some v,some vs=>some (v::vs)
  | _,_=>none
def fK:List Value→Value
 | [v]=>v
 | vs=>.tuple vs.toArray
def e9 (n:Nat) (t:Tm):List Tmp→List Value→Option Tm
 | p::ps,v::vs=>match Nat.blt p n with
  | true=>e9 n (t.set p v) ps vs
  | false=>none
 | _,_=>some t
def sB:AExit→Option Code
 | .normal=>none
 | .exit id=>some (.exit id)
 | .ret=>some .ret
def iN (E:Env) (fr:Fr) (m:AMem) (f:Operand):Bool :=
 (match aq E fr.tmps f with
  | some (.func (.func g) _ _)=>(E.cR g).isNone
  | _=>false) &&
 (match fr.round with
  | none=>true
  | some l=>match m.get l with
   | some (.loop _)=>true
   | _=>false)
def lQ (E:Env) (f:FuncId) (args:List Value) (m:AMem):Option (Value × AMem):=(E.cR f).bind fun p=>p.run args m
noncomputable def step (E:Env) (k:K):Task→Option Res
 | .code c fr m =>
  match c with
  | .skip=>some (.code .normal fr.tmps m)
  | .label _=>some (.code .normal fr.tmps m)
  | .seq a b=>match k (.code a fr m) with
   | some (.code .normal t m')=>k (.code b { fr with tmps:=t} m')
   | some (.code e t m')=>some (.code e t m')
   | _=>none
  | .cond x a b=>match aq E fr.tmps x with
   | some (.bool true)=>k (.code a fr m)
   | some (.bool false)=>k (.code b fr m)
   | _=>none
  | .block id a=>match k (.code a fr m) with
   | some (.code (.exit id') t m')=>if id'=id then some (.code .normal t m') else some (.code (.exit id') t m')
   | some (.code e t m')=>some (.code e t m')
   | _=>none
  | .loop a=>k (.loop a fr m)
  | .exit id=>some (.code (.exit id) fr.tmps m)
  | .ret=>some (.code .ret fr.tmps m)
  | .scope a=>match k (.code a fr m) with
   | some (.code e t m')=>some (.code e t m')
   | _=>none
  | .region _ ops draw =>
   if draw then
    match iB ops with
    | some ps=>match dB k E fr.n ops ops.toList fr.tmps m with
     | some (t,m',ns)=>if ps.all (dg ns ops) && ns.all cW then some (.code .normal t m') else none
     | none=>none
    | none=>none
   else match hY k E fr.n ops ops.toList fr.tmps m with
    | some (t,m')=>some (.code .normal t m')
    | none=>none
  | .rangeFunc f params assign body =>
   match aq E fr.tmps f,iN E fr m f with
   | some (.func (.func g) first captured),true =>
    let l:=m.next
    let m1:=m.alloc (.loop { state:=.ready,pending:=none,fn:=fr.fn,tmps:=fr.tmps,n:=fr.n,params,assign,body})
    match k (.call g (first.toList++[.func (.yield l) #[] #[]]++captured.toList) m1) with
    | some (.val _ m2)=>match m2.get l with
     | some (.loop r)=>match r.state with
      | .busy=>none
      | _ =>
       let m3:=m2.set l (.loop { r with state:=.exhausted})
       match r.pending with
       | none=>some (.code .normal fr.tmps m3)
       | some c=>match k (.code c fr m3) with
        | some (.code e t m')=>some (.code e t m')
        | _=>none
     | _=>none
    | _=>none
   | _,_=>none
  | _=>none
 | .loop c fr m=>match k (.code c fr m) with
  | some (.code .normal t m')=>k (.loop c { fr with tmps:=t} m')
  | some (.code e t m')=>some (.code e t m')
  | _=>none
 | .call f args m =>
  match lQ E f args m with
  | some r=>some (.val r.1 r.2)
  | none =>
   match E.P.funcs[f]? with
   | some fn=>match fn.body with
    | some c=>match k (.code c { tmps:=Trie.ofList args 0 .nil,n:=max args.length fn.ntmps,fn:=f,round:=none} m) with
     | some (.code (.exit _) _ _)=>none
     | some (.code _ t m')=>(bP E t m' fn.results.toList).map fun vs=>.val (fK vs) m'
     | _=>none
    | none=>none
   | none=>none
 | .round l args m =>
  match m.get l with
  | some (.loop r)=>match r.state with
   | .ready =>
    if args.length≠r.params.size then none else
    match e9 r.n r.tmps r.params.toList args with
    | none=>none
    | some t0=>match k (.code r.assign { tmps:=t0,n:=r.n,fn:=r.fn,round:=some l} m) with
    | some (.code .normal t1 m1)=>match m1.get l with
     | some (.loop r1)=>match r1.state with
      | .ready =>
       match k (.code r.body { tmps:=t1,n:=r.n,fn:=r.fn,round:=some l} (m1.set l (.loop { r1 with state:=.busy}))) with
       | some (.code e _ m2)=>match m2.get l with
        | some (.loop r2) =>
         let j:=sB e
         some (.val (.bool j.isNone) (m2.set l (.loop { r2 with state:=if j.isNone then .ready else .done,pending:=j})))
        | _=>none
       | _=>none
      | _=>none
     | _=>none
    | _=>none
   | _=>none
  | _=>none
noncomputable def run (E:Env):Nat→K
 | 0=>fun _=>none
 | n+1=>step E (run E n)
structure Blk where
 c:Nat
 more:Option (Nat × Nat × Nat)
abbrev aH:=Nat→Option Blk
def uX (v:Value):Bool:=lA v && !aL v
theorem sd {v:Value} (h:uX v=true):lA v=true:=by simp only[uX,Bool.and_eq_true] at h; exact h.1
inductive VR (j:aH):Value→Value→Prop
 | junk {v':Value} (h:uX v'=true):VR j (.complex .f64 0 0) v'
 | bool (b:Bool):VR j (.bool b) (.bool b)
 | int (k:IntKind) (n:Int):VR j (.int k n) (.int k n)
 | string (s:ByteArray):VR j (.string s) (.string s)
 | pnil:VR j (.pointer none) (.pointer none)
 | ptr {b o:Nat} {k:Blk} (h:j b=some k):VR j (.pointer (some ⟨b,o,none⟩)) (.pointer (some ⟨k.c,o,none⟩))
 | snil (l c:Nat):VR j (.slice none l c) (.slice none l c)
 | slice {b o len cap:Nat} {k:Blk} (h:j b=some k) (hm:k.more=none):VR j (.slice (some ⟨b,o,none⟩) len cap) (.slice (some ⟨k.c,o,none⟩) len cap)
 | sliceM {b o len cap cap' sz na nc:Nat} {k:Blk} (h:j b=some k) (hm:k.more=some (sz,na,nc)) (h1:cap*sz+o=na) (h2:cap'*sz+o=nc) (hl:len≤cap) (hc:cap≤cap') :
   VR j (.slice (some ⟨b,o,none⟩) len cap) (.slice (some ⟨k.c,o,none⟩) len cap')
 | gq {b:Nat} {a':Addr} {cap':Nat}:VR j (.slice (some ⟨b,0,some 0⟩) 0 0) (.slice (some a') 0 cap')
 | dry {b:Nat} {a':Addr}:VR j (.slice (some ⟨b,0,some 1⟩) 0 0) (.slice (some a') 0 0)
 | mnil:VR j (.map none) (.map none)
 | map {b:Nat} {k:Blk} (h:j b=some k):VR j (.map (some b)) (.map (some k.c))
 | func {f:FuncId} {xs ys cs ds:Array Value} (h1:xs.size=ys.size) (h2:∀(i:Nat) (a:i<xs.size) (b:i<ys.size),VR j xs[i] ys[i])
   (h3:cs.size=ds.size) (h4:∀(i:Nat) (a:i<cs.size) (b:i<ds.size),VR j cs[i] ds[i]):VR j (.func (.func f) xs cs) (.func (.func f) ys ds)
 | yield {l:Nat} {k:Blk} {xs ys cs ds:Array Value} (h:j l=some k) (h1:xs.size=ys.size) (h2:∀(i:Nat) (a:i<xs.size) (b:i<ys.size),VR j xs[i] ys[i]) :
   VR j (.func (.yield l) xs cs) (.func (.yield k.c) ys ds)
 | nilFunc:VR j .nilFunc .nilFunc
 | nilIface:VR j .nilIface .nilIface
 | agg {xs ys:Array Value} (h1:xs.size=ys.size) (h2:∀(i:Nat) (a:i<xs.size) (b:i<ys.size),VR j xs[i] ys[i]):VR j (.agg xs) (.agg ys)
 | tuple {xs ys:Array Value} (h1:xs.size=ys.size) (h2:∀(i:Nat) (a:i<xs.size) (b:i<ys.size),VR j xs[i] ys[i]):VR j (.tuple xs) (.tuple ys)
def LR (j:aH) (xs ys:List Value):Prop:=xs.length=ys.length∧∀(i:Nat) (v:Value),xs[i]? = some v→∃v',ys[i]? = some v'∧VR j v v'
theorem LR.nil (j:aH):LR j [] []:=⟨rfl,fun i v h=>by simp at h⟩
theorem LR.cons {j:aH} {x y:Value} {xs ys:List Value} (h:VR j x y) (hs:LR j xs ys):LR j (x::xs) (y::ys) :=
 ⟨by simp[hs.1],fun i v hi=>by
  cases i with
  | zero=>simp at hi; subst hi; exact⟨y,rfl,h⟩
  | succ i=>simpa using hs.2 i v (by simpa using hi)⟩
theorem LR.head {j:aH} {x y:Value} {xs ys:List Value} (h:LR j (x::xs) (y::ys)):VR j x y:=by
 obtain⟨v',hv,hr⟩:=h.2 0 x rfl;simp at hv; subst hv; exact hr
theorem LR.tail {j:aH} {x y:Value} {xs ys:List Value} (h:LR j (x::xs) (y::ys)):LR j xs ys :=
 ⟨by have:=h.1; simpa using this,fun i v hi=>by simpa using h.2 (i+1) v (by simpa using hi)⟩
theorem LR.cons_inv {j:aH} {x:Value} {xs l:List Value} (h:LR j (x::xs) l):∃y ys,l=y::ys∧VR j x y∧LR j xs ys:=by
 cases l with
 | nil=>exact absurd h.1 (by simp)
 | cons y ys=>exact⟨y,ys,rfl,h.head,h.tail⟩
theorem LR.db {j:aH} {l:List Value} (h:LR j [] l):l = []:=by
 have:=h.1; simp at this; exact List.length_eq_zero_iff.1 this.symm
theorem LR.append {j:aH} {xs ys xs' ys':List Value} (h:LR j xs ys) (h':LR j xs' ys'):LR j (xs++xs') (ys++ys') :=
 ⟨by simp[h.1,h'.1],fun i v hi=>by
  by_cases hlt:i<xs.length
  ·rw[List.getElem?_append_left hlt] at hi;rw[List.getElem?_append_left (h.1 ▸ hlt)];exact h.2 i v hi
  ·rw[List.getElem?_append_right (by omega)] at hi
   rw[List.getElem?_append_right (by have:=h.1; omega),←h.1]
   exact h'.2 _ v hi⟩
theorem LR.drop {j:aH} {xs ys:List Value} (h:LR j xs ys) (n:Nat):LR j (xs.drop n) (ys.drop n) :=
 ⟨by simp[h.1],fun i v hi=>by rw[List.getElem?_drop] at *; exact h.2 _ v hi⟩
theorem LR.take {j:aH} {xs ys:List Value} (h:LR j xs ys) (n:Nat):LR j (xs.take n) (ys.take n) :=
 ⟨by simp[h.1],fun i v hi=>by
  rw[List.getElem?_take] at *
  split at hi
  ·rename_i hlt; rw[if_pos hlt]; exact h.2 _ v hi
  ·simp at hi⟩
theorem LR.get {j:aH} {xs ys:List Value} (h:LR j xs ys) {i:Nat} {v:Value} (hi:xs[i]? = some v):∃v',ys[i]? = some v'∧VR j v v':=h.2 i v hi
theorem LR.eO {j:aH} {xs ys:Array Value} (h1:xs.size=ys.size) (h2:∀(i:Nat) (a:i<xs.size) (b:i<ys.size),VR j xs[i] ys[i]):LR j xs.toList ys.toList :=
 ⟨by simpa using h1,fun i v hi=>by
  have hlt:i<xs.toList.length:=(List.getElem?_eq_some_iff.1 hi).1;have ha:i<xs.size:=by simpa using hlt
  have hb:i<ys.size:=h1 ▸ ha;refine⟨ys[i],by simp[hb],?_⟩
  have:xs[i]=v:=by simpa [ha] using hi
  exact this ▸ h2 i ha hb⟩
theorem LR.arr {j:aH} {xs ys:Array Value} (h:LR j xs.toList ys.toList):∀(i:Nat) (a:i<xs.size) (b:i<ys.size),VR j xs[i] ys[i]:=fun i a b=>by
 obtain⟨v',hv,hr⟩:=h.2 i xs[i] (by simp[a])
 have:ys[i]=v':=by simpa [b] using hv
 exact this ▸ hr
theorem LR.size {j:aH} {xs ys:Array Value} (h:LR j xs.toList ys.toList):xs.size=ys.size:=by simpa using h.1
theorem VR.xE {j:aH} {xs ys:Array Value} (h:LR j xs.toList ys.toList):VR j (.agg xs) (.agg ys):=.agg h.size h.arr
theorem VR.tuple' {j:aH} {xs ys:Array Value} (h:LR j xs.toList ys.toList):VR j (.tuple xs) (.tuple ys):=.tuple h.size h.arr
theorem VR.undef (j:aH):VR j undef undef:=.tuple rfl (fun i a _=>by simp at a)
def aH.le (j j':aH):Prop:=∀b k,j b=some k→j' b=some k
theorem aH.le.refl (j:aH):j.le j:=fun _ _ h=>h
theorem aH.le.trans {j j' j'':aH} (h:j.le j') (h':j'.le j''):j.le j'':=fun b k e=>h' b k (h b k e)
theorem VR.mono {j j':aH} (hj:j.le j') {v v':Value} (h:VR j v v'):VR j' v v':=by
 induction h with
 | junk h=>exact .junk h
 | bool b=>exact .bool b
 | int k n=>exact .int k n
 | string s=>exact .string s
 | pnil=>exact .pnil
 | ptr h=>exact .ptr (hj _ _ h)
 | snil l c=>exact .snil l c
 | slice h hm=>exact .slice (hj _ _ h) hm
 | sliceM h hm h1 h2 hl hc=>exact .sliceM (hj _ _ h) hm h1 h2 hl hc
 | gq=>exact .gq
 | dry=>exact .dry
 | mnil=>exact .mnil
 | map h=>exact .map (hj _ _ h)
 | func h1 _ h3 _ ih2 ih4=>exact .func h1 ih2 h3 ih4
 | yield h h1 _ ih2=>exact .yield (hj _ _ h) h1 ih2
 | nilFunc=>exact .nilFunc
 | nilIface=>exact .nilIface
 | agg h1 _ ih=>exact .agg h1 ih
 | tuple h1 _ ih=>exact .tuple h1 ih
theorem LR.mono {j j':aH} (hj:j.le j') {xs ys:List Value} (h:LR j xs ys):LR j' xs ys :=
 ⟨h.1,fun i v hi=>let ⟨v',a,b⟩:=h.2 i v hi; ⟨v',a,b.mono hj⟩⟩
theorem VR.aL {j:aH} {v:Value} (h:aL v=true):VR j v v:=by
 unfold Ab.aL at h
 split at h<;>first|constructor | (simp at h)
theorem LR.plain {j:aH} {l:List Value} (h:l.all Ab.aL=true):LR j l l :=
 ⟨rfl,fun _ v hi=>⟨v,hi,VR.aL (List.all_eq_true.1 h v (List.mem_of_getElem? hi))⟩⟩
theorem VR.bg {j:aH} {v:Value} (h:bg v=true):VR j v v:=by
 unfold Ab.bg at h
 split at h
 ·exact .xE (LR.plain h)
 ·exact .tuple' (LR.plain h)
 ·exact .aL h
def ER (j:aH):List (Value × Value)→List MapEntry→Prop
 | [],[]=>True
 | e::es,f::fs=>VR j e.1 f.key∧VR j e.2 f.val∧ER j es fs
 | _,_=>False
theorem ER.mono {j j':aH} (hj:j.le j'):∀{es:List (Value × Value)} {fs:List MapEntry},ER j es fs→ER j' es fs
 | [],[],_=>trivial
 | _::_,_::_,h=>⟨h.1.mono hj,h.2.1.mono hj,ER.mono hj h.2.2⟩
 | [],_::_,h=>h.elim
 | _::_,[],h=>h.elim
def TR (n:Nat) (j:aH) (t:Tm) (tmps:Array Value):Prop:=tmps.size=n∧∀i,VR j (t.at i) (tmps.getD i undef)
theorem TR.mono {n:Nat} {j j':aH} (hj:j.le j') {t:Tm} {tmps:Array Value} (h:TR n j t tmps):TR n j' t tmps:=⟨h.1,fun i=>(h.2 i).mono hj⟩
def mu (sz:Nat) (c:Array Value):Prop:=c.size≤sz*9223372036854775807
def mI (k:Blk) (tag:Tag) (len:Nat) (c:Array Value) (fz:Nat × Nat):Prop :=
 match tag with
 | .ro=>k.more=none∧c.size=len
 | .own=>k.more=none∧c.size=len∧fz=(0,0)
 | .more sz=>k.more=some (sz,len,c.size)∧len≤c.size∧fz=(0,0)∧0<sz∧mu sz c
theorem mI.put {k:Blk} {tag:Tag} {len:Nat} {c c':Array Value} {fz:Nat × Nat} (h:mI k tag len c fz) (hs:c'.size=c.size) (hr:∀i,len≤i→c'[i]? = c[i]?):mI k tag len c' fz:=by
 cases tag with
 | ro=>exact⟨h.1,hs.trans h.2⟩
 | own=>exact⟨h.1,hs.trans h.2.1,h.2.2⟩
 | more sz=>exact⟨by rw[hs]; exact h.1,by rw[hs]; exact h.2.1,h.2.2.1,h.2.2.2.1,by unfold mu; rw[hs]; exact h.2.2.2.2⟩
def D1 (es:Array MapEntry) (clock:Nat):Prop:=(∀x ∈ es.toList,x.born<clock)∧(es.toList.map (·.born)).Nodup
theorem AR (c:Nat):D1 #[] c:=⟨fun x hx=>by simp at hx,by simp⟩
theorem Dr {es:Array MapEntry} {clock:Nat} (h:D1 es clock) (k v:Value):D1 (es.push { key:=k,val:=v,born:=clock}) (clock+1):=by
 refine⟨fun x hx=>?_,?_⟩
 ·rw[Array.toList_push,List.mem_append,List.mem_singleton] at hx;rcases hx with hx|rfl
  ·exact Nat.lt_succ_of_lt (h.1 x hx)
  ·exact Nat.lt_succ_self _
 ·rw[Array.toList_push,List.map_append,List.map_singleton];refine List.nodup_append.2 ⟨h.2,by simp,fun a ha b hb=>?_⟩
  rw[List.mem_singleton] at hb;obtain⟨x,hx,rfl⟩:=List.mem_map.1 ha;have:=h.1 x hx;rw[hb]; exact Nat.ne_of_lt this
theorem wN {es:Array MapEntry} {clock:Nat} (h:D1 es clock) (i:Nat) (f:MapEntry→MapEntry) (hf:∀e,(f e).born=e.born):D1 (es.modify i f) clock:=by
 have e:(es.modify i f).toList.map (·.born)=es.toList.map (·.born):=by
  rw[Array.toList_modify];refine List.ext_getElem? fun t=>?_;rw[List.getElem?_map,List.getElem?_map,List.getElem?_modify];cases es.toList[t]? with
  | none=>rfl
  | some a =>
   show some ((if i=t then f a else a).born)=some a.born
   split
   ·rw[hf]
   ·rfl
 refine⟨fun x hx=>?_,by rw[e]; exact h.2⟩
 have hm:x.born ∈ es.toList.map (·.born):=e ▸ List.mem_map.2 ⟨x,hx,rfl⟩;obtain⟨y,hy,he⟩:=List.mem_map.1 hm;rw[←he]; exact h.1 y hy
theorem AL {es:Array MapEntry} {clock:Nat} (h:D1 es clock) (i:Nat):D1 (es.eraseIdxIfInBounds i) clock:=by
 have hs:(es.eraseIdxIfInBounds i).toList.Sublist es.toList:=by
  rw[Array.toList_eraseIdxIfInBounds]; exact List.eraseIdx_sublist _ _
 exact⟨fun x hx=>h.1 x (hs.subset hx),(hs.map _).nodup h.2⟩
def OR (j:aH) (k:Blk):AObj→Obj→Prop
 | .cells cs tag,.cells c _ fz=>mI k tag cs.length c fz∧∀(i:Nat) (v:Value),cs[i]? = some v→∃v',c[i]? = some v'∧VR j v v'
 | .map es,.map entries clock=>ER j es entries.toList∧D1 entries clock
 | .loop r,.loop r'=>r.state=r'.state∧r.pending=r'.pending∧r.params=r'.params∧r.assign=r'.assign∧r.body=r'.body∧TR r.n j r.tmps r'.tmps
 | _,_=>False
theorem OR.mono {j j':aH} (hj:j.le j') {k:Blk} {o:AObj} {o':Obj} (h:OR j k o o'):OR j' k o o':=by
 cases o with
 | cells cs tag =>
  cases o' with
  | cells c e fz=>exact⟨h.1,fun i v hi=>let ⟨v',a,b⟩:=h.2 i v hi; ⟨v',a,b.mono hj⟩⟩
  | _=>exact h.elim
 | map es =>
  cases o' with
  | map c e=>exact⟨ER.mono hj h.1,h.2⟩
  | _=>exact h.elim
 | loop r =>
  cases o' with
  | loop c=>exact⟨h.1,h.2.1,h.2.2.1,h.2.2.2.1,h.2.2.2.2.1,h.2.2.2.2.2.mono hj⟩
  | _=>exact h.elim
structure MR (E:Env) (j:aH) (m:AMem) (w:World):Prop where
 lt:∀b k,j b=some k→b<m.next∧k.c<w.heap.size
 obj:∀b o k,m.get b=some o→j b=some k→∃o',w.heap[k.c]? = some o'∧OR j k o o'
 inj:∀b b' k k',j b=some k→j b'=some k'→(m.get b).isSome=true→(m.get b').isSome=true→k.c=k'.c→b=b'
 glob:∀g,g<E.glob→j g=some ⟨g,none⟩
structure AExt (m m':AMem):Prop where
 next:m.next≤m'.next
 wl:m'.wl≤m.wl
 same:∀b,b<m.next→b<m'.wl→m'.get b=m.get b
 dead:∀b,b<m.next→m.get b=none→m'.get b=none
theorem AExt.refl (m:AMem):AExt m m:=⟨Nat.le_refl _,Nat.le_refl _,fun _ _ _=>rfl,fun _ _ h=>h⟩
theorem AExt.trans {a b c:AMem} (h:AExt a b) (h':AExt b c):AExt a c :=
 ⟨Nat.le_trans h.next h'.next,Nat.le_trans h'.wl h.wl,
  fun x hx hw=>(h'.same x (Nat.lt_of_lt_of_le hx h.next) hw).trans (h.same x hx (Nat.lt_of_lt_of_le hw h'.wl)),
  fun x hx hn=>h'.dead x (Nat.lt_of_lt_of_le hx h.next) (h.dead x hx hn)⟩
abbrev Calm (w w':World):Prop:=w'.os=w.os∧w'.output=w.output∧w'.tape=w.tape∧w.drawn≤w'.drawn
abbrev ij (E:Env) (w w':World):Prop:=w'.os=w.os∧w'.output=w.output∧w'.tape=w.tape∧(E.mono→w.drawn≤w'.drawn)
theorem Calm.e {E:Env} {w w':World} (h:Calm w w'):ij E w w':=⟨h.1,h.2.1,h.2.2.1,fun _=>h.2.2.2⟩
theorem ij.refl {E:Env} (w:World):ij E w w:=⟨rfl,rfl,rfl,fun _=>Nat.le_refl _⟩
theorem ij.trans {E:Env} {a b c:World} (h:ij E a b) (g:ij E b c):ij E a c:=⟨g.1.trans h.1,g.2.1.trans h.2.1,g.2.2.1.trans h.2.2.1,fun e=>Nat.le_trans (h.2.2.2 e) (g.2.2.2 e)⟩
structure Sim (E:Env) (j:aH) (m:AMem) (w:World) (j':aH) (m':AMem) (w':World):Prop where
 ext:AExt m m'
 le:j.le j'
 new:∀b k,j' b=some k→j b=none→m.next≤b
 mr:MR E j' m' w'
 size:w.heap.size≤w'.heap.size
 full:∀b,m.next≤b→b<m'.next→(m'.get b).isSome=true→∃k,j' b=some k
 away:∀b,b<m.next→j b=none→m'.get b=m.get b
 fresh:∀b k,j' b=some k→j b=none→w.heap.size≤k.c∨∃b0 k0,j b0=some k0∧(m.get b0).isSome=true∧k0.c=k.c∧m'.wl≤b0
 frame:∀c,c<w.heap.size→(∀b k,j b=some k→(m.get b).isSome=true→k.c=c→b<m'.wl)→w'.heap[c]? = w.heap[c]?
 calm:ij E w w'
theorem Sim.refl {E:Env} {j:aH} {m:AMem} {w:World} (h:MR E j m w):Sim E j m w j m w where
 ext:=.refl m
 le:=.refl j
 new:=fun b k h h'=>by simp[h'] at h
 mr:=h
 size:=Nat.le_refl _
 full:=fun b h h' _=>absurd h (by omega)
 away:=fun _ _ _=>rfl
 fresh:=fun b k h h'=>by simp[h'] at h
 frame:=fun _ _ _=>rfl
 calm:=.refl w
theorem Sim.trans {E:Env} {j j1 j2:aH} {m m1 m2:AMem} {w w1 w2:World} (h0:MR E j m w) (h:Sim E j m w j1 m1 w1) (h':Sim E j1 m1 w1 j2 m2 w2):Sim E j m w j2 m2 w2 where
 ext:=h.ext.trans h'.ext
 le:=h.le.trans h'.le
 mr:=h'.mr
 calm:=ij.trans h.calm h'.calm
 size:=Nat.le_trans h.size h'.size
 full:=by
  intro b hb hb' hl;rcases Nat.lt_or_ge b m1.next with hlt|hge
  ·have hl1:(m1.get b).isSome=true:=by
    cases hm:m1.get b with
    | some o=>rfl
    | none=>rw[h'.ext.dead b hlt hm] at hl; cases hl
   obtain⟨k,hk⟩:=h.full b hb hlt hl1;exact⟨k,h'.le b k hk⟩
  ·exact h'.full b hge hb' hl
 new:=by
  intro b k hk hn;cases h1:j1 b with
  | none=>exact Nat.le_trans h.ext.next (h'.new b k hk h1)
  | some k1=>exact h.new b k1 h1 hn
 away:=by
  intro b hb hn;have h1:j1 b=none:=by
   cases h1:j1 b with
   | none=>rfl
   | some k1=>exact absurd (h.new b k1 h1 hn) (by omega)
  exact(h'.away b (Nat.lt_of_lt_of_le hb h.ext.next) h1).trans (h.away b hb hn)
 fresh:=by
  intro b k hk hn;cases h1:j1 b with
  | some k1 =>
   have:=h'.le b k1 h1;rw[hk] at this; cases this;rcases h.fresh b k h1 hn with hf|⟨b0,k0,a1,a2,a3,a4⟩
   ·exact .inl hf
   ·exact .inr ⟨b0,k0,a1,a2,a3,Nat.le_trans h'.ext.wl a4⟩
  | none =>
   rcases h'.fresh b k hk h1 with hf|⟨b0,k0,a1,a2,a3,a4⟩
   ·exact .inl (Nat.le_trans h.size hf)
   ·cases hj0:j b0 with
    | some k0' =>
     have e:=h.le b0 k0' hj0;rw[a1] at e; cases e;refine .inr ⟨b0,k0,hj0,?_,a3,a4⟩;cases hm:m.get b0 with
     | some o=>rfl
     | none=>rw[h.ext.dead b0 (h0.lt b0 k0 hj0).1 hm] at a2; cases a2
    | none =>
     rcases h.fresh b0 k0 a1 hj0 with hf|⟨b1,k1,c1,c2,c3,c4⟩
     ·exact .inl (a3 ▸ hf)
     ·exact .inr ⟨b1,k1,c1,c2,c3.trans a3,Nat.le_trans h'.ext.wl c4⟩
 frame:=by
  intro c hc H;have s1:w1.heap[c]? = w.heap[c]?:=h.frame c hc fun b k hb hl he=>Nat.lt_of_lt_of_le (H b k hb hl he) h'.ext.wl;refine(h'.frame c (Nat.lt_of_lt_of_le hc h.size) ?_).trans s1;intro b k hb hl he;cases hj:j b with
  | some k' =>
   have e:=h.le b k' hj;rw[hb] at e; cases e;refine H b k hj ?_ he;cases hm:m.get b with
   | some o=>rfl
   | none=>rw[h.ext.dead b (h0.lt b k hj).1 hm] at hl; cases hl
  | none =>
   rcases h.fresh b k hb hj with hf|⟨b1,k1,c1,c2,c3,c4⟩
   ·omega
   ·have:=H b1 k1 c1 c2 (c3.trans he);have:=h'.ext.wl;omega
def aH.set (j:aH) (b:Nat) (k:Blk):aH:=fun x=>if x=b then some k else j x
theorem aH.bX (j:aH) (b:Nat) (k:Blk):j.set b k b=some k:=by simp[aH.set]
theorem aH.bJ (j:aH) {b x:Nat} (k:Blk) (h:x≠b):j.set b k x=j x:=by simp[aH.set,h]
theorem aH.lX {j:aH} {b:Nat} (k:Blk) (h:j b=none):j.le (j.set b k):=fun x k' hx=>by
 by_cases e:x=b
 ·subst e; rw[h] at hx; cases hx
 ·rw[aH.bJ _ _ e]; exact hx
theorem AMem.aX (m:AMem) (o:AObj) (b:Nat):(m.alloc o).get b=if b=m.next then some o else m.get b:=by
 unfold AMem.alloc AMem.get;simp only[Heap.bO]
 by_cases h:b=m.next<;>simp[h]
theorem AMem.bO (m:AMem) (b x:Nat) (o:AObj):(m.set b o).get x=if x=b then some o else m.get x:=by
 unfold AMem.set AMem.get;simp only[Heap.bO]
 by_cases h:x=b<;>simp[h]
theorem AMem.fx (m:AMem) (b x:Nat):(m.kill b).get x=if x=b then none else m.get x:=by
 unfold AMem.kill AMem.get;simp only[Heap.bO]
 by_cases h:x=b<;>simp[h]
@[simp] theorem AMem.next_alloc (m:AMem) (o:AObj):(m.alloc o).next=m.next+1:=rfl
@[simp] theorem AMem.next_set (m:AMem) (b:Nat) (o:AObj):(m.set b o).next=m.next:=rfl
@[simp] theorem AMem.next_kill (m:AMem) (b:Nat):(m.kill b).next=m.next:=rfl
@[simp] theorem AMem.wl_alloc (m:AMem) (o:AObj):(m.alloc o).wl=m.wl:=rfl
@[simp] theorem AMem.wl_set (m:AMem) (b:Nat) (o:AObj):(m.set b o).wl=min m.wl b:=rfl
@[simp] theorem AMem.wl_kill (m:AMem) (b:Nat):(m.kill b).wl=min m.wl b:=rfl
theorem AExt.alloc (m:AMem) (o:AObj):AExt m (m.alloc o) :=
 ⟨Nat.le_succ _,Nat.le_refl _,fun b h _=>by rw[AMem.aX,if_neg (by omega)],fun b h hn=>by rw[AMem.aX,if_neg (by omega)]; exact hn⟩
theorem AExt.set {m:AMem} {b:Nat} (o:AObj) (hb:(m.get b).isSome=true):AExt m (m.set b o) :=
 ⟨Nat.le_refl _,Nat.min_le_left _ _,fun x _ h=>by
  rw[AMem.bO,if_neg]; intro e; subst e; simp at h; omega,
 fun x _ hn=>by
  rw[AMem.bO,if_neg]
  ·exact hn
  ·intro e; subst e; rw[hn] at hb; cases hb⟩
theorem AExt.kill (m:AMem) (b:Nat):AExt m (m.kill b) :=
 ⟨Nat.le_refl _,Nat.min_le_left _ _,fun x _ h=>by
  rw[AMem.fx,if_neg]; intro e; subst e; simp at h; omega,
 fun x _ hn=>by rw[AMem.fx]; split<;>first|rfl|exact hn⟩
theorem vZ {j:aH} {n:Nat} {k:Blk} {m':AMem}:∀b,n≤b→b<n+1→(m'.get b).isSome=true→∃k',j.set n k b=some k':=fun b h1 h2 _=>by
 have:b=n:=by omega
 subst this;exact⟨k,aH.bX _ _ _⟩
section
variable {E : Env} {j : aH} {m : AMem} {w : World}
theorem MR.kW (h:MR E j m w):j m.next=none:=by
 cases e:j m.next with
 | none=>rfl
 | some k=>exact absurd (h.lt _ _ e).1 (Nat.lt_irrefl _)
theorem MR.of_heap {w':World} (h:MR E j m w) (e:w'.heap=w.heap):MR E j m w' :=
 ⟨by rw[e]; exact h.lt,by rw[e]; exact h.obj,h.inj,h.glob⟩
theorem Sim.of_heap {w':World} (h:MR E j m w) (e:w'.heap=w.heap) (e2:Calm w w':=by first|exact⟨rfl,rfl,rfl,Nat.le_refl _⟩|exact⟨rfl,rfl,rfl,Nat.le_succ _⟩):Sim E j m w j m w' :=
 { Sim.refl h with mr:=h.of_heap e,size:=by rw[e]; exact Nat.le_refl _,frame:=fun c _ _=>by rw[e],calm:=e2.e}
theorem MR.rC {x:Nat} (h:MR E j m w):MR E j { m with wl:=x} w:=⟨h.lt,h.obj,h.inj,h.glob⟩
theorem kY (h:MR E j m w) {ao:AObj} {co:Obj} {mo:Option (Nat × Nat × Nat)} (ho:OR j ⟨w.heap.size,mo⟩ ao co) :
  Sim E j m w (j.set m.next ⟨w.heap.size,mo⟩) (m.alloc ao) (w.alloc co):=by
 have hle:j.le (j.set m.next ⟨w.heap.size,mo⟩):=aH.lX _ h.kW
 have hlt:∀b k,j b=some k→b≠m.next:=fun b k e=>Nat.ne_of_lt (h.lt b k e).1
 refine⟨.alloc m ao,hle,?_,⟨?_,?_,?_,?_⟩,by simp,vZ,?_,?_,?_,⟨rfl,rfl,rfl,fun _=>Nat.le_refl _⟩⟩
 ·intro b k hb hn
  by_cases e:b=m.next
  ·exact Nat.le_of_eq e.symm
  ·rw[aH.bJ _ _ e,hn] at hb; cases hb
 ·intro b k hb
  by_cases e:b=m.next
  ·subst e; rw[aH.bX] at hb; cases hb; simp
  ·rw[aH.bJ _ _ e] at hb;have:=h.lt b k hb;simp; omega
 ·intro b o k hg hb
  by_cases e:b=m.next
  ·subst e;rw[aH.bX] at hb; cases hb;rw[AMem.aX,if_pos rfl] at hg; cases hg;exact⟨co,World.alloc_heap_new w co,ho.mono hle⟩
  ·rw[aH.bJ _ _ e] at hb;rw[AMem.aX,if_neg e] at hg;obtain⟨o',h1,h2⟩:=h.obj b o k hg hb;refine⟨o',?_,h2.mono hle⟩;have hk:=(h.lt b k hb).2
   show(w.heap.push co)[k.c]? = some o'
   rw[Array.getElem?_push,if_neg (by omega)]; exact h1
 ·intro b b' k k' hb hb' hl hl' hc
  by_cases e:b=m.next<;>by_cases e':b'=m.next
  ·rw[e,e']
  ·subst e;rw[aH.bX] at hb; cases hb;rw[aH.bJ _ _ e'] at hb';exact absurd (h.lt b' k' hb').2 (by simp at hc; omega)
  ·subst e';rw[aH.bX] at hb'; cases hb';rw[aH.bJ _ _ e] at hb;exact absurd (h.lt b k hb).2 (by simp at hc; omega)
  ·rw[aH.bJ _ _ e] at hb;rw[aH.bJ _ _ e'] at hb';rw[AMem.aX,if_neg e] at hl;rw[AMem.aX,if_neg e'] at hl';exact h.inj b b' k k' hb hb' hl hl' hc
 ·intro g hg; exact hle _ _ (h.glob g hg)
 ·intro b hb _; rw[AMem.aX,if_neg (by omega)]
 ·intro b k hb hn
  by_cases e:b=m.next
  ·subst e; rw[aH.bX] at hb; cases hb; exact .inl (Nat.le_refl _)
  ·rw[aH.bJ _ _ e,hn] at hb; cases hb
 ·intro c hc _
  show(w.heap.push co)[c]? = w.heap[c]?
  rw[Array.getElem?_push,if_neg (by omega)]
theorem jG (h:MR E j m w) {b:Nat} {k:Blk} (hk:j b=some k) (hl:(m.get b).isSome=true) {ao:AObj} {co:Obj} (ho:OR j k ao co) :
  Sim E j m w j (m.set b ao) (w.putObj k.c co):=by
 refine⟨.set ao hl,.refl j,fun x k' e e'=>by simp[e'] at e,⟨?_,?_,?_,h.glob⟩,by simp,fun b h1 h2 _=>absurd h1 (by simp at h2; omega),?_,fun x k' e e'=>by simp[e'] at e,?_,⟨rfl,rfl,rfl,fun _=>Nat.le_refl _⟩⟩
 ·intro x k' e; simpa using h.lt x k' e
 ·intro x o k' hg e
  by_cases hx:x=b
  ·subst hx;rw[hk] at e; cases e;rw[AMem.bO,if_pos rfl] at hg; cases hg;exact⟨co,World.putObj_heap_same (h.lt x k hk).2,ho⟩
  ·rw[AMem.bO,if_neg hx] at hg;obtain⟨o',h1,h2⟩:=h.obj x o k' hg e;refine⟨o',?_,h2⟩;rw[World.putObj_heap_other]
   ·exact h1
   ·intro hc;exact hx (h.inj x b k' k e hk (by rw[hg]; rfl) hl hc)
 ·intro x x' k1 k2 e e' hl1 hl2 hc;refine h.inj x x' k1 k2 e e' ?_ ?_ hc
  ·rw[AMem.bO] at hl1; split at hl1
   ·rename_i hx; subst hx; exact hl
   ·exact hl1
  ·rw[AMem.bO] at hl2; split at hl2
   ·rename_i hx; subst hx; exact hl
   ·exact hl2
 ·intro x hx hn;rw[AMem.bO,if_neg]; intro e; subst e; rw[hk] at hn; cases hn
 ·intro c hc H;apply World.putObj_heap_other;intro e;have:=H b k hk hl e.symm;simp at this; omega
theorem Cd (h:MR E j m w) {b:Nat} {k0:Blk} (hk0:j b=some k0):Sim E j m w j (m.kill b) w:=by
 refine⟨.kill m b,.refl j,fun x k' e e'=>by simp[e'] at e,⟨h.lt,?_,?_,h.glob⟩,Nat.le_refl _,fun b h1 h2 _=>absurd h1 (by simp at h2; omega),?_,fun x k' e e'=>by simp[e'] at e,fun _ _ _=>rfl,⟨rfl,rfl,rfl,fun _=>Nat.le_refl _⟩⟩
 ·intro x o k hg e;rw[AMem.fx] at hg
  split at hg
  ·cases hg
  ·exact h.obj x o k hg e
 ·intro x x' k k' e e' hl hl' hc;rw[AMem.fx] at hl hl'
  split at hl
  ·cases hl
  ·split at hl'
   ·cases hl'
   ·exact h.inj x x' k k' e e' hl hl' hc
 ·intro x hx hn;rw[AMem.fx,if_neg];intro e; subst e; rw[hk0] at hn; cases hn
theorem yi (h:MR E j m w) {b:Nat} {k:Blk} (hk:j b=some k) (hl:(m.get b).isSome=true) {ao:AObj} {co:Obj} {mo:Option (Nat × Nat × Nat)} (ho:OR j ⟨k.c,mo⟩ ao co) :
  Sim E j m w (j.set m.next ⟨k.c,mo⟩) ((m.kill b).alloc ao) (w.putObj k.c co):=by
 have hle:j.le (j.set m.next ⟨k.c,mo⟩):=aH.lX _ h.kW
 have hbn:b<m.next:=(h.lt b k hk).1
 have hkc:k.c<w.heap.size:=(h.lt b k hk).2;have hget:∀x,((m.kill b).alloc ao).get x=if x=m.next then some ao else if x=b then none else m.get x:=by
  intro x; rw[AMem.aX,AMem.fx]; rfl
 refine⟨(AExt.kill m b).trans (AExt.alloc _ ao),hle,?_,⟨?_,?_,?_,fun g hg=>hle _ _ (h.glob g hg)⟩,by simp,vZ,?_,?_,?_,⟨rfl,rfl,rfl,fun _=>Nat.le_refl _⟩⟩
 ·intro x k' hx hn
  by_cases e:x=m.next
  ·exact Nat.le_of_eq e.symm
  ·rw[aH.bJ _ _ e,hn] at hx; cases hx
 ·intro x k' hx
  by_cases e:x=m.next
  ·subst e; rw[aH.bX] at hx; cases hx; simp; exact hkc
  ·rw[aH.bJ _ _ e] at hx;have:=h.lt x k' hx;simp; omega
 ·intro x o k' hg hx;rw[hget] at hg
  by_cases e:x=m.next
  ·subst e;rw[aH.bX] at hx; cases hx;rw[if_pos rfl] at hg; cases hg;exact⟨co,World.putObj_heap_same hkc,ho.mono hle⟩
  ·rw[aH.bJ _ _ e] at hx;rw[if_neg e] at hg
   split at hg
   ·cases hg
   ·rename_i hxb;obtain⟨o',h1,h2⟩:=h.obj x o k' hg hx;refine⟨o',?_,h2.mono hle⟩;rw[World.putObj_heap_other]
    ·exact h1
    ·intro hc;exact hxb (h.inj x b k' k hx hk (by rw[hg]; rfl) hl hc)
 ·intro x x' k1 k2 hx hx' hl1 hl2 hc;rw[hget] at hl1 hl2
  by_cases e:x=m.next<;>by_cases e':x'=m.next
  ·rw[e,e']
  ·subst e;rw[aH.bX] at hx; cases hx;rw[aH.bJ _ _ e'] at hx';rw[if_neg e'] at hl2
   split at hl2
   ·cases hl2
   ·rename_i hxb;exact absurd (h.inj x' b k2 k hx' hk hl2 hl hc.symm) hxb
  ·subst e';rw[aH.bX] at hx'; cases hx';rw[aH.bJ _ _ e] at hx;rw[if_neg e] at hl1
   split at hl1
   ·cases hl1
   ·rename_i hxb;exact absurd (h.inj x b k1 k hx hk hl1 hl hc) hxb
  ·rw[aH.bJ _ _ e] at hx;rw[aH.bJ _ _ e'] at hx';rw[if_neg e] at hl1;rw[if_neg e'] at hl2
   split at hl1
   ·cases hl1
   ·split at hl2
    ·cases hl2
    ·exact h.inj x x' k1 k2 hx hx' hl1 hl2 hc
 ·intro x hx hn;rw[hget,if_neg (by omega),if_neg]
  intro e; subst e; rw[hk] at hn; cases hn
 ·intro x k' hx hn
  by_cases e:x=m.next
  ·subst e; rw[aH.bX] at hx; cases hx;exact .inr ⟨b,k,hk,hl,rfl,by simp; omega⟩
  ·rw[aH.bJ _ _ e,hn] at hx; cases hx
 ·intro c hc H;apply World.putObj_heap_other;intro e;have:=H b k hk hl e.symm;simp at this; omega
theorem MR.pt (h:MR E j m w) {b:Nat} {k:Blk} (hk:j b=some k) {cs:List Value} {tag:Tag} (hg:m.get b=some (.cells cs tag)) :
  ∃c e fz,w.heap[k.c]? = some (.cells c e fz)∧mI k tag cs.length c fz∧∀(i:Nat) (v:Value),cs[i]? = some v→∃v',c[i]? = some v'∧VR j v v':=by
 obtain⟨o',h1,h2⟩:=h.obj b _ k hg hk;cases o' with
 | cells c e fz=>exact⟨c,e,fz,h1,h2.1,h2.2⟩
 | _=>exact h2.elim
theorem MR.cell (h:MR E j m w) {b:Nat} {k:Blk} (hk:j b=some k) {cs:List Value} {tag:Tag} (hg:m.get b=some (.cells cs tag)) {o:Nat} {v:Value} (hv:cs[o]? = some v) :
  ∃v',w.cell? ⟨k.c,o,none⟩=some v'∧VR j v v':=by
 obtain⟨c,e,fz,h1,_,h3⟩:=h.pt hk hg;obtain⟨v',h4,h5⟩:=h3 o v hv;exact⟨v',by simp[World.cell?,h1,h4],h5⟩
theorem ko (c o i:Nat):(⟨c,o,none⟩:Addr).add i=⟨c,o+i,none⟩:=by
 unfold Addr.add
 split
 ·rename_i e; subst e; rfl
 ·rfl
theorem qJ {b o n:Nat} {vs:List Value} (hm:m.dD b o n=some vs):∃cs tag,m.get b=some (.cells cs tag)∧vs=(cs.drop o).take n∧vs.length=n:=by
 unfold AMem.dD at hm
 split at hm
 ·rename_i cs tag hg;simp only at hm
  split at hm
  ·rename_i hl;cases hm;exact⟨cs,tag,hg,rfl,hl⟩
  ·cases hm
 ·cases hm
theorem MR.dD (h:MR E j m w) {b:Nat} {k:Blk} (hk:j b=some k) {o n:Nat} {vs:List Value} (hm:m.dD b o n=some vs) :
  ∃vs',(∀w0:World,w0.heap=w.heap→(loadCells ⟨k.c,o,none⟩ n).run E.P w0 = .ok vs'.toArray w0)∧LR j vs vs':=by
 obtain⟨cs,tag,hg,rfl,hl⟩:=qJ hm;obtain⟨c,e,fz,h1,_,h3⟩:=h.pt hk hg;have hcell:∀i,i<n→∃v v',cs[o+i]? = some v∧c[o+i]? = some v'∧VR j v v':=by
  intro i hi;have:o+i<cs.length:=by simp at hl; omega
  obtain⟨v',a,b⟩:=h3 (o+i) _ (List.getElem?_eq_getElem this);exact⟨_,v',List.getElem?_eq_getElem this,a,b⟩
 refine⟨(List.range n).map fun i=>c.getD (o+i) undef,fun w0 hw0=>run_loadCells w0 _ n _ ?_,?_⟩
 ·intro i hi;obtain⟨v,v',_,a,_⟩:=hcell i hi;rw[ko];simp[World.cell?,hw0,h1,a]
 ·refine⟨by simp; simpa using hl,fun i v hi=>?_⟩
  rw[List.getElem?_take] at hi
  split at hi
  ·rename_i hlt;rw[List.getElem?_drop] at hi;obtain⟨v1,v',a,b,r⟩:=hcell i hlt;rw[hi] at a; cases a;refine⟨v',?_,r⟩;simp[hlt,b]
  ·cases hi
theorem e8 (cs:List Value) (o:Nat):aG cs o []=cs:=by
 induction cs generalizing o with
 | nil=>cases o<;>rfl
 | cons c cs ih=>cases o<;>simp[aG,ih]
theorem cp:∀(cs:List Value) (o:Nat) (vs:List Value),(aG cs o vs).length=cs.length
 | [],0,[]=>rfl
 | [],0,_::_=>rfl
 | [],_+1,_=>rfl
 | _::_,0,[]=>rfl
 | _::cs,0,_::vs=>by simp[aG,cp cs 0 vs]
 | _::cs,o+1,vs=>by simp[aG,cp cs o vs]
theorem cg:∀(cs:List Value) (o:Nat) (vs:List Value) (i:Nat),(aG cs o vs)[i]? = if o≤i∧i<o+vs.length∧i<cs.length then vs[i-o]? else cs[i]?
 | [],0,[],i=>by simp[aG]
 | [],0,_::_,i=>by simp[aG]
 | [],_+1,_,i=>by simp[aG]
 | c::cs,0,[],i=>by simp[aG]
 | c::cs,0,v::vs,0=>by simp[aG]
 | c::cs,0,v::vs,i+1=>by
  have:=cg cs 0 vs i;simp only[aG,List.getElem?_cons_succ,this,List.length_cons,Nat.zero_le,true_and,Nat.zero_add,Nat.sub_zero,Nat.add_lt_add_iff_right]
 | c::cs,o+1,vs,0=>by simp[aG]
 | c::cs,o+1,vs,i+1=>by
  have:=cg cs o vs i;simp only[aG,List.getElem?_cons_succ,this,List.length_cons,Nat.add_le_add_iff_right,Nat.add_lt_add_iff_right,Nat.add_sub_add_right,Nat.add_right_comm o 1 vs.length]
theorem fE:∀(cs:List Value) (o:Nat) (v:Value) (vs:List Value),o<cs.length→aG cs o (v::vs)=aG (cs.set o v) (o+1) vs
 | [],_,_,_,h=>by simp at h
 | c::cs,0,v,vs,_=>by simp[aG]
 | c::cs,o+1,v,vs,h=>by simp[aG,fE cs o v vs (by simpa using h)]
theorem qM {w:World} {B o:Nat} {c:Array Value} {e:TypeId} {fz:Nat × Nat} (h:w.heap[B]? = some (.cells c e fz)) (v:Value) :
  w.setCell ⟨B,o,none⟩ v=w.putObj B (.cells (c.setIfInBounds o v) e fz):=by
 unfold World.setCell World.putObj
 congr 1
 apply Array.ext_getElem?;intro i;rw[Array.getElem?_modify,Array.getElem?_setIfInBounds]
 by_cases hi:B=i
 ·subst hi;obtain⟨hlt,hv⟩:=Array.getElem?_eq_some_iff.1 h;simp[hlt,hv]
 ·simp[hi]
theorem qT {w:World} {B:Nat} {o o':Obj}:(w.putObj B o).putObj B o'=w.putObj B o':=by
 unfold World.putObj;simp
theorem oj {w:World} {B:Nat} {o:Obj} (h:w.heap[B]? = some o):w.putObj B o=w:=by
 unfold World.putObj
 congr 1
 apply Array.ext_getElem?;intro i;rw[Array.getElem?_setIfInBounds]
 split
 ·rename_i hi; subst hi;obtain⟨hlt,hv⟩:=Array.getElem?_eq_some_iff.1 h;simp[hlt,hv]
 ·rfl
theorem fk {P:Program} {B:Nat} {e:TypeId}:∀(vs:List Value) (w:World) (c:Array Value) (off i:Nat),w.heap[B]? = some (.cells c e (0,0))→off+i+vs.length≤c.size →
  bf vs=true→(storeCells ⟨B,off,none⟩ vs i).run P w = .ok () (w.putObj B (.cells (aG c.toList (off+i) vs).toArray e (0,0)))
 | [],w,c,off,i,h,_,_=>by
  simp only[storeCells,Sem.run_pure,e8];rw[show c.toList.toArray=c from rfl,oj h]
 | v::vs,w,c,off,i,h,hlen,hone=>by
  have hlen':off+i+(vs.length+1)≤c.size:=by simpa using hlen
  have hone':lA v=true∧bf vs=true:=by simpa [bf] using hone
  have hv:v.oneCell'=true:=by
   have:=hone'.1; cases v<;>first|rfl | (simp[lA] at this)
  have hcell:w.cell? ⟨B,off+i,none⟩=some c[off+i]:=by
   simp[World.cell?,h]
  have hfz:w.frozen? ⟨B,off+i,none⟩=false:=by simp[World.frozen?,h]
  have hh:(w.putObj B (.cells (c.setIfInBounds (off+i) v) e (0,0))).heap[B]? = some (.cells (c.setIfInBounds (off+i) v) e (0,0)) :=
   World.putObj_heap_same (Array.getElem?_eq_some_iff.1 h).1
  have ih:=fk (P:=P) vs _ (c.setIfInBounds (off+i) v) off (i+1) hh (by simp; omega) hone'.2
  simp only[storeCells,Sem.run_bind,ko];rw[run_store _ _ _ _ _ hv];simp only[hcell,hfz,Result.andThen_ok,Bool.false_eq_true,if_false,qM h,ih,qT]
  congr 4
  rw[fE _ _ _ _ (by simp; omega)]
  simp[Nat.add_assoc]
theorem xG {j:aH} {v v':Value} (h:VR j v v') (ho:lA v=true):lA v'=true:=by
 cases h<;>first|rfl|exact sd ‹_› | (simp[lA] at ho)
theorem mq {j:aH} {vs vs':List Value} (h:LR j vs vs') (ho:bf vs=true):bf vs'=true:=by
 induction vs generalizing vs' with
 | nil=>rw[h.db]; rfl
 | cons v vs ih =>
  obtain⟨y,ys,rfl,h1,h2⟩:=h.cons_inv;simp only[bf,List.all_cons,Bool.and_eq_true] at ho ⊢;exact⟨xG h1 ho.1,ih h2 ho.2⟩
theorem vP {b o:Nat} {vs:List Value} {m':AMem} (hm:m.dh b o vs=some m') :
  (vs = []∧m'=m)∨∃cs tag,m.get b=some (.cells cs tag)∧tag≠.ro∧o+vs.length≤cs.length∧m'=m.set b (.cells (aG cs o vs) tag):=by
 unfold AMem.dh at hm
 split at hm
 ·cases hm; exact .inl ⟨rfl,rfl⟩
 ·split at hm
  ·cases hm
  ·rename_i cs tag hro hg
   split at hm
   ·rename_i hl;cases hm;exact .inr ⟨cs,tag,hg,fun e=>hro e,hl,rfl⟩
   ·cases hm
  ·cases hm
theorem ib (h:MR E j m w) {b:Nat} {k:Blk} (hk:j b=some k) {o:Nat} {vs vs':List Value} (hv:LR j vs vs') (ho:bf vs=true) {m':AMem} (hm:m.dh b o vs=some m') :
  ∃w',(storeCells ⟨k.c,o,none⟩ vs').run E.P w = .ok () w'∧Sim E j m w j m' w':=by
 rcases vP hm with⟨rfl,rfl⟩|⟨cs,tag,hg,hro,hl,rfl⟩
 ·rw[hv.db];exact⟨w,rfl,.refl h⟩
 ·obtain⟨c,e,fz,h1,h2,h3⟩:=h.pt hk hg;have hfz:fz=(0,0)∧cs.length≤c.size:=by
   cases tag with
   | ro=>exact absurd rfl hro
   | own=>exact⟨h2.2.2,by rw[h2.2.1]; exact Nat.le_refl _⟩
   | more sz=>exact⟨h2.2.2.1,h2.2.1⟩
  obtain⟨rfl,hsz⟩:=hfz;refine⟨_,fk vs' w c o 0 h1 (by rw[←hv.1]; simp; omega) (mq hv ho),jG h hk (by rw[hg]; rfl) ⟨?_,?_⟩⟩
  ·rw[cp];have:(aG c.toList (o+0) vs').toArray.size=c.size:=by simp[cp]
   exact h2.put this fun i hi=>by
    rw[List.getElem?_toArray,cg,if_neg (by rw[←hv.1]; omega)]; simp
  ·intro i v hi;rw[cg] at hi;have:(aG c.toList (o+0) vs').toArray[i]? = if o≤i∧i<o+vs'.length∧i<c.size then vs'[i-o]? else c[i]?:=by
    rw[List.getElem?_toArray,cg]; simp
   rw[this]
   by_cases hc:o≤i∧i<o+vs.length∧i<cs.length
   ·rw[if_pos hc] at hi;rw[if_pos ⟨hc.1,hv.1 ▸ hc.2.1,by omega⟩]
    exact hv.2 _ v hi
   ·rw[if_neg hc] at hi;have hi':=(List.getElem?_eq_some_iff.1 hi).1;rw[if_neg (by rw[←hv.1]; omega)]
    exact h3 i v hi
end
section
variable {P : Program} {w : World}
theorem pM {t:TypeId} {i:TypeInfo} (h:P.info? t=some i) (w:World):(typeInfo t).run P w = .ok i w:=by simp[typeInfo,h]
theorem cd {t:TypeId} (h:known P t=true) (w:World):(sizeOf t).run P w = .ok (au P t) w:=by
 simp only[known,Bool.and_eq_true,Option.isSome_iff_exists] at h;obtain⟨_,i,hi⟩:=h;simp[sizeOf,pM hi,au,Program.cellsOf,hi]
theorem mP {t:TypeId} (h:known P t=true) (w:World):(isAgg t).run P w = .ok (dI P t) w:=by
 simp only[known,Bool.and_eq_true,Option.isSome_iff_exists] at h;obtain⟨⟨d,hd⟩,_⟩:=h;simp only[isAgg,Sem.run_bind,run_underlying hd,Result.andThen_ok,dI,hd];cases d<;>rfl
theorem gX {t:TypeId} {z:Value} (h:bI P t=some z) (w:World):(zeroValue t).run P w = .ok z w:=by
 unfold bI at h;cases hi:P.info? t with
 | none=>rw[hi] at h; cases h
 | some i =>
  rw[hi] at h;have hz:i.zero=some z:=h;simp[zeroValue,pM hi,hz]
theorem tp {t:TypeId} {z:Value} (h:bI P t=some z):∃i,P.info? t=some i∧i.zero=some z:=by
 unfold bI at h;cases hi:P.info? t with
 | none=>rw[hi] at h; cases h
 | some i=>rw[hi] at h; exact⟨i,rfl,h⟩
theorem LR.extract {j:aH} {xs ys:Array Value} (h:LR j xs.toList ys.toList) (a b:Nat):LR j (xs.extract a b).toList (ys.extract a b).toList:=by
 simp only[Array.toList_extract];exact(h.drop a).take (b-a)
theorem mT {j:aH} {t:TypeId} {cs cs':Array Value} {off:Nat} {v:Value} (h:eE P t cs off=some v) (hc:LR j cs.toList cs'.toList) :
  ∃v',(∀w,(part t cs' off).run P w = .ok v' w)∧VR j v v':=by
 unfold eE at h
 split at h
 ·cases h
 ·rename_i hk;have hk':known P t=true:=by simpa using hk
  split at h
  ·rename_i ha;cases h;refine⟨.agg (cs'.extract off (off+au P t)),fun w=>?_,.xE (hc.extract _ _)⟩;simp[part,mP hk',ha,cd hk']
  ·rename_i ha;have:cs.toList[off]? = some v:=by simpa using h
   obtain⟨v',h1,h2⟩:=hc.get this;refine⟨v',fun w=>?_,h2⟩;have h1':cs'[off]? = some v':=by simpa using h1
   have ha':dI P t=false:=by simpa using ha
   simp[part,mP hk',ha',h1']
def gj (d:Nat) (xs ys:Array Value):List (TypeId × Nat)→Sem Bool
 | []=>pure true
 | (t,off)::rest=>do
  let a ←part t xs off
  let b ←part t ys off
  let r ←Op.equalIn d t a b
  if (!r)=true then pure false else gj d xs ys rest
theorem gS (d : Nat) (xs ys : Array Value) : ∀ (fs : List Field) (w : World), fs.any (·.name == "_") = false →
  (Op.eqFields d xs ys fs).run P w=(gj d xs ys (fs.map fun f=>(f.type,f.offset))).run P w
 | [],_,_=>rfl
 | f::fs,w,h=>by
  simp only[List.any_cons,Bool.or_eq_false_iff] at h;have hn : f.name ≠ "_" := by simpa using h.1
  simp only[Op.eqFields,if_pos hn,List.map_cons,gj,Sem.run_bind,Sem.run_ite]
  congr 1; funext a w1; congr 1; funext b w2; congr 1; funext r w3
  split
  ·rfl
  ·exact gS d xs ys fs w3 h.2
theorem run_equalIn_array (d:Nat) (t:TypeId) (len:Nat) (elem:TypeId) (xs ys:Array Value) (ht:P.underlying t=some (.array len elem)) (he:known P elem=true) (w:World) :
  (Op.equalIn (d+1) t (.agg xs) (.agg ys)).run P w=(gj d xs ys ((List.range len).map fun i=>(elem,i*au P elem))).run P w:=by
 simp only[Op.equalIn,Sem.run_bind,run_underlying ht,Result.andThen_ok,cd he];rw[Std.Legacy.Range.forIn_eq_forIn_range'];simp only[Std.Legacy.Range.size,Nat.sub_zero,Nat.add_sub_cancel,Nat.div_one];rw[←List.range_eq_range'];generalize List.range len=is
 induction is generalizing w with
 | nil=>simp[gj]
 | cons i is ih =>
  simp only[List.forIn_cons,List.map_cons,gj,Sem.run_bind,Sem.run_ite];generalize (part elem xs (i*au P elem)).run P w=r1;cases r1 with
  | ok a w1 =>
   simp only[Result.andThen_ok];generalize (part elem ys (i*au P elem)).run P w1=r2;cases r2 with
   | ok b w2 =>
    simp only[Result.andThen_ok];generalize (Op.equalIn d elem a b).run P w2=r3;cases r3 with
    | ok r w3 =>
     cases r
     ·simp only[Result.andThen_ok,Bool.not_false,if_true,Sem.run_pure]
     ·simp only[Result.andThen_ok,Bool.not_true,Bool.false_eq_true,if_false,Sem.run_pure];exact ih w3
    | halt x w3=>simp[Result.andThen]
   | halt x w2=>simp[Result.andThen]
  | halt x w1=>simp[Result.andThen]
theorem km {j:aH} {d:Nat} (ih:∀{t:TypeId} {x y x' y':Value} {b:Bool},jv P d t x y=some b→VR j x x'→VR j y y'→∀w,(Op.equalIn d t x' y').run P w = .ok b w)
  {xs ys xs' ys':Array Value} (hx:LR j xs.toList xs'.toList) (hy:LR j ys.toList ys'.toList) :
  ∀(l:List (TypeId × Nat)) {b:Bool},gF (jv P d) P xs ys l=some b→∀w,(gj d xs' ys' l).run P w = .ok b w
 | [],b,h,w=>by cases h; rfl
 | (t,off)::rest,b,h,w=>by
  simp only[gF] at h
  split at h
  ·rename_i x y h1 h2;obtain⟨x',e1,r1⟩:=mT h1 hx;obtain⟨y',e2,r2⟩:=mT h2 hy;simp only[gj,Sem.run_bind,e1,e2,Result.andThen_ok]
   split at h
   ·rename_i he;rw[ih he r1 r2 w];simp only[Result.andThen_ok,Bool.not_true,Bool.false_eq_true,if_false];exact km ih hx hy rest h w
   ·rename_i hne;cases b with
    | true=>exact absurd h hne
    | false =>
     rw[ih h r1 r2 w];simp
  ·cases h
theorem jy {j:aH}:∀(d:Nat) {t:TypeId} {x y x' y':Value} {b:Bool},jv P d t x y=some b→VR j x x'→VR j y y'→∀w,(Op.equalIn d t x' y').run P w = .ok b w
 | 0,_,_,_,_,_,_,h,_,_,_=>by cases h
 | d+1,t,x,y,x',y',b,h,hx,hy,w=>by
  unfold jv at h
  split at h
  ·rename_i ht; cases h; cases hx; cases hy; simp only[Op.equalIn,Sem.run_bind,run_underlying ht,Result.andThen_ok,Sem.run_pure]
  ·rename_i ht
   split at h
   ·rename_i hk; cases h; cases hx; cases hy; simp only[Op.equalIn,Sem.run_bind,run_underlying ht,Result.andThen_ok,Sem.run_pure,if_pos hk]
   ·cases h
  ·rename_i ht; cases h; cases hx; cases hy; simp only[Op.equalIn,Sem.run_bind,run_underlying ht,Result.andThen_ok,Sem.run_pure]
  ·rename_i ht; cases h; cases hx; cases hy<;>simp only[Op.equalIn,Sem.run_bind,run_underlying ht,Result.andThen_ok,Sem.run_pure]<;>rfl
  ·rename_i ht; cases h; cases hx; cases hy; simp only[Op.equalIn,Sem.run_bind,run_underlying ht,Result.andThen_ok,Sem.run_pure]
  ·rename_i ht; cases h; cases hx; cases hy<;>simp only[Op.equalIn,Sem.run_bind,run_underlying ht,Result.andThen_ok,Sem.run_pure]<;>rfl
  ·rename_i ht; cases h; cases hy; cases hx<;>simp only[Op.equalIn,Sem.run_bind,run_underlying ht,Result.andThen_ok,Sem.run_pure]
  ·rename_i ht; cases h; cases hx; cases hy<;>simp only[Op.equalIn,Sem.run_bind,run_underlying ht,Result.andThen_ok,Sem.run_pure]<;>rfl
  ·rename_i ht; cases h; cases hy; cases hx<;>simp only[Op.equalIn,Sem.run_bind,run_underlying ht,Result.andThen_ok,Sem.run_pure]
  ·rename_i ht; cases h; cases hx; cases hy; simp only[Op.equalIn,Sem.run_bind,run_underlying ht,Result.andThen_ok,Sem.run_pure]
  ·rename_i ht; cases h; cases hx; cases hy<;>simp only[Op.equalIn,Sem.run_bind,run_underlying ht,Result.andThen_ok,Sem.run_pure]
  ·rename_i ht; cases h; cases hy; cases hx<;>simp only[Op.equalIn,Sem.run_bind,run_underlying ht,Result.andThen_ok,Sem.run_pure]
  ·rename_i fs xs ys ht
   split at h
   ·cases h
   ·rename_i hs;simp only[Bool.or_eq_true,not_or,Bool.not_eq_true] at hs;cases hx with
    | agg h1 h2 =>
    cases hy with
    | agg h3 h4 =>
    have hf:P.fieldsOf t=fs:=by simp[Program.fieldsOf,ht]
    rw[run_equalIn_struct _ d t _ _ (by rw[hf]; exact ht) hs.1,hf,gS _ _ _ _ _ (by simpa using hs.2)]
    exact km (fun a b c w=>jy d a b c w) (LR.eO h1 h2) (LR.eO h3 h4) _ h w
  ·rename_i len elem xs ys ht
   split at h
   ·rename_i hk;cases hx with
    | agg h1 h2 =>
    cases hy with
    | agg h3 h4 =>
    rw[run_equalIn_array d t len elem _ _ ht hk];exact km (fun a b c w=>jy d a b c w) (LR.eO h1 h2) (LR.eO h3 h4) _ h w
   ·cases h
  ·cases h
end
def lN (P:Program) (s:Sem Value) (v:Value):Prop:=∀w,s.run P w = .ok v w
section
variable {P : Program} {j : aH}
theorem dG (op:BinOp) (t:TypeId) (x y:Operand) {a b:Value} (h1:∀xs ys,a = .agg xs→b = .agg ys→False) (h2:a≠.nilIface) (w:World) :
  (eqGuard op t x y a b).run P w = .ok () w:=by
 unfold eqGuard;cases op<;>simp only[Bool.not_false,Bool.not_true,if_true,Bool.false_eq_true,if_false,Sem.run_pure]<;>
  (split
   ·exact absurd rfl h2
   ·exact(h1 _ _ rfl rfl).elim
   ·rfl)
def lf:Value→Bool
 | .bool _ | .pointer _ | .slice _ _ _ | .map _ | .func _ _ _ | .nilFunc=>true
 | _=>false
theorem binOp_eql {t:TypeId} {x y:Value} (h:lf x=true):binOp .eql t x y=(do pure (.bool (←Op.equal t x y))):=by
 cases x<;>first | (simp[lf] at h; done) | (cases y<;>rfl)
theorem binOp_neq {t:TypeId} {x y:Value} (h:lf x=true):binOp .neq t x y=(do pure (.bool (!(←Op.equal t x y)))):=by
 cases x<;>first | (simp[lf] at h; done) | (cases y<;>rfl)
theorem FJ {op:BinOp} {t:TypeId} {x y x' y' v:Value} (h:bA op t P x y=some v) (hx:VR j x x') (hy:VR j y y') (ox oy:Operand) :
  ∃v',lN P (do eqGuard op t ox oy x' y'; binOp op t x' y') v'∧VR j v v':=by
 unfold bA at h
 split at h
 case h_1 =>
  cases hx; cases hy
  split at h
  ·cases h
  ·rename_i hb;cases h;refine⟨_,fun w=>?_,.int _ _⟩;rw[Sem.run_bind,dG _ _ _ _ (by intro _ _ e; cases e) (by intro e; cases e)]
   simp only[Result.andThen_ok,binOp,Op.shift,if_neg hb,Sem.run_pure]
 case h_2 =>
  cases hx; cases hy
  split at h
  ·cases h
  ·rename_i hb;cases h;refine⟨_,fun w=>?_,.int _ _⟩;rw[Sem.run_bind,dG _ _ _ _ (by intro _ _ e; cases e) (by intro e; cases e)]
   simp only[Result.andThen_ok,binOp,Op.shift,if_neg hb,Sem.run_pure]
 case h_12 =>
  cases hx; cases hy
  split at h
  ·rename_i hk
   split at h
   ·cases h
   ·rename_i hb;cases h;refine⟨_,fun w=>?_,.int _ _⟩;rw[Sem.run_bind,dG _ _ _ _ (by intro _ _ e; cases e) (by intro e; cases e)]
    simp only[Result.andThen_ok,binOp,hk,ne_eq,not_true_eq_false,if_false,Op.intDiv,if_neg hb,Sem.run_pure]
  ·cases h
 case h_13 =>
  cases hx; cases hy
  split at h
  ·rename_i hk
   split at h
   ·cases h
   ·rename_i hb;cases h;refine⟨_,fun w=>?_,.int _ _⟩;rw[Sem.run_bind,dG _ _ _ _ (by intro _ _ e; cases e) (by intro e; cases e)]
    simp only[Result.andThen_ok,binOp,hk,ne_eq,not_true_eq_false,if_false,Op.intDiv,if_neg hb,Sem.run_pure]
  ·cases h
 case h_18 =>
  cases h; cases hx; cases hy;refine⟨_,fun w=>?_,.bool _⟩;rw[Sem.run_bind,dG _ _ _ _ (by intro _ _ e; cases e) (by intro e; cases e)]
  simp only[Result.andThen_ok,binOp,Op.stringOp,Sem.run_pure,beq_toListBytes]
 case h_19 =>
  cases h; cases hx; cases hy;refine⟨_,fun w=>?_,.bool _⟩;rw[Sem.run_bind,dG _ _ _ _ (by intro _ _ e; cases e) (by intro e; cases e)]
  simp only[Result.andThen_ok,binOp,Op.stringOp,Sem.run_pure,bne,beq_toListBytes]
 case h_20=>cases h
 case h_21 =>
  cases hx with
  | agg h1 h2 =>
  cases hy with
  | agg h3 h4 =>
  split at h
  ·cases h
  ·rename_i hg;cases he:jv P Op.maxDepth t (.agg _) (.agg _) with
   | none=>rw[he] at h; cases h
   | some b =>
    rw[he] at h; cases h;refine⟨_,fun w=>?_,.bool _⟩;have:=jy (P:=P) Op.maxDepth he (.agg h1 h2) (.agg h3 h4) w;have hg':P.eqGuardType P.depth t=false:=by simpa using hg
    rw[Sem.run_bind,run_eqGuard_agg w _ _ _ _ _ _ hg'];simp only[Result.andThen_ok,binOp,Op.equal,Sem.run_bind,this,Sem.run_pure]
 case h_22 =>
  cases hx with
  | agg h1 h2 =>
  cases hy with
  | agg h3 h4 =>
  split at h
  ·cases h
  ·rename_i hg;cases he:jv P Op.maxDepth t (.agg _) (.agg _) with
   | none=>rw[he] at h; cases h
   | some b =>
    rw[he] at h; cases h;refine⟨_,fun w=>?_,.bool _⟩;have:=jy (P:=P) Op.maxDepth he (.agg h1 h2) (.agg h3 h4) w;have hg':P.eqGuardType P.depth t=false:=by simpa using hg
    rw[Sem.run_bind,run_eqGuard_agg w _ _ _ _ _ _ hg'];simp only[Result.andThen_ok,binOp,Op.equal,Sem.run_bind,this,Sem.run_pure]
 case h_23 =>
  have key:lf x'=true∧∃b,jv P Op.maxDepth t x y=some b∧v = .bool b:=by
   split at h<;>first
    | (cases h; done)
    | (refine⟨?_,?_⟩
       ·cases hx<;>rfl
       ·cases he:jv P Op.maxDepth t _ y with
        | none=>rw[he] at h; cases h
        | some b=>rw[he] at h; cases h; exact⟨b,rfl,rfl⟩)
  obtain⟨hs,b,he,rfl⟩:=key;refine⟨_,fun w=>?_,.bool b⟩;rw[Sem.run_bind,dG _ _ _ _ (by intro _ _ e; subst e; cases hs) (by intro e; subst e; cases hs),Result.andThen_ok,binOp_eql hs]
  simp only[Op.equal,Sem.run_bind,jy _ he hx hy,Result.andThen_ok,Sem.run_pure]
 case h_24 =>
  have key:lf x'=true∧∃b,jv P Op.maxDepth t x y=some b∧v = .bool (!b):=by
   split at h<;>first
    | (cases h; done)
    | (refine⟨?_,?_⟩
       ·cases hx<;>rfl
       ·cases he:jv P Op.maxDepth t _ y with
        | none=>rw[he] at h; cases h
        | some b=>rw[he] at h; cases h; exact⟨b,rfl,rfl⟩)
  obtain⟨hs,b,he,rfl⟩:=key;refine⟨_,fun w=>?_,.bool (!b)⟩;rw[Sem.run_bind,dG _ _ _ _ (by intro _ _ e; subst e; cases hs) (by intro e; subst e; cases hs),Result.andThen_ok,binOp_neq hs]
  simp only[Op.equal,Sem.run_bind,jy _ he hx hy,Result.andThen_ok,Sem.run_pure]
 case h_25=>cases h
 all_goals
  cases hx; cases hy
  split at h
  ·rename_i hk;cases h;refine⟨_,fun w=>?_,(by first|exact .bool _|exact .int _ _)⟩
   rw[Sem.run_bind,dG _ _ _ _ (by intro _ _ e; cases e) (by intro e; cases e)]
   simp only[Result.andThen_ok,binOp,hk,ne_eq,not_true_eq_false,if_false,Op.intArith,Op.intBits,Op.intCmp,Sem.run_pure]
  ·cases h
theorem Ig {op:UnOp} {x x' v:Value} (h:xA op x=some v) (hx:VR j x x'):∃v',lN P (Op.unary op x') v'∧VR j v v':=by
 unfold xA at h
 split at h
 ·cases h; cases hx; exact⟨_,fun w=>rfl,.int _ _⟩
 ·cases h; cases hx; exact⟨_,fun w=>rfl,.int _ _⟩
 ·cases h; cases hx; exact⟨_,fun w=>rfl,.bool _⟩
 ·cases h
theorem C2 {s d:TypeId} {x x' v:Value} (h:fg P s d x=some v) (hx:VR j x x'):∃v',lN P (convert s d x') v'∧VR j v v':=by
 unfold fg at h
 split at h
 ·rename_i e1 e2;cases h; cases hx;refine⟨_,fun w=>?_,.int _ _⟩;simp only[convert,Sem.run_bind,run_underlying e1,run_underlying e2,Result.andThen_ok,Conv.intToInt,Sem.run_pure]
 ·rename_i e1 e2;cases h; cases hx;refine⟨_,fun w=>?_,.string _⟩;simp only[convert,Sem.run_bind,run_underlying e1,run_underlying e2,Result.andThen_ok]
  rfl
 ·cases h
end
section
variable {P : Program} {j : aH}
theorem zW {v:Value} (h:lA v=true):v.cells.toList = [v]:=by
 cases v<;>first|rfl | (simp[lA] at h)
theorem gr {v v':Value} (h:VR j v v'):LR j v.cells.toList v'.cells.toList:=by
 cases h with
 | junk h=>rw[zW (sd h)]; exact LR.cons (.junk h) (.nil j)
 | agg h1 h2=>exact LR.eO h1 h2
 | bool b=>exact LR.cons (.bool b) (.nil j)
 | int k n=>exact LR.cons (.int k n) (.nil j)
 | string s=>exact LR.cons (.string s) (.nil j)
 | pnil=>exact LR.cons .pnil (.nil j)
 | ptr h=>exact LR.cons (.ptr h) (.nil j)
 | snil l c=>exact LR.cons (.snil l c) (.nil j)
 | slice h hm=>exact LR.cons (.slice h hm) (.nil j)
 | sliceM h hm h1 h2 hl hc=>exact LR.cons (.sliceM h hm h1 h2 hl hc) (.nil j)
 | gq=>exact LR.cons .gq (.nil j)
 | dry=>exact LR.cons .dry (.nil j)
 | mnil=>exact LR.cons .mnil (.nil j)
 | map h=>exact LR.cons (.map h) (.nil j)
 | func h1 h2 h3 h4=>exact LR.cons (.func h1 h2 h3 h4) (.nil j)
 | yield h h1 h2=>exact LR.cons (.yield h h1 h2) (.nil j)
 | nilFunc=>exact LR.cons .nilFunc (.nil j)
 | nilIface=>exact LR.cons .nilIface (.nil j)
 | tuple h1 h2=>exact LR.cons (.tuple h1 h2) (.nil j)
theorem LR.GN {cs cs' vs vs':List Value} (h:LR j cs cs') (hv:LR j vs vs') (o:Nat):LR j (aG cs o vs) (aG cs' o vs') :=
 ⟨by rw[cp,cp,h.1],fun i v hi=>by
  rw[cg] at hi ⊢;rw[←hv.1,←h.1]
  split at hi
  ·rename_i hc; rw[if_pos hc]; exact hv.2 _ v hi
  ·rename_i hc; rw[if_neg hc]; exact h.2 _ v hi⟩
theorem mW (off:Nat):∀(l:List Value) (k:Nat) (cs:Array Value),off+k+l.length≤cs.size →
  (l.zipIdx k).foldl (fun(cs:Array Value) (x:Value × Nat)=>cs.setIfInBounds (off+x.2) x.1) cs=(aG cs.toList (off+k) l).toArray
 | [],k,cs,_=>by simp[e8]
 | v::l,k,cs,h=>by
  have h':off+k+(l.length+1)≤cs.size:=by simpa using h
  simp only[List.zipIdx_cons,List.foldl_cons];rw[mW off l (k+1) _ (by simp; omega),fE _ _ _ _ (by simp; omega)]
  simp[Nat.add_assoc]
theorem mQ {place:Nat→Option (Nat × Nat)}:∀{ps:List (Nat × Value)} {ps':List (Nat × Value)} {cells cells' r:List Value},ps.map (·.1)=ps'.map (·.1)→LR j (ps.map (·.2)) (ps'.map (·.2)) →
  LR j cells cells'→gz place cells ps=some r→∃r',Instr.fill place cells'.toArray ps'=some r'.toArray∧LR j r r'
 | [],ps',cells,cells',r,h1,_,hc,h=>by
  cases ps' with
  | nil=>cases h; exact⟨cells',rfl,hc⟩
  | cons _ _=>simp at h1
 | (i,v)::rest,ps',cells,cells',r,h1,h2,hc,h=>by
  cases ps' with
  | nil=>simp at h1
  | cons p rest' =>
   obtain⟨i',v'⟩:=p;simp only[List.map_cons,List.cons.injEq] at h1;obtain⟨rfl,h1⟩:=h1;have hv:=h2.head;have hrest:=h2.tail;simp only[gz] at h
   split at h
   ·cases h
   ·rename_i off size hp
    split at h
    ·cases h
    ·rename_i hcond;have hcells:=gr hv;have hsz:v.cells.size=v'.cells.size:=by simpa using hcells.1
     have hlen:cells.length=cells'.length:=hc.1;have hcond':¬((v'.cells.size≠size || off+v'.cells.size>cells'.toArray.size)=true):=by
      rw[←hsz]; simpa [←hlen] using hcond
     simp only[Instr.fill,hp,if_neg hcond'];have hle:off+0+v'.cells.toList.length≤cells'.toArray.size:=by
      simp only[Bool.or_eq_true,not_or,decide_eq_true_eq] at hcond';simp; have:=hcond'.2; simp at this; omega
     have hfold:=mW off v'.cells.toList 0 cells'.toArray hle;have hz:v'.cells.zipIdx.foldl (fun cs x=>cs.setIfInBounds (off+x.2) x.1) cells'.toArray=(aG cells' off v'.cells.toList).toArray:=by
      rw[←Array.foldl_toList,Array.toList_zipIdx];exact hfold
     rw[show(v'.cells.zipIdx.foldl (fun cs (x:Value × Nat)=>match x with | (c,j)=>cs.setIfInBounds (off+j) c) cells'.toArray)=(aG cells' off v'.cells.toList).toArray from hz]
     exact mQ h1 hrest (hc.GN hcells off) h
theorem rK:∀(l:List Field) (w:World),l.all (fun f=>known P f.type)=true →
  (l.mapM fun(f:Field)=>(do pure (f.offset,←sizeOf f.type):Sem (Nat × Nat))).run P w = .ok (l.map fun f=>(f.offset,au P f.type)) w
 | [],w,_=>rfl
 | f::l,w,h=>by
  simp only[List.all_cons,Bool.and_eq_true] at h;simp only[List.mapM_cons,Sem.run_bind,cd h.1,Result.andThen_ok,Sem.run_pure,rK l w h.2,List.map_cons]
theorem CI (fields:Array Field) (h:fields.toList.all (fun f=>known P f.type)=true) (w:World) :
  (fields.mapM fun(f:Field)=>(do pure (f.offset,←sizeOf f.type):Sem (Nat × Nat))).run P w = .ok (fields.map fun f=>(f.offset,au P f.type)) w:=by
 obtain⟨l⟩:=fields;simp only[List.mapM_toArray,Sem.run_map,List.map_toArray];rw[rK l w h]; rfl
theorem zX {t:TypeId} {ps ps':List (Nat × Value)} {v:Value} (h:ju P t ps=some v) (h1:ps.map (·.1)=ps'.map (·.1)) (h2:LR j (ps.map (·.2)) (ps'.map (·.2)))
  {z:Value} (hz:bI P t=some z) (hp:bg z=true):∃v',lN P (Instr.build t ps'.toArray) v'∧VR j v v':=by
 have hzc:LR j z.cells.toList z.cells.toList:=gr (VR.bg hp);unfold ju at h;rw[hz] at h
 split at h
 ·rename_i z0 fields hz0 hu;cases hz0
  split at h
  ·rename_i hall;cases hf:gz (fun i=>(fields[i]?).map fun f=>(f.offset,au P f.type)) z.cells.toList ps with
   | none=>rw[hf] at h; cases h
   | some r =>
    rw[hf] at h; cases h;obtain⟨r',h3,h4⟩:=mQ h1 h2 hzc hf;refine⟨.agg r'.toArray,fun w=>?_,.xE (by simpa using h4)⟩
    have hpl:(fun(i:Nat)=>(fields.map fun(f:Field)=>(f.offset,au P f.type))[i]?)=fun i=>(fields[i]?).map fun(f:Field)=>(f.offset,au P f.type):=by
     funext i; simp
    simp only[Instr.build,Sem.run_bind,gX hz,run_underlying hu,Result.andThen_ok,CI fields hall,hpl];have h3':Instr.fill _ z.cells ps'=some r'.toArray:=h3;rw[h3']; rfl
  ·cases h
 ·rename_i z0 n elem hz0 hu;cases hz0
  split at h
  ·rename_i hk;cases hf:gz (fun i=>some (i*au P elem,au P elem)) z.cells.toList ps with
   | none=>rw[hf] at h; cases h
   | some r =>
    rw[hf] at h; cases h;obtain⟨r',h3,h4⟩:=mQ h1 h2 hzc hf;refine⟨.agg r'.toArray,fun w=>?_,.xE (by simpa using h4)⟩
    simp only[Instr.build,Sem.run_bind,gX hz,run_underlying hu,Result.andThen_ok,cd hk];have h3':Instr.fill _ z.cells ps'=some r'.toArray:=h3;rw[h3']; rfl
  ·cases h
 ·cases h
theorem gL {x x':Value} {y l:Nat} (h:jB x y=some l) (hx:VR j x x') {y':Nat} (hy:y≤y') (code:BoundsCode) (w:World) :
  (Instr.sliceBound x' y' code).run P w = .ok l w∧l≤y:=by
 unfold jB at h
 split at h
 ·rename_i k i
  split at h
  ·rename_i hc;cases h;cases hx;refine⟨?_,by omega⟩
   simp only[Instr.sliceBound,asIntOf,Sem.run_bind,Sem.run_pure,Result.andThen_ok];rw[if_pos ⟨hc.1,by omega⟩]; rfl
  ·cases h
 ·cases h
def fX (mx:Option Value) (c m:Nat):Nat:=match mx with|none=>c|some _=>m
inductive OVR (j:aH):Option Value→Option Value→Prop
 | none:OVR j none none
 | some {v v':Value} (h:VR j v v'):OVR j (some v) (some v')
theorem gY {len cap:Nat} {lo hi mx:Option Value} {l h m:Nat} (e:eA len cap lo hi mx=some (l,h,m)):l≤h∧m≤cap∧(hi.isSome=true→h≤m)∧(hi=none→h=len∧mx=none)∧(mx=none→m=cap):=by
 have hb:∀(x:Value) (y l:Nat),jB x y=some l→l≤y:=by
  intro x y l h;unfold jB at h
  split at h
  ·split at h
   ·rename_i hc; cases h; omega
   ·cases h
  ·cases h
 unfold eA at e
 split at e
 ·cases e
 ·rename_i m' hm
  split at e
  ·cases e
  ·rename_i h' hh
   split at e
   ·cases e
   ·rename_i l' hl;cases e;have h1:m≤cap:=by
     cases mx with
     | none=>simp at hm; omega
     | some v=>exact hb _ _ _ hm
    have h2:hi.isSome=true→h≤m:=by
     cases hi with
     | none=>intro e; cases e
     | some v=>intro _; cases mx<;>exact hb _ _ _ hh
    have h3:hi=none→h=len∧mx=none:=by
     intro e; subst e;cases mx with
     | none=>simp at hh; exact⟨hh.symm,rfl⟩
     | some v=>simp at hh
    have h4:l≤h:=by
     cases lo with
     | none=>simp at hl; omega
     | some v=>exact hb _ _ _ hl
    have h5:mx=none→m=cap:=by intro e; subst e; simpa using hm.symm
    exact⟨h4,h1,h2,h3,h5⟩
theorem er {len cap cap':Nat} {lo hi mx lo' hi' mx':Option Value} {l h m:Nat} (e:eA len cap lo hi mx=some (l,h,m)) (h1:OVR j lo lo') (h2:OVR j hi hi') (h3:OVR j mx mx') (hc:cap≤cap') (b:Bool) (w:World) :
  (Instr.sliceBounds b len cap' lo' hi' mx').run P w = .ok (l,h,fX mx cap' m) w:=by
 unfold eA at e
 split at e
 ·cases e
 ·rename_i m' hm
  split at e
  ·cases e
  ·rename_i h' hh
   split at e
   ·cases e
   ·rename_i l' hl;cases e;cases h3 with
    | none =>
     have hm':cap=m:=by simpa using hm
     subst hm';cases h2 with
     | none =>
      have hh':len=h:=by simpa using hh
      subst hh';cases h1 with
      | none =>
       have:0=l:=by simpa using hl
       subst this;simp only[fX,Instr.sliceBounds,Sem.run_bind,Sem.run_pure,Result.andThen_ok]
      | some r1 =>
       have:=(gL (P:=P) (by simpa using hl) r1 (Nat.le_refl _) .sliceB w).1
       simp only[fX,Instr.sliceBounds,Sem.run_bind,Sem.run_pure,Result.andThen_ok,Option.isSome_none,Bool.false_eq_true,if_false,this]
     | some r2 =>
      have e2:=gL (P:=P) (by simpa using hh) r2 hc (if b then .sliceAcap else .sliceAlen) w
      cases h1 with
      | none =>
       have:0=l:=by simpa using hl
       subst this;simp only[fX,Instr.sliceBounds,Sem.run_bind,Sem.run_pure,Result.andThen_ok,e2.1]
      | some r1 =>
       have:=(gL (P:=P) (by simpa using hl) r1 (Nat.le_refl _) .sliceB w).1
       simp only[fX,Instr.sliceBounds,Sem.run_bind,Sem.run_pure,Result.andThen_ok,Option.isSome_none,Bool.false_eq_true,if_false,e2.1,this]
    | some r3 =>
     have e3:=gL (P:=P) (by simpa using hm) r3 hc (if b then .slice3Acap else .slice3Alen) w
     cases h2 with
     | none=>simp at hh
     | some r2 =>
      have e2:=(gL (P:=P) (by simpa using hh) r2 (Nat.le_refl _) .slice3B w).1
      cases h1 with
      | none =>
       have:0=l:=by simpa using hl
       subst this;simp only[fX,Instr.sliceBounds,Sem.run_bind,Sem.run_pure,Result.andThen_ok,e2,e3.1]
      | some r1 =>
       have:=(gL (P:=P) (by simpa using hl) r1 (Nat.le_refl _) .slice3C w).1
       simp only[fX,Instr.sliceBounds,Sem.run_bind,Sem.run_pure,Result.andThen_ok,Option.isSome_some,if_true,e2,e3.1,this]
theorem eD (c o i:Nat):(⟨c,o,none⟩:Addr).add i=⟨c,o+i,none⟩:=by
 unfold Addr.add
 split
 ·rename_i e; subst e; rfl
 ·rfl
theorem MR.kindOf {E:Env} {m:AMem} {w:World} (h:MR E j m w) {b:Nat} {k:Blk} (hk:j b=some k) {cs:List Value} {tag:Tag} (hg:m.get b=some (.cells cs tag)) :
  match tag with
  | .more sz=>∃nc,k.more=some (sz,cs.length,nc)∧0<sz
  | _=>k.more=none:=by
 obtain⟨o',h1,h2⟩:=h.obj b _ k hg hk;cases o' with
 | cells c e fz =>
  have:=h2.1;cases tag with
  | ro=>exact this.1
  | own=>exact this.1
  | more sz=>exact⟨_,this.1,this.2.2.2.1⟩
 | _=>exact h2.elim
theorem z8 {E:Env} {m:AMem} {w:World} (h:MR E j m w) {t:TypeId} {x x' v:Value} {lo hi mx lo' hi' mx':Option Value} (e:cz E.P t x lo hi mx m=some v) (hx:VR j x x') (h1:OVR j lo lo') (h2:OVR j hi hi') (h3:OVR j mx mx') :
  ∃v',lN E.P (Instr.sliceAt t x' lo' hi' mx') v'∧VR j v v':=by
 unfold cz at e
 split at e
 ·
  rename_i elem len cap hu
  split at e
  ·rename_i hk
   split at e
   ·rename_i l hh mm hb;cases e; cases hx;refine⟨_,fun w=>?_,.snil _ _⟩;have:=er (P:=E.P) (cap':=cap) hb h1 h2 h3 (Nat.le_refl _) true w;have hm:fX mx cap mm=mm:=by
     cases mx with
     | none=>exact((gY hb).2.2.2.2 rfl).symm
     | some _=>rfl
    rw[hm] at this;simp only[Instr.sliceAt,Instr.slice,Sem.run_bind,run_underlying hu,Result.andThen_ok,this,cd hk,Sem.run_pure]
    split<;>rfl
   ·cases e
  ·cases e
 ·rename_i elem b o len cap hu
  split at e
  ·rename_i hk
   split at e
   ·rename_i cs sz hg
    split at e
    ·cases e
    ·rename_i hsz;have hsz:sz=au E.P elem:=Decidable.of_not_not hsz;cases hx with
     | slice hj hm =>
      have:=h.kindOf hj hg;simp only at this;obtain⟨nc,hmm,_⟩:=this;rw[hm] at hmm; cases hmm
     | sliceM hj hm e1 e2 hl hc =>
      rename_i cap' sz' na nc k;have hkd:=h.kindOf hj hg;simp only at hkd;obtain⟨nc',hmm,hpos⟩:=hkd;rw[hm] at hmm; cases hmm;cases h3 with
      | none =>
       simp only at e
       split at e
       ·rename_i l hh mm hb;have hbl:=gY hb;have hrun:=fun w=>er (P:=E.P) (cap':=cap') hb h1 h2 .none hc true w;have hlc:l≤cap:=by
         cases hi with
         | none=>have:=hbl.2.2.2.1 rfl; omega
         | some _=>have:=hbl.2.2.1 rfl; omega
        split at e
        ·rename_i hcl;cases e;refine⟨_,fun w=>?_,.gq (a':=if cap'=l then⟨k.c,o,none⟩ else⟨k.c,o+l*au E.P elem,none⟩) (cap':=cap'-l)⟩
         have hhl:hh-l=0:=by
          cases hi with
          | none=>have:=hbl.2.2.2.1 rfl; omega
          | some _=>have:=hbl.2.2.1 rfl; omega
         simp only[Instr.sliceAt,Instr.slice,Sem.run_bind,run_underlying hu,Result.andThen_ok,hrun,cd hk,Sem.run_pure,hhl,fX]
         split
         ·rfl
         ·rw[Option.map_some,eD]
        ·rename_i hcl;cases e;refine⟨.slice (some ⟨k.c,o+l*au E.P elem,none⟩) (hh-l) (cap'-l),fun w=>?_,.sliceM hj hm ?_ ?_ ?_ ?_⟩
         ·have:¬cap'=l:=by omega
          simp only[Instr.sliceAt,Instr.slice,Sem.run_bind,run_underlying hu,Result.andThen_ok,hrun,cd hk,Sem.run_pure,if_neg this,Option.map_some,eD,fX]
         ·subst hsz; rw[←e1,Nat.sub_mul]; have:l*au E.P elem≤cap*au E.P elem:=Nat.mul_le_mul_right _ hlc; omega
         ·subst hsz; rw[←e2,Nat.sub_mul]; have:l*au E.P elem≤cap'*au E.P elem:=Nat.mul_le_mul_right _ (by omega); omega
         ·cases hi with
          | none=>have:=hbl.2.2.2.1 rfl; omega
          | some _=>have:=hbl.2.2.1 rfl; omega
         ·omega
       ·cases e
      | some r3 =>
       simp only at e
       split at e
       ·rename_i l hh mm hb
        split at e
        ·rename_i hcond;cases e;have hrun:=fun w=>er (P:=E.P) (cap':=cap') hb h1 h2 (.some r3) hc true w;refine⟨_,fun w=>?_,.dry (a':=⟨k.c,o,none⟩)⟩;simp only[Instr.sliceAt,Instr.slice,Sem.run_bind,run_underlying hu,Result.andThen_ok,hrun,cd hk,Sem.run_pure,hcond.2,hcond.1,Nat.sub_self,fX];simp
        ·cases e;have hrun:=fun w=>er (P:=E.P) (cap':=cap') hb h1 h2 (.some r3) hc true w;refine⟨.slice (some (if mm=l then⟨k.c,o,none⟩ else⟨k.c,o+l*au E.P elem,none⟩)) (hh-l) (mm-l),fun w=>?_,.junk rfl⟩
         simp only[Instr.sliceAt,Instr.slice,Sem.run_bind,run_underlying hu,Result.andThen_ok,hrun,cd hk,Sem.run_pure,fX]
         split
         ·rfl
         ·rw[Option.map_some,eD]
       ·cases e
   ·rename_i cs tag hnm hg
    split at e
    ·rename_i l hh mm hb;cases e;cases hx with
     | slice hj hm =>
      rename_i k;have hrun:=fun w=>er (P:=E.P) (cap':=cap) hb h1 h2 h3 (Nat.le_refl _) true w;have hmm:fX mx cap mm=mm:=by
       cases mx with
       | none=>exact((gY hb).2.2.2.2 rfl).symm
       | some _=>rfl
      rw[hmm] at hrun;refine⟨.slice (some (if mm=l then⟨k.c,o,none⟩ else⟨k.c,o+l*au E.P elem,none⟩)) (hh-l) (mm-l),fun w=>?_,?_⟩
      ·simp only[Instr.sliceAt,Instr.slice,Sem.run_bind,run_underlying hu,Result.andThen_ok,hrun,cd hk,Sem.run_pure]
       split
       ·rename_i hc; simp only[if_pos hc]
       ·rename_i hc; simp only[Option.map_some,eD]
      ·split
       ·exact .slice hj hm
       ·exact .slice hj hm
     | sliceM hj hm e1 e2 hl hc =>
      have hkd:=h.kindOf hj hg;cases tag with
      | more sz=>exact absurd rfl (hnm sz)
      | ro=>simp only at hkd; rw[hm] at hkd; cases hkd
      | own=>simp only at hkd; rw[hm] at hkd; cases hkd
    ·cases e
   ·cases e
  ·cases e
 ·
  rename_i elem b o sp hu
  split at e
  ·rename_i hk
   split at e
   ·rename_i r hb;obtain⟨l,hh,mm⟩:=r;cases e;have hbl:=gY hb;have hl0:l=0∧hh=0:=by
     cases hi with
     | none=>have:=hbl.2.2.2.1 rfl; omega
     | some _=>have:=hbl.2.2.1 rfl; omega
    cases hx with
    | gq =>
     rename_i a' cap';have hrun:=fun w=>er (P:=E.P) (cap':=cap') hb h1 h2 h3 (Nat.zero_le _) true w;refine⟨_,fun w=>?_,.gq (a':=a') (cap':=fX mx cap' mm)⟩;simp only[Instr.sliceAt,Instr.slice,Sem.run_bind,run_underlying hu,Result.andThen_ok,hrun,cd hk,Sem.run_pure,hl0.1,hl0.2,Nat.sub_self,Nat.zero_mul,Nat.sub_zero,Option.map_some];simp[Addr.add]
    | dry =>
     rename_i a';have hrun:=fun w=>er (P:=E.P) (cap':=0) hb h1 h2 h3 (Nat.zero_le _) true w;have hmm:fX mx 0 mm=0:=by
      cases mx with
      | none=>rfl
      | some _=>have:=hbl.2.1; simp[fX]; omega
     rw[hmm] at hrun;refine⟨_,fun w=>?_,.dry (a':=a')⟩;simp only[Instr.sliceAt,Instr.slice,Sem.run_bind,run_underlying hu,Result.andThen_ok,hrun,cd hk,Sem.run_pure,hl0.1,hl0.2,Nat.sub_self,Nat.zero_mul,Option.map_some];simp
   ·cases e
  ·cases e
 ·
  rename_i n elem b o hu
  split at e
  ·rename_i hk
   split at e
   ·cases e
   ·rename_i cs tag hnm hg
    split at e
    ·rename_i l hh mm hb;cases e;cases hx with
     | ptr hj =>
      rename_i k;have hrun:=fun w=>er (P:=E.P) (cap':=n) hb h1 h2 h3 (Nat.le_refl _) false w;have hmm:fX mx n mm=mm:=by
       cases mx with
       | none=>exact((gY hb).2.2.2.2 rfl).symm
       | some _=>rfl
      rw[hmm] at hrun;have hkd:=h.kindOf hj hg;have hm:k.more=none:=by
       cases tag with
       | more sz=>exact absurd rfl (hnm sz)
       | ro=>exact hkd
       | own=>exact hkd
      refine⟨.slice (some (if mm=l then⟨k.c,o,none⟩ else⟨k.c,o+l*au E.P elem,none⟩)) (hh-l) (mm-l),fun w=>?_,?_⟩
      ·simp only[Instr.sliceAt,Instr.sureAddr,Sem.run_bind,run_underlying hu,Result.andThen_ok,hrun,cd hk,Sem.run_pure]
       split
       ·rename_i hc; simp only[if_pos hc]
       ·rename_i hc; simp only[eD]
      ·split
       ·exact .slice hj hm
       ·exact .slice hj hm
    ·cases e
   ·cases e
  ·cases e
 ·cases e
theorem ra {t:TypeId} {x x' v:Value} {f:Nat} (e:aR P t x f=some v) (hx:VR j x x'):∃v',lN P (Instr.fieldAt t x' f) v'∧VR j v v':=by
 unfold aR at e
 split at e
 ·rename_i fields b o hu
  split at e
  ·rename_i fl hf
   split at e
   ·rename_i hk;simp only[Bool.and_eq_true,bne_iff_ne,ne_eq] at hk;cases e;cases hx with
    | ptr hj =>
    rename_i k;refine⟨_,fun w=>?_,.ptr hj⟩;simp only[Instr.fieldAt,Sem.run_bind,run_underlying hu,Result.andThen_ok,hf,Instr.sureAddr,Sem.run_pure,fieldPlace,cd hk.1,if_neg hk.2,eD]
   ·cases e
  ·cases e
 ·cases e
theorem Cn {t:TypeId} {x x' v:Value} (e:zo P t x=some v) (hx:VR j x x'):∃v',lN P (Instr.arrayAt t x') v'∧VR j v v':=by
 unfold zo at e
 split at e
 ·rename_i n el b o len cap hu
  split at e
  ·rename_i hc;cases e;have hn:¬len<n:=by omega
   cases hx with
   | slice hj hm=>exact⟨_,fun w=>by simp only[Instr.arrayAt,Sem.run_bind,run_underlying hu,Result.andThen_ok,if_neg hn,Sem.run_pure],.ptr hj⟩
   | sliceM hj hm h1 h2 hl hc2=>exact⟨_,fun w=>by simp only[Instr.arrayAt,Sem.run_bind,run_underlying hu,Result.andThen_ok,if_neg hn,Sem.run_pure],.ptr hj⟩
  ·cases e
 ·cases e
theorem qW {t:TypeId} {x x' y y' v:Value} (e:bG P t x y=some v) (hx:VR j x x') (hy:VR j y y'):∃v',lN P (Instr.indexAt t x' y') v'∧VR j v v':=by
 unfold bG at e
 split at e
 ·rename_i len elem b o k i hu
  split at e
  ·rename_i hc;simp only[Bool.and_eq_true,decide_eq_true_eq] at hc;cases e;cases hy;cases hx with
   | ptr hj =>
   refine⟨_,fun w=>?_,.ptr hj⟩;simp only[Instr.indexAt,asIntOf,Sem.run_bind,run_underlying hu,Result.andThen_ok,Instr.sureAddr,Sem.run_pure,cd hc.1,if_pos hc.2,eD]
  ·cases e
 ·rename_i elem b o len cap k i hu
  split at e
  ·rename_i hc;simp only[Bool.and_eq_true,decide_eq_true_eq] at hc;cases e;cases hy;cases hx with
   | slice hj hm =>
    refine⟨_,fun w=>?_,.ptr hj⟩;simp only[Instr.indexAt,asIntOf,Sem.run_bind,run_underlying hu,Result.andThen_ok,Sem.run_pure,cd hc.1,if_pos hc.2,eD]
   | sliceM hj hm e1 e2 hl hcap =>
    refine⟨_,fun w=>?_,.ptr hj⟩;simp only[Instr.indexAt,asIntOf,Sem.run_bind,run_underlying hu,Result.andThen_ok,Sem.run_pure,cd hc.1,if_pos hc.2,eD]
  ·cases e
 ·cases e
theorem AZ {t:TypeId} {x x' y y' v:Value} (e:fI P t x y=some v) (hx:VR j x x') (hy:VR j y y'):∃v',lN P (Instr.index t x' y') v'∧VR j v v':=by
 unfold fI at e
 split at e
 ·rename_i len elem cs k i hu
  split at e
  ·rename_i hc;cases hy;cases hx with
   | agg h1 h2 =>
   have hk:known P elem=true:=by
    unfold eE at e
    split at e
    ·cases e
    ·rename_i hk; simpa using hk
   obtain⟨v',h3,h4⟩:=mT e (LR.eO h1 h2);refine⟨v',fun w=>?_,h4⟩;simp only[Instr.index,asIntOf,Sem.run_bind,run_underlying hu,Result.andThen_ok,Sem.run_pure,if_pos hc,cd hk,h3]
  ·cases e
 ·rename_i s k i hu
  split at e
  ·rename_i hc;cases hy; cases hx;cases hs:s[i.toNat]? with
   | none=>rw[hs] at e; cases e
   | some b =>
    rw[hs] at e; cases e;refine⟨_,fun w=>?_,.int _ _⟩;simp only[Instr.index,asIntOf,Sem.run_bind,run_underlying hu,Result.andThen_ok,Sem.run_pure,if_pos hc,hs]
  ·cases e
 ·cases e
theorem AF {t:TypeId} {x x' v:Value} {f:Nat} (e:eH P t x f=some v) (hx:VR j x x'):∃v',lN P (Instr.field t x' f) v'∧VR j v v':=by
 unfold eH at e
 split at e
 ·rename_i fields cs hu
  split at e
  ·rename_i fl hf;cases hx with
   | agg h1 h2 =>
   obtain⟨v',h3,h4⟩:=mT e (LR.eO h1 h2);refine⟨v',fun w=>?_,h4⟩;simp only[Instr.field,Sem.run_bind,run_underlying hu,Result.andThen_ok,hf,asAgg,Sem.run_pure,h3]
  ·cases e
 ·cases e
theorem uR {E:Env} {m:AMem} {w:World} (h:MR E j m w) {t:TypeId} {x x' v:Value} (e:dx E.P t x m=some v) (hx:VR j x x') :
  ∃v',(Instr.loadAt t x').run E.P w = .ok v' w∧VR j v v':=by
 unfold dx at e
 split at e
 ·rename_i b o
  split at e
  ·cases e
  ·rename_i hk;have hk':known E.P t=true:=by simpa using hk
   cases hx with
   | ptr hj =>
   rename_i k
   split at e
   ·rename_i ha;cases hl:m.dD b o (au E.P t) with
    | none=>rw[hl] at e; cases e
    | some vs =>
     rw[hl] at e; cases e;obtain⟨vs',h1,h2⟩:=h.dD hj hl;refine⟨.agg vs'.toArray,?_,.xE (by simpa using h2)⟩
     simp only[Instr.loadAt,Instr.sureAddr,Sem.run_bind,Sem.run_pure,Result.andThen_ok,loadVar,mP hk',ha,if_true,cd hk',h1 w rfl]
   ·rename_i ha;have ha':dI E.P t=false:=by simpa using ha
    split at e
    ·rename_i cs tag hg;obtain⟨v',h1,h2⟩:=h.cell hj hg e;refine⟨v',?_,h2⟩;simp only[Instr.loadAt,Instr.sureAddr,Sem.run_bind,Sem.run_pure,Result.andThen_ok,loadVar,mP hk',ha',Bool.false_eq_true,if_false,run_load,h1]
    ·cases e
 ·cases e
end
section
variable {E : Env} {j : aH} {m : AMem} {w : World}
theorem OR.own {c:Nat} {cs:List Value} {c':Array Value} {elem:TypeId} (h:LR j cs c'.toList):OR j ⟨c,none⟩ (.cells cs .own) (.cells c' elem) :=
 ⟨⟨rfl,by simpa using h.1.symm,rfl⟩,fun i v hi=>by
  obtain⟨v',a,b⟩:=h.get hi;exact⟨v',by simpa using a,b⟩⟩
theorem j9 {zero:Array Value}:∀(n:Nat),((Array.range (n*zero.size)).map fun i=>zero[i%zero.size]!).toList=bW zero.toList n:=by
 intro n
 by_cases hz:zero.size=0
 ·have:zero=#[]:=Array.eq_empty_of_size_eq_zero hz;subst this;have:∀n,bW ([]:List Value) n = []:=by
   intro n
   induction n with
   | zero=>rfl
   | succ n ih=>simpa [bW] using ih
  simp[this]
 ·have hpos:0<zero.size:=Nat.pos_of_ne_zero hz;have hlen:∀n,(bW zero.toList n).length=n*zero.size:=by
   intro n
   induction n with
   | zero=>simp[bW]
   | succ n ih=>simp[bW,ih,Nat.succ_mul,Nat.add_comm]
  have hget:∀n i,i<n*zero.size→(bW zero.toList n)[i]? = zero[i%zero.size]?:=by
   intro n
   induction n with
   | zero=>intro i hi; simp at hi
   | succ n ih =>
    intro i hi;simp only[bW]
    by_cases hlt:i<zero.size
    ·rw[List.getElem?_append_left (by simpa using hlt),Nat.mod_eq_of_lt hlt]; simp
    ·have hge:zero.size≤i:=by omega
     rw[List.getElem?_append_right (by simpa using hge)]
     have:=ih (i-zero.size) (by rw[Nat.succ_mul] at hi; omega)
     simp only[Array.length_toList];rw[this,←Nat.mod_eq_sub_mod hge]
  apply List.ext_getElem?;intro i
  by_cases hi:i<n*zero.size
  ·rw[hget n i hi];have hlt:i%zero.size<zero.size:=Nat.mod_lt _ hpos;simp[hi,hlt]
  ·rw[List.getElem?_eq_none (by simp; omega),List.getElem?_eq_none (by rw[hlen]; omega)]
theorem iy {P:Program} {elem:TypeId} {n:Nat} {zs:List Value} (h:fi P elem n=some zs):∃z,bI P elem=some z∧z.cells.size=au P elem∧zs=bW z.cells.toList n:=by
 unfold fi at h
 split at h
 ·rename_i z hz
  split at h
  ·rename_i hs; cases h; exact⟨z,hz,hs,rfl⟩
  ·cases h
 ·cases h
theorem ft (l:List Value) (n:Nat):(bW l n).length=n*l.length:=by
 induction n with
 | zero=>simp[bW]
 | succ n ih=>simp[bW,ih,Nat.succ_mul,Nat.add_comm]
theorem Ac (h:MR E j m w) {t:TypeId} {x x' v v':Value} {m':AMem} (e:eY E.P t x v m=some m') (hx:VR j x x') (hv:VR j v v') :
  ∃w',(Instr.storeAt t x' v').run E.P w = .ok () w'∧Sim E j m w j m' w':=by
 unfold eY at e
 split at e
 ·rename_i b o
  split at e
  ·rename_i hc;simp only[Bool.and_eq_true,beq_iff_eq] at hc;obtain⟨⟨hk,hs⟩,ho⟩:=hc;cases hx with
   | ptr hj =>
   have hvc:=gr hv;obtain⟨w',h1,h2⟩:=ib h hj hvc ho e;refine⟨w',?_,h2⟩;have hs':v'.cells.size=au E.P t:=by have:=hvc.1; simp at this; omega
   have hne:¬v'.cells.size≠au E.P t:=by simp[hs']
   simp only[Instr.storeAt,Instr.sureAddr,Sem.run_bind,Sem.run_pure,Result.andThen_ok,storeVar,cd hk,if_neg hne,h1]
  ·cases e
 ·cases e
theorem ez {v v':Value} (hp:aL v=true) (h:VR j v v'):v'=v:=by
 cases h<;>first|rfl | (simp[aL] at hp)
theorem oc:∀{l l':List Value},l.all aL=true→LR j l l'→l'=l
 | [],_,_,h=>h.db
 | v::l,l',hp,h=>by
  obtain⟨y,ys,rfl,h1,h2⟩:=h.cons_inv;simp only[List.all_cons,Bool.and_eq_true] at hp;rw[ez hp.1 h1,oc hp.2 h2]
theorem gN {v v':Value} (hp:bg v=true) (h:VR j v v'):v'=v:=by
 cases h with
 | agg h1 h2 =>
  have:=oc (by simpa [bg] using hp) (LR.eO h1 h2)
  exact congrArg Value.agg (Array.toList_inj.1 this)
 | tuple h1 h2 =>
  have:=oc (by simpa [bg] using hp) (LR.eO h1 h2)
  exact congrArg Value.tuple (Array.toList_inj.1 this)
 | func h1 h2 h3 h4=>simp[bg,aL] at hp
 | yield h h1 h2=>simp[bg,aL] at hp
 | _=>first|rfl | (simp[bg,aL] at hp)
theorem fY {P:Program} {kt:TypeId} {k:Value} (h:gW P kt k=true):bg k=true:=by
 unfold gW at h
 split at h
 ·rfl
 ·rfl
 ·rfl
 ·simp only[Bool.and_eq_true] at h; exact h.2
 ·simp only[Bool.and_eq_true] at h; exact h.2
 ·cases h
theorem checkKind {P:Program} {t:TypeId} (ht:fS P t=true) (n:Nat) (v:Value) (b:Bool) (w:World):(Instr.checkKey b (n+1) t v).run P w = .ok () w:=by
 unfold fS at ht;simp only[Instr.checkKey,Sem.run_bind];cases hu:P.underlying t with
 | none=>rw[hu] at ht; cases ht
 | some d =>
  rw[hu] at ht;simp only[run_underlying hu,Result.andThen_ok];cases d<;>first | (simp at ht; done) | rfl
theorem j7 {P:Program} {α:Type} (f:α→Sem Unit) (w:World):∀(l:List α),(∀x ∈ l,(f x).run P w = .ok () w) →
  (forIn l PUnit.unit (fun x _=>do f x; pure (ForInStep.yield PUnit.unit)):Sem PUnit).run P w = .ok PUnit.unit w
 | [],_=>rfl
 | x::l,h=>by
  simp only[List.forIn_cons,Sem.run_bind,h x (by simp),Result.andThen_ok,Sem.run_pure]
  exact j7 f w l fun y hy=>h y (by simp[hy])
theorem yo {P:Program} {t:TypeId} (h:fS P t=true):dI P t=false:=by
 unfold fS at h;unfold dI;cases hu:P.underlying t with
 | none=>rfl
 | some d=>rw[hu] at h; cases d<;>first|rfl | (simp at h)
theorem rX {P:Program} {t:TypeId} (h:fS P t=true) (hk:known P t=true) {cs:Array Value} {o:Nat} (ho:o<cs.size) (w:World):(part t cs o).run P w = .ok cs[o] w:=by
 simp[part,mP hk,yo h,ho]
theorem dE {P:Program} {kt:TypeId} {k:Value} (h:gW P kt k=true) (b:Bool) (w:World):(Instr.checkKey b 10000 kt k).run P w = .ok () w:=by
 unfold gW at h
 split at h
 ·rename_i hu; exact checkKind (by simp[fS,hu]) 9999 _ b w
 ·rename_i hu; exact checkKind (by simp[fS,hu]) 9999 _ b w
 ·rename_i hu; exact checkKind (by simp[fS,hu]) 9999 _ b w
 ·rename_i len elem cs hu;simp only[Bool.and_eq_true,beq_iff_eq] at h;obtain⟨⟨⟨⟨hek,hkn⟩,hsz⟩,hlen⟩,_⟩:=h;have key:∀n,(Instr.checkKey b (n+1+1) kt (.agg cs)).run P w = .ok () w:=by
   intro n;unfold Instr.checkKey;simp only[Sem.run_bind,run_underlying hu,Result.andThen_ok];rw[Std.Legacy.Range.forIn_eq_forIn_range'];simp only[Std.Legacy.Range.size,Nat.sub_zero,Nat.add_sub_cancel,Nat.div_one];have:=j7 (P:=P) (fun i=>do Instr.checkKey b (n+1) elem (←part elem cs (i*(←sizeOf elem)))) w (List.range' 0 len) (fun x hx=>by
    have hlt:x<cs.size:=by rw[List.mem_range'] at hx; obtain⟨i,h1,h2⟩:=hx; omega
    simp only[Sem.run_bind,cd hkn,hsz,Nat.mul_one,rX hek hkn hlt,Result.andThen_ok];exact checkKind hek n _ b w)
   simp only[bind_assoc] at this;rw[this]; rfl
  exact key 9998
 ·rename_i fs cs hu;simp only[Bool.and_eq_true] at h;have key:∀n,(Instr.checkKey b (n+1+1) kt (.agg cs)).run P w = .ok () w:=by
   intro n;unfold Instr.checkKey;simp only[Sem.run_bind,run_underlying hu,Result.andThen_ok];rw[←Array.forIn_toList];have hall:=h.1;generalize fs.toList=l at hall;clear hu
   induction l with
   | nil=>rfl
   | cons f l ih =>
    simp only[List.all_cons,Bool.and_eq_true,decide_eq_true_eq] at hall;obtain⟨⟨⟨h1,h2⟩,h3⟩,h4⟩:=hall;have ih':=ih (by simpa [Bool.and_eq_true] using h4)
    simp only[List.forIn_cons,Sem.run_bind,Sem.run_ite]
    split
    ·simp only[rX h1 h2 h3,Result.andThen_ok,checkKind h1 n _ b w,Sem.run_pure];exact ih'
    ·simp only[Sem.run_pure,Result.andThen_ok];exact ih'
  exact key 9998
 ·cases h
inductive FR (j:aH):Option (Nat × Value)→Option (Nat × Value)→Prop
 | none:FR j none none
 | some {i:Nat} {v v':Value} (h:VR j v v'):FR j (some (i,v)) (some (i,v'))
theorem lH {P:Program} {kt:TypeId} {k k':Value} (hk:VR j k k'):∀{es:List (Value × Value)} {es':List MapEntry} {i:Nat} {r:Option (Nat × Value)},gA P kt k es i=some r→ER j es es' →
  ∃r',(∀w,(Instr.findAsking kt k' es' i).run P w = .ok r' w)∧FR j r r'
 | [],[],i,r,h,_=>by cases h; exact⟨_,fun w=>rfl,.none⟩
 | e::es,f::fs,i,r,h,he=>by
  simp only[gA] at h
  split at h
  ·rename_i hq;cases h;refine⟨some (i,f.val),fun w=>?_,.some he.2.1⟩;simp only[Instr.findAsking,Sem.run_bind,Op.equal,jy _ hq hk he.1,Result.andThen_ok,if_true,Sem.run_pure]
  ·rename_i hq;obtain⟨r',h1,h2⟩:=lH hk h he.2.2;refine⟨r',fun w=>?_,h2⟩;simp only[Instr.findAsking,Sem.run_bind,Op.equal,jy _ hq hk he.1,Result.andThen_ok,Bool.false_eq_true,if_false,h1]
  ·cases h
 | [],_::_,_,_,_,he=>he.elim
 | _::_,[],_,_,_,he=>he.elim
theorem pO {P:Program} {kt:TypeId} {d:TypeDesc} {k k' x x':Value} {b b':Bool} (hu:P.underlying kt=some d) (hk:VR j k k') (hx:VR j x x') (h:Instr.sameNow d k' x'=some b') (he:jv P Op.maxDepth kt k x=some b):b=b':=by
 have:=jy (P:=P) Op.maxDepth he hk hx default;rw[show Op.maxDepth=9999+1 from rfl] at this
 unfold Instr.sameNow at h
 split at h
 ·rename_i k0 k1 a k2 c
  split at h
  ·rename_i hkk;subst hkk;cases h;rw[run_equalIn_int _ 9999 kt _ _ a c hu] at this;injection this with h1 _; exact h1.symm
  ·cases h
 ·cases h;rw[run_equalIn_string _ 9999 kt _ _ hu,←beq_toListBytes] at this;injection this with h1 _; exact h1.symm
 ·cases h;rw[run_equalIn_bool' _ 9999 kt _ _ hu] at this;injection this with h1 _; exact h1.symm
 ·cases h
theorem qL {P:Program} {kt:TypeId} {d:TypeDesc} {k k':Value} (hu:P.underlying kt=some d) (hk:VR j k k'):∀{es:List (Value × Value)} {es':List MapEntry} {i:Nat} {r r':Option (Nat × Value)},gA P kt k es i=some r→ER j es es' →
  Instr.findNow d k' es' i=some r'→FR j r r'
 | [],[],i,r,r',h,_,h'=>by cases h; cases h'; exact .none
 | e::es,f::fs,i,r,r',h,he,h'=>by
  simp only[gA] at h;simp only[Instr.findNow] at h'
  split at h'
  ·rename_i hs;cases h'
   split at h
   ·cases h; exact .some he.2.1
   ·rename_i hq; cases pO hu hk he.1 hs hq
   ·cases h
  ·rename_i hs
   split at h
   ·rename_i hq; cases pO hu hk he.1 hs hq
   ·exact qL hu hk h he.2.2 h'
   ·cases h
  ·cases h'
 | [],_::_,_,_,_,_,he,_=>he.elim
 | _::_,[],_,_,_,_,he,_=>he.elim
theorem fG {P:Program} {kt:TypeId} {d:TypeDesc} {k k':Value} (hu:P.underlying kt=some d) (hk:VR j k k') {es:List (Value × Value)} {es':List MapEntry} {r:Option (Nat × Value)} (h:gA P kt k es 0=some r) (he:ER j es es') :
  ∃r',(∀w,(Instr.findKey kt k' es').run P w = .ok r' w)∧FR j r r':=by
 cases hn:Instr.findNow d k' es' 0 with
 | some r' =>
  refine⟨r',fun w=>?_,qL hu hk h he hn⟩;simp only[Instr.findKey,Sem.run_bind,run_underlying hu,Result.andThen_ok,hn,Sem.run_pure]
 | none =>
  obtain⟨r',h1,h2⟩:=lH hk h he;refine⟨r',fun w=>?_,h2⟩;simp only[Instr.findKey,Sem.run_bind,run_underlying hu,Result.andThen_ok,hn,h1]
theorem kn {P:Program} {kt:TypeId} {k:Value} (h:gW P kt k=true):∃d,P.underlying kt=some d:=by
 unfold gW at h;cases hu:P.underlying kt with
 | some d=>exact⟨d,rfl⟩
 | none=>rw[hu] at h; simp at h
theorem MR.zb (h:MR E j m w) {b:Nat} {k:Blk} (hk:j b=some k) {es:List (Value × Value)} (hg:m.get b=some (.map es)):∃es' clock,w.heap[k.c]? = some (.map es' clock)∧ER j es es'.toList:=by
 obtain⟨o',h1,h2⟩:=h.obj b _ k hg hk;cases o' with
 | map es' clock=>exact⟨es',clock,h1,h2.1⟩
 | _=>exact h2.elim
theorem MR.xL (h:MR E j m w) {b:Nat} {k:Blk} (hk:j b=some k) {es:List (Value × Value)} (hg:m.get b=some (.map es)) {es':Array MapEntry} {clock:Nat} (hw:w.heap[k.c]? = some (.map es' clock)):D1 es' clock:=by
 obtain⟨o',h1,h2⟩:=h.obj b _ k hg hk;rw[hw] at h1;cases h1;exact h2.2
theorem run_getObj_map {P:Program} {w:World} {r:Nat} {es:Array MapEntry} {c:Nat} (h:w.heap[r]? = some (.map es c)):(getObj r).run P w = .ok (.map es c) w:=by simp[getObj,Sem.run,h]
theorem run_setObj_map {P:Program} {w:World} {r:Nat} {es:Array MapEntry} {c:Nat} (o:Obj) (h:w.heap[r]? = some (.map es c)):(setObj r o).run P w = .ok () (w.putObj r o):=by simp[setObj,Sem.run,h,World.putObj]
theorem xq (h:MR E j m w) {t:TypeId} {x x' y y' v:Value} {ok:Bool} (e:da E.P t x y ok m=some v) (hx:VR j x x') (hy:VR j y y') :
  ∃v',(Instr.lookup t x' y' ok).run E.P w = .ok v' w∧VR j v v':=by
 unfold da at e
 split at e
 ·rename_i key elem hu
  split at e
  ·rename_i es z hes hz
   split at e
   ·rename_i hko;obtain⟨d,hd⟩:=kn hko;have hy':y'=y:=gN (fY hko) hy;subst hy';have hmap:∃es':Array MapEntry,ER j es es'.toList∧((x' = .map none∧es'=#[])∨∃r c,x' = .map (some r)∧w.heap[r]? = some (.map es' c)):=by
     unfold mapOf at hes
     split at hes
     ·cases hes; cases hx;exact⟨#[],trivial,.inl ⟨rfl,rfl⟩⟩
     ·rename_i r
      split at hes
      ·rename_i es0 hg;cases hes;cases hx with
       | map hj =>
       obtain⟨es',clock,h1,h2⟩:=h.zb hj hg;exact⟨es',h2,.inr ⟨_,_,rfl,h1⟩⟩
      ·cases hes
     ·cases hes
    obtain⟨es',hes',hsh⟩:=hmap
    split at e
    ·rename_i i v0 hf;cases e;obtain⟨r',h1,h2⟩:=fG hd hy hf hes';cases h2 with
     | some hv =>
     rename_i v0';refine⟨if ok then .tuple #[v0',.bool true] else v0',?_,?_⟩
     ·rcases hsh with⟨rfl,rfl⟩|⟨r,c,rfl,h5⟩
      ·simp only[Instr.lookup,Sem.run_bind,run_underlying hu,Result.andThen_ok,Sem.run_pure,dE hko,h1]
      ·simp only[Instr.lookup,Sem.run_bind,run_underlying hu,Result.andThen_ok,run_getObj_map h5,Sem.run_pure,dE hko,h1]
     ·cases ok with
      | true=>exact .tuple' (by exact LR.cons hv (LR.cons (.bool true) (.nil j)))
      | false=>exact hv
    ·rename_i hf
     split at e
     ·rename_i hpz;cases e;obtain⟨r',h1,h2⟩:=fG hd hy hf hes';cases h2;refine⟨if ok then .tuple #[z,.bool false] else z,?_,?_⟩
      ·rcases hsh with⟨rfl,rfl⟩|⟨r,c,rfl,h5⟩
       ·simp only[Instr.lookup,Sem.run_bind,run_underlying hu,Result.andThen_ok,Sem.run_pure,dE hko,h1,gX hz]
       ·simp only[Instr.lookup,Sem.run_bind,run_underlying hu,Result.andThen_ok,run_getObj_map h5,Sem.run_pure,dE hko,h1,gX hz]
      ·cases ok with
       | true=>exact .tuple' (by exact LR.cons (VR.bg hpz) (LR.cons (.bool false) (.nil j)))
       | false=>exact VR.bg hpz
     ·cases e
    ·cases e
   ·cases e
  ·cases e
 ·cases e
theorem ER.get:∀{es:List (Value × Value)} {fs:List MapEntry} {i:Nat} {e:Value × Value},ER j es fs→es[i]? = some e→∃f,fs[i]? = some f∧VR j e.1 f.key∧VR j e.2 f.val
 | [],[],_,_,_,h=>by simp at h
 | x::es,f::fs,0,e,h,hi=>by simp at hi; subst hi; exact⟨f,rfl,h.1,h.2.1⟩
 | x::es,f::fs,i+1,e,h,hi=>by simpa using ER.get h.2.2 (by simpa using hi)
 | [],_::_,_,_,h,_=>h.elim
 | _::_,[],_,_,h,_=>h.elim
theorem ER.pG:∀{es:List (Value × Value)} {fs:List MapEntry} {e:Value × Value} {f:MapEntry},ER j es fs→VR j e.1 f.key→VR j e.2 f.val→ER j (es++[e]) (fs++[f])
 | [],[],_,_,_,h1,h2=>⟨h1,h2,trivial⟩
 | _::_,_::_,_,_,h,h1,h2=>⟨h.1,h.2.1,ER.pG h.2.2 h1 h2⟩
 | [],_::_,_,_,h,_,_=>h.elim
 | _::_,[],_,_,h,_,_=>h.elim
theorem ER.put:∀{es:List (Value × Value)} {fs:List MapEntry} {i:Nat} {k k' v v':Value},ER j es fs→i<es.length→VR j k k'→VR j v v'→ER j (jl es i k v) (fs.modify i fun e=>{ e with key:=k',val:=v'})
 | x::es,f::fs,0,_,_,_,_,h,_,h1,h2=>⟨h1,h2,h.2.2⟩
 | x::es,f::fs,i+1,_,_,_,_,h,hi,h1,h2=>⟨h.1,h.2.1,ER.put h.2.2 (by simpa using hi) h1 h2⟩
 | [],_,_,_,_,_,_,_,hi,_,_=>by simp at hi
 | _::_,[],_,_,_,_,_,h,_,_,_=>h.elim
theorem ER.erase:∀{es:List (Value × Value)} {fs:List MapEntry} (i:Nat),ER j es fs→ER j (es.eraseIdx i) (fs.eraseIdx i)
 | [],[],_,_=>trivial
 | _::_,_::_,0,h=>h.2.2
 | _::_,_::_,i+1,h=>⟨h.1,h.2.1,ER.erase i h.2.2⟩
 | [],_::_,_,h=>h.elim
 | _::_,[],_,h=>h.elim
theorem lC (h:MR E j m w) {t:TypeId} {x x' k k' v v':Value} {m':AMem} (e:cy E.P t x k v m=some m') (hx:VR j x x') (hk:VR j k k') (hv:VR j v v') :
  ∃w',(Instr.mapUpdate t x' k' v').run E.P w = .ok () w'∧Sim E j m w j m' w':=by
 unfold cy at e
 split at e
 ·rename_i kt et r hu
  split at e
  ·rename_i es hg
   split at e
   ·rename_i hko;obtain⟨d,hd⟩:=kn hko;have hk':k'=k:=gN (fY hko) hk;cases hx with
    | map hj =>
    rename_i kb;obtain⟨es',clock,h1,h2⟩:=h.zb hj hg
    split at e
    ·rename_i i v0 hf
     split at e
     ·rename_i hsame;cases e;unfold gG at hsame
      split at hsame
      ·rename_i e0 he0;simp only[Bool.and_eq_true] at hsame;obtain⟨r',h3,h4⟩:=fG hd hk hf h2;cases h4 with
       | some _ =>
       obtain⟨f0,g1,g2,g3⟩:=h2.get he0;have hf0:f0.key=e0.1:=gN hsame.1 g2;have hi:i<es.length:=(List.getElem?_eq_some_iff.1 he0).1;refine⟨_,?_,jG h hj (by rw[hg]; rfl) (co:=.map (es'.modify i fun e=>{ e with key:=k,val:=v'}) clock) ?_⟩
       ·have g1':es'[i]? = some f0:=by simpa using g1
        simp only[Instr.mapUpdate,Sem.run_bind,run_underlying hu,Result.andThen_ok,run_getObj_map h1,hk',dE hko];rw[hk'] at h3;simp only[h3,Result.andThen_ok,Sem.run_bind,g1',Option.map_some,Option.getD_some,hf0,Instr.keyThatStays,hsame.2,if_true,Sem.run_pure,run_setObj_map _ h1]
       ·refine⟨?_,wN (h.xL hj hg h1) i _ fun _=>rfl⟩
        show ER j (jl es i k v) (es'.modify i fun e=>{ e with key:=k,val:=v'}).toList
        rw[Array.toList_modify];exact h2.put hi (VR.bg (fY hko)) hv
      ·cases hsame
     ·cases e
    ·rename_i hf;cases e;obtain⟨r',h3,h4⟩:=fG hd hk hf h2;cases h4;refine⟨_,?_,jG h hj (by rw[hg]; rfl) (co:=.map (es'.push { key:=k,val:=v',born:=clock}) (clock+1)) ?_⟩
     ·simp only[Instr.mapUpdate,Sem.run_bind,run_underlying hu,Result.andThen_ok,run_getObj_map h1,hk',dE hko];rw[hk'] at h3;simp only[h3,Result.andThen_ok,run_setObj_map _ h1]
     ·refine⟨?_,Dr (h.xL hj hg h1) k v'⟩
      show ER j (es++[(k,v)]) (es'.push { key:=k,val:=v',born:=clock}).toList
      rw[Array.toList_push];exact h2.pG (VR.bg (fY hko)) hv
    ·cases e
   ·cases e
  ·cases e
 ·cases e
theorem xU (h:MR E j m w) {t:TypeId} {x x' k k':Value} {m':AMem} (e:oZ E.P t x k m=some m') (hx:VR j x x') (hk:VR j k k') (ts:Array TypeId) (hts:ts[0]? = some t) (ty:TypeId) :
  ∃w',(Builtin.delete_ ts ty #[x',k']).run E.P w = .ok (.tuple #[]) w'∧Sim E j m w j m' w':=by
 unfold oZ at e
 split at e
 ·rename_i kt et r hu
  split at e
  ·rename_i es hg
   split at e
   ·rename_i hko;obtain⟨d,hd⟩:=kn hko;have hk':k'=k:=gN (fY hko) hk;cases hx with
    | map hj =>
    rename_i kb;obtain⟨es',clock,h1,h2⟩:=h.zb hj hg
    split at e
    ·rename_i i v0 hf;cases e;obtain⟨r',h3,h4⟩:=fG hd hk hf h2;cases h4 with
     | some _ =>
     refine⟨_,?_,jG h hj (by rw[hg]; rfl) (co:=.map (es'.eraseIdxIfInBounds i) clock) ?_⟩
     ·simp only[Builtin.delete_,hts,List.getElem?_toArray,List.getElem?_cons_zero,List.getElem?_cons_succ,Sem.run_bind,run_underlying hu,Result.andThen_ok,run_getObj_map h1,hk',dE hko];rw[hk'] at h3;simp only[h3,Result.andThen_ok,Sem.run_bind,run_setObj_map _ h1,Sem.run_pure]
     ·refine⟨?_,AL (h.xL hj hg h1) i⟩
      show ER j (es.eraseIdx i) (es'.eraseIdxIfInBounds i).toList
      rw[Array.toList_eraseIdxIfInBounds];exact h2.erase i
    ·rename_i hf;cases e;obtain⟨r',h3,h4⟩:=fG hd hk hf h2;cases h4;refine⟨w,?_,.refl h⟩;simp only[Builtin.delete_,hts,List.getElem?_toArray,List.getElem?_cons_zero,List.getElem?_cons_succ,Sem.run_bind,run_underlying hu,Result.andThen_ok,run_getObj_map h1,hk',dE hko];rw[hk'] at h3;simp only[h3,Result.andThen_ok,Sem.run_bind,run_setObj_map _ h1,Sem.run_pure,oj h1]
    ·cases e
   ·cases e
  ·cases e
 ·cases e
end
theorem rY (n:Nat):∀(r c:Nat),Builtin.growBy n r c≤max c (n+(n+768)/4)
 | 0,c=>by simp only[Builtin.growBy]; omega
 | r+1,c=>by
  simp only[Builtin.growBy]
  split
  ·omega
  ·have:=rY n r (c+(c+768)/4);omega
theorem nextslicecap_le {need cap:Nat} (h:cap<need):Builtin.nextslicecap need cap≤2*need+2000:=by
 unfold Builtin.nextslicecap
 split
 ·omega
 ·split
  ·omega
  ·have:=rY need 4 cap;omega
section
variable {E : Env} {j : aH} {m : AMem} {w : World}
def appendCore (elem:TypeId) (size:Nat) (base:Option Addr) (sLen sCap n:Nat) (zeros:Bool) (s x:Value) (appended:Sem (Array Value)):Sem Value:=do
 let need:=sLen+n
 if need≤sCap then
  let new ←appended
  if let some a:=base then storeCells (a.add (sLen*size)) new.toList
  pure (.slice base need sCap)
 else
  if (need : Int) > IntKind.i64.max ∧ (zeros ∨ (← typeInfo elem).bytes = 0) then runtimePanic (.error "growslice: len out of range")
  if Builtin.nextslicecap need sCap * (← typeInfo elem).bytes > 2 ^ 48 then (if zeros then runtimePanic (.error "growslice: len out of range") else do
   if !(←Builtin.mayShare size sLen n base x) then mark .noRoom
   unsupported (.resourceLimit "append: a slice or a string whose bytes no memory bears"))
  let newCap ←choose (.appendCap need sCap elem)
  askRoom (newCap*(←typeInfo elem).bytes)
  let old ←Builtin.firstCells size sLen s
  let new ←appended
  let rest:=Builtin.zeroCells (←zeroValue elem).cells (newCap-need)
  pure (.slice (some (←newRow elem (old++new++rest))) need newCap)
theorem iT {P:Program} {elem:TypeId} {size sLen sCap n:Nat} {zeros:Bool} {s x:Value} {a:Addr} {app:Sem (Array Value)} {new:List Value} {w w':World}
  (happ:app.run P w = .ok new.toArray w) (hfit:sLen+n≤sCap) (hst:(storeCells (a.add (sLen*size)) new).run P w = .ok () w') :
  (appendCore elem size (some a) sLen sCap n zeros s x app).run P w = .ok (.slice (some a) (sLen+n) sCap) w':=by
 simp only[appendCore,if_pos hfit,Sem.run_bind,happ,Result.andThen_ok,hst,Sem.run_pure]
theorem lR {l:List Value} (h:l.all aL=true):∀n,(bW l n).all aL=true
 | 0=>rfl
 | n+1=>by simp only[bW,List.all_append,h,lR h n,Bool.and_self]
theorem jq {P:Program} {elem:TypeId} {size sLen sCap n:Nat} {zeros:Bool} {s x:Value} {base:Option Addr} {app:Sem (Array Value)} {new old:List Value} {w:World} {i:TypeInfo} {z:Value}
  (happ:∀w0:World,w0.heap=w.heap→app.run P w0 = .ok new.toArray w0) (hold:∀w0:World,w0.heap=w.heap→(Builtin.firstCells size sLen s).run P w0 = .ok old.toArray w0) (hgrow:¬sLen+n≤sCap)
  (hi:P.info? elem=some i) (hz:i.zero=some z) (hfit:fR i.bytes (sLen+n)=true) (hb:i.bytes≠0) (hzs:z.cells.size=size) (hzp:z.cells.toList.all aL=true) (ho:old.length=sLen*size) (hn:new.length=n*size) :
  ∃(cap:Nat) (rest:List Value) (w0:World),(w0.heap=w.heap∧Calm w w0)∧(sLen+n≤cap∧cap≤9223372036854775807)∧(old++new++rest).length=cap*size∧rest.all aL=true ∧
   (appendCore elem size base sLen sCap n zeros s x app).run P w = .ok (.slice (some ⟨w.heap.size,0,none⟩) (sLen+n) cap) (w0.alloc (.cells (old++new++rest).toArray elem)):=by
 have hfit':(2*(sLen+n)+2000)*i.bytes≤2 ^ 48:=by simpa [fR] using hfit
 have h1:¬(((sLen+n:Nat):Int)>IntKind.i64.max∧(zeros=true∨i.bytes=0)):=by
  intro hc;have hbig:sLen+n≤2 ^ 48:=by
   have:1≤i.bytes:=Nat.one_le_iff_ne_zero.2 hb;have:(sLen+n)*1≤(2*(sLen+n)+2000)*i.bytes:=Nat.mul_le_mul (by omega) this
   omega
  have hmax:IntKind.i64.max=9223372036854775807:=by decide
  rw[hmax] at hc;omega
 have h2:¬Builtin.nextslicecap (sLen+n) sCap*i.bytes>2 ^ 48:=by
  have:=Nat.mul_le_mul_right i.bytes (nextslicecap_le (need:=sLen+n) (cap:=sCap) (by omega))
  omega
 have hzv:∀w0:World,(zeroValue elem).run P w0 = .ok z w0:=fun w0=>gX (by simp[bI,hi,hz]) w0
 obtain⟨cap,hcap⟩:∃cap,cap=(Question.appendCap (sLen+n) sCap elem).cut (w.tape w.drawn (.appendCap (sLen+n) sCap elem)):=⟨_,rfl⟩;have hle:sLen+n≤cap:=by rw[hcap]; simp[Question.cut]
 have hmx:cap≤9223372036854775807:=by
  have hbig:sLen+n≤2 ^ 48:=by
   have:1≤i.bytes:=Nat.one_le_iff_ne_zero.2 hb;have:(sLen+n)*1≤(2*(sLen+n)+2000)*i.bytes:=Nat.mul_le_mul (by omega) this
   omega
  rw[hcap]
  show sLen+n+_%(2 ^ 63-(sLen+n))≤_
  have:=Nat.mod_lt (w.tape w.drawn (.appendCap (sLen+n) sCap elem)) (show 0<2 ^ 63-(sLen+n) by omega)
  omega
 refine⟨cap,bW z.cells.toList (cap-(sLen+n)),w.drew,⟨rfl,rfl,rfl,rfl,Nat.le_succ _⟩,⟨hle,hmx⟩,?_,lR hzp _,?_⟩
 ·simp only[List.length_append,ft,ho,hn,Array.length_toList,hzs];rw[←Nat.add_mul,←Nat.add_mul]
  congr 1; omega
 ·have hzc:Builtin.zeroCells z.cells (cap-(sLen+n))=(bW z.cells.toList (cap-(sLen+n))).toArray:=by
   rw[←j9 (zero:=z.cells)]; rfl
  simp only[appendCore,if_neg hgrow,Sem.run_bind,pM hi,Result.andThen_ok,Sem.run_ite,if_neg h1,if_neg h2,Sem.run_pure,run_choose,Question.forced,Bool.false_eq_true,if_false,World.drew_eq,run_askRoom,
   hold w.drew rfl,happ w.drew rfl,hzv,←hcap,hzc,newRow,run_newObj,World.alloc_eq]
  simp
theorem uz (h:MR E j m w) {sz n:Nat} {x x':Value} {new:List Value} (e:bV sz x n m=some new) (hx:VR j x x') :
  ∃new',(∀w0:World,w0.heap=w.heap→(Builtin.firstCells sz n x').run E.P w0 = .ok new'.toArray w0)∧LR j new new':=by
 unfold bV at e
 split at e
 ·split at e
  ·rename_i hn; subst hn; cases e; cases hx;exact⟨[],fun w0 _=>rfl,.nil j⟩
  ·cases e
 ·rename_i b o l c
  split at e
  ·rename_i hn; subst hn; cases e;refine⟨[],fun w0 _=>?_,.nil j⟩;cases hx<;>simp[Builtin.firstCells,loadCells,loadCellsFrom]
  ·have hgo:∀k:Blk,j b=some k→∃new',(∀w0:World,w0.heap=w.heap→(loadCells ⟨k.c,o,none⟩ (n*sz)).run E.P w0 = .ok new'.toArray w0)∧LR j new new':=by
    intro k hj;exact h.dD hj e
   cases hx with
   | slice hj hm=>exact hgo _ hj
   | sliceM hj hm e1 e2 hl hc=>exact hgo _ hj
 ·split at e
  ·rename_i hn; subst hn; cases e;refine⟨[],fun w0 _=>?_,.nil j⟩;cases hx<;>simp[Builtin.firstCells,loadCells,loadCellsFrom]
  ·cases e
 ·cases e
theorem tj (h:MR E j m w) {elem:TypeId} {xt:Option TypeId} {x x':Value} {n:Nat} {new:List Value} (e:hJ E.P elem xt x m=some (n,new)) (hx:VR j x x') (hk:known E.P elem=true)
  {i:TypeInfo} (hi:E.P.info? elem=some i) (hbytes:n*i.bytes≤2 ^ 48) {sType:TypeId} (hu:E.P.underlying sType=some (.slice elem)) {ts:Array TypeId} (h0:ts[0]? = some sType) (h1:ts[1]? = xt) (ty:TypeId) :
  ∃(new':List Value) (zeros:Bool) (app:Sem (Array Value)),LR j new new'∧(∀w0:World,w0.heap=w.heap→app.run E.P w0 = .ok new'.toArray w0) ∧
   ∀base sLen sCap,(Builtin.append_ ts ty #[.slice base sLen sCap,x']).run E.P w=(appendCore elem (au E.P elem) base sLen sCap n zeros (.slice base sLen sCap) x' app).run E.P w:=by
 unfold hJ at e
 split at e
 ·rename_i et a l c hxt;cases hs:bV (au E.P elem) (.slice a l c) l m with
  | none=>rw[hs] at e; cases e
  | some cs =>
   rw[hs] at e; cases e;obtain⟨new',h2,h3⟩:=uz h hs hx;refine⟨new',false,Builtin.firstCells (au E.P elem) n x',h3,h2,fun base sLen sCap=>?_⟩;have hlen:∀w0:World,(Builtin.lenOf x').run E.P w0 = .ok n w0:=by
    intro w0;cases hx<;>rfl
   obtain⟨xt',hxt',hu'⟩:∃xt',xt=some xt'∧E.P.underlying xt'=some (.slice et):=by
    cases xt with
    | none=>cases hxt
    | some xt'=>exact⟨xt',rfl,hxt⟩
   rw[hxt'] at h1;simp only[appendCore,Builtin.append_,h0,h1,List.getElem?_toArray,List.getElem?_cons_zero,List.getElem?_cons_succ,Sem.run_bind,run_underlying hu,run_underlying hu',Result.andThen_ok,cd hk,Sem.run_pure,Bool.false_eq_true,if_false,hlen,Bool.not_false,if_true]
   congr
 ·rename_i k l hxt
  split at e
  ·rename_i hl;cases hz:fi E.P elem l.toNat with
   | none=>rw[hz] at e; cases e
   | some zs =>
    rw[hz] at e;simp only[Option.bind_some] at e
    split at e
    ·rename_i hp;cases e;cases hx;obtain⟨z,hz1,hz2,hz3⟩:=iy hz;obtain⟨xt',k',hxt',hu'⟩:∃xt' k',xt=some xt'∧E.P.underlying xt'=some (.int k'):=by
      cases xt with
      | none=>cases hxt
      | some xt'=>exact⟨xt',_,rfl,hxt⟩
     have hwrap:IntKind.i64.wrap l=l:=IntWalk.i64_in l (by have:=hl.1; have:=hl.2; omega)
     have hlb:¬(l*i.bytes>2 ^ 48):=by
      have:((l.toNat*i.bytes:Nat):Int)≤2 ^ 48:=by exact_mod_cast hbytes
      have h3:((l.toNat:Nat):Int)=l:=Int.toNat_of_nonneg hl.1;rw[Int.natCast_mul,h3] at this;omega
     refine⟨new,true,if l.toNat*au E.P elem=0 then pure #[] else do pure (Builtin.zeroCells (←zeroValue elem).cells l.toNat),LR.plain hp,?_,fun base sLen sCap=>?_⟩
     ·intro w0 _;rw[Sem.run_ite]
      split
      ·rename_i h0;have:new = []:=by
        apply List.eq_nil_of_length_eq_zero;rw[hz3,ft,Array.length_toList,hz2,h0]
       rw[this]; rfl
      ·simp only[Sem.run_bind,gX hz1,Result.andThen_ok,Sem.run_pure];rw[hz3,←j9 (zero:=z.cells)]; rfl
     ·rw[hxt'] at h1;have hneg:¬l<0:=by have:=hl.1; omega
      simp only[appendCore,Builtin.append_,h0,h1,List.getElem?_toArray,List.getElem?_cons_zero,List.getElem?_cons_succ,Sem.run_bind,run_underlying hu,run_underlying hu',Result.andThen_ok,cd hk,Sem.run_pure,if_true,asInt,asIntOf,hwrap,if_neg hneg,pM hi,if_neg hlb,Bool.not_true,Bool.false_eq_true,if_false]
      congr
    ·cases e
  ·cases e
 ·cases e
theorem OR.more {c na nc sz:Nat} {cs:List Value} {c':Array Value} {elem:TypeId} (h1:cs.length=na) (h2:c'.size=nc) (h3:na≤nc) (hsz:0<sz) (hr:mu sz c') (h:∀(i:Nat) (v:Value),cs[i]? = some v→∃v',c'[i]? = some v'∧VR j v v') :
  OR j ⟨c,some (sz,na,nc)⟩ (.cells cs (.more sz)) (.cells c' elem) :=
 ⟨⟨by rw[h1,h2],by omega,rfl,hsz,hr⟩,h⟩
theorem iE (h:MR E j m w) {w0:World} (hw3:w0.heap=w.heap∧Calm w w0) {cs cs' rest:List Value} {elem:TypeId} {sz n cap:Nat} (hc:LR j cs cs') (hl:cs.length=n*sz) (hr:(cs'++rest).length=cap*sz) (hn:n≤cap) (hsz:0<sz) (hp:rest.all aL=true) (hmx:cap≤9223372036854775807) :
  ∃j',Sim E j m w j' (m.alloc (.cells cs (.more sz))) (w0.alloc (.cells (cs'++rest).toArray elem))∧VR j' (.slice (some ⟨m.next,0,none⟩) n n) (.slice (some ⟨w.heap.size,0,none⟩) n cap):=by
 have hw:=hw3.1;have h0:=h.of_heap hw;have hle:n*sz≤cap*sz:=Nat.mul_le_mul_right _ hn;have ho:OR j ⟨w0.heap.size,some (sz,n*sz,cap*sz)⟩ (.cells cs (.more sz)) (.cells (cs'++rest).toArray elem):=by
  refine OR.more hl (by simpa using hr) hle hsz (by unfold mu; rw[List.size_toArray,hr,Nat.mul_comm]; exact Nat.mul_le_mul_left _ hmx) fun i v hi=>?_
  obtain⟨v',a,b⟩:=hc.get hi;refine⟨v',?_,b⟩;rw[List.getElem?_toArray,List.getElem?_append_left (List.getElem?_eq_some_iff.1 a).1];exact a
 have s:=kY h0 ho;refine⟨_,(Sim.of_heap h hw hw3.2).trans h s,?_⟩;have:VR (j.set m.next ⟨w0.heap.size,some (sz,n*sz,cap*sz)⟩) (.slice (some ⟨m.next,0,none⟩) n n) (.slice (some ⟨w0.heap.size,0,none⟩) n cap) :=
  .sliceM (k:=⟨w0.heap.size,some (sz,n*sz,cap*sz)⟩) (aH.bX _ _ _) rfl rfl rfl (Nat.le_refl _) hn
 rw[hw] at this ⊢;exact this
theorem yq (h:MR E j m w) {t:TypeId} {xt:Option TypeId} {s s' x x' v:Value} {m':AMem} (e:dn E.P t xt s x m=some (v,m')) (hs:VR j s s') (hx:VR j x x')
  {ts:Array TypeId} (h5:ts[0]? = some t) (h1:ts[1]? = xt) (ty:TypeId) :
  ∃j' w' v',(Builtin.append_ ts ty #[s',x']).run E.P w = .ok v' w'∧Sim E j m w j' m' w'∧VR j' v v':=by
 unfold dn at e
 split at e
 ·rename_i elem base len cap n new hu hnc;simp only[hu] at hnc;simp only at e
  split at e
  ·cases e
  ·rename_i hcond;simp only[Bool.or_eq_true,Bool.not_eq_true',not_or,Bool.not_eq_false,beq_iff_eq,bne_iff_ne,ne_eq,Decidable.not_not,Option.any_eq_true] at hcond;obtain⟨⟨⟨⟨⟨hk,h6⟩,hone⟩,⟨i,hi,hfit⟩⟩,hlen⟩,⟨z,hz,hzs⟩⟩:=hcond;simp only[Bool.and_eq_true,bne_iff_ne,ne_eq] at hfit;obtain⟨hfit,hb⟩:=hfit;obtain⟨i',hi',hz'⟩:=tp hz;rw[hi] at hi'; cases hi';simp only[Bool.and_eq_true,beq_iff_eq] at hzs;have hzs':z.cells.size=au E.P elem:=hzs.1;have hzp:=hzs.2;have hsz:0<au E.P elem:=Nat.pos_of_ne_zero h6;have hbytes:n*i.bytes≤2 ^ 48:=by
    have:(2*(len+n)+2000)*i.bytes≤2 ^ 48:=by simpa [fR] using hfit
    have:=Nat.mul_le_mul_right i.bytes (show n≤2*(len+n)+2000 by omega)
    omega
   obtain⟨new',zeros,app,hnew,happ,hrun⟩:=tj h hnc hx hk hi hbytes hu h5 h1 ty;have hnl:new'.length=n*au E.P elem:=by rw[←hnew.1]; exact hlen
   split at e
   ·
    split at e
    ·cases e
    ·rename_i h4;have hlc:len=0∧cap=0:=by omega
     obtain⟨rfl,rfl⟩:=hlc;cases hs
     split at e
     ·rename_i hn; cases e;subst hn;refine⟨j,w,.slice none 0 0,?_,.refl h,.snil 0 0⟩;rw[hrun];simp only[appendCore,Nat.add_zero,Nat.le_refl,if_true,Sem.run_bind,happ w rfl,Result.andThen_ok,Sem.run_pure]
     ·rename_i hn; cases e;obtain⟨cap',rest,w0,h0,⟨hle,hmx⟩,hlr,hrp,hr⟩:=jq (P:=E.P) (zeros:=zeros) (s:=.slice none 0 0) (x:=x') (base:=none) (sLen:=0) (sCap:=0) (old:=[]) happ (fun w0 _=>rfl) (by omega) hi hz' (by simpa using hfit) hb hzs' hzp (by simp) hnl
      obtain⟨j',s0,s1⟩:=iE h h0 (elem:=elem) hnew hlen (by simpa using hlr) (by omega) hsz hrp hmx
      refine⟨j',_,_,by rw[hrun]; exact hr,by simpa using s0,by simpa using s1⟩
   ·rename_i b o
    split at e
    ·rename_i cs tag hg
     split at e
     ·
      rename_i hfits;cases hst:m.dh b (o+len*au E.P elem) new with
      | none=>rw[hst] at e; cases e
      | some m1 =>
       rw[hst] at e; cases e;cases hs with
       | slice hj hm =>
        obtain⟨w',g1,g0⟩:=ib h hj hnew hone hst;refine⟨j,w',_,?_,g0,.slice hj hm⟩;rw[hrun];exact iT (happ w rfl) hfits (by rw[ko]; exact g1)
       | sliceM hj hm e1 e2 hl hc =>
        obtain⟨w',g1,g0⟩:=ib h hj hnew hone hst;refine⟨j,w',_,?_,g0,.sliceM hj hm e1 e2 hfits hc⟩;rw[hrun];exact iT (happ w rfl) (by omega) (by rw[ko]; exact g1)
     ·rename_i hno;have hexact:∀k:Blk,j b=some k→k.more=none→∀old,m.dD b o (len*au E.P elem)=some old→v = .slice (some ⟨m.next,0,none⟩) (len+n) (len+n)→m'=m.alloc (.cells (old++new) (.more (au E.P elem))) →
        ∃j' w' v',(Builtin.append_ ts ty #[.slice (some ⟨k.c,o,none⟩) len cap,x']).run E.P w = .ok v' w'∧Sim E j m w j' m' w'∧VR j' v v':=by
       intro k hj hm old hold ev em;obtain⟨old',g1,g0⟩:=h.dD hj hold;have hol:old.length=len*au E.P elem:=(qJ hold).choose_spec.choose_spec.2.2;obtain⟨cap',rest,w0,h0,⟨hle,hmx⟩,hlr,hrp,hr⟩:=jq (P:=E.P) (zeros:=zeros) (s:=.slice (some ⟨k.c,o,none⟩) len cap) (x:=x') (base:=some ⟨k.c,o,none⟩) (sLen:=len) (sCap:=cap) (old:=old') happ
        (fun w0 h0=>g1 w0 h0) hno hi hz' hfit hb hzs' hzp (by rw[←g0.1]; exact hol) hnl
       obtain⟨j',s0,s1⟩:=iE h h0 (elem:=elem) (g0.append hnew) (n:=len+n) (by rw[List.length_append,hol,hlen,Nat.add_mul]) hlr hle hsz hrp hmx
       exact⟨j',_,_,by rw[hrun]; exact hr,em ▸ s0,ev ▸ s1⟩
      split at e
      ·
       rename_i sz'
       split at e
       ·rename_i hso;obtain⟨rfl,rfl⟩:=hso
        split at e
        ·rename_i hol;cases e;cases hs with
         | slice hj hm =>
          have:=h.kindOf hj hg;simp only at this;obtain⟨nc,hmm,_⟩:=this;rw[hm] at hmm; cases hmm
         | sliceM hj hm e1 e2 hl hc =>
          rename_i cap' sz' na nc k;have hkd:=h.kindOf hj hg;simp only at hkd;obtain⟨nc',hmm,_⟩:=hkd;rw[hm] at hmm;simp only[Option.some.injEq,Prod.mk.injEq] at hmm;obtain⟨rfl,rfl,rfl⟩:=hmm
          by_cases hfits:len+n≤cap'
          ·
           obtain⟨c,el,fz,c1,c2,c3⟩:=h.pt hj hg;have c2':k.more=some (au E.P elem,cs.length,c.size)∧cs.length≤c.size∧fz=(0,0)∧0<au E.P elem∧mu (au E.P elem) c:=c2;obtain⟨c0,c5,rfl,_,c4⟩:=c2';rw[hm] at c0;simp only[Option.some.injEq,Prod.mk.injEq,true_and] at c0;have hcs:(len+n)*au E.P elem≤c.size:=by
            rw[←c0,←e2]; simp; exact Nat.mul_le_mul_right _ hfits
           have hmul:(len+n)*au E.P elem=len*au E.P elem+n*au E.P elem:=Nat.add_mul _ _ _;have hst:=fk (P:=E.P) new' w c 0 (len*au E.P elem) c1 (by rw[hnl]; omega) (mq hnew hone)
           have hold:(cs.take (len*au E.P elem)).length=len*au E.P elem:=hol;have hlecs:len*au E.P elem≤cs.length:=by rw[List.length_take] at hold; omega
           have hor:OR j ⟨k.c,some (au E.P elem,(len+n)*au E.P elem,c.size)⟩ (.cells (cs.take (len*au E.P elem)++new) (.more (au E.P elem))) (.cells (aG c.toList (0+len*au E.P elem) new').toArray el):=by
            refine OR.more (by rw[List.length_append,hold,hlen,hmul]) (by simp[cp]) hcs hsz (by unfold mu at *; simpa [cp] using c4) fun ix vx hix=>?_
            rw[List.getElem?_toArray,cg,Nat.zero_add]
            by_cases hlt:ix<len*au E.P elem
            ·rw[List.getElem?_append_left (by rw[hold]; exact hlt),List.getElem?_take,if_pos hlt] at hix
             rw[if_neg (by omega)]
             obtain⟨vx',q0,q2⟩:=c3 ix vx hix;exact⟨vx',by simpa using q0,q2⟩
            ·rw[List.getElem?_append_right (by rw[hold]; omega),hold] at hix
             obtain⟨vx',q0,q2⟩:=hnew.get hix;have hlt':=(List.getElem?_eq_some_iff.1 q0).1;rw[if_pos ⟨by omega,by omega,by simp; omega⟩]
             exact⟨vx',q0,q2⟩
           have s0:=yi h hj (by rw[hg]; rfl) hor
           refine⟨_,_,.slice (some ⟨k.c,0,none⟩) (len+n) cap',?_,s0,.sliceM (k:=⟨k.c,some (au E.P elem,(len+n)*au E.P elem,c.size)⟩) (aH.bX _ _ _) rfl rfl (by rw[←c0]; exact e2) (Nat.le_refl _) hfits⟩
           rw[hrun];refine iT (happ w rfl) hfits ?_;rw[ko];have:=fk (P:=E.P) new' w c (0+len*au E.P elem) 0 c1 (by rw[hnl]; omega) (mq hnew hone)
           simpa using this
          ·
           have hol':m.dD b 0 (len*au E.P elem)=some (cs.take (len*au E.P elem)):=by
            simp only[AMem.dD,hg,List.drop_zero];rw[if_pos hol]
           obtain⟨old',g1,g0⟩:=h.dD hj hol';obtain⟨c6,rest,w0,h0,⟨hle,hmx⟩,hlr,hrp,hr⟩:=jq (P:=E.P) (zeros:=zeros) (s:=.slice (some ⟨k.c,0,none⟩) len cap') (x:=x') (base:=some ⟨k.c,0,none⟩) (sLen:=len) (sCap:=cap') (old:=old') happ
            (fun w0 h0=>g1 w0 h0) hfits hi hz' hfit hb hzs' hzp (by rw[←g0.1]; exact hol) hnl
           have sk:=Cd h hj;obtain⟨j',s0,s1⟩:=iE sk.mr h0 (elem:=elem) (g0.append hnew) (n:=len+n) (by rw[List.length_append,hol,hlen,Nat.add_mul]) hlr hle hsz hrp hmx
           exact⟨j',_,_,by rw[hrun]; exact hr,sk.trans h s0,s1⟩
        ·cases e
       ·cases e
      ·
       rename_i htag
       split at e
       ·rename_i old hold;cases e;have hkm:∀k:Blk,j b=some k→k.more=none:=by
         intro k hj;have:=h.kindOf hj hg;cases tag with
         | more sz=>exact absurd rfl (htag sz)
         | ro=>exact this
         | own=>exact this
        cases hs with
        | slice hj hm=>exact hexact _ hj hm _ hold rfl rfl
        | sliceM hj hm e1 e2 hl hc=>rw[hkm _ hj] at hm; cases hm
       ·cases e
    ·cases e
   ·
    rename_i b o
    split at e
    ·cases e
    ·rename_i h4;have hlc:len=0∧cap=0:=by omega
     obtain⟨rfl,rfl⟩:=hlc;cases hs with
     | dry =>
     rename_i a'
     split at e
     ·rename_i hn; subst hn; cases e;have:new' = []:=List.eq_nil_of_length_eq_zero (by rw[hnl]; simp)
      subst this;refine⟨j,w,_,?_,.refl h,.dry (a':=a')⟩;rw[hrun];exact iT (happ w rfl) (by omega) rfl
     ·rename_i hn; cases e;obtain⟨cap',rest,w0,h0,⟨hle,hmx⟩,hlr,hrp,hr⟩:=jq (P:=E.P) (zeros:=zeros) (s:=.slice (some a') 0 0) (x:=x') (base:=some a') (sLen:=0) (sCap:=0) (old:=[]) happ
       (fun w0 _=>by simp[Builtin.firstCells,loadCells,loadCellsFrom]) (by omega) hi hz' (by simpa using hfit) hb hzs' hzp (by simp) hnl
      obtain⟨j',s0,s1⟩:=iE h h0 (elem:=elem) hnew hlen (by simpa using hlr) (by omega) hsz hrp hmx
      refine⟨j',_,_,by rw[hrun]; exact hr,by simpa using s0,by simpa using s1⟩
   ·split at e
    ·rename_i hnil hmem hdry h4;obtain⟨rfl,rfl,rfl⟩:=h4;cases e;have:new' = []:=List.eq_nil_of_length_eq_zero (by rw[hnl]; simp)
     subst this;cases hs with
     | snil=>exact absurd rfl hnil
     | slice hj hm=>exact absurd rfl (hmem _ _)
     | sliceM hj hm e1 e2 hl hc=>exact absurd rfl (hmem _ _)
     | dry=>exact absurd rfl (hdry _ _)
     | gq =>
      rename_i a' cap';refine⟨j,w,_,?_,.refl h,.gq (a':=a') (cap':=cap')⟩;rw[hrun];exact iT (happ w rfl) (by omega) rfl
    ·cases e
 ·cases e
end
section
variable {E : Env} {j : aH} {m : AMem} {w : World}
theorem Cv (h:MR E j m w) {t:TypeId} {d d' s s' v:Value} {m':AMem} (e:pY E.P t d s m=some (v,m')) (hd:VR j d d') (hs:VR j s s') {ts:Array TypeId} (h0:ts[0]? = some t) (ty:TypeId) :
  ∃w' v',(Builtin.copy_ ts ty #[d',s']).run E.P w = .ok v' w'∧Sim E j m w j m' w'∧VR j v v':=by
 unfold pY at e
 split at e
 ·rename_i elem base dLen dCap sa sLen sCap hu;simp only at e
  split at e
  ·cases e
  ·rename_i hk;have hk':known E.P elem=true:=by simpa using hk
   split at e
   ·cases e
   ·rename_i cells hsrc
    split at e
    ·cases e
    ·rename_i hone;have hone':bf cells=true:=by simpa using hone
     obtain⟨cells',hc1,hc2⟩:=uz h hsrc hs;have hlen:∀w0:World,(Builtin.lenOf s').run E.P w0 = .ok sLen w0:=by
      intro w0;cases hs<;>rfl
     have hbase:∃base' dCap',d' = .slice base' dLen dCap'∧(∀b o,base=some ⟨b,o,none⟩→∃k:Blk,j b=some k∧base'=some ⟨k.c,o,none⟩):=by
      cases hd with
      | snil=>exact⟨_,_,rfl,fun b o e=>by cases e⟩
      | slice hj hm=>exact⟨_,_,rfl,fun b o e=>by cases e; exact⟨_,hj,rfl⟩⟩
      | sliceM hj hm e1 e2 hl hc=>exact⟨_,_,rfl,fun b o e=>by cases e; exact⟨_,hj,rfl⟩⟩
      | gq=>exact⟨_,_,rfl,fun b o e=>by cases e⟩
      | dry=>exact⟨_,_,rfl,fun b o e=>by cases e⟩
     obtain⟨base',dCap',rfl,hb⟩:=hbase;have hrun0:∀K:Value→World→Result Value,True:=fun _=>trivial
     split at e
     ·rename_i hn;cases e;have hcl:cells = []:=by
       unfold bV at hsrc
       split at hsrc<;>first | (split at hsrc<;>first | (cases hsrc; rfl) | (cases hsrc; done) | (rename_i hne; exact absurd hn hne)) | (cases hsrc; done)
      subst hcl;have:cells' = []:=hc2.db;subst this;refine⟨w,.int .i64 0,?_,.refl h,.int _ _⟩;have hmin:Nat.min sLen dLen=0:=hn;simp only[Builtin.copy_,h0,List.getElem?_toArray,List.getElem?_cons_zero,List.getElem?_cons_succ,Sem.run_bind,run_underlying hu,Result.andThen_ok,hlen,hmin,cd hk'];rw[hn] at hc1;simp only[hc1 w rfl,Result.andThen_ok];cases base'<;>rfl
     ·rename_i b o n hn;cases hst:m.dh b o cells with
      | none=>rw[hst] at e; cases e
      | some m1 =>
       rw[hst] at e; cases e;obtain⟨k,hj,rfl⟩:=hb b o rfl;obtain⟨w',g1,g2⟩:=ib h hj hc2 hone' hst;refine⟨w',.int .i64 (n+1:Nat),?_,g2,.int _ _⟩;have hmin:Nat.min sLen dLen=n+1:=hn;simp only[Builtin.copy_,h0,List.getElem?_toArray,List.getElem?_cons_zero,List.getElem?_cons_succ,Sem.run_bind,run_underlying hu,Result.andThen_ok,hlen,hmin,cd hk'];rw[hn] at hc1;simp only[hc1 w rfl,Result.andThen_ok,g1,Sem.run_pure,goInt]
     ·cases e
 ·cases e
theorem As (h:MR E j m w) {t:TypeId} {x x' v:Value} {m':AMem} (e:yk E.P t x m=some (v,m')) (hx:VR j x x') {ts:Array TypeId} (h0:ts[0]? = some t) (ty:TypeId) :
  ∃w' v',(Builtin.clear_ ts ty #[x']).run E.P w = .ok v' w'∧Sim E j m w j m' w'∧VR j v v':=by
 unfold yk at e
 split at e
 ·rename_i elem a c hu;cases e;refine⟨w,.tuple #[],?_,.refl h,VR.undef j⟩;cases hx<;>simp only[Builtin.clear_,h0,List.getElem?_toArray,List.getElem?_cons_zero,Sem.run_bind,run_underlying hu,Result.andThen_ok]<;>rfl
 ·rename_i elem b o n c hnz hu
  split at e
  ·rename_i zs hz
   split at e
   ·rename_i hp;cases hst:m.dh b o zs with
    | none=>rw[hst] at e; cases e
    | some m1 =>
     rw[hst] at e; cases e;obtain⟨z,hz1,hz2,hz3⟩:=iy hz;have hone:bf zs=true:=by
      unfold bf;rw[List.all_eq_true] at hp ⊢;intro v hv;have:=hp v hv;cases v<;>first|rfl | (simp[aL] at this)
     have hn0:n≠0:=fun e=>hnz e;have hzc:(Builtin.zeroCells z.cells n).toList=zs:=by rw[hz3]; exact j9 n
     have hgo:∀k:Blk,j b=some k→∃w',(storeCells ⟨k.c,o,none⟩ zs).run E.P w = .ok () w'∧Sim E j m w j m' w':=fun k hj=>ib h hj (LR.plain hp) hone hst;cases hx with
     | slice hj hm =>
      obtain⟨w',g1,g2⟩:=hgo _ hj;refine⟨w',.tuple #[],?_,g2,VR.undef j⟩;simp only[Builtin.clear_,h0,List.getElem?_toArray,List.getElem?_cons_zero,Sem.run_bind,run_underlying hu,Result.andThen_ok];cases n with
      | zero=>exact absurd rfl hn0
      | succ n=>simp only[gX hz1,Result.andThen_ok,hzc,g1,Sem.run_pure]
     | sliceM hj hm e1 e2 hl hc =>
      obtain⟨w',g1,g2⟩:=hgo _ hj;refine⟨w',.tuple #[],?_,g2,VR.undef j⟩;simp only[Builtin.clear_,h0,List.getElem?_toArray,List.getElem?_cons_zero,Sem.run_bind,run_underlying hu,Result.andThen_ok];cases n with
      | zero=>exact absurd rfl hn0
      | succ n=>simp only[gX hz1,Result.andThen_ok,hzc,g1,Sem.run_pure]
   ·cases e
  ·cases e
 ·cases e
theorem oJ:∀(vs vs':List Value) (k:IntKind) (a:Int) (v:Value),ep (fun x y=>if y>x then y else x) k a vs=some v→LR j vs vs'→∀w,(vs'.foldlM Builtin.max2 (.int k a)).run E.P w = .ok v w
 | [],vs',k,a,v,e,hl,w=>by rw[hl.db]; cases e; rfl
 | x::vs,vs',k,a,v,e,hl,w=>by
  obtain⟨y,ys,rfl,h1,h2⟩:=hl.cons_inv;cases x<;>simp only[ep] at e<;>first | (cases e; done) | skip
  cases h1;simp only[List.foldlM_cons,Builtin.max2,Sem.run_bind,Sem.run_pure,Result.andThen_ok];exact oJ vs ys k _ v e h2 w
theorem oO:∀(vs vs':List Value) (k:IntKind) (a:Int) (v:Value),ep (fun x y=>if y<x then y else x) k a vs=some v→LR j vs vs'→∀w,(vs'.foldlM Builtin.min2 (.int k a)).run E.P w = .ok v w
 | [],vs',k,a,v,e,hl,w=>by rw[hl.db]; cases e; rfl
 | x::vs,vs',k,a,v,e,hl,w=>by
  obtain⟨y,ys,rfl,h1,h2⟩:=hl.cons_inv;cases x<;>simp only[ep] at e<;>first | (cases e; done) | skip
  cases h1;simp only[List.foldlM_cons,Builtin.min2,Sem.run_bind,Sem.run_pure,Result.andThen_ok];exact oO vs ys k _ v e h2 w
theorem jj (f:Int→Int→Int):∀(vs:List Value) (k:IntKind) (a:Int) (v:Value),ep f k a vs=some v→∃n,v = .int k n
 | [],k,a,v,e=>by cases e; exact⟨a,rfl⟩
 | x::vs,k,a,v,e=>by
  cases x<;>simp only[ep] at e<;>first | (cases e; done) | exact jj f vs k _ v e
theorem ER.len:∀{a:List (Value × Value)} {b:List MapEntry},ER j a b→a.length=b.length
 | [],[],_=>rfl
 | _::_,_::_,h=>by simp[ER.len h.2.2]
 | [],_::_,h=>h.elim
 | _::_,[],h=>h.elim
theorem vq (h:MR E j m w) {b:Builtin} {ts:Array TypeId} {args args':List Value} {v:Value} {m':AMem} (e:bj E.P b ts args m=some (v,m')) (ha:LR j args args') (ty:TypeId) (cs:Array Bool) :
  (m'=m∧(∀m2:AMem,((b = .len∨b = .cap)→∀x b0,args = [x]→fh x=some b0→m2.get b0=m.get b0)→bj E.P b ts args m2=some (v,m2))∧∃v',(builtin b ts ty cs args'.toArray).run E.P w = .ok (.value v') w∧VR j v v') ∨
  ((b = .append∨b = .copy∨b = .clear∨b = .delete)∧∃j' w' v',(builtin b ts ty cs args'.toArray).run E.P w = .ok (.value v') w'∧Sim E j m w j' m' w'∧VR j' v v'):=by
 unfold bj at e
 split at e
 ·
  rename_i x;obtain⟨x',l,rfl,hx,hl⟩:=ha.cons_inv;rw[hl.db];refine .inl ?_;have k0:∀n:Int,(Builtin.len_ ts ty [x'].toArray).run E.P w = .ok (.int .i64 n) w→∃v',(builtin .len ts ty cs [x'].toArray).run E.P w = .ok (.value v') w∧VR j (.int .i64 n) v' :=
   fun n hr=>⟨_,by simp only[builtin,Sem.run_bind,hr,Result.andThen_ok,Sem.run_pure],.int _ _⟩
  cases ht:ts[0]? with
  | none=>rw[ht] at e; simp at e
  | some t =>
   rw[ht] at e;simp only[Option.bind_some] at e
   split at e
   ·rename_i hu; cases e; cases hx;exact⟨rfl,fun m2 h0=>by simp only[bj,ht,Option.bind_some,hu],k0 _ (by simp only[Builtin.len_,ht,List.getElem?_toArray,List.getElem?_cons_zero,Sem.run_bind,run_underlying hu,Result.andThen_ok,Sem.run_pure,goInt])⟩
   ·rename_i hu; cases e;exact⟨rfl,fun m2 h0=>by simp only[bj,ht,Option.bind_some,hu],k0 _ (by simp only[Builtin.len_,ht,List.getElem?_toArray,List.getElem?_cons_zero,Sem.run_bind,run_underlying hu,Result.andThen_ok,Sem.run_pure,goInt])⟩
   ·rename_i a hu
    split at e
    ·rename_i h4; cases e;exact⟨rfl,fun m2 h0=>by simp only[bj,ht,Option.bind_some,hu,h4],k0 _ (by simp only[Builtin.len_,ht,List.getElem?_toArray,List.getElem?_cons_zero,Sem.run_bind,run_underlying hu,run_underlying h4,Result.andThen_ok,Sem.run_pure,goInt])⟩
    ·cases e
   ·rename_i hu; cases e;cases hx<;>exact⟨rfl,fun m2 h0=>by simp only[bj,ht,Option.bind_some,hu],k0 _ (by simp only[Builtin.len_,ht,List.getElem?_toArray,List.getElem?_cons_zero,Sem.run_bind,run_underlying hu,Result.andThen_ok,Sem.run_pure,goInt])⟩
   ·rename_i hu;cases hes:mapOf m _ with
    | none=>rw[hes] at e; cases e
    | some es =>
     rw[hes] at e; cases e;unfold mapOf at hes
     split at hes
     ·cases hes; cases hx;exact⟨rfl,fun m2 h0=>by simp only[bj,ht,Option.bind_some,hu,mapOf,Option.map_some],k0 _ (by simp only[Builtin.len_,ht,List.getElem?_toArray,List.getElem?_cons_zero,Sem.run_bind,run_underlying hu,Result.andThen_ok,Sem.run_pure,goInt]; rfl)⟩
     ·rename_i r
      split at hes
      ·rename_i e0 hg;cases hes;cases hx with
       | map hj =>
       obtain⟨es',clock,h1,h2⟩:=h.zb hj hg;have hlen:es.length=es'.size:=by
        simpa using ER.len h2
       exact⟨rfl,fun m2 h0=>by simp only[bj,ht,Option.bind_some,hu,mapOf,h0 (.inl rfl) _ _ rfl rfl,hg,Option.map_some],k0 _ (by simp only[Builtin.len_,ht,List.getElem?_toArray,List.getElem?_cons_zero,Sem.run_bind,run_underlying hu,Result.andThen_ok,run_getObj_map h1,Sem.run_pure,goInt,hlen])⟩
      ·cases hes
     ·cases hes
   ·cases e
 ·
  rename_i x;obtain⟨x',l,rfl,hx,hl⟩:=ha.cons_inv;rw[hl.db];refine .inl ?_;have k0:∀n:Int,(Builtin.cap_ ts ty [x'].toArray).run E.P w = .ok (.int .i64 n) w→∃v',(builtin .cap ts ty cs [x'].toArray).run E.P w = .ok (.value v') w∧VR j (.int .i64 n) v' :=
   fun n hr=>⟨_,by simp only[builtin,Sem.run_bind,hr,Result.andThen_ok,Sem.run_pure],.int _ _⟩
  cases ht:ts[0]? with
  | none=>rw[ht] at e; simp at e
  | some t =>
   rw[ht] at e;simp only[Option.bind_some] at e
   split at e
   ·rename_i hu; cases e; cases hx;exact⟨rfl,fun m2 h0=>by simp only[bj,ht,Option.bind_some,hu],k0 _ (by simp only[Builtin.cap_,ht,List.getElem?_toArray,List.getElem?_cons_zero,Sem.run_bind,run_underlying hu,Result.andThen_ok,Sem.run_pure,goInt])⟩
   ·rename_i b0 o l0 n hu
    split at e
    ·cases e
    ·rename_i c0 tag htag hg;cases e;cases hx with
     | slice hj hm =>
      refine⟨rfl,fun m2 h0=>?_,k0 _ (by simp only[Builtin.cap_,ht,List.getElem?_toArray,List.getElem?_cons_zero,Sem.run_bind,run_underlying hu,Result.andThen_ok,Sem.run_pure,goInt])⟩
      have h5:m2.get b0=some (.cells c0 tag):=(h0 (.inr rfl) _ _ rfl rfl).trans hg;simp only[bj,ht,Option.bind_some,hu,h5]
     | sliceM hj hm e1 e2 hl hc =>
      have:=h.kindOf hj hg;cases tag with
      | more sz=>exact absurd rfl (htag sz)
      | ro=>simp only at this; rw[hm] at this; cases this
      | own=>simp only at this; rw[hm] at this; cases this
    ·cases e
   ·cases e
 ·
  rename_i s x;obtain⟨s',l,rfl,hs,hl⟩:=ha.cons_inv;obtain⟨x',l',rfl,hx,hl'⟩:=hl.cons_inv;rw[hl'.db]
  split at e
  ·rename_i t ht;obtain⟨j',w',v',h1,h2,h3⟩:=yq h e hs hx ht rfl ty;exact .inr ⟨by simp,j',w',v',by simp only[builtin,Sem.run_bind]; rw[h1]; rfl,h2,h3⟩
  ·cases e
 ·
  rename_i d s;obtain⟨d',l,rfl,hd,hl⟩:=ha.cons_inv;obtain⟨s',l',rfl,hs,hl'⟩:=hl.cons_inv;rw[hl'.db]
  split at e
  ·rename_i t ht;obtain⟨w',v',h1,h2,h3⟩:=Cv h e hd hs ht ty;exact .inr ⟨by simp,j,w',v',by simp only[builtin,Sem.run_bind]; rw[h1]; rfl,h2,h3⟩
  ·cases e
 ·
  rename_i x;obtain⟨x',l,rfl,hx,hl⟩:=ha.cons_inv;rw[hl.db]
  split at e
  ·rename_i t ht;obtain⟨w',v',h1,h2,h3⟩:=As h e hx ht ty;exact .inr ⟨by simp,j,w',v',by simp only[builtin,Sem.run_bind]; rw[h1]; rfl,h2,h3⟩
  ·cases e
 ·
  rename_i x k;obtain⟨x',l,rfl,hx,hl⟩:=ha.cons_inv;obtain⟨k',l',rfl,hk,hl'⟩:=hl.cons_inv;rw[hl'.db]
  split at e
  ·rename_i t ht;cases hd:oZ E.P t x k m with
   | none=>rw[hd] at e; cases e
   | some m1 =>
    rw[hd] at e; cases e;obtain⟨w',h1,h2⟩:=xU h hd hx hk ts ht ty;exact .inr ⟨by simp,j,w',.tuple #[],by simp only[builtin,Sem.run_bind]; rw[h1]; rfl,h2,VR.undef j⟩
  ·cases e
 ·
  rename_i k a vs;obtain⟨x',l,rfl,hx,hl⟩:=ha.cons_inv;cases hx;cases hf:ep (fun x y=>if y>x then y else x) k a vs with
  | none=>rw[hf] at e; cases e
  | some r =>
   rw[hf] at e; cases e;obtain⟨n,rfl⟩:=jj _ _ _ _ _ hf;refine .inl ⟨rfl,fun m2 _=>by simp only[bj,hf,Option.map_some],.int k n,?_,.int _ _⟩
   have:=oJ (E:=E) vs l k a _ hf hl w;simp only[builtin,Sem.run_bind,Builtin.max_,this,Result.andThen_ok,Sem.run_pure]
 ·
  rename_i k a vs;obtain⟨x',l,rfl,hx,hl⟩:=ha.cons_inv;cases hx;cases hf:ep (fun x y=>if y<x then y else x) k a vs with
  | none=>rw[hf] at e; cases e
  | some r =>
   rw[hf] at e; cases e;obtain⟨n,rfl⟩:=jj _ _ _ _ _ hf;refine .inl ⟨rfl,fun m2 _=>by simp only[bj,hf,Option.map_some],.int k n,?_,.int _ _⟩
   have:=oO (E:=E) vs l k a _ hf hl w;simp only[builtin,Sem.run_bind,Builtin.min_,this,Result.andThen_ok,Sem.run_pure]
 ·cases e
end
section
variable {E : Env} {j : aH} {m : AMem} {w : World} {t : Tm} {n : Nat} {a : Act}
theorem aF (h:MR E j m w) (ht:TR n j t a.tmps) {x:Operand} {v:Value} (e:aq E t x=some v):VR j v (a.eval x):=by
 unfold aq at e
 split at e
 ·cases e; exact ht.2 _
 ·split at e
  ·rename_i hp; cases e; exact VR.bg hp
  ·cases e
 ·split at e
  ·rename_i hg; cases e; exact .ptr (h.glob _ hg)
  ·cases e
 ·cases e; exact .func rfl (fun i a _=>by simp at a) rfl (fun i a _=>by simp at a)
theorem eo (h:MR E j m w) (ht:TR n j t a.tmps):∀{xs:List Operand} {vs:List Value},bB E t xs=some vs→LR j vs (xs.map a.eval)
 | [],vs,e=>by cases e; exact .nil j
 | x::xs,vs,e=>by
  simp only[bB] at e
  split at e
  ·rename_i v vs' h1 h2;cases e;exact .cons (aF h ht h1) (eo h ht h2)
  ·cases e
theorem iK (h:MR E j m w) (ht:TR n j t a.tmps):∀{xs:List (Nat × Operand)} {vs:List (Nat × Value)},cZ E t xs=some vs →
  vs.map (·.1)=(xs.map fun p=>(p.1,a.eval p.2)).map (·.1)∧LR j (vs.map (·.2)) ((xs.map fun p=>(p.1,a.eval p.2)).map (·.2))
 | [],vs,e=>by cases e; exact⟨rfl,.nil j⟩
 | (i,x)::xs,vs,e=>by
  simp only[cZ] at e
  split at e
  ·rename_i v vs' h1 h2;cases e;obtain⟨h3,h4⟩:=iK h ht h2;exact⟨by simpa using h3,.cons (aF h ht h1) h4⟩
  ·cases e
theorem lU (h:MR E j m w) (ht:TR n j t a.tmps) {x:Option Operand} {v:Option Value} (e:dk E t x=some v):OVR j v (x.map a.eval):=by
 cases x with
 | none=>cases e; exact .none
 | some x =>
  simp only[dk] at e;cases hv:aq E t x with
  | none=>rw[hv] at e; cases e
  | some v0=>rw[hv] at e; cases e; exact .some (aF h ht hv)
def jI (P:Program) (s:Sem Next) (v:Value) (w w':World):Prop:=s.run P w = .ok (.value v) w'∨(s.run P w = .ok .skip w'∧v=undef)
theorem jI.value {P:Program} {s:Sem Value} {v:Value} {w w':World} (h:s.run P w = .ok v w'):jI P (do pure (.value (←s))) v w w' :=
 .inl (by simp only[Sem.run_bind,h,Result.andThen_ok,Sem.run_pure])
theorem jI.unit {P:Program} {s:Sem Unit} {w w':World} (h:s.run P w = .ok () w'):jI P (do s; pure .skip) undef w w' :=
 .inr ⟨by simp only[Sem.run_bind,h,Result.andThen_ok,Sem.run_pure],rfl⟩
theorem map_some {α β:Type} {f:α→β} {x:Option α} {y:β} (h:x.map f=some y):∃a,x=some a∧y=f a:=by
 cases x with
 | none=>cases h
 | some a=>cases h; exact⟨a,rfl,rfl⟩
theorem u6 {m2 m:AMem} {b o n:Nat} (h:m2.get b=m.get b):m2.dD b o n=m.dD b o n:=by simp only[AMem.dD,h]
theorem vo {P:Program} {t:TypeId} {p:Value} {m2 m:AMem} (h:∀b0,fh p=some b0→m2.get b0=m.get b0):dx P t p m2=dx P t p m:=by
 unfold dx
 split
 ·rename_i b o;have hb:=h b rfl;simp only[u6 hb,hb]
 ·rfl
theorem sM {P:Program} {t:TypeId} {p:Value} {l hh k:Option Value} {m2 m:AMem} (h:∀b0,fh p=some b0→m2.get b0=m.get b0):cz P t p l hh k m2=cz P t p l hh k m:=by
 unfold cz
 split
 ·rfl
 ·rename_i b o len cap _;simp only[h b rfl]
 ·rfl
 ·rename_i b o _;simp only[h b rfl]
 ·rfl
theorem qS {P:Program} {t:TypeId} {p q:Value} {ok:Bool} {m2 m:AMem} (h:∀b0,fh p=some b0→m2.get b0=m.get b0):da P t p q ok m2=da P t p q ok m:=by
 have:mapOf m2 p=mapOf m p:=by
  unfold mapOf
  split
  ·rfl
  ·rename_i r; simp only[h r rfl]
  ·rfl
 unfold da;simp only[this]
def GC (E:Env) (j:aH) (m:AMem) (w:World) (t:Tm) (a:Act) (o:Oper) (v:Value) (m':AMem):Prop :=
 m'=m∧(∀m2:AMem,(∀b0,aN E t o.op=some b0→m2.get b0=m.get b0)→cA E t m2 o.op=some (v,m2))∧∃v',jI E.P (execOp a.eval o) v' w w∧VR j v v'
def JY (E:Env) (j:aH) (m:AMem) (w:World) (t:Tm) (a:Act) (o:Oper) (v:Value) (m':AMem):Prop :=
 ∃(ao:AObj) (co:Obj) (vb:Nat→Value) (v':Value),v=vb m.next∧m'=m.alloc ao∧jI E.P (execOp a.eval o) v' w (w.alloc co)∧OR j ⟨w.heap.size,none⟩ ao co ∧
  (∀(j':aH) (b:Nat),j' b=some ⟨w.heap.size,none⟩→VR j' (vb b) v')∧∀m2:AMem,cA E t m2 o.op=some (vb m2.next,m2.alloc ao)
theorem sW (h:MR E j m w) (ht:TR n j t a.tmps) {o:Oper} {v:Value} {m':AMem} (e:cA E t m o.op=some (v,m')) :
  GC E j m w t a o v m'∨JY E j m w t a o v m'∨(ax o.op=true∧∃j' w' v',jI E.P (execOp a.eval o) v' w w'∧Sim E j m w j' m' w'∧VR j' v v'):=by
 have hpure:∀{s:Sem Value} {f:AMem→Option Value} {v0:Value} {m0:AMem},(∀m2:AMem,cA E t m2 o.op=(f m2).map fun v=>(v,m2))→(∀m2:AMem,(∀b0,aN E t o.op=some b0→m2.get b0=m.get b0)→f m2=f m) →
   (∀v1,f m=some v1→∃v',s.run E.P w = .ok v' w∧VR j v1 v')→(f m).map (fun v=>(v,m))=some (v0,m0)→execOp a.eval o=(do pure (.value (←s))) →
   GC E j m w t a o v0 m0:=by
  intro s f v0 m0 hf hf2 h1 h2 hx;obtain⟨v1,hr,he⟩:=map_some h2;cases he;obtain⟨v',h3,h4⟩:=h1 _ hr;exact⟨rfl,fun m2 hm2=>by rw[hf,hf2 m2 hm2,hr]; rfl,v',by rw[hx]; exact .value h3,h4⟩
 cases hop:o.op<;>rw[hop] at e<;>simp only[cA] at e<;>try (cases e; done)
 case move x =>
  refine .inl ⟨(by obtain⟨v1,hv,he⟩:=map_some e; cases he; rfl),fun m2 _=>?_,?_⟩
  ·rw[hop]; obtain⟨v1,hv,he⟩:=map_some e; cases he;simp only[cA,hv,Option.map_some]
  ·obtain⟨v1,hv,he⟩:=map_some e;cases he;exact⟨_,.inl (by simp only[execOp,hop]; rfl),aF h ht hv⟩
 case assign x =>
  refine .inl ⟨(by obtain⟨v1,hv,he⟩:=map_some e; cases he; rfl),fun m2 _=>?_,?_⟩
  ·rw[hop]; obtain⟨v1,hv,he⟩:=map_some e; cases he;simp only[cA,hv,Option.map_some]
  ·obtain⟨v1,hv,he⟩:=map_some e;cases he;exact⟨_,.inl (by simp only[execOp,hop]; rfl),aF h ht hv⟩
 case pick c x y =>
  have hx:execOp a.eval o=(do pure (.value (if ←asBool (a.eval c) then a.eval x else a.eval y))):=by simp only[execOp,hop]
  refine .inl ?_
  split at e
  ·rename_i hc;obtain⟨v1,hv,he⟩:=map_some e;cases he;have hb:=aF h ht hc;refine⟨rfl,fun m2 _=>by rw[hop]; simp only[cA,hc,hv,Option.map_some],a.eval x,?_,aF h ht hv⟩
   rw[hx];generalize a.eval c=cv at hb;cases hb;exact .inl rfl
  ·rename_i hc;obtain⟨v1,hv,he⟩:=map_some e;cases he;have hb:=aF h ht hc;refine⟨rfl,fun m2 _=>by rw[hop]; simp only[cA,hc,hv,Option.map_some],a.eval y,?_,aF h ht hv⟩
   rw[hx];generalize a.eval c=cv at hb;cases hb;exact .inl rfl
  ·cases e
 case alloc elem =>
  have hx:execOp a.eval o=(do pure (.value (←Instr.alloc elem true (.tuple #[])))):=by simp only[execOp,hop]
  split at e
  ·rename_i z hz
   split at e
   ·rename_i hp;cases e;refine .inr (.inl ⟨_,.cells z.cells elem,fun b=>ptr b 0,.pointer (some ⟨w.heap.size,0,none⟩),rfl,rfl,?_,OR.own (gr (VR.bg hp)),fun j' b hb=>.ptr hb,fun m2=>by rw[hop]; simp only[cA,hz,hp,if_true]⟩)
    rw[hx];refine .value ?_;simp only[Instr.alloc,Sem.run_bind,gX hz,Result.andThen_ok,newVar,newRow,run_newObj,Sem.run_pure,World.alloc_eq]
   ·cases e
  ·cases e
 case box elem x =>
  have hx:execOp a.eval o=(do pure (.value (←Instr.box elem (a.eval x)))):=by simp only[execOp,hop]
  obtain⟨v1,hv,he⟩:=map_some e;cases he;refine .inr (.inl ⟨_,.cells (a.eval x).cells elem,fun b=>ptr b 0,.pointer (some ⟨w.heap.size,0,none⟩),rfl,rfl,?_,OR.own (gr (aF h ht hv)),fun j' b hb=>.ptr hb,fun m2=>by rw[hop]; simp only[cA,hv,Option.map_some]⟩)
  rw[hx];refine .value ?_;simp only[Instr.box,Sem.run_bind,newVar,newRow,run_newObj,Result.andThen_ok,Sem.run_pure,World.alloc_eq]
 case build ty parts =>
  have hx:execOp a.eval o=(do pure (.value (←Instr.build ty (parts.map fun(i,x)=>(i,a.eval x))))):=by simp only[execOp,hop]
  split at e
  ·rename_i ps z hps hz
   split at e
   ·rename_i hp;obtain⟨h1,h2⟩:=iK h ht hps;refine .inl (hpure (f:=fun _=>ju E.P ty ps) (fun m2=>by rw[hop]; simp only[cA,hps,hz,if_pos hp]) (fun _ _=>rfl) (fun v1 hv1=>?_) e hx)
    obtain⟨v',h3,h4⟩:=zX hv1 h1 h2 hz hp;refine⟨v',?_,h4⟩;have:(parts.map fun(i,x)=>(i,a.eval x))=(parts.toList.map fun p=>(p.1,a.eval p.2)).toArray:=by
     apply Array.toList_inj.1; simp
    rw[this]; exact h3 w
   ·cases e
  ·cases e
 case buildSlice ty len parts =>
  have hx:execOp a.eval o=(do pure (.value (←Instr.buildSlice ty len (parts.map fun(i,x)=>(i,a.eval x))))):=by simp only[execOp,hop]
  split at e
  ·rename_i elem ps hu hps
   split at e
   ·cases e
   ·rename_i hc;simp only[Bool.or_eq_true,Bool.not_eq_true',decide_eq_true_eq,not_or,Bool.not_eq_false] at hc;obtain⟨hk,hbig⟩:=hc
    split at e
    ·rename_i zs hz
     split at e
     ·rename_i hp;obtain⟨cs,hcs,he⟩:=map_some e;cases he;obtain⟨h1,h2⟩:=iK h ht hps;obtain⟨z,hz1,hz2,hz3⟩:=iy hz;obtain⟨cs',h3,h4⟩:=mQ h1 h2 (LR.plain (j:=j) hp) hcs;have hparts:(parts.map fun(i,x)=>(i,a.eval x)).toList=parts.toList.map fun p=>(p.1,a.eval p.2):=by simp
      refine .inr (.inl ⟨_,.cells cs'.toArray elem,fun b=>.slice (some ⟨b,0,none⟩) len len,.slice (some ⟨w.heap.size,0,none⟩) len len,rfl,rfl,?_,OR.own (by simpa using h4),fun j' b hb=>.slice hb rfl,fun m2=>by rw[hop]; simp only[cA,hu,hps,hk,hz,hp,hcs,decide_eq_false hbig,Bool.not_true,Bool.or_self,Bool.false_eq_true,if_true,if_false,Option.map_some]⟩)
      rw[hx];refine .value ?_;have hc0:len*au E.P elem=0→((Array.range (len*au E.P elem)).map fun i=>(#[]:Array Value)[i%(#[]:Array Value).size]!)=zs.toArray:=by
       intro h0;apply Array.toList_inj.1;have:zs = []:=by apply List.eq_nil_of_length_eq_zero; rw[hz3,ft,Array.length_toList,hz2,h0]
       simp[h0,this]
      have hc1:((Array.range (len*au E.P elem)).map fun i=>z.cells[i%z.cells.size]!)=zs.toArray:=by
       apply Array.toList_inj.1;rw[hz3,←hz2]; exact j9 len
      simp only[Instr.buildSlice,Sem.run_bind,run_underlying hu,Result.andThen_ok,cd hk,Sem.run_ite,if_neg hbig,hparts]
      split
      ·rename_i h0;simp only[Sem.run_pure,Result.andThen_ok,hc0 h0,h3,newRow,Sem.run_bind,run_newObj,World.alloc_eq]
      ·simp only[Sem.run_bind,gX hz1,Sem.run_pure,Result.andThen_ok,hc1,h3,newRow,run_newObj,World.alloc_eq]
     ·cases e
    ·cases e
  ·cases e
 case load ty x =>
  have hx:execOp a.eval o=(do pure (.value (←Instr.loadAt ty (a.eval x)))):=by simp only[execOp,hop]
  split at e
  ·rename_i p hp;refine .inl (hpure (f:=fun m2=>dx E.P ty p m2) (fun m2=>by rw[hop]; simp only[cA,hp]) (fun m2 hm2=>?_) (fun v1 hv1=>uR h hv1 (aF h ht hp)) e hx)
   rw[hop] at hm2;simp only[aN,hp,Option.bind_some] at hm2;exact vo hm2
  ·cases e
 case store ty x y =>
  have hx:execOp a.eval o=(do Instr.storeAt ty (a.eval x) (a.eval y); pure .skip):=by simp only[execOp,hop]
  rw[hx]
  split at e
  ·rename_i p v0 hp hv0;obtain⟨m1,hm1,he⟩:=map_some e;cases he;obtain⟨w',h1,h2⟩:=Ac h hm1 (aF h ht hp) (aF h ht hv0);exact .inr (.inr ⟨rfl,j,w',undef,.unit h1,h2,VR.undef j⟩)
  ·cases e
 case nilCheck x =>
  split at e
  ·rename_i ad hp;cases e;have hv:=aF h ht hp;refine .inl ⟨rfl,fun m2 _=>by rw[hop]; simp only[cA,hp],a.eval x,.inl ?_,hv⟩
   generalize hxv:a.eval x=xv at hv;cases hv;simp only[execOp,hop,hxv,Sem.run_pure]
  ·rename_i f fs cs hp;cases e;have hv:=aF h ht hp;refine .inl ⟨rfl,fun m2 _=>by rw[hop]; simp only[cA,hp],a.eval x,.inl ?_,hv⟩
   generalize hxv:a.eval x=xv at hv;cases hv;simp only[execOp,hop,hxv,Sem.run_pure]
  ·rename_i f fs cs hp;cases e;have hv:=aF h ht hp;refine .inl ⟨rfl,fun m2 _=>by rw[hop]; simp only[cA,hp],a.eval x,.inl ?_,hv⟩
   generalize hxv:a.eval x=xv at hv;cases hv;simp only[execOp,hop,hxv,Sem.run_pure]
  ·cases e
 case binOp op xt x y yt =>
  have hx:execOp a.eval o=(do pure (.value (←(do eqGuard op xt x y (a.eval x) (a.eval y); binOp op xt (a.eval x) (a.eval y))))):=by simp only[execOp,hop]
  split at e
  ·rename_i p q hp hq;refine .inl (hpure (f:=fun _=>bA op xt E.P p q) (fun m2=>by rw[hop]; simp only[cA,hp,hq]) (fun _ _=>rfl) (fun v1 hv1=>?_) e hx)
   obtain⟨v',h1,h2⟩:=FJ hv1 (aF h ht hp) (aF h ht hq) x y;exact⟨v',h1 w,h2⟩
  ·cases e
 case unOp op xt x =>
  have hx:execOp a.eval o=(do pure (.value (←Op.unary op (a.eval x)))):=by simp only[execOp,hop]
  split at e
  ·rename_i p hp;refine .inl (hpure (f:=fun _=>xA op p) (fun m2=>by rw[hop]; simp only[cA,hp]) (fun _ _=>rfl) (fun v1 hv1=>?_) e hx)
   obtain⟨v',h1,h2⟩:=Ig (P:=E.P) hv1 (aF h ht hp);exact⟨v',h1 w,h2⟩
  ·cases e
 case convert s d x =>
  have hx:execOp a.eval o=(do pure (.value (←convert s d (a.eval x)))):=by simp only[execOp,hop]
  split at e
  ·rename_i p hp;refine .inl (hpure (f:=fun _=>fg E.P s d p) (fun m2=>by rw[hop]; simp only[cA,hp]) (fun _ _=>rfl) (fun v1 hv1=>?_) e hx)
   obtain⟨v',h1,h2⟩:=C2 hv1 (aF h ht hp);exact⟨v',h1 w,h2⟩
  ·cases e
 case makeFunc fn first captured =>
  cases fn<;>simp only at e<;>try (cases e; done)
  rename_i f;have hx:execOp a.eval o=(do pure (.value (←Instr.makeFunc (.func f) (first.map a.eval) (captured.map a.eval)))):=by simp only[execOp,hop]
  split at e
  ·rename_i fs cs h1 h2;cases e;have h3:=eo h ht h1;have h4:=eo h ht h2;have h3':LR j fs.toArray.toList (first.map a.eval).toList:=by simpa using h3
   have h4':LR j cs.toArray.toList (captured.map a.eval).toList:=by simpa using h4
   refine .inl ⟨rfl,fun m2 _=>by rw[hop]; simp only[cA,h1,h2],_,?_,.func h3'.size h3'.arr h4'.size h4'.arr⟩
   rw[hx]; exact .value rfl
  ·cases e
 case makeMap ty r =>
  cases r with
  | some _=>simp at e
  | none =>
   simp only at e;cases e;have hx:execOp a.eval o=(do pure (.value (←Instr.makeMap ty none))):=by simp only[execOp,hop]; rfl
   refine .inr (.inl ⟨.map [],.map #[] 0,fun b=>.map (some b),.map (some w.heap.size),rfl,rfl,?_,⟨trivial,AR _⟩,fun j' b hb=>.map hb,fun m2=>by rw[hop]; rfl⟩)
   rw[hx];refine .value ?_;simp only[Instr.makeMap,Sem.run_bind,run_newObj,Result.andThen_ok,Sem.run_pure,World.alloc_eq]
 case makeSlice ty l c =>
  have hx:execOp a.eval o=(do pure (.value (←Instr.makeSlice ty (a.eval l) (a.eval c)))):=by simp only[execOp,hop]
  split at e
  ·rename_i elem li ci hu hl hc
   split at e
   ·rename_i hcond;have hcond0:=hcond;obtain⟨h0l,hlc,hany,hk⟩:=hcond;simp only[Option.any_eq_true,Bool.and_eq_true,decide_eq_true_eq,bne_iff_ne,ne_eq] at hany;obtain⟨i,hi,hby,hb0⟩:=hany
    split at e
    ·rename_i zs hz
     split at e
     ·rename_i hp;cases e;obtain⟨z,hz1,hz2,hz3⟩:=iy hz;have hlv:=aF h ht hl;have hcv:=aF h ht hc;refine .inr (.inl ⟨_,.cells zs.toArray elem,fun b=>.slice (some ⟨b,0,none⟩) li.toNat ci.toNat,.slice (some ⟨w.heap.size,0,none⟩) li.toNat ci.toNat,rfl,rfl,?_,OR.own (LR.plain hp),fun j' b hb=>.slice hb rfl,fun m2=>by rw[hop]; simp only[cA,hu,hl,hc]; rw[if_pos hcond0]; simp only[hz,hp,if_true]⟩)
      rw[hx];refine .value ?_;generalize a.eval l=lv at hlv;generalize a.eval c=cv at hcv;cases hlv; cases hcv;have hci:ci≤2 ^ 40:=by
       have h1:(1:Int)≤(i.bytes:Int):=by exact_mod_cast Nat.one_le_iff_ne_zero.2 hb0
       have:1*ci≤(i.bytes:Int)*ci:=Int.mul_le_mul_of_nonneg_right h1 (by omega)
       omega
      have hwl:IntKind.i64.wrap li=li:=IntWalk.i64_in li (by omega)
      have hwc:IntKind.i64.wrap ci=ci:=IntWalk.i64_in ci (by omega)
      have hneg:¬(((ci<0 || (i.bytes:Int)*ci>2 ^ 48) || li<0 || li>ci)=true):=by
       simp only[Bool.or_eq_true,decide_eq_true_eq,not_or];omega
      have hc0:ci.toNat*au E.P elem=0→((Array.range (ci.toNat*au E.P elem)).map fun i=>(#[]:Array Value)[i%(#[]:Array Value).size]!)=zs.toArray:=by
       intro h0;apply Array.toList_inj.1;have:zs = []:=by apply List.eq_nil_of_length_eq_zero; rw[hz3,ft,Array.length_toList,hz2,h0]
       simp[h0,this]
      have hc1:((Array.range (ci.toNat*au E.P elem)).map fun i=>z.cells[i%z.cells.size]!)=zs.toArray:=by
       apply Array.toList_inj.1;rw[hz3,←hz2]; exact j9 ci.toNat
      simp only[Instr.makeSlice,Sem.run_bind,run_underlying hu,Result.andThen_ok,asInt,asIntOf,Sem.run_pure,pM hi,hwl,hwc,Sem.run_ite,if_neg hneg,run_askRoom,cd hk]
      split
      ·rename_i h0;simp only[Sem.run_pure,Result.andThen_ok,hc0 h0,newRow,Sem.run_bind,run_newObj,World.alloc_eq]
      ·simp only[Sem.run_bind,gX hz1,Sem.run_pure,Result.andThen_ok,hc1,newRow,run_newObj,World.alloc_eq]
     ·cases e
    ·cases e
   ·cases e
  ·cases e
 case slice ty x lo hi mx =>
  have hx:execOp a.eval o=(do pure (.value (←Instr.sliceAt ty (a.eval x) (lo.map a.eval) (hi.map a.eval) (mx.map a.eval)))):=by simp only[execOp,hop]
  split at e
  ·rename_i p l hh k hp h1 h2 h3;refine .inl (hpure (f:=fun m2=>cz E.P ty p l hh k m2) (fun m2=>by rw[hop]; simp only[cA,hp,h1,h2,h3]) (fun m2 hm2=>?_) (fun v1 hv1=>?_) e hx)
   ·rw[hop] at hm2;simp only[aN,hp,Option.bind_some] at hm2;exact sM hm2
   ·obtain⟨v',g1,g2⟩:=z8 h hv1 (aF h ht hp) (lU h ht h1) (lU h ht h2) (lU h ht h3);exact⟨v',g1 w,g2⟩
  ·cases e
 case fieldAddr s x f =>
  have hx:execOp a.eval o=(do pure (.value (←Instr.fieldAt s (a.eval x) f))):=by simp only[execOp,hop]
  split at e
  ·rename_i p hp;refine .inl (hpure (f:=fun _=>aR E.P s p f) (fun m2=>by rw[hop]; simp only[cA,hp]) (fun _ _=>rfl) (fun v1 hv1=>?_) e hx)
   obtain⟨v',g1,g2⟩:=ra hv1 (aF h ht hp);exact⟨v',g1 w,g2⟩
  ·cases e
 case field ty x f =>
  have hx:execOp a.eval o=(do pure (.value (←Instr.field ty (a.eval x) f))):=by simp only[execOp,hop]
  split at e
  ·rename_i p hp;refine .inl (hpure (f:=fun _=>eH E.P ty p f) (fun m2=>by rw[hop]; simp only[cA,hp]) (fun _ _=>rfl) (fun v1 hv1=>?_) e hx)
   obtain⟨v',g1,g2⟩:=AF hv1 (aF h ht hp);exact⟨v',g1 w,g2⟩
  ·cases e
 case sliceToArrayPointer ty x =>
  have hx:execOp a.eval o=(do pure (.value (←Instr.arrayAt ty (a.eval x)))):=by simp only[execOp,hop]
  split at e
  ·rename_i p hp;refine .inl (hpure (f:=fun _=>zo E.P ty p) (fun m2=>by rw[hop]; simp only[cA,hp]) (fun _ _=>rfl) (fun v1 hv1=>?_) e hx)
   obtain⟨v',g1,g2⟩:=Cn hv1 (aF h ht hp);exact⟨v',g1 w,g2⟩
  ·cases e
 case indexAddr ty x i =>
  have hx:execOp a.eval o=(do pure (.value (←Instr.indexAt ty (a.eval x) (a.eval i)))):=by simp only[execOp,hop]
  split at e
  ·rename_i p q hp hq;refine .inl (hpure (f:=fun _=>bG E.P ty p q) (fun m2=>by rw[hop]; simp only[cA,hp,hq]) (fun _ _=>rfl) (fun v1 hv1=>?_) e hx)
   obtain⟨v',g1,g2⟩:=qW hv1 (aF h ht hp) (aF h ht hq);exact⟨v',g1 w,g2⟩
  ·cases e
 case index ty x i =>
  have hx:execOp a.eval o=(do pure (.value (←Instr.index ty (a.eval x) (a.eval i)))):=by simp only[execOp,hop]
  split at e
  ·rename_i p q hp hq;refine .inl (hpure (f:=fun _=>fI E.P ty p q) (fun m2=>by rw[hop]; simp only[cA,hp,hq]) (fun _ _=>rfl) (fun v1 hv1=>?_) e hx)
   obtain⟨v',g1,g2⟩:=AZ hv1 (aF h ht hp) (aF h ht hq);exact⟨v',g1 w,g2⟩
  ·cases e
 case lookup ty x i ok =>
  have hx:execOp a.eval o=(do pure (.value (←Instr.lookup ty (a.eval x) (a.eval i) ok))):=by simp only[execOp,hop]
  split at e
  ·rename_i p q hp hq;refine .inl (hpure (f:=fun m2=>da E.P ty p q ok m2) (fun m2=>by rw[hop]; simp only[cA,hp,hq]) (fun m2 hm2=>?_) (fun v1 hv1=>xq h hv1 (aF h ht hp) (aF h ht hq)) e hx)
   rw[hop] at hm2;simp only[aN,hp,Option.bind_some] at hm2;exact qS hm2
  ·cases e
 case mapUpdate ty x k y =>
  have hx:execOp a.eval o=(do Instr.mapUpdate ty (a.eval x) (a.eval k) (a.eval y); pure .skip):=by simp only[execOp,hop]
  rw[hx]
  split at e
  ·rename_i p q r hp hq hr;obtain⟨m1,hm1,he⟩:=map_some e;cases he;obtain⟨w',h1,h2⟩:=lC h hm1 (aF h ht hp) (aF h ht hq) (aF h ht hr);exact .inr (.inr ⟨rfl,j,w',undef,.unit h1,h2,VR.undef j⟩)
  ·cases e
 case insert ty x k y =>
  have hx:execOp a.eval o=(do Instr.mapUpdate ty (a.eval x) (a.eval k) (a.eval y); pure .skip):=by simp only[execOp,hop]
  rw[hx]
  split at e
  ·rename_i p q r hp hq hr;obtain⟨m1,hm1,he⟩:=map_some e;cases he;obtain⟨w',h1,h2⟩:=lC h hm1 (aF h ht hp) (aF h ht hq) (aF h ht hr);exact .inr (.inr ⟨rfl,j,w',undef,.unit h1,h2,VR.undef j⟩)
  ·cases e
 case extract x i =>
  have hx:execOp a.eval o=(do pure (.value (←Instr.extract (a.eval x) i))):=by simp only[execOp,hop]
  split at e
  ·rename_i vs hp;refine .inl (hpure (f:=fun _=>vs[i]?) (fun m2=>by rw[hop]; simp only[cA,hp]) (fun _ _=>rfl) (fun v1 hv1=>?_) e hx)
   have hv:=aF h ht hp;generalize a.eval x=xv at hv;cases hv with
   | tuple h1 h2 =>
   rename_i ys;obtain⟨v',g1,g2⟩:=(LR.eO h1 h2).get (show vs.toList[i]? = some v1 by simpa using hv1)
   refine⟨v',?_,g2⟩;have g1':ys[i]? = some v':=by simpa using g1
   simp only[Instr.extract,g1',Sem.run_pure]
  ·cases e
 case call c =>
  split at e
  ·rename_i b hb
   split at e
   ·rename_i vs hvs;have hx:execOp a.eval o=(do let d ←resolve a.eval c o.type; invoke d.target d.args):=by simp only[execOp,hop]
    have hargs:c.args.map a.eval=(c.args.toList.map a.eval).toArray:=by apply Array.toList_inj.1; simp
    have hrun:∃cs,(execOp a.eval o).run E.P w=(builtin b c.argTypes o.type cs (c.args.toList.map a.eval).toArray).run E.P w :=
     ⟨_,by rw[hx]; simp only[resolve,hb,Sem.run_bind,Sem.run_pure,Result.andThen_ok,invoke,hargs]; rfl⟩
    obtain⟨cs,hrun⟩:=hrun;rcases vq h e (eo h ht hvs) o.type cs with⟨rfl,hm,v',h1,h2⟩|⟨hbb,j',w',v',h1,h2,h3⟩
    ·refine .inl ⟨rfl,fun m2 hm2=>?_,v',.inl (hrun.trans h1),h2⟩;rw[hop] at hm2 ⊢;simp only[cA,hb,hvs];refine hm m2 fun hlc x b0 hx1 hx2=>hm2 b0 ?_;subst hx1;rcases hlc with rfl|rfl<;>simp only[aN,hb,hvs,hx2]
    ·refine .inr (.inr ⟨?_,j',w',v',.inl (hrun.trans h1),h2,h3⟩);rcases hbb with rfl|rfl|rfl|rfl<;>simp only[ax,hb]
   ·cases e
  ·cases e
theorem DV (h:MR E j m w) (ht:TR n j t a.tmps) {o:Oper} {v:Value} {m':AMem} (e:cA E t m o.op=some (v,m')) :
  ∃j' w' v',jI E.P (execOp a.eval o) v' w w'∧Sim E j m w j' m' w'∧VR j' v v':=by
 rcases sW h ht e with⟨rfl,_,v',h1,h2⟩|⟨ao,co,vb,v',rfl,rfl,h1,h2,h3,_⟩|⟨_,h1⟩
 ·exact⟨j,w,v',h1,.refl h,h2⟩
 ·exact⟨_,_,v',h1,kY h h2,h3 _ _ (aH.bX _ _ _)⟩
 ·exact h1
end
def Be:AExit→Exit
 | .normal=>.normal
 | .exit id=>.exit id
 | .ret=>.ret
def iM (F:Fence):Prop:=F=Fence.wide∨∃l,F=Fence.wide.inRound l
theorem iM.fn {F:Fence} (h:iM F) (f:FuncId):F.fn f:=by
 rcases h with rfl|⟨l,rfl⟩<;>trivial
theorem iM.room {F:Fence} (h:iM F) (n:Nat):F.room n:=by
 rcases h with rfl|⟨l,rfl⟩<;>intro d hd<;>simp[Fence.wide] at hd
theorem iM.depth {F:Fence} (h:iM F) {n:Nat}:F.depth.isSome=true→1≤n:=by
 rcases h with rfl|⟨l,rfl⟩<;>intro hd<;>simp[Fence.wide] at hd
theorem iM.calls {F:Fence} (h:iM F) {n:Nat} {P:Program} {f:FuncId} {args:Array Value} {w:World} {R:Ending→World→Prop} (hc:CallsIn Fence.wide n P f args w R):CallsIn F n P f args w R:=by
 rcases h with rfl|⟨l,rfl⟩
 ·exact hc
 ·exact hc
theorem iM.E4 {F:Fence} (h:iM F) {n:Nat} {P:Program} {l:Nat} {f:FuncId} {tmps:Array Value} {x y:Code} {w:World} {R:Ending→World→Prop} (hc:RoundIn Fence.wide n P l f tmps x y w R):RoundIn F n P l f tmps x y w R:=by
 rcases h with rfl|⟨l,rfl⟩
 ·exact hc
 ·exact hc
def jE (j:aH) (r:Option Nat) (F:Fence):Prop :=
 match r with
 | none=>F=Fence.wide
 | some l=>∃k,j l=some k∧F=Fence.wide.inRound k.c
theorem jE.wide {j:aH} {r:Option Nat} {F:Fence} (h:jE j r F):iM F:=by
 cases r with
 | none=>exact .inl h
 | some l=>obtain⟨k,_,rfl⟩:=h; exact .inr ⟨_,rfl⟩
theorem jE.mono {j j':aH} (hj:j.le j') {r:Option Nat} {F:Fence} (h:jE j r F):jE j' r F:=by
 cases r with
 | none=>exact h
 | some l=>obtain⟨k,h1,rfl⟩:=h; exact⟨k,hj _ _ h1,rfl⟩
def pT (r:Nat):Deferred:={ target:=.collected r,args:=#[]}
def Marks (N:Nat) (w:World) (ds:List Deferred):Prop:=∃rs:List Nat,rs.Nodup∧ds=rs.map pT∧∀r ∈ rs,N≤r∧w.heap[r]? = some (.deferred (some []))
theorem Marks.nil (N:Nat) (w:World):Marks N w []:=⟨[],List.nodup_nil,rfl,fun r h=>by simp at h⟩
theorem vh {E:Env} {j:aH} {m:AMem} {w:World} (h:MR E j m w) {r:Nat} (hr:w.heap[r]? = some (.deferred (some []))):∀b k,j b=some k→(m.get b).isSome=true→k.c≠r:=by
 intro b k hb hl he;cases hg:m.get b with
 | none=>rw[hg] at hl; cases hl
 | some o =>
  obtain⟨o',h1,h2⟩:=h.obj b o k hg hb;rw[he,hr] at h1;cases h1;cases o<;>exact h2.elim
theorem Marks.A6 {E:Env} {j j':aH} {m m':AMem} {w w':World} (h:MR E j m w) (s:Sim E j m w j' m' w') {N:Nat} {ds:List Deferred} (hm:Marks N w ds):Marks N w' ds:=by
 obtain⟨rs,h1,h2,h3⟩:=hm;refine⟨rs,h1,h2,fun r hr=>⟨(h3 r hr).1,?_⟩⟩;have hh:=(h3 r hr).2;rw[s.frame r (Array.getElem?_eq_some_iff.1 hh).1 fun b k hb hl he=>absurd he (vh h hh b k hb hl)];exact hh
def jS (E:Env) (j:aH) (m:AMem) (w:World) (N n:Nat) (e:AExit) (t:Tm) (m':AMem):Exit→Act→World→Prop:=fun e' a' w' =>
 e'=Be e∧∃j',Sim E j m w j' m' w'∧TR n j' t a'.tmps∧Marks N w' a'.defers
def yN (E:Env) (cs:Nat→Program→Fence→(Exit→Act→World→Prop)→Act→World→Prop) (fr:Fr) (m:AMem) (r:Res):Prop :=
 ∃e t m',r = .code e t m'∧∀(j:aH) (w:World) (a:Act) (F:Fence) (N:Nat),MR E j m w→TR fr.n j fr.tmps a.tmps→jE j fr.round F→Marks N w a.defers→N≤w.heap.size →
  cs 0 E.P F (jS E j m w N fr.n e t m') a w
def dL (P:Program) (pr:Bool) (f:FuncId) (args:Array Value) (w:World) (R:Value→World→Prop):Prop :=
 ((callFunc f args).run P w = .ok (.enter f args) w∧CallsIn Fence.wide 0 P f args w (fun e w'=>∃v,e = .returned v∧R v w')) ∨
  (pr=true∧∃v w',(callFunc f args).run P w = .ok (.value v) w'∧R v w')
def fe (E:Env) (j:aH) (m:AMem) (w:World) (v:Value) (m':AMem):Value→World→Prop:=fun v' w'=>∃j',Sim E j m w j' m' w'∧VR j' v v'
def E0 (E:Env) (f:FuncId) (args:List Value) (m:AMem) (r:Res):Prop :=
 ∃v m',r = .val v m'∧∀(j:aH) (w:World) (args':List Value),MR E j m w→LR j args args'→dL E.P (E.cR f).isSome f args'.toArray w (fe E j m w v m')
def BB (E:Env) (l:Nat) (args:List Value) (m:AMem) (r:Res):Prop :=
 ∃v m',r = .val v m'∧∀(j:aH) (w:World) (k:Blk) (args':List Value),MR E j m w→j l=some k→LR j args args' →
  ∃fn tmps assign body,(Instr.yield k.c args'.toArray).run E.P w = .ok (.round k.c fn tmps assign body) w ∧
   RoundIn Fence.wide 0 E.P k.c fn tmps assign body w (fun e w'=>∃v',e = .returned v'∧fe E j m w v m' v' w')
def mj (F:Fence) (n:Nat) (P:Program) (c:Code) (Q:Exit→Act→World→Prop) (a:Act) (w:World):Prop :=
 ∀(b:Frame) (k:List Item) (cs:List Frame),b.roundOf=F.round→F.fn b.fn→F.room (cs.length+1+n) →
  ∃e a' w',Q e a' w'∧ArrivesIn (Machine.fenced P F) P (lone (b.atR a (.code c::.inLoop c::k)) cs w) b k cs e a' w'
def cu (E:Env):Task→Res→Prop
 | .code c fr m,r=>yN E (fun n P F Q a w=>c.wpIn F n P Q a w) fr m r
 | .loop c fr m,r=>yN E (fun n P F Q a w=>mj F n P c Q a w) fr m r
 | .call f args m,r=>E0 E f args m r
 | .round l args m,r=>BB E l args m r
structure EnvOk (E:Env):Prop where
 call:∀f fn c,E.P.funcs[f]? = some fn→fn.body=some c→∀args w,(callFunc f args).run E.P w = .ok (.enter f args) w
 mixed:E.P.follows .mixedOrders=true
 cR:∀f p,E.cR f=some p→∀args m v m',p.run args m=some (v,m')→∀(j:aH) (w:World) (args':List Value),MR E j m w→LR j args args'→dL E.P (E.cR f).isSome f args'.toArray w (fe E j m w v m')
theorem cP {F:Fence} (hF:iM F) {P:Program} {o:Oper} {a:Act} {w w':World} {v:Value} {next:Act→World→Prop} {Q:Exit→Act→World→Prop} (hd:∀c,o.op≠.defer c)
  (h:jI P (execOp a.eval o) v w w') (hn:next (a.put o.dst v) w'):o.wpIn F 0 P a w next Q:=by
 refine⟨fun f _=>hF.fn f,?_⟩;rw[Oper.semAt_eq _ _ _ hd];rcases h with h|⟨h,rfl⟩
 ·rw[h]; exact hn
 ·rw[h]; exact hn
section
variable {E : Env} {k : K}
theorem kM {t:Tm} {m:AMem} {o:Op} {r:Value × AMem} (h:cA E t m o=some r):∀c,o≠.defer c:=by
 intro c e; subst e; simp[cA] at h
def Does (P:Program) (s:Sem Next) (w:World) (G:Value→World→Prop):Prop :=
 (∃v w',jI P s v w w'∧G v w') ∨
 (∃f args,s.run P w = .ok (.enter f args) w∧CallsIn Fence.wide 0 P f args w (fun e w'=>∃v,e = .returned v∧G v w')) ∨
 (∃l fn tmps x y,s.run P w = .ok (.round l fn tmps x y) w∧RoundIn Fence.wide 0 P l fn tmps x y w (fun e w'=>∃v,e = .returned v∧G v w'))
theorem Does.wpIn {F:Fence} (hF:iM F) {P:Program} {o:Oper} (hd:∀c,o.op≠.defer c) {a:Act} {w:World} {G:Value→World→Prop} (h:Does P (execOp a.eval o) w G) {next:Act→World→Prop} {Q:Exit→Act→World→Prop}
  (hn:∀v' w',G v' w'→next (a.put o.dst v') w'):o.wpIn F 0 P a w next Q:=by
 rcases h with⟨v,w',h1,h2⟩|⟨f,args,h1,h2⟩|⟨l,fn,tmps,x,y,h1,h2⟩
 ·exact cP hF hd h1 (hn _ _ h2)
 ·refine⟨fun f _=>hF.fn f,?_⟩;rw[Oper.semAt_eq _ _ _ hd,h1];exact⟨hF.depth,CallsIn.mono (hF.calls h2) fun e' w' he=>by
   obtain⟨v',rfl,hq⟩:=he;exact hn v' w' hq⟩
 ·refine⟨fun f _=>hF.fn f,?_⟩;rw[Oper.semAt_eq _ _ _ hd,h1];exact⟨hF.depth,RoundIn.mono (hF.E4 h2) fun e' w' he=>by
   obtain⟨v',rfl,hq⟩:=he;exact hn v' w' hq⟩
theorem Does.ends {P:Program} {s:Sem Next} {w:World} {G:Value→World→Prop} (h:Does P s w G):∃v w',G v w':=by
 rcases h with⟨v,w',_,h2⟩|⟨f,args,_,h2⟩|⟨l,fn,tmps,x,y,_,h2⟩
 ·exact⟨v,w',h2⟩
 ·obtain⟨e,w',fr,⟨v,_,hq⟩,_⟩:=h2.2 [] (iM.room (.inl rfl) _);exact⟨v,w',hq⟩
 ·obtain⟨e,w',⟨v,_,hq⟩,_⟩:=h2.2 default [] (iM.room (.inl rfl) _);exact⟨v,w',hq⟩
theorem lO {t:Tm} {m:AMem} {o:Op} {r:Value × AMem} (h:dR k E t m o=some r):∀c,o≠.defer c:=by
 intro c e; subst e; simp[dR,cA] at h
theorem kk (hk:∀tk r,k tk=some r→cu E tk r) {j:aH} {m:AMem} {w:World} {t:Tm} {n:Nat} {a:Act} (h:MR E j m w) (ht:TR n j t a.tmps) {o:Oper} {v:Value} {m':AMem} (e:dR k E t m o.op=some (v,m')) :
  Does E.P (execOp a.eval o) w (fe E j m w v m'):=by
 have hplain:cA E t m o.op=some (v,m')→Does E.P (execOp a.eval o) w (fe E j m w v m'):=by
  intro e;obtain⟨j',w',v',h1,h2,h3⟩:=DV h ht e;exact .inl ⟨v',w',h1,j',h2,h3⟩
 unfold dR at e
 split at e
 ·rename_i c hop
  split at e
  ·rename_i f hc
   split at e
   ·rename_i g first captured args hf hargs
    split at e
    ·rename_i v0 m0 hcall;cases e;obtain⟨v1,m1,hr,hsim⟩:=hk _ _ hcall;cases hr;have hfv:=aF h ht hf;generalize hfe:a.eval f=fv at hfv;cases hfv with
     | func h1 h2 h3 h4 =>
     rename_i ys ds;have hl:LR j (first.toList++args++captured.toList) (ys.toList++(c.args.toList.map a.eval)++ds.toList) :=
      ((LR.eO h1 h2).append (eo h ht hargs)).append (LR.eO h3 h4)
     have hcs:=hsim j w _ h hl;have harr:(ys.toList++(c.args.toList.map a.eval)++ds.toList).toArray=ys++c.args.map a.eval++ds:=by apply Array.toList_inj.1; simp
     rw[harr] at hcs;have hexec:execOp a.eval o=(do let d ←resolve a.eval c o.type; invoke d.target d.args):=by simp only[execOp,hop]
     have hrun:(execOp a.eval o).run E.P w=(callFunc g (ys++c.args.map a.eval++ds)).run E.P w:=by
      rw[hexec];simp only[resolve,hc,hfe,Deferred.ofValue,Sem.run_bind,Sem.run_pure,Result.andThen_ok,invoke]
     rcases hcs with⟨hr,hci⟩|⟨_,v',w',hr,hq⟩
     ·exact .inr (.inl ⟨_,_,hrun.trans hr,hci⟩)
     ·exact .inl ⟨v',w',.inl (hrun.trans hr),hq⟩
    ·cases e
   ·rename_i l first cap args hf hargs
    split at e
    ·rename_i v0 m0 hcall;cases e;obtain⟨v1,m1,hr,hsim⟩:=hk _ _ hcall;cases hr;have hfv:=aF h ht hf;generalize hfe:a.eval f=fv at hfv;cases hfv with
     | yield hj h1 h2 =>
     rename_i kb ys ds;have hl:LR j (first.toList++args) (ys.toList++(c.args.toList.map a.eval)):=(LR.eO h1 h2).append (eo h ht hargs)
     obtain⟨fn,tmps,assign,body,hy,hro⟩:=hsim j w kb _ h hj hl;have harr:(ys.toList++(c.args.toList.map a.eval)).toArray=ys++c.args.map a.eval:=by apply Array.toList_inj.1; simp
     rw[harr] at hy;have hexec:execOp a.eval o=(do let d ←resolve a.eval c o.type; invoke d.target d.args):=by simp only[execOp,hop]
     have hrun:(execOp a.eval o).run E.P w = .ok (.round kb.c fn tmps assign body) w:=by
      rw[hexec];simp only[resolve,hc,hfe,Deferred.ofValue,Sem.run_bind,Sem.run_pure,Result.andThen_ok,invoke,hy]
     exact .inr (.inr ⟨_,_,_,_,_,hrun,hro⟩)
    ·cases e
   ·cases e
  ·exact hplain e
 ·exact hplain e
theorem sr (hk:∀tk r,k tk=some r→cu E tk r) {j:aH} {m:AMem} {w:World} {t:Tm} {n:Nat} {a:Act} (h:MR E j m w) (ht:TR n j t a.tmps) {o:Oper} {v:Value} {m':AMem} (e:dR k E t m o.op=some (v,m'))
  {F:Fence} (hF:iM F) {next:Act→World→Prop} {Q:Exit→Act→World→Prop} (hn:∀v' w',fe E j m w v m' v' w'→next (a.put o.dst v') w'):o.wpIn F 0 E.P a w next Q :=
 (kk hk h ht e).wpIn hF (lO e) hn
theorem TR.put {n:Nat} {j:aH} {t t':Tm} {a:Act} {dst:Option Tmp} {v v':Value} (h:TR n j t a.tmps) (hv:VR j v v') (hp:fH n t dst v=some t'):TR n j t' (a.put dst v').tmps:=by
 unfold fH at hp
 split at hp
 ·rename_i d
  split at hp
  ·rename_i hlt;cases hp;have hlt':d<n:=by simpa using hlt
   refine⟨by simp[Act.put,h.1],fun i=>?_⟩
   simp only[Act.put,Tm.at,Trie.bO]
   by_cases hi:i=d
   ·subst hi;simp only[if_pos rfl];have:i<a.tmps.size:=by rw[h.1]; exact hlt'
    simp[this,hv]
   ·simp only[if_neg hi];have:=h.2 i;simp only[Tm.at] at this
    simpa [Array.getElem?_setIfInBounds_ne (Ne.symm hi)] using this
  ·cases hp
 ·cases hp; exact h
theorem iO {n:Nat} {j:aH} {t:Tm} {a:Act} (h:TR n j t a.tmps) (ops:Array Oper) (o:Oper):Region.wanted o (yielded ops a.tmps)=aT ops o t:=by
 unfold Region.wanted aT;cases hgd:o.guard with
 | none=>rfl
 | some p =>
  obtain⟨g,want⟩:=p;simp only;have key:yielded ops a.tmps g=cJ ops t g:=by
   unfold yielded cJ;cases hd:(ops[g]?).bind (·.dst) with
   | none=>rfl
   | some d =>
    simp only[Option.bind_some];have hv:=h.2 d;unfold Tm.at at hv;cases hg:t.get d with
    | none =>
     rw[hg] at hv;simp only[Option.getD_none] at hv;have:a.tmps[d]? = none∨a.tmps[d]? = some undef:=by
      cases ha:a.tmps[d]? with
      | none=>exact .inl rfl
      | some x =>
       right
       have:a.tmps.getD d undef=x:=by simp[ha]
       rw[this] at hv;have:x=undef:=gN (by rfl) hv
       rw[this]
     rcases this with e|e<;>rw[e]<;>rfl
    | some x =>
     rw[hg] at hv;simp only[Option.getD_some] at hv;cases ha:a.tmps[d]? with
     | none =>
      have:a.tmps.getD d undef=undef:=by simp[ha]
      rw[this] at hv;cases x<;>first|rfl|cases hv
     | some y =>
      have:a.tmps.getD d undef=y:=by simp[ha]
      rw[this] at hv;cases hv with
      | junk hj=>cases y<;>first|rfl | (simp[uX,aL] at hj)
      | _=>rfl
  rw[key];cases cJ ops t g with
  | none=>rfl
  | some b=>simp
theorem ji (hk:∀tk r,k tk=some r→cu E tk r) {ops:Array Oper} {n:Nat} {F:Fence} (hF:iM F) {Q:Exit→Act→World→Prop} {m0:AMem} {w0:World} {j0:aH} (h0:MR E j0 m0 w0) {tf:Tm} {mf:AMem}
  (ds:List Deferred) (hQ:∀j' w' a',Sim E j0 m0 w0 j' mf w'→TR n j' tf a'.tmps→a'.defers=ds→Q .normal a' w') :
  ∀(os:List Oper) (i:Nat) (t:Tm) (m:AMem) (j:aH) (w:World) (a:Act),ops.toList.drop i=os→hY k E n ops os t m=some (tf,mf)→Sim E j0 m0 w0 j m w→TR n j t a.tmps→a.defers=ds →
   wpOpsIn F 0 E.P ops Q (List.range' i (ops.size-i)) a w
 | [],i,t,m,j,w,a,hd,hr,s,ht,hds=>by
  cases hr;have hlen:ops.size≤i:=by
   have:=congrArg List.length hd;simp at this; omega
  rw[show ops.size-i=0 by omega]
  exact hQ j w a s ht hds
 | o::os,i,t,m,j,w,a,hd,hr,s,ht,hds=>by
  have hlt:i<ops.size:=by
   have:=congrArg List.length hd;simp at this; omega
  have ho:ops[i]? = some o:=by
   have:=congrArg (·[0]?) hd
   simpa [List.getElem?_drop] using this
  have hd':ops.toList.drop (i+1)=os:=by
   rw[←List.drop_drop,hd]; rfl
  have hidx:List.range' i (ops.size-i)=i::List.range' (i+1) (ops.size-(i+1)):=by
   rw[show ops.size-i=(ops.size-(i+1))+1 by omega]; rfl
  rw[hidx];simp only[wpOpsIn,ho,iO ht];simp only[hY] at hr
  split at hr
  ·rename_i hw;rw[if_pos hw]
   split at hr
   ·rename_i v m' he
    split at hr
    ·rename_i t' hp;refine sr hk s.mr ht he hF ?_;rintro v' w' ⟨j',s',hv⟩;exact ji hk hF h0 ds hQ os (i+1) t' m' j' w' _ hd' hr (s.trans h0 s') ((ht.mono s'.le).put hv hp) (by cases hds':o.dst<;>simp[Act.put,hds])
    ·cases hr
   ·cases hr
  ·rename_i hw;rw[if_neg hw]
   split at hr
   ·rename_i t' hp;exact⟨fun f _=>hF.fn f,ji hk hF h0 ds hQ os (i+1) t' m j w _ hd' hr s (ht.put (VR.undef j) hp) (by cases hds':o.dst<;>simp[Act.put,hds])⟩
   ·cases hr
end
def uk (k:K) (E:Env) (n:Nat) (ops:Array Oper) (i:Nat) (t:Tm) (m:AMem) (v:Value) (t':Tm) (m':AMem) (note:Note):Prop :=
 ∃o,ops[i]? = some o∧fH n t o.dst v=some t' ∧
  ((aT ops o t=true∧∃r,dR k E t { m with wl:=m.next} o.op=some (v,r)∧m' = { r with wl:=min m.wl r.wl}∧note = { read:=aN E t o.op,wl:=r.wl,next:=m.next,wrote:=dQ E t o.op,kept:=gB m r}) ∨
   (aT ops o t=false∧v=undef∧m'=m∧note = { read:=none,wl:=m.next,next:=m.next,wrote:=none,kept:=fun _=>false}))
structure Tr (k:K) (E:Env) (n:Nat) (ops:Array Oper) (i L:Nat) (T:Nat→Tm) (M:Nat→AMem) (V:Nat→Value) (ns:List Note):Prop where
 len:ns.length=L
 step:∀x,x<L→∃note,ns[x]? = some note∧uk k E n ops (i+x) (T x) (M x) (V x) (T (x+1)) (M (x+1)) note
def DF {α:Type} (a:α) (f:Nat→α):Nat→α
 | 0=>a
 | x+1=>f x
theorem vf {k:K} {E:Env} {n:Nat} {ops:Array Oper}:∀(os:List Oper) (i:Nat) (t:Tm) (m:AMem) (tf:Tm) (mf:AMem) (ns:List Note),ops.toList.drop i=os→dB k E n ops os t m=some (tf,mf,ns) →
  ∃T M V,Tr k E n ops i os.length T M V ns∧T 0=t∧M 0=m∧T os.length=tf∧M os.length=mf
 | [],i,t,m,tf,mf,ns,_,h=>by
  cases h;exact⟨fun _=>t,fun _=>m,fun _=>undef,⟨rfl,fun x hx=>absurd hx (Nat.not_lt_zero _)⟩,rfl,rfl,rfl,rfl⟩
 | o::os,i,t,m,tf,mf,ns,hd,h=>by
  have ho:ops[i]? = some o:=by
   have:=congrArg (·[0]?) hd
   simpa [List.getElem?_drop] using this
  have hd':ops.toList.drop (i+1)=os:=by rw[←List.drop_drop,hd]; rfl
  have cons:∀(v:Value) (t1:Tm) (m1:AMem) (note:Note) (ns':List Note),uk k E n ops i t m v t1 m1 note→dB k E n ops os t1 m1=some (tf,mf,ns')→ns=note::ns' →
    ∃T M V,Tr k E n ops i (os.length+1) T M V ns∧T 0=t∧M 0=m∧T (os.length+1)=tf∧M (os.length+1)=mf:=by
   intro v t1 m1 note ns' hst hr hns;obtain⟨T,M,V,htr,h1,h2,h3,h4⟩:=vf os (i+1) t1 m1 tf mf ns' hd' hr;refine⟨DF t T,DF m M,DF v V,⟨by rw[hns]; simp[htr.len],fun x hx=>?_⟩,rfl,rfl,h3,h4⟩
   cases x with
   | zero =>
    refine⟨note,by rw[hns]; rfl,?_⟩
    show uk k E n ops i t m v (T 0) (M 0) note
    rw[h1,h2]; exact hst
   | succ x =>
    obtain⟨nt,h5,h6⟩:=htr.step x (by omega)
    refine⟨nt,by rw[hns]; simpa using h5,?_⟩
    show uk k E n ops (i+(x+1)) (T x) (M x) (V x) (T (x+1)) (M (x+1)) nt
    rw[show i+(x+1)=i+1+x by omega]; exact h6
  simp only[dB] at h
  split at h
  ·rename_i hw
   split at h
   ·rename_i v r he
    split at h
    ·rename_i t1 hp
     split at h
     ·rename_i t' m'' ns' hr;cases h;exact cons v t1 _ _ ns' ⟨o,ho,hp,.inl ⟨hw,r,he,rfl,rfl⟩⟩ hr rfl
     ·cases h
    ·cases h
   ·cases h
  ·rename_i hw
   split at h
   ·rename_i t1 hp
    split at h
    ·rename_i t' m'' ns' hr;cases h;exact cons undef t1 m _ ns' ⟨o,ho,hp,.inr ⟨by simpa using hw,rfl,rfl,rfl⟩⟩ hr rfl
    ·cases h
   ·cases h
theorem Sim.JU {E:Env} {j j':aH} {m r:AMem} {w w':World} (s:Sim E j { m with wl:=m.next} w j' r w'):Sim E j m w j' { r with wl:=min m.wl r.wl} w' where
 ext:=⟨s.ext.next,Nat.min_le_left _ _,fun b hb hw=>s.ext.same b hb (Nat.lt_of_lt_of_le hw (Nat.min_le_right _ _)),s.ext.dead⟩
 le:=s.le
 new:=s.new
 mr:=s.mr.rC
 size:=s.size
 full:=s.full
 away:=s.away
 fresh:=fun b k h h'=>(s.fresh b k h h').imp id fun⟨b0,k0,a1,a2,a3,a4⟩=>⟨b0,k0,a1,a2,a3,Nat.le_trans (Nat.min_le_right _ _) a4⟩
 frame:=fun c hc H=>s.frame c hc fun b k hb hl he=>Nat.lt_of_lt_of_le (H b k hb hl he) (Nat.min_le_right _ _)
 calm:=s.calm
def aH.below (j:aH) (x:Nat):aH:=fun b=>if b<x then j b else none
theorem aH.bp {j:aH} {x b:Nat} {k:Blk}:j.below x b=some k↔b<x∧j b=some k:=by
 unfold aH.below
 split
 ·rename_i h; simp[h]
 ·rename_i h; simp[h]
theorem VR.cut {j jc:aH} {x:Nat} (hc:∀b k,jc b=some k→b<x):∀{v v':Value},VR j v v'→∀{u:Value},VR jc v u→VR (j.below x) v v':=by
 intro v v' h
 induction h with
 | junk h=>intro u _; exact .junk h
 | bool b=>intro u _; exact .bool b
 | int k n=>intro u _; exact .int k n
 | string s=>intro u _; exact .string s
 | pnil=>intro u _; exact .pnil
 | ptr h=>intro u hu; cases hu with
  | ptr h'=>exact .ptr (aH.bp.2 ⟨hc _ _ h',h⟩)
 | snil l c=>intro u _; exact .snil l c
 | slice h hm=>intro u hu; cases hu with
  | slice h' _=>exact .slice (aH.bp.2 ⟨hc _ _ h',h⟩) hm
  | sliceM h' _ _ _ _ _=>exact .slice (aH.bp.2 ⟨hc _ _ h',h⟩) hm
 | sliceM h hm h1 h2 hl hcap=>intro u hu; cases hu with
  | slice h' _=>exact .sliceM (aH.bp.2 ⟨hc _ _ h',h⟩) hm h1 h2 hl hcap
  | sliceM h' _ _ _ _ _=>exact .sliceM (aH.bp.2 ⟨hc _ _ h',h⟩) hm h1 h2 hl hcap
 | gq=>intro u _; exact .gq
 | dry=>intro u _; exact .dry
 | mnil=>intro u _; exact .mnil
 | map h=>intro u hu; cases hu with
  | map h'=>exact .map (aH.bp.2 ⟨hc _ _ h',h⟩)
 | func h1 _ h3 _ ih2 ih4=>intro u hu; cases hu with
  | func g1 g2 g3 g4=>exact .func h1 (fun i a b=>ih2 i a b (g2 i a (g1 ▸ a))) h3 (fun i a b=>ih4 i a b (g4 i a (g3 ▸ a)))
 | yield h h1 _ ih2=>intro u hu; cases hu with
  | yield g g1 g2=>exact .yield (aH.bp.2 ⟨hc _ _ g,h⟩) h1 (fun i a b=>ih2 i a b (g2 i a (g1 ▸ a)))
 | nilFunc=>intro u _; exact .nilFunc
 | nilIface=>intro u _; exact .nilIface
 | agg h1 _ ih=>intro u hu; cases hu with
  | agg g1 g2=>exact .agg h1 (fun i a b=>ih i a b (g2 i a (g1 ▸ a)))
 | tuple h1 _ ih=>intro u hu; cases hu with
  | tuple g1 g2=>exact .tuple h1 (fun i a b=>ih i a b (g2 i a (g1 ▸ a)))
theorem ER.cut {j jc:aH} {x:Nat} (hc:∀b k,jc b=some k→b<x):∀{es:List (Value × Value)} {fs gs:List MapEntry},ER j es fs→ER jc es gs→ER (j.below x) es fs
 | [],[],_,_,_=>trivial
 | _::_,_::_,_::_,h,g=>⟨h.1.cut hc g.1,h.2.1.cut hc g.2.1,ER.cut hc h.2.2 g.2.2⟩
 | [],_::_,_,h,_=>h.elim
 | _::_,[],_,h,_=>h.elim
 | _::_,_::_,[],_,g=>g.elim
theorem OR.cut {j jc:aH} {x:Nat} (hc:∀b k,jc b=some k→b<x) {k k':Blk} {o:AObj} {o1 o2:Obj} (h:OR j k o o1) (g:OR jc k' o o2):OR (j.below x) k o o1:=by
 cases o with
 | cells cs tag =>
  cases o1 with
  | cells c e fz =>
   cases o2 with
   | cells c2 e2 fz2 =>
    refine⟨h.1,fun i v hi=>?_⟩;obtain⟨v',a,b⟩:=h.2 i v hi;obtain⟨u,_,b2⟩:=g.2 i v hi;exact⟨v',a,b.cut hc b2⟩
   | _=>exact g.elim
  | _=>exact h.elim
 | map es =>
  cases o1 with
  | map c e =>
   cases o2 with
   | map c2 e2=>exact⟨ER.cut hc h.1 g.1,h.2⟩
   | _=>exact g.elim
  | _=>exact h.elim
 | loop r =>
  cases o1 with
  | loop r1 =>
   cases o2 with
   | loop r2 =>
    refine⟨h.1,h.2.1,h.2.2.1,h.2.2.2.1,h.2.2.2.2.1,h.2.2.2.2.2.1,fun i=>?_⟩;exact(h.2.2.2.2.2.2 i).cut hc (g.2.2.2.2.2.2 i)
   | _=>exact g.elim
  | _=>exact h.elim
theorem eT {E:Env} {t t':Tm}:∀{xs:List Operand},(∀x ∈ xs,aq E t x=aq E t' x)→bB E t xs=bB E t' xs
 | [],_=>rfl
 | x::xs,h=>by
  simp only[bB];rw[h x (by simp),eT fun y hy=>h y (by simp[hy])]
theorem gv {E:Env} {t t':Tm}:∀{xs:List (Nat × Operand)},(∀x ∈ xs,aq E t x.2=aq E t' x.2)→cZ E t xs=cZ E t' xs
 | [],_=>rfl
 | (i,x)::xs,h=>by
  simp only[cZ];rw[h (i,x) (by simp),gv fun y hy=>h y (by simp[hy])]
theorem jD {E:Env} {t t':Tm} {x:Option Operand} (h:∀y,x=some y→aq E t y=aq E t' y):dk E t x=dk E t' x:=by
 cases x with
 | none=>rfl
 | some y=>simp only[dk,h y rfl]
theorem nZ {E:Env} {t t':Tm} {m:AMem} {o:Op} (h:∀x ∈ o.operands.toList,aq E t x=aq E t' x):cA E t m o=cA E t' m o:=by
 cases o<;>simp only[Op.operands] at h<;>simp only[cA]
 case build ty ps=>rw[gv fun x hx=>h x.2 (by simp; exact⟨x.1,by simpa using hx⟩)]
 case buildSlice ty n ps=>rw[gv fun x hx=>h x.2 (by simp; exact⟨x.1,by simpa using hx⟩)]
 case makeFunc fn first captured =>
  cases fn<;>simp only;rw[eT (xs:=first.toList) fun x hx=>h x (by simp at hx ⊢; exact .inl hx),eT (xs:=captured.toList) fun x hx=>h x (by simp at hx ⊢; exact .inr hx)]
 case makeMap ty r=>cases r<;>rfl
 case slice ty x lo hi mx =>
  rw[h x (by simp),jD (x:=lo) fun y hy=>h y (by simp[hy]),jD (x:=hi) fun y hy=>h y (by simp[hy]),jD (x:=mx) fun y hy=>h y (by simp[hy])]
 case call c =>
  cases hc:c.callee<;>simp only;rw[eT (xs:=c.args.toList) fun x hx=>h x (by simp[Call.operands,hc]; simpa using hx)]
 all_goals first|rfl | (simp_all; done)
theorem vd {k:K} {E:Env} {t t':Tm} {m:AMem} {o:Op} (h:∀x ∈ o.operands.toList,aq E t x=aq E t' x):dR k E t m o=dR k E t' m o:=by
 have hop:=nZ (m:=m) h;unfold dR;cases o with
 | call c =>
  simp only;cases hc:c.callee with
  | value f =>
   simp only;rw[h f (by simp[Op.operands,Call.operands,hc]),eT (xs:=c.args.toList) fun x hx=>h x (by simp[Op.operands,Call.operands,hc]; exact .inr (by simpa using hx))]
  | _=>exact hop
 | _=>exact hop
def oD (t:Tm):List Tmp→Tm
 | []=>.nil
 | d::ds=>(oD t ds).set d (t.at d)
theorem kD (t:Tm):∀(S:List Tmp) (d:Nat),(oD t S).at d=if d ∈ S then t.at d else undef
 | [],d=>by simp[oD,Tm.at,Trie.get_nil]
 | x::S,d=>by
  have ih:=kD t S d;simp only[Tm.at] at ih;simp only[oD,Tm.at,Trie.bO]
  by_cases h:d=x
  ·simp[h]
  ·simp only[List.mem_cons,h,false_or]; exact ih
def jQ (tm:Array Value) (S:List Tmp):Array Value:=(Array.range tm.size).map fun d=>if d ∈ S then tm.getD d undef else undef
theorem jn (tm:Array Value) (S:List Tmp) (d:Nat):(jQ tm S).getD d undef=if d ∈ S then tm.getD d undef else undef:=by
 unfold jQ
 by_cases h:d<tm.size
 ·simp[h]
 ·have:tm.getD d undef=undef:=by simp[h]
  simp[h]
theorem ik:∀{l:List Operand} {d:Tmp},d ∈ tmpsOf l↔Operand.tmp d ∈ l
 | [],d=>by simp[tmpsOf]
 | x::l,d=>by
  have ih:=ik (l:=l) (d:=d);cases x<;>simp[tmpsOf,ih]
theorem vO {k:K} {E:Env} (hk:∀tk r,k tk=some r→cu E tk r) {j:aH} {m:AMem} {w:World} {t:Tm} {a:Act} (h:MR E j m w) {o:Oper} (ht:∀d ∈ tmpsOf o.op.operands.toList,VR j (t.at d) (a.tmps.getD d undef)) {v:Value} {m':AMem}
  (e:dR k E t m o.op=some (v,m')):Does E.P (execOp a.eval o) w (fe E j m w v m'):=by
 have hT:TR (jQ a.tmps (tmpsOf o.op.operands.toList)).size j (oD t (tmpsOf o.op.operands.toList)) ({ tmps:=jQ a.tmps (tmpsOf o.op.operands.toList),defers:=a.defers}:Act).tmps:=by
  refine⟨rfl,fun d=>?_⟩
  show VR j _ ((jQ a.tmps _).getD d undef)
  rw[kD,jn]
  split
  ·rename_i hd; exact ht d hd
  ·exact VR.undef j
 have hev:∀x ∈ o.op.operands.toList,aq E (oD t (tmpsOf o.op.operands.toList)) x=aq E t x:=by
  intro x hx;cases x with
  | tmp d=>simp only[aq,kD,if_pos (ik.2 hx)]
  | _=>rfl
 have hd:=kk hk h hT (o:=o) (v:=v) (m':=m') ((vd hev).trans e);have hex:execOp ({ tmps:=jQ a.tmps (tmpsOf o.op.operands.toList),defers:=a.defers}:Act).eval o=execOp a.eval o:=by
  refine execOp_congr o (fun cs b hs=>?_) fun x hx=>?_
  ·rw[hs] at e; simp[dR,cA] at e
  ·cases x with
   | tmp d =>
    show(jQ a.tmps _).getD d undef=a.tmps.getD d undef
    rw[jn,if_pos (ik.2 (by simpa using hx))]
   | _=>rfl
 rw[hex] at hd;exact hd
end Go.Ab
end
