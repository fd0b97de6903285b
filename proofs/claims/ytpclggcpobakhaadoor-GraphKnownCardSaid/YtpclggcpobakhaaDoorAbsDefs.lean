/-
  An abstract machine for Go's model: deterministic, without the tape. This text holds the definitions alone: the memory, the operations, the interpreter.
-/
import Derived.RangeFuncRecord
namespace Go.Ab
open Go

/-! ### Finite maps on numbers -/
/-- Eight of a kind. -/
structure F8 (α : Type) where
  a : α
  b : α
  c : α
  d : α
  e : α
  f : α
  g : α
  h : α

def F8.all {α : Type} (x : α) : F8 α := ⟨x, x, x, x, x, x, x, x⟩

def F8.sel {α : Type} (x : F8 α) (i : Nat) : α :=
  match i with
  | 0 => x.a
  | 1 => x.b
  | 2 => x.c
  | 3 => x.d
  | 4 => x.e
  | 5 => x.f
  | 6 => x.g
  | _ => x.h

def F8.put {α : Type} (x : F8 α) (i : Nat) (v : α) : F8 α :=
  match i with
  | 0 => { x with a := v }
  | 1 => { x with b := v }
  | 2 => { x with c := v }
  | 3 => { x with d := v }
  | 4 => { x with e := v }
  | 5 => { x with f := v }
  | 6 => { x with g := v }
  | _ => { x with h := v }

theorem F8.sel_put {α : Type} (x : F8 α) (i j : Nat) (v : α) (hi : i < 8) (hj : j < 8) : (x.put i v).sel j = if j = i then v else x.sel j := by
  have h1 : i = 0 ∨ i = 1 ∨ i = 2 ∨ i = 3 ∨ i = 4 ∨ i = 5 ∨ i = 6 ∨ i = 7 := by omega
  have h2 : j = 0 ∨ j = 1 ∨ j = 2 ∨ j = 3 ∨ j = 4 ∨ j = 5 ∨ j = 6 ∨ j = 7 := by omega
  rcases h1 with rfl | rfl | rfl | rfl | rfl | rfl | rfl | rfl <;> rcases h2 with rfl | rfl | rfl | rfl | rfl | rfl | rfl | rfl <;> rfl

theorem F8.sel_all {α : Type} (x : α) (i : Nat) : (F8.all x).sel i = x := by
  unfold F8.sel F8.all; split <;> rfl

/-- One level more. -/
def F8.getM {M β : Type} (sz : Nat) (g : M → Nat → β) (x : F8 M) (i : Nat) : β := g (x.sel (i / sz)) (i % sz)
def F8.setM {M β : Type} (sz : Nat) (s : M → Nat → β → M) (x : F8 M) (i : Nat) (v : β) : F8 M := x.put (i / sz) (s (x.sel (i / sz)) (i % sz) v)

theorem F8.getM_setM {M β : Type} {sz : Nat} {g : M → Nat → β} {s : M → Nat → β → M} (hsz : 0 < sz) (hl : ∀ m i j v, i < sz → j < sz → g (s m i v) j = if j = i then v else g m j) (x : F8 M) (i j : Nat) (v : β) (hi : i < 8 * sz) (hj : j < 8 * sz) :
    F8.getM sz g (F8.setM sz s x i v) j = if j = i then v else F8.getM sz g x j := by
  have h1 : i / sz < 8 := (Nat.div_lt_iff_lt_mul hsz).2 hi
  have h2 : j / sz < 8 := (Nat.div_lt_iff_lt_mul hsz).2 hj
  unfold F8.getM F8.setM
  rw [F8.sel_put _ _ _ _ h1 h2]
  have e1 := Nat.div_add_mod i sz
  have e2 := Nat.div_add_mod j sz
  by_cases h : j / sz = i / sz
  · rw [if_pos h, hl _ _ _ _ (Nat.mod_lt _ hsz) (Nat.mod_lt _ hsz)]
    by_cases h' : j % sz = i % sz
    · have : j = i := by rw [← e1, ← e2, h, h']
      rw [if_pos h', if_pos this]
    · have : j ≠ i := fun e => h' (by rw [e])
      rw [if_neg h', if_neg this, h]
  · have : j ≠ i := fun e => h (by rw [e])
    rw [if_neg h, if_neg this]

abbrev F64 (α : Type) := F8 (F8 α)
abbrev F512 (α : Type) := F8 (F64 α)
abbrev F4096 (α : Type) := F8 (F512 α)
abbrev F32768 (α : Type) := F8 (F4096 α)
def get64 {α : Type} : F64 α → Nat → α := F8.getM 8 F8.sel
def get512 {α : Type} : F512 α → Nat → α := F8.getM 64 get64
def get4096 {α : Type} : F4096 α → Nat → α := F8.getM 512 get512
def get32768 {α : Type} : F32768 α → Nat → α := F8.getM 4096 get4096
def set64 {α : Type} : F64 α → Nat → α → F64 α := F8.setM 8 F8.put
def set512 {α : Type} : F512 α → Nat → α → F512 α := F8.setM 64 set64
def set4096 {α : Type} : F4096 α → Nat → α → F4096 α := F8.setM 512 set512
def set32768 {α : Type} : F32768 α → Nat → α → F32768 α := F8.setM 4096 set4096
theorem get_set64 {α : Type} (x : F64 α) (i j : Nat) (v : α) (hi : i < 64) (hj : j < 64) : get64 (set64 x i v) j = if j = i then v else get64 x j :=
  F8.getM_setM (by omega) (fun m i j v hi hj => F8.sel_put m i j v hi hj) x i j v (by omega) (by omega)
theorem get_set512 {α : Type} (x : F512 α) (i j : Nat) (v : α) (hi : i < 512) (hj : j < 512) : get512 (set512 x i v) j = if j = i then v else get512 x j :=
  F8.getM_setM (by omega) (fun m i j v hi hj => get_set64 m i j v hi hj) x i j v (by omega) (by omega)
theorem get_set4096 {α : Type} (x : F4096 α) (i j : Nat) (v : α) (hi : i < 4096) (hj : j < 4096) : get4096 (set4096 x i v) j = if j = i then v else get4096 x j :=
  F8.getM_setM (by omega) (fun m i j v hi hj => get_set512 m i j v hi hj) x i j v (by omega) (by omega)
theorem get_set32768 {α : Type} (x : F32768 α) (i j : Nat) (v : α) (hi : i < 32768) (hj : j < 32768) : get32768 (set32768 x i v) j = if j = i then v else get32768 x j :=
  F8.getM_setM (by omega) (fun m i j v hi hj => get_set4096 m i j v hi hj) x i j v (by omega) (by omega)
def all64 {α : Type} (x : α) : F64 α := F8.all (F8.all x)
def all512 {α : Type} (x : α) : F512 α := F8.all (all64 x)
def all4096 {α : Type} (x : α) : F4096 α := F8.all (all512 x)
def all32768 {α : Type} (x : α) : F32768 α := F8.all (all4096 x)
theorem get64_all {α : Type} (x : α) (i : Nat) : get64 (all64 x) i = x := by simp [get64, all64, F8.getM, F8.sel_all]
theorem get512_all {α : Type} (x : α) (i : Nat) : get512 (all512 x) i = x := by simp [get512, all512, F8.getM, F8.sel_all, get64_all]
theorem get4096_all {α : Type} (x : α) (i : Nat) : get4096 (all4096 x) i = x := by simp [get4096, all4096, F8.getM, F8.sel_all, get512_all]
theorem get32768_all {α : Type} (x : α) (i : Nat) : get32768 (all32768 x) i = x := by simp [get32768, all32768, F8.getM, F8.sel_all, get4096_all]

/-- What lies beyond the numbers that are kept in order: a list of what was laid, the last first. -/
def findL {α : Type} : List (Nat × α) → Nat → Option α
  | [], _ => none
  | (i, v) :: l, j => if j = i then some v else findL l j

structure Trie (α : Type) where
  lo : F512 (Option α)
  hi : List (Nat × α)

def Trie.nil {α : Type} : Trie α := ⟨all512 none, []⟩
def Trie.get {α : Type} (t : Trie α) (n : Nat) : Option α := if n < 512 then get512 t.lo n else findL t.hi n
def Trie.set {α : Type} (t : Trie α) (n : Nat) (v : α) : Trie α := if n < 512 then { t with lo := set512 t.lo n (some v) } else { t with hi := (n, v) :: t.hi }

theorem Trie.get_nil {α : Type} (n : Nat) : (Trie.nil : Trie α).get n = none := by
  unfold Trie.get Trie.nil
  split
  · exact get512_all _ _
  · rfl
theorem Trie.get_set {α : Type} (t : Trie α) (n m : Nat) (v : α) : (t.set n v).get m = if m = n then some v else t.get m := by
  unfold Trie.set Trie.get
  by_cases h1 : n < 512 <;> by_cases h2 : m < 512 <;> simp only [h1, h2, if_true, if_false]
  · rw [get_set512 _ _ _ _ h1 h2]
  · rw [if_neg (by omega)]
  · rw [if_neg (by omega)]
  · rfl
theorem Trie.get_set_eq {α : Type} (t : Trie α) (n : Nat) (v : α) : (t.set n v).get n = some v := by simp [Trie.get_set]
theorem Trie.get_set_ne {α : Type} (t : Trie α) (n m : Nat) (v : α) (h : m ≠ n) : (t.set n v).get m = t.get m := by simp [Trie.get_set, h]

/-- The same for memory: more of it is kept in order. -/
structure Heap (α : Type) where
  lo : F32768 (Option α)
  hi : List (Nat × α)

def Heap.nil {α : Type} : Heap α := ⟨all32768 none, []⟩
def Heap.get {α : Type} (t : Heap α) (n : Nat) : Option α := if n < 32768 then get32768 t.lo n else findL t.hi n
def Heap.set {α : Type} (t : Heap α) (n : Nat) (v : α) : Heap α := if n < 32768 then { t with lo := set32768 t.lo n (some v) } else { t with hi := (n, v) :: t.hi }
theorem Heap.get_nil {α : Type} (n : Nat) : (Heap.nil : Heap α).get n = none := by
  unfold Heap.get Heap.nil
  split
  · exact get32768_all _ _
  · rfl
theorem Heap.get_set {α : Type} (t : Heap α) (n m : Nat) (v : α) : (t.set n v).get m = if m = n then some v else t.get m := by
  unfold Heap.set Heap.get
  by_cases h1 : n < 32768 <;> by_cases h2 : m < 32768 <;> simp only [h1, h2, if_true, if_false]
  · rw [get_set32768 _ _ _ _ h1 h2]
  · rw [if_neg (by omega)]
  · rw [if_neg (by omega)]
  · rfl

/-- The values of a list, from index i on. -/
def Trie.ofList {α : Type} : List α → Nat → Trie α → Trie α
  | [], _, t => t
  | v :: vs, i, t => Trie.ofList vs (i + 1) (t.set i v)

abbrev Tm := Trie Value
def Tm.at (t : Tm) (i : Nat) : Value := (Trie.get t i).getD undef

/-! ### Memory -/
/-- What is known of a row of cells: it came in, and is not written; it has just these cells; it may have more (by append: cells of sz each). -/
inductive Tag where
  | ro
  | own
  | more (sz : Nat)
  deriving DecidableEq

structure ALoop where
  state : LoopState
  pending : Option Code
  fn : FuncId
  tmps : Tm
  n : Nat
  params : Array Tmp
  assign : Code
  body : Code

inductive AObj where
  | cells (cs : List Value) (tag : Tag)
  | map (es : List (Value × Value))
  | loop (r : ALoop)

structure AMem where
  next : Nat
  wl : Nat
  objs : Heap (Option AObj)
  base : Nat → Option AObj

def AMem.get (m : AMem) (b : Nat) : Option AObj :=
  match m.objs.get b with
  | some x => x
  | none => m.base b

/-- A block that lay is written. -/
def AMem.set (m : AMem) (b : Nat) (o : AObj) : AMem := { m with objs := m.objs.set b (some o), wl := min m.wl b }
/-- A block is given up: nothing is known of it any more. -/
def AMem.kill (m : AMem) (b : Nat) : AMem := { m with objs := m.objs.set b none, wl := min m.wl b }
/-- A new block. -/
def AMem.alloc (m : AMem) (o : AObj) : AMem := { m with next := m.next + 1, objs := m.objs.set m.next (some o) }

def ptr (b : Nat) (o : Nat) : Value := .pointer (some ⟨b, o, none⟩)

def AMem.cells (m : AMem) (b : Nat) : Option (List Value × Tag) :=
  match m.get b with
  | some (.cells cs tag) => some (cs, tag)
  | _ => none

/-- n cells of a block from offset o on. -/
def AMem.loadN (m : AMem) (b o n : Nat) : Option (List Value) :=
  match m.get b with
  | some (.cells cs _) => let l := (cs.drop o).take n; if l.length = n then some l else none
  | _ => none

def spliceL : List Value → Nat → List Value → List Value
  | cs, 0, [] => cs
  | [], 0, _ => []
  | _ :: cs, 0, v :: vs => v :: spliceL cs 0 vs
  | [], _ + 1, _ => []
  | c :: cs, o + 1, vs => c :: spliceL cs o vs

def AMem.storeN (m : AMem) (b o : Nat) (vs : List Value) : Option AMem :=
  match vs with
  | [] => some m
  | _ => match m.get b with
    | some (.cells _ .ro) => none
    | some (.cells cs tag) => if o + vs.length ≤ cs.length then some (m.set b (.cells (spliceL cs o vs) tag)) else none
    | _ => none

/-- No value of several cells. -/
def oneC : Value → Bool
  | .agg _ | .tuple _ => false
  | _ => true
def oneCellAll (vs : List Value) : Bool := vs.all oneC

/-! ### What is asked of a program -/
structure Prim where
  run : List Value → AMem → Option (Value × AMem)

structure Env where
  P : Program
  glob : Nat
  prim : FuncId → Option Prim

/-- A constant that leads to no memory. -/
def plain1 : Value → Bool
  | .bool _ | .int _ _ | .string _ | .pointer none | .slice none _ _ | .map none | .nilFunc | .nilIface => true
  | _ => false
def plainV : Value → Bool
  | .agg cs => cs.toList.all plain1
  | .tuple cs => cs.toList.all plain1
  | v => plain1 v

def evalA (E : Env) (t : Tm) : Operand → Option Value
  | .tmp i => some (t.at i)
  | .const v => if plainV v then some v else none
  | .global g => if g < E.glob then some (ptr g 0) else none
  | .func f => some (.func (.func f) #[] #[])

def evalAll (E : Env) (t : Tm) : List Operand → Option (List Value)
  | [] => some []
  | x :: xs => match evalA E t x, evalAll E t xs with
    | some v, some vs => some (v :: vs)
    | _, _ => none

def isAggA (P : Program) (t : TypeId) : Bool :=
  match P.underlying t with
  | some (.struct _) | some (.array _ _) => true
  | _ => false
def known (P : Program) (t : TypeId) : Bool := (P.underlying t).isSome && (P.info? t).isSome
def sizeA (P : Program) (t : TypeId) : Nat := P.cellsOf t
def zeroA (P : Program) (t : TypeId) : Option Value := (P.info? t).bind (·.zero)

/-- A part of an aggregate's cells. -/
def partA (P : Program) (t : TypeId) (cs : Array Value) (off : Nat) : Option Value :=
  if !known P t then none else
  if isAggA P t then some (.agg (cs.extract off (off + sizeA P t)))
  else cs[off]?

/-! ### Equality -/
def eqParts (eq : TypeId → Value → Value → Option Bool) (P : Program) (xs ys : Array Value) : List (TypeId × Nat) → Option Bool
  | [] => some true
  | (t, off) :: rest =>
    match partA P t xs off, partA P t ys off with
    | some x, some y => match eq t x y with
      | some true => eqParts eq P xs ys rest
      | r => r
    | _, _ => none

def eqA (P : Program) : Nat → TypeId → Value → Value → Option Bool
  | 0, _, _, _ => none
  | d + 1, t, x, y =>
    match P.underlying t, x, y with
    | some .bool, .bool a, .bool b => some (a == b)
    | some (.int _), .int k a, .int k' b => if k = k' then some (a == b) else none
    | some .string, .string a, .string b => some (a == b)
    | some (.pointer _), .pointer none, .pointer b => some b.isNone
    | some (.pointer _), .pointer (some _), .pointer none => some false
    | some (.slice _), .slice none _ _, .slice b _ _ => some b.isNone
    | some (.slice _), .slice (some _) _ _, .slice none _ _ => some false
    | some (.map _ _), .map none, .map b => some b.isNone
    | some (.map _ _), .map (some _), .map none => some false
    | some (.func _ _ _), .nilFunc, .nilFunc => some true
    | some (.func _ _ _), .nilFunc, .func _ _ _ => some false
    | some (.func _ _ _), .func _ _ _, .nilFunc => some false
    | some (.struct fs), .agg xs, .agg ys =>
      if P.stoodInHeld t || fs.any (·.name == "_") then none else
      eqParts (eqA P d) P xs ys (fs.toList.map fun f => (f.type, f.offset))
    | some (.array len elem), .agg xs, .agg ys => if known P elem then eqParts (eqA P d) P xs ys ((List.range len).map fun i => (elem, i * sizeA P elem)) else none
    | _, _, _ => none

/-! ### Operations -/
def binA (op : BinOp) (xType : TypeId) (P : Program) (x y : Value) : Option Value :=
  match op, x, y with
  | .shl, .int k a, .int _ b => if b < 0 then none else some (.int k (k.wrap (a * 2 ^ (min b.toNat k.bits))))
  | .shr, .int k a, .int _ b => if b < 0 then none else some (.int k (a.fdiv (2 ^ (min b.toNat k.bits))))
  | .eql, .int k a, .int k' b => if k = k' then some (.bool (a == b)) else none
  | .neq, .int k a, .int k' b => if k = k' then some (.bool (a != b)) else none
  | .lss, .int k a, .int k' b => if k = k' then some (.bool (decide (a < b))) else none
  | .leq, .int k a, .int k' b => if k = k' then some (.bool (decide (a ≤ b))) else none
  | .gtr, .int k a, .int k' b => if k = k' then some (.bool (decide (a > b))) else none
  | .geq, .int k a, .int k' b => if k = k' then some (.bool (decide (a ≥ b))) else none
  | .add, .int k a, .int k' b => if k = k' then some (.int k (k.wrap (a + b))) else none
  | .sub, .int k a, .int k' b => if k = k' then some (.int k (k.wrap (a - b))) else none
  | .mul, .int k a, .int k' b => if k = k' then some (.int k (k.wrap (a * b))) else none
  | .quo, .int k a, .int k' b => if k = k' then (if b = 0 then none else some (.int k (k.wrap (a.tdiv b)))) else none
  | .rem, .int k a, .int k' b => if k = k' then (if b = 0 then none else some (.int k (a.tmod b))) else none
  | .and, .int k a, .int k' b => if k = k' then some (.int k (k.wrap (BitVec.ofInt k.bits a &&& BitVec.ofInt k.bits b).toNat)) else none
  | .or, .int k a, .int k' b => if k = k' then some (.int k (k.wrap (BitVec.ofInt k.bits a ||| BitVec.ofInt k.bits b).toNat)) else none
  | .xor, .int k a, .int k' b => if k = k' then some (.int k (k.wrap (BitVec.ofInt k.bits a ^^^ BitVec.ofInt k.bits b).toNat)) else none
  | .andNot, .int k a, .int k' b => if k = k' then some (.int k (k.wrap (BitVec.ofInt k.bits a &&& ~~~ BitVec.ofInt k.bits b).toNat)) else none
  | .eql, .string a, .string b => some (.bool (a == b))
  | .neq, .string a, .string b => some (.bool (a != b))
  | _, .string _, _ => none
  | .eql, .agg xs, .agg ys => if P.eqGuardType P.depth xType then none else (eqA P Op.maxDepth xType (.agg xs) (.agg ys)).map .bool
  | .neq, .agg xs, .agg ys => if P.eqGuardType P.depth xType then none else (eqA P Op.maxDepth xType (.agg xs) (.agg ys)).map fun b => .bool (!b)
  | .eql, x, y => match x with
    | .bool _ | .pointer _ | .slice _ _ _ | .map _ | .func _ _ _ | .nilFunc => (eqA P Op.maxDepth xType x y).map .bool
    | _ => none
  | .neq, x, y => match x with
    | .bool _ | .pointer _ | .slice _ _ _ | .map _ | .func _ _ _ | .nilFunc => (eqA P Op.maxDepth xType x y).map fun b => .bool (!b)
    | _ => none
  | _, _, _ => none

def unA (op : UnOp) (x : Value) : Option Value :=
  match op, x with
  | .neg, .int k n => some (.int k (k.wrap (0 - n)))
  | .xor, .int k n => some (.int k (k.wrap (BitVec.ofInt k.bits (if k.signed then -1 else k.max) ^^^ BitVec.ofInt k.bits n).toNat))
  | .not, .bool b => some (.bool !b)
  | _, _ => none

def convA (P : Program) (src dst : TypeId) (x : Value) : Option Value :=
  match P.underlying src, P.underlying dst, x with
  | some _, some (.int k), .int _ n => some (.int k (k.wrap n))
  | some _, some .string, .string s => some (.string s)
  | _, _, _ => none

/-- Parts laid over cells. -/
def fillA (place : Nat → Option (Nat × Nat)) (cells : List Value) : List (Nat × Value) → Option (List Value)
  | [] => some cells
  | (i, v) :: rest =>
    match place i with
    | none => none
    | some (off, size) =>
      if v.cells.size ≠ size || off + v.cells.size > cells.length then none
      else fillA place (spliceL cells off v.cells.toList) rest

def evalParts (E : Env) (t : Tm) : List (Nat × Operand) → Option (List (Nat × Value))
  | [] => some []
  | (i, x) :: xs => match evalA E t x, evalParts E t xs with
    | some v, some vs => some ((i, v) :: vs)
    | _, _ => none

def buildA (P : Program) (t : TypeId) (parts : List (Nat × Value)) : Option Value :=
  match zeroA P t, P.underlying t with
  | some z, some (.struct fields) =>
    if fields.toList.all (fun f => known P f.type) then
      (fillA (fun i => (fields[i]?).map fun f => (f.offset, sizeA P f.type)) z.cells.toList parts).map fun cs => .agg cs.toArray
    else none
  | some z, some (.array _ elem) =>
    if known P elem then (fillA (fun i => some (i * sizeA P elem, sizeA P elem)) z.cells.toList parts).map fun cs => .agg cs.toArray else none
  | _, _ => none

def repeatL (zero : List Value) : Nat → List Value
  | 0 => []
  | n + 1 => zero ++ repeatL zero n

/-- The zero cells of n elements. -/
def zerosA (P : Program) (elem : TypeId) (n : Nat) : Option (List Value) :=
  match zeroA P elem with
  | some z => if z.cells.size = sizeA P elem then some (repeatL z.cells.toList n) else none
  | none => none

def intOf? : Value → Option (IntKind × Int)
  | .int k n => some (k, n)
  | _ => none

def boundA (x : Value) (y : Nat) : Option Nat :=
  match x with
  | .int _ i => if 0 ≤ i ∧ i ≤ y then some i.toNat else none
  | _ => none

/-- The bounds of a slice expression. -/
def boundsA (len cap : Nat) (low high max : Option Value) : Option (Nat × Nat × Nat) :=
  match (match max with | some v => boundA v cap | none => some cap) with
  | none => none
  | some m =>
    match (match high, max with | some v, _ => boundA v m | none, none => some len | none, some _ => none) with
    | none => none
    | some h =>
      match (match low with | some v => boundA v h | none => some 0) with
      | none => none
      | some l => some (l, h, m)

def vague (b : Nat) : Value := .slice (some ⟨b, 0, some 0⟩) 0 0

def optVal (E : Env) (t : Tm) : Option Operand → Option (Option Value)
  | none => some none
  | some x => (evalA E t x).map some

def sliceA (P : Program) (xType : TypeId) (x : Value) (low high max : Option Value) (m : AMem) : Option Value :=
  match P.underlying xType, x with
  | some (.slice elem), .slice none len cap =>
    if known P elem then
      match boundsA len cap low high max with
      | some (l, h, mx) => some (.slice none (h - l) (mx - l))
      | none => none
    else none
  | some (.slice elem), .slice (some ⟨b, o, none⟩) len cap =>
    if known P elem then
      match m.get b with
      | some (.cells _ (.more sz)) =>
        -- what lies beyond the cells that are known is not known: no third bound
        if sz ≠ sizeA P elem then none else
        match max with
        | none => match boundsA len cap low high none with
          | some (l, h, _) => if cap = l then some (vague b) else some (.slice (some ⟨b, o + l * sizeA P elem, none⟩) (h - l) (cap - l))
          | none => none
        | some mv =>
          -- s[0:0:0] and its kin: a slice of no capacity
          match boundsA len cap low high (some mv) with
          | some (l, h, mx) => if mx = l ∧ h = l then some (.slice (some ⟨b, 0, some 1⟩) 0 0) else none
          | none => none
      | some (.cells _ _) =>
        match boundsA len cap low high max with
        | some (l, h, mx) => some (.slice (some (if mx = l then ⟨b, o, none⟩ else ⟨b, o + l * sizeA P elem, none⟩)) (h - l) (mx - l))
        | none => none
      | _ => none
    else none
  | some (.slice elem), .slice (some ⟨b, _, some sp⟩) 0 0 =>
    if known P elem then
      match boundsA 0 0 low high max with
      | some _ => some (.slice (some ⟨b, 0, some sp⟩) 0 0)
      | none => none
    else none
  | some (.array n elem), .pointer (some ⟨b, o, none⟩) =>
    if known P elem then
      match m.get b with
      | some (.cells _ (.more _)) => none
      | some (.cells _ _) =>
        match boundsA n n low high max with
        | some (l, h, mx) => some (.slice (some (if mx = l then ⟨b, o, none⟩ else ⟨b, o + l * sizeA P elem, none⟩)) (h - l) (mx - l))
        | none => none
      | _ => none
    else none
  | _, _ => none

def fieldAddrA (P : Program) (s : TypeId) (x : Value) (f : Nat) : Option Value :=
  match P.underlying s, x with
  | some (.struct fields), .pointer (some ⟨b, o, none⟩) =>
    match fields[f]? with
    | some fl => if known P fl.type && sizeA P fl.type != 0 then some (ptr b (o + fl.offset)) else none
    | none => none
  | _, _ => none

def indexAddrA (P : Program) (t : TypeId) (x index : Value) : Option Value :=
  match P.underlying t, x, index with
  | some (.array len elem), .pointer (some ⟨b, o, none⟩), .int _ i =>
    if known P elem && decide (0 ≤ i ∧ i < len) then some (ptr b (o + i.toNat * sizeA P elem)) else none
  | some (.slice elem), .slice (some ⟨b, o, none⟩) len _, .int _ i =>
    if known P elem && decide (0 ≤ i ∧ i < len) then some (ptr b (o + i.toNat * sizeA P elem)) else none
  | _, _, _ => none

def indexA (P : Program) (t : TypeId) (x index : Value) : Option Value :=
  match P.underlying t, x, index with
  | some (.array len elem), .agg cs, .int _ i => if 0 ≤ i ∧ i < len then partA P elem cs (i.toNat * sizeA P elem) else none
  | some .string, .string s, .int _ i => if 0 ≤ i then (s[i.toNat]?).map fun b => .int .u8 b.toNat else none
  | _, _, _ => none

def fieldA (P : Program) (t : TypeId) (x : Value) (f : Nat) : Option Value :=
  match P.underlying t, x with
  | some (.struct fields), .agg cs =>
    match fields[f]? with
    | some fl => partA P fl.type cs fl.offset
    | none => none
  | _, _ => none

def loadA (P : Program) (t : TypeId) (a : Value) (m : AMem) : Option Value :=
  match a with
  | .pointer (some ⟨b, o, none⟩) =>
    if !known P t then none else
    if isAggA P t then (m.loadN b o (sizeA P t)).map fun cs => .agg cs.toArray
    else match m.get b with
      | some (.cells cs _) => cs[o]?
      | _ => none
  | _ => none

def storeA (P : Program) (t : TypeId) (a v : Value) (m : AMem) : Option AMem :=
  match a with
  | .pointer (some ⟨b, o, none⟩) =>
    if known P t && v.cells.size == sizeA P t && oneCellAll v.cells.toList then m.storeN b o v.cells.toList else none
  | _ => none

/-! ### Maps -/
/-- A key as it stands in a map: its number in a list of entries. -/
def findA (P : Program) (keyType : TypeId) (k : Value) : List (Value × Value) → Nat → Option (Option (Nat × Value))
  | [], _ => some none
  | e :: es, i =>
    match eqA P Op.maxDepth keyType k e.1 with
    | some true => some (some (i, e.2))
    | some false => findA P keyType k es (i + 1)
    | none => none

/-- The keys that are served: integers, strings, bools, and arrays and structs of these. -/
def keyKind (P : Program) (t : TypeId) : Bool :=
  match P.underlying t with
  | some (.int _) | some .string | some .bool => true
  | _ => false
def keyOk (P : Program) (t : TypeId) (v : Value) : Bool :=
  match P.underlying t, v with
  | some (.int _), .int _ _ | some .string, .string _ | some .bool, .bool _ => true
  | some (.array len elem), .agg cs => keyKind P elem && known P elem && sizeA P elem == 1 && cs.size == len && cs.toList.all plain1
  | some (.struct fs), .agg cs => fs.toList.all (fun f => keyKind P f.type && known P f.type && decide (f.offset < cs.size)) && cs.toList.all plain1
  | _, _ => false

def mapOf (m : AMem) (x : Value) : Option (List (Value × Value)) :=
  match x with
  | .map none => some []
  | .map (some r) => match m.get r with
    | some (.map es) => some es
    | _ => none
  | _ => none

def lookupA (P : Program) (xType : TypeId) (x index : Value) (commaOk : Bool) (m : AMem) : Option Value :=
  match P.underlying xType with
  | some (.map key elem) =>
    match mapOf m x, zeroA P elem with
    | some es, some z =>
      if keyOk P key index then
        match findA P key index es 0 with
        | some (some (_, v)) => some (if commaOk then .tuple #[v, .bool true] else v)
        | some none => if plainV z then some (if commaOk then .tuple #[z, .bool false] else z) else none
        | none => none
      else none
    | _, _ => none
  | _ => none

def mapPut : List (Value × Value) → Nat → Value → Value → List (Value × Value)
  | [], _, k, v => [(k, v)]
  | _ :: es, 0, k, v => (k, v) :: es
  | e :: es, n + 1, k, v => e :: mapPut es n k v

/-- Whichever of two equal keys stays: it is the same. -/
def staysOk (es : List (Value × Value)) (i : Nat) (key : Value) : Bool :=
  match es[i]? with
  | some e => plainV e.1 && Instr.sameBits 10000 e.1 key
  | none => false

def mapUpdateA (P : Program) (mapType : TypeId) (x key value : Value) (m : AMem) : Option AMem :=
  match P.underlying mapType, x with
  | some (.map kt _), .map (some r) =>
    match m.get r with
    | some (.map es) =>
      if keyOk P kt key then
        match findA P kt key es 0 with
        | some (some (i, _)) =>
          if staysOk es i key then some (m.set r (.map (mapPut es i key value))) else none
        | some none => some (m.set r (.map (es ++ [(key, value)])))
        | none => none
      else none
    | _ => none
  | _, _ => none

def deleteA (P : Program) (mapType : TypeId) (x key : Value) (m : AMem) : Option AMem :=
  match P.underlying mapType, x with
  | some (.map kt _), .map (some r) =>
    match m.get r with
    | some (.map es) =>
      if keyOk P kt key then
        match findA P kt key es 0 with
        | some (some (i, _)) => some (m.set r (.map (es.eraseIdx i)))
        | some none => some m
        | none => none
      else none
    | _ => none
  | _, _ => none

/-! ### append, copy, clear -/
/-- The cells of what is appended, or copied. -/
def srcCells (sz : Nat) (x : Value) (n : Nat) (m : AMem) : Option (List Value) :=
  match x with
  | .slice none _ _ => if n = 0 then some [] else none
  | .slice (some ⟨b, o, none⟩) _ _ => if n = 0 then some [] else m.loadN b o (n * sz)
  | .slice (some ⟨_, _, some _⟩) _ _ => if n = 0 then some [] else none
  | _ => none

/-- An array that is appended to may be no longer than this: beyond it the model asks for more than there is. -/
def fitsCap (bytes need : Nat) : Bool := (2 * need + 2000) * bytes ≤ 2 ^ 48

/-- The cells that an append adds: a slice's, or zeros (append(s, make(..)...)). -/
def newCells (P : Program) (elem : TypeId) (xType : Option TypeId) (x : Value) (m : AMem) : Option (Nat × List Value) :=
  match xType.bind P.underlying, x with
  | some (.slice _), .slice a l c => (srcCells (sizeA P elem) (.slice a l c) l m).map fun cs => (l, cs)
  | some (.int _), .int _ l => if 0 ≤ l ∧ l ≤ 2 ^ 40 then (zerosA P elem l.toNat).bind fun zs => if zs.all plain1 then some (l.toNat, zs) else none else none
  | _, _ => none

def appendA (P : Program) (sType : TypeId) (xType : Option TypeId) (s x : Value) (m : AMem) : Option (Value × AMem) :=
  match P.underlying sType, s, newCells P (match P.underlying sType with | some (.slice e) => e | _ => 0) xType x m with
  | some (.slice elem), .slice base len cap, some (n, new) =>
    let sz := sizeA P elem
    if !(known P elem) || sz == 0 || !oneCellAll new || !(P.info? elem).any (fun i => fitsCap i.bytes (len + n) && i.bytes != 0) || new.length != n * sz || !(zeroA P elem).any (fun z => z.cells.size == sz) then none else
    match base with
    | none =>
      if len ≠ 0 ∨ cap ≠ 0 then none else
      if n = 0 then some (.slice none 0 0, m)
      else some (.slice (some ⟨m.next, 0, none⟩) n n, m.alloc (.cells new (.more sz)))
    | some ⟨b, o, none⟩ =>
      match m.get b with
      | some (.cells cs tag) =>
        if len + n ≤ cap then
          -- within the cells that are known
          (m.storeN b (o + len * sz) new).map fun m' => (.slice (some ⟨b, o, none⟩) (len + n) cap, m')
        else match tag with
          | .more sz' =>
            if sz' = sz ∧ o = 0 then
              let old := cs.take (len * sz)
              if old.length = len * sz then some (.slice (some ⟨m.next, 0, none⟩) (len + n) (len + n), (m.kill b).alloc (.cells (old ++ new) (.more sz))) else none
            else none
          | _ =>
            match m.loadN b o (len * sz) with
            | some old => some (.slice (some ⟨m.next, 0, none⟩) (len + n) (len + n), m.alloc (.cells (old ++ new) (.more sz)))
            | none => none
      | _ => none
    | some ⟨b, _, some 1⟩ =>
      -- a slice that has no capacity, for sure
      if len ≠ 0 ∨ cap ≠ 0 then none else
      if n = 0 then some (.slice (some ⟨b, 0, some 1⟩) 0 0, m)
      else some (.slice (some ⟨m.next, 0, none⟩) n n, m.alloc (.cells new (.more sz)))
    | _ => if len = 0 ∧ cap = 0 ∧ n = 0 then some (s, m) else none
  | _, _, _ => none

def copyA (P : Program) (dType : TypeId) (dst src : Value) (m : AMem) : Option (Value × AMem) :=
  match P.underlying dType, dst, src with
  | some (.slice elem), .slice base dLen _, .slice _ sLen _ =>
    let n := min sLen dLen
    if !(known P elem) then none else
    match srcCells (sizeA P elem) src n m with
    | none => none
    | some cells =>
      if !oneCellAll cells then none else
      match base, n with
      | _, 0 => some (.int .i64 0, m)
      | some ⟨b, o, none⟩, n + 1 => (m.storeN b o cells).map fun m' => (.int .i64 (n + 1 : Nat), m')
      | _, _ => none
  | _, _, _ => none

def clearA (P : Program) (t : TypeId) (x : Value) (m : AMem) : Option (Value × AMem) :=
  match P.underlying t, x with
  | some (.slice _), .slice _ 0 _ => some (.tuple #[], m)
  | some (.slice elem), .slice (some ⟨b, o, none⟩) n _ =>
    match zerosA P elem n with
    | some zs => if zs.all plain1 then (m.storeN b o zs).map fun m' => (.tuple #[], m') else none
    | none => none
  | _, _ => none

def foldInts (f : Int → Int → Int) : IntKind → Int → List Value → Option Value
  | k, a, [] => some (.int k a)
  | k, a, .int _ b :: vs => foldInts f k (f a b) vs
  | _, _, _ => none

def builtinA (P : Program) (b : Builtin) (argTypes : Array TypeId) (args : List Value) (m : AMem) : Option (Value × AMem) :=
  match b, args with
  | .len, [x] =>
    match (argTypes[0]?).bind P.underlying, x with
    | some .string, .string s => some (.int .i64 s.size, m)
    | some (.array n _), _ => some (.int .i64 n, m)
    | some (.pointer a), _ => match P.underlying a with
      | some (.array n _) => some (.int .i64 n, m)
      | _ => none
    | some (.slice _), .slice _ n _ => some (.int .i64 n, m)
    | some (.map _ _), x => (mapOf m x).map fun es => (.int .i64 es.length, m)
    | _, _ => none
  | .cap, [x] =>
    match (argTypes[0]?).bind P.underlying, x with
    | some (.slice _), .slice none _ n => some (.int .i64 n, m)
    | some (.slice _), .slice (some ⟨b, _, none⟩) _ n => match m.get b with
      | some (.cells _ (.more _)) => none
      | some (.cells _ _) => some (.int .i64 n, m)
      | _ => none
    | _, _ => none
  | .append, [s, x] => match argTypes[0]? with
    | some t => appendA P t argTypes[1]? s x m
    | none => none
  | .copy, [d, s] => match argTypes[0]? with
    | some t => copyA P t d s m
    | none => none
  | .clear, [x] => match argTypes[0]? with
    | some t => clearA P t x m
    | none => none
  | .delete, [x, k] => match argTypes[0]? with
    | some t => (deleteA P t x k m).map fun m' => (.tuple #[], m')
    | none => none
  | .max, .int k a :: vs => (foldInts (fun x y => if y > x then y else x) k a vs).map fun v => (v, m)
  | .min, .int k a :: vs => (foldInts (fun x y => if y < x then y else x) k a vs).map fun v => (v, m)
  | _, _ => none

/-- An operation that is no call of a function. -/
def opA (E : Env) (t : Tm) (m : AMem) (o : Op) : Option (Value × AMem) :=
  let P := E.P
  match o with
  | .move x | .assign x => (evalA E t x).map fun v => (v, m)
  | .pick c a b => match evalA E t c with
    | some (.bool true) => (evalA E t a).map fun v => (v, m)
    | some (.bool false) => (evalA E t b).map fun v => (v, m)
    | _ => none
  | .alloc elem => match zeroA P elem with
    | some z => if plainV z then some (ptr m.next 0, m.alloc (.cells z.cells.toList .own)) else none
    | none => none
  | .box _ x => (evalA E t x).map fun v => (ptr m.next 0, m.alloc (.cells v.cells.toList .own))
  | .build ty parts => match evalParts E t parts.toList, zeroA P ty with
    | some ps, some z => if plainV z then (buildA P ty ps).map fun v => (v, m) else none
    | _, _ => none
  | .buildSlice ty len parts =>
    match P.underlying ty, evalParts E t parts.toList with
    | some (.slice elem), some ps =>
      let sz := sizeA P elem
      if !(known P elem) || len * sz > 2 ^ 24 then none else
      match zerosA P elem len with
      | some zs => if zs.all plain1 then (fillA (fun i => some (i * sz, sz)) zs ps).map fun cs => (.slice (some ⟨m.next, 0, none⟩) len len, m.alloc (.cells cs .own)) else none
      | none => none
    | _, _ => none
  | .load ty a => match evalA E t a with
    | some p => (loadA P ty p m).map fun v => (v, m)
    | none => none
  | .store ty a x => match evalA E t a, evalA E t x with
    | some p, some v => (storeA P ty p v m).map fun m' => (undef, m')
    | _, _ => none
  | .nilCheck x => match evalA E t x with
    | some (.pointer (some a)) => some (.pointer (some a), m)
    | some (.func (.func f) a b) => some (.func (.func f) a b, m)
    | some (.func (.yield f) a b) => some (.func (.yield f) a b, m)
    | _ => none
  | .binOp op xType x y _ => match evalA E t x, evalA E t y with
    | some a, some b => (binA op xType P a b).map fun v => (v, m)
    | _, _ => none
  | .unOp op _ x => match evalA E t x with
    | some a => (unA op a).map fun v => (v, m)
    | none => none
  | .convert src dst x => match evalA E t x with
    | some a => (convA P src dst a).map fun v => (v, m)
    | none => none
  | .makeFunc (.func f) first captured => match evalAll E t first.toList, evalAll E t captured.toList with
    | some fs, some cs => some (.func (.func f) fs.toArray cs.toArray, m)
    | _, _ => none
  | .makeMap _ none => some (.map (some m.next), m.alloc (.map []))
  | .makeSlice ty len cap => match P.underlying ty, evalA E t len, evalA E t cap with
    | some (.slice elem), some (.int .i64 l), some (.int .i64 c) =>
      if 0 ≤ l ∧ l ≤ c ∧ (P.info? elem).any (fun i => i.bytes * c ≤ 2 ^ 40 && i.bytes != 0) ∧ known P elem then
        match zerosA P elem c.toNat with
        | some zs => if zs.all plain1 then some (.slice (some ⟨m.next, 0, none⟩) l.toNat c.toNat, m.alloc (.cells zs .own)) else none
        | none => none
      else none
    | _, _, _ => none
  | .slice ty x lo hi mx => match evalA E t x, optVal E t lo, optVal E t hi, optVal E t mx with
    | some v, some l, some h, some k => (sliceA P ty v l h k m).map fun v => (v, m)
    | _, _, _, _ => none
  | .fieldAddr s x f => match evalA E t x with
    | some v => (fieldAddrA P s v f).map fun v => (v, m)
    | none => none
  | .field ty x f => match evalA E t x with
    | some v => (fieldA P ty v f).map fun v => (v, m)
    | none => none
  | .indexAddr ty x i => match evalA E t x, evalA E t i with
    | some v, some n => (indexAddrA P ty v n).map fun v => (v, m)
    | _, _ => none
  | .index ty x i => match evalA E t x, evalA E t i with
    | some v, some n => (indexA P ty v n).map fun v => (v, m)
    | _, _ => none
  | .lookup ty x i ok => match evalA E t x, evalA E t i with
    | some v, some n => (lookupA P ty v n ok m).map fun v => (v, m)
    | _, _ => none
  | .mapUpdate ty x k v | .insert ty x k v => match evalA E t x, evalA E t k, evalA E t v with
    | some x, some k, some v => (mapUpdateA P ty x k v m).map fun m' => (undef, m')
    | _, _, _ => none
  | .extract x i => match evalA E t x with
    | some (.tuple vs) => (vs[i]?).map fun v => (v, m)
    | _ => none
  | .call c => match c.callee with
    | .builtin b => match evalAll E t c.args.toList with
      | some vs => builtinA P b c.argTypes vs m
      | none => none
    | _ => none
  | _ => none

/-! ### The order of a region's operations -/
def effectful : Op → Bool
  | .store .. | .mapUpdate .. | .insert .. => true
  | .call c => match c.callee with
    | .builtin .append | .builtin .copy | .builtin .delete | .builtin .clear => true
    | .builtin _ => false
    | _ => true
  | _ => false
def reading : Op → Bool
  | .load .. | .lookup .. | .slice .. => true
  | .call c => match c.callee with
    | .builtin .len | .builtin .cap => true
    | _ => false
  | _ => false

def tmpsOf : List Operand → List Tmp
  | [] => []
  | .tmp t :: xs => t :: tmpsOf xs
  | _ :: xs => tmpsOf xs

/-- The temporaries that an operation looks at. -/
def looks (ops : Array Oper) (o : Oper) : List Tmp :=
  tmpsOf o.op.operands.toList ++ (match o.guard with
    | some (g, _) => ((ops[g]?).bind (·.dst)).toList
    | none => [])

/-- Which operations surely come before each (a number's binary digits). -/
def befores (ops : Array Oper) : List Nat := (Region.before ops).toList

/-- Two operations without an order: what must hold of them. -/
def apartOk (ops : Array Oper) (a b : Oper) : Bool :=
  !(effectful a.op && effectful b.op) &&
  (match a.dst with
   | some d => !(looks ops b).contains d && b.dst != some d
   | none => true) &&
  (match b.dst with
   | some d => !(looks ops a).contains d
   | none => true)

def clash (a b : Oper) : Bool := (effectful a.op && reading b.op) || (reading a.op && effectful b.op)

def nodupB : List Nat → Bool
  | [] => true
  | x :: xs => !xs.contains x && nodupB xs

/-- The operations that come before one by an edge of its own. -/
def edgesOf (o : Oper) : List Nat := o.after.toList.filterMap fun e => if Region.binds .any e then some e.on else none

/-- The numbers of 'befores' are borne out by the edges; whatever has no order may come in either. -/
def orderOk (ops : Array Oper) (bs : List Nat) : Bool :=
  nodupB (ops.toList.filterMap (·.dst)) &&
  (List.range ops.size).all fun j =>
    (edgesOf (ops.getD j default)).all (fun e => decide (e < j)) &&
    (match (ops.getD j default).guard with
     | none => true
     | some (g, _) => decide (g < j) && (bs.getD j 0).testBit g) &&
    (List.range j).all fun i =>
      if (bs.getD j 0).testBit i then (edgesOf (ops.getD j default)).any (fun e => e == i || (Nat.blt i e && (bs.getD e 0).testBit i))
      else apartOk ops (ops.getD i default) (ops.getD j default)

/-- The pairs (i, j), i < j, of one operation that reads and one that writes, without an order. -/
def clashes (ops : Array Oper) (bs : List Nat) : List (Nat × Nat) :=
  (List.range ops.size).flatMap fun j => ((List.range j).filter fun i => !(bs.getD j 0).testBit i && clash (ops.getD i default) (ops.getD j default)).map fun i => (i, j)

def pairsOf (ops : Array Oper) : Option (List (Nat × Nat)) :=
  if orderOk ops (befores ops) then some (clashes ops (befores ops)) else none

/-- The block that a value leads to. -/
def blockOf : Value → Option Nat
  | .pointer (some a) => some a.block
  | .slice (some a) _ _ => some a.block
  | .map (some r) => some r
  | _ => none

/-- The block that an operation reads. -/
def readsAt (E : Env) (t : Tm) (o : Op) : Option Nat :=
  match o with
  | .load _ a => (evalA E t a).bind blockOf
  | .lookup _ x _ _ => (evalA E t x).bind blockOf
  | .slice _ x _ _ _ => (evalA E t x).bind blockOf
  | .call c => match c.callee with
    | .builtin .len | .builtin .cap => match evalAll E t c.args.toList with
      | some [v] => blockOf v
      | _ => none
    | _ => none
  | _ => none

/-- The one block that a store writes. -/
def writesAt (E : Env) (t : Tm) (o : Op) : Option Nat :=
  match o with
  | .store _ a _ => match evalA E t a with
    | some (.pointer (some a)) => some a.block
    | _ => none
  | _ => none

/-- What is noted of an operation of a region that draws its order: the block that it read; below which number it wrote no block that lay; how many blocks there were; the one block that it wrote. -/
structure Note where
  read : Option Nat
  wl : Nat
  next : Nat
  wrote : Option Nat

def Note.ok (r e : Note) : Bool :=
  match r.read with
  | none => true
  | some b => decide (b < e.wl) || decide (e.next ≤ b) || (match e.wrote with
    | some b' => b != b'
    | none => false)

/-- What is read was there. -/
def noteOk (a : Note) : Bool :=
  match a.read with
  | none => true
  | some b => Nat.blt b a.next

def pairOk (notes : List Note) (ops : Array Oper) (p : Nat × Nat) : Bool :=
  match notes[p.1]?, notes[p.2]? with
  | some a, some b =>
    (!(effectful (ops.getD p.2 default).op) || Note.ok a b) && (!(effectful (ops.getD p.1 default).op) || Note.ok b a)
  | _, _ => false

/-! ### The interpreter -/
inductive AExit where
  | normal
  | exit (id : Nat)
  | ret
  deriving DecidableEq

structure Fr where
  tmps : Tm
  n : Nat
  fn : FuncId
  round : Option Nat

inductive Task where
  | code (c : Code) (fr : Fr) (m : AMem)
  | loop (c : Code) (fr : Fr) (m : AMem)
  | call (f : FuncId) (args : List Value) (m : AMem)
  | round (l : Nat) (args : List Value) (m : AMem)

inductive Res where
  | code (e : AExit) (t : Tm) (m : AMem)
  | val (v : Value) (m : AMem)

abbrev K := Task → Option Res

/-- A temporary is written; there are n of them. -/
def putT (n : Nat) (t : Tm) (dst : Option Tmp) (v : Value) : Option Tm :=
  match dst with
  | some d => match Nat.blt d n with
    | true => some (t.set d v)
    | false => none
  | none => some t

/-- An operation, a call of a function among them. -/
def oper1 (k : K) (E : Env) (t : Tm) (m : AMem) (o : Op) : Option (Value × AMem) :=
  match o with
  | .call c => match c.callee with
    | .value f => match evalA E t f, evalAll E t c.args.toList with
      | some (.func (.func g) first captured), some args => match k (.call g (first.toList ++ args ++ captured.toList) m) with
        | some (.val v m') => some (v, m')
        | _ => none
      | some (.func (.yield l) first _), some args => match k (.round l (first.toList ++ args) m) with
        | some (.val v m') => some (v, m')
        | _ => none
      | _, _ => none
    | _ => opA E t m o
  | _ => opA E t m o

def yieldedA (ops : Array Oper) (t : Tm) (j : Nat) : Option Bool :=
  match ((ops[j]?).bind (·.dst)) with
  | some d => match t.get d with
    | some (.bool b) => some b
    | _ => none
  | none => none

def wantedA (ops : Array Oper) (o : Oper) (t : Tm) : Bool :=
  match o.guard with
  | none => true
  | some (j, want) => match yieldedA ops t j with
    | some b => b == want
    | none => false

def runOps (k : K) (E : Env) (n : Nat) (ops : Array Oper) : List Oper → Tm → AMem → Option (Tm × AMem)
  | [], t, m => some (t, m)
  | o :: os, t, m =>
    if wantedA ops o t then
      match oper1 k E t m o.op with
      | some (v, m') => match putT n t o.dst v with
        | some t' => runOps k E n ops os t' m'
        | none => none
      | none => none
    else match putT n t o.dst undef with
      | some t' => runOps k E n ops os t' m
      | none => none

def runNoted (k : K) (E : Env) (n : Nat) (ops : Array Oper) : List Oper → Tm → AMem → Option (Tm × AMem × List Note)
  | [], t, m => some (t, m, [])
  | o :: os, t, m =>
    if wantedA ops o t then
      match oper1 k E t { m with wl := m.next } o.op with
      | some (v, m') => match putT n t o.dst v with
        | some t1 => match runNoted k E n ops os t1 { m' with wl := min m.wl m'.wl } with
          | some (t', m'', ns) => some (t', m'', { read := readsAt E t o.op, wl := m'.wl, next := m.next, wrote := writesAt E t o.op } :: ns)
          | none => none
        | none => none
      | none => none
    else match putT n t o.dst undef with
      | some t1 => match runNoted k E n ops os t1 m with
        | some (t', m'', ns) => some (t', m'', { read := none, wl := m.next, next := m.next, wrote := none } :: ns)
        | none => none
      | none => none

def resultsA (E : Env) (t : Tm) (m : AMem) : List ResultVar → Option (List Value)
  | [] => some []
  | .tmp i :: rs => (resultsA E t m rs).map fun vs => t.at i :: vs
  | .cell a ty :: rs => match loadA E.P ty (t.at a) m, resultsA E t m rs with
    | some v, some vs => some (v :: vs)
    | _, _ => none

def tupleA : List Value → Value
  | [v] => v
  | vs => .tuple vs.toArray

def setParams (n : Nat) (t : Tm) : List Tmp → List Value → Option Tm
  | p :: ps, v :: vs => match Nat.blt p n with
    | true => setParams n (t.set p v) ps vs
    | false => none
  | _, _ => some t

def jumpOf : AExit → Option Code
  | .normal => none
  | .exit id => some (.exit id)
  | .ret => some .ret

/-- A range over a function: the function is entered; the record of the loop around it is there. -/
def aroundOk (E : Env) (fr : Fr) (m : AMem) (f : Operand) : Bool :=
  (match evalA E fr.tmps f with
   | some (.func (.func g) _ _) => (E.prim g).isNone
   | _ => false) &&
  (match fr.round with
   | none => true
   | some l => match m.get l with
     | some (.loop _) => true
     | _ => false)

/-- What a contract says of a call, if it says something. -/
def primA (E : Env) (f : FuncId) (args : List Value) (m : AMem) : Option (Value × AMem) := (E.prim f).bind fun p => p.run args m

def step (E : Env) (k : K) : Task → Option Res
  | .code c fr m =>
    match c with
    | .skip => some (.code .normal fr.tmps m)
    | .label _ => some (.code .normal fr.tmps m)
    | .seq a b => match k (.code a fr m) with
      | some (.code .normal t m') => k (.code b { fr with tmps := t } m')
      | some (.code e t m') => some (.code e t m')
      | _ => none
    | .cond x a b => match evalA E fr.tmps x with
      | some (.bool true) => k (.code a fr m)
      | some (.bool false) => k (.code b fr m)
      | _ => none
    | .block id a => match k (.code a fr m) with
      | some (.code (.exit id') t m') => if id' = id then some (.code .normal t m') else some (.code (.exit id') t m')
      | some (.code e t m') => some (.code e t m')
      | _ => none
    | .loop a => k (.loop a fr m)
    | .exit id => some (.code (.exit id) fr.tmps m)
    | .ret => some (.code .ret fr.tmps m)
    | .scope a => match k (.code a fr m) with
      | some (.code e t m') => some (.code e t m')
      | _ => none
    | .region _ ops draw =>
      if draw then
        match pairsOf ops with
        | some ps => match runNoted k E fr.n ops ops.toList fr.tmps m with
          | some (t, m', ns) => if ps.all (pairOk ns ops) && ns.all noteOk then some (.code .normal t m') else none
          | none => none
        | none => none
      else match runOps k E fr.n ops ops.toList fr.tmps m with
        | some (t, m') => some (.code .normal t m')
        | none => none
    | .rangeFunc f params assign body =>
      match evalA E fr.tmps f, aroundOk E fr m f with
      | some (.func (.func g) first captured), true =>
        let l := m.next
        let m1 := m.alloc (.loop { state := .ready, pending := none, fn := fr.fn, tmps := fr.tmps, n := fr.n, params, assign, body })
        match k (.call g (first.toList ++ [.func (.yield l) #[] #[]] ++ captured.toList) m1) with
        | some (.val _ m2) => match m2.get l with
          | some (.loop r) => match r.state with
            | .busy => none
            | _ =>
              let m3 := m2.set l (.loop { r with state := .exhausted })
              match r.pending with
              | none => some (.code .normal fr.tmps m3)
              | some c => match k (.code c fr m3) with
                | some (.code e t m') => some (.code e t m')
                | _ => none
          | _ => none
        | _ => none
      | _, _ => none
    | _ => none
  | .loop c fr m => match k (.code c fr m) with
    | some (.code .normal t m') => k (.loop c { fr with tmps := t } m')
    | some (.code e t m') => some (.code e t m')
    | _ => none
  | .call f args m =>
    match primA E f args m with
    | some r => some (.val r.1 r.2)
    | none =>
      match E.P.funcs[f]? with
      | some fn => match fn.body with
        | some c => match k (.code c { tmps := Trie.ofList args 0 .nil, n := max args.length fn.ntmps, fn := f, round := none } m) with
          | some (.code (.exit _) _ _) => none
          | some (.code _ t m') => (resultsA E t m' fn.results.toList).map fun vs => .val (tupleA vs) m'
          | _ => none
        | none => none
      | none => none
  | .round l args m =>
    match m.get l with
    | some (.loop r) => match r.state with
      | .ready =>
        if args.length ≠ r.params.size then none else
        match setParams r.n r.tmps r.params.toList args with
        | none => none
        | some t0 => match k (.code r.assign { tmps := t0, n := r.n, fn := r.fn, round := some l } m) with
        | some (.code .normal t1 m1) => match m1.get l with
          | some (.loop r1) => match r1.state with
            | .ready =>
              match k (.code r.body { tmps := t1, n := r.n, fn := r.fn, round := some l } (m1.set l (.loop { r1 with state := .busy }))) with
              | some (.code e _ m2) => match m2.get l with
                | some (.loop r2) =>
                  let j := jumpOf e
                  some (.val (.bool j.isNone) (m2.set l (.loop { r2 with state := if j.isNone then .ready else .done, pending := j })))
                | _ => none
              | _ => none
            | _ => none
          | _ => none
        | _ => none
      | _ => none
    | _ => none

def run (E : Env) : Nat → K
  | 0 => fun _ => none
  | n + 1 => step E (run E n)

end Go.Ab
