/-
  The abstract machine and the model: when a value, an object, a memory of the one stands for one of the other; what a step keeps.
-/
import Derived.Test.YtpclggcpobakhaaDoorAbsDefs
import Derived.RangeFuncLeaves
namespace Go.Ab
open Go

/-- Where a block lies in the model; if more is known to lie behind its cells: an element's cells, the cells that are known, those that there are. -/
structure Blk where
  c : Nat
  more : Option (Nat × Nat × Nat)
abbrev Inj := Nat → Option Blk

inductive VR (j : Inj) : Value → Value → Prop
  | bool (b : Bool) : VR j (.bool b) (.bool b)
  | int (k : IntKind) (n : Int) : VR j (.int k n) (.int k n)
  | string (s : ByteArray) : VR j (.string s) (.string s)
  | pnil : VR j (.pointer none) (.pointer none)
  | ptr {b o : Nat} {k : Blk} (h : j b = some k) : VR j (.pointer (some ⟨b, o, none⟩)) (.pointer (some ⟨k.c, o, none⟩))
  | snil (l c : Nat) : VR j (.slice none l c) (.slice none l c)
  | slice {b o len cap : Nat} {k : Blk} (h : j b = some k) (hm : k.more = none) : VR j (.slice (some ⟨b, o, none⟩) len cap) (.slice (some ⟨k.c, o, none⟩) len cap)
  | sliceM {b o len cap cap' sz na nc : Nat} {k : Blk} (h : j b = some k) (hm : k.more = some (sz, na, nc)) (h1 : cap * sz + o = na) (h2 : cap' * sz + o = nc) (hl : len ≤ cap) (hc : cap ≤ cap') :
      VR j (.slice (some ⟨b, o, none⟩) len cap) (.slice (some ⟨k.c, o, none⟩) len cap')
  | vague {b : Nat} {a' : Addr} {cap' : Nat} : VR j (.slice (some ⟨b, 0, some 0⟩) 0 0) (.slice (some a') 0 cap')
  | dry {b : Nat} {a' : Addr} : VR j (.slice (some ⟨b, 0, some 1⟩) 0 0) (.slice (some a') 0 0)
  | mnil : VR j (.map none) (.map none)
  | map {b : Nat} {k : Blk} (h : j b = some k) : VR j (.map (some b)) (.map (some k.c))
  | func {f : FuncId} {xs ys cs ds : Array Value} (h1 : xs.size = ys.size) (h2 : ∀ (i : Nat) (a : i < xs.size) (b : i < ys.size), VR j xs[i] ys[i])
      (h3 : cs.size = ds.size) (h4 : ∀ (i : Nat) (a : i < cs.size) (b : i < ds.size), VR j cs[i] ds[i]) : VR j (.func (.func f) xs cs) (.func (.func f) ys ds)
  | yield {l : Nat} {k : Blk} {xs ys cs ds : Array Value} (h : j l = some k) (h1 : xs.size = ys.size) (h2 : ∀ (i : Nat) (a : i < xs.size) (b : i < ys.size), VR j xs[i] ys[i]) :
      VR j (.func (.yield l) xs cs) (.func (.yield k.c) ys ds)
  | nilFunc : VR j .nilFunc .nilFunc
  | nilIface : VR j .nilIface .nilIface
  | agg {xs ys : Array Value} (h1 : xs.size = ys.size) (h2 : ∀ (i : Nat) (a : i < xs.size) (b : i < ys.size), VR j xs[i] ys[i]) : VR j (.agg xs) (.agg ys)
  | tuple {xs ys : Array Value} (h1 : xs.size = ys.size) (h2 : ∀ (i : Nat) (a : i < xs.size) (b : i < ys.size), VR j xs[i] ys[i]) : VR j (.tuple xs) (.tuple ys)

/-- Lists, element by element. -/
def LR (j : Inj) (xs ys : List Value) : Prop := xs.length = ys.length ∧ ∀ (i : Nat) (v : Value), xs[i]? = some v → ∃ v', ys[i]? = some v' ∧ VR j v v'

theorem LR.nil (j : Inj) : LR j [] [] := ⟨rfl, fun i v h => by simp at h⟩
theorem LR.cons {j : Inj} {x y : Value} {xs ys : List Value} (h : VR j x y) (hs : LR j xs ys) : LR j (x :: xs) (y :: ys) :=
  ⟨by simp [hs.1], fun i v hi => by
    cases i with
    | zero => simp at hi; subst hi; exact ⟨y, rfl, h⟩
    | succ i => simpa using hs.2 i v (by simpa using hi)⟩
theorem LR.head {j : Inj} {x y : Value} {xs ys : List Value} (h : LR j (x :: xs) (y :: ys)) : VR j x y := by
  obtain ⟨v', hv, hr⟩ := h.2 0 x rfl
  simp at hv; subst hv; exact hr
theorem LR.tail {j : Inj} {x y : Value} {xs ys : List Value} (h : LR j (x :: xs) (y :: ys)) : LR j xs ys :=
  ⟨by have := h.1; simpa using this, fun i v hi => by simpa using h.2 (i + 1) v (by simpa using hi)⟩
theorem LR.cons_inv {j : Inj} {x : Value} {xs l : List Value} (h : LR j (x :: xs) l) : ∃ y ys, l = y :: ys ∧ VR j x y ∧ LR j xs ys := by
  cases l with
  | nil => exact absurd h.1 (by simp)
  | cons y ys => exact ⟨y, ys, rfl, h.head, h.tail⟩
theorem LR.nil_inv {j : Inj} {l : List Value} (h : LR j [] l) : l = [] := by
  have := h.1; simp at this; exact List.length_eq_zero_iff.1 this.symm
theorem LR.append {j : Inj} {xs ys xs' ys' : List Value} (h : LR j xs ys) (h' : LR j xs' ys') : LR j (xs ++ xs') (ys ++ ys') :=
  ⟨by simp [h.1, h'.1], fun i v hi => by
    by_cases hlt : i < xs.length
    · rw [List.getElem?_append_left hlt] at hi
      rw [List.getElem?_append_left (h.1 ▸ hlt)]
      exact h.2 i v hi
    · rw [List.getElem?_append_right (by omega)] at hi
      rw [List.getElem?_append_right (by have := h.1; omega), ← h.1]
      exact h'.2 _ v hi⟩
theorem LR.drop {j : Inj} {xs ys : List Value} (h : LR j xs ys) (n : Nat) : LR j (xs.drop n) (ys.drop n) :=
  ⟨by simp [h.1], fun i v hi => by rw [List.getElem?_drop] at *; exact h.2 _ v hi⟩
theorem LR.take {j : Inj} {xs ys : List Value} (h : LR j xs ys) (n : Nat) : LR j (xs.take n) (ys.take n) :=
  ⟨by simp [h.1], fun i v hi => by
    rw [List.getElem?_take] at *
    split at hi
    · rename_i hlt; rw [if_pos hlt]; exact h.2 _ v hi
    · simp at hi⟩
theorem LR.get {j : Inj} {xs ys : List Value} (h : LR j xs ys) {i : Nat} {v : Value} (hi : xs[i]? = some v) : ∃ v', ys[i]? = some v' ∧ VR j v v' := h.2 i v hi
theorem LR.none {j : Inj} {xs ys : List Value} (h : LR j xs ys) {i : Nat} (hi : xs[i]? = Option.none) : ys[i]? = Option.none := by
  rw [List.getElem?_eq_none_iff] at *; have := h.1; omega

/-- Arrays. -/
theorem LR.of_arr {j : Inj} {xs ys : Array Value} (h1 : xs.size = ys.size) (h2 : ∀ (i : Nat) (a : i < xs.size) (b : i < ys.size), VR j xs[i] ys[i]) : LR j xs.toList ys.toList :=
  ⟨by simpa using h1, fun i v hi => by
    have hlt : i < xs.toList.length := (List.getElem?_eq_some_iff.1 hi).1
    have ha : i < xs.size := by simpa using hlt
    have hb : i < ys.size := h1 ▸ ha
    refine ⟨ys[i], by simp [hb], ?_⟩
    have : xs[i] = v := by simpa [ha] using hi
    exact this ▸ h2 i ha hb⟩
theorem LR.arr {j : Inj} {xs ys : Array Value} (h : LR j xs.toList ys.toList) : ∀ (i : Nat) (a : i < xs.size) (b : i < ys.size), VR j xs[i] ys[i] := fun i a b => by
  obtain ⟨v', hv, hr⟩ := h.2 i xs[i] (by simp [a])
  have : ys[i] = v' := by simpa [b] using hv
  exact this ▸ hr
theorem LR.size {j : Inj} {xs ys : Array Value} (h : LR j xs.toList ys.toList) : xs.size = ys.size := by simpa using h.1
theorem VR.agg' {j : Inj} {xs ys : Array Value} (h : LR j xs.toList ys.toList) : VR j (.agg xs) (.agg ys) := .agg h.size h.arr
theorem VR.tuple' {j : Inj} {xs ys : Array Value} (h : LR j xs.toList ys.toList) : VR j (.tuple xs) (.tuple ys) := .tuple h.size h.arr
theorem VR.undef (j : Inj) : VR j undef undef := .tuple rfl (fun i a _ => by simp at a)

/-! ### More is placed -/
def Inj.le (j j' : Inj) : Prop := ∀ b k, j b = some k → j' b = some k
theorem Inj.le.refl (j : Inj) : j.le j := fun _ _ h => h
theorem Inj.le.trans {j j' j'' : Inj} (h : j.le j') (h' : j'.le j'') : j.le j'' := fun b k e => h' b k (h b k e)

theorem VR.mono {j j' : Inj} (hj : j.le j') {v v' : Value} (h : VR j v v') : VR j' v v' := by
  induction h with
  | bool b => exact .bool b
  | int k n => exact .int k n
  | string s => exact .string s
  | pnil => exact .pnil
  | ptr h => exact .ptr (hj _ _ h)
  | snil l c => exact .snil l c
  | slice h hm => exact .slice (hj _ _ h) hm
  | sliceM h hm h1 h2 hl hc => exact .sliceM (hj _ _ h) hm h1 h2 hl hc
  | vague => exact .vague
  | dry => exact .dry
  | mnil => exact .mnil
  | map h => exact .map (hj _ _ h)
  | func h1 _ h3 _ ih2 ih4 => exact .func h1 ih2 h3 ih4
  | yield h h1 _ ih2 => exact .yield (hj _ _ h) h1 ih2
  | nilFunc => exact .nilFunc
  | nilIface => exact .nilIface
  | agg h1 _ ih => exact .agg h1 ih
  | tuple h1 _ ih => exact .tuple h1 ih

theorem LR.mono {j j' : Inj} (hj : j.le j') {xs ys : List Value} (h : LR j xs ys) : LR j' xs ys :=
  ⟨h.1, fun i v hi => let ⟨v', a, b⟩ := h.2 i v hi; ⟨v', a, b.mono hj⟩⟩

/-- A constant stands for itself. -/
theorem VR.plain1 {j : Inj} {v : Value} (h : plain1 v = true) : VR j v v := by
  unfold Ab.plain1 at h
  split at h <;> first | constructor | (simp at h)
theorem LR.plain {j : Inj} {l : List Value} (h : l.all Ab.plain1 = true) : LR j l l :=
  ⟨rfl, fun i v hi => ⟨v, hi, VR.plain1 (List.all_eq_true.1 h v (List.mem_of_getElem? hi))⟩⟩
theorem VR.plainV {j : Inj} {v : Value} (h : plainV v = true) : VR j v v := by
  unfold Ab.plainV at h
  split at h
  · exact .agg' (LR.plain h)
  · exact .tuple' (LR.plain h)
  · exact .plain1 h

/-! ### Objects -/
def ER (j : Inj) : List (Value × Value) → List MapEntry → Prop
  | [], [] => True
  | e :: es, f :: fs => VR j e.1 f.key ∧ VR j e.2 f.val ∧ ER j es fs
  | _, _ => False

theorem ER.mono {j j' : Inj} (hj : j.le j') : ∀ {es : List (Value × Value)} {fs : List MapEntry}, ER j es fs → ER j' es fs
  | [], [], _ => trivial
  | _ :: _, _ :: _, h => ⟨h.1.mono hj, h.2.1.mono hj, ER.mono hj h.2.2⟩
  | [], _ :: _, h => h.elim
  | _ :: _, [], h => h.elim

/-- Temporaries: n of them. -/
def TR (n : Nat) (j : Inj) (t : Tm) (tmps : Array Value) : Prop := tmps.size = n ∧ ∀ i, VR j (t.at i) (tmps.getD i undef)
theorem TR.mono {n : Nat} {j j' : Inj} (hj : j.le j') {t : Tm} {tmps : Array Value} (h : TR n j t tmps) : TR n j' t tmps := ⟨h.1, fun i => (h.2 i).mono hj⟩

def tagOk (k : Blk) (tag : Tag) (len size : Nat) (fz : Nat × Nat) : Prop :=
  match tag with
  | .ro => k.more = none ∧ size = len
  | .own => k.more = none ∧ size = len ∧ fz = (0, 0)
  | .more sz => k.more = some (sz, len, size) ∧ len ≤ size ∧ fz = (0, 0) ∧ 0 < sz

def OR (j : Inj) (k : Blk) : AObj → Obj → Prop
  | .cells cs tag, .cells c _ fz => tagOk k tag cs.length c.size fz ∧ ∀ (i : Nat) (v : Value), cs[i]? = some v → ∃ v', c[i]? = some v' ∧ VR j v v'
  | .map es, .map entries _ => ER j es entries.toList
  | .loop r, .loop r' => r.state = r'.state ∧ r.pending = r'.pending ∧ r.params = r'.params ∧ r.assign = r'.assign ∧ r.body = r'.body ∧ TR r.n j r.tmps r'.tmps
  | _, _ => False

theorem OR.mono {j j' : Inj} (hj : j.le j') {k : Blk} {o : AObj} {o' : Obj} (h : OR j k o o') : OR j' k o o' := by
  cases o with
  | cells cs tag =>
    cases o' with
    | cells c e fz => exact ⟨h.1, fun i v hi => let ⟨v', a, b⟩ := h.2 i v hi; ⟨v', a, b.mono hj⟩⟩
    | _ => exact h.elim
  | map es =>
    cases o' with
    | map c e => exact ER.mono hj h
    | _ => exact h.elim
  | loop r =>
    cases o' with
    | loop c => exact ⟨h.1, h.2.1, h.2.2.1, h.2.2.2.1, h.2.2.2.2.1, h.2.2.2.2.2.mono hj⟩
    | _ => exact h.elim

/-! ### Memory -/
structure MR (E : Env) (j : Inj) (m : AMem) (w : World) : Prop where
  lt : ∀ b k, j b = some k → b < m.next ∧ k.c < w.heap.size
  obj : ∀ b o k, m.get b = some o → j b = some k → ∃ o', w.heap[k.c]? = some o' ∧ OR j k o o'
  inj : ∀ b b' k k', j b = some k → j b' = some k' → (m.get b).isSome = true → (m.get b').isSome = true → k.c = k'.c → b = b'
  glob : ∀ g, g < E.glob → j g = some ⟨g, none⟩

/-- What a step has done: the abstract memory alone. -/
structure AExt (m m' : AMem) : Prop where
  next : m.next ≤ m'.next
  wl : m'.wl ≤ m.wl
  same : ∀ b, b < m.next → b < m'.wl → m'.get b = m.get b
  dead : ∀ b, b < m.next → m.get b = none → m'.get b = none

theorem AExt.refl (m : AMem) : AExt m m := ⟨Nat.le_refl _, Nat.le_refl _, fun _ _ _ => rfl, fun _ _ h => h⟩
theorem AExt.trans {a b c : AMem} (h : AExt a b) (h' : AExt b c) : AExt a c :=
  ⟨Nat.le_trans h.next h'.next, Nat.le_trans h'.wl h.wl,
   fun x hx hw => (h'.same x (Nat.lt_of_lt_of_le hx h.next) hw).trans (h.same x hx (Nat.lt_of_lt_of_le hw h'.wl)),
   fun x hx hn => h'.dead x (Nat.lt_of_lt_of_le hx h.next) (h.dead x hx hn)⟩

/-- What a step has done, in both. -/
structure Sim (E : Env) (j : Inj) (m : AMem) (w : World) (j' : Inj) (m' : AMem) (w' : World) : Prop where
  ext : AExt m m'
  le : j.le j'
  new : ∀ b k, j' b = some k → j b = none → m.next ≤ b
  mr : MR E j' m' w'
  size : w.heap.size ≤ w'.heap.size
  /-- what has been made and lives is placed -/
  full : ∀ b, m.next ≤ b → b < m'.next → (m'.get b).isSome = true → ∃ k, j' b = some k
  /-- blocks that are not placed are not touched -/
  away : ∀ b, b < m.next → j b = none → m'.get b = m.get b
  /-- what is newly placed lies in a new block, or in that of one that has been given up -/
  fresh : ∀ b k, j' b = some k → j b = none → w.heap.size ≤ k.c ∨ ∃ b0 k0, j b0 = some k0 ∧ (m.get b0).isSome = true ∧ k0.c = k.c ∧ m'.wl ≤ b0
  /-- what stands for no block that was written lies as it lay -/
  frame : ∀ c, c < w.heap.size → (∀ b k, j b = some k → (m.get b).isSome = true → k.c = c → b < m'.wl) → w'.heap[c]? = w.heap[c]?
  /-- the system and what is printed stay -/
  calm : w'.os = w.os ∧ w'.output = w.output

theorem Sim.refl {E : Env} {j : Inj} {m : AMem} {w : World} (h : MR E j m w) : Sim E j m w j m w where
  ext := .refl m
  le := .refl j
  new := fun b k h h' => by simp [h'] at h
  mr := h
  size := Nat.le_refl _
  full := fun b h h' _ => absurd h (by omega)
  away := fun _ _ _ => rfl
  fresh := fun b k h h' => by simp [h'] at h
  frame := fun _ _ _ => rfl
  calm := ⟨rfl, rfl⟩

theorem Sim.trans {E : Env} {j j1 j2 : Inj} {m m1 m2 : AMem} {w w1 w2 : World} (h0 : MR E j m w) (h : Sim E j m w j1 m1 w1) (h' : Sim E j1 m1 w1 j2 m2 w2) : Sim E j m w j2 m2 w2 where
  ext := h.ext.trans h'.ext
  le := h.le.trans h'.le
  mr := h'.mr
  calm := ⟨h'.calm.1.trans h.calm.1, h'.calm.2.trans h.calm.2⟩
  size := Nat.le_trans h.size h'.size
  full := by
    intro b hb hb' hl
    rcases Nat.lt_or_ge b m1.next with hlt | hge
    · have hl1 : (m1.get b).isSome = true := by
        cases hm : m1.get b with
        | some o => rfl
        | none => rw [h'.ext.dead b hlt hm] at hl; cases hl
      obtain ⟨k, hk⟩ := h.full b hb hlt hl1
      exact ⟨k, h'.le b k hk⟩
    · exact h'.full b hge hb' hl
  new := by
    intro b k hk hn
    cases h1 : j1 b with
    | none => exact Nat.le_trans h.ext.next (h'.new b k hk h1)
    | some k1 => exact h.new b k1 h1 hn
  away := by
    intro b hb hn
    have h1 : j1 b = none := by
      cases h1 : j1 b with
      | none => rfl
      | some k1 => exact absurd (h.new b k1 h1 hn) (by omega)
    exact (h'.away b (Nat.lt_of_lt_of_le hb h.ext.next) h1).trans (h.away b hb hn)
  fresh := by
    intro b k hk hn
    cases h1 : j1 b with
    | some k1 =>
      have := h'.le b k1 h1
      rw [hk] at this; cases this
      rcases h.fresh b k h1 hn with hf | ⟨b0, k0, a1, a2, a3, a4⟩
      · exact .inl hf
      · exact .inr ⟨b0, k0, a1, a2, a3, Nat.le_trans h'.ext.wl a4⟩
    | none =>
      rcases h'.fresh b k hk h1 with hf | ⟨b0, k0, a1, a2, a3, a4⟩
      · exact .inl (Nat.le_trans h.size hf)
      · cases hj0 : j b0 with
        | some k0' =>
          have e := h.le b0 k0' hj0
          rw [a1] at e; cases e
          refine .inr ⟨b0, k0, hj0, ?_, a3, a4⟩
          cases hm : m.get b0 with
          | some o => rfl
          | none => rw [h.ext.dead b0 (h0.lt b0 k0 hj0).1 hm] at a2; cases a2
        | none =>
          rcases h.fresh b0 k0 a1 hj0 with hf | ⟨b1, k1, c1, c2, c3, c4⟩
          · exact .inl (a3 ▸ hf)
          · exact .inr ⟨b1, k1, c1, c2, c3.trans a3, Nat.le_trans h'.ext.wl c4⟩
  frame := by
    intro c hc H
    have s1 : w1.heap[c]? = w.heap[c]? := h.frame c hc fun b k hb hl he => Nat.lt_of_lt_of_le (H b k hb hl he) h'.ext.wl
    refine (h'.frame c (Nat.lt_of_lt_of_le hc h.size) ?_).trans s1
    intro b k hb hl he
    cases hj : j b with
    | some k' =>
      have e := h.le b k' hj
      rw [hb] at e; cases e
      refine H b k hj ?_ he
      cases hm : m.get b with
      | some o => rfl
      | none => rw [h.ext.dead b (h0.lt b k hj).1 hm] at hl; cases hl
    | none =>
      rcases h.fresh b k hb hj with hf | ⟨b1, k1, c1, c2, c3, c4⟩
      · omega
      · have := H b1 k1 c1 c2 (c3.trans he)
        have := h'.ext.wl
        omega

end Go.Ab
