/-
  The abstract machine: slices of known elements; memory that only grew.
-/
import Derived.Test.YtpclggcpobakhaaDoorAbsRules
namespace Go.Ab
open Go

/-- Nothing old is written; blocks were added. -/
structure Ext (m m' : AMem) : Prop where
  next : m.next ≤ m'.next
  same : ∀ b, b < m.next → m'.get b = m.get b
  wl : min m.wl m.next ≤ m'.wl

theorem Ext.refl (m : AMem) : Ext m m := ⟨Nat.le_refl _, fun _ _ => rfl, Nat.min_le_left _ _⟩
theorem Ext.trans {a b c : AMem} (h : Ext a b) (h' : Ext b c) : Ext a c :=
  ⟨Nat.le_trans h.next h'.next, fun x hx => (h'.same x (Nat.lt_of_lt_of_le hx h.next)).trans (h.same x hx), by
    have h1 := h.wl; have h2 := h'.wl; have h3 := h.next; omega⟩
theorem Ext.alloc {m m' : AMem} (h : Ext m m') (o : AObj) : Ext m (m'.alloc o) :=
  ⟨Nat.le_succ_of_le h.next, fun b hb => by
    rw [AMem.get_alloc, if_neg (by have := h.next; omega)]; exact h.same b hb, h.wl⟩
theorem Ext.set {m m' : AMem} (h : Ext m m') {b : Nat} (hb : m.next ≤ b) (o : AObj) : Ext m (m'.set b o) :=
  ⟨h.next, fun x hx => by rw [AMem.get_set, if_neg (by omega)]; exact h.same x hx, by
    show min m.wl m.next ≤ min m'.wl b
    have := h.wl; omega⟩
theorem Ext.of_wl {m m' : AMem} {x : Nat} (h : Ext { m with wl := x } m') (hx : m.next ≤ x) : Ext m { m' with wl := min m.wl m'.wl } :=
  ⟨h.next, h.same, by
    have h1 : min x m.next ≤ m'.wl := h.wl
    show min m.wl m.next ≤ min m.wl m'.wl
    omega⟩

/-- A slice of elements of w cells each. -/
inductive SlA (m : AMem) (w : Nat) : Value → List (List Value) → Prop
  | nil : SlA m w (.slice none 0 0) []
  | at {b o cap : Nat} {cs : List Value} {tag : Tag} {xs : List (List Value)} (hb : b < m.next) (hg : m.get b = some (.cells cs tag)) (hc : xs.length ≤ cap) (hx : ∀ i x, xs[i]? = some x → (cs.drop (o + i * w)).take w = x ∧ x.length = w) :
      SlA m w (.slice (some ⟨b, o, none⟩) xs.length cap) xs

theorem SlA.mono {m m' : AMem} (h : Ext m m') {w : Nat} {sl : Value} {xs : List (List Value)} (hs : SlA m w sl xs) : SlA m' w sl xs := by
  cases hs with
  | nil => exact .nil
  | «at» hb hg hc hx => exact .at (Nat.lt_of_lt_of_le hb h.next) (by rw [h.same _ hb]; exact hg) hc hx

theorem SlA.len {E : Env} {m : AMem} {w : Nat} {sl : Value} {xs : List (List Value)} (hs : SlA m w sl xs) {ty e : TypeId} {P : Program} (hu : P.underlying ty = some (.slice e)) : builtinA P .len #[ty] [sl] m = some (.int .i64 (xs.length : Nat), m) := by
  have ht : (#[ty] : Array TypeId)[0]? = some ty := rfl
  cases hs with
  | nil => simp only [builtinA, ht, Option.bind_some, hu]; rfl
  | «at» hb hg hc hx => simp only [builtinA, ht, Option.bind_some, hu]

/-- One element, read. -/
theorem SlA.elem {m : AMem} {w : Nat} {sl : Value} {xs : List (List Value)} (hs : SlA m w sl xs) {ty e : TypeId} {P : Program} (hu : P.underlying ty = some (.slice e)) (hk : known P e = true) (hw : sizeA P e = w) (ha : isAggA P e = true) {i : Nat} {x : List Value} (hi : xs[i]? = some x) (kd : IntKind) :
    ∃ p, indexAddrA P ty sl (.int kd (i : Int)) = some p ∧ (∃ b o, p = ptr b o ∧ b < m.next) ∧ loadA P e p m = some (.agg x.toArray) := by
  cases hs with
  | nil => simp at hi
  | «at» hb hg hc hx =>
    rename_i b o cap cs tag
    have hlt : i < xs.length := (List.getElem?_eq_some_iff.1 hi).1
    obtain ⟨h1, h2⟩ := hx i x hi
    refine ⟨ptr b (o + i * w), ?_, ⟨b, _, rfl, hb⟩, ?_⟩
    · have hd : decide ((0 : Int) ≤ (i : Int) ∧ (i : Int) < (xs.length : Nat)) = true := by simp; omega
      simp only [indexAddrA, hu, hk, hd, Bool.and_self, if_true, hw, Int.toNat_natCast]
    · simp only [loadA, ptr, hk, Bool.not_true, Bool.false_eq_true, if_false, ha, if_true, AMem.loadN, hg, hw, h1]
      rw [if_pos h2]; rfl
theorem SlA.elem1 {m : AMem} {sl : Value} {xs : List (List Value)} (hs : SlA m 1 sl xs) {ty e : TypeId} {P : Program} (hu : P.underlying ty = some (.slice e)) (hk : known P e = true) (hw : sizeA P e = 1) (ha : isAggA P e = false) {i : Nat} {v : Value} (hi : xs[i]? = some [v]) (kd : IntKind) :
    ∃ p, indexAddrA P ty sl (.int kd (i : Int)) = some p ∧ (∃ b o, p = ptr b o ∧ b < m.next) ∧ loadA P e p m = some v := by
  cases hs with
  | nil => simp at hi
  | «at» hb hg hc hx =>
    rename_i b o cap cs tag
    have hlt : i < xs.length := (List.getElem?_eq_some_iff.1 hi).1
    obtain ⟨h1, h2⟩ := hx i [v] hi
    refine ⟨ptr b (o + i * 1), ?_, ⟨b, _, rfl, hb⟩, ?_⟩
    · have hd : decide ((0 : Int) ≤ (i : Int) ∧ (i : Int) < (xs.length : Nat)) = true := by simp; omega
      simp only [indexAddrA, hu, hk, hd, Bool.and_self, if_true, hw, Int.toNat_natCast]
    · simp only [loadA, ptr, hk, Bool.not_true, Bool.false_eq_true, if_false, ha, hg]
      have := congrArg (·[0]?) h1
      simpa [List.getElem?_take, List.getElem?_drop] using this
end Go.Ab
