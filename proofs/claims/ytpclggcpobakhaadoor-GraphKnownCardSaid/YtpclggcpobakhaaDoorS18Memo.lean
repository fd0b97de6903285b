/-
  Chapter 18: calls on the row of 64 nodes, evaluated once.
-/
import Derived.Test.YtpclggcpobakhaaDoorS18Known
import Derived.Test.YtpclggcpobakhaaDoorAbsMemo
namespace Go.Proofs.YtpclggcpobakhaaDoor
open Go Go.Ab
set_option maxRecDepth 100000

def ints (l : List Int) : List Value := l.map (.int .i64)
def eqI : List Value → List Int → Bool
  | [], [] => true
  | .int .i64 n :: vs, k :: ks => n == k && eqI vs ks
  | _, _ => false
theorem eqI_true : ∀ {vs : List Value} {ks : List Int}, eqI vs ks = true → vs = ints ks
  | [], [], _ => rfl
  | [], _ :: _, h => by cases h
  | v :: vs, [], h => by simp [eqI] at h
  | v :: vs, k :: ks, h => by
    unfold eqI at h
    split at h
    · rename_i e _; cases e
    · rename_i n vs' k' ks' e1 e2
      cases e1; cases e2
      simp only [Bool.and_eq_true, beq_iff_eq] at h
      rw [h.1, eqI_true h.2]; rfl
    · cases h
def rowI : List Int := (List.range 63).flatMap fun (k : Nat) => [(k : Int), ((k + 1 : Nat) : Int)]
def rowV (b : Nat) : Value := .agg #[.int .i64 64, .slice (some ⟨b, 0, none⟩) 63 63]
theorem rowV_leads : Leads2 rowV := .agg2 (.plain rfl) (.slice 0 63 63)
def rowM : AMem := memo0 1 tab18 (ints rowI) (.more 2)
def upI : List Int := (List.range 64).map fun (k : Nat) => (k : Int)

/-- An answer of a list and an error. -/
def isListK (want : List Int) (tag : Tag) (n : Nat) (g : Nat) (v : Value) (m : AMem) : Bool :=
  match v with
  | .tuple ⟨[.slice (some ⟨b, 0, none⟩) l c, .int .i64 (.ofNat 0)]⟩ => Nat.beq l n && Nat.beq c n && Nat.ble g b && Nat.blt b m.next && Nat.ble g m.wl && (match m.get b with
    | some (.cells cs t) => decide (t = tag) && eqI cs want
    | _ => false)
  | _ => false
theorem isListK_true {want : List Int} {tag : Tag} {n g : Nat} {v : Value} {m : AMem} (h : isListK want tag n g v m = true) : ∃ b, v = .tuple #[.slice (some ⟨b, 0, none⟩) n n, .int .i64 0] ∧ g ≤ b ∧ b < m.next ∧ g ≤ m.wl ∧ m.get b = some (.cells (ints want) tag) := by
  unfold isListK at h
  split at h
  · rename_i b l c
    simp only [Bool.and_eq_true, Nat.blt_eq] at h
    obtain ⟨⟨⟨⟨⟨h1, h2⟩, h3⟩, h4⟩, h5⟩, h6⟩ := h
    have e1 := Nat.eq_of_beq_eq_true h1
    have e2 := Nat.eq_of_beq_eq_true h2
    subst e1 e2
    split at h6
    · rename_i cs t hg
      simp only [Bool.and_eq_true, decide_eq_true_eq] at h6
      exact ⟨b, rfl, Nat.le_of_ble_eq_true h3, h4, Nat.le_of_ble_eq_true h5, by rw [hg, eqI_true h6.2, h6.1]⟩
    · cases h6
  · cases h
/-- An answer that is a plain value. -/
def isPlainK (same : Value → Bool) (g : Nat) (v : Value) (m : AMem) : Bool := same v && Nat.ble g m.wl
theorem ints_plain (l : List Int) : (ints l).all plain1 = true := by
  unfold ints
  rw [List.all_map]
  exact List.all_eq_true.2 fun x _ => rfl
theorem tab18_plain : ∀ x c, tab18 x = some c → c.all plain1 = true := by
  intro x c h
  unfold tab18 at h
  split at h
  · cases h
    rw [List.all_map]
    exact List.all_eq_true.2 fun x _ => rfl
  · cases h
def rowAt (m : AMem) (b : Nat) : Bool :=
  match m.get b with
  | some (.cells cs (.more 2)) => eqI cs rowI
  | _ => false
theorem rowAt_true {m : AMem} {b : Nat} (h : rowAt m b = true) : m.get b = some (.cells (ints rowI) (.more 2)) := by
  unfold rowAt at h
  split at h
  · rename_i cs hg; rw [hg, eqI_true h]
  · cases h
/-- The row as an argument: its block. -/
def rowArg (m : AMem) (v : Value) : Option Nat :=
  match v with
  | .agg ⟨[.int .i64 (.ofNat n), .slice (some ⟨b, 0, none⟩) l c]⟩ => if Nat.beq n 64 && Nat.beq l 63 && Nat.beq c 63 && tabAt m && Nat.ble 1 b && rowAt m b then some b else none
  | _ => none
theorem rowArg_true {m : AMem} {v : Value} {b : Nat} (h : rowArg m v = some b) : v = rowV b ∧ 1 ≤ b ∧ m.get b = some (.cells (ints rowI) (.more 2)) ∧ (∀ x c, x < 1 → tab18 x = some c → m.get x = some (.cells c .ro)) := by
  unfold rowArg at h
  split at h
  · rename_i n b' l c
    split at h
    · rename_i hc
      cases h
      simp only [Bool.and_eq_true] at hc
      obtain ⟨⟨⟨⟨⟨h1, h2⟩, h3⟩, h4⟩, h5⟩, h6⟩ := hc
      have e1 := Nat.eq_of_beq_eq_true h1
      have e2 := Nat.eq_of_beq_eq_true h2
      have e3 := Nat.eq_of_beq_eq_true h3
      subst e1 e2 e3
      refine ⟨rfl, Nat.le_of_ble_eq_true h5, rowAt_true h6, fun x c hx hg => ?_⟩
      have : x = 0 := by omega
      subst this
      simp only [tab18, if_true, Option.some.injEq] at hg
      rw [← hg]
      exact tabAt_true h4
    · cases h
  · cases h
def allW : Nat := 18446744073709551615

theorem listMemo {f : FuncId} {A : Nat → List Value} (hA : Leads2L A) {want : List Int} {n : Nat} {tag : Tag} (h : (hand E18p fast18 1000).call f (A 1) rowM (isListK want tag n 2) = true) {m : AMem} {b : Nat} (hb : 1 ≤ b) (hm : m.get b = some (.cells (ints rowI) (.more 2))) (hgs : ∀ x c, x < 1 → tab18 x = some c → m.get x = some (.cells c .ro)) :
    ∀ (j : Inj) (w : World) (args' : List Value), MR E18p j m w → LR j (A b) args' → CallOk E18p.P (E18p.prim f).isSome f args'.toArray w (ValQ E18p j m w (.tuple #[.slice (some ⟨m.next, 0, none⟩) n n, .int .i64 0]) (m.alloc (.cells (ints want) tag))) := by
  intro j w args' hmr hl
  obtain ⟨fuel, v0, m0, hrun, hk⟩ := call_of_fast fast18_ok h
  obtain ⟨b1, e, h1, h2, h3, h4⟩ := isListK_true hk
  refine memo_callOk (E := E18p) E18p_ok hA (gs := tab18) (cs := ints rowI) (tag := .more 2) (ints_plain _) tab18_plain (v0 := v0) (m0 := m0) hrun h3 hmr hb hm hgs hl ?_
  exact .inr ⟨fun b => .tuple #[.slice (some ⟨b, 0, none⟩) n n, .int .i64 0], b1, _, _, .tuple2 (.slice 0 n n) (.plain rfl), e, rfl, h1, h2, h4, ints_plain _, rfl⟩
theorem plainMemo {f : FuncId} {A : Nat → List Value} (hA : Leads2L A) {v : Value} (hv : plainV v = true) {same : Value → Bool} (hsame : ∀ x, same x = true → x = v) (h : (hand E18p fast18 1000).call f (A 1) rowM (isPlainK same 2) = true) {m : AMem} {b : Nat} (hb : 1 ≤ b) (hm : m.get b = some (.cells (ints rowI) (.more 2))) (hgs : ∀ x c, x < 1 → tab18 x = some c → m.get x = some (.cells c .ro)) :
    ∀ (j : Inj) (w : World) (args' : List Value), MR E18p j m w → LR j (A b) args' → CallOk E18p.P (E18p.prim f).isSome f args'.toArray w (ValQ E18p j m w v m) := by
  intro j w args' hmr hl
  obtain ⟨fuel, v0, m0, hrun, hk⟩ := call_of_fast fast18_ok h
  simp only [isPlainK, Bool.and_eq_true] at hk
  have e := hsame _ hk.1
  subst e
  exact memo_callOk (E := E18p) E18p_ok hA (gs := tab18) (cs := ints rowI) (tag := .more 2) (ints_plain _) tab18_plain (v0 := v0) (m0 := m0) hrun (Nat.le_of_ble_eq_true hk.2) hmr hb hm hgs hl (.inl ⟨hv, rfl, rfl⟩)

/-! ### The calls -/
def A20 (b : Nat) : List Value := [rowV b, .int .u64 18446744073709551615, .int .i64 0]
def A18 (b : Nat) : List Value := [rowV b, .int .u64 18446744073709551615]
def A25 (b : Nat) : List Value := [rowV b, .int .u64 6148914691236517205]
theorem A20_leads : Leads2L A20 := .cons rowV_leads (.cons (.plain rfl) (.cons (.plain rfl) .nil))
theorem A18_leads : Leads2L A18 := .cons rowV_leads (.cons (.plain rfl) .nil)
theorem A25_leads : Leads2L A25 := .cons rowV_leads (.cons (.plain rfl) .nil)
def isInt (n : Int) (v : Value) : Bool :=
  match v with
  | .int .i64 k => k == n
  | _ => false
theorem isInt_true {n : Int} : ∀ x, isInt n x = true → x = .int .i64 n := by
  intro x h
  unfold isInt at h
  split at h
  · rw [beq_iff_eq.1 h]
  · cases h
def isWord (n : Int) (v : Value) : Bool :=
  match v with
  | .tuple ⟨[.int .u64 k, .int .i64 e]⟩ => k == n && e == 0
  | _ => false
theorem isWord_true {n : Int} : ∀ x, isWord n x = true → x = .tuple #[.int .u64 n, .int .i64 0] := by
  intro x h
  unfold isWord at h
  split at h
  · simp only [Bool.and_eq_true, beq_iff_eq] at h
    rw [h.1, h.2]
  · cases h
end Go.Proofs.YtpclggcpobakhaaDoor
