/- Texts of the abstract machine and of the walks, joined: T30P T30S T30Q1 T30Q2 T30Q3 T30Q4 T30Q5 T30Q6 T30Q7 T30Q8. -/
import Derived.Test.YtookeaakpiefjaaGreatDoorTp6
section
namespace Go.Proofs.YtookeaakpiefjaaGreatDoor
open Go Go.Ab Go.Ab.W
section
variable {α β σ ρ : Type}
theorem br_t (a b : Option β) : br true a b = a := rfl
theorem br_f (a b : Option β) : br false a b = b := rfl
theorem gd_t (a : Option β) : gd true a = a := rfl
theorem ob_s (x : α) (f : α → Option β) : ob (some x) f = f x := rfl
theorem br_dt {p : Prop} [Decidable p] (h : p) (a b : Option β) : br (decide p) a b = a := by rw [decide_eq_true h]; rfl
theorem br_df {p : Prop} [Decidable p] (h : ¬ p) (a b : Option β) : br (decide p) a b = b := by rw [decide_eq_false h]; rfl
theorem br_ite (c : Bool) (a b : Option β) : br c a b = if c then a else b := by cases c <;> rfl
theorem gd_dt {p : Prop} [Decidable p] (h : p) (a : Option β) : gd (decide p) a = a := by rw [decide_eq_true h]; rfl
theorem inB_nat {i n : Nat} (h : i < n) : inB (i : Int) n = true := decide_eq_true ⟨Int.natCast_nonneg i, by simpa using h⟩
theorem wrap_in {x : Int} (h1 : -9223372036854775808 ≤ x) (h2 : x < 9223372036854775808) : IntKind.wrap .i64 x = x := wrap_i64 x h1 (by omega)
theorem wrap_succ {i : Nat} (h : i < 4611686018427387904) : IntKind.wrap .i64 ((i : Int) + 1) = ((i + 1 : Nat) : Int) := by rw [wrap_in (by omega) (by omega)]; rfl
theorem lp_next {body : σ → Option (σ ⊕ ρ)} {n : Nat} {s s' : σ} (h : body s = some (.inl s')) : lpN body (n + 1) s = lpN body n s' := by simp only [lpN, h]
theorem lp_end {body : σ → Option (σ ⊕ ρ)} {n : Nat} {s : σ} {r : ρ} (h : body s = some (.inr r)) : lpN body (n + 1) s = some r := by simp only [lpN, h]
end
def okEp (N : Int) : Int × Int → List (Int × Int) → Bool
 | _, [] => true
 | p, e :: es => decide (0 ≤ e.1 ∧ e.1 < e.2 ∧ e.2 < N) && decide (p.1 < e.1 ∨ p.1 = e.1 ∧ p.2 < e.2) && okEp N e es
def okG (N : Int) (es : List (Int × Int)) : Bool := decide (1 ≤ N ∧ N ≤ 64 ∧ es.length ≤ 200) && okEp N (-1, -1) es
def ckG (N : Int) (es : List (Int × Int)) : Int := if okG N es then 0 else 180
theorem F168_eq (n : Nat) (x : Int) : F168 n x = some false := by unfold F168; simp
theorem F154_eq (n : Nat) (x y : Int) : F154 n x y = some (if x < y then -1 else if y < x then 1 else 0) := by
 unfold F154
 simp only [F168_eq, ob_s, br_f]
 rw [br_ite, br_ite]
 by_cases h : x < y
 ·simp [h]
 ·by_cases h' : y < x <;> simp [h, h']
theorem F140_eq (n : Nat) (a b c d : Int) (hn : 2 < n) : F140 n [a, b] [c, d] = some (if a < c then -1 else if c < a then 1 else if b < d then -1 else if d < b then 1 else 0) := by
 obtain ⟨n, rfl⟩ : ∃ n', n = n' + 3 := ⟨n - 3, by omega⟩
 have L0 : L140_1 (n + 3) [a, b] [c, d] 0 = if a < c then some (.inr (.inl (-1))) else if c < a then some (.inr (.inl 1)) else some (.inl 1) := by
  unfold L140_1
  simp only [List.length_cons, List.length_nil]
  rw [br_dt (by decide), show inB 0 (0 + 1 + 1) = true by decide, gd_t]
  simp only [Int.toNat_zero, List.getElem?_cons_zero, ob_s]
  rw [br_df (by decide), gd_t]
  simp only [F154_eq, ob_s]
  by_cases h : a < c
  ·simp [h, br_t]
  ·by_cases h' : c < a
   ·simp [h, h', br_t]
   ·simp only [h, h', if_false, decide_true, Bool.not_true, br_f]
    rw [wrap_in (by decide) (by decide)]; rfl
 have L1 : L140_1 (n + 3) [a, b] [c, d] 1 = if b < d then some (.inr (.inl (-1))) else if d < b then some (.inr (.inl 1)) else some (.inl 2) := by
  unfold L140_1
  simp only [List.length_cons, List.length_nil]
  rw [br_dt (by decide), show inB 1 (0 + 1 + 1) = true by decide, gd_t]
  simp only [show (1 : Int).toNat = 1 from rfl, List.getElem?_cons_succ, List.getElem?_cons_zero, ob_s]
  rw [br_df (by decide), gd_t]
  simp only [F154_eq, ob_s]
  by_cases h : b < d
  ·simp [h, br_t]
  ·by_cases h' : d < b
   ·simp [h, h', br_t]
   ·simp only [h, h', if_false, decide_true, Bool.not_true, br_f]
    rw [wrap_in (by decide) (by decide)]; rfl
 have L2 : L140_1 (n + 3) [a, b] [c, d] 2 = some (.inr (.inr ())) := by
  unfold L140_1
  simp only [List.length_cons, List.length_nil]
  rw [br_df (by decide)]
 unfold F140
 by_cases h1 : a < c
 ·rw [if_pos h1] at L0 ⊢
  rw [lp_end L0]; rfl
 ·rw [if_neg h1] at L0 ⊢
  by_cases h2 : c < a
  ·rw [if_pos h2] at L0 ⊢
   rw [lp_end L0]; rfl
  ·rw [if_neg h2] at L0 ⊢
   rw [lp_next L0]
   by_cases h3 : b < d
   ·rw [if_pos h3] at L1 ⊢
    rw [lp_end L1]; rfl
   ·rw [if_neg h3] at L1 ⊢
    by_cases h4 : d < b
    ·rw [if_pos h4] at L1 ⊢
     rw [lp_end L1]; rfl
    ·rw [if_neg h4] at L1 ⊢
     rw [lp_next L1, lp_end L2, ob_s]
     simp only [List.length_cons, List.length_nil]
     rfl
def stepOk (N : Int) (p e : Int × Int) : Bool := decide (0 ≤ e.1 ∧ e.1 < e.2 ∧ e.2 < N) && decide (p.1 < e.1 ∨ p.1 = e.1 ∧ p.2 < e.2)
theorem okE_cons (N : Int) (p e : Int × Int) (es : List (Int × Int)) : okEp N p (e :: es) = (stepOk N p e && okEp N e es) := rfl
theorem L107_step (n : Nat) (l2 : List (Int × Int)) (N : Int) (p : Int × Int) (i : Nat) (e : Int × Int) (hn : 2 < n) (hi : l2[i]? = some e) (hb : i < 4611686018427387904) :
  L107_1 n l2 N (p.1, p.2, (i : Int)) = if stepOk N p e then some (.inl (e.1, e.2, ((i + 1 : Nat) : Int))) else some (.inr (.inl ())) := by
 obtain ⟨p1, p2⟩ := p
 obtain ⟨a, b⟩ := e
 have a1 : i < l2.length := (List.getElem?_eq_some_iff.1 hi).1
 have e1 : l2[((i : Nat) : Int).toNat]? = some (a, b) := by simpa using hi
 have c1 : decide (((i : Nat) : Int) < (l2.length : Int)) = true := decide_eq_true (by omega)
 simp only [L107_1, c1, br_t, inB_nat a1, gd_t, e1, ob_s, F140_eq n _ _ _ _ hn, wrap_succ hb]
 by_cases h1 : a < 0
 ·have : stepOk N (p1, p2) (a, b) = false := by simp [stepOk]; omega
  rw [this, br_dt h1, ob_s, br_t]; rfl
 ·rw [br_df h1]
  by_cases h2 : b ≤ a
  ·have : stepOk N (p1, p2) (a, b) = false := by simp [stepOk]; omega
   rw [this, br_dt h2, ob_s, br_t]; rfl
  ·rw [br_df h2]
   by_cases h3 : N ≤ b
   ·have : stepOk N (p1, p2) (a, b) = false := by simp [stepOk]; omega
    rw [this, br_dt h3, ob_s, br_t]; rfl
   ·rw [br_df h3, ob_s]
    by_cases h4 : p1 < a ∨ p1 = a ∧ p2 < b
    ·have : stepOk N (p1, p2) (a, b) = true := by simp [stepOk]; omega
     have h5 : ¬ (0 ≤ (if p1 < a then (-1 : Int) else if a < p1 then 1 else if p2 < b then -1 else if b < p2 then 1 else 0)) := by
      rcases h4 with h4 | ⟨h4, h5⟩
      ·rw [if_pos h4]; decide
      ·rw [if_neg (by omega), if_neg (by omega), if_pos h5]; decide
     rw [this, br_df h5]; rfl
    ·have : stepOk N (p1, p2) (a, b) = false := by simp [stepOk]; omega
     have h5 : 0 ≤ (if p1 < a then (-1 : Int) else if a < p1 then 1 else if p2 < b then -1 else if b < p2 then 1 else 0) := by
      rw [if_neg (by omega)]
      by_cases h6 : a < p1
      ·rw [if_pos h6]; decide
      ·rw [if_neg h6, if_neg (by omega)]; split <;> decide
     rw [this, br_dt h5]; rfl
theorem L107_eq (n0 : Nat) (l2 : List (Int × Int)) (N : Int) (hn : 2 < n0) (hl : l2.length < 4611686018427387904) : ∀ k i p n, i + k = l2.length → k < n → lpN (L107_1 n0 l2 N) n (p.1, p.2, (i : Int)) = some (if okEp N p (l2.drop i) then .inr () else .inl ()) := by
 intro k
 induction k with
 | zero =>
  intro i p n hi hk
  obtain ⟨n, rfl⟩ : ∃ n', n = n' + 1 := ⟨n - 1, by omega⟩
  rw [List.drop_of_length_le (by omega)]
  exact lp_end (by simp only [L107_1]; rw [br_df (by omega)]; rfl)
 | succ k ih =>
  intro i p n hi hk
  obtain ⟨n, rfl⟩ : ∃ n', n = n' + 1 := ⟨n - 1, by omega⟩
  have a1 : i < l2.length := by omega
  have hs := L107_step n0 l2 N p i l2[i] hn (by simp [a1]) (by omega)
  rw [List.drop_eq_getElem_cons a1, okE_cons]
  by_cases h : stepOk N p l2[i] = true
  ·rw [if_pos h] at hs
   rw [lp_next hs, ih (i + 1) l2[i] n (by omega) (by omega), h, Bool.true_and]
  ·rw [if_neg h] at hs
   rw [lp_end hs]
   simp only [Bool.not_eq_true] at h
   rw [h]; rfl
theorem head_eq (N : Int) (len : Nat) : (br (decide (N < 1)) (some true) (br (decide (64 < N)) (some true) (some (decide (200 < (len : Int)))))) = some (!decide (1 ≤ N ∧ N ≤ 64 ∧ len ≤ 200)) := by
 rw [br_ite, br_ite]
 by_cases h1 : N < 1
 ·have : ¬ (1 ≤ N ∧ N ≤ 64 ∧ len ≤ 200) := by omega
  simp [h1, this]
 ·by_cases h2 : 64 < N
  ·have : ¬ (1 ≤ N ∧ N ≤ 64 ∧ len ≤ 200) := by omega
   simp [h1, h2, this]
  ·by_cases h3 : 200 < (len : Int)
   ·have : ¬ (1 ≤ N ∧ N ≤ 64 ∧ len ≤ 200) := by omega
    simp only [h1, h2, h3, this, decide_true, decide_false, Bool.false_eq_true, if_false, Bool.not_false]
   ·have : (1 ≤ N ∧ N ≤ 64 ∧ len ≤ 200) := by omega
    simp only [h1, h2, h3, this, decide_true, decide_false, Bool.false_eq_true, if_false, Bool.not_true, and_self]
theorem F107_eq (n : Nat) (N : Int) (es : List (Int × Int)) (hn : 2 < n) (hl : es.length < 4611686018427387904) (hk : es.length < n) : F107 n N es = some (ckG N es) := by
 unfold F107
 rw [head_eq, ob_s]
 unfold ckG okG
 by_cases h : 1 ≤ N ∧ N ≤ 64 ∧ es.length ≤ 200
 ·rw [decide_eq_true h, Bool.not_true, br_f, Bool.true_and]
  have := L107_eq n es N hn hl es.length 0 (-1, -1) n (by omega) hk
  rw [List.drop_zero] at this
  rw [show lpN (L107_1 n es N) n (-1, -1, 0) = _ from this, ob_s]
  by_cases h2 : okEp N (-1, -1) es = true
  ·rw [if_pos h2, if_pos h2]
  ·rw [if_neg h2, if_neg h2]
 ·rw [decide_eq_false h, Bool.not_false, br_t, Bool.false_and]; rfl
def prevOf (l : List (Int × Int)) (i : Nat) (p : Int × Int) : Prop := (i = 0 ∧ p = (-1, -1)) ∨ (0 < i ∧ l[i - 1]? = some p)
theorem L52_step (n : Nat) (l2 : List (Int × Int)) (N : Int) (p : Int × Int) (i : Nat) (e : Int × Int) (hp : prevOf l2 i p) (hi : l2[i]? = some e) (hb : i < 4611686018427387904) :
  L52_1 n l2 N (i : Int) = if stepOk N p e then some (.inl ((i + 1 : Nat) : Int)) else some (.inr (.inl ())) := by
 obtain ⟨p1, p2⟩ := p
 obtain ⟨a, b⟩ := e
 have a1 : i < l2.length := (List.getElem?_eq_some_iff.1 hi).1
 have e1 : l2[((i : Nat) : Int).toNat]? = some (a, b) := by simpa using hi
 have c1 : decide (((i : Nat) : Int) < (l2.length : Int)) = true := decide_eq_true (by omega)
 simp only [L52_1, c1, br_t, inB_nat a1, gd_t, e1, ob_s, wrap_succ hb]
 by_cases h1 : a < 0
 ·have : stepOk N (p1, p2) (a, b) = false := by simp [stepOk]; omega
  rw [this, br_dt h1, ob_s, br_t]; rfl
 ·rw [br_df h1]
  by_cases h2 : b ≤ a
  ·have : stepOk N (p1, p2) (a, b) = false := by simp [stepOk]; omega
   rw [this, br_dt h2, ob_s, br_t]; rfl
  ·rw [br_df h2, ob_s]
   by_cases h3 : N ≤ b
   ·have : stepOk N (p1, p2) (a, b) = false := by simp [stepOk]; omega
    rw [this, br_dt h3]; rfl
   ·rw [br_df h3]
    rcases hp with ⟨rfl, h4⟩ | ⟨h0, h4⟩
    ·cases h4
     have : stepOk N (-1, -1) (a, b) = true := by simp [stepOk]; omega
     rw [this, br_df (by omega), ob_s, br_f]; rfl
    ·have w1 : IntKind.wrap .i64 ((i : Int) - 1) = ((i - 1 : Nat) : Int) := by rw [wrap_in (by omega) (by omega)]; omega
     have e2 : l2[((i - 1 : Nat) : Int).toNat]? = some (p1, p2) := by simpa using h4
     rw [br_dt (by omega), w1, inB_nat (by omega : i - 1 < l2.length), gd_t, e2, ob_s]
     simp only [gd_t]
     by_cases h5 : a < p1
     ·have : stepOk N (p1, p2) (a, b) = false := by simp [stepOk]; omega
      rw [this, br_dt h5, ob_s, br_t]; rfl
     ·rw [br_df h5]
      by_cases h6 : p1 = a
      ·rw [br_dt h6, ob_s]
       by_cases h7 : b ≤ p2
       ·have : stepOk N (p1, p2) (a, b) = false := by simp [stepOk]; omega
        rw [this, br_dt h7]; rfl
       ·have : stepOk N (p1, p2) (a, b) = true := by simp [stepOk]; omega
        rw [this, br_df h7]; rfl
      ·have : stepOk N (p1, p2) (a, b) = true := by simp [stepOk]; omega
       rw [this, br_df h6, ob_s, br_f]; rfl
theorem L52_eq (n0 : Nat) (l2 : List (Int × Int)) (N : Int) (hl : l2.length < 4611686018427387904) : ∀ k i p n, prevOf l2 i p → i + k = l2.length → k < n → lpN (L52_1 n0 l2 N) n (i : Int) = some (if okEp N p (l2.drop i) then .inr () else .inl ()) := by
 intro k
 induction k with
 | zero =>
  intro i p n hp hi hk
  obtain ⟨n, rfl⟩ : ∃ n', n = n' + 1 := ⟨n - 1, by omega⟩
  rw [List.drop_of_length_le (by omega)]
  exact lp_end (by simp only [L52_1]; rw [br_df (by omega)]; rfl)
 | succ k ih =>
  intro i p n hp hi hk
  obtain ⟨n, rfl⟩ : ∃ n', n = n' + 1 := ⟨n - 1, by omega⟩
  have a1 : i < l2.length := by omega
  have hs := L52_step n0 l2 N p i l2[i] hp (by simp [a1]) (by omega)
  rw [List.drop_eq_getElem_cons a1, okE_cons]
  by_cases h : stepOk N p l2[i] = true
  ·rw [if_pos h] at hs
   rw [lp_next hs, ih (i + 1) l2[i] n (.inr ⟨by omega, by simp [a1]⟩) (by omega) (by omega), h, Bool.true_and]
  ·rw [if_neg h] at hs
   rw [lp_end hs]
   simp only [Bool.not_eq_true] at h
   rw [h]; rfl
theorem F52_eq (n : Nat) (N : Int) (es : List (Int × Int)) (hl : es.length < 4611686018427387904) (hk : es.length < n) : F52 n N es = some (ckG N es) := by
 unfold F52
 rw [head_eq, ob_s]
 unfold ckG okG
 by_cases h : 1 ≤ N ∧ N ≤ 64 ∧ es.length ≤ 200
 ·rw [decide_eq_true h, Bool.not_true, br_f, Bool.true_and]
  have := L52_eq n es N hl es.length 0 (-1, -1) n (.inl ⟨rfl, rfl⟩) (by omega) hk
  rw [List.drop_zero] at this
  rw [show lpN (L52_1 n es N) n 0 = _ from this, ob_s]
  by_cases h2 : okEp N (-1, -1) es = true
  ·rw [if_pos h2, if_pos h2]
  ·rw [if_neg h2, if_neg h2]
 ·rw [decide_eq_false h, Bool.not_false, br_t, Bool.false_and]; rfl
theorem lp_tot {σ ρ : Type} {body : σ → Option (σ ⊕ ρ)} {R : ρ → Prop} (I : Nat → σ → Prop) (h : ∀ k s, I k s → (∃ s', body s = some (.inl s') ∧ ∃ k', k' < k ∧ I k' s') ∨ ∃ r, body s = some (.inr r) ∧ R r) : ∀ k s n, I k s → k < n → ∃ r, lpN body n s = some r ∧ R r := by
 intro k
 induction k using Nat.strongRecOn with
 | _ k ih =>
  intro s n hI hk
  obtain ⟨n, rfl⟩ : ∃ n', n = n' + 1 := ⟨n - 1, by omega⟩
  rcases h k s hI with ⟨s', h1, k', h2, h3⟩ | ⟨r, h1, h2⟩
  ·obtain ⟨r, h4, h5⟩ := ih k' h2 s' n h3 (by omega)
   exact ⟨r, by rw [lp_next h1]; exact h4, h5⟩
  ·exact ⟨r, lp_end h1, h2⟩
theorem br_bool {c : Bool} {a b : Option Bool} (ha : c = true → ∃ x, a = some x) (hb : c = false → ∃ x, b = some x) : ∃ x, br c a b = some x := by
 cases c with
 | true => exact ha rfl
 | false => exact hb rfl
theorem some_b (x : Bool) : ∃ y, some x = some y := ⟨x, rfl⟩
theorem lim_of {n : Nat} (h : n ≤ 1073741824) : lim n = true := Nat.ble_eq_true_of_le h
theorem L28_1_tot (n0 : Nat) (l4 : List (Nat × Nat)) (N a b : Int) (hN : N ≠ 0) (v : Bool) (n : Nat) (hn : 3 < n) : ∃ r, lpN (L28_1 n0 l4 N a b) n (v, 0) = some r := by
 obtain ⟨r, h, _⟩ := lp_tot (body := L28_1 n0 l4 N a b) (R := fun _ => True) (fun k s => 0 ≤ s.2 ∧ s.2 + k = 3) (fun k s hI => by
  obtain ⟨v, i⟩ := s
  obtain ⟨h1, h2⟩ := hI
  simp only at h1 h2
  simp only [L28_1]
  by_cases c1 : i < (l4.length : Int)
  ·rw [br_dt c1, ob_s]
   by_cases c2 : i < 3
   ·rw [decide_eq_true c2, br_t]
    have hb : inB i l4.length = true := decide_eq_true ⟨h1, by omega⟩
    have hlt : i.toNat < l4.length := by omega
    have he : l4[i.toNat]? = some l4[i.toNat] := by simp [hlt]
    rw [hb, gd_t, he, ob_s]
    generalize l4[i.toNat] = e
    obtain ⟨x, y⟩ := e
    simp only [gd_t]
    rw [gd_dt hN, gd_dt hN]
    have : ∃ z, br v (some true) (br (decide (Int.tmod (IntKind.wrap .i64 ((x : Nat) : Int)) N = a)) (br (decide (Int.tmod (IntKind.wrap .i64 ((y : Nat) : Int)) N = b)) (some true) (br (decide (Int.tmod (IntKind.wrap .i64 ((x : Nat) : Int)) N = b)) (some (decide (Int.tmod (IntKind.wrap .i64 ((y : Nat) : Int)) N = a))) (some false))) (br (decide (Int.tmod (IntKind.wrap .i64 ((x : Nat) : Int)) N = b)) (some (decide (Int.tmod (IntKind.wrap .i64 ((y : Nat) : Int)) N = a))) (some false))) = some z :=
     br_bool (fun _ => some_b _) fun _ => br_bool (fun _ => br_bool (fun _ => some_b _) fun _ => br_bool (fun _ => some_b _) fun _ => some_b _) fun _ => br_bool (fun _ => some_b _) fun _ => some_b _
    obtain ⟨z, hz⟩ := this
    refine .inl ⟨(z, i + 1), ?_, k - 1, by omega, by simp only; omega, by simp only; omega⟩
    rw [hz, ob_s, wrap_in (by omega) (by omega)]
   ·rw [decide_eq_false c2, br_f]; exact .inr ⟨v, rfl, trivial⟩
  ·rw [br_df c1, ob_s, br_f]; exact .inr ⟨v, rfl, trivial⟩) 3 (v, 0) n ⟨by simp, by simp⟩ hn
 exact ⟨r, h⟩
def adj (es : List (Int × Int)) (i j : Nat) : Prop := ((i : Int), (j : Int)) ∈ es ∨ ((j : Int), (i : Int)) ∈ es
theorem okE_mem {N : Int} : ∀ {es : List (Int × Int)} {p : Int × Int}, okEp N p es = true → ∀ e ∈ es, 0 ≤ e.1 ∧ e.1 < e.2 ∧ e.2 < N
 | [], _, _, e, he => by cases he
 | x :: es, p, h, e, he => by
  rw [okE_cons, Bool.and_eq_true] at h
  rcases List.mem_cons.1 he with rfl | he
  ·simp only [stepOk, Bool.and_eq_true, decide_eq_true_eq] at h
   exact h.1.1
  ·exact okE_mem h.2 e he
structure Okay (N : Nat) (es : List (Int × Int)) : Prop where
 pos : 1 ≤ N
 le : N ≤ 64
 len : es.length ≤ 200
 mem : ∀ e ∈ es, ∃ a b : Nat, e = ((a : Int), (b : Int)) ∧ a < b ∧ b < N
theorem okay_of {N : Int} {es : List (Int × Int)} (h : okG N es = true) : ∃ M : Nat, N = (M : Int) ∧ Okay M es := by
 simp only [okG, Bool.and_eq_true, decide_eq_true_eq] at h
 obtain ⟨⟨h1, h2, h3⟩, h4⟩ := h
 obtain ⟨M, rfl⟩ := Int.eq_ofNat_of_zero_le (show 0 ≤ N by omega)
 refine ⟨M, rfl, by omega, by omega, h3, fun e he => ?_⟩
 obtain ⟨g1, g2, g3⟩ := okE_mem h4 e he
 obtain ⟨a, b⟩ := e
 obtain ⟨a, rfl⟩ := Int.eq_ofNat_of_zero_le (show 0 ≤ a from g1)
 obtain ⟨b, rfl⟩ := Int.eq_ofNat_of_zero_le (show 0 ≤ b by simp only at g1 g2; omega)
 exact ⟨a, b, rfl, by simp only at g2; omega, by simp only at g3; omega⟩
theorem Okay.adj {N : Nat} {es : List (Int × Int)} (h : Okay N es) {i j : Nat} (ha : adj es i j) : i < N ∧ j < N ∧ i ≠ j := by
 rcases ha with ha | ha
 ·obtain ⟨a, b, e, h1, h2⟩ := h.mem _ ha
  simp only [Prod.mk.injEq, Int.natCast_inj] at e
  omega
 ·obtain ⟨a, b, e, h1, h2⟩ := h.mem _ ha
  simp only [Prod.mk.injEq, Int.natCast_inj] at e
  omega
def bl (x : Nat) : Nat := if x = 0 then 0 else Nat.log2 x + 1
theorem lt_bl {x k : Nat} : k < bl x ↔ 2 ^ k ≤ x := by
 unfold bl
 by_cases h : x = 0
 ·subst h
  rw [if_pos rfl]
  have := Nat.two_pow_pos k
  omega
 ·rw [if_neg h, Nat.lt_succ_iff, Nat.le_log2 h]
theorem bl_unique {x m : Nat} (h : ∀ k, k < m ↔ 2 ^ k ≤ x) : m = bl x := by
 rcases Nat.lt_trichotomy m (bl x) with h1 | h1 | h1
 ·have := (h m).2 (lt_bl.1 h1); omega
 ·exact h1
 ·have := lt_bl.2 ((h (bl x)).1 h1); omega
theorem bl_shift {x s : Nat} (h : 2 ^ s ≤ x) : bl (x >>> s) + s = bl x := by
 refine bl_unique fun k => ?_
 rw [Nat.shiftRight_eq_div_pow]
 by_cases hk : k < s
 ·have : 2 ^ k ≤ 2 ^ s := Nat.pow_le_pow_right (by decide) (by omega)
  constructor
  ·intro _; omega
  ·intro _; omega
 ·obtain ⟨d, rfl⟩ : ∃ d, k = d + s := ⟨k - s, by omega⟩
  have h1 := lt_bl (x := x / 2 ^ s) (k := d)
  have h2 : 2 ^ (d + s) ≤ x ↔ 2 ^ d ≤ x / 2 ^ s := by rw [Nat.pow_add, Nat.le_div_iff_mul_le (Nat.two_pow_pos s)]
  rw [h2, ← h1]; omega
theorem tab_bl : ∀ y : Fin 256, tab256_482390[y.val]? = some (bl y.val) := by decide +kernel
theorem bl_le {x s : Nat} (h : x < 2 ^ s) : bl x ≤ s := by
 rcases Nat.lt_or_ge s (bl x) with h1 | h1
 ·have := lt_bl.1 h1; omega
 ·exact h1
theorem len_step (s y m : Nat) (hs : s ≤ 32) (hy : y < 2 ^ (2 * s)) (hm : m ≤ 64) : ∃ y' m' : Nat, br (decide (2 ^ s ≤ y)) (some (ushr .u64 y s, IntKind.wrap .i64 ((m : Int) + (s : Int)))) (some (y, (m : Int))) = some (y', (m' : Int)) ∧ y' < 2 ^ s ∧ bl y' + m' = bl y + m ∧ m' ≤ m + s := by
 by_cases h : 2 ^ s ≤ y
 ·refine ⟨y >>> s, m + s, ?_, ?_, ?_, Nat.le_refl _⟩
  ·rw [br_dt h, word_shr (by omega), wrap_in (by omega) (by omega)]; rfl
  ·rw [Nat.shiftRight_eq_div_pow, Nat.div_lt_iff_lt_mul (Nat.two_pow_pos s), ← Nat.pow_add]
   rw [Nat.two_mul] at hy; exact hy
  ·have := bl_shift h; omega
 ·exact ⟨y, m, br_df h _ _, by omega, rfl, by omega⟩
theorem F108_eq (n x : Nat) (hx : x < 2 ^ 64) : F108 n x = some ((bl x : Nat) : Int) := by
 unfold F108
 obtain ⟨y1, m1, e1, h1, b1, g1⟩ := len_step 32 x 0 (by omega) hx (by omega)
 have e1' : br (decide (4294967296 ≤ x)) (some (ushr .u64 x 32, (32 : Int))) (some (x, 0)) = some (y1, (m1 : Int)) := e1
 rw [e1', ob_s]
 obtain ⟨y2, m2, e2, h2, b2, g2⟩ := len_step 16 y1 m1 (by omega) h1 (by omega)
 have e2' : br (decide (65536 ≤ y1)) (some (ushr .u64 y1 16, IntKind.wrap .i64 ((m1 : Int) + 16))) (some (y1, (m1 : Int))) = some (y2, (m2 : Int)) := e2
 simp only [e2', ob_s]
 obtain ⟨y3, m3, e3, h3, b3, g3⟩ := len_step 8 y2 m2 (by omega) h2 (by omega)
 have e3' : br (decide (256 ≤ y2)) (some (ushr .u64 y2 8, IntKind.wrap .i64 ((m2 : Int) + 8))) (some (y2, (m2 : Int))) = some (y3, (m3 : Int)) := e3
 simp only [e3', ob_s]
 have h3 : y3 < 256 := h3
 have e : uw .u8 y3 = y3 := Nat.mod_eq_of_lt h3
 have h8 : bl y3 ≤ 8 := bl_le h3
 have ht : tab256_482390[y3]? = some (bl y3) := tab_bl ⟨y3, h3⟩
 have w1 : IntKind.wrap .i64 ((bl y3 : Nat) : Int) = ((bl y3 : Nat) : Int) := wrap_in (by omega) (by omega)
 rw [e, inB_nat h3, gd_t, Int.toNat_natCast, ht, ob_s, w1, wrap_in (by omega) (by omega)]
 simp only [Option.some.injEq]; omega
def ckF (N : Int) (es : List (Int × Int)) (x : Nat) : Int := if okG N es then (if 2 ^ N.toNat ≤ x then 2 else 0) else 180
theorem F114_eq (n : Nat) (N : Int) (es : List (Int × Int)) (x : Nat) (hx : x < 2 ^ 64) (hl : es.length < 4611686018427387904) (hk : es.length < n) : F114 n N es x = some (ckF N es x) := by
 unfold F114 ckF
 rw [F52_eq n N es hl hk, ob_s]
 unfold ckG
 by_cases h : okG N es = true
 ·obtain ⟨M, rfl, hM⟩ := okay_of h
  rw [if_pos h, if_pos h]
  simp only [decide_true, Bool.not_true, br_f, Int.toNat_natCast]
  by_cases h64 : M < 64
  ·have hu : ui .u64 (M : Int) = M := (ui_nn (by omega) (by omega)).trans (Int.toNat_natCast M)
   rw [br_dt (by omega), ob_s, hu, word_shr (by omega), Nat.shiftRight_eq_div_pow]
   by_cases h2 : 2 ^ M ≤ x
   ·have : 0 < x / 2 ^ M := Nat.div_pos h2 (Nat.two_pow_pos _)
    rw [if_pos h2, decide_eq_false (by omega)]; rfl
   ·have : x / 2 ^ M = 0 := Nat.div_eq_of_lt (by omega)
    rw [if_neg h2, decide_eq_true this]; rfl
  ·have hM64 : M = 64 := by have := hM.le; omega
   subst hM64
   rw [br_df (by omega), ob_s, if_neg (by omega)]; rfl
 ·rw [if_neg h, if_neg h]; rfl
theorem F86_eq (n x i : Nat) (hx : x < 2 ^ 64) (hi : i < 64) : F86 n x ((i : Nat) : Int) = some (x.testBit i) := by
 unfold F86
 rw [ui_nn (by omega) (by omega), Int.toNat_natCast, bit_at hx (by omega)]
theorem F106_eq (n i : Nat) (hi : i < 64) : F106 n ((i : Nat) : Int) = some (2 ^ i) := by
 unfold F106
 rw [ui_nn (by omega) (by omega), Int.toNat_natCast, word_one hi]
inductive Rch (es : List (Int × Int)) (S : Nat) (i : Nat) : Nat → Prop
 | refl : Rch es S i i
 | step {j k : Nat} (h : Rch es S i j) (ha : adj es j k) (hk : S.testBit k = true) : Rch es S i k
theorem Rch.mem {es : List (Int × Int)} {S i j : Nat} (h : Rch es S i j) (hi : S.testBit i = true) : S.testBit j = true := by
 cases h with
 | refl => exact hi
 | step _ _ hk => exact hk
theorem Rch.trans {es : List (Int × Int)} {S i j k : Nat} (h : Rch es S i j) (h' : Rch es S j k) : Rch es S i k := by
 induction h' with
 | refl => exact h
 | step _ ha hk ih => exact .step ih ha hk
def IsCl (es : List (Int × Int)) (S i w : Nat) : Prop := w < 2 ^ 64 ∧ ∀ j, w.testBit j = true ↔ Rch es S i j
inductive Cs (es : List (Int × Int)) (S : Nat) : Nat → List Nat → Prop
 | nil : Cs es S 0 []
 | cons {r w : Nat} {L : List Nat} (h0 : 0 < r) (hr : r < 2 ^ 64) (hw : IsCl es S (tz r) w) (t : Cs es S (uandn .u64 r w) L) : Cs es S r (w :: L)
def lowB (x t : Nat) : List Nat := (List.range t).filter fun i => x.testBit i
def rk (x v : Nat) : Nat := (lowB x v).length
theorem low_len (x t : Nat) : (lowB x t).length ≤ t := Nat.le_trans (List.length_filter_le _ _) (by simp)
theorem low_succ (x t : Nat) : lowB x (t + 1) = lowB x t ++ (if x.testBit t then [t] else []) := by
 unfold lowB
 rw [List.range_succ, List.filter_append]
 by_cases h : x.testBit t <;> simp [h]
theorem low_mem {x t v : Nat} : v ∈ lowB x t ↔ v < t ∧ x.testBit v = true := by simp [lowB]
theorem lp_fromE {σ ρ τ : Type} {body : τ → Option (τ ⊕ ρ)} (N : Nat) (mk : σ → Int → τ) (fin : σ → ρ) (I : Nat → σ → Prop)
  (hs : ∀ s i, i < N → I i s → ∃ s', body (mk s (i : Int)) = some (.inl (mk s' ((i + 1 : Nat) : Int))) ∧ I (i + 1) s') (he : ∀ s, I N s → body (mk s (N : Int)) = some (.inr (fin s))) :
  ∀ (k i n : Nat) (s : σ), i + k = N → I i s → k < n → ∃ s', lpN body n (mk s (i : Int)) = some (fin s') ∧ I N s' := by
 intro k
 induction k with
 | zero =>
  intro i n s hi hI hn
  obtain ⟨n, rfl⟩ : ∃ n', n = n' + 1 := ⟨n - 1, by omega⟩
  have : i = N := by omega
  subst this
  exact ⟨s, by simp only [lpN, he s hI], hI⟩
 | succ k ih =>
  intro i n s hi hI hn
  obtain ⟨n, rfl⟩ : ∃ n', n = n' + 1 := ⟨n - 1, by omega⟩
  obtain ⟨s', h1, h2⟩ := hs s i (by omega) hI
  simp only [lpN, h1]
  exact ih (i + 1) n s' (by omega) h2 (by omega)
theorem lp_uptoE {σ ρ τ : Type} {body : τ → Option (τ ⊕ ρ)} (N : Nat) (mk : σ → Int → τ) (fin : σ → ρ) (I : Nat → σ → Prop)
  (hs : ∀ s i, i < N → I i s → ∃ s', body (mk s (i : Int)) = some (.inl (mk s' ((i + 1 : Nat) : Int))) ∧ I (i + 1) s') (he : ∀ s, I N s → body (mk s (N : Int)) = some (.inr (fin s)))
  {n : Nat} {s : σ} (hI : I 0 s) (hn : N < n) : ∃ s', lpN body n (mk s 0) = some (fin s') ∧ I N s' :=
 lp_fromE N mk fin I hs he N 0 n s (by omega) hI hn
theorem F53_eq (n x : Nat) (hx : x < 2 ^ 64) (hn : 64 < n) : F53 n x = some ((rk x 64 : Nat) : Int) := by
 have := lp_uptoE (body := L53_1 n x) 64 (fun (s : Int) (v : Int) => (s, v)) id (fun i s => s = ((rk x i : Nat) : Int)) (fun s i hi hI => ?_) (fun s _ => ?_) (n := n) (s := 0) rfl hn
 ·obtain ⟨s, h1, h2⟩ := this
  unfold F53
  simp only [h1, ob_s, id, h2]
 ·subst hI
  have hle : rk x i ≤ i := low_len _ _
  refine ⟨((rk x (i + 1) : Nat) : Int), ?_, rfl⟩
  unfold L53_1
  simp only [decide_eq_true (show ((i : Nat) : Int) < 64 by omega), br_t, F86_eq n x i hx hi, ob_s, wrap_succ (show i < 4611686018427387904 by omega)]
  have e : rk x (i + 1) = rk x i + (if x.testBit i then 1 else 0) := by
   unfold rk; rw [low_succ, List.length_append]; split <;> simp
  rw [e]
  by_cases hb : x.testBit i
  ·rw [hb, br_t, wrap_succ (by omega), ob_s, if_pos rfl]
  ·rw [Bool.not_eq_true] at hb
   rw [hb, br_f, ob_s]; simp
 ·unfold L53_1
  simp [br]
def lexLt (p q : Int × Int) : Prop := p.1 < q.1 ∨ p.1 = q.1 ∧ p.2 < q.2
section
variable {n0 M : Nat} {l6 : List Int} {es : List (Int × Int)}
end
def val (w : Nat) : List Nat → Nat
 | [] => 0
 | d :: ds => d + 2 ^ w * val w ds
theorem and_split {k a b c d : Nat} (ha : a < 2 ^ k) (hc : c < 2 ^ k) : (a + 2 ^ k * b) &&& (c + 2 ^ k * d) = (a &&& c) + 2 ^ k * (b &&& d) := by
 have hac : a &&& c < 2 ^ k := Nat.lt_of_le_of_lt Nat.and_le_left ha
 refine Nat.eq_of_testBit_eq fun i => ?_
 rw [Nat.testBit_and, Nat.add_comm a, Nat.add_comm c, Nat.add_comm (a &&& c), Nat.testBit_two_pow_mul_add _ ha, Nat.testBit_two_pow_mul_add _ hc, Nat.testBit_two_pow_mul_add _ hac]
 split <;> rw [Nat.testBit_and]
def msk (w : Nat) : Nat → Nat
 | 0 => 0
 | n + 1 => (2 ^ w - 1) + 2 ^ (2 * w) * msk w n
def pairUp : List Nat → List Nat
 | a :: b :: r => (a + b) :: pairUp r
 | [a] => [a]
 | [] => []
theorem pow2 (w : Nat) : 2 ^ (2 * w) = 2 ^ w * 2 ^ w := by rw [← Nat.pow_add]; congr 1; omega
theorem val_split (w a b : Nat) (r : List Nat) : val w (a :: b :: r) = (a + 2 ^ w * b) + 2 ^ (2 * w) * val w r := by
 simp only [val, pow2, Nat.mul_add, Nat.mul_assoc]; omega
theorem ab_lt {w a b : Nat} (ha : a < 2 ^ w) (hb : b < 2 ^ w) : a + 2 ^ w * b < 2 ^ (2 * w) := by
 have h2 : 2 ^ w * (b + 1) ≤ 2 ^ w * 2 ^ w := Nat.mul_le_mul_left _ hb
 rw [pow2]
 rw [Nat.mul_add, Nat.mul_one] at h2
 omega
theorem low_and {w a b : Nat} (ha : a < 2 ^ w) : (a + 2 ^ w * b) &&& (2 ^ w - 1) = a := by
 rw [Nat.and_two_pow_sub_one_eq_mod, Nat.add_mul_mod_self_left, Nat.mod_eq_of_lt ha]
theorem mskd_lt (w : Nat) : 2 ^ w - 1 < 2 ^ (2 * w) := by
 have := Nat.two_pow_pos w
 have : 2 ^ w ≤ 2 ^ (2 * w) := Nat.pow_le_pow_right (by decide) (by omega)
 omega
theorem shift_split (w a b V : Nat) (ha : a < 2 ^ w) : ((a + 2 ^ w * b) + 2 ^ (2 * w) * V) >>> w = (b + 2 ^ w * (V % 2 ^ w)) + 2 ^ (2 * w) * (V >>> w) := by
 have h1 : (a + 2 ^ w * b) + 2 ^ (2 * w) * V = a + 2 ^ w * (b + 2 ^ w * V) := by
  rw [pow2, Nat.mul_add, Nat.mul_assoc]; omega
 rw [h1, Nat.shiftRight_eq_div_pow, Nat.add_mul_div_left _ _ (Nat.two_pow_pos w), Nat.div_eq_of_lt ha, Nat.zero_add, Nat.shiftRight_eq_div_pow, pow2]
 have h2 := Nat.mod_add_div V (2 ^ w)
 rw [Nat.mul_assoc, Nat.add_assoc, ← Nat.mul_add, h2]
theorem step_sum (w : Nat) : ∀ (n : Nat) (ds : List Nat), ds.length = 2 * n → (∀ d ∈ ds, d < 2 ^ w) → ((val w ds >>> w) &&& msk w n) + (val w ds &&& msk w n) = val (2 * w) (pairUp ds)
 | 0, ds, h, _ => by
  have : ds = [] := List.eq_nil_of_length_eq_zero (by omega)
  subst this
  simp [val, msk, pairUp]
 | n + 1, a :: b :: r, h, hd => by
  have ha := hd a (by simp)
  have hb := hd b (by simp)
  have ih := step_sum w n r (by simp at h; omega) fun d hd' => hd d (by simp [hd'])
  have hm : val w r % 2 ^ w < 2 ^ w := Nat.mod_lt _ (Nat.two_pow_pos w)
  rw [val_split, shift_split w a b _ ha]
  simp only [msk, pairUp]
  rw [and_split (ab_lt hb hm) (mskd_lt w), and_split (ab_lt ha hb) (mskd_lt w), low_and hb, low_and ha]
  show _ = (a + b) + 2 ^ (2 * w) * val (2 * w) (pairUp r)
  rw [← ih, Nat.mul_add]
  omega
 | n + 1, [], h, _ => by simp at h
 | n + 1, [_], h, _ => by simp at h; omega
theorem val_mod {w B : Nat} (hB : B ≤ 2 ^ w) (h0 : 0 < B) : ∀ (ds : List Nat), (∀ d ∈ ds, d < B) → val w ds % 2 ^ w < B
 | [], _ => by simpa [val] using h0
 | d :: ds, h => by
  have := h d (by simp)
  simp only [val]
  rw [Nat.add_mul_mod_self_left, Nat.mod_eq_of_lt (by omega)]; exact this
theorem step_sum2 (w B : Nat) (hB : 2 * B ≤ 2 ^ w) (h0 : 0 < B) : ∀ (n : Nat) (ds : List Nat), ds.length = 2 * n → (∀ d ∈ ds, d < B) → ((val w ds >>> w) + val w ds) &&& msk w n = val (2 * w) (pairUp ds)
 | 0, ds, h, _ => by
  have : ds = [] := List.eq_nil_of_length_eq_zero (by omega)
  subst this
  simp [val, msk, pairUp]
 | n + 1, a :: b :: r, h, hd => by
  have ha := hd a (by simp)
  have hb := hd b (by simp)
  have ih := step_sum2 w B hB h0 n r (by simp at h; omega) fun d hd' => hd d (by simp [hd'])
  have hm : val w r % 2 ^ w < B := val_mod (by omega) h0 r fun d hd' => hd d (by simp [hd'])
  rw [val_split, shift_split w a b _ (by omega)]
  have e : (b + 2 ^ w * (val w r % 2 ^ w)) + 2 ^ (2 * w) * (val w r >>> w) + ((a + 2 ^ w * b) + 2 ^ (2 * w) * val w r) = ((a + b) + 2 ^ w * (val w r % 2 ^ w + b)) + 2 ^ (2 * w) * ((val w r >>> w) + val w r) := by
   simp only [Nat.mul_add]; omega
  rw [e]
  simp only [msk, pairUp]
  rw [and_split (ab_lt (by omega) (by omega)) (mskd_lt w), low_and (by omega), ih]
  rfl
 | n + 1, [], h, _ => by simp at h
 | n + 1, [_], h, _ => by simp at h; omega
theorem pairUp_sum : ∀ ds : List Nat, (pairUp ds).sum = ds.sum
 | [] => rfl
 | [_] => rfl
 | a :: b :: r => by simp only [pairUp, List.sum_cons, pairUp_sum r]; omega
theorem pairUp_len : ∀ (n : Nat) (ds : List Nat), ds.length = 2 * n → (pairUp ds).length = n
 | 0, ds, h => by
  have : ds = [] := List.eq_nil_of_length_eq_zero (by omega)
  subst this; rfl
 | n + 1, a :: b :: r, h => by simp only [pairUp, List.length_cons]; rw [pairUp_len n r (by simp at h; omega)]
 | n + 1, [], h => by simp at h
 | n + 1, [_], h => by simp at h; omega
theorem pairUp_le {B : Nat} : ∀ (ds : List Nat), (∀ d ∈ ds, d ≤ B) → ∀ d ∈ pairUp ds, d ≤ 2 * B
 | [], _, d, hd => by simp [pairUp] at hd
 | [a], h, d, hd => by simp [pairUp] at hd; subst hd; have := h d (by simp); omega
 | a :: b :: r, h, d, hd => by
  simp only [pairUp, List.mem_cons] at hd
  have h1 := h a (by simp)
  have h2 := h b (by simp)
  rcases hd with rfl | hd
  ·omega
  ·exact pairUp_le r (fun x hx => h x (by simp [hx])) d hd
theorem val_lt {w : Nat} : ∀ (ds : List Nat), (∀ d ∈ ds, d < 2 ^ w) → val w ds < 2 ^ (w * ds.length)
 | [], _ => by simp [val]
 | d :: ds, h => by
  have h1 := h d (by simp)
  have ih := val_lt ds fun x hx => h x (by simp [hx])
  simp only [val, List.length_cons]
  rw [Nat.mul_add, Nat.mul_one, Nat.add_comm (w * ds.length) w, Nat.pow_add]
  have h2 : 2 ^ w * (val w ds + 1) ≤ 2 ^ w * 2 ^ (w * ds.length) := Nat.mul_le_mul_left _ ih
  rw [Nat.mul_add, Nat.mul_one] at h2
  omega
def bitL (x : Nat) : Nat → List Nat
 | 0 => []
 | n + 1 => x % 2 :: bitL (x / 2) n
theorem bitL_val : ∀ (n x : Nat), x < 2 ^ n → val 1 (bitL x n) = x
 | 0, x, h => by simp at h; subst h; rfl
 | n + 1, x, h => by
  simp only [bitL, val, Nat.pow_one]
  rw [bitL_val n (x / 2) (by rw [Nat.pow_succ] at h; omega)]
  omega
theorem bitL_len : ∀ (n x : Nat), (bitL x n).length = n
 | 0, _ => rfl
 | n + 1, x => by simp only [bitL, List.length_cons, bitL_len n]
theorem bitL_le : ∀ (n x : Nat), ∀ d ∈ bitL x n, d ≤ 1
 | 0, _, d, h => by simp [bitL] at h
 | n + 1, x, d, h => by
  simp only [bitL, List.mem_cons] at h
  rcases h with rfl | h
  ·omega
  ·exact bitL_le n _ d h
theorem lowB_half (x : Nat) : ∀ n, (lowB x (n + 1)).length = x % 2 + (lowB (x / 2) n).length
 | 0 => by
  rw [low_succ]
  have : x.testBit 0 = decide (x % 2 = 1) := Nat.testBit_zero x
  rw [this]
  by_cases h : x % 2 = 1
  ·simp [h, lowB]
  ·have : x % 2 = 0 := by omega
   simp [this, lowB]
 | n + 1 => by
  rw [low_succ, List.length_append, lowB_half x n, low_succ (x / 2) n, List.length_append]
  have : x.testBit (n + 1) = (x / 2).testBit n := Nat.testBit_succ x n
  rw [this]
  split <;> simp <;> omega
theorem bitL_sum : ∀ (n x : Nat), (bitL x n).sum = (lowB x n).length
 | 0, x => rfl
 | n + 1, x => by simp only [bitL, List.sum_cons, bitL_sum n, lowB_half]
theorem val_le {w B : Nat} : ∀ (ds : List Nat), (∀ d ∈ ds, d ≤ B) → val w ds * (2 ^ w - 1) + B ≤ B * 2 ^ (w * ds.length)
 | [], _ => by simp [val]
 | d :: ds, h => by
  have h1 := h d (by simp)
  have ih := val_le (w := w) ds fun x hx => h x (by simp [hx])
  have hp := Nat.two_pow_pos w
  simp only [val, List.length_cons]
  rw [Nat.mul_add, Nat.mul_one, Nat.add_comm (w * ds.length) w, Nat.pow_add]
  have h2 : 2 ^ w * (val w ds * (2 ^ w - 1) + B) ≤ 2 ^ w * (B * 2 ^ (w * ds.length)) := Nat.mul_le_mul_left _ ih
  have h3 : d * (2 ^ w - 1) ≤ B * (2 ^ w - 1) := Nat.mul_le_mul_right _ h1
  have h4 : B * (2 ^ w - 1) + B = 2 ^ w * B := by
   rw [Nat.mul_sub, Nat.mul_one, Nat.sub_add_cancel (Nat.le_mul_of_pos_right _ hp), Nat.mul_comm]
  have h5 : B * (2 ^ w * 2 ^ (w * ds.length)) = 2 ^ w * (B * 2 ^ (w * ds.length)) := by rw [Nat.mul_left_comm]
  rw [Nat.mul_add, ← Nat.mul_assoc] at h2
  rw [Nat.add_mul, h5]
  omega
theorem sh_eq {a k b : Nat} (hk : k ≤ 64) (h : a / 2 ^ k = b) : ushr .u64 a k = b := by rw [word_shr hk, Nat.shiftRight_eq_div_pow, h]
theorem swar_tail (c0 c1 c2 c3 c4 c5 c6 c7 : Nat) (g0 : c0 ≤ 8) (g1 : c1 ≤ 8) (g2 : c2 ≤ 8) (g3 : c3 ≤ 8) (g4 : c4 ≤ 8) (g5 : c5 ≤ 8) (g6 : c6 ≤ 8) (g7 : c7 ≤ 8) (y : Nat) (hy : y = c0 + 256 * (c1 + 256 * (c2 + 256 * (c3 + 256 * (c4 + 256 * (c5 + 256 * (c6 + 256 * c7))))))) :
  ∃ z u K, uw .u64 (y + ushr .u64 y 8) = z ∧ uw .u64 (z + ushr .u64 z 16) = u ∧ uw .u64 (u + ushr .u64 u 32) = (c0 + c1 + c2 + c3 + c4 + c5 + c6 + c7) + 256 * K ∧ K < 2 ^ 54 := by
 obtain ⟨a1, ha1⟩ : ∃ a, a = c1 + 256 * (c2 + 256 * (c3 + 256 * (c4 + 256 * (c5 + 256 * (c6 + 256 * c7))))) := ⟨_, rfl⟩
 have e1 : ushr .u64 y 8 = a1 := sh_eq (by decide) (by rw [hy, ← ha1]; omega)
 have hz : uw .u64 (y + ushr .u64 y 8) = y + a1 := by rw [e1]; exact uw_id (by omega)
 obtain ⟨b, hb⟩ : ∃ b, b = (c2 + c3) + 256 * ((c3 + c4) + 256 * ((c4 + c5) + 256 * ((c5 + c6) + 256 * ((c6 + c7) + 256 * c7)))) := ⟨_, rfl⟩
 have hzb : y + a1 = ((c0 + c1) + 256 * (c1 + c2)) + 65536 * b := by omega
 have e2 : ushr .u64 (y + a1) 16 = b := sh_eq (by decide) (by rw [hzb]; omega)
 have hu : uw .u64 ((y + a1) + ushr .u64 (y + a1) 16) = (y + a1) + b := by rw [e2]; exact uw_id (by omega)
 obtain ⟨d, hd⟩ : ∃ d, d = (c4 + c5 + c6 + c7) + 256 * ((c5 + c6 + c7) + 256 * ((c6 + c7) + 256 * c7)) := ⟨_, rfl⟩
 have hud : (y + a1) + b = ((c0 + c1 + c2 + c3) + 256 * ((c1 + c2 + c3 + c4) + 256 * ((c2 + c3 + c4 + c5) + 256 * (c3 + c4 + c5 + c6)))) + 4294967296 * d := by omega
 have e3 : ushr .u64 ((y + a1) + b) 32 = d := sh_eq (by decide) (by rw [hud]; omega)
 have hw : uw .u64 (((y + a1) + b) + ushr .u64 ((y + a1) + b) 32) = ((y + a1) + b) + d := by rw [e3]; exact uw_id (by omega)
 refine ⟨_, _, ((c1 + c2 + c3 + c4) + 256 * ((c2 + c3 + c4 + c5) + 256 * (c3 + c4 + c5 + c6))) + 16777216 * d + ((c5 + c6 + c7) + 256 * ((c6 + c7) + 256 * c7)), hz, hu, ?_, ?_⟩
 ·rw [hw]; omega
 ·omega
theorem F43_eq (n x : Nat) (hx : x < 2 ^ 64) : F43 n x = some ((rk x 64 : Nat) : Int) := by
 obtain ⟨d0, hd0⟩ : ∃ d, d = bitL x 64 := ⟨_, rfl⟩
 have l0 : d0.length = 64 := by rw [hd0]; exact bitL_len 64 x
 have b0 : ∀ d ∈ d0, d ≤ 1 := by rw [hd0]; exact bitL_le 64 x
 have v0 : val 1 d0 = x := by rw [hd0]; exact bitL_val 64 x hx
 have s0 : d0.sum = rk x 64 := by rw [hd0]; exact bitL_sum 64 x
 have e1 := step_sum 1 32 d0 (by omega) fun d hd => by have := b0 d hd; omega
 have l1 := pairUp_len 32 d0 (by omega)
 have b1 := pairUp_le d0 b0
 have e2 := step_sum 2 16 (pairUp d0) (by omega) fun d hd => by have := b1 d hd; omega
 have l2 := pairUp_len 16 (pairUp d0) (by omega)
 have b2 := pairUp_le _ b1
 have e3 := step_sum2 4 5 (by decide) (by decide) 8 (pairUp (pairUp d0)) (by omega) fun d hd => by have := b2 d hd; omega
 have l3 := pairUp_len 8 (pairUp (pairUp d0)) (by omega)
 have b3 := pairUp_le _ b2
 have s3 : (pairUp (pairUp (pairUp d0))).sum = rk x 64 := by rw [pairUp_sum, pairUp_sum, pairUp_sum, s0]
 have m1 : msk 1 32 = 6148914691236517205 := by decide
 have m2 : msk 2 16 = 3689348814741910323 := by decide
 have m3 : msk 4 8 = 1085102592571150095 := by decide
 rw [v0, m1] at e1
 rw [m2] at e2
 rw [m3] at e3
 have q1 : val 2 (pairUp d0) < 2 ^ 64 := by
  have := val_lt (w := 2) (pairUp d0) fun d hd => by have := b1 d hd; omega
  rwa [l1] at this
 have q2 : val 4 (pairUp (pairUp d0)) < 2 ^ 64 := by
  have := val_lt (w := 4) (pairUp (pairUp d0)) fun d hd => by have := b2 d hd; omega
  rwa [l2] at this
 have hS : ∀ a b : Nat, a < 2 ^ 64 → uw .u64 (uw .u64 a &&& uw .u64 b) = a &&& uw .u64 b := fun a b ha => by
  rw [uw_id ha, uw_id (and_lt' ha)]
 have sh : ∀ k : Nat, k ≤ 64 → ∀ a : Nat, a < 2 ^ 64 → ushr .u64 a k < 2 ^ 64 := fun k hk a ha => by
  rw [word_shr hk, Nat.shiftRight_eq_div_pow]; exact Nat.lt_of_le_of_lt (Nat.div_le_self _ _) ha
 have i1 : uw .u64 6148914691236517205 = 6148914691236517205 := by decide
 have i2 : uw .u64 3689348814741910323 = 3689348814741910323 := by decide
 have i3 : uw .u64 1085102592571150095 = 1085102592571150095 := by decide
 have y2 : uw .u64 ((uw .u64 (uw .u64 (ushr .u64 x 1) &&& uw .u64 6148914691236517205)) + (uw .u64 (uw .u64 x &&& uw .u64 6148914691236517205))) = val 2 (pairUp d0) := by
  rw [hS _ _ (sh 1 (by decide) x hx), hS _ _ hx, i1, word_shr (by decide), e1, uw_id q1]
 have y4 : uw .u64 ((uw .u64 (uw .u64 (ushr .u64 (val 2 (pairUp d0)) 2) &&& uw .u64 3689348814741910323)) + (uw .u64 (uw .u64 (val 2 (pairUp d0)) &&& uw .u64 3689348814741910323))) = val 4 (pairUp (pairUp d0)) := by
  rw [hS _ _ (sh 2 (by decide) _ q1), hS _ _ q1, i2, word_shr (by decide), e2, uw_id q2]
 obtain ⟨d3, hd3⟩ : ∃ d, d = pairUp (pairUp (pairUp d0)) := ⟨_, rfl⟩
 rw [← hd3] at e3 l3 b3 s3
 have q3 : val 4 (pairUp (pairUp d0)) < 6 * 2 ^ 60 := by
  have := val_le (w := 4) (B := 4) (pairUp (pairUp d0)) b2
  rw [l2] at this
  omega
 have y6 : uw .u64 (uw .u64 (uw .u64 ((ushr .u64 (val 4 (pairUp (pairUp d0))) 4) + val 4 (pairUp (pairUp d0)))) &&& uw .u64 1085102592571150095) = val 8 d3 := by
  have hle : ushr .u64 (val 4 (pairUp (pairUp d0))) 4 + val 4 (pairUp (pairUp d0)) < 2 ^ 64 := by
   rw [word_shr (by decide), Nat.shiftRight_eq_div_pow]; omega
  rw [uw_id hle, hS _ _ hle, i3, word_shr (by decide), e3]
 unfold F43
 rw [y2, ob_s, y4, ob_s, y6, ob_s]
 match d3, l3, b3, s3 with
 | [c0, c1, c2, c3, c4, c5, c6, c7], _, b3, s3 =>
  have hv : val 8 [c0, c1, c2, c3, c4, c5, c6, c7] = c0 + 256 * (c1 + 256 * (c2 + 256 * (c3 + 256 * (c4 + 256 * (c5 + 256 * (c6 + 256 * c7)))))) := by simp [val]
  obtain ⟨z, u, K, t1, t2, t3, hK⟩ := swar_tail c0 c1 c2 c3 c4 c5 c6 c7 (b3 c0 (by simp)) (b3 c1 (by simp)) (b3 c2 (by simp)) (b3 c3 (by simp)) (b3 c4 (by simp)) (b3 c5 (by simp)) (b3 c6 (by simp)) (b3 c7 (by simp)) _ hv
  have hs : c0 + c1 + c2 + c3 + c4 + c5 + c6 + c7 = rk x 64 := by
   rw [← s3]; simp only [List.sum_cons, List.sum_nil]; omega
  rw [t1, t2, ob_s, t3, hs]
  have hr : rk x 64 ≤ 64 := low_len _ _
  rw [wrap_in (by omega) (by omega)]
  have hand : iand .i64 ((rk x 64 + 256 * K : Nat) : Int) 127 = ((rk x 64 : Nat) : Int) := by
   unfold iand
   have h1 : (BitVec.ofInt IntKind.i64.bits ((rk x 64 + 256 * K : Nat) : Int) &&& BitVec.ofInt IntKind.i64.bits 127).toNat = rk x 64 := by
    rw [BitVec.toNat_and, BitVec.toNat_ofInt, BitVec.toNat_ofInt]
    have a1 : (((rk x 64 + 256 * K : Nat) : Int) % ((2 ^ IntKind.i64.bits : Nat) : Int)).toNat = rk x 64 + 256 * K := by
     show (((rk x 64 + 256 * K : Nat) : Int) % (18446744073709551616 : Int)).toNat = _
     omega
    have a2 : ((127 : Int) % ((2 ^ IntKind.i64.bits : Nat) : Int)).toNat = 2 ^ 7 - 1 := by decide
    rw [a1, a2, Nat.and_two_pow_sub_one_eq_mod]
    omega
   rw [h1, wrap_in (by omega) (by omega)]
  rw [hand, ob_s]
def lastP (p : Int × Int) (l : List (Int × Int)) : Int × Int := (l.getLast?).getD p
theorem okE_snoc {N : Int} (e : Int × Int) : ∀ (l : List (Int × Int)) (p : Int × Int), okEp N p (l ++ [e]) = (okEp N p l && stepOk N (lastP p l) e)
 | [], p => by rw [List.nil_append, okE_cons]; simp [okEp, lastP]
 | x :: l, p => by
  rw [List.cons_append, okE_cons, okE_cons, okE_snoc e l x, Bool.and_assoc]
  congr 2
  unfold lastP
  cases l with
  | nil => rfl
  | cons y l =>
   rw [List.getLast?_cons_cons]
   have : ∃ z, (y :: l).getLast? = some z := ⟨_, List.getLast?_eq_some_getLast (by simp)⟩
   obtain ⟨z, hz⟩ := this
   rw [hz]; rfl
def Upto (N : Int) (l : List (Int × Int)) (a b : Int) : Prop := okEp N (-1, -1) l = true ∧ ((lastP (-1, -1) l).1 < a ∨ (lastP (-1, -1) l).1 = a ∧ (lastP (-1, -1) l).2 < b)
theorem Upto.add {N : Int} {l : List (Int × Int)} {a b : Int} (h : Upto N l a b) (ha : 0 ≤ a) (hab : a < b) (hb : b < N) : Upto N (l ++ [(a, b)]) a (b + 1) := by
 refine ⟨?_, .inr ?_⟩
 ·rw [okE_snoc, h.1, Bool.true_and]
  simp only [stepOk, Bool.and_eq_true, decide_eq_true_eq]
  exact ⟨⟨ha, hab, hb⟩, h.2⟩
 ·unfold lastP
  rw [List.getLast?_append]
  simp only [List.getLast?_singleton, Option.some_or, Option.getD_some]
  exact ⟨trivial, by omega⟩
theorem Upto.next {N : Int} {l : List (Int × Int)} {a b : Int} (h : Upto N l a b) : Upto N l a (b + 1) := ⟨h.1, by rcases h.2 with h | h; exact .inl h; exact .inr (by omega)⟩
theorem Upto.row {N : Int} {l : List (Int × Int)} {a b c : Int} (h : Upto N l a b) : Upto N l (a + 1) c := ⟨h.1, .inl (by rcases h.2 with h | h <;> omega)⟩
theorem L28_2_ok (n0 : Nat) (N a w : Int) (x3 : Nat) (l4 : List (Nat × Nat)) (hN : 1 ≤ N ∧ N ≤ 12) (hw : w ≠ 0) (l : List (Int × Int)) (c b : Int) (M : Nat) (hl : l.length ≤ M) (hM : M ≤ 1000) (hb : 0 ≤ b ∧ b ≤ N) (ha : 0 ≤ a ∧ a < b) (hu : Upto N l a b) (n : Nat) (hn : 12 < n) (hn0 : 3 < n0) :
  ∃ r, lpN (L28_2 n0 N a w x3 l4) n (l, c, b) = some r ∧ r.1.length ≤ M + 12 ∧ Upto N r.1 a N := by
 refine lp_tot (body := L28_2 n0 N a w x3 l4) (R := fun r => r.1.length ≤ M + 12 ∧ Upto N r.1 a N) (fun k s => 0 ≤ s.2.2 ∧ s.2.2 + k = N ∧ s.1.length + k ≤ M + 12 ∧ a < s.2.2 ∧ Upto N s.1 a s.2.2) (fun k s hI => ?_) (N - b).toNat (l, c, b) n ⟨hb.1, by simp only; omega, by simp only; omega, ha.2, hu⟩ (by omega)
 obtain ⟨l, c, b⟩ := s
 obtain ⟨h1, h2, h3, h4, h5⟩ := hI
 simp only at h1 h2 h3 h4 h5
 simp only [L28_2]
 by_cases c1 : b < N
 ·rw [br_dt c1]
  have e1 : ∃ z, br (decide (b = IntKind.wrap .i64 (a + w))) (some true) (br (decide (b = IntKind.wrap .i64 (a + 1))) (gd (decide (w ≠ 0)) (some (!decide (Int.tmod b w = 0)))) (some false)) = some z :=
   br_bool (fun _ => some_b _) fun _ => br_bool (fun _ => ⟨_, gd_dt hw _⟩) fun _ => some_b _
  obtain ⟨z, hz⟩ := e1
  rw [hz, ob_s]
  have e2 : ∃ c' z', br z (ob (ob (br (decide (Int.tmod c 2 = 1)) (ob (some (ushr .u16 x3 (ui .u64 (Int.tmod (IntKind.wrap .i64 (Int.tdiv c 2)) 16)))) fun y2906 => some (decide (uw .u16 (uw .u16 y2906 &&& uw .u16 1) = 1))) (some false)) fun v2904 => br v2904 (some false) (some z)) fun v2900 => some (IntKind.wrap .i64 (c + 1), v2900)) (some (c, z)) = some (c', z') := by
   cases z with
   | false => exact ⟨c, false, rfl⟩
   | true =>
    rw [br_t]
    have : ∃ q, (ob (br (decide (Int.tmod c 2 = 1)) (ob (some (ushr .u16 x3 (ui .u64 (Int.tmod (IntKind.wrap .i64 (Int.tdiv c 2)) 16)))) fun y2906 => some (decide (uw .u16 (uw .u16 y2906 &&& uw .u16 1) = 1))) (some false)) fun v2904 => br v2904 (some false) (some true)) = some q := by
     by_cases h : Int.tmod c 2 = 1
     ·rw [br_dt h, ob_s, ob_s]; exact br_bool (fun _ => some_b _) fun _ => some_b _
     ·rw [br_df h, ob_s]; exact br_bool (fun _ => some_b _) fun _ => some_b _
    obtain ⟨q, hq⟩ := this
    exact ⟨_, q, by rw [hq, ob_s]⟩
  obtain ⟨c', z', hz'⟩ := e2
  rw [hz', ob_s]
  obtain ⟨q, hq⟩ := L28_1_tot n0 l4 N a b (by omega) z' n0 hn0
  simp only [hq, ob_s]
  cases q with
  | false =>
   refine .inl ⟨(l, c', b + 1), ?_, k - 1, by omega, by simp only; omega, by simp only; omega, by simp only; omega, by simp only; omega, h5.next⟩
   rw [br_f, ob_s, wrap_in (by omega) (by omega)]
  | true =>
   refine .inl ⟨(l ++ [(a, b)], c', b + 1), ?_, k - 1, by omega, by simp only; omega, by simp only; omega, by simp; omega, by simp only; omega, h5.add ha.1 h4 c1⟩
   rw [br_t, lim_of (by simp; omega), gd_t, ob_s, wrap_in (by omega) (by omega)]
 ·rw [br_df c1]; exact .inr ⟨(l, c), rfl, by simp only; omega, (show b = N by omega) ▸ h5⟩
theorem L28_3_ok (n0 : Nat) (N w : Int) (x3 : Nat) (l4 : List (Nat × Nat)) (hN : 1 ≤ N ∧ N ≤ 12) (hw : w ≠ 0) (n : Nat) (hn : 12 < n) (hn0 : 12 < n0) :
  ∃ r, lpN (L28_3 n0 N x3 l4) n (w, [], 0, 0) = some r ∧ r.length ≤ 200 ∧ okEp N (-1, -1) r = true := by
 refine lp_tot (body := L28_3 n0 N x3 l4) (R := fun r => r.length ≤ 200 ∧ okEp N (-1, -1) r = true) (fun k s => s.1 = w ∧ 0 ≤ s.2.2.2 ∧ s.2.2.2 + k = N ∧ s.2.1.length + 12 * k ≤ 144 ∧ Upto N s.2.1 s.2.2.2 0) (fun k s hI => ?_) N.toNat (w, [], 0, 0) n ⟨rfl, by simp, by simp only; omega, by simp; omega, ⟨rfl, .inl (by show (-1 : Int) < 0; decide)⟩⟩ (by omega)
 obtain ⟨w', l, c, a⟩ := s
 obtain ⟨rfl, h1, h2, h3, h4⟩ := hI
 simp only at h1 h2 h3 h4 hw
 simp only [L28_3]
 by_cases c1 : a < N
 ·rw [br_dt c1]
  obtain ⟨r, hr, hrl, hru⟩ := L28_2_ok n0 N a w' x3 l4 hN hw l c (IntKind.wrap .i64 (a + 1)) l.length (Nat.le_refl _) (by omega) (by rw [wrap_in (by omega) (by omega)]; omega) (by rw [wrap_in (by omega) (by omega)]; omega) (by rw [wrap_in (by omega) (by omega)]; exact ⟨h4.1, h4.2.imp id fun h => ⟨h.1, by omega⟩⟩) n0 hn0 (by omega)
  obtain ⟨l', c'⟩ := r
  simp only [hr, ob_s]
  exact .inl ⟨(w', l', c', a + 1), by rw [wrap_in (by omega) (by omega)], k - 1, by omega, rfl, by simp only; omega, by simp only; omega, by simp only at hrl ⊢; omega, hru.row⟩
 ·rw [br_df c1]; exact .inr ⟨l, rfl, by omega, h4.1⟩
theorem F28_ok (n x1 x2 x3 : Nat) (l4 : List (Nat × Nat)) (hn : 12 < n) : ∃ N es, F28 n x1 x2 x3 l4 = some (N, es) ∧ okG N es = true := by
 unfold F28
 have w1 : IntKind.wrap .i64 ((x1 % 4 : Nat) : Int) = ((x1 % 4 : Nat) : Int) := wrap_in (by omega) (by omega)
 have w2 : IntKind.wrap .i64 ((x2 % 3 : Nat) : Int) = ((x2 % 3 : Nat) : Int) := wrap_in (by omega) (by omega)
 have w3 : IntKind.wrap .i64 (1 + ((x1 % 4 : Nat) : Int)) = 1 + ((x1 % 4 : Nat) : Int) := wrap_in (by omega) (by omega)
 have w4 : IntKind.wrap .i64 (1 + ((x2 % 3 : Nat) : Int)) = 1 + ((x2 % 3 : Nat) : Int) := wrap_in (by omega) (by omega)
 rw [w1, w2, w3, w4, ob_s]
 have hN : ∀ a b : Nat, a < 4 → b < 3 → 1 ≤ (1 + (a : Int)) * (1 + (b : Int)) ∧ (1 + (a : Int)) * (1 + (b : Int)) ≤ 12 := by
  intro a b ha hb
  have h1 : a = 0 ∨ a = 1 ∨ a = 2 ∨ a = 3 := by omega
  have h2 : b = 0 ∨ b = 1 ∨ b = 2 := by omega
  rcases h1 with rfl | rfl | rfl | rfl <;> rcases h2 with rfl | rfl | rfl <;> decide
 have hN' := hN (x1 % 4) (x2 % 3) (Nat.mod_lt _ (by omega)) (Nat.mod_lt _ (by omega))
 rw [wrap_in (by omega) (by omega)]
 obtain ⟨r, hr, hl, hu⟩ := L28_3_ok n ((1 + ((x1 % 4 : Nat) : Int)) * (1 + ((x2 % 3 : Nat) : Int))) (1 + ((x1 % 4 : Nat) : Int)) x3 l4 hN' (by omega) n hn hn
 refine ⟨_, r, by rw [hr, ob_s], ?_⟩
 simp only [okG, Bool.and_eq_true, decide_eq_true_eq]
 exact ⟨⟨hN'.1, by omega, hl⟩, hu⟩
theorem lexLt_trans {a b c : Int × Int} (h : lexLt a b) (g : lexLt b c) : lexLt a c := by unfold lexLt at *; omega
theorem okE_asc {N : Int} : ∀ {es : List (Int × Int)} {p : Int × Int}, okEp N p es = true → (p :: es).Pairwise lexLt
 | [], p, _ => by simp
 | e :: es, p, h => by
  rw [okE_cons, Bool.and_eq_true] at h
  have ih := okE_asc h.2
  have hpe : lexLt p e := by
   have := h.1
   simp only [stepOk, Bool.and_eq_true, decide_eq_true_eq] at this
   exact this.2
  refine List.pairwise_cons.2 ⟨fun q hq => ?_, ih⟩
  rcases List.mem_cons.1 hq with rfl | hq
  ·exact hpe
  ·exact lexLt_trans hpe ((List.pairwise_cons.1 ih).1 q hq)
theorem okG_asc {N : Int} {es : List (Int × Int)} (h : okG N es = true) : es.Pairwise lexLt := by
 simp only [okG, Bool.and_eq_true] at h
 exact (List.pairwise_cons.1 (okE_asc h.2)).2
theorem low_asc (S M : Nat) : (lowB S M).Pairwise (· < ·) := List.Pairwise.filter _ List.pairwise_lt_range
end Go.Proofs.YtookeaakpiefjaaGreatDoor
end

section
namespace Go.Ab.T30
def Nb (E : List (Nat × Nat)) (x y : Nat) : Prop := (x, y) ∈ E ∨ (y, x) ∈ E
inductive Cn (E : List (Nat × Nat)) (i : Nat) : Nat → Prop
 | refl : Cn E i i
 | step {j k : Nat} : Cn E i j → Nb E j k → Cn E i k
section
variable {E E' : List (Nat × Nat)} {i j k x y : Nat}
theorem Nb.symm (h : Nb E x y) : Nb E y x := h.elim .inr .inl
theorem Cn.trans (h : Cn E i j) (h' : Cn E j k) : Cn E i k := by
 induction h' with
 | refl => exact h
 | step _ a ih => exact .step ih a
theorem Cn.one (h : Nb E x y) : Cn E x y := .step .refl h
theorem Cn.symm (h : Cn E i j) : Cn E j i := by
 induction h with
 | refl => exact .refl
 | step _ a ih => exact (Cn.one a.symm).trans ih
theorem Nb.mono (hs : ∀ e ∈ E, e ∈ E') (h : Nb E x y) : Nb E' x y := h.elim (fun h => .inl (hs _ h)) fun h => .inr (hs _ h)
theorem Cn.mono (hs : ∀ e ∈ E, e ∈ E') (h : Cn E i j) : Cn E' i j := by
 induction h with
 | refl => exact .refl
 | step _ a ih => exact .step ih (a.mono hs)
theorem Cn.closed {Q : Nat → Prop} (h : Cn E i j) (hi : Q i) (hc : ∀ x y, Q x → Nb E x y → Q y) : Q j := by
 induction h with
 | refl => exact hi
 | step _ a ih => exact hc _ _ ih a
theorem cn_nil : Cn [] i j ↔ i = j := ⟨fun h => h.closed (Q := fun j => i = j) rfl fun _ _ _ h => by rcases h with h | h <;> simp at h, fun h => h ▸ .refl⟩
theorem cn_cons {a b : Nat} : Cn ((a, b) :: E) i j ↔ Cn E i j ∨ (Cn E i a ∧ Cn E b j) ∨ (Cn E i b ∧ Cn E a j) := by
 constructor
 ·intro h
  refine h.closed (Q := fun j => Cn E i j ∨ (Cn E i a ∧ Cn E b j) ∨ (Cn E i b ∧ Cn E a j)) (.inl .refl) fun x y hx hn => ?_
  have old : Nb E x y → Cn E i y ∨ (Cn E i a ∧ Cn E b y) ∨ (Cn E i b ∧ Cn E a y) := fun hn => by
   rcases hx with h | ⟨h1, h2⟩ | ⟨h1, h2⟩
   ·exact .inl (.step h hn)
   ·exact .inr (.inl ⟨h1, .step h2 hn⟩)
   ·exact .inr (.inr ⟨h1, .step h2 hn⟩)
  rcases hn with hn | hn
  ·rcases List.mem_cons.1 hn with e | hn
   ·cases e
    rcases hx with h | ⟨h1, h2⟩ | ⟨h1, h2⟩
    ·exact .inr (.inl ⟨h, .refl⟩)
    ·exact .inr (.inl ⟨h1, .refl⟩)
    ·exact .inl h1
   ·exact old (.inl hn)
  ·rcases List.mem_cons.1 hn with e | hn
   ·cases e
    rcases hx with h | ⟨h1, h2⟩ | ⟨h1, h2⟩
    ·exact .inr (.inr ⟨h, .refl⟩)
    ·exact .inl h1
    ·exact .inr (.inr ⟨h1, .refl⟩)
   ·exact old (.inr hn)
 ·have up : ∀ {x y}, Cn E x y → Cn ((a, b) :: E) x y := fun h => h.mono fun e he => by simp [he]
  have ab : Cn ((a, b) :: E) a b := .one (.inl (by simp))
  rintro (h | ⟨h1, h2⟩ | ⟨h1, h2⟩)
  ·exact up h
  ·exact ((up h1).trans ab).trans (up h2)
  ·exact ((up h1).trans ab.symm).trans (up h2)
theorem cn_perm (h : ∀ e, e ∈ E ↔ e ∈ E') : Cn E i j ↔ Cn E' i j := ⟨fun g => g.mono fun e he => (h e).1 he, fun g => g.mono fun e he => (h e).2 he⟩
def joinR (r : Nat → Nat) (e : Nat × Nat) : Nat → Nat := fun x => if r x = max (r e.1) (r e.2) then min (r e.1) (r e.2) else r x
structure Rt (r : Nat → Nat) (E : List (Nat × Nat)) : Prop where
 le : ∀ x, r x ≤ x
 rr : ∀ x, r (r x) = r x
 cn : ∀ x y, r x = r y ↔ Cn E x y
theorem Rt.id : Rt (fun x => x) [] := ⟨fun _ => Nat.le_refl _, fun _ => rfl, fun _ _ => cn_nil.symm⟩
theorem joinR_same {r : Nat → Nat} {e : Nat × Nat} (h : r e.1 = r e.2) : joinR r e = r := by
 funext x
 simp only [joinR, h, Nat.max_self, Nat.min_self]
 split
 ·rename_i h; exact h.symm
 ·rfl
theorem Rt.join {r : Nat → Nat} (h : Rt r E) (e : Nat × Nat) : Rt (joinR r e) (e :: E) := by
 obtain ⟨a, b⟩ := e
 have hmin : ∀ x, joinR r (a, b) x ≤ r x := fun x => by
  simp only [joinR]; split <;> omega
 have hm1 : r (min (r a) (r b)) = min (r a) (r b) := by
  rcases Nat.le_total (r a) (r b) with h1 | h1
  ·rw [Nat.min_eq_left h1, h.rr]
  ·rw [Nat.min_eq_right h1, h.rr]
 refine ⟨fun x => Nat.le_trans (hmin x) (h.le x), fun x => ?_, fun x y => ?_⟩
 ·simp only [joinR]
  by_cases h1 : r x = max (r a) (r b)
  ·rw [if_pos h1, hm1]
   split <;> omega
  ·rw [if_neg h1, h.rr, if_neg h1]
 ·rw [cn_cons, ← h.cn, ← h.cn, ← h.cn, ← h.cn, ← h.cn]
  simp only [joinR]
  have h2 : max (r a) (r b) = r a ∧ min (r a) (r b) = r b ∨ max (r a) (r b) = r b ∧ min (r a) (r b) = r a := by omega
  split <;> split <;> omega
theorem Rt.joins : ∀ {T E : List (Nat × Nat)} {r : Nat → Nat}, Rt r E → Rt (T.foldl joinR r) (T.reverse ++ E) := by
 intro T
 induction T with
 | nil => intro E r h; exact h
 | cons e T ih =>
  intro E r h
  have := ih (h.join e)
  rwa [List.foldl_cons, List.reverse_cons, List.append_assoc]
def rep (T : List (Nat × Nat)) : Nat → Nat := T.foldl joinR (fun x => x)
theorem rep_rt (T : List (Nat × Nat)) : Rt (rep T) T.reverse := by
 have := Rt.joins (T := T) Rt.id
 rwa [List.append_nil] at this
theorem rep_cn {T : List (Nat × Nat)} : rep T x = rep T y ↔ Cn T x y := ((rep_rt T).cn x y).trans (cn_perm fun e => List.mem_reverse)
def heads (V : List Nat) (r : Nat → Nat) : Nat := (V.filter fun v => r v == v).length
theorem filter_less {p q : Nat → Bool} {a : Nat} : ∀ {V : List Nat}, V.Nodup → a ∈ V → p a = true → (∀ v, q v = true ↔ p v = true ∧ v ≠ a) → (V.filter p).length = (V.filter q).length + 1 := by
 intro V
 induction V with
 | nil => intro _ h; cases h
 | cons v V ih =>
  intro hn ha hp hq
  rw [List.nodup_cons] at hn
  by_cases e : v = a
  ·subst e
   have hqa : q v = false := by
    cases h : q v with
    | false => rfl
    | true => exact absurd rfl ((hq v).1 h).2
   rw [List.filter_cons_of_pos hp, List.filter_cons_of_neg (by simp [hqa]), List.length_cons]
   congr 2
   refine List.filter_congr fun x hx => ?_
   have hne : x ≠ v := fun e => hn.1 (e ▸ hx)
   have := hq x
   cases h1 : p x <;> cases h2 : q x <;> simp_all
  ·have ha' : a ∈ V := by rcases List.mem_cons.1 ha with h | h; exact absurd h.symm e; exact h
   have := ih hn.2 ha' hp hq
   have hv : q v = p v := by
    have := hq v
    cases h1 : p v <;> cases h2 : q v <;> simp_all
   by_cases h1 : p v = true
   ·rw [List.filter_cons_of_pos h1, List.filter_cons_of_pos (by rw [hv]; exact h1), List.length_cons, List.length_cons, this]
   ·rw [List.filter_cons_of_neg h1, List.filter_cons_of_neg (by rw [hv]; exact h1), this]
theorem heads_join {V : List Nat} {r : Nat → Nat} {e : Nat × Nat} (hV : V.Nodup) (hr : ∀ x, r (r x) = r x) (h1 : r e.1 ∈ V) (h2 : r e.2 ∈ V) (hne : r e.1 ≠ r e.2) : heads V r = heads V (joinR r e) + 1 := by
 have hm : max (r e.1) (r e.2) ∈ V := by
  rcases Nat.le_total (r e.1) (r e.2) with h | h
  ·rwa [Nat.max_eq_right h]
  ·rwa [Nat.max_eq_left h]
 have hrm : r (max (r e.1) (r e.2)) = max (r e.1) (r e.2) := by
  rcases Nat.le_total (r e.1) (r e.2) with h | h
  ·rw [Nat.max_eq_right h, hr]
  ·rw [Nat.max_eq_left h, hr]
 refine filter_less (a := max (r e.1) (r e.2)) hV hm (by simp only [beq_iff_eq]; exact hrm) fun v => ?_
 simp only [beq_iff_eq, joinR]
 constructor
 ·intro h
  split at h
  ·rename_i h3
   exfalso
   have h4 : r v = v := by rw [← h] at h3 ⊢; rcases Nat.le_total (r e.1) (r e.2) with h | h <;> simp only [Nat.min_eq_left h, Nat.min_eq_right h, hr]
   omega
  ·rename_i h3; exact ⟨h, fun e => h3 (by rw [e, hrm])⟩
 ·rintro ⟨h, h3⟩
  rw [if_neg (by rw [h]; exact h3)]; exact h
def succs (r : Nat → Nat) : List (Nat × Nat) → Nat
 | [] => 0
 | e :: T => (if r e.1 = r e.2 then 0 else 1) + succs (joinR r e) T
def allJoin (r : Nat → Nat) : List (Nat × Nat) → Bool
 | [] => true
 | e :: T => !(r e.1 == r e.2) && allJoin (joinR r e) T
theorem succs_le : ∀ (T : List (Nat × Nat)) (r : Nat → Nat), succs r T ≤ T.length
 | [], _ => Nat.le_refl _
 | e :: T, r => by
  have := succs_le T (joinR r e)
  simp only [succs, List.length_cons]
  split <;> omega
theorem succs_all : ∀ (T : List (Nat × Nat)) (r : Nat → Nat), succs r T = T.length ↔ allJoin r T = true
 | [], _ => by simp [succs, allJoin]
 | e :: T, r => by
  have h1 := succs_le T (joinR r e)
  have h2 := succs_all T (joinR r e)
  simp only [succs, List.length_cons, allJoin, Bool.and_eq_true, Bool.not_eq_true', beq_eq_false_iff_ne, ne_eq]
  by_cases h : r e.1 = r e.2
  ·rw [if_pos h]; simp [h]; omega
  ·rw [if_neg h, ← h2]; simp [h]; omega
theorem heads_joins {V : List Nat} (hV : V.Nodup) : ∀ (T : List (Nat × Nat)) {E : List (Nat × Nat)} {r : Nat → Nat}, Rt r E → (∀ x ∈ V, r x ∈ V) → (∀ e ∈ T, e.1 ∈ V ∧ e.2 ∈ V) → heads V r = heads V (T.foldl joinR r) + succs r T ∧ ∀ x ∈ V, T.foldl joinR r x ∈ V
 | [], _, _, _, hv, _ => ⟨rfl, hv⟩
 | e :: T, E, r, h, hv, ht => by
  have he := ht e (by simp)
  have hv' : ∀ x ∈ V, joinR r e x ∈ V := fun x hx => by
   simp only [joinR]
   split
   ·rcases Nat.le_total (r e.1) (r e.2) with h | h
    ·rw [Nat.min_eq_left h]; exact hv _ he.1
    ·rw [Nat.min_eq_right h]; exact hv _ he.2
   ·exact hv x hx
  have ih := heads_joins hV T (h.join e) hv' fun e he => ht e (by simp [he])
  refine ⟨?_, ih.2⟩
  rw [List.foldl_cons]
  simp only [succs]
  by_cases hne : r e.1 = r e.2
  ·rw [if_pos hne, Nat.zero_add, ← ih.1, joinR_same hne]
  ·rw [if_neg hne, heads_join hV h.rr (hv _ he.1) (hv _ he.2) hne, ih.1]; omega
theorem heads_id (V : List Nat) : heads V (fun x => x) = V.length := by simp [heads]
theorem rep_heads {V : List Nat} (hV : V.Nodup) {T : List (Nat × Nat)} (ht : ∀ e ∈ T, e.1 ∈ V ∧ e.2 ∈ V) : V.length = heads V (rep T) + succs (fun x => x) T ∧ ∀ x ∈ V, rep T x ∈ V := by
 have := heads_joins hV T Rt.id (fun x h => h) ht
 rwa [heads_id] at this
theorem filter_le_one {p : Nat → Bool} : ∀ {V : List Nat}, V.Nodup → (∀ i j, i ∈ V → j ∈ V → p i = true → p j = true → i = j) → (V.filter p).length ≤ 1 := by
 intro V
 induction V with
 | nil => intro _ _; exact Nat.zero_le _
 | cons v V ih =>
  intro hn h
  rw [List.nodup_cons] at hn
  by_cases hp : p v = true
  ·rw [List.filter_cons_of_pos hp]
   have : V.filter p = [] := List.filter_eq_nil_iff.2 fun x hx hpx => hn.1 ((h v x (by simp) (by simp [hx]) hp hpx) ▸ hx)
   rw [this]; exact Nat.le_refl _
  ·rw [List.filter_cons_of_neg hp]
   exact ih hn.2 fun i j hi hj => h i j (by simp [hi]) (by simp [hj])
theorem one_class {V : List Nat} (hV : V.Nodup) {T : List (Nat × Nat)} (ht : ∀ e ∈ T, e.1 ∈ V ∧ e.2 ∈ V) : heads V (rep T) ≤ 1 ↔ ∀ x ∈ V, ∀ y ∈ V, Cn T x y := by
 have hr := rep_rt T
 have hv := (rep_heads hV ht).2
 constructor
 ·intro h x hx y hy
  rw [← rep_cn]
  have hmem : ∀ z ∈ V, rep T z ∈ V.filter fun v => rep T v == v := fun z hz => List.mem_filter.2 ⟨hv z hz, by simp only [beq_iff_eq]; exact hr.rr z⟩
  have one : ∀ {l : List Nat} {a b : Nat}, l.length ≤ 1 → a ∈ l → b ∈ l → a = b := by
   intro l a b hl ha hb
   match l with
   | [] => cases ha
   | [c] => rw [List.mem_singleton.1 ha, List.mem_singleton.1 hb]
   | _ :: _ :: _ => simp at hl
  exact one h (hmem x hx) (hmem y hy)
 ·intro h
  refine filter_le_one hV fun i j hi hj h1 h2 => ?_
  have := rep_cn.2 (h i hi j hj)
  rw [← eq_of_beq h1, ← eq_of_beq h2, this]
theorem heads_pos {V : List Nat} (hV : V.Nodup) {T : List (Nat × Nat)} (ht : ∀ e ∈ T, e.1 ∈ V ∧ e.2 ∈ V) {x : Nat} (hx : x ∈ V) : 0 < heads V (rep T) :=
 List.length_pos_of_mem (List.mem_filter.2 ⟨(rep_heads hV ht).2 x hx, by simp only [beq_iff_eq]; exact (rep_rt T).rr x⟩)
theorem tree_iff {V : List Nat} (hV : V.Nodup) {T : List (Nat × Nat)} (ht : ∀ e ∈ T, e.1 ∈ V ∧ e.2 ∈ V) {x : Nat} (hx : x ∈ V) (hl : T.length + 1 = V.length) : allJoin (fun x => x) T = true ↔ ∀ y ∈ V, Cn T x y := by
 have h1 := (rep_heads hV ht).1
 have h2 := succs_le T fun x => x
 have h3 := heads_pos hV ht hx
 rw [← succs_all]
 have : heads V (rep T) ≤ 1 ↔ ∀ y ∈ V, Cn T x y := (one_class hV ht).trans ⟨fun h y hy => h x hx y hy, fun h y hy z hz => (h y hy).symm.trans (h z hz)⟩
 rw [← this]
 omega
theorem tree_bridge {V : List Nat} (hV : V.Nodup) {T T' : List (Nat × Nat)} {a b : Nat} (ht : ∀ e ∈ T, e.1 ∈ V ∧ e.2 ∈ V) {x : Nat} (hx : x ∈ V) (hl : T.length + 1 = V.length) (hc : ∀ y ∈ V, Cn T x y) (hT : ∀ e, e ∈ T ↔ e = (a, b) ∨ e ∈ T') (hl' : T'.length < T.length) : ¬ Cn T' a b := by
 intro h
 have ht' : ∀ e ∈ T', e.1 ∈ V ∧ e.2 ∈ V := fun e he => ht e ((hT e).2 (.inr he))
 have h1 := (rep_heads hV ht').1
 have h2 := succs_le T' fun x => x
 have h3 : heads V (rep T') ≤ 1 := (one_class hV ht').2 fun y hy z hz => by
  have hyz : Cn T y z := (hc y hy).symm.trans (hc z hz)
  have : Cn ((a, b) :: T') y z := (cn_perm fun e => by rw [hT e, List.mem_cons]).1 hyz
  rcases cn_cons.1 this with g | ⟨g1, g2⟩ | ⟨g1, g2⟩
  ·exact g
  ·exact (g1.trans h).trans g2
  ·exact (g1.trans h.symm).trans g2
 omega
theorem way_on {R B : List (Nat × Nat)} {at_ to : Nat} (hne : at_ ≠ to) (h : Cn R at_ to) (hB : ∀ e, e ∈ R → e ∈ B ∨ e.1 = at_ ∨ e.2 = at_) (hB' : ∀ e ∈ B, e.1 ≠ at_ ∧ e.2 ≠ at_) : ∃ v, Nb R at_ v ∧ Cn B v to ∧ v ≠ at_ := by
 refine Classical.byContradiction fun hno => ?_
 have key : ∀ z, Cn R to z → Cn B z to ∧ z ≠ at_ := fun z hz => by
  refine hz.closed (Q := fun z => Cn B z to ∧ z ≠ at_) ⟨.refl, fun e => hne e.symm⟩ fun x y hx hn => ?_
  have hy : y ≠ at_ := fun e => hno ⟨x, by rw [← e]; exact hn.symm, hx.1, hx.2⟩
  have hnB : Nb B x y := by
   rcases hn with hn | hn
   ·rcases hB _ hn with h | h | h
    ·exact .inl h
    ·exact absurd h hx.2
    ·exact absurd h hy
   ·rcases hB _ hn with h | h | h
    ·exact .inr h
    ·exact absurd h hy
    ·exact absurd h hx.2
  exact ⟨(Cn.one hnB.symm).trans hx.1, hy⟩
 exact (key at_ h.symm).2 rfl
end
end Go.Ab.T30
end

section
namespace Go.Proofs.YtookeaakpiefjaaGreatDoor
open Go Go.Ab Go.Ab.W Go.Ab.T30
def stepE (s : Nat) (e : Nat × Nat) : Nat := if s.testBit e.1 || s.testBit e.2 then s ||| 2 ^ e.1 ||| 2 ^ e.2 else s
def rnd (T : List (Nat × Nat)) (s : Nat) : Nat := T.foldl stepE s
def In64 (T : List (Nat × Nat)) : Prop := ∀ e ∈ T, e.1 < 64 ∧ e.2 < 64
theorem stepE_lt {s : Nat} {e : Nat × Nat} (hs : s < 2 ^ 64) (h1 : e.1 < 64) (h2 : e.2 < 64) : stepE s e < 2 ^ 64 := by
 unfold stepE
 split
 ·exact or_lt' (or_lt' hs (one_lt h1)) (one_lt h2)
 ·exact hs
theorem stepE_bit {s i : Nat} {e : Nat × Nat} : (stepE s e).testBit i = true ↔ s.testBit i = true ∨ ((s.testBit e.1 = true ∨ s.testBit e.2 = true) ∧ (i = e.1 ∨ i = e.2)) := by
 unfold stepE
 by_cases h : (s.testBit e.1 || s.testBit e.2) = true
 ·rw [if_pos h]
  simp only [Nat.testBit_or, Bool.or_eq_true, tb_one, decide_eq_true_eq]
  rw [Bool.or_eq_true] at h
  constructor
  ·rintro ((h1 | h1) | h1)
   ·exact .inl h1
   ·exact .inr ⟨h, .inl h1⟩
   ·exact .inr ⟨h, .inr h1⟩
  ·rintro (h1 | ⟨_, h1 | h1⟩)
   ·exact .inl (.inl h1)
   ·exact .inl (.inr h1)
   ·exact .inr h1
 ·rw [if_neg h]
  rw [Bool.or_eq_true] at h
  exact ⟨.inl, fun h1 => h1.elim id fun h1 => absurd h1.1 h⟩
theorem stepE_sub {s i : Nat} {e : Nat × Nat} (h : s.testBit i = true) : (stepE s e).testBit i = true := stepE_bit.2 (.inl h)
theorem rnd_sub : ∀ {T : List (Nat × Nat)} {s i : Nat}, s.testBit i = true → (rnd T s).testBit i = true
 | [], _, _, h => h
 | e :: T, s, i, h => rnd_sub (T := T) (stepE_sub (e := e) h)
theorem rnd_lt : ∀ {T : List (Nat × Nat)} {s : Nat}, In64 T → s < 2 ^ 64 → rnd T s < 2 ^ 64
 | [], _, _, h => h
 | e :: T, s, ht, h => rnd_lt (T := T) (fun e he => ht e (by simp [he])) (stepE_lt h (ht e (by simp)).1 (ht e (by simp)).2)
theorem rnd_cn {T : List (Nat × Nat)} {x : Nat} : ∀ {T' : List (Nat × Nat)} {s : Nat}, (∀ e ∈ T', e ∈ T) → (∀ i, s.testBit i = true → Cn T x i) → ∀ i, (rnd T' s).testBit i = true → Cn T x i
 | [], _, _, h => h
 | e :: T', s, ht, h => rnd_cn (T' := T') (fun e he => ht e (by simp [he])) fun i hi => by
  obtain ⟨a, b⟩ := e
  have hab : Nb T a b := .inl (ht (a, b) (by simp))
  rcases stepE_bit.1 hi with h1 | ⟨h1, h2⟩
  ·exact h i h1
  ·rcases h1 with h1 | h1 <;> rcases h2 with rfl | rfl
   ·exact h _ h1
   ·exact .step (h _ h1) hab
   ·exact .step (h _ h1) hab.symm
   ·exact h _ h1
theorem sub_eq {a b : Nat} (h1 : ∀ i, a.testBit i = true → b.testBit i = true) (h2 : ∀ i, b.testBit i = true → a.testBit i = true) : a = b := word_ext fun i => ⟨h1 i, h2 i⟩
theorem rnd_fix : ∀ {T : List (Nat × Nat)} {s : Nat}, rnd T s = s → ∀ e ∈ T, (s.testBit e.1 = true ↔ s.testBit e.2 = true)
 | [], _, _, e, he => by cases he
 | e :: T, s, h, e', he => by
  have h1 : stepE s e = s := sub_eq (fun i hi => by
   have : (rnd T (stepE s e)).testBit i = true := rnd_sub hi
   rw [show rnd T (stepE s e) = rnd (e :: T) s from rfl, h] at this; exact this) fun i hi => stepE_sub hi
  rcases List.mem_cons.1 he with rfl | he
  ·constructor
   ·intro h2; rw [← h1]; exact stepE_bit.2 (.inr ⟨.inl h2, .inr rfl⟩)
   ·intro h2; rw [← h1]; exact stepE_bit.2 (.inr ⟨.inr h2, .inl rfl⟩)
  ·have h2 : rnd T s = s := by
    have : rnd (e :: T) s = rnd T (stepE s e) := rfl
    rw [this, h1] at h; exact h
   exact rnd_fix h2 e' he
theorem rnd_id : ∀ {T : List (Nat × Nat)} {s : Nat}, (∀ e ∈ T, (s.testBit e.1 = true ↔ s.testBit e.2 = true)) → rnd T s = s
 | [], _, _ => rfl
 | e :: T, s, h => by
  have h1 : stepE s e = s := sub_eq (fun i hi => by
   have he := h e (by simp)
   rcases stepE_bit.1 hi with h1 | ⟨h1, rfl | rfl⟩
   ·exact h1
   ·exact h1.elim id he.2
   ·exact h1.elim he.1 id) fun i hi => stepE_sub hi
  show rnd T (stepE s e) = s
  rw [h1]
  exact rnd_id fun e he => h e (by simp [he])
def Clo (T : List (Nat × Nat)) (x w : Nat) : Prop := w < 2 ^ 64 ∧ ∀ j, w.testBit j = true ↔ Cn T x j
theorem Clo.uniq {T : List (Nat × Nat)} {x w w' : Nat} (h : Clo T x w) (h' : Clo T x w') : w = w' := word_ext fun i => (h.2 i).trans (h'.2 i).symm
theorem clo_of {T : List (Nat × Nat)} {x w : Nat} (hw : w < 2 ^ 64) (hx : w.testBit x = true) (hc : ∀ i, w.testBit i = true → Cn T x i) (hf : rnd T w = w) : Clo T x w := by
 refine ⟨hw, fun j => ⟨hc j, fun h => ?_⟩⟩
 refine h.closed (Q := fun j => w.testBit j = true) hx fun a b ha hn => ?_
 rcases hn with hn | hn
 ·exact (rnd_fix hf _ hn).1 ha
 ·exact (rnd_fix hf _ hn).2 ha
theorem filter_grow {p q : Nat → Bool} : ∀ {l : List Nat}, (∀ x, p x = true → q x = true) → (∃ x ∈ l, q x = true ∧ p x = false) → (l.filter p).length < (l.filter q).length := by
 intro l
 induction l with
 | nil => intro _ h; obtain ⟨x, h, _⟩ := h; cases h
 | cons a l ih =>
  intro h1 h2
  have hle : ∀ l : List Nat, (l.filter p).length ≤ (l.filter q).length := fun l => by
   induction l with
   | nil => exact Nat.le_refl _
   | cons b l ih =>
    by_cases hb : p b = true
    ·rw [List.filter_cons_of_pos hb, List.filter_cons_of_pos (h1 b hb)]; simp only [List.length_cons]; omega
    ·rw [List.filter_cons_of_neg hb]
     by_cases hq : q b = true
     ·rw [List.filter_cons_of_pos hq]; simp only [List.length_cons]; omega
     ·rw [List.filter_cons_of_neg hq]; exact ih
  obtain ⟨x, hx, h3, h4⟩ := h2
  by_cases ha : p a = true
  ·rw [List.filter_cons_of_pos ha, List.filter_cons_of_pos (h1 a ha)]
   have hx' : x ∈ l := by
    rcases List.mem_cons.1 hx with rfl | hx
    ·rw [ha] at h4; cases h4
    ·exact hx
   have := ih h1 ⟨x, hx', h3, h4⟩
   simp only [List.length_cons]; omega
  ·rw [List.filter_cons_of_neg ha]
   by_cases hq : q a = true
   ·rw [List.filter_cons_of_pos hq]
    have := hle l
    simp only [List.length_cons]; omega
   ·rw [List.filter_cons_of_neg hq]
    have hx' : x ∈ l := by
     rcases List.mem_cons.1 hx with rfl | hx
     ·exact absurd h3 hq
     ·exact hx
    exact ih h1 ⟨x, hx', h3, h4⟩
theorem rk_grow {a b : Nat} (hb : b < 2 ^ 64) (h : ∀ i, a.testBit i = true → b.testBit i = true) (hne : b ≠ a) : rk a 64 < rk b 64 := by
 refine filter_grow (p := fun i => a.testBit i) (q := fun i => b.testBit i) h ?_
 refine Classical.byContradiction fun hno => hne (sub_eq (fun i hi => ?_) h)
 refine Classical.byContradiction fun hn => hno ⟨i, List.mem_range.2 (tb_lt hb hi), hi, by simpa using hn⟩
theorem rk_pos {a x : Nat} (h : a.testBit x = true) (hx : x < 64) : 1 ≤ rk a 64 := List.length_pos_of_mem (low_mem.2 ⟨hx, h⟩)
def itr (T : List (Nat × Nat)) : Nat → Nat → Nat
 | 0, s => s
 | k + 1, s => itr T k (rnd T s)
theorem itr_clo {T : List (Nat × Nat)} {x : Nat} (hT : In64 T) (hx : x < 64) : ∀ (k s : Nat), s < 2 ^ 64 → s.testBit x = true → (∀ i, s.testBit i = true → Cn T x i) → (rnd T s = s ∨ 65 ≤ k + rk s 64) → Clo T x (itr T k s)
 | 0, s, hs, hb, hc, hk => by
  rcases hk with hk | hk
  ·exact clo_of hs hb hc hk
  ·have : rk s 64 ≤ 64 := low_len _ _
   omega
 | k + 1, s, hs, hb, hc, hk => by
  refine itr_clo hT hx k (rnd T s) (rnd_lt hT hs) (rnd_sub hb) (rnd_cn (fun e h => h) hc) ?_
  by_cases h : rnd T s = s
  ·exact .inl (by rw [h, h])
  ·rcases hk with hk | hk
   ·exact absurd hk h
   ·have := rk_grow (rnd_lt hT hs) (fun i => rnd_sub (T := T)) h
    exact .inr (by omega)
theorem itr_one {T : List (Nat × Nat)} {x : Nat} (hT : In64 T) (hx : x < 64) : Clo T x (itr T 64 (2 ^ x)) := by
 have hb : (2 ^ x).testBit x = true := by rw [tb_one]; simp
 refine itr_clo hT hx 64 (2 ^ x) (one_lt hx) hb (fun i hi => ?_) (.inr ?_)
 ·rw [tb_one, decide_eq_true_eq] at hi; rw [hi]; exact .refl
 ·have := rk_pos hb hx; omega
end Go.Proofs.YtookeaakpiefjaaGreatDoor
end

section
namespace Go.Proofs.YtookeaakpiefjaaGreatDoor
open Go Go.Ab Go.Ab.W Go.Ab.T30
def eg (es : List (Int × Int)) (k : Int) : Nat × Nat := match es[k.toNat]? with
 | some e => (e.1.toNat, e.2.toNat)
 | none => (0, 0)
def Vl (es : List (Int × Int)) (k : Int) : Prop := 0 ≤ k ∧ k < (es.length : Int)
theorem vl_get {N : Nat} {es : List (Int × Int)} {k : Int} (h : Okay N es) (hk : Vl es k) : ∃ a b : Nat, es[k.toNat]? = some ((a : Int), (b : Int)) ∧ eg es k = (a, b) ∧ a < b ∧ b < 64 ∧ b < N ∧ inB k es.length = true := by
 obtain ⟨i, rfl⟩ := Int.eq_ofNat_of_zero_le hk.1
 have hi : i < es.length := by have := hk.2; omega
 obtain ⟨a, b, e, h1, h2⟩ := h.mem _ (List.getElem_mem hi)
 have h3 : es[((i : Nat) : Int).toNat]? = some ((a : Int), (b : Int)) := by rw [Int.toNat_natCast, List.getElem?_eq_getElem hi, e]
 have := h.le
 exact ⟨a, b, h3, by unfold eg; rw [h3]; simp, h1, by omega, h2, inB_nat hi⟩
theorem in64_map {N : Nat} {es : List (Int × Int)} (h : Okay N es) {l : List Int} (hl : ∀ k ∈ l, Vl es k) : In64 (l.map (eg es)) := fun e he => by
 obtain ⟨k, hk, rfl⟩ := List.mem_map.1 he
 obtain ⟨a, b, _, h2, h3, h4, _⟩ := vl_get h (hl k hk)
 rw [h2]; exact ⟨Nat.lt_trans h3 h4, h4⟩
theorem foldl_itr (T : List (Nat × Nat)) : ∀ (l : List Nat) (s : Nat), l.foldl (fun s _ => rnd T s) s = itr T l.length s
 | [], _ => rfl
 | _ :: l, s => foldl_itr T l (rnd T s)
theorem L84_1_eq {N : Nat} {es : List (Int × Int)} (h : Okay N es) {l : List Int} (hl : ∀ k ∈ l, Vl es k) (n0 n s : Nat) (hs : s < 2 ^ 64) (hb : l.length < 4611686018427387904) (hn : l.length < n) : lpN (L84_1 n0 l es) n (s, 0) = some (rnd (l.map (eg es)) s) := by
 have := lp_list0 (body := L84_1 n0 l es) l (fun (s : Nat) (v : Int) => (s, v)) (fun s k => stepE s (eg es k)) id (fun _ s => s < 2 ^ 64) (fun s i k hk hI => ?_) (fun s _ => ?_) (n := n) (s := s) hs hn
 ·rw [this.1]; unfold rnd; rw [List.foldl_map]; rfl
 ·have hlt := (List.getElem?_eq_some_iff.1 hk).1
  obtain ⟨a, b, h1, h2, h3, h4, _, h5⟩ := vl_get h (hl k (List.mem_of_getElem? hk))
  have hk' : l[((i : Nat) : Int).toNat]? = some k := by rw [Int.toNat_natCast]; exact hk
  refine ⟨?_, by rw [h2]; exact stepE_lt hI (by simp only; omega) (by simp only; omega)⟩
  unfold L84_1
  simp only [decide_eq_true (show ((i : Nat) : Int) < (l.length : Int) by omega), br_t, inB_nat hlt, gd_t, hk', ob_s, h5, h1, F86_eq n0 s a hI (by omega), F86_eq n0 s b hI h4, F106_eq n0 a (by omega), F106_eq n0 b h4, wrap_succ (show i < 4611686018427387904 by omega), h2]
  unfold stepE
  cases ha : s.testBit a <;> cases hbb : s.testBit b <;> simp only [br_t, br_f, ob_s, Bool.or_true, Bool.or_false, Bool.true_or, if_true, Bool.false_eq_true, if_false] <;> first
   | rfl
   | (rw [word_or hI (one_lt (show a < 64 by omega)), word_or (or_lt' hI (one_lt (show a < 64 by omega))) (one_lt h4)])
 ·unfold L84_1
  simp [br]
theorem F84_eq {N : Nat} {es : List (Int × Int)} (h : Okay N es) {l : List Int} (hl : ∀ k ∈ l, Vl es k) (n i : Nat) (x : Int) (hi : i < 64) (hb : l.length < 4611686018427387904) (hn : l.length < n) (hn2 : 64 < n) : F84 n x es l (i : Int) = some (itr (l.map (eg es)) 64 (2 ^ i)) := by
 have := lp_upto (body := L84_2 n l es) 64 (fun (s : Nat) (v : Int) => (s, v)) (fun s _ => rnd (l.map (eg es)) s) id (fun _ s => s < 2 ^ 64) (fun s i hi hI => ?_) (fun s _ => ?_) (n := n) (s := 2 ^ i) (one_lt hi) hn2
 ·unfold F84
  rw [F106_eq n i hi, ob_s, this.1, foldl_itr, List.length_range]; rfl
 ·refine ⟨?_, rnd_lt (in64_map h hl) hI⟩
  unfold L84_2
  simp only [decide_eq_true (show ((i : Nat) : Int) < 64 by omega), br_t, L84_1_eq h hl n n s hI hb hn, ob_s, wrap_succ (show i < 4611686018427387904 by omega)]
 ·unfold L84_2
  simp [br]
theorem F84_clo {N : Nat} {es : List (Int × Int)} (h : Okay N es) {l : List Int} (hl : ∀ k ∈ l, Vl es k) (n i : Nat) (x : Int) (hi : i < 64) (hb : l.length < 4611686018427387904) (hn : l.length < n) (hn2 : 64 < n) : ∃ w, F84 n x es l (i : Int) = some w ∧ Clo (l.map (eg es)) i w := ⟨_, F84_eq h hl n i x hi hb hn hn2, itr_one (in64_map h hl) hi⟩
theorem foldl_filter (x : Int) : ∀ (l out : List Int), l.foldl (fun out k => if k = x then out else out ++ [k]) out = out ++ l.filter (fun k => !decide (k = x))
 | [], out => by simp
 | k :: l, out => by
  rw [List.foldl_cons, foldl_filter x l]
  by_cases h : k = x
  ·rw [if_pos h, List.filter_cons_of_neg (by simp [h])]
  ·rw [if_neg h, List.filter_cons_of_pos (by simp [h]), List.append_assoc]; rfl
def wo (l : List Int) (x : Int) : List Int := l.filter (fun k => !decide (k = x))
theorem F83_eq (n : Nat) (l : List Int) (x : Int) (hb : l.length ≤ 1073741824) (hn : l.length < n) : F83 n l x = some (wo l x) := by
 have := lp_list0 (body := L83_1 n l x) l (fun (s : List Int) (v : Int) => (s, v)) (fun out k => if k = x then out else out ++ [k]) id (fun i s => s.length ≤ i) (fun s i k hk hI => ?_) (fun s _ => ?_) (n := n) (s := []) (Nat.le_refl _) hn
 ·unfold F83
  rw [this.1, foldl_filter]; rfl
 ·have hlt := (List.getElem?_eq_some_iff.1 hk).1
  have hk' : l[((i : Nat) : Int).toNat]? = some k := by rw [Int.toNat_natCast]; exact hk
  unfold L83_1
  by_cases h : k = x
  ·rw [if_pos h]
   refine ⟨?_, by omega⟩
   simp only [decide_eq_true (show ((i : Nat) : Int) < (l.length : Int) by omega), br_t, inB_nat hlt, gd_t, hk', ob_s, decide_eq_true h, Bool.not_true, br_f, wrap_succ (show i < 4611686018427387904 by omega)]
  ·rw [if_neg h]
   refine ⟨?_, by rw [List.length_append]; simp only [List.length_singleton]; omega⟩
   have hl : lim (s ++ [k]).length = true := lim_of (by rw [List.length_append]; simp only [List.length_singleton]; omega)
   simp only [decide_eq_true (show ((i : Nat) : Int) < (l.length : Int) by omega), br_t, inB_nat hlt, gd_t, hk', ob_s, decide_eq_false h, Bool.not_false, hl, wrap_succ (show i < 4611686018427387904 by omega)]
 ·unfold L83_1
  simp [br]
theorem wo_len {l : List Int} {x : Int} : (wo l x).length = l.length ↔ x ∉ l := by
 unfold wo
 rw [List.length_filter_eq_length_iff]
 constructor
 ·intro h hx
  have := h x hx
  simp at this
 ·intro h k hk
  simp only [Bool.not_eq_true', decide_eq_false_iff_not]
  exact fun e => h (e ▸ hk)
theorem wo_sub {l : List Int} {x k : Int} (h : k ∈ wo l x) : k ∈ l ∧ k ≠ x := by
 unfold wo at h
 rw [List.mem_filter] at h
 simpa using h
theorem wo_mem {l : List Int} {x k : Int} (h : k ∈ l) (hne : k ≠ x) : k ∈ wo l x := by
 unfold wo
 rw [List.mem_filter]
 simpa using ⟨h, hne⟩
theorem wo_le {l : List Int} {x : Int} : (wo l x).length ≤ l.length := List.length_filter_le _ _
theorem L129_eq (n0 : Nat) (l : List Int) (x : Int) (hb : l.length < 4611686018427387904) : ∀ k i n, i + k = l.length → k < n → ∃ r, lpN (L129_1 n0 l x) n ((i : Nat) : Int) = some r ∧ ((∃ v, r = .inl v ∧ 0 ≤ v ∧ x ∈ l.drop i) ∨ (r = .inr () ∧ x ∉ l.drop i)) := by
 intro k
 induction k with
 | zero =>
  intro i n hi hk
  obtain ⟨n, rfl⟩ : ∃ n', n = n' + 1 := ⟨n - 1, by omega⟩
  exact ⟨_, lp_end (by unfold L129_1; rw [br_df (by omega)]), .inr ⟨rfl, by rw [List.drop_of_length_le (by omega)]; simp⟩⟩
 | succ k ih =>
  intro i n hi hk
  obtain ⟨n, rfl⟩ : ∃ n', n = n' + 1 := ⟨n - 1, by omega⟩
  have a1 : i < l.length := by omega
  have e1 : l[((i : Nat) : Int).toNat]? = some l[i] := by simp [a1]
  rw [List.drop_eq_getElem_cons a1]
  by_cases h : x = l[i]
  ·exact ⟨_, lp_end (r := .inl ((i : Nat) : Int)) (by unfold L129_1; simp only [decide_eq_true (show ((i : Nat) : Int) < (l.length : Int) by omega), br_t, inB_nat a1, gd_t, e1, ob_s, decide_eq_true h]), .inl ⟨_, rfl, Int.natCast_nonneg _, by rw [← h]; simp⟩⟩
  ·rw [lp_next (s' := ((i + 1 : Nat) : Int)) (by unfold L129_1; simp only [decide_eq_true (show ((i : Nat) : Int) < (l.length : Int) by omega), br_t, inB_nat a1, gd_t, e1, ob_s, decide_eq_false h, br_f, wrap_succ (show i < 4611686018427387904 by omega)])]
   obtain ⟨r, h1, h2⟩ := ih (i + 1) n (by omega) (by omega)
   refine ⟨r, h1, ?_⟩
   rcases h2 with ⟨v, h2, h3, h4⟩ | ⟨h2, h3⟩
   ·exact .inl ⟨v, h2, h3, List.mem_cons_of_mem _ h4⟩
   ·exact .inr ⟨h2, fun hm => by rcases List.mem_cons.1 hm with hm | hm; exact h hm; exact h3 hm⟩
theorem F75_eq (n : Nat) (l : List Int) (x : Int) (hb : l.length < 4611686018427387904) (hn : l.length < n) : F75 n l x = some (decide (x ∈ l)) := by
 obtain ⟨r, h1, h2⟩ := L129_eq n l x hb l.length 0 n (by omega) hn
 rw [List.drop_zero] at h2
 unfold F75 F129
 rw [show lpN (L129_1 n l x) n 0 = some r from h1]
 rcases h2 with ⟨v, rfl, h3, h4⟩ | ⟨rfl, h3⟩
 ·simp only [ob_s, decide_eq_true h3, decide_eq_true h4]
 ·simp only [ob_s, decide_eq_false h3]; rfl
theorem L85_eq (n0 x : Nat) (hx : x < 2 ^ 64) (h0 : 0 < x) : ∀ k i n, i + k = tz x → k < n → lpN (L85_1 n0 x) n ((i : Nat) : Int) = some ((tz x : Nat) : Int) := by
 have ht := tz_bit h0 hx
 have h64 : tz x < 64 := tb_lt hx ht.1
 intro k
 induction k with
 | zero =>
  intro i n hi hk
  obtain ⟨n, rfl⟩ : ∃ n', n = n' + 1 := ⟨n - 1, by omega⟩
  have : i = tz x := by omega
  subst this
  exact lp_end (by unfold L85_1; rw [F86_eq n0 x _ hx h64, ob_s, ht.1]; rfl)
 | succ k ih =>
  intro i n hi hk
  obtain ⟨n, rfl⟩ : ∃ n', n = n' + 1 := ⟨n - 1, by omega⟩
  rw [lp_next (s' := ((i + 1 : Nat) : Int)) (by unfold L85_1; rw [F86_eq n0 x _ hx (by omega), ob_s, ht.2 i (by omega), wrap_succ (by omega)]; rfl)]
  exact ih (i + 1) n (by omega) (by omega)
theorem F85_eq (n x : Nat) (hx : x < 2 ^ 64) (h0 : 0 < x) (hn : 64 < n) : F85 n x = some ((tz x : Nat) : Int) := by
 have h64 : tz x < 64 := tb_lt hx (tz_bit h0 hx).1
 unfold F85
 rw [show lpN (L85_1 n x) n 0 = _ from L85_eq n x hx h0 (tz x) 0 n (by omega) (by omega), ob_s]
def stepM (but : Int) (es : List (Int × Int)) (s : Nat × Bool) (k : Int) : Nat × Bool := if k = but then s else (stepE s.1 (eg es k), s.2 || !decide (stepE s.1 (eg es k) = s.1))
theorem both_eq {a b i : Nat} : (2 ^ a ||| 2 ^ b).testBit i = true ↔ i = a ∨ i = b := by
 simp only [Nat.testBit_or, Bool.or_eq_true, tb_one, decide_eq_true_eq]
theorem grow_iff {s a b : Nat} : (¬ s &&& (2 ^ a ||| 2 ^ b) = 0 ∧ ¬ s &&& (2 ^ a ||| 2 ^ b) = 2 ^ a ||| 2 ^ b) ↔ stepE s (a, b) ≠ s := by
 have h0 : s &&& (2 ^ a ||| 2 ^ b) = 0 ↔ s.testBit a = false ∧ s.testBit b = false := by
  rw [word_zero]
  constructor
  ·intro h
   have h1 := h a; have h2 := h b
   simp only [Nat.testBit_and, Nat.testBit_or, tb_one, decide_true, Bool.true_or, Bool.or_true, Bool.and_true] at h1 h2
   exact ⟨h1, h2⟩
  ·rintro ⟨h1, h2⟩ i
   rw [Nat.testBit_and, Bool.and_eq_false_iff]
   by_cases hi : (2 ^ a ||| 2 ^ b).testBit i = true
   ·rcases both_eq.1 hi with rfl | rfl
    ·exact .inl h1
    ·exact .inl h2
   ·exact .inr (by simpa using hi)
 have h1 : s &&& (2 ^ a ||| 2 ^ b) = 2 ^ a ||| 2 ^ b ↔ s.testBit a = true ∧ s.testBit b = true := by
  constructor
  ·intro h
   have key : ∀ i, (i = a ∨ i = b) → s.testBit i = true := fun i hi => by
    have : (s &&& (2 ^ a ||| 2 ^ b)).testBit i = true := by rw [h]; exact both_eq.2 hi
    rw [Nat.testBit_and, Bool.and_eq_true] at this
    exact this.1
   exact ⟨key a (.inl rfl), key b (.inr rfl)⟩
  ·rintro ⟨h1, h2⟩
   refine word_ext fun i => ?_
   rw [Nat.testBit_and, Bool.and_eq_true, both_eq]
   constructor
   ·exact fun h => h.2
   ·rintro (rfl | rfl)
    ·exact ⟨h1, .inl rfl⟩
    ·exact ⟨h2, .inr rfl⟩
 rw [h0, h1]
 have h2 : stepE s (a, b) = s ↔ (s.testBit a = true ↔ s.testBit b = true) := by
  constructor
  ·intro h
   constructor
   ·intro h3; rw [← h]; exact stepE_bit.2 (.inr ⟨.inl h3, .inr rfl⟩)
   ·intro h3; rw [← h]; exact stepE_bit.2 (.inr ⟨.inr h3, .inl rfl⟩)
  ·intro h
   exact rnd_id (T := [(a, b)]) fun e he => by rw [List.mem_singleton.1 he]; exact h
 rw [ne_eq, h2]
 cases s.testBit a <;> cases s.testBit b <;> simp
theorem stepM_fold (but : Int) (es : List (Int × Int)) : ∀ (l : List Int) (s : Nat) (m : Bool), l.foldl (stepM but es) (s, m) = (rnd ((wo l but).map (eg es)) s, m || !decide (rnd ((wo l but).map (eg es)) s = s))
 | [], s, m => by simp [rnd, wo]
 | k :: l, s, m => by
  rw [List.foldl_cons]
  by_cases h : k = but
  ·have : wo (k :: l) but = wo l but := by unfold wo; rw [List.filter_cons_of_neg (by simp [h])]
   rw [this, show stepM but es (s, m) k = (s, m) by unfold stepM; rw [if_pos h], stepM_fold but es l]
  ·have : wo (k :: l) but = k :: wo l but := by unfold wo; rw [List.filter_cons_of_pos (by simp [h])]
   rw [this, show stepM but es (s, m) k = (stepE s (eg es k), m || !decide (stepE s (eg es k) = s)) by unfold stepM; rw [if_neg h], stepM_fold but es l]
   have e1 : rnd ((k :: wo l but).map (eg es)) s = rnd ((wo l but).map (eg es)) (stepE s (eg es k)) := rfl
   rw [e1]
   generalize hT : (wo l but).map (eg es) = T
   congr 1
   rw [Bool.or_assoc]
   congr 1
   by_cases h1 : stepE s (eg es k) = s
   ·rw [h1]; simp
   ·have : ¬ rnd T (stepE s (eg es k)) = s := fun h2 => h1 (sub_eq (fun i hi => by rw [← h2]; exact rnd_sub hi) fun i hi => stepE_sub hi)
    simp [h1, this]
theorem L81_1_eq {N : Nat} {es : List (Int × Int)} (h : Okay N es) {l : List Int} (hl : ∀ k ∈ l, Vl es k) (but : Int) (n0 n s : Nat) (m : Bool) (hs : s < 2 ^ 64) (hb : l.length < 4611686018427387904) (hn : l.length < n) : lpN (L81_1 n0 l es but) n (s, m, 0) = some (rnd ((wo l but).map (eg es)) s, m || !decide (rnd ((wo l but).map (eg es)) s = s)) := by
 have := lp_list0 (body := L81_1 n0 l es but) l (fun (s : Nat × Bool) (v : Int) => (s.1, s.2, v)) (stepM but es) id (fun _ s => s.1 < 2 ^ 64) (fun s i k hk hI => ?_) (fun s _ => ?_) (n := n) (s := (s, m)) hs hn
 ·rw [this.1, stepM_fold]; rfl
 ·obtain ⟨s, m⟩ := s
  have hlt := (List.getElem?_eq_some_iff.1 hk).1
  obtain ⟨a, b, h1, h2, h3, h4, _, h5⟩ := vl_get h (hl k (List.mem_of_getElem? hk))
  have hk' : l[((i : Nat) : Int).toNat]? = some k := by rw [Int.toNat_natCast]; exact hk
  have hI : s < 2 ^ 64 := hI
  have ha : a < 64 := by omega
  have hor : 2 ^ a ||| 2 ^ b < 2 ^ 64 := or_lt' (one_lt ha) (one_lt h4)
  refine ⟨?_, by unfold stepM; split; exact hI; rw [h2]; exact stepE_lt hI (by simp only; omega) (by simp only; omega)⟩
  unfold L81_1 stepM
  simp only [decide_eq_true (show ((i : Nat) : Int) < (l.length : Int) by omega), br_t, inB_nat hlt, gd_t, hk', hk, ob_s, h5, h1, wrap_succ (show i < 4611686018427387904 by omega), h2, decide_eq_true (Int.natCast_nonneg a), decide_eq_true (Int.natCast_nonneg b), Int.toNat_natCast, word_one ha, word_one h4, word_or (one_lt ha) (one_lt h4), word_and hI hor]
  by_cases hbut : k = but
  ·simp only [decide_eq_true hbut, Bool.not_true, br_f, ob_s, if_pos hbut]
  ·simp only [decide_eq_false hbut, Bool.not_false, br_t, if_neg hbut]
   have hg := @grow_iff s a b
   by_cases h0 : s &&& (2 ^ a ||| 2 ^ b) = 0
   ·have hst : stepE s (a, b) = s := Classical.byContradiction fun hne => (hg.2 hne).1 h0
    simp only [decide_eq_true h0, Bool.not_true, br_f, ob_s, hst, decide_true, Bool.or_false]
   ·simp only [decide_eq_false h0, Bool.not_false, br_t, ob_s]
    by_cases h6 : s &&& (2 ^ a ||| 2 ^ b) = 2 ^ a ||| 2 ^ b
    ·have hst : stepE s (a, b) = s := Classical.byContradiction fun hne => (hg.2 hne).2 h6
     simp only [decide_eq_true h6, Bool.not_true, br_f, ob_s, hst, decide_true, Bool.or_false]
    ·have hst : stepE s (a, b) ≠ s := hg.1 ⟨h0, h6⟩
     simp only [decide_eq_false h6, Bool.not_false, br_t, ob_s, decide_eq_false hst, Bool.or_true, word_or hI hor]
     have : stepE s (a, b) = s ||| (2 ^ a ||| 2 ^ b) := by
      unfold stepE
      have hc : (s.testBit a || s.testBit b) = true := by
       refine Classical.byContradiction fun hc => hst ?_
       unfold stepE
       rw [if_neg hc]
      rw [if_pos hc, Nat.or_assoc]
     rw [this]
 ·unfold L81_1
  simp [br]
theorem L81_2_eq {N : Nat} {es : List (Int × Int)} (h : Okay N es) {l : List Int} (hl : ∀ k ∈ l, Vl es k) (but : Int) (n0 x : Nat) (hb : l.length < 4611686018427387904) (hn0 : l.length < n0) (hx : x < 64) :
  ∀ (j s n : Nat), s < 2 ^ 64 → s.testBit x = true → (∀ i, s.testBit i = true → Cn ((wo l but).map (eg es)) x i) → 65 ≤ j + rk s 64 → j + 1 < n → ∃ w, lpN (L81_2 n0 l es but) n (s, true) = some w ∧ Clo ((wo l but).map (eg es)) x w := by
 have hT := in64_map h (l := wo l but) fun k hk => hl k (wo_sub hk).1
 intro j
 induction j with
 | zero =>
  intro s n hs hsx hc hj
  have : rk s 64 ≤ 64 := low_len _ _
  omega
 | succ j ih =>
  intro s n hs hsx hc hj hn
  obtain ⟨n, rfl⟩ : ∃ n', n = n' + 1 := ⟨n - 1, by omega⟩
  have h1 := L81_1_eq h hl but n0 n0 s false hs hb hn0
  rw [lp_next (s' := (rnd ((wo l but).map (eg es)) s, false || !decide (rnd ((wo l but).map (eg es)) s = s))) (by unfold L81_2; simp only [br_t, h1, ob_s])]
  by_cases h2 : rnd ((wo l but).map (eg es)) s = s
  ·obtain ⟨n, rfl⟩ : ∃ n', n = n' + 1 := ⟨n - 1, by omega⟩
   rw [h2, decide_eq_true rfl]
   exact ⟨s, lp_end (by unfold L81_2; rfl), clo_of hs hsx hc h2⟩
  ·rw [decide_eq_false h2]
   have := rk_grow (rnd_lt hT hs) (fun i => rnd_sub (T := (wo l but).map (eg es))) h2
   exact ih _ n (rnd_lt hT hs) (rnd_sub hsx) (rnd_cn (fun e he => he) hc) (by omega) (by omega)
theorem F81_clo {N : Nat} {es : List (Int × Int)} (h : Okay N es) {l : List Int} (hl : ∀ k ∈ l, Vl es k) (but x1 : Int) (n x : Nat) (hb : l.length < 4611686018427387904) (hn : l.length < n) (hn2 : 70 < n) (hx : x < 64) : ∃ w, F81 n x1 es l but (x : Int) = some w ∧ Clo ((wo l but).map (eg es)) x w := by
 have hbx : (2 ^ x).testBit x = true := by rw [tb_one]; simp
 obtain ⟨w, h1, h2⟩ := L81_2_eq h hl but n x hb hn hx 64 (2 ^ x) n (one_lt hx) hbx (fun i hi => by rw [tb_one, decide_eq_true_eq] at hi; rw [hi]; exact .refl) (by have := rk_pos hbx hx; omega) (by omega)
 refine ⟨w, ?_, h2⟩
 unfold F81
 rw [decide_eq_true (Int.natCast_nonneg x), gd_t, Int.toNat_natCast, word_one hx, h1, ob_s]
end Go.Proofs.YtookeaakpiefjaaGreatDoor
end

section
namespace Go.Proofs.YtookeaakpiefjaaGreatDoor
open Go Go.Ab Go.Ab.W Go.Ab.T30
def inn (es : List (Int × Int)) (x : Nat) (k : Int) : Bool := decide (0 ≤ k ∧ k < (es.length : Int)) && x.testBit (eg es k).1 && x.testBit (eg es k).2
theorem inn_vl {es : List (Int × Int)} {x : Nat} {k : Int} (h : inn es x k = true) : Vl es k ∧ x.testBit (eg es k).1 = true ∧ x.testBit (eg es k).2 = true := by
 simp only [inn, Bool.and_eq_true, decide_eq_true_eq] at h
 exact ⟨h.1.1, h.1.2, h.2⟩
theorem F63_eq {N : Nat} {es : List (Int × Int)} (h : Okay N es) (n : Nat) (x1 k : Int) (x : Nat) (hx : x < 2 ^ 64) : F63 n x1 es x k = some (inn es x k) := by
 unfold F63
 by_cases h1 : 0 ≤ k
 ·by_cases h2 : k < (es.length : Int)
  ·obtain ⟨a, b, e1, e2, e3, e4, _, e5⟩ := vl_get h ⟨h1, h2⟩
   have ha : a < 64 := by omega
   simp only [decide_eq_true h1, decide_eq_true h2, br_t, e5, gd_t, e1, ob_s, F86_eq n x a hx ha, F86_eq n x b hx e4, inn, e2, h1, h2, and_self, decide_true, Bool.true_and]
   cases x.testBit a <;> rfl
  ·simp only [decide_eq_true h1, decide_eq_false h2, br_t, br_f, inn, h2, and_false, decide_false, Bool.false_and]
 ·simp only [decide_eq_false h1, br_f, inn, h1, false_and, decide_false, Bool.false_and]
theorem F59_eq (n x a b : Nat) (hx : x < 2 ^ 64) (ha : a < 64) (hb : b < 64) : F59 n x (a : Int) (b : Int) = some (x.testBit a && x.testBit b) := by
 unfold F59
 rw [decide_eq_true (Int.natCast_nonneg a), decide_eq_true (Int.natCast_nonneg b), gd_t, gd_t, Int.toNat_natCast, Int.toNat_natCast, bit_at hx (by omega), bit_at hx (by omega)]
 cases x.testBit a <;> rfl
def rgt (es : List (Int × Int)) (x : Nat) : Int → List Int → Bool
 | _, [] => true
 | p, k :: l => inn es x k && decide (p < k) && rgt es x k l
theorem rgt_inn {es : List (Int × Int)} {x : Nat} : ∀ {l : List Int} {p : Int}, rgt es x p l = true → ∀ k ∈ l, inn es x k = true ∧ p < k
 | [], _, _, k, hk => by cases hk
 | a :: l, p, h, k, hk => by
  simp only [rgt, Bool.and_eq_true, decide_eq_true_eq] at h
  rcases List.mem_cons.1 hk with rfl | hk
  ·exact h.1
  ·have := rgt_inn h.2 k hk
   exact ⟨this.1, by omega⟩
theorem rgt_asc {es : List (Int × Int)} {x : Nat} : ∀ {l : List Int} {p : Int}, rgt es x p l = true → l.Pairwise (· < ·)
 | [], _, _ => .nil
 | a :: l, p, h => by
  simp only [rgt, Bool.and_eq_true, decide_eq_true_eq] at h
  exact List.pairwise_cons.2 ⟨fun k hk => (rgt_inn h.2 k hk).2, rgt_asc h.2⟩
def prevI (l : List Int) (i : Nat) (p : Int) : Prop := (i = 0 ∧ p = -1) ∨ (0 < i ∧ l[i - 1]? = some p)
theorem L80_eq {N : Nat} {es : List (Int × Int)} (h : Okay N es) (n0 : Nat) (x1 : Int) (x : Nat) (hx : x < 2 ^ 64) (l : List Int) (hb : l.length < 4611686018427387904) : ∀ k i p n, prevI l i p → i + k = l.length → k < n → lpN (L80_1 n0 l x1 es x) n (i : Int) = some (if rgt es x p (l.drop i) then .inr () else .inl ()) := by
 intro k
 induction k with
 | zero =>
  intro i p n hp hi hk
  obtain ⟨n, rfl⟩ : ∃ n', n = n' + 1 := ⟨n - 1, by omega⟩
  rw [List.drop_of_length_le (by omega)]
  exact lp_end (by unfold L80_1; rw [br_df (by omega)]; rfl)
 | succ k ih =>
  intro i p n hp hi hk
  obtain ⟨n, rfl⟩ : ∃ n', n = n' + 1 := ⟨n - 1, by omega⟩
  have a1 : i < l.length := by omega
  have e1 : l[((i : Nat) : Int).toNat]? = some l[i] := by simp [a1]
  rw [List.drop_eq_getElem_cons a1]
  have hnext : prevI l (i + 1) l[i] := .inr ⟨by omega, by simp [a1]⟩
  have hih := ih (i + 1) l[i] n hnext (by omega) (by omega)
  generalize l[i] = y at *
  have key : L80_1 n0 l x1 es x (i : Int) = if (inn es x y && decide (p < y)) = true then some (.inl ((i + 1 : Nat) : Int)) else some (.inr (.inl ())) := by
   unfold L80_1
   simp only [decide_eq_true (show ((i : Nat) : Int) < (l.length : Int) by omega), br_t, inB_nat a1, gd_t, e1, ob_s, F63_eq h n0 x1 y x hx]
   by_cases h1 : inn es x y = true
   ·simp only [h1, Bool.not_true, br_f, Bool.true_and, decide_eq_true_eq]
    rcases hp with ⟨rfl, rfl⟩ | ⟨hi0, hp⟩
    ·have : (-1 : Int) < y := by have := (inn_vl h1).1.1; omega
     rw [if_pos this]
     simp [br, ob, wrap_succ]
     rfl
    ·have hi1 : IntKind.wrap .i64 ((i : Int) - 1) = ((i - 1 : Nat) : Int) := by rw [wrap_in (by omega) (by omega)]; omega
     simp only [decide_eq_true (show (0 : Int) < (i : Int) by omega), br_t, hi1, inB_nat (show i - 1 < l.length by omega), gd_t, Int.toNat_natCast, hp, ob_s]
     by_cases h2 : p < y
     ·rw [if_pos h2, decide_eq_false (by omega), br_f, wrap_succ (by omega)]
     ·rw [if_neg h2, decide_eq_true (by omega), br_t]
   ·rw [Bool.not_eq_true] at h1
    simp only [h1, Bool.not_false, br_t, ob_s, Bool.false_and, Bool.false_eq_true, if_false]
  unfold rgt
  by_cases h1 : (inn es x y && decide (p < y)) = true
  ·rw [if_pos h1] at key
   rw [lp_next key, hih, h1, Bool.true_and]
  ·rw [if_neg h1] at key
   rw [lp_end key]
   rw [Bool.not_eq_true] at h1
   rw [h1, Bool.false_and]; rfl
structure Fst (p : List Int) (r : Nat → Nat) : Prop where
 len : p.length = 64
 at_ : ∀ v, v < 64 → ∃ y : Nat, p[v]? = some (y : Int) ∧ y ≤ v ∧ (y = v → r v = v) ∧ (y ≠ v → r v = r y)
theorem Fst.root {p : List Int} {r : Nat → Nat} (h : Fst p r) (n0 : Nat) : ∀ (v n : Nat), v < 64 → v < n → lpN (L109_1 n0 p) n (v : Int) = some ((r v : Nat) : Int) := by
 intro v
 induction v using Nat.strongRecOn with
 | _ v ih =>
  intro n hv hn
  obtain ⟨n, rfl⟩ : ∃ n', n = n' + 1 := ⟨n - 1, by omega⟩
  obtain ⟨y, h1, h2, h3, h4⟩ := h.at_ v hv
  have hb : inB (v : Int) p.length = true := inB_nat (by rw [h.len]; exact hv)
  by_cases hy : y = v
  ·rw [h3 hy]
   exact lp_end (by unfold L109_1; simp [hb, h1, hy, gd, ob, br])
  ·rw [h4 hy, lp_next (s' := (y : Int)) (by unfold L109_1; simp only [hb, gd_t, Int.toNat_natCast, h1, ob_s]; rw [decide_eq_false (by omega)]; rfl)]
   exact ih y (by omega) n (by omega) (by omega)
theorem F109_eq {p : List Int} {r : Nat → Nat} (h : Fst p r) (n v : Nat) (hv : v < 64) (hn : 64 < n) : F109 n p (v : Int) = some ((r v : Nat) : Int) := by
 unfold F109
 rw [h.root n v n hv (by omega), ob_s]
theorem Fst.join {p : List Int} {r : Nat → Nat} {E : List (Nat × Nat)} (h : Fst p r) (hr : Rt r E) {e : Nat × Nat} (h1 : e.1 < 64) (h2 : e.2 < 64) : Fst (p.set (max (r e.1) (r e.2)) ((min (r e.1) (r e.2) : Nat) : Int)) (joinR r e) := by
 have l1 := hr.le e.1
 have l2 := hr.le e.2
 have hM : max (r e.1) (r e.2) < 64 := by omega
 have hrM : r (max (r e.1) (r e.2)) = max (r e.1) (r e.2) := by
  rcases Nat.le_total (r e.1) (r e.2) with g | g
  ·rw [Nat.max_eq_right g, hr.rr]
  ·rw [Nat.max_eq_left g, hr.rr]
 have hrm : r (min (r e.1) (r e.2)) = min (r e.1) (r e.2) := by
  rcases Nat.le_total (r e.1) (r e.2) with g | g
  ·rw [Nat.min_eq_left g, hr.rr]
  ·rw [Nat.min_eq_right g, hr.rr]
 refine ⟨by rw [List.length_set, h.len], fun v hv => ?_⟩
 simp only [joinR]
 by_cases hvM : v = max (r e.1) (r e.2)
 ·subst hvM
  refine ⟨min (r e.1) (r e.2), by rw [List.getElem?_set_self (by rw [h.len]; exact hM)], by omega, fun hy => ?_, fun hy => ?_⟩
  ·rw [if_pos hrM]; exact hy
  ·rw [if_pos hrM, hrm, if_neg hy]
 ·obtain ⟨y, g1, g2, g3, g4⟩ := h.at_ v hv
  refine ⟨y, by rw [List.getElem?_set_ne (fun e => hvM e.symm)]; exact g1, g2, fun hy => ?_, fun hy => ?_⟩
  ·rw [g3 hy, if_neg hvM]
  ·rw [g4 hy]
theorem F78_fst (n : Nat) (hn : 64 < n) : ∃ p, F78 n = some p ∧ Fst p (fun x => x) := by
 have := lp_uptoE (body := L78_1 n) 64 (fun (s : List Int) (v : Int) => (s, v)) id (fun i s => s.length = 64 ∧ ∀ v, v < i → s[v]? = some (v : Int)) (fun s i hi hI => ?_) (fun s _ => ?_) (n := n) (s := List.replicate 64 (0 : Int)) ⟨by simp, fun v hv => absurd hv (Nat.not_lt_zero _)⟩ hn
 ·obtain ⟨p, h1, h2, h3⟩ := this
  refine ⟨p, ?_, h2, fun v hv => ⟨v, h3 v hv, Nat.le_refl _, fun _ => rfl, fun h => absurd rfl h⟩⟩
  unfold F78
  have e : (List.replicate (64 : Int).toNat (0 : Int)) = List.replicate 64 0 := rfl
  rw [e, decide_eq_true (by decide), gd_t, show lim ((64 : Int).toNat) = true from rfl, gd_t, h1]; rfl
 ·refine ⟨s.set i (i : Int), ?_, by rw [List.length_set]; exact hI.1, fun v hv => ?_⟩
  ·unfold L78_1
   have e : ((64 : Int).toNat) = 64 := rfl
   have hs : s[i]? = some (s[i]'(by rw [hI.1]; exact hi)) := List.getElem?_eq_getElem _
   simp only [e, decide_eq_true (show ((i : Nat) : Int) < ((64 : Nat) : Int) by omega), br_t, inB_nat hi, gd_t, Int.toNat_natCast, hs, ob_s, wrap_succ (show i < 4611686018427387904 by omega)]
  ·by_cases hvi : v = i
   ·subst hvi; rw [List.getElem?_set_self (by rw [hI.1]; exact hi)]
   ·rw [List.getElem?_set_ne (fun e => hvi e.symm)]; exact hI.2 v (by omega)
 ·unfold L78_1
  simp [br]
def chk (es : List (Int × Int)) (x : Nat) : Int → (Nat → Nat) → List Int → Bool
 | _, _, [] => true
 | p, r, k :: l => decide (p < k) && inn es x k && !(r (eg es k).1 == r (eg es k).2) && chk es x k (joinR r (eg es k)) l
theorem chk_eq (es : List (Int × Int)) (x : Nat) : ∀ (l : List Int) (p : Int) (r : Nat → Nat), chk es x p r l = (rgt es x p l && allJoin r (l.map (eg es)))
 | [], _, _ => rfl
 | k :: l, p, r => by
  simp only [chk, rgt, List.map_cons, allJoin]
  rw [chk_eq es x l]
  cases decide (p < k) <;> cases inn es x k <;> cases (r (eg es k).1 == r (eg es k).2) <;> cases rgt es x k l <;> cases allJoin (joinR r (eg es k)) (l.map (eg es)) <;> rfl
theorem L22_eq {N : Nat} {es : List (Int × Int)} (h : Okay N es) (n0 : Nat) (x : Nat) (hx : x < 2 ^ 64) (hn0 : 64 < n0) (l : List Int) (hb : l.length < 4611686018427387904) : ∀ k i last p r E n, Fst p r → Rt r E → -1 ≤ last → i + k = l.length → k < n → lpN (L22_1 n0 l es x) n (p, p.length, last, (i : Int)) = some (if chk es x last r (l.drop i) then .inr () else .inl ()) := by
 intro k
 induction k with
 | zero =>
  intro i last p r E n hp hr hlast hi hk
  obtain ⟨n, rfl⟩ : ∃ n', n = n' + 1 := ⟨n - 1, by omega⟩
  rw [List.drop_of_length_le (by omega)]
  exact lp_end (by unfold L22_1; simp only; rw [br_df (by omega)]; rfl)
 | succ k ih =>
  intro i last p r E n hp hr hlast hi hk
  obtain ⟨n, rfl⟩ : ∃ n', n = n' + 1 := ⟨n - 1, by omega⟩
  have a1 : i < l.length := by omega
  have e1 : l[((i : Nat) : Int).toNat]? = some l[i] := by simp [a1]
  rw [List.drop_eq_getElem_cons a1]
  have e2 : l[i]? = some (l[i]'a1) := by simp [a1]
  have hih := fun p r E hp hr hl => ih (i + 1) (l[i]'a1) p r E n hp hr hl (by omega) (by omega)
  generalize l[i] = y at *
  unfold chk
  by_cases h1 : last < y
  ·by_cases h2 : y < (es.length : Int)
   ·obtain ⟨a, b, g1, g2, g3, g4, _, g5⟩ := vl_get h (k := y) ⟨by omega, h2⟩
    have ha : a < 64 := by omega
    have hin : inn es x y = (x.testBit a && x.testBit b) := by
     simp only [inn, g2]
     rw [decide_eq_true ⟨by omega, h2⟩, Bool.true_and]
    rw [decide_eq_true h1, Bool.true_and, hin, g2]
    simp only
    by_cases h3 : (x.testBit a && x.testBit b) = true
    ·have hM : max (r a) (r b) < p.length := by rw [hp.len]; have := hr.le a; have := hr.le b; omega
     have hma : ma ((r a : Nat) : Int) ((r b : Nat) : Int) = ((max (r a) (r b) : Nat) : Int) := by simp only [ma]; omega
     have hmi : mi ((r a : Nat) : Int) ((r b : Nat) : Int) = ((min (r a) (r b) : Nat) : Int) := by simp only [mi]; omega
     have hpM : p[max (r a) (r b)]? = some (p[max (r a) (r b)]'hM) := List.getElem?_eq_getElem _
     have key : L22_1 n0 l es x (p, p.length, last, (i : Int)) = if r a = r b then some (.inr (.inl ())) else some (.inl (p.set (max (r a) (r b)) ((min (r a) (r b) : Nat) : Int), (p.set (max (r a) (r b)) ((min (r a) (r b) : Nat) : Int)).length, y, ((i + 1 : Nat) : Int))) := by
      unfold L22_1
      simp only [decide_eq_true (show ((i : Nat) : Int) < (l.length : Int) by omega), br_t, inB_nat a1, gd_t, e1, e2, ob_s, decide_eq_false (show ¬ y ≤ last by omega), br_f, decide_eq_false (show ¬ (es.length : Int) ≤ y by omega), g5, g1, F59_eq n0 x a b hx ha g4, h3, Bool.not_true, F109_eq hp n0 a ha hn0, F109_eq hp n0 b g4 hn0, hma, hmi, inB_nat hM, Int.toNat_natCast, hpM, wrap_succ (show i < 4611686018427387904 by omega), List.length_set]
      by_cases h5 : r a = r b
      ·rw [if_pos h5, decide_eq_true (by omega)]; rfl
      ·rw [if_neg h5, decide_eq_false (by omega)]; rfl
     by_cases h5 : r a = r b
     ·rw [if_pos h5] at key
      rw [lp_end key, h3, h5]
      simp
     ·rw [if_neg h5] at key
      rw [lp_next key, hih _ _ _ (hp.join hr (e := (a, b)) ha g4) (hr.join (a, b)) (by omega), h3]
      have : (r a == r b) = false := by simpa using h5
      rw [this]
      simp only [Bool.not_false, Bool.true_and]
    ·rw [Bool.not_eq_true] at h3
     rw [lp_end (r := .inl ()) (by
      unfold L22_1
      simp only [decide_eq_true (show ((i : Nat) : Int) < (l.length : Int) by omega), br_t, inB_nat a1, gd_t, e1, ob_s, decide_eq_false (show ¬ y ≤ last by omega), br_f, decide_eq_false (show ¬ (es.length : Int) ≤ y by omega), g5, g1, F59_eq n0 x a b hx ha g4, h3, Bool.not_false]), h3]
     simp
   ·have hin : inn es x y = false := by
     simp only [inn]
     rw [decide_eq_false (fun g => h2 g.2), Bool.false_and, Bool.false_and]
    rw [lp_end (r := .inl ()) (by
     unfold L22_1
     simp only [decide_eq_true (show ((i : Nat) : Int) < (l.length : Int) by omega), br_t, inB_nat a1, gd_t, e1, ob_s, decide_eq_false (show ¬ y ≤ last by omega), br_f, decide_eq_true (show (es.length : Int) ≤ y by omega)]), hin]
    simp
  ·rw [lp_end (r := .inl ()) (by
    unfold L22_1
    simp only [decide_eq_true (show ((i : Nat) : Int) < (l.length : Int) by omega), br_t, inB_nat a1, gd_t, e1, ob_s, decide_eq_true (show y ≤ last by omega)]), decide_eq_false h1]
   simp
def isT (es : List (Int × Int)) (x : Nat) (l : List Int) : Bool := rgt es x (-1) l && decide (l.length + 1 = rk x 64) && allJoin (fun v => v) (l.map (eg es))
def ckT (N : Int) (es : List (Int × Int)) (x : Nat) (l : List Int) : Int := if okG N es then (if x = 0 ∨ 2 ^ N.toNat ≤ x then 2 else if isT es x l then 0 else 300) else 180
theorem size_eq {l : List Int} {x : Nat} (hb : l.length < 4611686018427387904) (h0 : 1 ≤ rk x 64) : decide ((l.length : Int) = IntKind.wrap .i64 (((rk x 64 : Nat) : Int) - 1)) = decide (l.length + 1 = rk x 64) := by
 have h1 : rk x 64 ≤ 64 := low_len _ _
 rw [wrap_in (by omega) (by omega)]
 by_cases h : l.length + 1 = rk x 64
 ·rw [decide_eq_true h, decide_eq_true (by omega)]
 ·rw [decide_eq_false h, decide_eq_false (by omega)]
theorem rk_pos' {x : Nat} (hx : x < 2 ^ 64) (h0 : x ≠ 0) : 1 ≤ rk x 64 := by
 have := tz_bit (Nat.pos_of_ne_zero h0) hx
 exact rk_pos this.1 (tb_lt hx this.1)
theorem F22_eq (n : Nat) (N : Int) (es : List (Int × Int)) (x : Nat) (l : List Int) (hx : x < 2 ^ 64) (hb : l.length < 4611686018427387904) (hl : es.length < 4611686018427387904) (hk : es.length < n) (hn : 64 < n) (hln : l.length < n) : F22 n N es x l = some (ckT N es x l) := by
 unfold F22 F54 ckT
 rw [F107_eq n N es (by omega) hl hk, ob_s]
 by_cases hok : okG N es = true
 ·obtain ⟨M, rfl, hO⟩ := okay_of hok
  simp only [ckG, hok, if_true, decide_true, Bool.not_true, br_f, Int.toNat_natCast]
  by_cases h0 : x = 0
  ·simp [h0, br, ob]
  ·rw [F108_eq n x hx]
   simp only [decide_eq_false h0, br_f, ob_s, h0, false_or]
   by_cases h2 : 2 ^ M ≤ x
   ·have : M < bl x := lt_bl.2 h2
    rw [decide_eq_true (show ((M : Nat) : Int) < ((bl x : Nat) : Int) by omega), if_pos h2]; rfl
   ·have : ¬ M < bl x := fun g => h2 (lt_bl.1 g)
    rw [decide_eq_false (show ¬ ((M : Nat) : Int) < ((bl x : Nat) : Int) by omega), if_neg h2]
    obtain ⟨p, hp1, hp2⟩ := F78_fst n hn
    have := L22_eq hO n x hx hn l hb l.length 0 (-1) p (fun v => v) [] n hp2 Rt.id (Int.le_refl _) (by omega) hln
    rw [List.drop_zero] at this
    simp only [br_f, ob_s, decide_true, decide_false, Bool.not_true, hp1]
    have t2 : lpN (L22_1 n l es x) n (p, p.length, -1, 0) = some (if chk es x (-1) (fun v => v) l then .inr () else .inl ()) := this
    rw [t2, ob_s, chk_eq, F43_eq n x hx]
    unfold isT
    cases hr : rgt es x (-1) l <;> cases ha : allJoin (fun v => v) (l.map (eg es)) <;> simp only [Bool.and_true, Bool.and_false, Bool.true_and, Bool.false_and, if_true, Bool.false_eq_true, if_false, ob_s, decide_false, br_f, decide_true, Bool.not_true, size_eq hb (rk_pos' hx h0)]
    cases decide (l.length + 1 = rk x 64) <;> rfl
 ·rw [Bool.not_eq_true] at hok
  simp [ckG, hok, br, ob]
theorem low_nodup (x : Nat) : (lowB x 64).Nodup := (low_asc x 64).imp fun h => Nat.ne_of_lt h
theorem ends_low {N : Nat} {es : List (Int × Int)} (h : Okay N es) {x : Nat} {l : List Int} (hl : ∀ k ∈ l, inn es x k = true) : ∀ e ∈ l.map (eg es), e.1 ∈ lowB x 64 ∧ e.2 ∈ lowB x 64 := fun e he => by
 obtain ⟨k, hk, rfl⟩ := List.mem_map.1 he
 obtain ⟨h1, h2, h3⟩ := inn_vl (hl k hk)
 obtain ⟨a, b, _, g2, g3, g4, _⟩ := vl_get h h1
 rw [g2] at h2 h3 ⊢
 exact ⟨low_mem.2 ⟨Nat.lt_trans g3 g4, h2⟩, low_mem.2 ⟨g4, h3⟩⟩
theorem cn_low {N : Nat} {es : List (Int × Int)} (h : Okay N es) {x v j : Nat} {l : List Int} (hl : ∀ k ∈ l, inn es x k = true) (hv : x.testBit v = true) (hc : Cn (l.map (eg es)) v j) : x.testBit j = true :=
 hc.closed (Q := fun j => x.testBit j = true) hv fun a b _ hn => by
  rcases hn with hn | hn
  ·exact (low_mem.1 (ends_low h hl _ hn).2).2
  ·exact (low_mem.1 (ends_low h hl _ hn).1).2
theorem tree_all {N : Nat} {es : List (Int × Int)} (h : Okay N es) {x v : Nat} {l : List Int} (hx : x < 2 ^ 64) (hl : ∀ k ∈ l, inn es x k = true) (hlen : l.length + 1 = rk x 64) (hv : x.testBit v = true) : allJoin (fun v => v) (l.map (eg es)) = true ↔ ∀ j, x.testBit j = true → Cn (l.map (eg es)) v j := by
 have hv64 := tb_lt hx hv
 rw [tree_iff (low_nodup x) (ends_low h hl) (low_mem.2 ⟨hv64, hv⟩) (by rw [List.length_map]; exact hlen)]
 exact ⟨fun g j hj => g j (low_mem.2 ⟨tb_lt hx hj, hj⟩), fun g j hj => g j (low_mem.1 hj).2⟩
theorem F23_eq (n : Nat) (N : Int) (es : List (Int × Int)) (x : Nat) (l : List Int) (hx : x < 2 ^ 64) (hb : l.length < 4611686018427387904) (hl : es.length < 4611686018427387904) (hk : es.length < n) (hn : 64 < n) (hln : l.length < n) : F23 n N es x l = some (ckT N es x l) := by
 unfold F23 F57 ckT
 rw [F52_eq n N es hl hk, ob_s]
 by_cases hok : okG N es = true
 ·obtain ⟨M, rfl, hO⟩ := okay_of hok
  simp only [ckG, hok, if_true, decide_true, Bool.not_true, br_f, Int.toNat_natCast]
  by_cases h0 : x = 0
  ·simp [h0, br, ob]
  ·rw [F114_eq n M es x hx hl hk]
   simp only [decide_eq_false h0, br_f, ob_s, h0, false_or, ckF, hok, if_true, Int.toNat_natCast]
   by_cases h2 : 2 ^ M ≤ x
   ·rw [if_pos h2, if_pos h2]; rfl
   ·rw [if_neg h2, if_neg h2]
    have := L80_eq hO n (M : Int) x hx l hb l.length 0 (-1) n (.inl ⟨rfl, rfl⟩) (by omega) hln
    rw [List.drop_zero] at this
    unfold F80
    have t2 : lpN (L80_1 n l (M : Int) es x) n 0 = some (if rgt es x (-1) l then .inr () else .inl ()) := this
    rw [t2, ob_s]
    unfold isT
    cases hr : rgt es x (-1) l with
    | false => rfl
    | true =>
     simp only [if_true, Bool.true_and, F53_eq n x hx hn, ob_s, size_eq hb (rk_pos' hx h0), F85_eq n x hx (Nat.pos_of_ne_zero h0) hn]
     cases hlen : decide (l.length + 1 = rk x 64) with
     | false => rfl
     | true =>
      have hlen' := of_decide_eq_true hlen
      have hinn : ∀ k ∈ l, inn es x k = true := fun k hk => (rgt_inn hr k hk).1
      have htz := tz_bit (Nat.pos_of_ne_zero h0) hx
      have h64 := tb_lt hx htz.1
      obtain ⟨w, hw1, hw2⟩ := F84_clo hO (l := l) (fun k hk => (inn_vl (hinn k hk)).1) n (tz x) (M : Int) h64 hb hln hn
      simp only [br_t, hw1, ob_s, Bool.true_and]
      have : decide (w = x) = allJoin (fun v => v) (l.map (eg es)) := by
       rw [Bool.eq_iff_iff, decide_eq_true_eq, tree_all hO hx hinn hlen' htz.1]
       constructor
       ·rintro rfl j hj
        exact (hw2.2 j).1 hj
       ·intro g
        exact word_ext fun j => ⟨fun hj => cn_low hO hinn htz.1 ((hw2.2 j).1 hj), fun hj => (hw2.2 j).2 (g j hj)⟩
      rw [this]
      cases allJoin (fun v => v) (l.map (eg es)) <;> rfl
 ·rw [Bool.not_eq_true] at hok
  simp [ckG, hok, br, ob]
end Go.Proofs.YtookeaakpiefjaaGreatDoor
end

section
namespace Go.Proofs.YtookeaakpiefjaaGreatDoor
open Go Go.Ab Go.Ab.W Go.Ab.T30
theorem add_xor {a b : Nat} (ha : a < 2 ^ 64) (hb : b < 2 ^ 64) (h : a &&& b = 0) : (a + b) % 2 ^ 64 = a ||| b := by
 have := BitVec.add_eq_or_of_and_eq_zero (w := 64) (BitVec.ofNat 64 a) (BitVec.ofNat 64 b) (by
  apply BitVec.eq_of_toNat_eq
  rw [BitVec.toNat_and, BitVec.toNat_ofNat, BitVec.toNat_ofNat, Nat.mod_eq_of_lt ha, Nat.mod_eq_of_lt hb, h]; rfl)
 have h2 := congrArg BitVec.toNat this
 rw [BitVec.toNat_add, BitVec.toNat_or, BitVec.toNat_ofNat, BitVec.toNat_ofNat, Nat.mod_eq_of_lt ha, Nat.mod_eq_of_lt hb] at h2
 exact h2
theorem andn_sub {x w : Nat} (hx : x < 2 ^ 64) (hw : w < 2 ^ 64) (h : ∀ i, w.testBit i = true → x.testBit i = true) : uandn .u64 x w = usub .u64 x w := by
 rw [word_andn hx hw]
 have h1 : x &&& w = w := word_ext fun i => by
  rw [Nat.testBit_and, Bool.and_eq_true]; exact ⟨fun g => g.2, fun g => ⟨h i g, g⟩⟩
 rw [h1]
 have h2 : x ^^^ w < 2 ^ 64 := Nat.xor_lt_two_pow hx hw
 have h3 : w &&& (x ^^^ w) = 0 := word_zero.2 fun i => by
  rw [Nat.testBit_and, Nat.testBit_xor]
  have := h i
  cases hxi : x.testBit i <;> cases hwi : w.testBit i <;> simp_all
 have h4 : w ||| (x ^^^ w) = x := word_ext fun i => by
  rw [Nat.testBit_or, Nat.testBit_xor]
  have := h i
  cases hxi : x.testBit i <;> cases hwi : w.testBit i <;> simp_all
 have h5 := add_xor hw h2 h3
 rw [h4] at h5
 have hle : w + (x ^^^ w) < 2 ^ 64 ∨ 2 ^ 64 ≤ w + (x ^^^ w) := by omega
 have key : w + (x ^^^ w) = x := by
  rcases hle with hlt | hge
  ·rwa [Nat.mod_eq_of_lt hlt] at h5
  ·exfalso
   have h6 : w + (x ^^^ w) - 2 ^ 64 = x := by
    have : (w + (x ^^^ w)) % 2 ^ 64 = w + (x ^^^ w) - 2 ^ 64 := by omega
    omega
   have : w ≤ x := by
    have := Nat.and_le_left (n := x) (m := w)
    rw [h1] at this; exact this
   omega
 show x ^^^ w = usub .u64 x w
 have hu : usub .u64 x w = (x + (2 ^ 64 - w)) % 2 ^ 64 := by unfold usub; rw [uw_id hw]; rfl
 rw [hu]
 omega
theorem tz64 {x : Nat} (hx : x < 2 ^ 64) (h0 : x ≠ 0) : x.testBit (tz x) = true ∧ tz x < 64 := by
 have := tz_bit (Nat.pos_of_ne_zero h0) hx
 exact ⟨this.1, tb_lt hx this.1⟩
theorem isT_inn {es : List (Int × Int)} {x : Nat} {l : List Int} (h : isT es x l = true) : (∀ k ∈ l, inn es x k = true) ∧ l.length + 1 = rk x 64 ∧ allJoin (fun v => v) (l.map (eg es)) = true ∧ l.Pairwise (· < ·) := by
 simp only [isT, Bool.and_eq_true, decide_eq_true_eq] at h
 exact ⟨fun k hk => (rgt_inn h.1.1 k hk).1, h.1.2, h.2, rgt_asc h.1.1⟩
theorem ckT_zero {N : Int} {es : List (Int × Int)} {x : Nat} {l : List Int} (h : ckT N es x l = 0) : ∃ M : Nat, N = (M : Int) ∧ Okay M es ∧ x ≠ 0 ∧ x < 2 ^ M ∧ isT es x l = true := by
 unfold ckT at h
 by_cases h1 : okG N es = true
 ·rw [if_pos h1] at h
  obtain ⟨M, rfl, hO⟩ := okay_of h1
  rw [Int.toNat_natCast] at h
  by_cases h2 : x = 0 ∨ 2 ^ M ≤ x
  ·rw [if_pos h2] at h; cases h
  ·rw [if_neg h2] at h
   by_cases h3 : isT es x l = true
   ·exact ⟨M, rfl, hO, fun e => h2 (.inl e), by omega, h3⟩
   ·rw [if_neg h3] at h; cases h
 ·rw [if_neg h1] at h; cases h
theorem sides_same (n : Nat) (N : Int) (es : List (Int × Int)) (x : Nat) (l : List Int) (e : Int) (hx : x < 2 ^ 64) (hb : l.length ≤ 1073741824) (hl : es.length < 4611686018427387904) (hk : es.length < n) (hn : 70 < n) (hln : l.length < n) : ∃ r, F24 n N es x l e = some r ∧ F25 n N es x l e = some r := by
 unfold F24 F25
 rw [F22_eq n N es x l hx (by omega) hl hk (by omega) hln, F23_eq n N es x l hx (by omega) hl hk (by omega) hln, ob_s, ob_s]
 by_cases hc : ckT N es x l = 0
 ·obtain ⟨M, rfl, hO, h0, hxM, hT⟩ := ckT_zero hc
  obtain ⟨hinn, hlen, hj, hasc⟩ := isT_inn hT
  rw [decide_eq_true hc]
  simp only [Bool.not_true, br_f]
  rw [F75_eq n l e (by omega) hln, F83_eq n l e hb hln]
  simp only [ob_s]
  obtain ⟨ht1, ht2⟩ := tz64 hx h0
  by_cases he : e ∈ l
  ·have hne : ¬ (((wo l e).length : Nat) : Int) = ((l.length : Nat) : Int) := fun g => (wo_len.1 (by omega)) he
   rw [decide_eq_true he, decide_eq_false hne]
   simp only [Bool.not_true, br_f]
   have hv : ∀ k ∈ l, Vl es k := fun k hk => (inn_vl (hinn k hk)).1
   obtain ⟨w, hw1, hw2⟩ := F81_clo hO hv e (M : Int) n (tz x) (by omega) hln hn ht2
   obtain ⟨w', hw3, hw4⟩ := F84_clo hO (l := wo l e) (fun k hk => hv k (wo_sub hk).1) n (tz x) (M : Int) ht2 (by have := @wo_le l e; omega) (by have := @wo_le l e; omega) (by omega)
   have : w' = w := hw4.uniq hw2
   subst this
   have e82 : F82 n x = some ((tz x : Nat) : Int) := by unfold F82; rw [decide_eq_true hx]; rfl
   rw [e82, F85_eq n x hx (Nat.pos_of_ne_zero h0) (by omega)]
   simp only [ob_s, hw1, hw3]
   refine ⟨_, rfl, ?_⟩
   rw [andn_sub hx hw2.1 fun i hi => cn_low hO (fun k hk => hinn k (wo_sub hk).1) ht1 ((hw2.2 i).1 hi)]
  ·have hne : (((wo l e).length : Nat) : Int) = ((l.length : Nat) : Int) := by rw [wo_len.2 he]
   rw [decide_eq_false he, decide_eq_true hne]
   exact ⟨_, rfl, rfl⟩
 ·rw [decide_eq_false hc]
  exact ⟨_, rfl, rfl⟩
def clo (es : List (Int × Int)) (l : List Int) (v : Nat) : Nat := itr (l.map (eg es)) 64 (2 ^ v)
theorem clo_bit {N : Nat} {es : List (Int × Int)} (h : Okay N es) {l : List Int} (hl : ∀ k ∈ l, Vl es k) {v j : Nat} (hv : v < 64) : (clo es l v).testBit j = true ↔ Cn (l.map (eg es)) v j := (itr_one (in64_map h hl) hv).2 j
def tou (es : List (Int × Int)) (at_ : Nat) (k : Int) : Bool := decide ((eg es k).1 = at_) || decide ((eg es k).2 = at_)
def oth (es : List (Int × Int)) (at_ : Nat) (k : Int) : Nat := (eg es k).1 + (eg es k).2 - at_
def cA (es : List (Int × Int)) (l : List Int) (at_ to : Nat) (k : Int) : Bool := tou es at_ k && (clo es (wo l k) (oth es at_ k)).testBit to
def cB (es : List (Int × Int)) (rest : List Int) (at_ to : Nat) (k : Int) : Bool := tou es at_ k && !(clo es (wo rest k) at_).testBit to
theorem tou_cases {es : List (Int × Int)} {at_ : Nat} {k : Int} (h : tou es at_ k = true) : eg es k = (at_, oth es at_ k) ∨ eg es k = (oth es at_ k, at_) := by
 simp only [tou, Bool.or_eq_true, decide_eq_true_eq] at h
 unfold oth
 generalize eg es k = e at *
 obtain ⟨a, b⟩ := e
 simp only at h ⊢
 rcases h with rfl | rfl
 ·exact .inl (by simp)
 ·exact .inr (by simp)
structure Tr (N : Nat) (es : List (Int × Int)) (x : Nat) (l : List Int) : Prop where
 ok : Okay N es
 hx : x < 2 ^ 64
 h0 : x ≠ 0
 inn : ∀ k ∈ l, inn es x k = true
 len : l.length + 1 = rk x 64
 all : allJoin (fun v => v) (l.map (eg es)) = true
 asc : l.Pairwise (· < ·)
section
variable {N : Nat} {es : List (Int × Int)} {x : Nat} {l : List Int} {at_ to : Nat} {k : Int}
theorem Tr.vl (h : Tr N es x l) : ∀ k ∈ l, Vl es k := fun k hk => (inn_vl (h.inn k hk)).1
theorem Tr.cn (h : Tr N es x l) {a b : Nat} (ha : x.testBit a = true) (hb : x.testBit b = true) : Cn (l.map (eg es)) a b := (tree_all h.ok h.hx h.inn h.len ha).1 h.all b hb
theorem mem_wo {k k' : Int} : k' ∈ wo l k ↔ k' ∈ l ∧ k' ≠ k := ⟨wo_sub, fun h => wo_mem h.1 h.2⟩
theorem Tr.bridge (h : Tr N es x l) (hk : k ∈ l) : ¬ Cn ((wo l k).map (eg es)) (eg es k).1 (eg es k).2 := by
 obtain ⟨ht1, ht2⟩ := tz64 h.hx h.h0
 refine tree_bridge (low_nodup x) (ends_low h.ok h.inn) (low_mem.2 ⟨ht2, ht1⟩) (by rw [List.length_map]; exact h.len) (fun y hy => h.cn ht1 (low_mem.1 hy).2) (fun e => ?_) ?_
 ·constructor
  ·intro he
   obtain ⟨k', hk', rfl⟩ := List.mem_map.1 he
   by_cases hkk : k' = k
   ·subst hkk; exact .inl rfl
   ·exact .inr (List.mem_map.2 ⟨k', mem_wo.2 ⟨hk', hkk⟩, rfl⟩)
  ·rintro (rfl | he)
   ·exact List.mem_map.2 ⟨k, hk, rfl⟩
   ·obtain ⟨k', hk', rfl⟩ := List.mem_map.1 he
    exact List.mem_map.2 ⟨k', (wo_sub hk').1, rfl⟩
 ·rw [List.length_map, List.length_map]
  have h1 := @wo_le l k
  have h2 : (wo l k).length ≠ l.length := fun e => wo_len.1 e hk
  omega
theorem Tr.bridge2 (h : Tr N es x l) (hk : k ∈ l) (ht : tou es at_ k = true) : ¬ Cn ((wo l k).map (eg es)) at_ (oth es at_ k) := fun hc => by
 have := h.bridge hk
 rcases tou_cases ht with e | e
 ·rw [e] at this; exact this hc
 ·rw [e] at this; exact this hc.symm
theorem Tr.oth_bit (h : Tr N es x l) (hk : k ∈ l) (ht : tou es at_ k = true) : x.testBit (oth es at_ k) = true ∧ oth es at_ k < 64 := by
 obtain ⟨_, h1, h2⟩ := inn_vl (h.inn k hk)
 rcases tou_cases ht with e | e
 ·rw [e] at h2; exact ⟨h2, tb_lt h.hx h2⟩
 ·rw [e] at h1; exact ⟨h1, tb_lt h.hx h1⟩
theorem behind {R : List Int} (hR : k ∈ R) (hc : Cn (R.map (eg es)) at_ to) (ht : tou es at_ k = true) (hn : ¬ Cn ((wo R k).map (eg es)) at_ to) : Cn ((wo R k).map (eg es)) (oth es at_ k) to := by
 have hc' : Cn (eg es k :: (wo R k).map (eg es)) at_ to := (cn_perm fun e => by
  rw [List.mem_cons]
  constructor
  ·intro he
   obtain ⟨k', hk', rfl⟩ := List.mem_map.1 he
   by_cases hkk : k' = k
   ·exact .inl (by rw [hkk])
   ·exact .inr (List.mem_map.2 ⟨k', mem_wo.2 ⟨hk', hkk⟩, rfl⟩)
  ·rintro (rfl | he)
   ·exact List.mem_map.2 ⟨k, hR, rfl⟩
   ·obtain ⟨k', hk', rfl⟩ := List.mem_map.1 he
    exact List.mem_map.2 ⟨k', (wo_sub hk').1, rfl⟩).1 hc
 rcases tou_cases ht with e | e <;> rw [e] at hc' <;> rcases cn_cons.1 hc' with g | ⟨g1, g2⟩ | ⟨g1, g2⟩
 ·exact absurd g hn
 ·exact g2
 ·exact absurd g2 hn
 ·exact absurd g hn
 ·exact absurd g2 hn
 ·exact g2
theorem Tr.pick_iff (h : Tr N es x l) {P : Int → Bool} (hat : at_ < 64) (hc : Cn ((l.filter P).map (eg es)) at_ to) (hk : k ∈ l) : cA es l at_ to k = (P k && cB es (l.filter P) at_ to k) := by
 unfold cA cB
 by_cases ht : tou es at_ k = true
 ·have ho := h.oth_bit hk ht
  have hRs : ∀ k' ∈ wo (l.filter P) k, k' ∈ wo l k := fun k' hk' => mem_wo.2 ⟨(List.mem_filter.1 (wo_sub hk').1).1, (wo_sub hk').2⟩
  have hv1 : ∀ k' ∈ wo l k, Vl es k' := fun k' hk' => h.vl k' (wo_sub hk').1
  have hA := clo_bit h.ok hv1 (v := oth es at_ k) (j := to) ho.2
  have hB := clo_bit h.ok (fun k' hk' => hv1 k' (hRs k' hk')) (v := at_) (j := to) hat
  have hmono : ∀ {a b}, Cn ((wo (l.filter P) k).map (eg es)) a b → Cn ((wo l k).map (eg es)) a b := fun g => g.mono fun e he => by
   obtain ⟨k', hk', rfl⟩ := List.mem_map.1 he
   exact List.mem_map.2 ⟨k', hRs k' hk', rfl⟩
  rw [ht, Bool.true_and, Bool.true_and, Bool.eq_iff_iff, Bool.and_eq_true, Bool.not_eq_true', ← Bool.not_eq_true, hA, hB]
  constructor
  ·intro g
   have hno : ¬ Cn ((wo (l.filter P) k).map (eg es)) at_ to := fun g2 => h.bridge2 hk ht ((hmono g2).trans g.symm)
   refine ⟨?_, hno⟩
   refine Classical.byContradiction fun hP => hno ?_
   have : wo (l.filter P) k = l.filter P := by
    have := (@wo_len (l.filter P) k).2 fun hm => hP (List.mem_filter.1 hm).2
    unfold wo at this ⊢
    exact List.filter_eq_self.2 (List.length_filter_eq_length_iff.1 this)
   rw [this]; exact hc
  ·rintro ⟨hP, hno⟩
   exact hmono (behind (List.mem_filter.2 ⟨hk, hP⟩) hc ht hno)
 ·rw [Bool.not_eq_true] at ht
  rw [ht]; simp
theorem Tr.some_pick (h : Tr N es x l) {P : Int → Bool} (hat : at_ < 64) (hne : at_ ≠ to) (hc : Cn ((l.filter P).map (eg es)) at_ to) : ∃ k ∈ l.filter P, cB es (l.filter P) at_ to k = true := by
 obtain ⟨v, h1, h2, h3⟩ := way_on (B := ((l.filter P).filter fun k => !tou es at_ k).map (eg es)) hne hc (fun e he => by
  obtain ⟨k, hk, rfl⟩ := List.mem_map.1 he
  by_cases ht : tou es at_ k = true
  ·simp only [tou, Bool.or_eq_true, decide_eq_true_eq] at ht
   exact .inr ht
  ·exact .inl (List.mem_map.2 ⟨k, List.mem_filter.2 ⟨hk, by simpa using ht⟩, rfl⟩)) (fun e he => by
  obtain ⟨k, hk, rfl⟩ := List.mem_map.1 he
  have := (List.mem_filter.1 hk).2
  simp only [tou, Bool.not_eq_true', Bool.or_eq_false_iff, decide_eq_false_iff_not] at this
  exact this)
 have hkey : ∃ k ∈ l.filter P, (eg es k = (at_, v) ∨ eg es k = (v, at_)) := by
  rcases h1 with h1 | h1
  ·obtain ⟨k, hk, e⟩ := List.mem_map.1 h1; exact ⟨k, hk, .inl e⟩
  ·obtain ⟨k, hk, e⟩ := List.mem_map.1 h1; exact ⟨k, hk, .inr e⟩
 obtain ⟨k, hk, he⟩ := hkey
 have hkl := (List.mem_filter.1 hk).1
 have ht : tou es at_ k = true := by
  simp only [tou, Bool.or_eq_true, decide_eq_true_eq]
  rcases he with he | he <;> rw [he] <;> simp
 have ho : oth es at_ k = v := by
  unfold oth
  rcases he with he | he <;> rw [he] <;> simp
 refine ⟨k, hk, ?_⟩
 unfold cB
 rw [ht, Bool.true_and, Bool.not_eq_true', ← Bool.not_eq_true, clo_bit h.ok (fun k' hk' => h.vl k' (List.mem_filter.1 (wo_sub hk').1).1) hat]
 intro g
 refine h.bridge2 hkl ht ?_
 rw [ho]
 have m1 : ∀ {a b}, Cn (((l.filter P).filter fun k => !tou es at_ k).map (eg es)) a b → Cn ((wo l k).map (eg es)) a b := fun g => g.mono fun e he => by
  obtain ⟨k', hk', rfl⟩ := List.mem_map.1 he
  obtain ⟨g1, g2⟩ := List.mem_filter.1 hk'
  refine List.mem_map.2 ⟨k', mem_wo.2 ⟨(List.mem_filter.1 g1).1, fun e => ?_⟩, rfl⟩
  rw [e, ht] at g2; cases g2
 have m2 : ∀ {a b}, Cn ((wo (l.filter P) k).map (eg es)) a b → Cn ((wo l k).map (eg es)) a b := fun g => g.mono fun e he => by
  obtain ⟨k', hk', rfl⟩ := List.mem_map.1 he
  exact List.mem_map.2 ⟨k', mem_wo.2 ⟨(List.mem_filter.1 (wo_sub hk').1).1, (wo_sub hk').2⟩, rfl⟩
 exact (m2 g).trans (m1 h2).symm
end
theorem bit_zero {a k : Nat} (ha : a < 2 ^ 64) (h : k ≤ 64) : decide (uw .u64 (uw .u64 (ushr .u64 a k) &&& uw .u64 1) = 0) = !a.testBit k := by
 rw [← bit_at ha h]
 have hle : uw .u64 (uw .u64 (ushr .u64 a k) &&& uw .u64 1) ≤ 1 := by
  have h1 : uw .u64 (ushr .u64 a k) &&& uw .u64 1 ≤ 1 := Nat.and_le_right
  have h2 : uw .u64 (uw .u64 (ushr .u64 a k) &&& uw .u64 1) ≤ uw .u64 (ushr .u64 a k) &&& uw .u64 1 := Nat.mod_le _ _
  omega
 generalize uw .u64 (uw .u64 (ushr .u64 a k) &&& uw .u64 1) = v at *
 by_cases h0 : v = 0
 ·subst h0; rfl
 ·have : v = 1 := by omega
  subst this; rfl
section
variable {N : Nat} {es : List (Int × Int)} {x : Nat} {l : List Int} {at_ to : Nat}
theorem oth_int {a b at_ : Nat} {k : Int} (he : eg es k = (a, b)) (ha : a < 64) (hb : b < 64) (hat : at_ < 64) (ht : tou es at_ k = true) : IntKind.wrap .i64 ((IntKind.wrap .i64 ((a : Int) + (b : Int))) - (at_ : Int)) = ((oth es at_ k : Nat) : Int) := by
 rw [wrap_in (x := (a : Int) + (b : Int)) (by omega) (by omega), wrap_in (by omega) (by omega)]
 simp only [tou, he, Bool.or_eq_true, decide_eq_true_eq] at ht
 unfold oth
 rw [he]
 simp only
 omega
theorem F81_is (h : Okay N es) (hl : ∀ k ∈ l, Vl es k) (but x1 : Int) (n v : Nat) (hb : l.length < 4611686018427387904) (hn : l.length < n) (hn2 : 70 < n) (hv : v < 64) : F81 n x1 es l but (v : Int) = some (clo es (wo l but) v) := by
 obtain ⟨w, h1, h2⟩ := F81_clo h hl but x1 n v hb hn hn2 hv
 rw [h1, h2.uniq (itr_one (in64_map h fun k hk => hl k (wo_sub hk).1) hv)]; rfl
theorem clo_lt (h : Okay N es) (hl : ∀ k ∈ l, Vl es k) {v : Nat} (hv : v < 64) : clo es l v < 2 ^ 64 := (itr_one (in64_map h hl) hv).1
theorem Tr.L26_2_eq (h : Tr N es x l) (n0 : Nat) (x1 : Int) (way : List Int) (hb : l.length < 4611686018427387904) (hn0 : l.length < n0) (hn2 : 70 < n0) (hat : at_ < 64) (hto : to < 64) (hway : way.length < 1000) : ∀ k i n, i + k = l.length → k < n → lpN (L26_2 n0 l es x1 (to : Int) way) n ((at_ : Int), (i : Int)) = some (match (l.drop i).find? (cA es l at_ to) with
  | some k => .inl (way ++ [((oth es at_ k : Nat) : Int)], ((oth es at_ k : Nat) : Int))
  | none => .inr (at_ : Int)) := by
 intro k
 induction k with
 | zero =>
  intro i n hi hk
  obtain ⟨n, rfl⟩ : ∃ n', n = n' + 1 := ⟨n - 1, by omega⟩
  rw [List.drop_of_length_le (by omega)]
  exact lp_end (by unfold L26_2; simp only; rw [br_df (by omega)]; rfl)
 | succ k ih =>
  intro i n hi hk
  obtain ⟨n, rfl⟩ : ∃ n', n = n' + 1 := ⟨n - 1, by omega⟩
  have a1 : i < l.length := by omega
  have e1 : l[((i : Nat) : Int).toNat]? = some (l[i]'a1) := by simp [a1]
  have e2 : l[i]? = some (l[i]'a1) := by simp [a1]
  have hkl : l[i]'a1 ∈ l := List.getElem_mem a1
  rw [List.drop_eq_getElem_cons a1, List.find?_cons]
  have hih := ih (i + 1) n (by omega) (by omega)
  generalize l[i]'a1 = y at *
  obtain ⟨a, b, g1, g2, g3, g4, _, g5⟩ := vl_get h.ok (h.vl y hkl)
  have ha : a < 64 := by omega
  have key : L26_2 n0 l es x1 (to : Int) way ((at_ : Int), (i : Int)) = if cA es l at_ to y = true then some (.inr (.inl (way ++ [((oth es at_ y : Nat) : Int)], ((oth es at_ y : Nat) : Int)))) else some (.inl ((at_ : Int), ((i + 1 : Nat) : Int))) := by
   unfold L26_2
   simp only [decide_eq_true (show ((i : Nat) : Int) < (l.length : Int) by omega), br_t, inB_nat a1, gd_t, e1, ob_s, g5, g1]
   by_cases ht : tou es at_ y = true
   ·have ho := h.oth_bit hkl ht
    have hlt : clo es (wo l y) (oth es at_ y) < 2 ^ 64 := clo_lt h.ok (fun k hk => h.vl k (wo_sub hk).1) ho.2
    have hlim : lim (way ++ [((oth es at_ y : Nat) : Int)]).length = true := lim_of (by rw [List.length_append]; simp only [List.length_singleton]; omega)
    have hcA : cA es l at_ to y = (clo es (wo l y) (oth es at_ y)).testBit to := by unfold cA; rw [ht, Bool.true_and]
    rw [oth_int g2 ha g4 hat ht, F81_is h.ok h.vl y x1 n0 _ hb hn0 hn2 ho.2, ob_s, decide_eq_true (Int.natCast_nonneg to), gd_t, Int.toNat_natCast, bit_zero hlt (by omega), hcA, hlim, wrap_succ (show i < 4611686018427387904 by omega), gd_t]
    have ht' : (a : Int) = at_ ∨ (b : Int) = at_ := by
     simp only [tou, g2, Bool.or_eq_true, decide_eq_true_eq] at ht; omega
    by_cases hA : (a : Int) = at_
    ·rw [decide_eq_true hA]
     cases (clo es (wo l y) (oth es at_ y)).testBit to <;> rfl
    ·have hB : (b : Int) = at_ := ht'.resolve_left hA
     rw [decide_eq_false hA, decide_eq_true hB]
     cases (clo es (wo l y) (oth es at_ y)).testBit to <;> rfl
   ·have ht' : ¬ ((a : Int) = at_ ∨ (b : Int) = at_) := by
     intro g; apply ht
     simp only [tou, g2, Bool.or_eq_true, decide_eq_true_eq]; omega
    have hcA : cA es l at_ to y = false := by unfold cA; rw [Bool.not_eq_true] at ht; rw [ht]; rfl
    rw [decide_eq_false (fun e => ht' (.inl e)), decide_eq_false (fun e => ht' (.inr e)), hcA, wrap_succ (show i < 4611686018427387904 by omega)]; rfl
  cases hcA : cA es l at_ to y with
  | true => rw [if_pos hcA] at key; rw [lp_end key]
  | false => rw [if_neg (by rw [hcA]; decide)] at key; rw [lp_next key, hih]
theorem L27_1_eq (h : Okay N es) {rest : List Int} (hr : ∀ k ∈ rest, Vl es k) (n0 : Nat) (x1 : Int) (way : List Int) (cnt : Nat) (hb : rest.length ≤ 1073741824) (hn0 : rest.length < n0) (hn2 : 70 < n0) (hat : at_ < 64) (hto : to < 64) (hway : way.length < 1000) : ∀ k i n, i + k = rest.length → k < n → lpN (L27_1 n0 rest es (at_ : Int) x1 (to : Int) way cnt) n (i : Int) = some (match (rest.drop i).find? (cB es rest at_ to) with
  | some k => (way ++ [((oth es at_ k : Nat) : Int)], (way ++ [((oth es at_ k : Nat) : Int)]).length, wo rest k)
  | none => (way, cnt, rest)) := by
 intro k
 induction k with
 | zero =>
  intro i n hi hk
  obtain ⟨n, rfl⟩ : ∃ n', n = n' + 1 := ⟨n - 1, by omega⟩
  rw [List.drop_of_length_le (by omega)]
  exact lp_end (by unfold L27_1; simp only; rw [br_df (by omega)]; rfl)
 | succ k ih =>
  intro i n hi hk
  obtain ⟨n, rfl⟩ : ∃ n', n = n' + 1 := ⟨n - 1, by omega⟩
  have a1 : i < rest.length := by omega
  have e1 : rest[((i : Nat) : Int).toNat]? = some (rest[i]'a1) := by simp [a1]
  have hkl : rest[i]'a1 ∈ rest := List.getElem_mem a1
  rw [List.drop_eq_getElem_cons a1, List.find?_cons]
  have hih := ih (i + 1) n (by omega) (by omega)
  generalize rest[i]'a1 = y at *
  obtain ⟨a, b, g1, g2, g3, g4, _, g5⟩ := vl_get h (hr y hkl)
  have ha : a < 64 := by omega
  have hw := @wo_le rest y
  have hrw : ∀ k ∈ wo rest y, Vl es k := fun k hk => hr k (wo_sub hk).1
  have h83 := F83_eq n0 rest y hb hn0
  have h84 : F84 n0 x1 es (wo rest y) (at_ : Int) = some (clo es (wo rest y) at_) := F84_eq h hrw n0 at_ x1 hat (by omega) (by omega) (by omega)
  have h86 := F86_eq n0 (clo es (wo rest y) at_) to (clo_lt h hrw hat) hto
  have key : L27_1 n0 rest es (at_ : Int) x1 (to : Int) way cnt (i : Int) = if cB es rest at_ to y = true then some (.inr (way ++ [((oth es at_ y : Nat) : Int)], (way ++ [((oth es at_ y : Nat) : Int)]).length, wo rest y)) else some (.inl ((i + 1 : Nat) : Int)) := by
   unfold L27_1
   simp only [decide_eq_true (show ((i : Nat) : Int) < (rest.length : Int) by omega), br_t, inB_nat a1, gd_t, e1, ob_s, g5, g1, h83, h84, h86]
   by_cases ht : tou es at_ y = true
   ·have hlim : lim (way ++ [((oth es at_ y : Nat) : Int)]).length = true := lim_of (by rw [List.length_append]; simp only [List.length_singleton]; omega)
    have hcB : cB es rest at_ to y = !(clo es (wo rest y) at_).testBit to := by unfold cB; rw [ht, Bool.true_and]
    rw [oth_int g2 ha g4 hat ht, hcB, hlim, wrap_succ (show i < 4611686018427387904 by omega), gd_t]
    have ht' : (a : Int) = at_ ∨ (b : Int) = at_ := by
     simp only [tou, g2, Bool.or_eq_true, decide_eq_true_eq] at ht; omega
    by_cases hA : (a : Int) = at_
    ·rw [decide_eq_true hA]
     cases (clo es (wo rest y) at_).testBit to <;> rfl
    ·have hB : (b : Int) = at_ := ht'.resolve_left hA
     rw [decide_eq_false hA, decide_eq_true hB]
     cases (clo es (wo rest y) at_).testBit to <;> rfl
   ·have ht' : ¬ ((a : Int) = at_ ∨ (b : Int) = at_) := by
     intro g; apply ht
     simp only [tou, g2, Bool.or_eq_true, decide_eq_true_eq]; omega
    have hcB : cB es rest at_ to y = false := by unfold cB; rw [Bool.not_eq_true] at ht; rw [ht]; rfl
    rw [decide_eq_false (fun e => ht' (.inl e)), decide_eq_false (fun e => ht' (.inr e)), hcB, wrap_succ (show i < 4611686018427387904 by omega)]; rfl
  cases hcB : cB es rest at_ to y with
  | true => rw [if_pos hcB] at key; rw [lp_end key]
  | false => rw [if_neg (by rw [hcB]; decide)] at key; rw [lp_next key, hih]
theorem find_congr {α : Type} {p q : α → Bool} : ∀ {l : List α}, (∀ k ∈ l, p k = q k) → l.find? p = l.find? q
 | [], _ => rfl
 | a :: l, h => by
  rw [List.find?_cons, List.find?_cons, h a (by simp), find_congr fun k hk => h k (by simp [hk])]
theorem find_filter {α : Type} {p q : α → Bool} : ∀ {l : List α}, (l.filter p).find? q = l.find? fun k => p k && q k
 | [] => rfl
 | a :: l => by
  by_cases h : p a = true
  ·rw [List.filter_cons_of_pos h, List.find?_cons, List.find?_cons, find_filter, h, Bool.true_and]
  ·rw [List.filter_cons_of_neg h, List.find?_cons, find_filter]
   rw [Bool.not_eq_true] at h
   rw [h]; rfl
theorem Tr.ways (h : Tr N es x l) (n0 : Nat) (x1 : Int) (hn0 : 70 < n0) (hto : to < 64) : ∀ (m : Nat) (P : Int → Bool) (at_ : Nat) (way : List Int) (n n' : Nat), (l.filter P).length ≤ m → at_ < 64 → x.testBit at_ = true → Cn ((l.filter P).map (eg es)) at_ to → way.getLast? = some (at_ : Int) → way.length + m < 1000 → m < n → m < n' →
  ∃ out c c', lpN (L26_3 n0 (to : Int) l es x1) n (way, way.length, (at_ : Int)) = some (out, c) ∧ lpN (L27_2 n0 (to : Int) es x1) n' (way, way.length, l.filter P) = some (out, c') ∧ out.length ≤ way.length + m := by
 have hl63 : l.length < 64 := by have := h.len; have : rk x 64 ≤ 64 := low_len _ _; omega
 intro m
 induction m with
 | zero =>
  intro P at_ way n n' hm hat hxa hc hlast hway hn hn'
  have hnil : l.filter P = [] := List.length_eq_zero_iff.1 (by omega)
  have : at_ = to := by rw [hnil] at hc; exact cn_nil.1 hc
  subst this
  obtain ⟨n, rfl⟩ : ∃ k, n = k + 1 := ⟨n - 1, by omega⟩
  obtain ⟨n', rfl⟩ : ∃ k, n' = k + 1 := ⟨n' - 1, by omega⟩
  have hpos : 0 < way.length := by cases way with
   | nil => cases hlast
   | cons => simp
  have hget : way[way.length - 1]? = some (at_ : Int) := by rw [← List.getLast?_eq_getElem?]; exact hlast
  have hw1 : IntKind.wrap .i64 ((way.length : Int) - 1) = ((way.length - 1 : Nat) : Int) := by rw [wrap_in (by omega) (by omega)]; omega
  refine ⟨way, way.length, way.length, lp_end (by unfold L26_3; simp [br]), lp_end (by
   unfold L27_2
   simp only [hw1, inB_nat (show way.length - 1 < way.length by omega), gd_t, Int.toNat_natCast, hget, ob_s, decide_true, Bool.not_true, br_f]), by omega⟩
 | succ m ih =>
  intro P at_ way n n' hm hat hxa hc hlast hway hn hn'
  obtain ⟨n, rfl⟩ : ∃ k, n = k + 1 := ⟨n - 1, by omega⟩
  obtain ⟨n', rfl⟩ : ∃ k, n' = k + 1 := ⟨n' - 1, by omega⟩
  have hpos : 0 < way.length := by cases way with
   | nil => cases hlast
   | cons => simp
  have hget : way[way.length - 1]? = some (at_ : Int) := by rw [← List.getLast?_eq_getElem?]; exact hlast
  have hw1 : IntKind.wrap .i64 ((way.length : Int) - 1) = ((way.length - 1 : Nat) : Int) := by rw [wrap_in (by omega) (by omega)]; omega
  by_cases hat2 : at_ = to
  ·subst hat2
   refine ⟨way, way.length, way.length, lp_end (by unfold L26_3; simp [br]), lp_end (by
    unfold L27_2
    simp only [hw1, inB_nat (show way.length - 1 < way.length by omega), gd_t, Int.toNat_natCast, hget, ob_s, decide_true, Bool.not_true, br_f]), by omega⟩
  ·have hne : ¬ ((at_ : Int) = (to : Int)) := by omega
   have hfl : (l.filter P).length ≤ l.length := List.length_filter_le _ _
   have h26 := h.L26_2_eq (at_ := at_) (to := to) n0 x1 way (by omega) (by omega) hn0 hat hto (by omega) l.length 0 n0 (by omega) (by omega)
   have h27 := L27_1_eq (at_ := at_) (to := to) h.ok (rest := l.filter P) (fun k hk => h.vl k (List.mem_filter.1 hk).1) n0 x1 way way.length (by omega) (by omega) hn0 hat hto (by omega) (l.filter P).length 0 n0 (by omega) (by omega)
   rw [List.drop_zero] at h26 h27
   rw [find_congr (p := cA es l at_ to) (q := fun k => P k && cB es (l.filter P) at_ to k) fun k hk => h.pick_iff hat hc hk, ← find_filter] at h26
   obtain ⟨k0, hk0, hcB0⟩ := h.some_pick hat hat2 hc
   cases hf : (l.filter P).find? (cB es (l.filter P) at_ to) with
   | none => exact absurd hcB0 (List.find?_eq_none.1 hf k0 hk0)
   | some k =>
    rw [hf] at h26 h27
    simp only at h26 h27
    have hk := List.mem_of_find?_eq_some hf
    have hcB := List.find?_some hf
    have hkl := (List.mem_filter.1 hk).1
    have ht : tou es at_ k = true := by unfold cB at hcB; rw [Bool.and_eq_true] at hcB; exact hcB.1
    have ho := h.oth_bit hkl ht
    have hno : ¬ Cn ((wo (l.filter P) k).map (eg es)) at_ to := by
     unfold cB at hcB
     rw [ht, Bool.true_and, Bool.not_eq_true', ← Bool.not_eq_true, clo_bit h.ok (fun k' hk' => h.vl k' (List.mem_filter.1 (wo_sub hk').1).1) hat] at hcB
     exact hcB
    have hbe := behind hk hc ht hno
    have hwo : wo (l.filter P) k = l.filter fun z => (!decide (z = k)) && P z := by unfold wo; rw [List.filter_filter]
    have hlen : (wo (l.filter P) k).length < (l.filter P).length := by
     have h1 := @wo_le (l.filter P) k
     have h2 : (wo (l.filter P) k).length ≠ (l.filter P).length := fun e => wo_len.1 e hk
     omega
    rw [hwo] at hbe hlen h27
    obtain ⟨out, c, c', r1, r2, r3⟩ := ih (fun z => (!decide (z = k)) && P z) (oth es at_ k) (way ++ [((oth es at_ k : Nat) : Int)]) n n' (by omega) ho.2 ho.1 hbe (by simp) (by rw [List.length_append]; simp only [List.length_singleton]; omega) (by omega) (by omega)
    refine ⟨out, c, c', ?_, ?_, by rw [List.length_append] at r3; simp only [List.length_singleton] at r3; omega⟩
    ·rw [lp_next (s' := (way ++ [((oth es at_ k : Nat) : Int)], (way ++ [((oth es at_ k : Nat) : Int)]).length, ((oth es at_ k : Nat) : Int))) (by
      unfold L26_3
      simp only [decide_eq_false hne, Bool.not_false, br_t]
      rw [show lpN (L26_2 n0 l es x1 (to : Int) way) n0 ((at_ : Int), 0) = _ from h26]; rfl)]
     exact r1
    ·rw [lp_next (s' := (way ++ [((oth es at_ k : Nat) : Int)], (way ++ [((oth es at_ k : Nat) : Int)]).length, l.filter fun z => (!decide (z = k)) && P z)) (by
      unfold L27_2
      simp only [hw1, inB_nat (show way.length - 1 < way.length by omega), gd_t, Int.toNat_natCast, hget, ob_s, decide_eq_false hne, Bool.not_false, br_t]
      rw [show lpN (L27_1 n0 (l.filter P) es (at_ : Int) x1 (to : Int) way way.length) n0 0 = _ from h27]; rfl)]
     exact r2
end
end Go.Proofs.YtookeaakpiefjaaGreatDoor
end

section
namespace Go.Proofs.YtookeaakpiefjaaGreatDoor
open Go Go.Ab Go.Ab.W Go.Ab.T30
def okN (M x : Nat) (y : Int) : Bool := decide (0 ≤ y ∧ y < (M : Int)) && x.testBit y.toNat
theorem L26_1_step (n0 M x : Nat) (f t : Int) (i : Nat) (y : Int) (hM : M ≤ 64) (hx : x < 2 ^ 64) (hi : i < 2) (hy : [f, t][i]? = some y) : L26_1 n0 f t (M : Int) x (i : Int) = if okN M x y = true then some (.inl ((i + 1 : Nat) : Int)) else some (.inr (.inl ())) := by
 unfold L26_1
 have e1 : [f, t][((i : Nat) : Int).toNat]? = some y := by rw [Int.toNat_natCast]; exact hy
 simp only [decide_eq_true (show ((i : Nat) : Int) < 2 by omega), br_t, inB_nat hi, gd_t, e1, ob_s]
 unfold okN
 by_cases h1 : 0 ≤ y
 ·by_cases h2 : y < (M : Int)
  ·rw [decide_eq_false (show ¬ y < 0 by omega), decide_eq_false (show ¬ (M : Int) ≤ y by omega), decide_eq_true h1, bit_zero hx (show y.toNat ≤ 64 by omega), decide_eq_true ⟨h1, h2⟩, wrap_succ (by omega)]
   cases x.testBit y.toNat <;> rfl
  ·rw [decide_eq_false (show ¬ y < 0 by omega), decide_eq_true (show (M : Int) ≤ y by omega), decide_eq_false (show ¬ (0 ≤ y ∧ y < (M : Int)) from fun g => h2 g.2)]; rfl
 ·rw [decide_eq_true (show y < 0 by omega), decide_eq_false (show ¬ (0 ≤ y ∧ y < (M : Int)) from fun g => h1 g.1)]; rfl
theorem L26_1_eq (n0 M x : Nat) (f t : Int) (hM : M ≤ 64) (hx : x < 2 ^ 64) (n : Nat) (hn : 2 < n) : lpN (L26_1 n0 f t (M : Int) x) n 0 = some (if (okN M x f && okN M x t) = true then .inr () else .inl ()) := by
 obtain ⟨n, rfl⟩ : ∃ k, n = k + 3 := ⟨n - 3, by omega⟩
 have s0 := L26_1_step n0 M x f t 0 f hM hx (by omega) rfl
 have s1 := L26_1_step n0 M x f t 1 t hM hx (by omega) rfl
 have s2 : L26_1 n0 f t (M : Int) x ((2 : Nat) : Int) = some (.inr (.inr ())) := by unfold L26_1; rfl
 by_cases h1 : okN M x f = true
 ·rw [if_pos h1] at s0
  rw [show (0 : Int) = ((0 : Nat) : Int) from rfl, lp_next s0]
  by_cases h2 : okN M x t = true
  ·rw [if_pos h2] at s1
   rw [lp_next s1, lp_end s2, h1, h2]; rfl
  ·rw [if_neg h2] at s1
   rw [lp_end s1, h1, Bool.not_eq_true] at *
   rw [h2]; rfl
 ·rw [if_neg h1] at s0
  rw [show (0 : Int) = ((0 : Nat) : Int) from rfl, lp_end s0]
  rw [Bool.not_eq_true] at h1
  rw [h1]; rfl
theorem path_same (n : Nat) (N : Int) (es : List (Int × Int)) (x : Nat) (l : List Int) (f t : Int) (hx : x < 2 ^ 64) (hb : l.length ≤ 1073741824) (hl : es.length < 4611686018427387904) (hk : es.length < n) (hn : 70 < n) (hln : l.length < n) : ∃ r, F26 n N es x l f t = some r ∧ F27 n N es x l f t = some r ∧ r.1.length ≤ 64 := by
 unfold F26 F27
 rw [F22_eq n N es x l hx (by omega) hl hk (by omega) hln, F23_eq n N es x l hx (by omega) hl hk (by omega) hln, ob_s, ob_s]
 by_cases hc : ckT N es x l = 0
 ·obtain ⟨M, rfl, hO, h0, hxM, hT⟩ := ckT_zero hc
  obtain ⟨hinn, hlen, hj, hasc⟩ := isT_inn hT
  have hTr : Tr M es x l := ⟨hO, hx, h0, hinn, hlen, hj, hasc⟩
  have hM := hO.le
  rw [decide_eq_true hc]
  simp only [Bool.not_true, br_f]
  rw [L26_1_eq n M x f t hM hx n (by omega), ob_s]
  have key : (br (decide (f < 0)) (some true) (br (decide ((M : Int) ≤ f)) (some true) (ob (F86 n x f) fun r52 => br (!r52) (some true) (br (decide (t < 0)) (some true) (br (decide ((M : Int) ≤ t)) (some true) (ob (F86 n x t) fun r57 => some (!r57))))))) = some (!(okN M x f && okN M x t)) := by
   have half : ∀ (y : Int) (K : Option Bool), br (decide (y < 0)) (some true) (br (decide ((M : Int) ≤ y)) (some true) (ob (F86 n x y) fun r => br (!r) (some true) K)) = if okN M x y = true then K else some true := by
    intro y K
    unfold okN
    by_cases h1 : 0 ≤ y
    ·by_cases h2 : y < (M : Int)
     ·obtain ⟨y, rfl⟩ := Int.eq_ofNat_of_zero_le h1
      rw [decide_eq_false (show ¬ (y : Int) < 0 by omega), decide_eq_false (show ¬ (M : Int) ≤ y by omega), F86_eq n x y hx (by omega), decide_eq_true ⟨h1, h2⟩, Int.toNat_natCast]
      cases x.testBit y <;> rfl
     ·rw [decide_eq_false (show ¬ y < 0 by omega), decide_eq_true (show (M : Int) ≤ y by omega), decide_eq_false (show ¬ (0 ≤ y ∧ y < (M : Int)) from fun g => h2 g.2)]; rfl
    ·rw [decide_eq_true (show y < 0 by omega), decide_eq_false (show ¬ (0 ≤ y ∧ y < (M : Int)) from fun g => h1 g.1)]; rfl
   rw [half f]
   have h2 := half t (some false)
   have h3 : (ob (F86 n x t) fun r57 => br (!r57) (some true) (some false)) = ob (F86 n x t) fun r57 => some (!r57) := by
    congr 1; funext r; cases r <;> rfl
   rw [h3] at h2
   rw [h2]
   cases okN M x f <;> cases okN M x t <;> rfl
  rw [key, ob_s]
  by_cases hok : (okN M x f && okN M x t) = true
  ·have h2 := hok
   simp only [okN, Bool.and_eq_true, decide_eq_true_eq] at h2
   obtain ⟨⟨⟨f0, f1⟩, f2⟩, ⟨t0, t1⟩, t2⟩ := h2
   obtain ⟨f, rfl⟩ := Int.eq_ofNat_of_zero_le f0
   obtain ⟨t, rfl⟩ := Int.eq_ofNat_of_zero_le t0
   rw [Int.toNat_natCast] at f2 t2
   have hl63 : l.length < 64 := by have : rk x 64 ≤ 64 := low_len _ _; omega
   have hfilt : l.filter (fun _ => true) = l := List.filter_eq_self.2 fun _ _ => rfl
   obtain ⟨out, c, c', r1, r2, r3⟩ := hTr.ways n (M : Int) hn (show t < 64 by omega) l.length (fun _ => true) f [(f : Int)] n n (by rw [hfilt]; exact Nat.le_refl _) (by omega) f2 (by rw [hfilt]; exact hTr.cn f2 t2) rfl (by simp only [List.length_singleton]; omega) hln hln
   rw [hfilt] at r2
   have r1' : lpN (L26_3 n (t : Int) l es (M : Int)) n ([(f : Int)], 1, (f : Int)) = some (out, c) := r1
   have r2' : lpN (L27_2 n (t : Int) es (M : Int)) n ([(f : Int)], 1, l) = some (out, c') := r2
   rw [hok]
   simp only [if_true, Bool.not_true, br_f, r1', r2', ob_s]
   exact ⟨_, rfl, rfl, by simp only; simp only [List.length_singleton] at r3; omega⟩
  ·rw [Bool.not_eq_true] at hok
   rw [hok]
   exact ⟨_, rfl, rfl, Nat.zero_le _⟩
 ·rw [decide_eq_false hc]
  exact ⟨_, rfl, rfl, Nat.zero_le _⟩
theorem L18_eq (n0 : Nat) (l : List Int) (hb : l.length < 4611686018427387904) : ∀ k i n, i + k = l.length → k < n → lpN (L18_1 n0 l l) n (i : Int) = some (.inr ()) := by
 intro k
 induction k with
 | zero =>
  intro i n hi hk
  obtain ⟨n, rfl⟩ : ∃ n', n = n' + 1 := ⟨n - 1, by omega⟩
  exact lp_end (by unfold L18_1; rw [br_df (by omega)])
 | succ k ih =>
  intro i n hi hk
  obtain ⟨n, rfl⟩ : ∃ n', n = n' + 1 := ⟨n - 1, by omega⟩
  have a1 : i < l.length := by omega
  have e1 : l[((i : Nat) : Int).toNat]? = some (l[i]'a1) := by simp [a1]
  rw [lp_next (s' := ((i + 1 : Nat) : Int)) (by unfold L18_1; simp only [decide_eq_true (show ((i : Nat) : Int) < (l.length : Int) by omega), br_t, inB_nat a1, gd_t, e1, ob_s, decide_true, Bool.not_true, br_f, wrap_succ (show i < 4611686018427387904 by omega)])]
  exact ih (i + 1) n (by omega) (by omega)
theorem F18_same (n : Nat) (l : List Int) (hb : l.length < 4611686018427387904) (hn : l.length < n) : F18 n l l = some true := by
 unfold F18
 rw [decide_eq_true rfl, Bool.not_true, br_f, show lpN (L18_1 n l l) n 0 = _ from L18_eq n l hb l.length 0 n (by omega) hn]; rfl
theorem or_bit_lt {a i : Nat} (ha : a < 2 ^ 64) (hi : i < 64) : uw .u64 (uw .u64 a ||| uw .u64 (2 ^ i)) = a ||| 2 ^ i := word_or ha (one_lt hi)
theorem rk_or {a i : Nat} (hi : i < 64) : rk (a ||| 2 ^ i) 64 ≤ rk a 64 + 1 := by
 have key : ∀ (l : List Nat), l.Nodup → (l.filter (a ||| 2 ^ i).testBit).length ≤ (l.filter a.testBit).length + (if i ∈ l then 1 else 0) := by
  intro l
  induction l with
  | nil => intro _; simp
  | cons b l ih =>
   intro hn
   rw [List.nodup_cons] at hn
   have ih := ih hn.2
   by_cases hb : i = b
   ·subst hb
    rw [if_neg hn.1] at ih
    rw [if_pos (by simp)]
    rw [List.filter_cons_of_pos (by rw [Nat.testBit_or, tb_one]; simp)]
    by_cases h1 : a.testBit i = true
    ·rw [List.filter_cons_of_pos h1]; simp only [List.length_cons]; omega
    ·rw [List.filter_cons_of_neg h1]; simp only [List.length_cons]; omega
   ·have h2 : (a ||| 2 ^ i).testBit b = a.testBit b := by rw [Nat.testBit_or, tb_one, decide_eq_false (fun e => hb e.symm), Bool.or_false]
    have h3 : (if i ∈ b :: l then 1 else 0) = (if i ∈ l then 1 else 0) := by
     by_cases h4 : i ∈ l
     ·rw [if_pos h4, if_pos (by simp [h4])]
     ·rw [if_neg h4, if_neg (by simp [hb, h4])]
    rw [h3]
    by_cases h1 : a.testBit b = true
    ·rw [List.filter_cons_of_pos h1, List.filter_cons_of_pos (by rw [h2]; exact h1)]; simp only [List.length_cons]; omega
    ·rw [List.filter_cons_of_neg h1, List.filter_cons_of_neg (by rw [h2]; exact h1)]; exact ih
 have := key (List.range 64) List.nodup_range
 rw [if_pos (List.mem_range.2 hi)] at this
 exact this
theorem F50_ok (n M x : Nat) (es : List (Int × Int)) (hM : M ≤ 64) (hx : x < 2 ^ 64) (hn : 70 < n) : ∃ w, F50 n (M : Int) es x = some w ∧ w < 2 ^ 64 ∧ rk w 64 ≤ 9 := by
 have step : ∀ (s i : Nat), s < 2 ^ 64 → rk s 64 ≤ 9 → i ≤ M → (∃ s', L50_1 n (M : Int) x (s, (i : Int)) = some (.inl (s', ((i + 1 : Nat) : Int))) ∧ s' < 2 ^ 64 ∧ rk s' 64 ≤ 9 ∧ i < M) ∨ L50_1 n (M : Int) x (s, (i : Int)) = some (.inr s) := by
  intro s i hs hr hi
  unfold L50_1
  simp only [F53_eq n s hs (by omega), ob_s]
  by_cases h1 : i < M
  ·rw [decide_eq_true (show (i : Int) < (M : Int) by omega), br_t, ob_s]
   by_cases h2 : rk s 64 < 9
   ·rw [decide_eq_true (show ((rk s 64 : Nat) : Int) < 9 by omega), br_t, F86_eq n x i hx (by omega), ob_s, F106_eq n i (by omega), wrap_succ (by omega)]
    refine .inl ?_
    cases x.testBit i with
    | true => exact ⟨s ||| 2 ^ i, by simp only [br_t, ob_s, or_bit_lt hs (show i < 64 by omega)], or_lt' hs (one_lt (by omega)), by have := @rk_or s i (by omega); omega, h1⟩
    | false => exact ⟨s, rfl, hs, hr, h1⟩
   ·rw [decide_eq_false (show ¬ ((rk s 64 : Nat) : Int) < 9 by omega)]; exact .inr rfl
  ·rw [decide_eq_false (show ¬ (i : Int) < (M : Int) by omega)]; exact .inr rfl
 have loop : ∀ k i s n', i + k = M → s < 2 ^ 64 → rk s 64 ≤ 9 → k < n' → ∃ w, lpN (L50_1 n (M : Int) x) n' (s, (i : Int)) = some w ∧ w < 2 ^ 64 ∧ rk w 64 ≤ 9 := by
  intro k
  induction k with
  | zero =>
   intro i s n' hi hs hr hn'
   obtain ⟨n', rfl⟩ : ∃ k, n' = k + 1 := ⟨n' - 1, by omega⟩
   rcases step s i hs hr (by omega) with ⟨_, _, _, _, h⟩ | h
   ·omega
   ·exact ⟨s, lp_end h, hs, hr⟩
  | succ k ih =>
   intro i s n' hi hs hr hn'
   obtain ⟨n', rfl⟩ : ∃ k, n' = k + 1 := ⟨n' - 1, by omega⟩
   rcases step s i hs hr (by omega) with ⟨s', h, h1, h2, _⟩ | h
   ·rw [lp_next h]
    exact ih (i + 1) s' n' (by omega) h1 h2 (by omega)
   ·exact ⟨s, lp_end h, hs, hr⟩
 obtain ⟨w, h1, h2, h3⟩ := loop M 0 0 n (by omega) (by decide) (by decide +kernel) (by omega)
 refine ⟨w, ?_, h2, h3⟩
 unfold F50
 rw [show lpN (L50_1 n (M : Int) x) n (0, 0) = some w from h1, ob_s]
theorem F51_ok (n what : Nat) (bn : Int) (bs : Nat) (N : Int) (es : List (Int × Int)) (x : Nat) (hl : es.length ≤ 200) (hx : x < 2 ^ 64) : ∃ N' es' x', F51 n what bn bs N es x = some (N', es', x') ∧ es'.length ≤ 200 ∧ x' < 2 ^ 64 := by
 have e31 : F31 n es = some es := by unfold F31; rw [lim_of (by omega)]; rfl
 unfold F51
 rw [e31, ob_s]
 by_cases h0 : what % 6 = 0
 ·rw [decide_eq_true h0]; exact ⟨_, _, _, rfl, hl, hx⟩
 ·rw [decide_eq_false h0, br_f]
  by_cases h1 : what % 6 = 1
  ·rw [decide_eq_true h1, br_t]
   by_cases h2 : 0 < es.length
   ·rw [decide_eq_true (show (0 : Int) < (es.length : Int) by omega), br_t]
    have hu : ui .u64 (es.length : Int) = es.length := by
     show ((es.length : Int) % ((2 ^ 64 : Nat) : Int)).toNat = es.length
     omega
    rw [hu, decide_eq_true h2, gd_t, ob_s]
    have hm : ui .u64 bn % es.length < es.length := Nat.mod_lt _ h2
    generalize ui .u64 bn % es.length = j at hm
    rw [wrap_in (x := ((j : Nat) : Int)) (by omega) (by omega), inB_nat hm, gd_t]
    have e1 : es[((j : Nat) : Int).toNat]? = some (es[j]'hm) := by simp [hm]
    rw [e1, ob_s]
    generalize es[j]'hm = p at *
    obtain ⟨a, b⟩ := p
    simp only [gd_t]
    rw [Int.toNat_natCast, List.getElem?_set_self hm, ob_s]
    exact ⟨_, _, _, rfl, by rw [List.length_set, List.length_set]; exact hl, hx⟩
   ·rw [decide_eq_false (show ¬ (0 : Int) < (es.length : Int) by omega)]; exact ⟨_, _, _, rfl, hl, hx⟩
  ·rw [decide_eq_false h1, br_f]
   by_cases h2 : what % 6 = 2
   ·rw [decide_eq_true h2]; exact ⟨_, _, _, rfl, hl, Nat.mod_lt _ (Nat.two_pow_pos 64)⟩
   ·rw [decide_eq_false h2, br_f]
    by_cases h3 : what % 6 = 3
    ·rw [decide_eq_true h3]; exact ⟨_, _, _, rfl, hl, by decide⟩
    ·rw [decide_eq_false h3]; exact ⟨_, _, _, rfl, hl, hx⟩
end Go.Proofs.YtookeaakpiefjaaGreatDoor
end

section
namespace Go.Proofs.YtookeaakpiefjaaGreatDoor
open Go Go.Ab Go.Ab.W Go.Ab.T30
theorem wrap_rng (y : Int) : -9223372036854775808 ≤ IntKind.wrap .i64 y ∧ IntKind.wrap .i64 y < 9223372036854775808 := by
 have e : ((2 : Int) ^ (64 : Nat)) = 18446744073709551616 := by decide
 have e2 : ((2 : Int) ^ (63 : Nat)) = 9223372036854775808 := by decide
 simp only [IntKind.wrap, IntKind.bits, IntKind.signed, Bool.true_and, e, e2]
 split <;> simp_all <;> omega
theorem wrap_pred {i : Nat} (h : i < 4611686018427387904) (h0 : 0 < i) : IntKind.wrap .i64 ((i : Int) - 1) = ((i - 1 : Nat) : Int) := by rw [wrap_in (by omega) (by omega)]; omega
theorem F125_tot (n : Nat) (l : List Int) (hb : l.length < 4611686018427387904) (hn : l.length < n) : ∃ l', F125 n l = some l' ∧ l'.length ≤ l.length := by
 obtain ⟨r, h1, h2⟩ := lp_tot (body := L125_1 n l) (R := fun r => 0 ≤ r ∧ r ≤ (l.length : Int)) (fun k v => v = (k : Int) ∧ k ≤ l.length) (fun k v hI => by
  obtain ⟨rfl, hk⟩ := hI
  unfold L125_1
  by_cases h0 : 0 < k
  ·have e1 : l[k - 1]? = some (l[k - 1]'(by omega)) := List.getElem?_eq_getElem _
   simp only [decide_eq_true (show (0 : Int) < (k : Int) by omega), br_t, wrap_pred (show k < 4611686018427387904 by omega) h0, inB_nat (show k - 1 < l.length by omega), gd_t, Int.toNat_natCast, e1, ob_s]
   by_cases hz : l[k - 1]'(by omega) = 0
   ·rw [decide_eq_true hz]
    exact .inl ⟨_, rfl, k - 1, by omega, rfl, by omega⟩
   ·rw [decide_eq_false hz]
    exact .inr ⟨_, rfl, by omega, by omega⟩
  ·rw [decide_eq_false (show ¬ (0 : Int) < (k : Int) by omega)]
   exact .inr ⟨_, rfl, by omega, by omega⟩) l.length (l.length : Int) n ⟨rfl, Nat.le_refl _⟩ hn
 unfold F125
 rw [h1, ob_s]
 have hok : okB 0 r l.length = true := decide_eq_true ⟨by omega, by omega, by omega⟩
 rw [hok, gd_t]
 exact ⟨_, rfl, by rw [List.length_take, List.length_drop]; omega⟩
theorem F123_tot (n : Nat) (b : Bool) (l : List Int) (hb : l.length < 4611686018427387904) (hn : l.length < n) : ∃ b' l', F123 n b l = some (b', l') ∧ l'.length ≤ l.length ∧ (b = false → b' = false) := by
 obtain ⟨l', h1, h2⟩ := F125_tot n l hb hn
 unfold F123
 rw [h1, ob_s]
 cases b
 ·exact ⟨_, _, rfl, h2, fun _ => rfl⟩
 ·exact ⟨_, _, rfl, h2, fun h => by cases h⟩
theorem F72_tot (n : Nat) (x : Int) (hn : 2 < n) : ∃ b l, F72 n x = some (b, l) ∧ l.length ≤ 2 ∧ (0 ≤ x → b = false) := by
 unfold F72
 have key : ∃ v : Nat, br (decide (x < 0)) (some (uneg .u64 (ui .u64 x))) (some (ui .u64 x)) = some v := by
  cases decide (x < 0)
  ·exact ⟨_, rfl⟩
  ·exact ⟨_, rfl⟩
 obtain ⟨v, hv⟩ := key
 rw [hv, ob_s]
 obtain ⟨b, l, h1, h2, h3⟩ := F123_tot n (decide (x < 0)) [IntKind.wrap .i64 ((v % 4294967296 : Nat) : Int), IntKind.wrap .i64 ((uw .u64 (v / 4294967296) : Nat) : Int)] (by simp) (by simpa using hn)
 rw [h1]
 exact ⟨b, l, rfl, h2, fun h => h3 (decide_eq_false (by omega))⟩
theorem F128_tot (n : Nat) (l1 l5 : List Int) (hb : l1.length < 4611686018427387904) (hn : l1.length < n) : ∃ r, F128 n l1 l5 = some r := by
 unfold F128
 by_cases hl : l1.length = l5.length
 ·rw [decide_eq_true (show (l1.length : Int) = (l5.length : Int) by omega)]
  obtain ⟨r, h1, _⟩ := lp_tot (body := L128_1 n l1 l5) (R := fun _ => True) (fun k v => v = (k : Int) - 1 ∧ k ≤ l1.length) (fun k v hI => by
   obtain ⟨rfl, hk⟩ := hI
   unfold L128_1
   by_cases h0 : 0 < k
   ·have e0 : (k : Int) - 1 = ((k - 1 : Nat) : Int) := by omega
    have e1 : l1[k - 1]? = some (l1[k - 1]'(by omega)) := List.getElem?_eq_getElem _
    have e2 : l5[k - 1]? = some (l5[k - 1]'(by omega)) := List.getElem?_eq_getElem _
    rw [e0]
    simp only [decide_eq_true (show (0 : Int) ≤ ((k - 1 : Nat) : Int) by omega), br_t, inB_nat (show k - 1 < l1.length by omega), inB_nat (show k - 1 < l5.length by omega), gd_t, Int.toNat_natCast, e1, e2, ob_s]
    by_cases hz : l1[k - 1]'(by omega) = l5[k - 1]'(by omega)
    ·rw [decide_eq_true hz]
     exact .inl ⟨_, rfl, k - 1, by omega, by rw [wrap_in (by omega) (by omega)], by omega⟩
    ·rw [decide_eq_false hz]
     exact .inr ⟨_, rfl, trivial⟩
   ·rw [decide_eq_false (show ¬ (0 : Int) ≤ (k : Int) - 1 by omega)]
    exact .inr ⟨_, rfl, trivial⟩) l1.length ((l1.length : Int) - 1) n ⟨rfl, Nat.le_refl _⟩ hn
  rw [Bool.not_true, br_f, wrap_in (x := (l1.length : Int) - 1) (by omega) (by omega), h1]
  rcases r with r | r
  ·exact ⟨_, rfl⟩
  ·exact ⟨_, rfl⟩
 ·rw [decide_eq_false (show ¬ (l1.length : Int) = (l5.length : Int) by omega)]
  exact ⟨_, rfl⟩
theorem F124_tot (n : Nat) (l1 l6 : List Int) (hb : l1.length ≤ 1073741824) (hn : l1.length < n) : ∃ l', F124 n l1 l6 = some l' ∧ l'.length ≤ l1.length := by
 obtain ⟨r, h1, h2⟩ := lp_tot (body := L124_1 n l1 l6) (R := fun r => r.length ≤ l1.length) (fun k s => ∃ i : Nat, s.2.2 = (i : Int) ∧ i + k = l1.length ∧ s.1.length = i) (fun k s hI => by
  obtain ⟨s1, s2, s3⟩ := s
  obtain ⟨i, h1, h2, h3⟩ := hI
  simp only at h1 h3
  subst h1
  unfold L124_1
  by_cases h0 : i < l1.length
  ·have e1 : l1[i]? = some (l1[i]'h0) := List.getElem?_eq_getElem _
   simp only [decide_eq_true (show (i : Int) < (l1.length : Int) by omega), br_t, inB_nat h0, gd_t, Int.toNat_natCast, e1, ob_s]
   have key : ∃ v : Int, br (decide ((i : Int) < (l6.length : Int))) (gd (inB (i : Int) l6.length) (ob l6[i]? fun x189 => some (IntKind.wrap .i64 (IntKind.wrap .i64 (l1[i]'h0 - s2) - x189)))) (some (IntKind.wrap .i64 (l1[i]'h0 - s2))) = some v := by
    by_cases h6 : i < l6.length
    ·have e2 : l6[i]? = some (l6[i]'h6) := List.getElem?_eq_getElem _
     rw [decide_eq_true (show (i : Int) < (l6.length : Int) by omega), br_t, inB_nat h6, gd_t, e2]
     exact ⟨_, rfl⟩
    ·rw [decide_eq_false (show ¬ (i : Int) < (l6.length : Int) by omega)]
     exact ⟨_, rfl⟩
   obtain ⟨v, hv⟩ := key
   rw [hv, ob_s]
   have key2 : ∃ a b : Int, br (decide (v < 0)) (some ((1 : Int), IntKind.wrap .i64 (v + 4294967296))) (some (0, v)) = some (a, b) := by
    cases decide (v < 0)
    ·exact ⟨_, _, rfl⟩
    ·exact ⟨_, _, rfl⟩
   obtain ⟨a, b, hab⟩ := key2
   rw [hab, ob_s]
   simp only
   rw [lim_of (by rw [List.length_append]; simp only [List.length_singleton]; omega), gd_t, wrap_succ (by omega)]
   exact .inl ⟨_, rfl, k - 1, by omega, i + 1, rfl, by omega, by rw [List.length_append]; simp only [List.length_singleton]; omega⟩
  ·simp only [decide_eq_false (show ¬ (i : Int) < (l1.length : Int) by omega), br_f]
   exact .inr ⟨_, rfl, by show s1.length ≤ _; omega⟩) l1.length (([] : List Int), 0, 0) n ⟨0, rfl, by omega, rfl⟩ hn
 obtain ⟨l', h3, h4⟩ := F125_tot n r (by omega) (by omega)
 unfold F124
 rw [h1, ob_s, h3]
 exact ⟨l', rfl, by omega⟩
theorem F171_tot (n : Nat) (l1 l5 : List Int) (h1 : l1.length ≤ 1000000) (h5 : l5.length ≤ 1000000) (hn : l1.length + l5.length + 4 < n) : ∃ l', F171 n l1 l5 = some l' ∧ l'.length ≤ max l1.length l5.length + 3 := by
 obtain ⟨r, g1, g2⟩ := lp_tot (body := L171_1 n l1 l5) (R := fun r => r.length ≤ max l1.length l5.length + 3) (fun k s => ∃ i : Nat, s.2.2 = (i : Int) ∧ i + k = max l1.length l5.length + 3 ∧ s.1.length = i ∧ s.2.1 < 9223372036854775808 ∧ (max l1.length l5.length + 1 ≤ i → s.2.1 < 4294967296) ∧ (max l1.length l5.length + 2 ≤ i → s.2.1 ≤ 0)) (fun k s hI => by
  obtain ⟨s1, s2, s3⟩ := s
  obtain ⟨i, e1, e2, e3, e4, e5, e6⟩ := hI
  simp only at e1 e3 e4 e5 e6
  subst e1
  unfold L171_1
  have hgo : ∃ b : Bool, (br (decide ((i : Int) < (l1.length : Int))) (some true) (br (decide ((i : Int) < (l5.length : Int))) (some true) (some (decide (0 < s2))))) = some b ∧ (b = true → i < l1.length ∨ i < l5.length ∨ 0 < s2) := by
   by_cases a1 : i < l1.length
   ·rw [decide_eq_true (show (i : Int) < (l1.length : Int) by omega)]; exact ⟨_, rfl, fun _ => .inl a1⟩
   ·rw [decide_eq_false (show ¬ (i : Int) < (l1.length : Int) by omega), br_f]
    by_cases a2 : i < l5.length
    ·rw [decide_eq_true (show (i : Int) < (l5.length : Int) by omega)]; exact ⟨_, rfl, fun _ => .inr (.inl a2)⟩
    ·rw [decide_eq_false (show ¬ (i : Int) < (l5.length : Int) by omega), br_f]
     exact ⟨_, rfl, fun h => .inr (.inr (of_decide_eq_true h))⟩
  obtain ⟨b, hb1, hb2⟩ := hgo
  simp only [hb1, ob_s]
  cases b with
  | false => exact .inr ⟨_, rfl, by show s1.length ≤ _; omega⟩
  | true =>
   have hb2 := hb2 rfl
   simp only [br_t]
   have k1 : ∃ v : Int, br (decide ((i : Int) < (l1.length : Int))) (gd (inB (i : Int) l1.length) (ob l1[(i : Int).toNat]? fun x247 => some (IntKind.wrap .i64 (s2 + x247)))) (some s2) = some v ∧ (v < 9223372036854775808) ∧ (¬ i < l1.length → v = s2) := by
    by_cases a1 : i < l1.length
    ·have e : l1[i]? = some (l1[i]'a1) := List.getElem?_eq_getElem _
     rw [decide_eq_true (show (i : Int) < (l1.length : Int) by omega), br_t, inB_nat a1, gd_t, Int.toNat_natCast, e]
     exact ⟨_, rfl, (wrap_rng _).2, fun h => absurd a1 h⟩
    ·rw [decide_eq_false (show ¬ (i : Int) < (l1.length : Int) by omega)]; exact ⟨_, rfl, e4, fun _ => rfl⟩
   obtain ⟨v, hv1, hv2, hv3⟩ := k1
   rw [hv1, ob_s]
   have k2 : ∃ u : Int, br (decide ((i : Int) < (l5.length : Int))) (gd (inB (i : Int) l5.length) (ob l5[(i : Int).toNat]? fun x262 => some (IntKind.wrap .i64 (v + x262)))) (some v) = some u ∧ (u < 9223372036854775808) ∧ (¬ i < l5.length → u = v) := by
    by_cases a1 : i < l5.length
    ·have e : l5[i]? = some (l5[i]'a1) := List.getElem?_eq_getElem _
     rw [decide_eq_true (show (i : Int) < (l5.length : Int) by omega), br_t, inB_nat a1, gd_t, Int.toNat_natCast, e]
     exact ⟨_, rfl, (wrap_rng _).2, fun h => absurd a1 h⟩
    ·rw [decide_eq_false (show ¬ (i : Int) < (l5.length : Int) by omega)]; exact ⟨_, rfl, hv2, fun _ => rfl⟩
   obtain ⟨u, hu1, hu2, hu3⟩ := k2
   rw [hu1, ob_s]
   rw [lim_of (by rw [List.length_append]; simp only [List.length_singleton]; omega), gd_t, wrap_succ (by omega)]
   refine .inl ⟨_, rfl, k - 1, ?_, i + 1, rfl, ?_, by rw [List.length_append]; simp only [List.length_singleton]; omega, (wrap_rng _).2, fun h => ?_, fun h => ?_⟩
   ·rcases hb2 with h | h | h
    ·omega
    ·omega
    ·have : ¬ max l1.length l5.length + 2 ≤ i := fun g => by have := e6 g; omega
     omega
   ·rcases hb2 with h | h | h
    ·omega
    ·omega
    ·have : ¬ max l1.length l5.length + 2 ≤ i := fun g => by have := e6 g; omega
     omega
   ·have a1 : ¬ i < l1.length := by omega
    have a5 : ¬ i < l5.length := by omega
    have hu : u = s2 := by rw [hu3 a5, hv3 a1]
    have hpos : 0 < s2 := by rcases hb2 with h | h | h <;> first | omega | exact h
    show IntKind.wrap .i64 (Int.tdiv u 4294967296) < 4294967296
    rw [hu, Int.tdiv_eq_ediv_of_nonneg (by omega), wrap_in (by omega) (by omega)]
    omega
   ·have a1 : ¬ i < l1.length := by omega
    have a5 : ¬ i < l5.length := by omega
    have hu : u = s2 := by rw [hu3 a5, hv3 a1]
    have hpos : 0 < s2 := by rcases hb2 with h | h | h <;> first | omega | exact h
    have := e5 (by omega)
    show IntKind.wrap .i64 (Int.tdiv u 4294967296) ≤ 0
    rw [hu, Int.tdiv_eq_ediv_of_nonneg (by omega), wrap_in (by omega) (by omega)]
    omega) (max l1.length l5.length + 3) (([] : List Int), 0, 0) n ⟨0, rfl, by omega, rfl, by decide, fun h => by simp only; omega, fun h => by simp only; omega⟩ (by omega)
 unfold F171
 rw [g1, ob_s]
 exact ⟨r, rfl, g2⟩
theorem F162_tot (n : Nat) (b1 : Bool) (l1 : List Int) (b5 : Bool) (l5 : List Int) (h1 : l1.length ≤ 1000000) (h5 : l5.length ≤ 1000000) (hn : l1.length + l5.length + 4 < n) : ∃ b l, F162 n b1 l1 b5 l5 = some (b, l) := by
 unfold F162
 cases hbb : (b1 == b5) with
 | true =>
  obtain ⟨l', g1, g2⟩ := F171_tot n l1 l5 h1 h5 hn
  obtain ⟨b, l, g3, _⟩ := F123_tot n b1 l' (by omega) (by omega)
  simp only [br_t, g1, ob_s, g3]
  exact ⟨_, _, rfl⟩
 | false =>
  obtain ⟨r, g1⟩ := F128_tot n l1 l5 (by omega) (by omega)
  simp only [br_f, g1, ob_s]
  by_cases hr : 0 ≤ r
  ·obtain ⟨l', g2, g3⟩ := F124_tot n l1 l5 (by omega) (by omega)
   obtain ⟨b, l, g4, _⟩ := F123_tot n b1 l' (by omega) (by omega)
   simp only [decide_eq_true hr, br_t, g2, ob_s, g4]
   exact ⟨_, _, rfl⟩
  ·obtain ⟨l', g2, g3⟩ := F124_tot n l5 l1 (by omega) (by omega)
   obtain ⟨b, l, g4, _⟩ := F123_tot n b5 l' (by omega) (by omega)
   simp only [decide_eq_false hr, br_f, g2, ob_s, g4]
   exact ⟨_, _, rfl⟩
theorem F121_tot (n : Nat) (b1 : Bool) (l1 : List Int) (b5 : Bool) (l5 : List Int) (h1 : l1.length ≤ 1000000) (h5 : l5.length ≤ 1000000) (hn : l1.length + l5.length + 4 < n) : ∃ r, F121 n b1 l1 b5 l5 = some r := by
 obtain ⟨b, l, g1, g2, _⟩ := F123_tot n (!b5) l5 (by omega) (by omega)
 obtain ⟨b', l', g3⟩ := F162_tot n b1 l1 b l h1 (by omega) (by omega)
 unfold F121 F147 F160
 simp only [g1, ob_s, g3]
 cases b'
 ·simp only [br_f]
  cases decide (0 < (l'.length : Int))
  ·exact ⟨_, rfl⟩
  ·exact ⟨_, rfl⟩
 ·exact ⟨_, rfl⟩
theorem F65_tot (n : Nat) (b : Bool) (l : List Int) (h1 : l.length ≤ 1000000) (hn : l.length + 10 < n) : ∃ r e, F65 n b l = some (r, e) := by
 obtain ⟨b1, l1, g1, g2, _⟩ := F72_tot n (-9223372036854775808) (by omega)
 obtain ⟨b2, l2, g3, g4, _⟩ := F72_tot n 9223372036854775807 (by omega)
 obtain ⟨r1, g5⟩ := F121_tot n b l b1 l1 h1 (by omega) (by omega)
 obtain ⟨r2, g6⟩ := F121_tot n b l b2 l2 h1 (by omega) (by omega)
 have key : ∃ c : Bool, (ob (F72 n (-9223372036854775808)) fun (r64, l65) => ob (F121 n b l r64 l65) fun r70 => br (decide (r70 < 0)) (some true) (ob (F72 n 9223372036854775807) fun (r73, l74) => ob (F121 n b l r73 l74) fun r79 => some (decide (0 < r79)))) = some c := by
  simp only [g1, g3, g5, g6, ob_s]
  cases decide (r1 < 0)
  ·exact ⟨_, rfl⟩
  ·exact ⟨_, rfl⟩
 obtain ⟨c, hc⟩ := key
 unfold F65
 rw [hc, ob_s]
 cases c with
 | true => exact ⟨_, _, rfl⟩
 | false =>
  obtain ⟨r, g7, _⟩ := lp_tot (body := L65_1 n l) (R := fun _ => True) (fun k s => s.2 = (k : Int) - 1 ∧ k ≤ l.length) (fun k s hI => by
   obtain ⟨s1, s2⟩ := s
   obtain ⟨e1, hk⟩ := hI
   simp only at e1
   subst e1
   unfold L65_1
   by_cases h0 : 0 < k
   ·have e0 : (k : Int) - 1 = ((k - 1 : Nat) : Int) := by omega
    have e1 : l[k - 1]? = some (l[k - 1]'(by omega)) := List.getElem?_eq_getElem _
    rw [e0]
    simp only [decide_eq_true (show (0 : Int) ≤ ((k - 1 : Nat) : Int) by omega), br_t, inB_nat (show k - 1 < l.length by omega), gd_t, Int.toNat_natCast, e1, ob_s]
    exact .inl ⟨_, rfl, k - 1, by omega, by simp only; rw [wrap_in (by omega) (by omega)], by omega⟩
   ·simp only [decide_eq_false (show ¬ (0 : Int) ≤ (k : Int) - 1 by omega)]
    exact .inr ⟨_, rfl, trivial⟩) l.length (0, (l.length : Int) - 1) n ⟨rfl, Nat.le_refl _⟩ (by omega)
  rw [br_f, wrap_in (x := (l.length : Int) - 1) (by omega) (by omega), g7, ob_s]
  cases b
  ·exact ⟨_, _, rfl⟩
  ·exact ⟨_, _, rfl⟩
theorem F122_tot (n : Nat) (x1 x2 x3 x4 x5 x6 x7 x8 : Nat) (hn : 8 < n) : ∃ l, F122 n x1 x2 x3 x4 x5 x6 x7 x8 = some l ∧ l.length ≤ 16 := by
 obtain ⟨r, g1, g2⟩ := lp_tot (body := L122_1 n) (R := fun r => r.length ≤ 16) (fun k s => ∃ i : Nat, s.2.2 = (i : Int) ∧ i + k = 8 ∧ s.1.length = 8 ∧ s.2.1.length = 2 * i) (fun k s hI => by
  obtain ⟨s1, s2, s3⟩ := s
  obtain ⟨i, e1, e2, e3, e4⟩ := hI
  simp only at e1 e3 e4
  subst e1
  unfold L122_1
  by_cases h0 : i < 8
  ·have e1 : s1[i]? = some (s1[i]'(by omega)) := List.getElem?_eq_getElem _
   simp only [decide_eq_true (show (i : Int) < 8 by omega), br_t, inB_nat h0, gd_t, Int.toNat_natCast, e1, ob_s]
   rw [lim_of (by rw [List.length_append]; simp only [List.length_cons, List.length_nil]; omega), gd_t, wrap_succ (by omega)]
   exact .inl ⟨_, rfl, k - 1, by omega, i + 1, rfl, by omega, e3, by simp only [List.length_append, List.length_cons, List.length_nil]; omega⟩
  ·simp only [decide_eq_false (show ¬ (i : Int) < 8 by omega)]
   exact .inr ⟨_, rfl, by show s2.length ≤ 16; omega⟩) 8 ([x1, x2, x3, x4, x5, x6, x7, x8], ([] : List Int), 0) n ⟨0, rfl, rfl, rfl, rfl⟩ hn
 unfold F122
 rw [g1, ob_s]
 exact ⟨r, rfl, g2⟩
theorem F14_tot (n : Nat) (x1 x2 x3 x4 x5 x6 x7 x8 : Nat) (hn : 100 < n) : ∃ r e, F14 n x1 x2 x3 x4 x5 x6 x7 x8 = some (r, e) := by
 obtain ⟨l, g1, g2⟩ := F122_tot n x1 x2 x3 x4 x5 x6 x7 x8 (by omega)
 have key : ∃ b l', F66 n x1 x2 x3 x4 x5 x6 x7 x8 = some (b, l') ∧ l'.length ≤ 17 := by
  unfold F66
  rw [g1, ob_s]
  by_cases h8 : x8 < 9223372036854775808
  ·obtain ⟨b, l', g3, g4, _⟩ := F123_tot n false l (by omega) (by omega)
   rw [decide_eq_true h8]
   simp only [br_t, g3, ob_s]
   exact ⟨b, l', rfl, by omega⟩
  ·obtain ⟨l2, g3, g4⟩ := F125_tot n l (by omega) (by omega)
   have hlen : ((List.replicate (17 : Int).toNat (0 : Int)).set ((16 : Int).toNat) 1).length = 17 := rfl
   obtain ⟨l3, g5, g6⟩ := F124_tot n ((List.replicate (17 : Int).toNat (0 : Int)).set ((16 : Int).toNat) 1) l2 (by rw [hlen]; decide) (by rw [hlen]; omega)
   obtain ⟨b, l4, g7, g8, _⟩ := F123_tot n true l3 (by omega) (by omega)
   have e0 : (List.replicate (17 : Int).toNat (0 : Int))[(16 : Int).toNat]? = some 0 := rfl
   rw [decide_eq_false h8]
   simp only [br_f, show decide ((0 : Int) ≤ 17) = true from rfl, show lim ((17 : Int).toNat) = true from rfl, show inB 16 ((17 : Int).toNat) = true from rfl, gd_t, e0, ob_s, g3, g5, g7]
   exact ⟨b, l4, rfl, by omega⟩
 obtain ⟨b, l', g3, g4⟩ := key
 obtain ⟨r, e, g5⟩ := F65_tot n b l' (by omega) (by omega)
 unfold F14
 rw [g3, ob_s]
 simp only [g5, ob_s]
 exact ⟨r, e, rfl⟩
theorem ls8_len {α : Type} {l : List α} (h : l.length = 8) : ∃ a b c d e f g i, ls8 l = some (a, b, c, d, e, f, g, i) := by
 match l, h with
 | [a, b, c, d, e, f, g, i], _ => exact ⟨a, b, c, d, e, f, g, i, rfl⟩
theorem F16_tot (n : Nat) (x : Int) (hx : 0 ≤ x) (hn : 100 < n) : ∃ r1 r2 r3 r4 r5 r6 r7 r8, F16 n x = some (r1, r2, r3, r4, r5, r6, r7, r8) := by
 obtain ⟨b, l, g1, g2, g3⟩ := F72_tot n x (by omega)
 have hb := g3 hx
 subst hb
 have key : ∃ r1 r2 r3 r4 r5 r6 r7 r8 e, F71 n false l = some (r1, r2, r3, r4, r5, r6, r7, r8, e) := by
  unfold F71
  have e0 : (List.replicate (16 : Int).toNat (0 : Int))[(15 : Int).toNat]? = some 0 := rfl
  have hl16 : ((List.replicate (16 : Int).toNat (0 : Int)).set ((15 : Int).toNat) 2147483648).length = 16 := rfl
  have e1 : F128 n l ((List.replicate (16 : Int).toNat (0 : Int)).set ((15 : Int).toNat) 2147483648) = some ((l.length : Int) - 16) := by
   unfold F128
   rw [hl16, decide_eq_false (show ¬ (l.length : Int) = ((16 : Nat) : Int) by omega), Bool.not_false, br_t, wrap_in (by omega) (by omega)]; rfl
  simp only [show decide ((0 : Int) ≤ 16) = true from rfl, show lim ((16 : Int).toNat) = true from rfl, show inB 15 ((16 : Int).toNat) = true from rfl, gd_t, e0, ob_s, e1, decide_eq_false (show ¬ (0 : Int) < (l.length : Int) - 16 by omega), decide_eq_false (show ¬ (l.length : Int) - 16 = 0 by omega), br_f]
  obtain ⟨r, g4, g5⟩ := lp_tot (body := L71_1 n l) (R := fun r => r.length = 8) (fun k s => ∃ i : Nat, s.2 = (i : Int) ∧ i + k = l.length ∧ s.1.length = 8) (fun k s hI => by
   obtain ⟨s1, s2⟩ := s
   obtain ⟨i, e1, e2, e3⟩ := hI
   simp only at e1 e3
   subst e1
   unfold L71_1
   by_cases h0 : i < l.length
   ·have hd : IntKind.wrap .i64 (Int.tdiv (i : Int) 2) = ((i / 2 : Nat) : Int) := by rw [Int.tdiv_eq_ediv_of_nonneg (by omega), wrap_in (by omega) (by omega)]; omega
    have hm : IntKind.wrap .i64 (32 * Int.tmod (i : Int) 2) = ((32 * (i % 2) : Nat) : Int) := by rw [Int.tmod_eq_emod_of_nonneg (by omega), wrap_in (by omega) (by omega)]; omega
    have e4 : s1[i / 2]? = some (s1[i / 2]'(by omega)) := List.getElem?_eq_getElem _
    have e5 : l[i]? = some (l[i]'h0) := List.getElem?_eq_getElem _
    simp only [decide_eq_true (show (i : Int) < (l.length : Int) by omega), br_t, hd, hm, inB_nat (show i / 2 < 8 by omega), inB_nat h0, gd_t, Int.toNat_natCast, e4, e5, ob_s, decide_eq_true (Int.natCast_nonneg (32 * (i % 2))), wrap_succ (show i < 4611686018427387904 by omega)]
    exact .inl ⟨_, rfl, k - 1, by omega, i + 1, rfl, by omega, by simp only [List.length_set]; exact e3⟩
   ·simp only [decide_eq_false (show ¬ (i : Int) < (l.length : Int) by omega)]
    exact .inr ⟨_, rfl, e3⟩) l.length ([0, 0, 0, 0, 0, 0, 0, 0], 0) n ⟨0, rfl, by omega, rfl⟩ (by omega)
  rw [g4, ob_s]
  obtain ⟨a, b, c, d, e, f, g, i, g6⟩ := ls8_len g5
  rw [g6]
  exact ⟨_, _, _, _, _, _, _, _, _, rfl⟩
 obtain ⟨r1, r2, r3, r4, r5, r6, r7, r8, e, g4⟩ := key
 unfold F16
 rw [g1, ob_s]
 simp only [g4, ob_s]
 exact ⟨_, _, _, _, _, _, _, _, rfl⟩
end Go.Proofs.YtookeaakpiefjaaGreatDoor
end

section
namespace Go.Proofs.YtookeaakpiefjaaGreatDoor
open Go Go.Ab Go.Ab.W Go.Ab.T30
def cb : Nat → Nat → Nat
 | _, 0 => 1
 | 0, _ + 1 => 0
 | e + 1, d + 1 => cb e d + cb e (d + 1)
theorem cb_zero (e : Nat) : cb e 0 = 1 := by cases e <;> rfl
theorem cb_step (e d : Nat) : cb (e + 1) (d + 1) = cb e d + cb e (d + 1) := rfl
theorem cb_mono {e e' : Nat} (h : e ≤ e') (d : Nat) : cb e d ≤ cb e' d := by
 induction h with
 | refl => exact Nat.le_refl _
 | step _ ih =>
  cases d with
  | zero => rw [cb_zero, cb_zero]; exact Nat.le_refl _
  | succ d => rw [cb_step]; omega
def tb : Nat → Nat × Nat × Nat × Nat × Nat × Nat × Nat × Nat
 | 0 => (0, 0, 0, 0, 0, 0, 0, 0)
 | e + 1 => let (a, b, c, d, f, g, h, i) := tb e; (1 + a, a + b, b + c, c + d, d + f, f + g, g + h, h + i)
theorem tb_eq : ∀ e, tb e = (cb e 1, cb e 2, cb e 3, cb e 4, cb e 5, cb e 6, cb e 7, cb e 8)
 | 0 => rfl
 | e + 1 => by
  unfold tb
  rw [tb_eq e]
  simp only [cb_step, cb_zero]
def tbOk : Bool := match tb 36 with
 | (a, b, c, d, f, g, h, i) => Nat.ble a 1073741824 && Nat.ble b 1073741824 && Nat.ble c 1073741824 && Nat.ble d 1073741824 && Nat.ble f 1073741824 && Nat.ble g 1073741824 && Nat.ble h 1073741824 && Nat.ble i 1073741824
theorem tb36 : tbOk = true := by decide +kernel
theorem cb_bound {e d : Nat} (he : e ≤ 36) (hd : d ≤ 8) : cb e d ≤ 1073741824 := by
 refine Nat.le_trans (cb_mono he d) ?_
 have h := tb36
 unfold tbOk at h
 rw [tb_eq] at h
 simp only [Bool.and_eq_true, Nat.ble_eq] at h
 have : d = 0 ∨ d = 1 ∨ d = 2 ∨ d = 3 ∨ d = 4 ∨ d = 5 ∨ d = 6 ∨ d = 7 ∨ d = 8 := by omega
 rcases this with rfl | rfl | rfl | rfl | rfl | rfl | rfl | rfl | rfl
 ·rw [cb_zero]; decide
 all_goals omega
def ib (x : Nat) (e : Int × Int) : Bool := x.testBit e.1.toNat && x.testBit e.2.toNat
def inc (es : List (Int × Int)) (x i : Nat) : Nat := ((es.drop i).filter (ib x)).length
theorem inc_step {es : List (Int × Int)} {x i : Nat} (hi : i < es.length) : inc es x i = inc es x (i + 1) + (if inn es x (i : Int) = true then 1 else 0) := by
 have e1 : inn es x (i : Int) = ib x es[i] := by
  simp only [inn, ib, eg, Int.toNat_natCast, List.getElem?_eq_getElem hi]
  rw [decide_eq_true ⟨Int.natCast_nonneg i, by omega⟩, Bool.true_and]
 unfold inc
 rw [List.drop_eq_getElem_cons hi, e1]
 by_cases h : ib x es[i] = true
 ·rw [List.filter_cons_of_pos h, if_pos h, List.length_cons]
 ·rw [List.filter_cons_of_neg h, if_neg h]; rfl
theorem inc_le {es : List (Int × Int)} {x : Nat} : ∀ {i j : Nat}, i ≤ j → inc es x j ≤ inc es x i := by
 intro i j h
 unfold inc
 obtain ⟨k, rfl⟩ : ∃ k, j = i + k := ⟨j - i, by omega⟩
 rw [← List.drop_drop]
 exact (List.Sublist.filter _ (List.drop_sublist _ _)).length_le
theorem nodup_len {α : Type} [DecidableEq α] : ∀ {l m : List α}, l.Nodup → (∀ a ∈ l, a ∈ m) → l.length ≤ m.length
 | [], _, _, _ => Nat.zero_le _
 | a :: l, m, hn, h => by
  rw [List.nodup_cons] at hn
  have ha := h a (by simp)
  have := nodup_len (l := l) (m := m.erase a) hn.2 fun b hb => (List.mem_erase_of_ne (fun e => hn.1 (by rw [← e]; exact hb))).2 (h b (by simp [hb]))
  rw [List.length_erase_of_mem ha] at this
  have : 0 < m.length := List.length_pos_of_mem ha
  rw [List.length_cons]; omega
def prs : List Nat → List (Int × Int)
 | [] => []
 | v :: V => (V.map fun w => (((v : Nat) : Int), ((w : Nat) : Int))) ++ prs V
theorem prs_mem : ∀ {V : List Nat}, V.Pairwise (· < ·) → ∀ {a b : Nat}, a ∈ V → b ∈ V → a < b → ((a : Int), (b : Int)) ∈ prs V
 | [], _, a, b, ha, _, _ => by cases ha
 | v :: V, h, a, b, ha, hb, hab => by
  rw [List.pairwise_cons] at h
  unfold prs
  rcases List.mem_cons.1 ha with e1 | ha'
  ·rcases List.mem_cons.1 hb with e2 | hb'
   ·omega
   ·rw [e1]; exact List.mem_append_left _ (List.mem_map.2 ⟨b, hb', rfl⟩)
  ·rcases List.mem_cons.1 hb with e2 | hb'
   ·have := h.1 a ha'; omega
   ·exact List.mem_append_right _ (prs_mem h.2 ha' hb' hab)
theorem prs_len : ∀ (V : List Nat), 2 * (prs V).length + V.length = V.length * V.length
 | [] => rfl
 | v :: V => by
  have := prs_len V
  unfold prs
  rw [List.length_append, List.length_map, List.length_cons]
  have h2 : (V.length + 1) * (V.length + 1) = V.length * V.length + 2 * V.length + 1 := by rw [Nat.add_mul, Nat.mul_add]; omega
  omega
theorem inc_bound {N : Nat} {es : List (Int × Int)} {x : Nat} (hok : okG (N : Int) es = true) (h : Okay N es) (hr : rk x 64 ≤ 9) (i : Nat) : inc es x i ≤ 36 := by
 refine Nat.le_trans (inc_le (Nat.zero_le i)) ?_
 have hasc := okG_asc hok
 have hnd : (es.filter (ib x)).Nodup := ((List.Pairwise.filter _ hasc).imp fun {a b} hab e => by
  subst e; unfold lexLt at hab; omega)
 have hle := nodup_len (m := prs (lowB x 64)) hnd fun e he => by
  obtain ⟨h1, h2⟩ := List.mem_filter.1 he
  obtain ⟨a, b, rfl, h3, h4⟩ := h.mem e h1
  simp only [ib, Int.toNat_natCast, Bool.and_eq_true] at h2
  have := h.le
  exact prs_mem (low_asc x 64) (low_mem.2 ⟨by omega, h2.1⟩) (low_mem.2 ⟨by omega, h2.2⟩) h3
 have hp := prs_len (lowB x 64)
 have hV : (lowB x 64).length ≤ 9 := hr
 unfold inc
 rw [List.drop_zero]
 generalize (lowB x 64).length = v at *
 have hv : v = 0 ∨ v = 1 ∨ v = 2 ∨ v = 3 ∨ v = 4 ∨ v = 5 ∨ v = 6 ∨ v = 7 ∨ v = 8 ∨ v = 9 := by omega
 rcases hv with rfl | rfl | rfl | rfl | rfl | rfl | rfl | rfl | rfl | rfl <;> omega
def frm (begin_ : List Int) : Nat := match begin_.getLast? with
 | some k => k.toNat + 1
 | none => 0
theorem grow_tot {N : Nat} {es : List (Int × Int)} {x : Nat} (h : Okay N es) (hx : x < 2 ^ 64) (h0 : x ≠ 0) (n : Nat) (hn : 300 < n) (hB : ∀ i d, d ≤ 8 → cb (inc es x i) d ≤ 1073741824) (hr : rk x 64 ≤ 9) :
  ∀ (d : Nat) (begin_ : List Int) (k : Nat), begin_.length + d + 1 = rk x 64 → (∀ y ∈ begin_, Vl es y) → d < k → ∃ out, R115 n k (N : Int) es x begin_ = some out ∧ out.length ≤ cb (inc es x (frm begin_)) d ∧ ∀ o ∈ out, o.length ≤ 9 := by
 have hlen := h.len
 intro d
 induction d with
 | zero =>
  intro begin_ k hb hv hk
  obtain ⟨k, rfl⟩ : ∃ k', k = k' + 1 := ⟨k - 1, by omega⟩
  refine ⟨[([] : List Int) ++ begin_], ?_, by rw [cb_zero]; exact Nat.le_refl _, fun o ho => by rw [List.mem_singleton.1 ho, List.nil_append]; omega⟩
  show F115b n (R115 n k) (N : Int) es x begin_ = _
  unfold F115b
  rw [F53_eq n x hx (by omega), ob_s, size_eq (by omega) (by omega), decide_eq_true (by omega), br_t, lim_of (by simp; omega)]; rfl
 | succ d ih =>
  intro begin_ k hb hv hk
  obtain ⟨k, rfl⟩ : ∃ k', k = k' + 1 := ⟨k - 1, by omega⟩
  have hfrm : ∃ m : Nat, (br (decide (0 < (begin_.length : Int))) (gd (inB (IntKind.wrap .i64 ((begin_.length : Int) - 1)) begin_.length) (ob (begin_[(IntKind.wrap .i64 ((begin_.length : Int) - 1)).toNat]?) fun x31 => some (IntKind.wrap .i64 (x31 + 1)))) (some 0)) = some (m : Int) ∧ m = frm begin_ ∧ m ≤ es.length := by
   unfold frm
   by_cases hb0 : 0 < begin_.length
   ·have hg : begin_[begin_.length - 1]? = some (begin_[begin_.length - 1]'(by omega)) := List.getElem?_eq_getElem _
    have hm := hv _ (List.getElem_mem (show begin_.length - 1 < begin_.length by omega))
    rw [List.getLast?_eq_getElem?, hg]
    simp only [decide_eq_true (show (0 : Int) < (begin_.length : Int) by omega), br_t, wrap_pred (show begin_.length < 4611686018427387904 by omega) hb0, inB_nat (show begin_.length - 1 < begin_.length by omega), gd_t, Int.toNat_natCast, hg, ob_s]
    generalize begin_[begin_.length - 1]'(by omega) = y at hm
    obtain ⟨y, rfl⟩ := Int.eq_ofNat_of_zero_le hm.1
    have := hm.2
    exact ⟨y + 1, by rw [wrap_succ (by omega)], by rw [Int.toNat_natCast], by omega⟩
   ·have : begin_ = [] := List.length_eq_zero_iff.1 (by omega)
    subst this
    exact ⟨0, rfl, rfl, Nat.zero_le _⟩
  obtain ⟨m, hm1, hm2, hm3⟩ := hfrm
  have hd8 : d + 1 ≤ 8 := by omega
  have hcap := hB (frm begin_) (d + 1) hd8
  obtain ⟨out, g1, g2⟩ := lp_tot (body := L115_1 n es (N : Int) x begin_ (R115 n k)) (R := fun out => out.length ≤ cb (inc es x (frm begin_)) (d + 1) ∧ ∀ o ∈ out, o.length ≤ 9) (fun j s => ∃ i : Nat, s.2 = (i : Int) ∧ i + j = es.length ∧ s.1.length + cb (inc es x i) (d + 1) ≤ cb (inc es x (frm begin_)) (d + 1) ∧ ∀ o ∈ s.1, o.length ≤ 9) (fun j s hI => by
   obtain ⟨s1, s2⟩ := s
   obtain ⟨i, e1, e2, e3, e4⟩ := hI
   simp only at e1 e3 e4
   subst e1
   unfold L115_1
   by_cases hi : i < es.length
   ·have hvi : Vl es (i : Int) := ⟨Int.natCast_nonneg i, by omega⟩
    obtain ⟨a, b, c1, c2, c3, c4, _, c5⟩ := vl_get h hvi
    have c1' : es[i]? = some ((a : Int), (b : Int)) := by rw [Int.toNat_natCast] at c1; exact c1
    have ha : a < 64 := by omega
    have hst := inc_step (es := es) (x := x) hi
    obtain ⟨w, w1, w2⟩ := F84_clo h hv n a (N : Int) ha (by omega) (by omega) (by omega)
    simp only [decide_eq_true (show (i : Int) < (es.length : Int) by omega), br_t, F63_eq h n (N : Int) (i : Int) x hx, ob_s, Int.toNat_natCast, c5, gd_t, c1', w1, F86_eq n w b w2.1 c4, wrap_succ (show i < 4611686018427387904 by omega)]
    cases hin : inn es x (i : Int) with
    | false =>
     rw [hin, if_neg (by decide), Nat.add_zero] at hst
     exact .inl ⟨_, rfl, j - 1, by omega, i + 1, rfl, by omega, by simp only; rw [← hst]; exact e3, e4⟩
    | true =>
     rw [hin, if_pos rfl] at hst
     have hst2 : cb (inc es x i) (d + 1) = cb (inc es x (i + 1)) d + cb (inc es x (i + 1)) (d + 1) := by rw [hst, cb_step]
     simp only [Bool.not_true, br_f, ob_s]
     cases hw : w.testBit b with
     | true => exact .inl ⟨_, rfl, j - 1, by omega, i + 1, rfl, by omega, by simp only; omega, e4⟩
     | false =>
      simp only [br_f]
      obtain ⟨o2, r1, r2, r3⟩ := ih (([] : List Int) ++ begin_ ++ [(i : Int)]) k (by simp; omega) (fun y hy => by
       rw [List.nil_append] at hy
       rcases List.mem_append.1 hy with hy | hy
       ·exact hv y hy
       ·rw [List.mem_singleton.1 hy]; exact hvi) (by omega)
      have hf2 : frm (([] : List Int) ++ begin_ ++ [(i : Int)]) = i + 1 := by
       unfold frm
       rw [List.getLast?_concat]
       simp
      rw [hf2] at r2
      rw [lim_of (by simp; omega), gd_t, lim_of (by simp; omega), gd_t, r1, ob_s, lim_of (by rw [List.length_append]; omega), gd_t]
      exact .inl ⟨_, rfl, j - 1, by omega, i + 1, rfl, by omega, by simp only [List.length_append]; omega, fun o ho => (List.mem_append.1 ho).elim (e4 o) (r3 o)⟩
   ·simp only [decide_eq_false (show ¬ (i : Int) < (es.length : Int) by omega), br_f]
    exact .inr ⟨_, rfl, by omega, e4⟩) (es.length - m) (([] : List (List Int)), (m : Int)) n ⟨m, rfl, by omega, by simp only [List.length_nil, Nat.zero_add]; rw [hm2]; exact Nat.le_refl _, fun o ho => by cases ho⟩ (by omega)
  refine ⟨out, ?_, g2⟩
  show F115b n (R115 n k) (N : Int) es x begin_ = _
  unfold F115b
  rw [F53_eq n x hx (by omega), ob_s, size_eq (by omega) (by omega), decide_eq_false (by omega), br_f, hm1, ob_s, g1, ob_s]
def ckX (N : Int) (es : List (Int × Int)) (x : Nat) : Int := if okG N es then (if x = 0 ∨ 2 ^ N.toNat ≤ x then 2 else 0) else 180
theorem F57_eq (n : Nat) (N : Int) (es : List (Int × Int)) (x : Nat) (hx : x < 2 ^ 64) (hl : es.length < 4611686018427387904) (hk : es.length < n) : F57 n N es x = some (ckX N es x) := by
 unfold F57 ckX
 rw [F52_eq n N es hl hk, ob_s]
 by_cases hok : okG N es = true
 ·simp only [ckG, hok, if_true, decide_true, Bool.not_true, br_f]
  by_cases h0 : x = 0
  ·simp [h0, br]
  ·rw [F114_eq n N es x hx hl hk]
   simp only [h0, decide_false, br_f, ob_s, false_or, ckF, hok, if_true]
 ·rw [Bool.not_eq_true] at hok
  simp [ckG, hok, br]
theorem F58_tot (n : Nat) (N : Int) (es : List (Int × Int)) (x : Nat) (hx : x < 2 ^ 64) (hn : 300 < n) (hc : ckX N es x = 0) (hr : okG N es = true → rk x 64 ≤ 9) : ∃ out, F58 n N es x = some out ∧ ∀ o ∈ out, o.length ≤ 9 := by
 unfold ckX at hc
 by_cases hok : okG N es = true
 ·rw [if_pos hok] at hc
  by_cases h2 : x = 0 ∨ 2 ^ N.toNat ≤ x
  ·rw [if_pos h2] at hc; cases hc
  ·obtain ⟨M, rfl, hO⟩ := okay_of hok
   have h0 : x ≠ 0 := fun e => h2 (.inl e)
   have h1 := rk_pos' hx h0
   have hr := hr hok
   obtain ⟨out, g1, _, g3⟩ := grow_tot hO hx h0 n hn (fun i d hd => cb_bound (inc_bound hok hO hr i) hd) hr (rk x 64 - 1) [] n (by simp; omega) (fun y hy => by cases hy) (by omega)
   exact ⟨out, by unfold F58 F115; rw [g1, ob_s], g3⟩
 ·rw [if_neg hok] at hc; cases hc
theorem F11_tot (n : Nat) (N : Int) (es : List (Int × Int)) (x : Nat) (hx : x < 2 ^ 64) (hl : es.length ≤ 200) (hn : 300 < n) (hr : okG N es = true → rk x 64 ≤ 9) : ∃ r1 r2 r3 r4 r5 r6 r7 r8 e, F11 n N es x = some (r1, r2, r3, r4, r5, r6, r7, r8, e) := by
 unfold F11
 rw [F57_eq n N es x hx (by omega) (by omega), ob_s]
 by_cases hc : ckX N es x = 0
 ·obtain ⟨out, g1, _⟩ := F58_tot n N es x hx hn hc hr
  obtain ⟨r1, r2, r3, r4, r5, r6, r7, r8, g2⟩ := F16_tot n (out.length : Int) (Int.natCast_nonneg _) (by omega)
  rw [decide_eq_true hc]
  simp only [Bool.not_true, br_f, g1, ob_s, g2]
  exact ⟨_, _, _, _, _, _, _, _, _, rfl⟩
 ·rw [decide_eq_false hc]
  exact ⟨_, _, _, _, _, _, _, _, _, rfl⟩
theorem F17_tot (n : Nat) (N : Int) (es : List (Int × Int)) (x x8 x9 x10 x11 x12 x13 x14 x15 : Nat) (hx : x < 2 ^ 64) (hl : es.length ≤ 200) (hn : 300 < n) (hr : okG N es = true → rk x 64 ≤ 9) : ∃ l e, F17 n N es x x8 x9 x10 x11 x12 x13 x14 x15 = some (l, e) ∧ l.length ≤ 9 := by
 unfold F17
 rw [F57_eq n N es x hx (by omega) (by omega), ob_s]
 by_cases hc : ckX N es x = 0
 ·obtain ⟨out, g1, g9⟩ := F58_tot n N es x hx hn hc hr
  obtain ⟨r, e, g2⟩ := F14_tot n x8 x9 x10 x11 x12 x13 x14 x15 (by omega)
  rw [decide_eq_true hc]
  simp only [Bool.not_true, br_f, g1, ob_s, g2]
  by_cases h1 : e = 0
  ·rw [decide_eq_true h1]
   simp only [Bool.not_true, br_f]
   by_cases h2 : r < 0
   ·rw [decide_eq_true h2]; exact ⟨_, _, rfl, Nat.zero_le _⟩
   ·rw [decide_eq_false h2]
    simp only [br_f]
    by_cases h3 : (out.length : Int) ≤ r
    ·rw [decide_eq_true h3]; exact ⟨_, _, rfl, Nat.zero_le _⟩
    ·obtain ⟨r, rfl⟩ := Int.eq_ofNat_of_zero_le (show 0 ≤ r by omega)
     have hlt : r < out.length := by omega
     have e1 : out[r]? = some (out[r]'hlt) := List.getElem?_eq_getElem _
     rw [decide_eq_false h3]
     simp only [ob_s, br_f, inB_nat hlt, gd_t, Int.toNat_natCast, e1]
     exact ⟨_, _, rfl, g9 _ (List.getElem_mem hlt)⟩
  ·rw [decide_eq_false h1]; exact ⟨_, _, rfl, Nat.zero_le _⟩
 ·rw [decide_eq_false hc]
  exact ⟨_, _, rfl, Nat.zero_le _⟩
end Go.Proofs.YtookeaakpiefjaaGreatDoor
end

section
namespace Go.Proofs.YtookeaakpiefjaaGreatDoor
open Go Go.Ab Go.Ab.W Go.Ab.T30
theorem L5_1_step (n : Nat) (e f t N : Int) (es : List (Int × Int)) (x : Nat) (l : List Int) (i : Nat) (hi : i < 2) (hx : x < 2 ^ 64) (hb : l.length ≤ 1073741824) (hl : es.length ≤ 200) (hn : 300 < n) (hln : l.length < n) : L5_1 n e f t N es x l (i : Int) = some (.inl ((i + 1 : Nat) : Int)) := by
 unfold L5_1
 rw [decide_eq_true (show (i : Int) < 2 by omega), br_t, inB_nat hi, gd_t, Int.toNat_natCast]
 have key : ∃ a b c, ([(e, f, t), (IntKind.wrap .i64 (((ui .u64 e) % 20 : Nat) : Int), IntKind.wrap .i64 (((ui .u64 f) % 12 : Nat) : Int), IntKind.wrap .i64 (((ui .u64 t) % 12 : Nat) : Int))] : List (Int × Int × Int))[i]? = some (a, b, c) := by
  have : i = 0 ∨ i = 1 := by omega
  rcases this with rfl | rfl
  ·exact ⟨_, _, _, rfl⟩
  ·exact ⟨_, _, _, rfl⟩
 obtain ⟨a, b, c, hk⟩ := key
 obtain ⟨⟨r1, r2, r3⟩, s1, s2⟩ := sides_same n N es x l a hx hb (by omega) (by omega) (by omega) hln
 obtain ⟨⟨w, f2⟩, p1, p2, p3⟩ := path_same n N es x l b c hx hb (by omega) (by omega) (by omega) hln
 have hw : w.length ≤ 64 := p3
 simp only [hk, ob_s, s1, s2, p1, p2, decide_true, Bool.not_true, br_f, F18_same n w (by omega) (by omega)]
 rw [wrap_succ (by omega)]
theorem L5_1_end (n : Nat) (e f t N : Int) (es : List (Int × Int)) (x : Nat) (l : List Int) : L5_1 n e f t N es x l ((2 : Nat) : Int) = some (.inr (.inr ())) := rfl
theorem L5_1_eq (n : Nat) (e f t N : Int) (es : List (Int × Int)) (x : Nat) (l : List Int) (hx : x < 2 ^ 64) (hb : l.length ≤ 1073741824) (hl : es.length ≤ 200) (hn : 300 < n) (hln : l.length < n) : lpN (L5_1 n e f t N es x l) n 0 = some (.inr ()) := by
 obtain ⟨k, hk⟩ : ∃ k, n = k + 3 := ⟨n - 3, by omega⟩
 have s0 := L5_1_step n e f t N es x l 0 (by omega) hx hb hl hn hln
 have s1 := L5_1_step n e f t N es x l 1 (by omega) hx hb hl hn hln
 have s2 := L5_1_end n e f t N es x l
 generalize L5_1 n e f t N es x l = B at *
 subst hk
 rw [show (0 : Int) = ((0 : Nat) : Int) from rfl, lp_next s0, lp_next s1, lp_end s2]
theorem L5_2_step (n : Nat) (tr raw : List Int) (e f t N : Int) (es : List (Int × Int)) (x : Nat) (i : Nat) (hi : i < 2) (hx : x < 2 ^ 64) (hl : es.length ≤ 200) (hn : 300 < n) (htr : tr.length < n) (htb : tr.length ≤ 1073741824) : L5_2 n tr raw e f t N es x (i : Int) = some (.inl ((i + 1 : Nat) : Int)) := by
 unfold L5_2
 rw [decide_eq_true (show (i : Int) < 2 by omega), br_t, inB_nat hi, gd_t, Int.toNat_natCast]
 have key : ∃ l : List Int, [tr, ((raw.drop (0 : Int).toNat).take ((mi (raw.length : Int) (9 : Int) : Int).toNat - (0 : Int).toNat))][i]? = some l ∧ l.length < n ∧ l.length ≤ 1073741824 := by
  have : i = 0 ∨ i = 1 := by omega
  rcases this with rfl | rfl
  ·exact ⟨_, rfl, htr, htb⟩
  ·refine ⟨_, rfl, ?_⟩
   have h9 : (mi (raw.length : Int) (9 : Int) : Int) ≤ 9 := by unfold mi; split <;> omega
   rw [List.length_take]
   generalize (mi (raw.length : Int) (9 : Int) : Int) = z at h9
   have : z.toNat - (0 : Int).toNat ≤ 9 := by
    have : (0 : Int).toNat = 0 := rfl
    omega
   omega
 obtain ⟨l, hk, h1, h2⟩ := key
 rw [hk, ob_s, L5_1_eq n e f t N es x l hx h2 hl hn h1, ob_s, wrap_succ (by omega)]
theorem L5_2_eq (n : Nat) (tr raw : List Int) (e f t N : Int) (es : List (Int × Int)) (x : Nat) (hx : x < 2 ^ 64) (hl : es.length ≤ 200) (hn : 300 < n) (htr : tr.length < n) (htb : tr.length ≤ 1073741824) : lpN (L5_2 n tr raw e f t N es x) n 0 = some (.inr ()) := by
 obtain ⟨k, hk⟩ : ∃ k, n = k + 3 := ⟨n - 3, by omega⟩
 have s0 := L5_2_step n tr raw e f t N es x 0 (by omega) hx hl hn htr htb
 have s1 := L5_2_step n tr raw e f t N es x 1 (by omega) hx hl hn htr htb
 have s2 : L5_2 n tr raw e f t N es x ((2 : Nat) : Int) = some (.inr (.inr ())) := rfl
 generalize L5_2 n tr raw e f t N es x = B at *
 subst hk
 rw [show (0 : Int) = ((0 : Nat) : Int) from rfl, lp_next s0, lp_next s1, lp_end s2]
theorem L5_3_step (n : Nat) (N1 : Int) (e1 : List (Int × Int)) (s1 : Nat) (N2 : Int) (s2 : Nat) (N3 : Int) (e3 : List (Int × Int)) (s3 : Nat) (x12 : Nat) (raw : List Int) (e f t : Int) (i : Nat) (hi : i < 3) (hx12 : x12 < 65536)
  (hall : ∀ N es s, (([(N1, e1, s1), (N2, e1, s2), (N3, e3, s3)] : List (Int × List (Int × Int) × Nat))[i]? = some (N, es, s)) → es.length ≤ 200 ∧ s < 2 ^ 64 ∧ (okG N es = true → rk s 64 ≤ 9)) (hn : 300 < n) : L5_3 n N1 e1 s1 N2 s2 N3 e3 s3 x12 raw e f t (i : Int) = some (.inl ((i + 1 : Nat) : Int)) := by
 unfold L5_3
 rw [decide_eq_true (show (i : Int) < 3 by omega), br_t, inB_nat hi, gd_t, Int.toNat_natCast]
 have key : ∃ N es s, (([(N1, e1, s1), (N2, e1, s2), (N3, e3, s3)] : List (Int × List (Int × Int) × Nat))[i]? = some (N, es, s)) := by
  have : i = 0 ∨ i = 1 ∨ i = 2 := by omega
  rcases this with rfl | rfl | rfl
  ·exact ⟨_, _, _, rfl⟩
  ·exact ⟨_, _, _, rfl⟩
  ·exact ⟨_, _, _, rfl⟩
 obtain ⟨N, es, s, hk⟩ := key
 obtain ⟨h1, h2, h3⟩ := hall N es s hk
 obtain ⟨r1, r2, r3, r4, r5, r6, r7, r8, r9, g1⟩ := F11_tot n N es s h2 h1 hn h3
 obtain ⟨r, er, g2⟩ := F14_tot n r1 r2 r3 r4 r5 r6 r7 r8 (by omega)
 have hma : ma r (1 : Int) ≠ 0 ∧ 0 ≤ ma r (1 : Int) := by unfold ma; split <;> omega
 have hnn : 0 ≤ Int.tmod (IntKind.wrap .i64 ((x12 : Nat) : Int)) (ma r (1 : Int)) := by
  rw [wrap_in (by omega) (by omega)]
  exact Int.tmod_nonneg _ (by omega)
 obtain ⟨q1, q2, q3, q4, q5, q6, q7, q8, g3⟩ := F16_tot n _ hnn (by omega)
 obtain ⟨tr, e9, g4, g5⟩ := F17_tot n N es s q1 q2 q3 q4 q5 q6 q7 q8 h2 h1 hn h3
 have hok : okB 0 (mi (raw.length : Int) (9 : Int)) raw.length = true := by
  refine decide_eq_true ⟨by omega, ?_, ?_⟩
  ·unfold mi; split <;> omega
  ·unfold mi; split <;> omega
 simp only [hk, ob_s, g1, g2, decide_eq_true hma.1, gd_t, g3, g4, hok, L5_2_eq n tr raw e f t N es s h2 h1 hn (by omega) (by omega)]
 rw [wrap_succ (by omega)]
theorem L5_3_eq (n : Nat) (N1 : Int) (e1 : List (Int × Int)) (s1 : Nat) (N2 : Int) (s2 : Nat) (N3 : Int) (e3 : List (Int × Int)) (s3 : Nat) (x12 : Nat) (raw : List Int) (e f t : Int) (hx12 : x12 < 65536)
  (hall : ∀ N es s, (N, es, s) ∈ ([(N1, e1, s1), (N2, e1, s2), (N3, e3, s3)] : List (Int × List (Int × Int) × Nat)) → es.length ≤ 200 ∧ s < 2 ^ 64 ∧ (okG N es = true → rk s 64 ≤ 9)) (hn : 300 < n) : lpN (L5_3 n N1 e1 s1 N2 s2 N3 e3 s3 x12 raw e f t) n 0 = some (.inr ()) := by
 obtain ⟨k, hk⟩ : ∃ k, n = k + 4 := ⟨n - 4, by omega⟩
 have st := fun i hi => L5_3_step n N1 e1 s1 N2 s2 N3 e3 s3 x12 raw e f t i hi hx12 (fun N es s h => hall N es s (List.mem_of_getElem? h)) hn
 have s0 := st 0 (by omega)
 have s1' := st 1 (by omega)
 have s2' := st 2 (by omega)
 have s3' : L5_3 n N1 e1 s1 N2 s2 N3 e3 s3 x12 raw e f t ((3 : Nat) : Int) = some (.inr (.inr ())) := rfl
 clear st
 generalize L5_3 n N1 e1 s1 N2 s2 N3 e3 s3 x12 raw e f t = B at *
 subst hk
 rw [show (0 : Int) = ((0 : Nat) : Int) from rfl, lp_next s0, lp_next s1', lp_next s2', lp_end s3']
theorem F5_true (n x1 x2 x3 : Nat) (l4 : List (Nat × Nat)) (x8 x9 : Nat) (x10 : Int) (x11 x12 : Nat) (l13 : List Int) (x17 x18 x19 : Int) (h8 : x8 < 2 ^ 64) (h12 : x12 < 65536) (hn : 300 < n) : F5 n x1 x2 x3 l4 x8 x9 x10 x11 x12 l13 x17 x18 x19 = some true := by
 obtain ⟨N, es, g1, hok⟩ := F28_ok n x1 x2 x3 l4 (by omega)
 obtain ⟨M, rfl, hO⟩ := okay_of hok
 obtain ⟨w1, g2, a1, a2⟩ := F50_ok n M x8 es hO.le h8 (by omega)
 obtain ⟨w2, g3, b1, b2⟩ := F50_ok n M 18446744073709551615 es hO.le (by decide) (by omega)
 obtain ⟨N', es', x', g4, c1, c2⟩ := F51_ok n x9 x10 x11 (M : Int) es w1 hO.len a1
 have key : ∃ w3, (ob (ob (ob (F52 n N' es') fun r137 => br (decide (r137 = 0)) (ob (F53 n x') fun r140 => some (decide (9 < r140))) (some false)) fun v135 => br (v135) (ob (F50 n N' es' x') fun r145 => some r145) (some x')) fun v129 => some ((M : Int), es, w1, (M : Int), w2, N', es', v129)) = some ((M : Int), es, w1, (M : Int), w2, N', es', w3) ∧ w3 < 2 ^ 64 ∧ (okG N' es' = true → rk w3 64 ≤ 9) := by
  rw [F52_eq n N' es' (by omega) (by omega), ob_s]
  unfold ckG
  by_cases hk : okG N' es' = true
  ·obtain ⟨M', rfl, hO'⟩ := okay_of hk
   rw [if_pos hk, decide_eq_true rfl, br_t, F53_eq n x' c2 (by omega), ob_s, ob_s]
   by_cases h9 : 9 < rk x' 64
   ·obtain ⟨w, g5, d1, d2⟩ := F50_ok n M' x' es' hO'.le c2 (by omega)
    rw [decide_eq_true (show (9 : Int) < ((rk x' 64 : Nat) : Int) by omega), br_t, g5]
    exact ⟨w, rfl, d1, fun _ => d2⟩
   ·rw [decide_eq_false (show ¬ (9 : Int) < ((rk x' 64 : Nat) : Int) by omega)]
    exact ⟨x', rfl, c2, fun _ => by omega⟩
  ·rw [if_neg hk]
   exact ⟨x', rfl, c2, fun h => absurd h hk⟩
 obtain ⟨w3, g5, d1, d2⟩ := key
 unfold F5
 simp only [F8, ob_s, Bool.not_true, br_f, g1, g2, g3, g4]
 rw [g5]
 simp only [ob_s]
 rw [L5_3_eq n (M : Int) es w1 (M : Int) w2 N' es' w3 x12 l13 x17 x18 x19 h12 (fun N es2 s h => by
  rcases List.mem_cons.1 h with h | h
  ·cases h; exact ⟨hO.len, a1, fun _ => a2⟩
  ·rcases List.mem_cons.1 h with h | h
   ·cases h; exact ⟨hO.len, b1, fun _ => b2⟩
   ·rcases List.mem_cons.1 h with h | h
    ·cases h; exact ⟨c1, d1, d2⟩
    ·cases h) hn]
 rfl
end Go.Proofs.YtookeaakpiefjaaGreatDoor
end
