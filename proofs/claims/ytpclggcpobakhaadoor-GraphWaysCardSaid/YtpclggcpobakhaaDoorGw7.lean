/- Texts of the abstract machine and of the walks, joined: S18L. -/
import Derived.Test.YtpclggcpobakhaaDoorGw6
section
/-
  Chapter 18, plain laws: GraphWays.
-/
namespace Go.Proofs.YtpclggcpobakhaaDoor
open Go Go.Ab Go.Ab.W

/-- Distances of a whole list. -/
structure Dist (es : List (Int × Int)) (S i N : Nat) (l : List Int) : Prop where
 len : l.length = N
 at_ : ∀ j, j < N → ∃ v, l[j]? = some v ∧ Dv es S i j v
section
variable {es : List (Int × Int)} {S i j N : Nat} {l : List Int}
theorem Dv.small {v : Int} (h : Dv es S i j v) : -1 ≤ v ∧ v ≤ 64 := by
 rcases h with ⟨h, _⟩ | ⟨d, h, h2, _⟩ <;> omega
theorem Dv.nonneg {v : Int} (h : Dv es S i j v) : 0 ≤ v ↔ ∃ k, Wkk es S i k j := by
 rcases h with ⟨h, h2⟩ | ⟨d, h, h2, h3, _⟩
 ·exact ⟨fun h' => by omega, fun ⟨k, hk⟩ => absurd hk (h2 k)⟩
 ·exact ⟨fun _ => ⟨d, h3⟩, fun _ => by omega⟩
theorem Dv.step {v u : Int} {k : Nat} (hv : Dv es S i j v) (hu : Dv es S i k u) (ha : adj es j k) (hk : S.testBit k = true) (h0 : 0 ≤ v) : 0 ≤ u ∧ u ≤ v + 1 := by
 rcases hv with ⟨h, _⟩ | ⟨d, h, _, h3, _⟩
 ·omega
 ·have hw : Wkk es S i (d + 1) k := .inr ⟨j, h3, ha, hk⟩
  rcases hu with ⟨_, h5⟩ | ⟨e, h5, _, h6, h7⟩
  ·exact absurd hw (h5 _)
  ·have : ¬ d + 1 < e := fun h' => h7 _ h' hw
   omega
theorem Dv.zero {v : Int} (h : Dv es S i j v) : v = 0 ↔ j = i := by
 rcases h with ⟨h, h2⟩ | ⟨d, h, h2, h3, h4⟩
 ·refine ⟨fun h' => by omega, fun e => ?_⟩
  exact absurd (show Wkk es S i 0 j from e) (h2 0)
 ·constructor
  ·intro h'
   have : d = 0 := by omega
   subst this
   exact h3
  ·intro e
   rcases Nat.eq_zero_or_pos d with h5 | h5
   ·omega
   ·exact absurd (show Wkk es S i 0 j from e) (h4 0 h5)
/-- A node that is not the start has one before it. -/
theorem Dv.before {v : Int} (hi : S.testBit i = true) (h : Dv es S i j v) (h0 : 0 < v) : ∃ k, adj es k j ∧ S.testBit k = true ∧ S.testBit j = true ∧ ∀ u, Dv es S i k u → u = v - 1 := by
 rcases h with ⟨h, _⟩ | ⟨d, h, h2, h3, h4⟩
 ·omega
 ·obtain ⟨d, rfl⟩ : ∃ d', d = d' + 1 := ⟨d - 1, by omega⟩
  rcases h3 with h3 | ⟨k, g1, g2, g3⟩
  ·exact absurd h3 (h4 d (by omega))
  ·refine ⟨k, g2, wk_mem hi g1, g3, fun u hu => ?_⟩
   rcases hu with ⟨_, h5⟩ | ⟨e, h5, _, h6, h7⟩
   ·exact absurd g1 (h5 _)
   ·have h8 : ¬ d < e := fun h' => h7 _ h' g1
    have h9 : ¬ e + 1 < d + 1 := fun h' => h4 (e + 1) h' (.inr ⟨k, h6, g2, g3⟩)
    omega
theorem Dv.symm {v u : Int} (hi : S.testBit i = true) (hj : S.testBit j = true) (h : Dv es S i j v) (h' : Dv es S j i u) : v = u := by
 rcases h with ⟨h1, h2⟩ | ⟨d, h1, _, h3, h4⟩ <;> rcases h' with ⟨g1, g2⟩ | ⟨e, g1, _, g3, g4⟩
 ·omega
 ·exact absurd (wk_symm hj g3) (h2 e)
 ·exact absurd (wk_symm hi h3) (g2 d)
 ·have a1 : ¬ d < e := fun h => g4 d h (wk_symm hi h3)
  have a2 : ¬ e < d := fun h => h4 e h (wk_symm hj g3)
  omega
end
/-- What is noted of an edge. -/
def nearS (S : Nat) (l : List Int) (L : List Bool) (e : Int × Int) : List Bool :=
 if S.testBit e.1.toNat && S.testBit e.2.toNat then
  (L.set e.1.toNat (L.getD e.1.toNat false || decide (l.getD e.2.toNat 0 = l.getD e.1.toNat 0 - 1))).set e.2.toNat (L.getD e.2.toNat false || decide (l.getD e.1.toNat 0 = l.getD e.2.toNat 0 - 1))
 else L
theorem L11_1_body (n M S i y1 y2 : Nat) (es : List (Int × Int)) (l : List Int) (L : List Bool) (k a b : Nat) (hor : uw .u64 (uw .u64 y1 ||| uw .u64 y2) = S) (hM : M ≤ 64) (hS : S < 2 ^ M) (hD : Dist es S i M l) (hL : L.length = M) (hk : es[k]? = some ((a : Int), (b : Int))) (hab : a < b) (hb : b < M) (hk2 : k < 200) :
  L11_1 n es y1 y2 l (M : Int) (L, (k : Int)) = some (.inl (nearS S l L ((a : Int), (b : Int)), ((k + 1 : Nat) : Int))) := by
 have hlt : k < es.length := (List.getElem?_eq_some_iff.1 hk).1
 have hS64 := lt64 hS hM
 have hin := List.mem_of_getElem? hk
 obtain ⟨va, ha1, ha2⟩ := hD.at_ a (by omega)
 obtain ⟨vb, hb1, hb2⟩ := hD.at_ b hb
 have hll := hD.len
 have ga : l.getD a 0 = va := by simp [List.getD, ha1]
 have gb : l.getD b 0 = vb := by simp [List.getD, hb1]
 unfold L11_1 nearS
 simp only [Int.toNat_natCast, hk, ob_s, inB_nat hlt, gd_t, hor, bitval hS64 (show a ≤ 64 by omega), bitval hS64 (show b ≤ 64 by omega), decide_eq_true (show (0 : Int) ≤ (a : Int) by omega), decide_eq_true (show (0 : Int) ≤ (b : Int) by omega), wrap_succ (show k < 4611686018427387904 by omega)]
 rw [br_dt (by omega)]
 rcases Bool.eq_false_or_eq_true (S.testBit a) with e1 | e1
 ·rcases Bool.eq_false_or_eq_true (S.testBit b) with e2 | e2
  ·have s1 := ha2.small
   have s2 := hb2.small
   have st1 := fun h0 => ha2.step hb2 (.inl hin) e2 h0
   have st2 := fun h0 => hb2.step ha2 (.inr hin) e1 h0
   have hneg : (decide (va < 0) == decide (vb < 0)) = true := by
    by_cases h1 : va < 0
    ·by_cases h2 : vb < 0
     ·rw [decide_eq_true h1, decide_eq_true h2]; rfl
     ·have := (st2 (by omega)).1; omega
    ·have := (st1 (by omega)).1
     rw [decide_eq_false h1, decide_eq_false (by omega)]; rfl
   have hma : decide (1 < ma (IntKind.wrap .i64 (va - vb)) (IntKind.wrap .i64 (vb - va))) = false := by
    rw [wrap_in (by omega) (by omega), wrap_in (by omega) (by omega)]
    refine decide_eq_false ?_
    have h1 : va < 0 ∨ 0 ≤ va := by omega
    have h2 : vb < 0 ∨ 0 ≤ vb := by omega
    unfold ma
    rcases h1 with h1 | h1 <;> rcases h2 with h2 | h2
    ·split <;> omega
    ·have := st2 h2; omega
    ·have := st1 h1; omega
    ·have := st1 h1; have := st2 h2; split <;> omega
   have hal : a < L.length := by omega
   have hbl : b < L.length := by omega
   have eL : L[a]? = some (L.getD a false) := by simp [List.getD, List.getElem?_eq_getElem hal]
   have eL2 : ∀ v, (L.set a v)[b]? = some (L.getD b false) := fun v => by
    rw [List.getElem?_set_ne (by omega)]; simp [List.getD, List.getElem?_eq_getElem hbl]
   have w1 : IntKind.wrap .i64 (va - 1) = va - 1 := wrap_in (by omega) (by omega)
   have w2 : IntKind.wrap .i64 (vb - 1) = vb - 1 := wrap_in (by omega) (by omega)
   simp only [e1, e2, Bool.toNat_true, Bool.and_self, if_true, ha1, hb1, ob_s, hll, inB_nat (show a < M by omega), inB_nat hb, gd_t, hneg, Bool.not_true, br_f, hma, eL, eL2, w1, w2, ga, gb]
   simp only [show decide ((1 : Nat) = 0) = false from rfl, br_f, ob_s]
   rcases Bool.eq_false_or_eq_true (L.getD a false) with c1 | c1 <;> rcases Bool.eq_false_or_eq_true (L.getD b false) with c2 | c2 <;> simp only [c1, c2, br_t, br_f, ob_s, Bool.true_or, Bool.false_or, eL2]
  ·simp only [e1, e2, Bool.toNat_true, Bool.toNat_false, Bool.and_false, Bool.false_eq_true, if_false]
   simp only [show decide ((1 : Nat) = 0) = false from rfl, br_f, decide_true, br_t, ob_s]
 ·simp only [e1, Bool.toNat_false, Bool.false_and, Bool.false_eq_true, if_false]
  simp only [decide_true, br_t, ob_s]
theorem nearS_len (S : Nat) (l : List Int) (L : List Bool) (e : Int × Int) : (nearS S l L e).length = L.length := by
 unfold nearS; split <;> simp
theorem L11_1_eq (n M S i y1 y2 : Nat) (es : List (Int × Int)) (l : List Int) (h : Okay M es) (hor : uw .u64 (uw .u64 y1 ||| uw .u64 y2) = S) (hS : S < 2 ^ M) (hD : Dist es S i M l) (hn : 300 < n) :
  ∃ L, lpN (L11_1 n es y1 y2 l (M : Int)) n (List.replicate M false, 0) = some (.inr L) ∧ L.length = M ∧
   ∀ a b : Nat, ((a : Int), (b : Int)) ∈ es → S.testBit a = true → S.testBit b = true → (l.getD b 0 = l.getD a 0 - 1 → L[a]? = some true) ∧ (l.getD a 0 = l.getD b 0 - 1 → L[b]? = some true) := by
 have hM := h.le
 have hlen := h.len
 have := lp_list0 (body := L11_1 n es y1 y2 l (M : Int)) es (fun (L : List Bool) (v : Int) => (L, v)) (nearS S l) Sum.inr
  (fun k L => L.length = M ∧ ∀ a b : Nat, ((a : Int), (b : Int)) ∈ es.take k → S.testBit a = true → S.testBit b = true → (l.getD b 0 = l.getD a 0 - 1 → L[a]? = some true) ∧ (l.getD a 0 = l.getD b 0 - 1 → L[b]? = some true)) (fun L k e he hI => ?_) (fun L _ => ?_) (n := n) (s := List.replicate M false) ⟨by simp, fun a b h => by simp at h⟩ (by omega)
 ·obtain ⟨h1, h2, h3⟩ := this
  rw [List.take_length] at h3
  exact ⟨_, h1, h2, h3⟩
 ·have hi : k < es.length := (List.getElem?_eq_some_iff.1 he).1
  obtain ⟨a, b, rfl, hab, hbM⟩ := h.mem e (List.mem_of_getElem? he)
  have htk : es.take (k + 1) = es.take k ++ [((a : Int), (b : Int))] := by rw [List.take_add_one, he]; rfl
  obtain ⟨g1, g2⟩ := hI
  refine ⟨L11_1_body n M S i y1 y2 es l L k a b hor hM hS hD g1 he hab hbM (by omega), by rw [nearS_len]; exact g1, ?_⟩
  -- what was noted stays
  have stay : ∀ c : Nat, L[c]? = some true → (nearS S l L ((a : Int), (b : Int)))[c]? = some true := by
   intro c hc
   unfold nearS
   simp only [Int.toNat_natCast]
   split
   ·have gd : L.getD c false = true := by simp [List.getD, hc]
    by_cases hcb : c = b
    ·subst hcb
     rw [List.getElem?_set_self (by simp; omega), gd]; rfl
    ·rw [List.getElem?_set_ne (by omega)]
     by_cases hca : c = a
     ·subst hca
      rw [List.getElem?_set_self (by omega), gd]; rfl
     ·rw [List.getElem?_set_ne (by omega)]; exact hc
   ·exact hc
  intro a' b' hm s1 s2
  rw [htk] at hm
  rcases List.mem_append.1 hm with hm | hm
  ·have := g2 a' b' hm s1 s2
   exact ⟨fun h => stay _ (this.1 h), fun h => stay _ (this.2 h)⟩
  ·rw [List.mem_singleton, Prod.mk.injEq, Int.natCast_inj, Int.natCast_inj] at hm
   obtain ⟨rfl, rfl⟩ := hm
   unfold nearS
   simp only [Int.toNat_natCast, s1, s2, Bool.and_self, if_true]
   refine ⟨fun h => ?_, fun h => ?_⟩
   ·rw [List.getElem?_set_ne (by omega), List.getElem?_set_self (by omega), decide_eq_true h, Bool.or_true]
   ·rw [List.getElem?_set_self (by simp; omega), decide_eq_true h, Bool.or_true]
 ·simp only [L11_1]
  rw [br_df (by omega)]
theorem L11_2_eq (n M S x19 : Nat) (es : List (Int × Int)) (l : List Int) (L : List Bool) (h : Okay M es) (hS : S < 2 ^ M) (i : Nat) (hi : S.testBit i = true) (hfr : Int.tmod (IntKind.wrap .i64 ((x19 : Nat) : Int)) (M : Int) = (i : Int)) (hD : Dist es S i M l) (hLl : L.length = M)
  (hL : ∀ a b : Nat, ((a : Int), (b : Int)) ∈ es → S.testBit a = true → S.testBit b = true → (l.getD b 0 = l.getD a 0 - 1 → L[a]? = some true) ∧ (l.getD a 0 = l.getD b 0 - 1 → L[b]? = some true)) (hn : 300 < n) :
  ∃ w, lpN (L11_2 n l x19 (M : Int) L) n (0, 0) = some (.inr w) ∧ IsCl es S i w := by
 have hM := h.le
 have hll := hD.len
 have := lp_list0 (body := L11_2 n l x19 (M : Int) L) l (fun (s : Nat) (v : Int) => (s, v)) (fun s v => s) Sum.inr (fun _ _ => True) (n := n) (s := 0)
 clear this
 have key := lp_upto (body := L11_2 n l x19 (M : Int) L) M (fun (s : Nat) (v : Int) => (s, v)) (fun s k => if 0 ≤ l.getD k 0 then s ||| 2 ^ k else s) Sum.inr
  (fun k s => s < 2 ^ 64 ∧ ∀ j, s.testBit j = true ↔ j < k ∧ Rch es S i j) (fun s k hk hI => ?_) (fun s _ => ?_) (n := n) (s := 0) ⟨by decide, fun j => by simp⟩ (by omega)
 ·obtain ⟨h1, h2, h3⟩ := key
  refine ⟨_, h1, h2, fun j => ?_⟩
  rw [h3]
  exact ⟨fun h => h.2, fun hr => ⟨tb_ltN hS (hr.mem hi), hr⟩⟩
 ·obtain ⟨v, hv1, hv2⟩ := hD.at_ k hk
  have gv : l.getD k 0 = v := by simp [List.getD, hv1]
  have s1 := hv2.small
  obtain ⟨g1, g2⟩ := hI
  have hz : (decide (v = 0) == decide ((k : Int) = (i : Int))) = true := by
   by_cases e : k = i
   ·rw [decide_eq_true (hv2.zero.2 e), decide_eq_true (by omega)]; rfl
   ·rw [decide_eq_false (fun h => e (hv2.zero.1 h)), decide_eq_false (by omega)]; rfl
  have hm1 : decide (v < -1) = false := decide_eq_false (by omega)
  have hnear : 0 < v → L[k]? = some true := fun h0 => by
   obtain ⟨q, hq1, hq2, hq3, hq4⟩ := hv2.before hi h0
   obtain ⟨u, hu1, hu2⟩ := hD.at_ q (tb_ltN hS hq2)
   have gu : l.getD q 0 = u := by simp [List.getD, hu1]
   have := hq4 u hu2
   rcases hq1 with hq1 | hq1
   ·exact (hL q k hq1 hq2 hq3).2 (by rw [gu, gv]; exact this)
   ·exact (hL k q hq1 hq3 hq2).1 (by rw [gu, gv]; exact this)
  rw [gv]
  have hcond : (br (decide (0 < v)) (gd (inB (k : Int) (M : Int).toNat) (ob (L[(k : Int).toNat]?) fun x5060 => br (!x5060) (some true) (some (decide (v < -1))))) (some (decide (v < -1)))) = some false := by
   by_cases h0 : 0 < v
   ·rw [br_dt h0, Int.toNat_natCast, inB_nat hk, gd_t, Int.toNat_natCast, hnear h0, ob_s, Bool.not_true, br_f, hm1]
   ·rw [br_df h0, hm1]
  refine ⟨?_, ?_, fun j => ?_⟩
  ·unfold L11_2
   simp only [hfr, hz, Bool.not_true, br_f]
   rw [br_dt (by omega), hll, inB_nat hk, gd_t]
   rw [show l[(k : Int).toNat]? = some v by rw [Int.toNat_natCast]; exact hv1, ob_s]
   simp only [hz, Bool.not_true, br_f, hcond, ob_s]
   by_cases h0 : 0 ≤ v
   ·rw [br_dt h0, decide_eq_true (show (0 : Int) ≤ (k : Int) by omega), gd_t, Int.toNat_natCast, word_one (by omega), word_or g1 (one_lt (by omega)), if_pos h0]
    simp only [ob_s, wrap_succ (show k < 4611686018427387904 by omega)]
   ·rw [br_df h0, if_neg h0]
    simp only [ob_s, wrap_succ (show k < 4611686018427387904 by omega)]
  ·split
   ·exact or_lt' g1 (one_lt (by omega))
   ·exact g1
  ·have hr : Rch es S i k ↔ 0 ≤ v := ⟨fun hr => hv2.nonneg.2 (rch_wk hr), fun h0 => by
    obtain ⟨q, hq⟩ := hv2.nonneg.1 h0; exact wk_rch hq⟩
   by_cases h0 : 0 ≤ v
   ·rw [if_pos h0, Nat.testBit_or, Bool.or_eq_true, g2, tb_one, decide_eq_true_eq]
    constructor
    ·rintro (⟨h1, h2⟩ | rfl)
     ·exact ⟨by omega, h2⟩
     ·exact ⟨by omega, hr.2 h0⟩
    ·rintro ⟨h1, h2⟩
     by_cases e : j = k
     ·exact .inr e
     ·exact .inl ⟨by omega, h2⟩
   ·rw [if_neg h0, g2]
    constructor
    ·rintro ⟨h1, h2⟩; exact ⟨by omega, h2⟩
    ·rintro ⟨h1, h2⟩
     refine ⟨?_, h2⟩
     have : j ≠ k := fun e => h0 (hr.1 (e ▸ h2))
     omega
 ·unfold L11_2
  simp only
  rw [br_df (by omega)]
/-- A component of the list. -/
theorem Cs.has {es : List (Int × Int)} {S i w : Nat} (hw : IsCl es S i w) (hi : S.testBit i = true) : ∀ {r : Nat} {L : List Nat}, Cs es S r L → (∀ j, r.testBit j = true → S.testBit j = true) → r.testBit i = true → w ∈ L := by
 intro r L h
 induction h with
 | nil => intro _ h; rw [Nat.zero_testBit] at h; cases h
 | @cons r u L h0 hr hu t ih =>
  intro hs hri
  cases e : u.testBit i with
  | true =>
   have hr' := (hu.2 i).1 e
   have h1 := hr'.symm (hs _ (tz_bit h0 hr).1)
   have : w = u := word_ext fun j => by
    rw [hw.2, hu.2]
    exact ⟨fun h => hr'.trans h, fun h => h1.trans h⟩
   rw [this]; exact List.mem_cons_self ..
  | false =>
   refine List.mem_cons_of_mem _ (ih (fun j hj => ?_) ?_)
   ·rw [tb_andn hr hu.1, Bool.and_eq_true] at hj
    exact hs j hj.1
   ·rw [tb_andn hr hu.1, hri, e]; rfl
theorem L74_eq (n0 : Nat) (l : List Nat) (a : Nat) (hl : l.length < 4611686018427387904) : ∀ k i n, i + k = l.length → k < n → (∃ j, i ≤ j ∧ l[j]? = some a) → ∃ j : Nat, lpN (L74_1 n0 l a) n ((i : Nat) : Int) = some (.inl (j : Int)) := by
 intro k
 induction k with
 | zero =>
  rintro i n hi hk ⟨j, hj, h⟩
  have := (List.getElem?_eq_some_iff.1 h).1
  omega
 | succ k ih =>
  rintro i n hi hk ⟨j, hj, h⟩
  obtain ⟨n, rfl⟩ : ∃ n', n = n' + 1 := ⟨n - 1, by omega⟩
  have a1 : i < l.length := by omega
  have e1 : l[((i : Nat) : Int).toNat]? = some l[i] := by simp [a1]
  have hbody : L74_1 n0 l a (i : Int) = br (decide (a = l[i])) (some (.inr (.inl (i : Int)))) (some (.inl ((i + 1 : Nat) : Int))) := by
   simp only [L74_1, e1, inB_nat a1, gd_t, ob_s, wrap_succ (show i < 4611686018427387904 by omega)]
   rw [br_dt (by omega)]
  by_cases hc : a = l[i]
  ·rw [decide_eq_true hc, br_t] at hbody
   exact ⟨i, lp_end hbody⟩
  ·rw [decide_eq_false hc, br_f] at hbody
   rw [lp_next hbody]
   refine ih (i + 1) n (by omega) (by omega) ⟨j, ?_, h⟩
   rcases Nat.lt_or_ge i j with h1 | h1
   ·exact h1
   ·have : i = j := by omega
    subst this
    rw [List.getElem?_eq_getElem a1] at h
    exact absurd (Option.some.inj h).symm hc
theorem F50_mem (n : Nat) (l : List Nat) (a : Nat) (hl : l.length < 4611686018427387904) (hn : l.length < n) (h : a ∈ l) : F50 n l a = some true := by
 obtain ⟨j, hj⟩ := List.mem_iff_getElem?.1 h
 obtain ⟨k, hk⟩ := L74_eq n l a hl l.length 0 n (by omega) hn ⟨j, Nat.zero_le _, hj⟩
 unfold F50 F74
 rw [show lpN (L74_1 n l a) n 0 = _ from hk, ob_s, ob_s, decide_eq_true (by omega)]
theorem bl_top {w i : Nat} (h : w.testBit i = true) : ∃ t, bl w = t + 1 ∧ w.testBit t = true := by
 have h0 : w ≠ 0 := fun e => by rw [e, Nat.zero_testBit] at h; cases h
 refine ⟨Nat.log2 w, by unfold bl; rw [if_neg h0], ?_⟩
 have h1 := (Nat.log2_eq_iff h0).1 rfl
 apply Classical.byContradiction
 intro hno
 rw [Bool.not_eq_true] at hno
 have : w < 2 ^ Nat.log2 w := Nat.lt_pow_two_of_testBit w fun j hj => by
  by_cases e : j = Nat.log2 w
  ·rw [e]; exact hno
  ·exact Nat.testBit_lt_two_pow (Nat.lt_of_lt_of_le h1.2 (Nat.pow_le_pow_right (by decide) (by omega)))
 omega
theorem L11_3_body (n x x19 : Nat) (gs : List (Int × List (Int × Int))) (k M : Nat) (es : List (Int × Int)) (hx : x < 2 ^ 64) (hx19 : x19 < 256) (hk : gs[k]? = some ((M : Int), es)) (hok : okG (M : Int) es = true) (h : Okay M es) (hn : 300 < n) (hk3 : k < 3) : L11_3 n gs x x19 (k : Int) = some (.inl ((k + 1 : Nat) : Int)) := by
 have hM := h.le
 have hpos := h.pos
 have hlen := h.len
 have hlt : k < gs.length := (List.getElem?_eq_some_iff.1 hk).1
 obtain ⟨e1, hy⟩ := masked hM hx
 have hw19 : IntKind.wrap .i64 ((x19 : Nat) : Int) = (x19 : Int) := wrap_in (by omega) (by omega)
 have hfr : Int.tmod (IntKind.wrap .i64 ((x19 : Nat) : Int)) (M : Int) = ((x19 % M : Nat) : Int) := by
  rw [hw19, Int.tmod_eq_emod_of_nonneg (Int.natCast_nonneg _)]; rfl
 have hiM : x19 % M < M := Nat.mod_lt _ (by omega)
 have hone : 2 ^ (x19 % M) < 2 ^ M := Nat.pow_lt_pow_right (by decide) hiM
 have hSM : x % 2 ^ M ||| 2 ^ (x19 % M) < 2 ^ M := Nat.or_lt_two_pow hy hone
 have hor : uw .u64 (uw .u64 (x % 2 ^ M) ||| uw .u64 (2 ^ (x19 % M))) = x % 2 ^ M ||| 2 ^ (x19 % M) := word_or (lt64 hy hM) (lt64 hone hM)
 have hi : (x % 2 ^ M ||| 2 ^ (x19 % M)).testBit (x19 % M) = true := by rw [Nat.testBit_or, tb_one]; simp
 have hS64 := lt64 hSM hM
 obtain ⟨l, l1, l2, l3⟩ := F20_eq n M es _ _ hok h hSM hi (by omega)
 have hD : Dist es (x % 2 ^ M ||| 2 ^ (x19 % M)) (x19 % M) M l := ⟨l2, l3⟩
 obtain ⟨L, a1, a2, a3⟩ := L11_1_eq n M _ _ _ _ es l h hor hSM hD hn
 obtain ⟨w, b1, b2⟩ := L11_2_eq n M _ x19 es l L h hSM _ hi hfr hD a2 a3 hn
 obtain ⟨cl, c1, _, _, _, c5, c6⟩ := comps_both n (M : Int) es _ hS64 (by omega) (by omega) (by omega)
 have cc := ckF_fit h hok hSM
 rw [cc] at c1
 have hmem := Cs.has b2 hi (c6 cc) (fun j hj => hj) hi
 have hwi : w.testBit (x19 % M) = true := (b2.2 _).2 .refl
 obtain ⟨t, t1, t2⟩ := bl_top hwi
 have htr := (b2.2 t).1 t2
 have htS := htr.mem hi
 have htM := tb_ltN hSM htS
 obtain ⟨m, m1, m2, m3⟩ := F20_eq n M es _ t hok h hSM htS (by omega)
 obtain ⟨v, v1, v2⟩ := m3 (x19 % M) hiM
 obtain ⟨u, u1, u2⟩ := l3 t htM
 have huv : u = v := u2.symm hi htS v2
 subst huv
 have wt : IntKind.wrap .i64 (((bl w : Nat) : Int) - 1) = (t : Int) := by rw [t1, wrap_in (by omega) (by omega)]; omega
 unfold L11_3
 simp only [hfr, Int.toNat_natCast, hk, ob_s, inB_nat hlt, gd_t, decide_eq_true (show (M : Int) ≠ 0 by omega), decide_eq_true (show (0 : Int) ≤ (M : Int) by omega), e1, decide_eq_true (show (0 : Int) ≤ ((x19 % M : Nat) : Int) by omega), word_one (show x19 % M < 64 by omega), hor, l1, decide_true, Bool.not_true, br_f, l2, lim_of (show M ≤ 1073741824 by omega), a1, b1, c1, F50_mem n cl w (by omega) (by omega) hmem, F51_eq n w b2.1, wt, m1, m2, inB_nat hiM, v1, inB_nat htM, u1, wrap_succ (show k < 4611686018427387904 by omega)]
 rw [br_dt (by omega)]
theorem F11_true (n x1 x2 x3 : Nat) (l4 : List (Nat × Nat)) (x8 x9 : Nat) (x10 x11 x12 : Int) (x13 x14 : Nat) (x15 x16 x17 : Int) (x18 x19 : Nat) (h9 : x9 < 256) (h14 : x14 < 256) (h18 : x18 < 2 ^ 64) (h19 : x19 < 256) (hn : 300 < n) :
  F11 n x1 x2 x3 l4 x8 x9 x10 x11 x12 x13 x14 x15 x16 x17 x18 x19 = some true := by
 obtain ⟨gs, h1, h2, h3⟩ := F41_eq n x1 x2 x3 l4 x8 x9 x10 x11 x12 x13 x14 x15 x16 x17 h9 h14 hn
 have hlp := lp_list0 (body := L11_3 n gs x18 x19) gs (fun (_ : Unit) (v : Int) => v) (fun _ _ => ()) (fun _ => Sum.inr ()) (fun _ _ => True) (fun s k g hg _ => ?_) (fun s _ => ?_) (n := n) (s := ()) trivial (by omega)
 ·unfold F11 F13
  rw [ob_s, Bool.not_true, br_f, h1, ob_s]
  simp only [hlp.1, ob_s]
 ·have hk : k < gs.length := (List.getElem?_eq_some_iff.1 hg).1
  obtain ⟨hok, M, hM, h⟩ := h3 g (List.mem_of_getElem? hg)
  obtain ⟨N, es⟩ := g
  simp only at hok hM h
  subst hM
  exact ⟨L11_3_body n x18 x19 gs k M es h18 h19 hg hok h hn (by omega), trivial⟩
 ·unfold L11_3
  rw [br_df (by omega)]
end Go.Proofs.YtpclggcpobakhaaDoor
end
