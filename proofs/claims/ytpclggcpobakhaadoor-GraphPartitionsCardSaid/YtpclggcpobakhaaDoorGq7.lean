/- Texts of the abstract machine and of the walks, joined: S18H. -/
import Derived.Test.YtpclggcpobakhaaDoorGq6
section
/-
  Chapter 18, plain laws: drafts are valid; GraphPartitions.
-/
namespace Go.Proofs.YtpclggcpobakhaaDoor
open Go Go.Ab Go.Ab.W

/-! ### Drafts are valid -/
def lastP (p : Int × Int) (l : List (Int × Int)) : Int × Int := (l.getLast?).getD p
theorem okE_snoc {N : Int} (e : Int × Int) : ∀ (l : List (Int × Int)) (p : Int × Int), okEp N p (l ++ [e]) = (okEp N p l && stepOk N (lastP p l) e)
  | [], p => by rw [List.nil_append, okE_cons]; simp [okEp, lastP]
  | x :: l, p => by
    rw [List.cons_append, okE_cons, okE_cons, okE_snoc e l x, Bool.and_assoc]
    congr 2
    unfold lastP
    cases l with
    | nil => rfl
    | cons y l =>
      rw [List.getLast?_cons_cons]
      have : ∃ z, (y :: l).getLast? = some z := ⟨_, List.getLast?_eq_some_getLast (by simp)⟩
      obtain ⟨z, hz⟩ := this
      rw [hz]; rfl
/-- Edges in order, all before (a, b). -/
def Upto (N : Int) (l : List (Int × Int)) (a b : Int) : Prop := okEp N (-1, -1) l = true ∧ ((lastP (-1, -1) l).1 < a ∨ (lastP (-1, -1) l).1 = a ∧ (lastP (-1, -1) l).2 < b)
theorem Upto.add {N : Int} {l : List (Int × Int)} {a b : Int} (h : Upto N l a b) (ha : 0 ≤ a) (hab : a < b) (hb : b < N) : Upto N (l ++ [(a, b)]) a (b + 1) := by
  refine ⟨?_, .inr ?_⟩
  · rw [okE_snoc, h.1, Bool.true_and]
    simp only [stepOk, Bool.and_eq_true, decide_eq_true_eq]
    exact ⟨⟨ha, hab, hb⟩, h.2⟩
  · unfold lastP
    rw [List.getLast?_append]
    simp only [List.getLast?_singleton, Option.some_or, Option.getD_some]
    exact ⟨trivial, by omega⟩
theorem Upto.next {N : Int} {l : List (Int × Int)} {a b : Int} (h : Upto N l a b) : Upto N l a (b + 1) := ⟨h.1, by rcases h.2 with h | h; exact .inl h; exact .inr (by omega)⟩
theorem Upto.row {N : Int} {l : List (Int × Int)} {a b c : Int} (h : Upto N l a b) : Upto N l (a + 1) c := ⟨h.1, .inl (by rcases h.2 with h | h <;> omega)⟩
theorem L40_2_ok (n0 : Nat) (N a w : Int) (x3 : Nat) (l4 : List (Nat × Nat)) (hN : 1 ≤ N ∧ N ≤ 12) (hw : w ≠ 0) (l : List (Int × Int)) (c b : Int) (M : Nat) (hl : l.length ≤ M) (hM : M ≤ 1000) (hb : 0 ≤ b ∧ b ≤ N) (ha : 0 ≤ a ∧ a < b) (hu : Upto N l a b) (n : Nat) (hn : 12 < n) (hn0 : 3 < n0) :
    ∃ r, lpN (L40_2 n0 N a w x3 l4) n (l, c, b) = some r ∧ r.1.length ≤ M + 12 ∧ Upto N r.1 a N := by
  refine lp_tot (body := L40_2 n0 N a w x3 l4) (R := fun r => r.1.length ≤ M + 12 ∧ Upto N r.1 a N) (fun k s => 0 ≤ s.2.2 ∧ s.2.2 + k = N ∧ s.1.length + k ≤ M + 12 ∧ a < s.2.2 ∧ Upto N s.1 a s.2.2) (fun k s hI => ?_) (N - b).toNat (l, c, b) n ⟨hb.1, by simp only; omega, by simp only; omega, ha.2, hu⟩ (by omega)
  obtain ⟨l, c, b⟩ := s
  obtain ⟨h1, h2, h3, h4, h5⟩ := hI
  simp only at h1 h2 h3 h4 h5
  simp only [L40_2]
  by_cases c1 : b < N
  · rw [br_dt c1]
    have e1 : ∃ z, br (decide (b = IntKind.wrap .i64 (a + w))) (some true) (br (decide (b = IntKind.wrap .i64 (a + 1))) (gd (decide (w ≠ 0)) (some (!decide (Int.tmod b w = 0)))) (some false)) = some z :=
      br_bool (fun _ => some_b _) fun _ => br_bool (fun _ => ⟨_, gd_dt hw _⟩) fun _ => some_b _
    obtain ⟨z, hz⟩ := e1
    rw [hz, ob_s]
    have e2 : ∃ c' z', br z (ob (ob (br (decide (Int.tmod c 2 = 1)) (ob (some (ushr .u16 x3 (ui .u64 (Int.tmod (IntKind.wrap .i64 (Int.tdiv c 2)) 16)))) fun y2906 => some (decide (uw .u16 (uw .u16 y2906 &&& uw .u16 1) = 1))) (some false)) fun v2904 => br v2904 (some false) (some z)) fun v2900 => some (IntKind.wrap .i64 (c + 1), v2900)) (some (c, z)) = some (c', z') := by
      cases z with
      | false => exact ⟨c, false, rfl⟩
      | true =>
        rw [br_t]
        have : ∃ q, (ob (br (decide (Int.tmod c 2 = 1)) (ob (some (ushr .u16 x3 (ui .u64 (Int.tmod (IntKind.wrap .i64 (Int.tdiv c 2)) 16)))) fun y2906 => some (decide (uw .u16 (uw .u16 y2906 &&& uw .u16 1) = 1))) (some false)) fun v2904 => br v2904 (some false) (some true)) = some q := by
          by_cases h : Int.tmod c 2 = 1
          · rw [br_dt h, ob_s, ob_s]; exact br_bool (fun _ => some_b _) fun _ => some_b _
          · rw [br_df h, ob_s]; exact br_bool (fun _ => some_b _) fun _ => some_b _
        obtain ⟨q, hq⟩ := this
        exact ⟨_, q, by rw [hq, ob_s]⟩
    obtain ⟨c', z', hz'⟩ := e2
    rw [hz', ob_s]
    obtain ⟨q, hq⟩ := L40_1_tot n0 l4 N a b (by omega) z' n0 hn0
    simp only [hq, ob_s]
    cases q with
    | false =>
      refine .inl ⟨(l, c', b + 1), ?_, k - 1, by omega, by simp only; omega, by simp only; omega, by simp only; omega, by simp only; omega, h5.next⟩
      rw [br_f, ob_s, wrap_in (by omega) (by omega)]
    | true =>
      refine .inl ⟨(l ++ [(a, b)], c', b + 1), ?_, k - 1, by omega, by simp only; omega, by simp only; omega, by simp; omega, by simp only; omega, h5.add ha.1 h4 c1⟩
      rw [br_t, lim_of (by simp; omega), gd_t, ob_s, wrap_in (by omega) (by omega)]
  · rw [br_df c1]; exact .inr ⟨(l, c), rfl, by simp only; omega, (show b = N by omega) ▸ h5⟩
theorem L40_3_ok (n0 : Nat) (N w : Int) (x3 : Nat) (l4 : List (Nat × Nat)) (hN : 1 ≤ N ∧ N ≤ 12) (hw : w ≠ 0) (n : Nat) (hn : 12 < n) (hn0 : 12 < n0) :
    ∃ r, lpN (L40_3 n0 N x3 l4) n (w, [], 0, 0) = some r ∧ r.length ≤ 200 ∧ okEp N (-1, -1) r = true := by
  refine lp_tot (body := L40_3 n0 N x3 l4) (R := fun r => r.length ≤ 200 ∧ okEp N (-1, -1) r = true) (fun k s => s.1 = w ∧ 0 ≤ s.2.2.2 ∧ s.2.2.2 + k = N ∧ s.2.1.length + 12 * k ≤ 144 ∧ Upto N s.2.1 s.2.2.2 0) (fun k s hI => ?_) N.toNat (w, [], 0, 0) n ⟨rfl, by simp, by simp only; omega, by simp; omega, ⟨rfl, .inl (by show (-1 : Int) < 0; decide)⟩⟩ (by omega)
  obtain ⟨w', l, c, a⟩ := s
  obtain ⟨rfl, h1, h2, h3, h4⟩ := hI
  simp only at h1 h2 h3 h4 hw
  simp only [L40_3]
  by_cases c1 : a < N
  · rw [br_dt c1]
    obtain ⟨r, hr, hrl, hru⟩ := L40_2_ok n0 N a w' x3 l4 hN hw l c (IntKind.wrap .i64 (a + 1)) l.length (Nat.le_refl _) (by omega) (by rw [wrap_in (by omega) (by omega)]; omega) (by rw [wrap_in (by omega) (by omega)]; omega) (by rw [wrap_in (by omega) (by omega)]; exact ⟨h4.1, h4.2.imp id fun h => ⟨h.1, by omega⟩⟩) n0 hn0 (by omega)
    obtain ⟨l', c'⟩ := r
    simp only [hr, ob_s]
    exact .inl ⟨(w', l', c', a + 1), by rw [wrap_in (by omega) (by omega)], k - 1, by omega, rfl, by simp only; omega, by simp only; omega, by simp only at hrl ⊢; omega, hru.row⟩
  · rw [br_df c1]; exact .inr ⟨l, rfl, by omega, h4.1⟩
theorem F40_ok (n x1 x2 x3 : Nat) (l4 : List (Nat × Nat)) (hn : 12 < n) : ∃ N es, F40 n x1 x2 x3 l4 = some (N, es) ∧ okG N es = true := by
  unfold F40
  have w1 : IntKind.wrap .i64 ((x1 % 4 : Nat) : Int) = ((x1 % 4 : Nat) : Int) := wrap_in (by omega) (by omega)
  have w2 : IntKind.wrap .i64 ((x2 % 3 : Nat) : Int) = ((x2 % 3 : Nat) : Int) := wrap_in (by omega) (by omega)
  have w3 : IntKind.wrap .i64 (1 + ((x1 % 4 : Nat) : Int)) = 1 + ((x1 % 4 : Nat) : Int) := wrap_in (by omega) (by omega)
  have w4 : IntKind.wrap .i64 (1 + ((x2 % 3 : Nat) : Int)) = 1 + ((x2 % 3 : Nat) : Int) := wrap_in (by omega) (by omega)
  rw [w1, w2, w3, w4, ob_s]
  have hN : ∀ a b : Nat, a < 4 → b < 3 → 1 ≤ (1 + (a : Int)) * (1 + (b : Int)) ∧ (1 + (a : Int)) * (1 + (b : Int)) ≤ 12 := by
    intro a b ha hb
    have h1 : a = 0 ∨ a = 1 ∨ a = 2 ∨ a = 3 := by omega
    have h2 : b = 0 ∨ b = 1 ∨ b = 2 := by omega
    rcases h1 with rfl | rfl | rfl | rfl <;> rcases h2 with rfl | rfl | rfl <;> decide
  have hN' := hN (x1 % 4) (x2 % 3) (Nat.mod_lt _ (by omega)) (Nat.mod_lt _ (by omega))
  rw [wrap_in (by omega) (by omega)]
  obtain ⟨r, hr, hl, hu⟩ := L40_3_ok n ((1 + ((x1 % 4 : Nat) : Int)) * (1 + ((x2 % 3 : Nat) : Int))) (1 + ((x1 % 4 : Nat) : Int)) x3 l4 hN' (by omega) n hn hn
  refine ⟨_, r, by rw [hr, ob_s], ?_⟩
  simp only [okG, Bool.and_eq_true, decide_eq_true_eq]
  exact ⟨⟨hN'.1, by omega, hl⟩, hu⟩

/-! ### GraphPartitions -/
theorem Rch.within {es : List (Int × Int)} {S c i j : Nat} (h : Rch es S i j) (hc : ∀ k, Rch es S i k → c.testBit k = true) : Rch es c i j := by
  induction h with
  | refl => exact .refl
  | step h' ha hk ih => exact .step ih ha (hc _ (.step h' ha hk))
/-- What is left: whole components. -/
def Whole1 (es : List (Int × Int)) (S r : Nat) : Prop := r < 2 ^ 64 ∧ (∀ i, r.testBit i = true → S.testBit i = true) ∧ ∀ i j, r.testBit i = true → Rch es S i j → r.testBit j = true
theorem cl_facts {es : List (Int × Int)} {S r w : Nat} (h : Whole1 es S r) (h0 : 0 < r) (hw : IsCl es S (tz r) w) :
    w.testBit (tz r) = true ∧ (∀ i, w.testBit i = true → r.testBit i = true) ∧ 0 < w ∧ tz w = tz r ∧ Whole1 es S (uandn .u64 r w) ∧ (∀ i, (uandn .u64 r w).testBit i = true → tz w < i) := by
  obtain ⟨hr, hs, hc⟩ := h
  obtain ⟨hb, hl⟩ := tz_bit h0 hr
  have hwi : w.testBit (tz r) = true := (hw.2 _).2 .refl
  have hsub : ∀ i, w.testBit i = true → r.testBit i = true := fun i hi => hc _ _ hb ((hw.2 i).1 hi)
  have hle : ∀ i, r.testBit i = true → tz r ≤ i := fun i hi => by
    rcases Nat.lt_or_ge i (tz r) with h | h
    · rw [hl i h] at hi; cases hi
    · exact h
  obtain ⟨hw0, hwt⟩ := tz_unique hw.1 hwi fun j hj => hle j (hsub j hj)
  refine ⟨hwi, hsub, hw0, hwt, ⟨andn_lt hr hw.1, fun i hi => ?_, fun i j hi hij => ?_⟩, fun i hi => ?_⟩
  · rw [tb_andn hr hw.1, Bool.and_eq_true] at hi
    exact hs i hi.1
  · rw [tb_andn hr hw.1, Bool.and_eq_true] at hi ⊢
    refine ⟨hc i j hi.1 hij, ?_⟩
    cases e : w.testBit j with
    | false => rfl
    | true =>
      have hji := hij.symm (hs i hi.1)
      have : w.testBit i = true := (hw.2 i).2 (((hw.2 j).1 e).trans hji)
      rw [this] at hi; cases hi.2
  · rw [tb_andn hr hw.1, Bool.and_eq_true] at hi
    rw [hwt]
    have h1 := hle i hi.1
    have : i ≠ tz r := fun e => by subst e; rw [hwi] at hi; cases hi.2
    omega
theorem one_part {es : List (Int × Int)} {S r w : Nat} (h : Whole1 es S r) (h0 : 0 < r) (hw : IsCl es S (tz r) w) {L : List Nat} (hL : Cs es w w L) : L.length = 1 := by
  obtain ⟨h1, h2, h3, h4, _, _⟩ := cl_facts h h0 hw
  have hcl : IsCl es w (tz w) w := by
    rw [h4]
    exact ⟨hw.1, fun j => ⟨fun hj => ((hw.2 j).1 hj).within fun k hk => (hw.2 k).2 hk, fun hj => hj.mem h1⟩⟩
  cases hL with
  | nil => omega
  | cons g0 gr gw t =>
    have e := gw.unique hcl
    rw [e] at t
    have hz : uandn .u64 w w = 0 := word_zero.2 fun i => by
      rw [tb_andn hw.1 hw.1]; cases w.testBit i <;> rfl
    rw [hz] at t
    cases t with
    | nil => rfl
    | cons g0 => omega
theorem L6_1_eq (n M S : Nat) (es : List (Int × Int)) (l : List Nat) (h : Okay M es) (hok : okG (M : Int) es = true) (hS : S < 2 ^ M) (hn : 300 < n) (hl : l.length ≤ 64) :
    ∀ (r : Nat) (L : List Nat), Cs es S r L → ∀ (k m v : Nat), l.drop k = L → k + L.length = l.length → Whole1 es S r → v = uandn .u64 S r → (k = 0 ∨ ∃ p, l[k - 1]? = some p ∧ p < 2 ^ 64 ∧ 0 < p ∧ ∀ i, r.testBit i = true → tz p < i) → L.length < m →
      lpN (L6_1 n l (M : Int) es S) m (v, (k : Int)) = some (.inr S) := by
  intro r L hC
  have hM := h.le
  have hlen := h.len
  have hS64 := lt64 hS hM
  induction hC with
  | nil =>
    intro k m v hd hk hW hv hp hm
    obtain ⟨m, rfl⟩ : ∃ m', m = m' + 1 := ⟨m - 1, by omega⟩
    have e : uandn .u64 S 0 = S := word_ext fun i => by rw [tb_andn hS64 (by decide), Nat.zero_testBit]; simp
    rw [hv, e]
    exact lp_end (by simp only [L6_1]; simp only [List.length_nil] at hk; rw [br_df (by omega)])
  | @cons r w L h0 hr hw t ih =>
    intro k m v hd hk hW hv hp hm
    obtain ⟨m, rfl⟩ : ∃ m', m = m' + 1 := ⟨m - 1, by simp at hm; omega⟩
    simp only [List.length_cons] at hk hm
    have hlt : k < l.length := by omega
    have hat : l[k]? = some w := by
      rw [List.getElem?_eq_getElem hlt]
      rw [List.drop_eq_getElem_cons hlt] at hd
      exact congrArg some (List.cons.inj hd).1
    have hd' : l.drop (k + 1) = L := by
      rw [List.drop_eq_getElem_cons hlt] at hd
      exact (List.cons.inj hd).2
    obtain ⟨f1, f2, f3, f4, f5, f6⟩ := cl_facts hW h0 hw
    have hwS : ∀ i, w.testBit i = true → S.testBit i = true := fun i hi => hW.2.1 i (f2 i hi)
    have hwM : w < 2 ^ M := Nat.lt_pow_two_of_testBit w fun j hj => by
      cases e : w.testBit j with
      | false => rfl
      | true => have := tb_ltN hS (hwS j e); omega
    have c1 := ckF_fit h hok hwM
    obtain ⟨u, u1, _, u3⟩ := nb_both n (M : Int) es w hw.1 (by omega) (by omega) (by omega)
    obtain ⟨c, _, _, c3, _, _, c6⟩ := comps_both n (M : Int) es w hw.1 (by omega) (by omega) (by omega)
    rw [c1] at u1 c3
    obtain ⟨ul, ub⟩ := u3 c1
    have hone := one_part hW h0 hw (c6 c1)
    rw [hone] at c3
    have hvl : v < 2 ^ 64 := by rw [hv]; exact andn_lt hS64 hr
    have hwv : w &&& v = 0 := word_zero.2 fun i => by
      rw [Nat.testBit_and, hv, tb_andn hS64 hr]
      cases e : w.testBit i with
      | false => rfl
      | true => rw [f2 i e]; simp
    have huS : u &&& S = 0 := word_zero.2 fun i => by
      rw [Nat.testBit_and]
      cases e : u.testBit i with
      | false => rfl
      | true =>
        obtain ⟨⟨k', hk', ha⟩, hi⟩ := (ub i).1 e
        cases e2 : S.testBit i with
        | false => rfl
        | true =>
          have : w.testBit i = true := (hw.2 i).2 (.step ((hw.2 k').1 hk') ha e2)
          rw [hi] at this; cases this
    have hlast : br (decide (0 < (k : Int))) (gd (inB (IntKind.wrap .i64 ((k : Int) - 1)) l.length) (ob (l[(IntKind.wrap .i64 ((k : Int) - 1)).toNat]?) fun x1404 => ob (F42 n x1404) fun r1407 => ob (F42 n w) fun r1409 => some (decide (r1409 ≤ r1407)))) (some false) = some false := by
      by_cases hk0 : k = 0
      · subst hk0; rfl
      · rw [br_dt (by omega), wrap_in (by omega) (by omega)]
        have e : (k : Int) - 1 = ((k - 1 : Nat) : Int) := by omega
        rcases hp with hp | ⟨p, p1, p2, p3, p4⟩
        · exact absurd hp hk0
        · rw [e, inB_nat (by omega), gd_t, Int.toNat_natCast, p1, ob_s, F42_eq p2, ob_s, F42_eq hw.1, ob_s]
          have := p4 _ (f2 _ (tz_bit f3 hw.1).1)
          rw [decide_eq_false (by omega)]
    have hv' : v ||| w = uandn .u64 S (uandn .u64 r w) := word_ext fun i => by
      rw [Nat.testBit_or, hv, tb_andn hS64 hr, tb_andn hS64 (andn_lt hr hw.1), tb_andn hr hw.1]
      have := hwS i
      have h2 := f2 i
      revert this h2
      cases S.testBit i <;> cases r.testBit i <;> cases w.testBit i <;> simp
    rw [lp_next (s' := (v ||| w, ((k + 1 : Nat) : Int))) ?_]
    · refine ih (k + 1) m _ hd' (by omega) f5 hv' (.inr ⟨w, by simpa using hat, hw.1, f3, f6⟩) (by omega)
    · unfold L6_1
      simp only [Int.toNat_natCast, hat, ob_s, inB_nat hlt, gd_t, u1, c3, decide_true, Bool.and_self, Bool.not_true, br_f, word_and hw.1 hvl, hwv, word_and ul hS64, huS, hlast, word_or hvl hw.1, wrap_succ (show k < 4611686018427387904 by omega)]
      rw [br_dt (by omega)]
theorem L6_2_body (n x : Nat) (gs : List (Int × List (Int × Int))) (k M : Nat) (es : List (Int × Int)) (hx : x < 2 ^ 64) (hk : gs[k]? = some ((M : Int), es)) (hok : okG (M : Int) es = true) (h : Okay M es) (hn : 300 < n) (hk3 : k < 3) : L6_2 n gs x (k : Int) = some (.inl ((k + 1 : Nat) : Int)) := by
  have hM := h.le
  have hlen := h.len
  have hlt : k < gs.length := (List.getElem?_eq_some_iff.1 hk).1
  obtain ⟨e1, hy⟩ := masked hM hx
  have hy64 := lt64 hy hM
  have c1 := ckF_fit h hok hy
  obtain ⟨l, b1, _, b3, _, b5, b6⟩ := comps_both n (M : Int) es _ hy64 (by omega) (by omega) (by omega)
  rw [c1] at b1 b3
  have hC := b6 c1
  have hz : uandn .u64 (x % 2 ^ M) (x % 2 ^ M) = 0 := word_zero.2 fun i => by
    rw [tb_andn hy64 hy64]; cases (x % 2 ^ M).testBit i <;> rfl
  have hloop := L6_1_eq n M _ es l h hok hy hn b5 _ l hC 0 n 0 rfl (by omega) ⟨hy64, fun i hi => hi, fun i j hi hij => hij.mem hi⟩ hz.symm (.inl rfl) (by omega)
  have hloop' : lpN (L6_1 n l (M : Int) es (x % 2 ^ M)) n (0, 0) = some (.inr (x % 2 ^ M)) := hloop
  have e : decide (((l.length : Nat) : Int) = 1) = decide (l.length = 1) := by
    by_cases h : l.length = 1
    · rw [decide_eq_true h, decide_eq_true (by omega)]
    · rw [decide_eq_false h, decide_eq_false (by omega)]
  unfold L6_2
  simp only [Int.toNat_natCast, hk, ob_s, inB_nat hlt, gd_t, decide_eq_true (show (0 : Int) ≤ (M : Int) by omega), e1, b1, b3, decide_true, Bool.not_true, br_f, Bool.true_and, e, beq_self_eq_true, hloop', wrap_succ (show k < 4611686018427387904 by omega)]
  rw [br_dt (by omega)]
theorem F6_true (n x1 x2 x3 : Nat) (l4 : List (Nat × Nat)) (x8 x9 : Nat) (x10 x11 x12 : Int) (x13 x14 : Nat) (x15 x16 x17 : Int) (x18 : Nat) (h9 : x9 < 256) (h14 : x14 < 256) (h18 : x18 < 2 ^ 64) (hn : 300 < n) :
    F6 n x1 x2 x3 l4 x8 x9 x10 x11 x12 x13 x14 x15 x16 x17 x18 = some true := by
  obtain ⟨gs, h1, h2, h3⟩ := F41_eq n x1 x2 x3 l4 x8 x9 x10 x11 x12 x13 x14 x15 x16 x17 h9 h14 hn
  obtain ⟨N, es, d1, d2⟩ := F40_ok n x1 x2 x3 l4 (by omega)
  obtain ⟨M0, _, hM0⟩ := okay_of d2
  have hl0 := hM0.len
  have d3 : F23 n N es = some 0 := by rw [F23_eq n N es (by omega) (by omega) (by omega)]; unfold ckG; rw [if_pos d2]
  have hlp := lp_list0 (body := L6_2 n gs x18) gs (fun (_ : Unit) (v : Int) => v) (fun _ _ => ()) (fun _ => Sum.inr ()) (fun _ _ => True) (fun s k g hg _ => ?_) (fun s _ => ?_) (n := n) (s := ()) trivial (by omega)
  · unfold F6 F13
    rw [ob_s, Bool.not_true, br_f, d1, ob_s]
    simp only [d3, ob_s, decide_true, Bool.not_true, br_f, h1, hlp.1]
  · have hk : k < gs.length := (List.getElem?_eq_some_iff.1 hg).1
    obtain ⟨hok, M, hM, h⟩ := h3 g (List.mem_of_getElem? hg)
    obtain ⟨N, es⟩ := g
    simp only at hok hM h
    subst hM
    exact ⟨L6_2_body n x18 gs k M es h18 hg hok h hn (by omega), trivial⟩
  · unfold L6_2
    rw [br_df (by omega)]
end Go.Proofs.YtpclggcpobakhaaDoor
end
