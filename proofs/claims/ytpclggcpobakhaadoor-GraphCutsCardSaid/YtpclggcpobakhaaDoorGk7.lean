/- Texts of the abstract machine and of the walks, joined: S18D2 S18B S18D3 S18D4 S18D5 S18D6 S18H S18K S18L S18D7. -/
import Derived.Test.YtpclggcpobakhaaDoorGk6
section
namespace Go.Proofs.YtpclggcpobakhaaDoor
open Go Go.Ab Go.Ab.W Dfs
theorem mput_both {α β : Type} [DecidableEq α] (xs : List (α × β)) (k k' : α) (v : β) : mget (mput xs k v) k' = (if k' = k then some v else mget xs k') ∧ (mput xs k v).length = (if mget xs k = none then xs.length + 1 else xs.length) := by
 have key : ∀ (xs : List (α × β)) (i : Nat), (mfind k xs i = none → ∀ j, (mfind k' (xs ++ [(k, v)]) j).map (·.2) = if k' = k then some v else (mfind k' xs j).map (·.2)) ∧
   (∀ p, mfind k xs i = some p → i ≤ p.1 ∧ ∀ j, (mfind k' (xs.set (p.1 - i) (k, v)) j).map (·.2) = if k' = k then some v else (mfind k' xs j).map (·.2)) := by
  intro xs
  induction xs with
  | nil =>
   intro i
   refine ⟨fun _ j => ?_, fun p h => by simp [mfind] at h⟩
   simp only [List.nil_append, mfind]
   by_cases h : k' = k <;> simp [h]
  | cons e xs ih =>
   intro i
   by_cases he : k = e.1
   ·refine ⟨fun h => by simp [mfind, he] at h, fun p h => ?_⟩
    have hp : p = (i, e.2) := by simp [mfind, he] at h; exact h.symm
    subst hp
    refine ⟨Nat.le_refl _, fun j => ?_⟩
    simp only [Nat.sub_self, List.set_cons_zero, mfind]
    by_cases h : k' = k
    ·simp [h]
    ·have : k' ≠ e.1 := fun c => h (c.trans he.symm)
     simp [h, this]
   ·refine ⟨fun h j => ?_, fun p h => ?_⟩
    ·have h' : mfind k xs (i + 1) = none := by simpa [mfind, he] using h
     simp only [List.cons_append, mfind]
     by_cases h2 : k' = e.1
     ·have : k' ≠ k := fun c => he (c.symm.trans h2)
      simp [h2, Ne.symm he]
     ·simp only [if_neg h2]
      exact (ih (i + 1)).1 h' (j + 1)
    ·have h' : mfind k xs (i + 1) = some p := by simpa [mfind, he] using h
     obtain ⟨g1, g2⟩ := (ih (i + 1)).2 p h'
     refine ⟨by omega, fun j => ?_⟩
     rw [show p.1 - i = (p.1 - (i + 1)) + 1 by omega, List.set_cons_succ]
     simp only [mfind]
     by_cases h2 : k' = e.1
     ·have : k' ≠ k := fun c => he (c.symm.trans h2)
      simp [h2, Ne.symm he]
     ·simp only [if_neg h2]
      exact g2 (j + 1)
 unfold mget mput
 cases h : mfind k xs 0 with
 | none => exact ⟨(key xs 0).1 h 0, by simp⟩
 | some p => exact ⟨((key xs 0).2 p h).2 0, by simp⟩
theorem mget_mput {α β : Type} [DecidableEq α] (xs : List (α × β)) (k k' : α) (v : β) : mget (mput xs k v) k' = if k' = k then some v else mget xs k' := (mput_both xs k k' v).1
theorem len_mput {α β : Type} [DecidableEq α] (xs : List (α × β)) (k : α) (v : β) (h : mget xs k = none) : (mput xs k v).length = xs.length + 1 := by rw [(mput_both xs k k v).2, if_pos h]
theorem getD_put {α β : Type} [DecidableEq α] (xs : List (α × β)) (k k' : α) (v d : β) : (mget (mput xs k v) k').getD d = if k' = k then v else (mget xs k').getD d := by
 rw [mget_mput]; split <;> rfl
abbrev Q4 : Type := List (Int × Int) × List (Int × Int) × List ((Int × Int) × Bool) × Nat
def sg (s : Q4) : Sg where
 m x := (mget s.1 (x : Int)).getD 0
 lo x := (mget s.2.1 (x : Int)).getD 0
 b x y := (mget s.2.2.1 (mi (x : Int) (y : Int), ma (x : Int) (y : Int))).getD false = true
 cu x := s.2.2.2.testBit x = true
 c := (s.1.length : Int)
def un (l : List (Int × Int)) : Nat := ((List.range 64).filter fun x => (mget l ((x : Nat) : Int)).isNone).length
structure FI (s : Q4) : Prop where
 key : ∀ x : Nat, (sg s).m x = 0 → mget s.1 (x : Int) = none
 len : s.1.length + un s.1 = 64
 cu : s.2.2.2 < 2 ^ 64
theorem filter_less {p q : Nat → Bool} {a : Nat} : ∀ {l : List Nat}, l.Nodup → a ∈ l → p a = true → (∀ x, q x = (p x && !decide (x = a))) → (l.filter q).length + 1 = (l.filter p).length
 | [], _, h, _, _ => by cases h
 | x :: l, hd, ha, hp, hq => by
  rw [List.nodup_cons] at hd
  by_cases e : x = a
  ·subst e
   have hqa : q x = false := by rw [hq]; simp
   rw [List.filter_cons_of_pos hp, List.filter_cons_of_neg (by rw [hqa]; decide), List.length_cons]
   congr 1
   congr 1
   refine List.filter_congr fun y hy => ?_
   have : y ≠ x := fun e => hd.1 (e ▸ hy)
   rw [hq]; simp [this]
  ·have ha' : a ∈ l := by rcases List.mem_cons.1 ha with h | h; exact absurd h.symm e; exact h
   have ih := filter_less (p := p) (q := q) (a := a) hd.2 ha' hp hq
   have hqx : q x = p x := by rw [hq]; simp [e]
   by_cases hpx : p x = true
   ·rw [List.filter_cons_of_pos hpx, List.filter_cons_of_pos (hqx.trans hpx)]
    simp only [List.length_cons]; omega
   ·rw [List.filter_cons_of_neg hpx, List.filter_cons_of_neg (by rw [hqx]; exact hpx)]
    exact ih
theorem un_put {l : List (Int × Int)} {x : Nat} (hx : x < 64) (h : mget l (x : Int) = none) (v : Int) : un (mput l (x : Int) v) + 1 = un l := by
 refine filter_less (a := x) List.nodup_range (List.mem_range.2 hx) (by simp [h]) fun y => ?_
 rw [mget_mput]
 by_cases e : y = x
 ·simp [e]
 ·have : ¬ ((y : Int) = (x : Int)) := by omega
  simp [e, this]
theorem pair_eq {a b x y : Nat} : ((mi (a : Int) (b : Int), ma (a : Int) (b : Int)) : Int × Int) = (mi (x : Int) (y : Int), ma (x : Int) (y : Int)) ↔ (a = x ∧ b = y) ∨ (a = y ∧ b = x) := by
 rw [Prod.mk.injEq]
 unfold mi ma
 constructor
 ·rintro ⟨h1, h2⟩
  split at h1 <;> split at h1 <;> split at h2 <;> split at h2 <;> omega
 ·rintro (⟨rfl, rfl⟩ | ⟨rfl, rfl⟩)
  ·exact ⟨rfl, rfl⟩
  ·constructor
   ·split <;> split <;> omega
   ·split <;> split <;> omega
def Ad (es : List (Int × Int)) (S : Nat) (x y : Nat) : Prop := adj es x y ∧ S.testBit x = true ∧ S.testBit y = true
theorem Ad.symm {es : List (Int × Int)} {S : Nat} : ∀ x y, Ad es S x y → Ad es S y x := fun _ _ h => ⟨adj_symm h.1, h.2.2, h.2.1⟩
theorem Ad.irr {M : Nat} {es : List (Int × Int)} {S : Nat} (h : Okay M es) : ∀ x, ¬ Ad es S x x := fun x hx => (h.adj hx.1).2.2 rfl
abbrev InS (S : Nat) (x : Nat) : Prop := S.testBit x = true
abbrev Fr1 (f : Int) (p : Nat) : Prop := (p : Int) = f
section
variable {M S : Nat} {es : List (Int × Int)} {L : List Nat}
def VisitOk (es : List (Int × Int)) (S : Nat) (rec0 : Q4 → Int × Int → Option Q4) (k : Nat) : Prop :=
 ∀ (s : Q4) (Act : Nat → Prop) (x : Nat) (f : Int), (f = -1 ∨ ∃ p : Nat, f = (p : Int)) → FI s → Pre (Ad es S) (InS S) Act (Fr1 f) x (sg s) → un s.1 < k → ∃ s', rec0 s ((x : Int), f) = some s' ∧ FI s' ∧ un s'.1 ≤ un s.1 ∧ Post (Ad es S) (InS S) (Fr1 f) x (sg s) (sg s')
abbrev L5 : Type := List (Int × Int) × List (Int × Int) × List ((Int × Int) × Bool) × Nat × Int
def q4 (s : L5) : Q4 := (s.1, s.2.1, s.2.2.1, s.2.2.2.1)
theorem ob_step {α β : Type} {e : Option α} {F : α → Option β} {G : α → β} {P : α → Prop} (hF : ∀ a, F a = some (G a)) (h : ∃ a, e = some a ∧ P a) : ∃ a, ob e F = some (G a) ∧ P a := by
 obtain ⟨a, h1, h2⟩ := h
 exact ⟨a, by rw [h1]; exact hF a, h2⟩
theorem L76_step (n0 : Nat) (hok : Okay M es) (hS : S < 2 ^ M) {rec0 : Q4 → Int × Int → Option Q4} {k : Nat} (hrec : VisitOk es S rec0 k) {s0 : Sg} {Act : Nat → Prop} {x : Nat} {f : Int} (hp : Pre (Ad es S) (InS S) Act (Fr1 f) x s0)
  {D : Nat → Prop} {s : L5} {r : Nat} (h0 : 0 < r) (hr : r < 2 ^ 64) (ha : Ad es S x (tz r)) (hD : ¬ D (tz r)) (hI : LI (Ad es S) (InS S) Act (Fr1 f) x s0 D (sg (q4 s)) s.2.2.2.2) (hF : FI (q4 s)) (hu : un s.1 < k) (hf : f = -1 ∨ ∃ p : Nat, f = (p : Int)) :
  ∃ s' : L5, L76_1 n0 f (x : Int) rec0 (r, s) = some (.inl (clr r, s')) ∧ LI (Ad es S) (InS S) Act (Fr1 f) x s0 (fun w => D w ∨ w = tz r) (sg (q4 s')) s'.2.2.2.2 ∧ FI (q4 s') ∧ un s'.1 ≤ un s.1 := by
 obtain ⟨lm, ll, lb, C, kids⟩ := s
 have hs := @Ad.symm es S
 have hi := @Ad.irr M es S hok
 have hx64 : x < 64 := tb_lt (lt64 hS hok.le) ha.2.1
 have hk64 : tz r < 64 := tb_lt (lt64 hS hok.le) ha.2.2
 have hne : x ≠ tz r := ne_of hi ha
 have hnei : ¬ ((tz r : Nat) : Int) = (x : Int) := by omega
 have hnei' : ¬ ((x : Nat) : Int) = (tz r : Int) := by omega
 simp only [L76_1]
 rw [show (!decide (r = 0)) = true by simp; omega, br_t]
 simp only [F42_eq hr, ob_s]
 refine ob_step (α := L5) (G := fun s' : L5 => (Sum.inl (clr r, s') : (Nat × L5) ⊕ L5)) (fun a => rfl) ?_
 by_cases hfk : ((tz r : Nat) : Int) = f
 ·rw [br_dt hfk]
  exact ⟨_, rfl, hI.skip hp hfk, hF, Nat.le_refl _⟩
 rw [br_df hfk]
 by_cases hm : 0 < (mget lm ((tz r : Nat) : Int)).getD 0
 ·rw [br_dt hm]
  refine ⟨_, rfl, hI.met hs hi hp (k := tz r) ha hm hfk hD rfl (fun y => ?_) rfl rfl rfl, ⟨hF.key, hF.len, hF.cu⟩, Nat.le_refl _⟩
  show (mget (mput ll (x : Int) _) (y : Int)).getD 0 = _
  rw [getD_put]
  by_cases e : y = x
  ·subst e; rw [if_pos rfl, if_pos rfl]; rfl
  ·rw [if_neg (by omega), if_neg e]; rfl
 ·rw [br_df hm]
  have hm0 : (sg (q4 (lm, ll, lb, C, kids))).m (tz r) = 0 := by
   have := (hI.pos (tz r)).1
   have e : (sg (q4 (lm, ll, lb, C, kids))).m (tz r) = (mget lm ((tz r : Nat) : Int)).getD 0 := rfl
   omega
  obtain ⟨s2, h1, h2, h3, h4⟩ := hrec (lm, ll, lb, C) _ (tz r) (x : Int) (.inr ⟨x, rfl⟩) hF (by
   have := hI.child_pre hs hi hp ha hm0 ha.2.2
   have e : (fun y => y = x) = Fr1 (x : Int) := by funext y; unfold Fr1; exact propext ⟨fun h => by rw [h], fun h => by omega⟩
   rw [e] at this; exact this) hu
  have h4' : Post (Ad es S) (InS S) (fun y => y = x) (tz r) (sg (lm, ll, lb, C)) (sg s2) := by
   have e : (fun y => y = x) = Fr1 (x : Int) := by funext y; unfold Fr1; exact propext ⟨fun h => by rw [h], fun h => by omega⟩
   rw [e]; exact h4
  obtain ⟨lm2, ll2, lb2, C2⟩ := s2
  have hkid : IntKind.wrap .i64 (kids + 1) = kids + 1 := by
   have h5 := hI.kid
   have h6 : (sg (q4 (lm, ll, lb, C, kids))).c = (lm.length : Int) := rfl
   have h7 := hF.len
   have h8 : (q4 (lm, ll, lb, C, kids)).1 = lm := rfl
   rw [h8] at h7
   have h9 : (lm, ll, lb, C, kids).2.2.2.2 = kids := rfl
   rw [h9] at h5
   exact wrap_in (by omega) (by omega)
  simp only [h1, ob_s, getD_put, if_neg hnei, hkid]
  have C2lt : C2 < 2 ^ 64 := h2.cu
  have fin : ∀ (lb3 : List ((Int × Int) × Bool)) (C3 : Nat), C3 < 2 ^ 64 → (∀ a b : Nat, (sg (lm2, ll2, lb3, C3)).b a b ↔ (sg (lm2, ll2, lb2, C2)).b a b ∨ ((sg (lm2, ll2, lb2, C2)).m x < (sg (lm2, ll2, lb2, C2)).lo (tz r) ∧ ((a = x ∧ b = tz r) ∨ (a = tz r ∧ b = x)))) →
    (∀ a : Nat, C3.testBit a = true ↔ C2.testBit a = true ∨ (a = x ∧ (∃ p, Fr1 f p) ∧ (sg (lm2, ll2, lb2, C2)).m x ≤ (sg (lm2, ll2, lb2, C2)).lo (tz r))) →
    LI (Ad es S) (InS S) Act (Fr1 f) x s0 (fun w => D w ∨ w = tz r) (sg (lm2, mput ll2 (x : Int) (mi ((mget ll2 (x : Int)).getD 0) ((mget ll2 ((tz r : Nat) : Int)).getD 0)), lb3, C3)) (kids + 1) ∧ FI (lm2, mput ll2 (x : Int) (mi ((mget ll2 (x : Int)).getD 0) ((mget ll2 ((tz r : Nat) : Int)).getD 0)), lb3, C3) := by
   intro lb3 C3 hC hb hc
   refine ⟨hI.child hs hi hp ha hm0 ha.2.2 h4' rfl (fun y => ?_) hb hc rfl, ⟨h2.key, h2.len, hC⟩⟩
   show (mget (mput ll2 (x : Int) _) (y : Int)).getD 0 = _
   rw [getD_put]
   by_cases e : y = x
   ·subst e; rw [if_pos rfl, if_pos rfl]; rfl
   ·rw [if_neg (by omega), if_neg e]; rfl
  have hB : ∃ lb3, (br (decide ((mget lm2 (x : Int)).getD 0 < (mget ll2 ((tz r : Nat) : Int)).getD 0)) (some (mput lb2 (mi (x : Int) ((tz r : Nat) : Int), ma (x : Int) ((tz r : Nat) : Int)) true)) (some lb2)) = some lb3 ∧
    ∀ (C3 : Nat) (a b : Nat), (sg (lm2, ll2, lb3, C3)).b a b ↔ (sg (lm2, ll2, lb2, C2)).b a b ∨ ((sg (lm2, ll2, lb2, C2)).m x < (sg (lm2, ll2, lb2, C2)).lo (tz r) ∧ ((a = x ∧ b = tz r) ∨ (a = tz r ∧ b = x))) := by
   by_cases hl : (mget lm2 (x : Int)).getD 0 < (mget ll2 ((tz r : Nat) : Int)).getD 0
   ·refine ⟨_, br_dt hl _ _, fun C3 a b => ?_⟩
    show (mget (mput lb2 _ true) _).getD false = true ↔ _
    rw [getD_put]
    by_cases e : (mi (a : Int) (b : Int), ma (a : Int) (b : Int)) = (mi (x : Int) ((tz r : Nat) : Int), ma (x : Int) ((tz r : Nat) : Int))
    ·rw [if_pos e]
     exact ⟨fun _ => .inr ⟨hl, pair_eq.1 e⟩, fun _ => rfl⟩
    ·rw [if_neg e]
     exact ⟨.inl, fun h => h.elim id fun h => absurd (pair_eq.2 h.2) e⟩
   ·refine ⟨_, br_df hl _ _, fun C3 a b => ⟨.inl, fun h => h.elim id fun h => absurd h.1 hl⟩⟩
  obtain ⟨lb3, hb1, hb2⟩ := hB
  simp only [hb1, ob_s]
  have hfr : (∃ p, Fr1 f p) ↔ 0 ≤ f := by
   rcases hf with rfl | ⟨p, rfl⟩
   ·exact ⟨fun ⟨p, hp⟩ => by unfold Fr1 at hp; omega, fun h => by omega⟩
   ·exact ⟨fun _ => by omega, fun _ => ⟨p, rfl⟩⟩
  have hcond : br (decide (0 ≤ f)) (some (decide ((mget lm2 (x : Int)).getD 0 ≤ (mget ll2 ((tz r : Nat) : Int)).getD 0))) (some false) = some (decide (0 ≤ f ∧ (mget lm2 (x : Int)).getD 0 ≤ (mget ll2 ((tz r : Nat) : Int)).getD 0)) := by
   by_cases h : 0 ≤ f
   ·rw [br_dt h]; simp [h]
   ·rw [br_df h]; simp [h]
  simp only [hcond, ob_s]
  by_cases hcc : 0 ≤ f ∧ (mget lm2 (x : Int)).getD 0 ≤ (mget ll2 ((tz r : Nat) : Int)).getD 0
  ·rw [br_dt hcc, gd_dt (by omega)]
   rw [Int.toNat_natCast, word_one hx64, word_or C2lt (one_lt hx64)]
   have := fin lb3 (C2 ||| 2 ^ x) (or_lt' C2lt (one_lt hx64)) (hb2 _) fun a => by
    rw [Nat.testBit_or, Bool.or_eq_true, tb_one, decide_eq_true_eq]
    exact ⟨fun h => h.imp id fun h => ⟨h, hfr.2 hcc.1, hcc.2⟩, fun h => h.imp id fun h => h.1⟩
   exact ⟨_, rfl, this.1, this.2, h3⟩
  ·rw [br_df hcc]
   have := fin lb3 C2 C2lt (hb2 _) fun a => ⟨.inl, fun h => h.elim id fun h => absurd ⟨hfr.1 h.2.1, h.2.2⟩ hcc⟩
   exact ⟨_, rfl, this.1, this.2, h3⟩
theorem Dfs.LI.congr {A : Nat → Nat → Prop} {S' Act fr D D' : Nat → Prop} {n : Nat} {s0 s : Sg} {kids : Int} (h : LI A S' Act fr n s0 D s kids) (e : ∀ w, D w ↔ D' w) : LI A S' Act fr n s0 D' s kids := by
 have : D = D' := by funext w; exact propext (e w)
 rw [← this]; exact h
theorem R76_ok (n0 : Nat) (hok : Okay M es) (hL : AroundOk M es L) (hS : S < 2 ^ M) (hn0 : 64 < n0) : ∀ k, ∀ (s : Q4) (Act : Nat → Prop) (x : Nat) (f : Int), (f = -1 ∨ ∃ p : Nat, f = (p : Int)) → FI s → Pre (Ad es S) (InS S) Act (Fr1 f) x (sg s) → un s.1 < k →
  ∃ s', R76 n0 L S k s ((x : Int), f) = some s' ∧ FI s' ∧ un s'.1 ≤ un s.1 ∧ Post (Ad es S) (InS S) (Fr1 f) x (sg s) (sg s') := by
 intro k
 induction k with
 | zero => intro s Act x f _ _ _ h; exact absurd h (Nat.not_lt_zero _)
 | succ k ih =>
  intro s Act x f hf hF hp hu
  have hs := @Ad.symm es S
  have hi := @Ad.irr M es S hok
  have hxS : S.testBit x = true := hp.nS
  have hS64 := lt64 hS hok.le
  have hx64 : x < 64 := tb_lt hS64 hxS
  have hxM : x < M := tb_ltN hS hxS
  obtain ⟨w, hw1, hw2, hw3⟩ := hL.2 x hxM
  have hkey := hF.key x hp.new
  obtain ⟨lm, ll, lb, C⟩ := s
  have hun := un_put (l := lm) hx64 hkey ((lm.length : Int) + 1)
  have hlen := hF.len
  simp only at hlen hu hkey
  have hlm := len_mput lm (x : Int) ((lm.length : Int) + 1) hkey
  have hrec : VisitOk es S (R76 n0 L S k) k := ih
  show ∃ s', R76b n0 (R76 n0 L S k) L S (lm, ll, lb, C) ((x : Int), f) = some s' ∧ _
  have hwr : IntKind.wrap .i64 ((lm.length : Int) + 1) = (lm.length : Int) + 1 := wrap_in (by omega) (by omega)
  simp only [R76b, ob_s, hwr, getD_put, if_true]
  rw [inB_nat (by rw [hL.1]; exact hxM), gd_t]
  simp only [Int.toNat_natCast, hw1, ob_s, word_and hw2 hS64]
  have hstart := LI.start (s := sg (mput lm (x : Int) ((lm.length : Int) + 1), mput ll (x : Int) ((lm.length : Int) + 1), lb, C)) hp hs
   (fun y => by
    show (mget (mput lm (x : Int) _) (y : Int)).getD 0 = _
    rw [getD_put]
    by_cases e : y = x
    ·subst e; rw [if_pos rfl, if_pos rfl]; rfl
    ·rw [if_neg (by omega), if_neg e]; rfl)
   (fun y => by
    show (mget (mput ll (x : Int) _) (y : Int)).getD 0 = _
    rw [getD_put]
    by_cases e : y = x
    ·subst e; rw [if_pos rfl, if_pos rfl]; rfl
    ·rw [if_neg (by omega), if_neg e]; rfl) rfl rfl (by
    show ((mput lm (x : Int) ((lm.length : Int) + 1)).length : Int) = (lm.length : Int) + 1
    rw [hlm]; rfl)
  have hnb : ∀ i, (w &&& S).testBit i = true ↔ Ad es S x i := fun i => by
   rw [Nat.testBit_and, Bool.and_eq_true, hw3]
   exact ⟨fun h => ⟨h.1, hxS, h.2⟩, fun h => ⟨h.1, h.2.2⟩⟩
  have hlt : w &&& S < 2 ^ 64 := and_lt' hw2
  have hlp := lp_bitsI (body := L76_1 n0 f (x : Int) (R76 n0 L S k)) (fun (r : Nat) (s : L5) => (r, s)) id
   (fun r s => (∀ i, r.testBit i = true → (w &&& S).testBit i = true) ∧ LI (Ad es S) (InS S) Act (Fr1 f) x (sg (lm, ll, lb, C)) (fun y => Ad es S x y ∧ ¬ r.testBit y = true) (sg (q4 s)) s.2.2.2.2 ∧ FI (q4 s) ∧ un s.1 < un lm)
   (fun r s h0 hr hI => ?_) (fun s hI => ?_) n0 (w &&& S) (mput lm (x : Int) ((lm.length : Int) + 1), mput ll (x : Int) ((lm.length : Int) + 1), lb, C, (0 : Int)) hlt ?_ (by have := bitsOf_len (w &&& S); omega)
  ·obtain ⟨s', h1, h2⟩ := hlp
   obtain ⟨lm', ll', lb', C', kids⟩ := s'
   simp only [h1, ob_s, id_eq]
   obtain ⟨_, hI1, hI2, hI3⟩ := h2
   have hI1' := hI1.congr (D' := fun y => Ad es S x y) fun y => ⟨fun h => h.1, fun h => ⟨h, by rw [Nat.zero_testBit]; decide⟩⟩
   have C'lt : C' < 2 ^ 64 := hI2.cu
   have hfr : (¬ ∃ p, Fr1 f p) ↔ f < 0 := by
    rcases hf with rfl | ⟨p, rfl⟩
    ·exact ⟨fun _ => by decide, fun _ ⟨p, hp⟩ => by unfold Fr1 at hp; omega⟩
    ·exact ⟨fun h => absurd ⟨p, rfl⟩ h, fun h => by omega⟩
   have hcond : br (decide (f < 0)) (some (decide (1 < kids))) (some false) = some (decide (f < 0 ∧ 1 < kids)) := by
    by_cases h : f < 0
    ·rw [br_dt h]; simp [h]
    ·rw [br_df h]; simp [h]
   simp only [hcond, ob_s]
   by_cases hcc : f < 0 ∧ 1 < kids
   ·rw [br_dt hcc, gd_dt (by omega)]
    rw [word_one hx64, word_or C'lt (one_lt hx64)]
    refine ⟨_, rfl, ⟨hI2.key, hI2.len, or_lt' C'lt (one_lt hx64)⟩, ?_, hI1'.done hs hi hp (fun _ h => h) rfl rfl rfl (fun a => ?_) rfl⟩
    ·exact Nat.le_of_lt hI3
    ·show (C' ||| 2 ^ x).testBit a = true ↔ C'.testBit a = true ∨ _
     rw [Nat.testBit_or, Bool.or_eq_true, tb_one, decide_eq_true_eq]
     exact ⟨fun h => h.imp id fun h => ⟨h, hfr.2 hcc.1, hcc.2⟩, fun h => h.imp id fun h => h.1⟩
   ·rw [br_df hcc]
    refine ⟨_, rfl, ⟨hI2.key, hI2.len, C'lt⟩, ?_, hI1'.done hs hi hp (fun _ h => h) rfl rfl rfl (fun a => ⟨.inl, fun h => h.elim id fun h => absurd ⟨hfr.1 h.2.1, h.2.2⟩ hcc⟩) rfl⟩
    exact Nat.le_of_lt hI3
  ·obtain ⟨hsub, hI1, hI2, hI3⟩ := hI
   have ht := (tz_bit h0 hr).1
   have ha := (hnb _).1 (hsub _ ht)
   obtain ⟨s', g1, g2, g3, g4⟩ := L76_step n0 hok hS hrec hp h0 hr ha (fun h => h.2 ht) hI1 hI2 (by omega) hf
   refine ⟨s', g1, fun i hi => hsub i ?_, g2.congr fun y => ?_, g3, Nat.lt_of_le_of_lt g4 hI3⟩
   ·rw [clr_bit h0 hr] at hi; simp only [Bool.and_eq_true] at hi; exact hi.1
   ·rw [clr_bit h0 hr]
    constructor
    ·rintro (⟨h1, h2⟩ | rfl)
     ·exact ⟨h1, by simp [h2]⟩
     ·exact ⟨ha, by simp⟩
    ·rintro ⟨h1, h2⟩
     by_cases e : y = tz r
     ·exact .inr e
     ·refine .inl ⟨h1, fun h3 => h2 (by simp [h3, e])⟩
  ·simp only [L76_1]; rfl
  ·refine ⟨fun i hi => hi, hstart.congr fun y => ⟨fun h => h.elim, fun h => h.2 ((hnb y).2 h.1)⟩, ⟨fun y hy => ?_, ?_, hF.cu⟩, ?_⟩
   ·show mget (mput lm (x : Int) _) (y : Int) = none
    have hy' : (mget (mput lm (x : Int) ((lm.length : Int) + 1)) (y : Int)).getD 0 = 0 := hy
    rw [getD_put] at hy'
    rw [mget_mput]
    by_cases e : (y : Int) = (x : Int)
    ·rw [if_pos e] at hy'; omega
    ·rw [if_neg e] at hy' ⊢; exact hF.key y hy'
   ·show (mput lm (x : Int) _).length + un (mput lm (x : Int) _) = 64
    rw [hlm]; omega
   ·show un (mput lm (x : Int) _) < un lm
    omega
end
end Go.Proofs.YtpclggcpobakhaaDoor
end

section
namespace Go.Proofs.YtpclggcpobakhaaDoor
open Go Go.Ab Go.Ab.W
theorem ckF_fit {M : Nat} {es : List (Int × Int)} {x : Nat} (h : Okay M es) (hk : okG (M : Int) es = true) (hx : x < 2 ^ M) : ckF (M : Int) es x = 0 := by
 unfold ckF
 rw [if_pos hk, Int.toNat_natCast, if_neg (by omega)]
end Go.Proofs.YtpclggcpobakhaaDoor
end

section
namespace Go.Proofs.YtpclggcpobakhaaDoor
open Go Go.Ab Go.Ab.W Dfs
section
variable {M S : Nat} {es : List (Int × Int)} {L : List Nat}
structure TI (A : Nat → Nat → Prop) (S' : Nat → Prop) (s : Sg) : Prop extends Inv S' s where
 fin : ∀ w x, 0 < s.m w → A w x → 0 < s.m x
 bj : ∀ u w, 0 < s.m u → A u w → (s.b u w ↔ Bridge A u w)
 cj : ∀ u, 0 < s.m u → (s.cu u ↔ Cut A u)
theorem TI.pre {A : Nat → Nat → Prop} {S' : Nat → Prop} {s : Sg} (h : TI A S' s) {x : Nat} (hx : S' x) (h0 : s.m x = 0) : Pre A S' (fun _ => False) (Fr1 (-1)) x s :=
 { h.toInv with
  act := fun _ h => h.elim, conn := fun _ _ h => h.elim, fin := fun w y hw _ hwy => h.fin w y hw hwy, new := h0, nS := hx
  frA := fun p hp => by unfold Fr1 at hp; omega
  root := fun _ h => h.elim
  fr1 := fun p q hp => by unfold Fr1 at hp; omega }
theorem TI.post {A : Nat → Nat → Prop} {S' : Nat → Prop} {s s' : Sg} (h : TI A S' s) {x : Nat} (hp : Post A S' (Fr1 (-1)) x s s') : TI A S' s' ∧ (∀ y, 0 < s.m y → 0 < s'.m y) ∧ 0 < s'.m x := by
 have nofr : ∀ p, ¬ Fr1 (-1) p := fun p hp => by unfold Fr1 at hp; omega
 have mono : ∀ y, 0 < s.m y → 0 < s'.m y := fun y hy => by rw [hp.ext y hy]; exact hy
 refine ⟨{ hp.toInv with fin := fun w y hw hwy => ?_, bj := fun u w hu huw => ?_, cj := fun u hu => ?_ }, mono, by rw [hp.nn]; have := h.c0; omega⟩
 ·by_cases h0 : 0 < s.m w
  ·exact mono y (h.fin w y h0 hwy)
  ·exact hp.fin w y ⟨hw, h0⟩ hwy
 ·by_cases h0 : 0 < s.m u
  ·rw [hp.bo u w (fun a => a.2 h0) (fun a => a.2 (h.fin u w h0 huw))]; exact h.bj u w h0 huw
  ·exact hp.bj u w ⟨hu, h0⟩ huw fun e => nofr _ e.2
 ·by_cases h0 : 0 < s.m u
  ·rw [hp.co u (fun a => a.2 h0)]; exact h.cj u h0
  ·exact hp.cj u ⟨hu, h0⟩
def q5 (t : List ((Int × Int) × Bool) × Nat × List (Int × Int) × List (Int × Int)) : Q4 := (t.2.2.1, t.2.2.2, t.1, t.2.1)
theorem un_nil : un [] = 64 := by decide
theorem tears_ok (n : Nat) (hok : Okay M es) (hL : AroundOk M es L) (hS : S < 2 ^ M) (hn : 64 < n) :
  ∃ lb C lm ll, lpN (L18_1 n L S) n (S, [], 0, [], []) = some (lb, C, lm, ll) ∧ C < 2 ^ 64 ∧ (∀ v, C.testBit v = true ↔ S.testBit v = true ∧ Cut (Ad es S) v) ∧
   (∀ a b : Nat, a < b → ((mget lb ((a : Int), (b : Int))).getD false = true → S.testBit a = true ∧ S.testBit b = true)) ∧
   ∀ a b : Nat, a < b → Ad es S a b → ((mget lb ((a : Int), (b : Int))).getD false = true ↔ Bridge (Ad es S) a b) := by
 have hS64 := lt64 hS hok.le
 have hlp := lp_bitsI (body := L18_1 n L S) (fun (r : Nat) (s : List ((Int × Int) × Bool) × Nat × List (Int × Int) × List (Int × Int)) => (r, s)) id
  (fun r s => (∀ i, r.testBit i = true → S.testBit i = true) ∧ TI (Ad es S) (InS S) (sg (q5 s)) ∧ FI (q5 s) ∧ ∀ i, S.testBit i = true → ¬ r.testBit i = true → 0 < (sg (q5 s)).m i)
  (fun r s h0 hr hI => ?_) (fun s hI => ?_) n S ([], 0, [], []) hS64 ?_ (by have := bitsOf_len S; omega)
 ·obtain ⟨⟨lb, C, lm, ll⟩, h1, _, h3, h4, h5⟩ := hlp
  have vis : ∀ i, S.testBit i = true → 0 < (sg (q5 (lb, C, lm, ll))).m i := fun i hi => h5 i hi (by rw [Nat.zero_testBit]; decide)
  have mii : ∀ a b : Nat, a < b → mi (a : Int) (b : Int) = a ∧ ma (a : Int) (b : Int) = b := fun a b h => by unfold mi ma; constructor <;> split <;> omega
  refine ⟨lb, C, lm, ll, h1, h4.cu, fun v => ⟨fun h => ?_, fun h => (h3.cj v (vis v h.1)).2 h.2⟩, fun a b hab h => ?_, fun a b hab hA => ?_⟩
  ·have hv := h3.cv v h
   exact ⟨h3.inS v hv, (h3.cj v hv).1 h⟩
  ·have hb : (sg (q5 (lb, C, lm, ll))).b a b := by
    show (mget lb (mi (a : Int) (b : Int), ma (a : Int) (b : Int))).getD false = true
    rw [(mii a b hab).1, (mii a b hab).2]; exact h
   exact ⟨h3.inS a (h3.bv a b hb), h3.inS b (h3.bv b a (h3.bs a b hb))⟩
  ·have := h3.bj a b (vis a hA.2.1) hA
   rw [← this]
   show _ ↔ (mget lb (mi (a : Int) (b : Int), ma (a : Int) (b : Int))).getD false = true
   rw [(mii a b hab).1, (mii a b hab).2]
 ·obtain ⟨hsub, hT, hF, hd⟩ := hI
  obtain ⟨lb, C, lm, ll⟩ := s
  have ht := (tz_bit h0 hr).1
  have htS := hsub _ ht
  simp only [L18_1]
  rw [show (!decide (r = 0)) = true by simp; omega, br_t]
  simp only [F42_eq hr, ob_s]
  refine ob_step (α := List ((Int × Int) × Bool) × Nat × List (Int × Int) × List (Int × Int)) (G := fun s' => (Sum.inl (clr r, s') : (Nat × List ((Int × Int) × Bool) × Nat × List (Int × Int) × List (Int × Int)) ⊕ (List ((Int × Int) × Bool) × Nat × List (Int × Int) × List (Int × Int)))) (fun a => rfl) ?_
  have hsub' : ∀ i, (clr r).testBit i = true → S.testBit i = true := fun i hi => hsub i (by rw [clr_bit h0 hr] at hi; simp only [Bool.and_eq_true] at hi; exact hi.1)
  have hrest : ∀ i, ¬ (clr r).testBit i = true → ¬ r.testBit i = true ∨ i = tz r := fun i hi => by
   rw [clr_bit h0 hr] at hi
   by_cases e : i = tz r
   ·exact .inr e
   ·exact .inl fun h => hi (by simp [h, e])
  have hpos := hT.pos (tz r)
  have hm : (sg (q5 (lb, C, lm, ll))).m (tz r) = (mget lm ((tz r : Nat) : Int)).getD 0 := rfl
  by_cases hz : (mget lm ((tz r : Nat) : Int)).getD 0 = 0
  ·rw [br_dt hz]
   obtain ⟨s', g1, g2, g3, g4⟩ := R76_ok n hok hL hS hn n (lm, ll, lb, C) _ (tz r) (-1) (.inl rfl) hF (hT.pre htS (hm.trans hz)) (by
    have := hF.len
    have e : (q5 (lb, C, lm, ll)).1 = lm := rfl
    rw [e] at this
    show un lm < n
    omega)
   obtain ⟨lm', ll', lb', C'⟩ := s'
   obtain ⟨k1, k2, k3⟩ := hT.post g4
   rw [g1]
   refine ⟨(lb', C', lm', ll'), rfl, hsub', k1, g2, fun i hi hni => ?_⟩
   rcases hrest i hni with h | rfl
   ·exact k2 i (hd i hi h)
   ·exact k3
  ·rw [br_df hz]
   refine ⟨(lb, C, lm, ll), rfl, hsub', hT, hF, fun i hi hni => ?_⟩
   rcases hrest i hni with h | rfl
   ·exact hd i hi h
   ·rw [hm]; rw [hm] at hpos; omega
 ·simp only [L18_1]; rfl
 ·have m0 : ∀ x, ¬ (0 : Int) < (sg (q5 ([], 0, [], []))).m x := fun x h => (by simp [sg, q5, mget, mfind] at h)
  refine ⟨fun i hi => hi, { pos := fun x => ?_, inS := fun x hx => absurd hx (m0 x), bs := fun x y hb => ?_, bv := fun x y hb => ?_, cv := fun x hb => ?_, fin := fun w x hw => absurd hw (m0 w), bj := fun u w hu => absurd hu (m0 u), cj := fun u hu => absurd hu (m0 u) }, ⟨fun x _ => rfl, ?_, by show (0 : Nat) < 2 ^ 64; decide⟩, fun i hi hni => absurd hi hni⟩
  ·simp [sg, q5, mget, mfind]
  ·simp [sg, q5, mget, mfind] at hb
  ·simp [sg, q5, mget, mfind] at hb
  ·simp [sg, q5] at hb
  ·show ([] : List (Int × Int)).length + un [] = 64
   rw [un_nil]; rfl
theorem filt_loop {n N : Nat} {es : List (Int × Int)} (h : Okay N es) (p : Int × Int → Bool) (body : (List (Int × Int) × Int) → Option ((List (Int × Int) × Int) ⊕ (List (Int × Int))))
  (hb : ∀ (s : List (Int × Int)) (k a b : Nat), es[k]? = some ((a : Int), (b : Int)) → a < b → b < N → s.length ≤ k → k < 200 → body (s, (k : Int)) = some (.inl ((if p ((a : Int), (b : Int)) then s ++ [((a : Int), (b : Int))] else s), ((k + 1 : Nat) : Int)))) (he : ∀ s, body (s, (es.length : Int)) = some (.inr s)) (hn : 200 < n) :
  lpN body n ([], 0) = some (es.filter p) := by
 have hN := h.le
 have hlen := h.len
 have := lp_list0 (body := body) es (fun (s : List (Int × Int)) (v : Int) => (s, v)) (fun s e => if p e then s ++ [e] else s) id (fun k s => s.length ≤ k ∧ s = (es.take k).filter p) (fun s k e he' hI => ?_) (fun s _ => he s) (n := n) (s := []) ⟨by simp, by simp⟩ (by omega)
 ·obtain ⟨h1, h2, h3⟩ := this
  rw [h1, h3, List.take_length]; rfl
 ·have hi : k < es.length := (List.getElem?_eq_some_iff.1 he').1
  obtain ⟨a, b, rfl, hab, hbN⟩ := h.mem e (List.mem_of_getElem? he')
  have htk : es.take (k + 1) = es.take k ++ [((a : Int), (b : Int))] := by rw [List.take_add_one, he']; rfl
  refine ⟨hb s k a b he' hab hbN hI.1 (by omega), ?_, ?_⟩
  ·split
   ·simp; have := hI.1; omega
   ·have := hI.1; omega
  ·rw [htk, List.filter_append, ← hI.2]
   by_cases hc : p ((a : Int), (b : Int)) = true
   ·rw [if_pos hc, List.filter_cons_of_pos hc]; rfl
   ·rw [if_neg hc, List.filter_cons_of_neg hc]; simp
def IsBr (es : List (Int × Int)) (S : Nat) (e : Int × Int) : Prop := S.testBit e.1.toNat = true ∧ S.testBit e.2.toNat = true ∧ Bridge (Ad es S) e.1.toNat e.2.toNat
theorem F18_ok (n : Nat) (hok : Okay M es) (hg : okG (M : Int) es = true) (hS : S < 2 ^ M) (hn : 200 < n) : ∃ p : Int × Int → Bool, F18 n (M : Int) es S = some (es.filter p, 0) ∧ ∀ e ∈ es, p e = true ↔ IsBr es S e := by
 have hlen := hok.len
 have hS64 := lt64 hS hok.le
 obtain ⟨L, hL1, hL2⟩ := F75_eq n M es hok hn
 obtain ⟨lb, C, lm, ll, h1, h2, h3, h4, h5⟩ := tears_ok n hok hL2 hS (by omega)
 refine ⟨fun e => (mget lb e).getD false, ?_, fun e he => ?_⟩
 ·unfold F18
  rw [F55_eq n _ _ _ hS64 (by omega) (by omega) (by omega), ob_s, ckF_fit hok hg hS]
  simp only [decide_true, Bool.not_true, br_f, hL1, ob_s, h1]
  rw [filt_loop hok (fun e => (mget lb e).getD false) (L18_2 n es lb) (fun s k a b he hab hb hs hk => ?_) (fun s => ?_) hn, ob_s]
  ·have hi : k < es.length := (List.getElem?_eq_some_iff.1 he).1
   simp only [L18_2, Int.toNat_natCast, he, ob_s, inB_nat hi, gd_t, wrap_succ (show k < 4611686018427387904 by omega)]
   rw [br_dt (by omega)]
   rcases Bool.eq_false_or_eq_true ((mget lb ((a : Int), (b : Int))).getD false) with hc | hc
   ·simp only [hc, br_t, if_true]
    rw [lim_of (by simp; omega), gd_t, ob_s]
   ·simp only [hc, br_f, ob_s, Bool.false_eq_true, if_false]
  ·simp only [L18_2]
   rw [br_df (by omega)]
 ·obtain ⟨a, b, rfl, hab, hb⟩ := hok.mem e he
  simp only [IsBr, Int.toNat_natCast]
  constructor
  ·intro hp
   obtain ⟨ha, hb'⟩ := h4 a b hab hp
   exact ⟨ha, hb', (h5 a b hab ⟨.inl he, ha, hb'⟩).1 hp⟩
  ·rintro ⟨ha, hb', hB⟩
   exact (h5 a b hab ⟨.inl he, ha, hb'⟩).2 hB
theorem F19_ok (n : Nat) (hok : Okay M es) (hg : okG (M : Int) es = true) (hS : S < 2 ^ M) (hn : 200 < n) : ∃ C, F19 n (M : Int) es S = some (C, 0) ∧ C < 2 ^ 64 ∧ ∀ v, C.testBit v = true ↔ S.testBit v = true ∧ Cut (Ad es S) v := by
 have hlen := hok.len
 have hS64 := lt64 hS hok.le
 obtain ⟨L, hL1, hL2⟩ := F75_eq n M es hok hn
 obtain ⟨lb, C, lm, ll, h1, h2, h3, h4, h5⟩ := tears_ok n hok hL2 hS (by omega)
 have h1' : lpN (L19_1 n L S) n (S, [], 0, [], []) = some (lb, C, lm, ll) := h1
 refine ⟨C, ?_, h2, h3⟩
 unfold F19
 rw [F55_eq n _ _ _ hS64 (by omega) (by omega) (by omega), ob_s, ckF_fit hok hg hS]
 simp only [decide_true, Bool.not_true, br_f, hL1, ob_s, h1']
end
end Go.Proofs.YtpclggcpobakhaaDoor
end

section
namespace Go.Proofs.YtpclggcpobakhaaDoor
open Go Go.Ab Go.Ab.W Dfs
section
variable {M S S' : Nat} {es es' : List (Int × Int)}
def Less (S S' v : Nat) : Prop := ∀ j, S'.testBit j = true ↔ S.testBit j = true ∧ j ≠ v
theorem rp_less {v i j : Nat} (hl : Less S S' v) (h : RP (Ad es S) (fun x => x ≠ v) i j) : Rch es S' i j := by
 induction h with
 | refl => exact .refl
 | step _ ha hk ih => exact .step ih ha.1 ((hl _).2 ⟨ha.2.2, hk⟩)
theorem less_rp {v i j : Nat} (hl : Less S S' v) (h : Rch es S' i j) (hi : S'.testBit i = true) : RP (Ad es S) (fun x => x ≠ v) i j := by
 induction h with
 | refl => exact .refl
 | step h' ha hk ih => exact .step ih ⟨ha, ((hl _).1 (h'.mem hi)).1, ((hl _).1 hk).1⟩ ((hl _).1 hk).2
def Lesse (es es' : List (Int × Int)) (a b : Nat) : Prop := ∀ x y, adj es' x y ↔ adj es x y ∧ ¬ (x = a ∧ y = b) ∧ ¬ (x = b ∧ y = a)
theorem bridge_rch {a b : Nat} (hl : Lesse es es' a b) (ha : S.testBit a = true) : Bridge (Ad es S) a b ↔ ¬ Rch es' S a b := by
 have k1 : ∀ j, RP (cutE (Ad es S) a b) (fun _ => True) a j → Rch es' S a j := fun j h => by
  induction h with
  | refl => exact .refl
  | step _ hx _ ih => exact .step ih ((hl _ _).2 ⟨hx.1.1, hx.2⟩) hx.1.2.2
 have k2 : ∀ j, Rch es' S a j → RP (cutE (Ad es S) a b) (fun _ => True) a j := fun j h => by
  induction h with
  | refl => exact .refl
  | step h' hx hk ih =>
   have := (hl _ _).1 hx
   exact .step ih ⟨⟨this.1, h'.mem ha, hk⟩, this.2⟩ trivial
 exact ⟨fun h h' => h (k2 b h'), fun h h' => h (k1 b h')⟩
def Ldr (es : List (Int × Int)) (S j : Nat) : Prop := S.testBit j = true ∧ ∀ k, Rch es S j k → j ≤ k
noncomputable def ldB (es : List (Int × Int)) (S j : Nat) : Bool := @decide (Ldr es S j) (Classical.propDecidable _)
theorem ldB_t {j : Nat} : ldB es S j = true ↔ Ldr es S j := by
 unfold ldB
 exact @decide_eq_true_iff _ (Classical.propDecidable _)
theorem least (P : Nat → Prop) : ∀ n, P n → ∃ m, P m ∧ ∀ k, P k → m ≤ k := by
 intro n
 induction n using Nat.strongRecOn with
 | _ n ih =>
  intro h
  by_cases hx : ∃ k, P k ∧ k < n
  ·obtain ⟨k, h1, h2⟩ := hx
   exact ih k h2 h1
  ·exact ⟨n, h, fun k hk => Nat.le_of_not_lt fun hlt => hx ⟨k, hk, hlt⟩⟩
theorem ldr_of {i : Nat} (hi : S.testBit i = true) : ∃ j, Rch es S i j ∧ Ldr es S j := by
 obtain ⟨j, h1, h2⟩ := least (fun j => Rch es S i j) i .refl
 exact ⟨j, h1, h1.mem hi, fun k hk => h2 k (h1.trans hk)⟩
theorem ldr_one {i j : Nat} (hi : Ldr es S i) (hj : Ldr es S j) (h : Rch es S i j) : i = j := Nat.le_antisymm (hi.2 j h) (hj.2 i (h.symm hi.1))
theorem Cs.count : ∀ {r : Nat} {L : List Nat}, Cs es S r L → (∀ j, r.testBit j = true → S.testBit j = true) → (∀ j k, r.testBit j = true → Rch es S j k → r.testBit k = true) → L.length = ((List.range 64).filter fun j => r.testBit j && ldB es S j).length := by
 intro r L h
 induction h with
 | nil => intro _ _; rw [List.filter_eq_nil_iff.2 (fun j _ => by simp)]
 | @cons r u L h0 hr hu t ih =>
  intro hs hc
  have hb := (tz_bit h0 hr).1
  have hlow := (tz_bit h0 hr).2
  have hsub : ∀ j, u.testBit j = true → r.testBit j = true := fun j hj => hc _ _ hb ((hu.2 j).1 hj)
  have hrest : ∀ j, (uandn .u64 r u).testBit j = true ↔ r.testBit j = true ∧ u.testBit j = false := fun j => by
   rw [tb_andn hr hu.1, Bool.and_eq_true, Bool.not_eq_true']
  have := ih (fun j hj => hs j ((hrest j).1 hj).1) fun j k hj hjk => by
   obtain ⟨h1, h2⟩ := (hrest j).1 hj
   refine (hrest k).2 ⟨hc j k h1 hjk, ?_⟩
   cases e : u.testBit k with
   | false => rfl
   | true =>
    have := (hu.2 j).2 (((hu.2 k).1 e).trans (hjk.symm (hs j h1)))
    rw [h2] at this; cases this
  rw [List.length_cons, this]
  have lt : Ldr es S (tz r) := ⟨hs _ hb, fun k hk => Nat.le_of_not_lt fun hlt => by
   have := hlow k hlt
   rw [hc _ _ hb hk] at this; cases this⟩
  refine filter_less (a := tz r) List.nodup_range (List.mem_range.2 (tb_lt hr hb)) (by rw [hb, ldB_t.2 lt]; rfl) fun j => ?_
  have iff : ((uandn .u64 r u).testBit j && ldB es S j) = true ↔ ((r.testBit j && ldB es S j) && !decide (j = tz r)) = true := by
   simp only [Bool.and_eq_true, Bool.not_eq_true', decide_eq_false_iff_not, hrest, ldB_t]
   constructor
   ·rintro ⟨⟨h1, h2⟩, h3⟩
    refine ⟨⟨h1, h3⟩, fun e => ?_⟩
    rw [e, (hu.2 _).2 .refl] at h2; cases h2
   ·rintro ⟨⟨h1, h3⟩, h4⟩
    refine ⟨⟨h1, ?_⟩, h3⟩
    cases e : u.testBit j with
    | false => rfl
    | true => exact absurd (ldr_one lt h3 ((hu.2 j).1 e)).symm h4
  exact Bool.eq_iff_iff.2 iff
theorem Cs.count0 {L : List Nat} (h : Cs es S S L) : L.length = ((List.range 64).filter fun j => ldB es S j).length := by
 rw [h.count (fun _ h => h) fun j k hj h => h.mem hj]
 congr 1
 refine List.filter_congr fun j _ => ?_
 cases e : ldB es S j with
 | false => simp
 | true => rw [(ldB_t.1 e).1]; rfl
theorem filter_split (p q : Nat → Bool) : ∀ l : List Nat, (l.filter p).length = (l.filter fun j => p j && q j).length + (l.filter fun j => p j && !q j).length
 | [] => rfl
 | x :: l => by
  have := filter_split p q l
  cases hp : p x <;> cases hq : q x <;> simp [List.filter_cons, hp, hq] <;> omega
theorem filter_one (p : Nat → Bool) : ∀ l : List Nat, l.Nodup → (∀ i j, p i = true → p j = true → i = j) → (l.filter p).length ≤ 1
 | [], _, _ => Nat.zero_le _
 | x :: l, hd, h => by
  rw [List.nodup_cons] at hd
  cases hp : p x with
  | false => rw [List.filter_cons_of_neg (by simp [hp])]; exact filter_one p l hd.2 h
  | true =>
   have : l.filter p = [] := List.filter_eq_nil_iff.2 fun y hy hpy => hd.1 (by rw [h x y hp hpy]; exact hy)
   rw [List.filter_cons_of_pos hp, this]; simp
theorem filter_two (p : Nat → Bool) {i j : Nat} (hne : i ≠ j) (hi : p i = true) (hj : p j = true) : ∀ l : List Nat, i ∈ l → j ∈ l → 2 ≤ (l.filter p).length
 | [], h, _ => by cases h
 | x :: l, h1, h2 => by
  have mem : ∀ {y : Nat}, y ∈ l → p y = true → 1 ≤ (l.filter p).length := fun hy hp => List.length_pos_of_mem (List.mem_filter.2 ⟨hy, hp⟩)
  rcases List.mem_cons.1 h1 with rfl | g1
  ·rcases List.mem_cons.1 h2 with e | g2
   ·exact absurd e.symm hne
   ·rw [List.filter_cons_of_pos hi, List.length_cons]; have := mem g2 hj; omega
  ·rcases List.mem_cons.1 h2 with rfl | g2
   ·rw [List.filter_cons_of_pos hj, List.length_cons]; have := mem g1 hi; omega
   ·have := filter_two p hne hi hj l g1 g2
    cases hp : p x with
    | false => rw [List.filter_cons_of_neg (by simp [hp])]; exact this
    | true => rw [List.filter_cons_of_pos hp, List.length_cons]; omega
noncomputable def inC (es : List (Int × Int)) (S v j : Nat) : Bool := @decide (Rch es S v j) (Classical.propDecidable _)
theorem inC_t {v j : Nat} : inC es S v j = true ↔ Rch es S v j := by
 unfold inC
 exact @decide_eq_true_iff _ (Classical.propDecidable _)
theorem less_sub {v i j : Nat} (hl : Less S S' v) (h : Rch es S' i j) : Rch es S i j := by
 induction h with
 | refl => exact .refl
 | step _ hx hk ih => exact .step ih hx ((hl _).1 hk).1
theorem last_leave {v j : Nat} (hl : Less S S' v) (hv : S.testBit v = true) (h : Rch es S v j) : j = v ∨ ∃ a, Ad es S v a ∧ (a ≠ v → Rch es S' a j) ∧ (a = v → j = v) := by
 induction h with
 | refl => exact .inl rfl
 | @step j k h' ha hk ih =>
  by_cases e : k = v
  ·exact .inl e
  ·rcases ih with rfl | ⟨a, h1, h2, h3⟩
   ·exact .inr ⟨k, ⟨ha, hv, hk⟩, fun _ => .refl, fun e' => absurd e' e⟩
   ·by_cases ea : a = v
    ·have ej := h3 ea
     subst ej
     exact .inr ⟨k, ⟨ha, hv, hk⟩, fun _ => .refl, fun e' => absurd e' e⟩
    ·exact .inr ⟨a, h1, fun _ => .step (h2 ea) ha ((hl k).2 ⟨hk, e⟩), fun e' => absurd e' ea⟩
theorem node_count {v : Nat} {L L' : List Nat} (hok : Okay M es) (hS : S < 2 ^ 64) (hl : Less S S' v) (hv : S.testBit v = true) (h : Cs es S S L) (h' : Cs es S' S' L') : L.length < L'.length ↔ Cut (Ad es S) v := by
 rw [h.count0, h'.count0, filter_split (fun j => ldB es S j) (inC es S v), filter_split (fun j => ldB es S' j) (inC es S v)]
 have hirr := @Ad.irr M es S hok
 have away : ∀ {i j : Nat}, Rch es S i j → S.testBit i = true → ¬ Rch es S v i → Rch es S' i j ∧ ¬ Rch es S v j := fun {i j} hij hi hn => by
  induction hij with
  | refl => exact ⟨.refl, hn⟩
  | @step j k h1 h2 h3 ih =>
   have hjS : S.testBit j = true := h1.mem hi
   have hk : ¬ Rch es S v k := fun hk => ih.2 (hk.trans (.step .refl (adj_symm h2) hjS))
   exact ⟨.step ih.1 h2 ((hl _).2 ⟨h3, fun e => hk (e ▸ .refl)⟩), hk⟩
 have e2 : ((List.range 64).filter fun j => ldB es S j && !inC es S v j) = ((List.range 64).filter fun j => ldB es S' j && !inC es S v j) := List.filter_congr fun j _ => by
  cases hc : inC es S v j with
  | true => simp
  | false =>
   have hn : ¬ Rch es S v j := fun h => by rw [inC_t.2 h] at hc; cases hc
   simp only [Bool.not_false, Bool.and_true]
   have : ldB es S j = true ↔ ldB es S' j = true := by
    rw [ldB_t, ldB_t]
    constructor
    ·rintro ⟨h1, h2⟩
     exact ⟨(hl j).2 ⟨h1, fun e => hn (e ▸ .refl)⟩, fun k hk => h2 k (less_sub hl hk)⟩
    ·rintro ⟨h1, h2⟩
     have h1' := ((hl j).1 h1).1
     exact ⟨h1', fun k hk => h2 k (away hk h1' hn).1⟩
   cases a : ldB es S j <;> cases b : ldB es S' j <;> simp_all
 rw [e2]
 obtain ⟨c, rc, lc⟩ := ldr_of (es := es) hv
 have one : ((List.range 64).filter fun j => ldB es S j && inC es S v j).length = 1 := by
  refine Nat.le_antisymm (filter_one _ _ List.nodup_range fun i j hi hj => ?_) (List.length_pos_of_mem (List.mem_filter.2 ⟨List.mem_range.2 (tb_lt hS lc.1), by rw [ldB_t.2 lc, inC_t.2 rc]; rfl⟩))
  simp only [Bool.and_eq_true, ldB_t, inC_t] at hi hj
  exact ldr_one hi.1 hj.1 ((hi.2.symm hv).trans hj.2)
 rw [one]
 constructor
 ·intro hlt
  apply Classical.byContradiction
  intro hcut
  have : ((List.range 64).filter fun j => ldB es S' j && inC es S v j).length ≤ 1 := filter_one _ _ List.nodup_range fun i j hi hj => by
   simp only [Bool.and_eq_true, ldB_t, inC_t] at hi hj
   have near : ∀ {i : Nat}, Ldr es S' i → Rch es S v i → ∃ a, Ad es S v a ∧ a ≠ v ∧ Rch es S' a i := fun {i} h1 h2 => by
    have hiv := ((hl i).1 h1.1).2
    rcases last_leave hl hv h2 with e | ⟨a, g1, g2, g3⟩
    ·exact absurd e hiv
    ·have ea : a ≠ v := (ne_of hirr g1).symm
     exact ⟨a, g1, ea, g2 ea⟩
   obtain ⟨a, a1, a2, a3⟩ := near hi.1 hi.2
   obtain ⟨b, b1, b2, b3⟩ := near hj.1 hj.2
   have hab : Rch es S' a b := by
    apply Classical.byContradiction
    intro hn
    exact hcut ⟨a, b, a1, b1, fun hr => hn (rp_less hl hr)⟩
   have haS : S'.testBit a = true := (hl a).2 ⟨a1.2.2, a2⟩
   exact ldr_one hi.1 hj.1 ((a3.symm haS).trans (hab.trans b3))
  omega
 ·rintro ⟨a, b, ha, hb, hn⟩
  have ea : a ≠ v := (ne_of hirr ha).symm
  have eb : b ≠ v := (ne_of hirr hb).symm
  have haS : S'.testBit a = true := (hl a).2 ⟨ha.2.2, ea⟩
  have hbS : S'.testBit b = true := (hl b).2 ⟨hb.2.2, eb⟩
  obtain ⟨ja, ra, la⟩ := ldr_of (es := es) haS
  obtain ⟨jb, rb, lb⟩ := ldr_of (es := es) hbS
  have hne : ja ≠ jb := fun e => hn (less_rp hl (ra.trans (by rw [e]; exact rb.symm hbS)) haS)
  have two := filter_two (fun j => ldB es S' j && inC es S v j) hne
   (by rw [ldB_t.2 la, inC_t.2 ((Rch.step .refl ha.1 ha.2.2).trans (less_sub hl ra))]; rfl)
   (by rw [ldB_t.2 lb, inC_t.2 ((Rch.step .refl hb.1 hb.2.2).trans (less_sub hl rb))]; rfl)
   (List.range 64) (List.mem_range.2 (tb_lt hS ((hl ja).1 la.1).1)) (List.mem_range.2 (tb_lt hS ((hl jb).1 lb.1).1))
  omega
end
end Go.Proofs.YtpclggcpobakhaaDoor
end

section
namespace Go.Proofs.YtpclggcpobakhaaDoor
open Go Go.Ab Go.Ab.W Dfs
section
variable {M S : Nat} {es : List (Int × Int)}
theorem okE_gt {N : Int} : ∀ {es : List (Int × Int)} {p : Int × Int}, okEp N p es = true → ∀ e ∈ es, p.1 < e.1 ∨ p.1 = e.1 ∧ p.2 < e.2
 | [], _, _, _, h => by cases h
 | f :: es, p, h, e, he => by
  rw [okE_cons, Bool.and_eq_true] at h
  unfold stepOk at h
  simp only [Bool.and_eq_true, decide_eq_true_eq] at h
  rcases List.mem_cons.1 he with rfl | he
  ·exact h.1.2
  ·have := okE_gt h.2 e he
   have := h.1.2
   omega
theorem okE_nodup {N : Int} : ∀ {es : List (Int × Int)} {p : Int × Int}, okEp N p es = true → es.Nodup
 | [], _, _ => .nil
 | f :: es, p, h => by
  rw [okE_cons, Bool.and_eq_true] at h
  exact List.nodup_cons.2 ⟨fun hf => by have := okE_gt h.2 f hf; omega, okE_nodup h.2⟩
theorem split_at {k : Nat} {e : Int × Int} (h : es[k]? = some e) : es = es.take k ++ e :: es.drop (k + 1) := by
 obtain ⟨hk, he⟩ := List.getElem?_eq_some_iff.1 h
 have := List.take_append_drop k es
 rw [List.drop_eq_getElem_cons hk, he] at this
 exact this.symm
theorem lesse_of {k a b : Nat} (hok : Okay M es) (hg : okG (M : Int) es = true) (h : es[k]? = some ((a : Int), (b : Int))) : Lesse es (es.take k ++ es.drop (k + 1)) a b := by
 have hs := split_at h
 have hnd : es.Nodup := by
  unfold okG at hg
  rw [Bool.and_eq_true] at hg
  exact okE_nodup hg.2
 have hmem : ∀ f, f ∈ es.take k ++ es.drop (k + 1) ↔ f ∈ es ∧ f ≠ ((a : Int), (b : Int)) := fun f => by
  have e1 : f ∈ es ↔ f ∈ es.take k ∨ f = ((a : Int), (b : Int)) ∨ f ∈ es.drop (k + 1) := by
   constructor
   ·intro hf
    rw [hs] at hf
    simpa using hf
   ·intro hf
    rw [hs]
    simpa using hf
  have hnd' : (es.take k ++ ((a : Int), (b : Int)) :: es.drop (k + 1)).Nodup := hs ▸ hnd
  rw [List.nodup_append] at hnd'
  obtain ⟨_, n2, n3⟩ := hnd'
  rw [List.nodup_cons] at n2
  rw [e1, List.mem_append]
  constructor
  ·rintro (hf | hf)
   ·exact ⟨.inl hf, fun e => n3 f hf _ (List.mem_cons_self ..) e⟩
   ·exact ⟨.inr (.inr hf), fun e => n2.1 (e ▸ hf)⟩
  ·rintro ⟨hf | hf | hf, hne⟩
   ·exact .inl hf
   ·exact absurd hf hne
   ·exact .inr hf
 have hab : a < b := by
  obtain ⟨a', b', e, h1, _⟩ := hok.mem _ (List.mem_of_getElem? h)
  simp only [Prod.mk.injEq] at e; omega
 intro x y
 unfold adj
 rw [hmem, hmem]
 constructor
 ·rintro (⟨h1, h2⟩ | ⟨h1, h2⟩)
  ·refine ⟨.inl h1, fun e => h2 (by rw [e.1, e.2]), fun e => ?_⟩
   obtain ⟨x', y', e', hxy, _⟩ := hok.mem _ h1
   simp only [Prod.mk.injEq] at e'; omega
  ·refine ⟨.inr h1, fun e => ?_, fun e => h2 (by rw [e.1, e.2])⟩
   obtain ⟨x', y', e', hxy, _⟩ := hok.mem _ h1
   simp only [Prod.mk.injEq] at e'; omega
 ·rintro ⟨h1 | h1, h2, h3⟩
  ·exact .inl ⟨h1, fun e => h2 (by simp only [Prod.mk.injEq] at e; omega)⟩
  ·exact .inr ⟨h1, fun e => h3 (by simp only [Prod.mk.injEq] at e; omega)⟩
theorem less_andn (hS : S < 2 ^ 64) {v : Nat} (hv : v < 64) : Less S (uandn .u64 S (2 ^ v)) v := fun j => by
 rw [tb_andn hS (one_lt hv), tb_one]
 simp
theorem decide_lt (a b : Nat) : decide ((a : Int) < (b : Int)) = decide (a < b) := by
 by_cases h : a < b
 ·rw [decide_eq_true h, decide_eq_true (by omega)]
 ·rw [decide_eq_false h, decide_eq_false (by omega)]
end
end Go.Proofs.YtpclggcpobakhaaDoor
end

section
namespace Go.Proofs.YtpclggcpobakhaaDoor
open Go Go.Ab Go.Ab.W Dfs
section
variable {M S : Nat} {es : List (Int × Int)}
theorem L71_but (n : Nat) (es : List (Int × Int)) (q S v k a b : Nat) (hS : S < 2 ^ 64) (hv : v < 2 ^ 64) (he : es[k]? = some ((a : Int), (b : Int))) (ha : a < 64) (hb : b < 64) (hk : k < 200) :
  L71_1 n es (q : Int) S (v, (k : Int)) = some (.inl ((if k = q then v else rnd1 S v ((a : Int), (b : Int))), ((k + 1 : Nat) : Int))) := by
 have hlt : k < es.length := (List.getElem?_eq_some_iff.1 he).1
 have h1 : uw .u64 (uw .u64 (uw .u64 (uw .u64 v ||| uw .u64 (2 ^ a))) ||| uw .u64 (2 ^ b)) = v ||| 2 ^ a ||| 2 ^ b := by rw [word_or hv (one_lt ha), word_or (or_lt' hv (one_lt ha)) (one_lt hb)]
 unfold L71_1
 simp only [Int.toNat_natCast, he, ob_s, F67_eq n S a hS ha, F67_eq n S b hS hb, F67_eq n v a hv ha, F67_eq n v b hv hb, F68_eq n a ha, F68_eq n b hb, inB_nat hlt, gd_t, wrap_succ (show k < 4611686018427387904 by omega), h1]
 rw [br_dt (by omega)]
 by_cases hq : k = q
 ·have hne : (!decide ((k : Int) = (q : Int))) = false := by rw [decide_eq_true (by omega)]; rfl
  simp only [hne, br_f, ob_s, if_pos hq]
 ·have hne : (!decide ((k : Int) = (q : Int))) = true := by rw [decide_eq_false (by omega)]; rfl
  simp only [hne, br_t, if_neg hq]
  unfold rnd1
  simp only [Int.toNat_natCast]
  rcases Bool.eq_false_or_eq_true (S.testBit a) with e1 | e1 <;> rcases Bool.eq_false_or_eq_true (S.testBit b) with e2 | e2 <;> rcases Bool.eq_false_or_eq_true (v.testBit a) with e3 | e3 <;> rcases Bool.eq_false_or_eq_true (v.testBit b) with e4 | e4 <;>
   simp only [e1, e2, e3, e4, br_t, br_f, ob_s, Bool.and_self, Bool.and_true, Bool.and_false, Bool.true_and, Bool.or_self, Bool.or_true, Bool.or_false, Bool.true_or, if_true, Bool.false_eq_true, if_false]
theorem L71_round (n q : Nat) (hok : Okay M es) (hS : S < 2 ^ 64) (hq : q < es.length) (hn : 200 < n) (v : Nat) (hv : v < 2 ^ 64) : lpN (L71_1 n es (q : Int) S) n (v, 0) = some (rnd (es.take q ++ es.drop (q + 1)) S v) := by
 have hlen := hok.len
 have hm := hok.mem64
 have key : ∀ (k i m : Nat) (v : Nat), i + k = es.length → v < 2 ^ 64 → k < m → lpN (L71_1 n es (q : Int) S) m (v, (i : Int)) = some (((if i ≤ q then (es.take q).drop i ++ es.drop (q + 1) else es.drop i)).foldl (rnd1 S) v) := by
  intro k
  induction k with
  | zero =>
   intro i m v hi hv hk
   obtain ⟨m, rfl⟩ : ∃ m', m = m' + 1 := ⟨m - 1, by omega⟩
   rw [if_neg (by omega), List.drop_eq_nil_of_le (by omega), List.foldl_nil]
   refine lp_end ?_
   simp only [L71_1]
   rw [br_df (by omega)]
  | succ k ih =>
   intro i m v hi hv hk
   obtain ⟨m, rfl⟩ : ∃ m', m = m' + 1 := ⟨m - 1, by omega⟩
   have hil : i < es.length := by omega
   obtain ⟨a, b, he, ha, hb⟩ := hm es[i] (List.getElem_mem hil)
   have hei : es[i]? = some ((a : Int), (b : Int)) := by rw [List.getElem?_eq_getElem hil, he]
   rw [lp_next (L71_but n es q S v i a b hS hv hei ha hb (by omega))]
   by_cases hiq : i = q
   ·have hd : (es.take q).drop i = [] := List.drop_eq_nil_of_le (by rw [List.length_take]; omega)
    rw [if_pos hiq, ih (i + 1) m v (by omega) hv (by omega), if_neg (by omega), if_pos (by omega), hd, List.nil_append, hiq]
   ·rw [if_neg hiq, ih (i + 1) m _ (by omega) (rnd1_lt hv ha hb) (by omega)]
    by_cases hlt : i ≤ q
    ·rw [if_pos (by omega), if_pos hlt]
     have : (es.take q).drop i = ((a : Int), (b : Int)) :: (es.take q).drop (i + 1) := by
      rw [List.drop_eq_getElem_cons (by rw [List.length_take]; omega), List.getElem_take, he]
     rw [this, List.cons_append, List.foldl_cons]
    ·rw [if_neg (by omega), if_neg hlt, List.drop_eq_getElem_cons hil, he, List.foldl_cons]
 have := key es.length 0 n v (by omega) hv (by omega)
 rw [if_pos (Nat.zero_le q), List.drop_zero] at this
 exact this
theorem F71_less (n q i : Nat) (hok : Okay M es) (hS : S < 2 ^ M) (hi : S.testBit i = true) (hq : q < es.length) (hn : 200 < n) : ∃ w, F71 n (M : Int) es S ((i : Nat) : Int) (q : Int) = some w ∧ IsCl (es.take q ++ es.drop (q + 1)) S i w := by
 have hN := hok.le
 have hlen := hok.len
 have hS64 := lt64 hS hN
 have hi64 := tb_lt hS64 hi
 have hm0 := hok.mem64
 have hsub : ∀ e ∈ es.take q ++ es.drop (q + 1), e ∈ es := fun e he => by
  rcases List.mem_append.1 he with he | he
  ·exact List.mem_of_mem_take he
  ·exact List.mem_of_mem_drop he
 have hll : (es.take q ++ es.drop (q + 1)).length < es.length := by rw [List.length_append, List.length_take, List.length_drop]; omega
 have hround := L71_round (S := S) n q hok hS64 hq hn
 generalize es.take q ++ es.drop (q + 1) = es' at hsub hll hround ⊢
 have hm : ∀ e ∈ es', ∃ a b : Nat, e = ((a : Int), (b : Int)) ∧ a < 64 ∧ b < 64 := fun e he => hm0 e (hsub e he)
 have hout := lp_upto (body := L71_2 n es (q : Int) S) es.length (fun (s : Nat) (k : Int) => (s, k)) (fun s _ => rnd es' S s) id
  (fun k s => s < 2 ^ 64 ∧ s.testBit i = true ∧ (∀ j, s.testBit j = true → Rch es' S i j) ∧ (Closed es' S s ∨ k ≤ inn es' s)) (fun s k hk hI => ?_) (fun s _ => ?_) (n := n) (s := 2 ^ i) ⟨one_lt hi64, by rw [tb_one]; simp, fun j hj => by
   rw [tb_one, decide_eq_true_eq] at hj; subst hj; exact .refl, .inr (Nat.zero_le _)⟩ (by omega)
 ·obtain ⟨h1, h2, h3, h4, h5⟩ := hout
  refine ⟨_, by unfold F71; rw [F68_eq n i hi64, ob_s]; simp only [h1, ob_s, id_eq]; rfl, ?_⟩
  have hcl : Closed es' S ((List.range es.length).foldl (fun s _ => rnd es' S s) (2 ^ i)) := by
   rcases h5 with h5 | h5
   ·exact h5
   ·have := inn_le es' ((List.range es.length).foldl (fun s _ => rnd es' S s) (2 ^ i))
    omega
  refine IsCl.of h2 h3 h4 fun j k hj ha hk => ?_
  have hjS := (h4 j hj).mem hi
  rcases ha with ha | ha
  ·have := hcl _ ha (by simpa using hjS) (by simpa using hk) (.inl (by simpa using hj))
   simpa using this.2
  ·have := hcl _ ha (by simpa using hk) (by simpa using hjS) (.inr (by simpa using hj))
   simpa using this.1
 ·obtain ⟨g1, g2, g3, g4⟩ := hI
  refine ⟨?_, rnd_lt hm g1, rnd_sub hm g2, rnd_rch (fun e he => ⟨he, hm e he⟩) g3, ?_⟩
  ·simp only [L71_2]
   rw [br_dt (by omega), hround s g1, ob_s, wrap_succ (by omega)]
  ·rcases g4 with g4 | g4
   ·have e : rnd es' S s = s := rnd_closed (fun e he => ⟨he, hm e he⟩) g4
    rw [e]; exact .inl g4
   ·rcases rnd_grow hm s with h | h
    ·have e : rnd es' S s = s := rnd_closed (fun e he => ⟨he, hm e he⟩) h
     rw [e]; exact .inl h
    ·exact .inr (by omega)
 ·simp only [L71_2]
  rw [br_df (by omega)]; rfl
theorem filt_loopI {n N : Nat} {es : List (Int × Int)} (h : Okay N es) (P : Int × Int → Prop) (body : (List (Int × Int) × Int) → Option ((List (Int × Int) × Int) ⊕ (List (Int × Int)))) (p : Int × Int → Bool) (hp : ∀ e ∈ es, p e = true ↔ P e)
  (hb : ∀ (s : List (Int × Int)) (k a b : Nat), es[k]? = some ((a : Int), (b : Int)) → a < b → b < N → s.length ≤ k → k < 200 → ∃ c : Bool, (c = true ↔ P ((a : Int), (b : Int))) ∧ body (s, (k : Int)) = some (.inl ((if c then s ++ [((a : Int), (b : Int))] else s), ((k + 1 : Nat) : Int)))) (he : ∀ s, body (s, (es.length : Int)) = some (.inr s)) (hn : 200 < n) :
  lpN body n ([], 0) = some (es.filter p) :=
 filt_loop h p body (fun s k a b hk hab hbN hs hk2 => by
  obtain ⟨c, h1, h2⟩ := hb s k a b hk hab hbN hs hk2
  have hin : ((a : Int), (b : Int)) ∈ es := List.mem_of_getElem? hk
  have : p ((a : Int), (b : Int)) = c := Bool.eq_iff_iff.2 ((hp _ hin).trans h1.symm)
  rw [this]; exact h2) he hn
theorem F36_ok (n : Nat) (hok : Okay M es) (hg : okG (M : Int) es = true) (hS : S < 2 ^ M) (hn : 200 < n) {p : Int × Int → Bool} (hp : ∀ e ∈ es, p e = true ↔ IsBr es S e) : F36 n (M : Int) es S = some (es.filter p, 0) := by
 have hlen := hok.len
 have hN := hok.le
 have hS64 := lt64 hS hN
 unfold F36
 rw [F66_eq n _ _ _ hS64 (by omega) (by omega), ob_s, ckF_fit hok hg hS]
 simp only [decide_true, Bool.not_true, br_f]
 rw [filt_loopI hok (IsBr es S) (L36_1 n es S (M : Int)) p hp (fun s k a b he hab hb hs hk => ?_) (fun s => ?_) hn, ob_s]
 ·have hi : k < es.length := (List.getElem?_eq_some_iff.1 he).1
  simp only [L36_1, Int.toNat_natCast, he, ob_s, inB_nat hi, gd_t, wrap_succ (show k < 4611686018427387904 by omega), F67_eq n S a hS64 (by omega), F67_eq n S b hS64 (by omega)]
  rw [br_dt (by omega)]
  unfold IsBr
  simp only [Int.toNat_natCast]
  cases ha : S.testBit a with
  | false => exact ⟨false, by simp, by simp only [br_f, ob_s, Bool.false_eq_true, if_false]⟩
  | true =>
   cases hb' : S.testBit b with
   | false => exact ⟨false, by simp, by simp only [br_t, br_f, ob_s, Bool.false_eq_true, if_false]⟩
   | true =>
    obtain ⟨w, w1, w2⟩ := F71_less n k a hok hS ha hi hn
    have hbr := bridge_rch (S := S) (lesse_of hok hg he) ha
    have hw := w2.2 b
    refine ⟨!w.testBit b, ?_, ?_⟩
    ·rw [hbr, ← hw]
     simp
    ·simp only [br_t, w1, ob_s, F67_eq n w b w2.1 (show b < 64 by omega)]
     cases w.testBit b with
     | true => simp only [Bool.not_true, br_f, ob_s, Bool.false_eq_true, if_false]
     | false =>
      simp only [Bool.not_false, br_t, if_true]
      rw [lim_of (by simp; omega), gd_t, ob_s]
 ·simp only [L36_1]
  rw [br_df (by omega)]
theorem F37_ok (n : Nat) (hok : Okay M es) (hg : okG (M : Int) es = true) (hS : S < 2 ^ M) (hn : 200 < n) {C : Nat} (hC : C < 2 ^ 64) (hcut : ∀ v, C.testBit v = true ↔ S.testBit v = true ∧ Cut (Ad es S) v) : F37 n (M : Int) es S = some (C, 0) := by
 have hlen := hok.len
 have hN := hok.le
 have hS64 := lt64 hS hN
 obtain ⟨L, d1, d2⟩ := F70_eq n M es S hok hS hn
 have hlp := lp_uptoE (body := L37_1 n (M : Int) S es L) M (fun (s : Nat) (v : Int) => (s, v)) id (fun i s => s < 2 ^ 64 ∧ ∀ v, s.testBit v = true ↔ v < i ∧ C.testBit v = true) (fun s k hk hI => ?_) (fun s _ => ?_) (n := n) (s := 0) ⟨by decide, fun v => by rw [Nat.zero_testBit]; simp⟩ (by omega)
 ·obtain ⟨s, h1, h2, h3⟩ := hlp
  have : s = C := word_ext fun v => by
   rw [h3]
   exact ⟨fun h => h.2, fun h => ⟨tb_ltN hS ((hcut v).1 h).1, h⟩⟩
  subst this
  unfold F37
  rw [F66_eq n _ _ _ hS64 (by omega) (by omega), ob_s, ckF_fit hok hg hS]
  simp only [decide_true, Bool.not_true, br_f, d1, ob_s, h1, id_eq]
 ·obtain ⟨g1, g2⟩ := hI
  have hk64 : k < 64 := by omega
  have hl := less_andn hS64 hk64
  have hS' : uandn .u64 S (2 ^ k) < 2 ^ M := Nat.lt_pow_two_of_testBit _ fun i hi => by
   cases e : (uandn .u64 S (2 ^ k)).testBit i with
   | false => rfl
   | true =>
    have := tb_ltN hS ((hl i).1 e).1
    omega
  obtain ⟨L', e1, e2⟩ := F70_eq n M es _ hok hS' hn
  simp only [L37_1, F67_eq n S k hS64 hk64, F68_eq n k hk64, e1, ob_s, wrap_succ (show k < 4611686018427387904 by omega), decide_lt, word_or g1 (one_lt hk64)]
  rw [br_dt (by omega)]
  have next : ∀ (s' : Nat), (∀ v, s'.testBit v = true ↔ s.testBit v = true ∨ (v = k ∧ C.testBit k = true)) → ∀ v, s'.testBit v = true ↔ v < k + 1 ∧ C.testBit v = true := fun s' h v => by
   rw [h, g2]
   constructor
   ·rintro (⟨h1, h2⟩ | ⟨rfl, h2⟩)
    ·exact ⟨by omega, h2⟩
    ·exact ⟨by omega, h2⟩
   ·rintro ⟨h1, h2⟩
    by_cases e : v = k
    ·exact .inr ⟨e, e ▸ h2⟩
    ·exact .inl ⟨by omega, h2⟩
  cases hk' : S.testBit k with
  | false =>
   have hc : C.testBit k = false := by
    cases e : C.testBit k with
    | false => rfl
    | true => have := ((hcut k).1 e).1; rw [hk'] at this; cases this
   refine ⟨s, by simp only [br_f, ob_s], g1, next s fun v => ?_⟩
   rw [hc]; simp
  | true =>
   have hcc := node_count hok hS64 hl hk' d2 e2
   by_cases hlt : L.length < L'.length
   ·have hc : C.testBit k = true := (hcut k).2 ⟨hk', hcc.1 hlt⟩
    refine ⟨s ||| 2 ^ k, by simp only [br_t, decide_eq_true hlt, ob_s], or_lt' g1 (one_lt hk64), next _ fun v => ?_⟩
    rw [Nat.testBit_or, Bool.or_eq_true, tb_one, decide_eq_true_eq, hc]
    simp
   ·have hc : C.testBit k = false := by
     cases e : C.testBit k with
     | false => rfl
     | true => exact absurd (hcc.2 ((hcut k).1 e).2) hlt
    refine ⟨s, by simp only [br_t, br_f, decide_eq_false hlt, ob_s], g1, next s fun v => ?_⟩
    rw [hc]; simp
 ·simp only [L37_1]
  rw [br_df (by omega)]; rfl
theorem br_both (n : Nat) (N : Int) (es : List (Int × Int)) (x : Nat) (hx : x < 2 ^ 64) (hn : 200 < n) (hl : es.length < 4611686018427387904) (hk : es.length < n) :
  ∃ l e, F18 n N es x = some (l, e) ∧ F36 n N es x = some (l, e) ∧ l.length ≤ 300 := by
 by_cases h : ckF N es x = 0
 ·obtain ⟨M, rfl, hM, hxM⟩ := ckF_ok h
  have hg : okG (M : Int) es = true := by
   unfold ckF at h
   split at h
   ·assumption
   ·cases h
  obtain ⟨p, h1, h2⟩ := F18_ok n hM hg hxM hn
  exact ⟨_, _, h1, F36_ok n hM hg hxM hn h2, Nat.le_trans (List.length_filter_le _ _) (by have := hM.len; omega)⟩
 ·refine ⟨[], ckF N es x, ?_, ?_, by simp⟩
  ·unfold F18
   rw [F55_eq n N es x hx (by omega) hl hk, ob_s, decide_eq_false h, Bool.not_false, br_t]
  ·unfold F36
   rw [F66_eq n N es x hx hl hk, ob_s, decide_eq_false h, Bool.not_false, br_t]
theorem cu_both (n : Nat) (N : Int) (es : List (Int × Int)) (x : Nat) (hx : x < 2 ^ 64) (hn : 200 < n) (hl : es.length < 4611686018427387904) (hk : es.length < n) :
  ∃ c e, F19 n N es x = some (c, e) ∧ F37 n N es x = some (c, e) := by
 by_cases h : ckF N es x = 0
 ·obtain ⟨M, rfl, hM, hxM⟩ := ckF_ok h
  have hg : okG (M : Int) es = true := by
   unfold ckF at h
   split at h
   ·assumption
   ·cases h
  obtain ⟨C, h1, h2, h3⟩ := F19_ok n hM hg hxM hn
  exact ⟨_, _, h1, F37_ok n hM hg hxM hn h2 h3⟩
 ·refine ⟨0, ckF N es x, ?_, ?_⟩
  ·unfold F19
   rw [F55_eq n N es x hx (by omega) hl hk, ob_s, decide_eq_false h, Bool.not_false, br_t]
  ·unfold F37
   rw [F66_eq n N es x hx hl hk, ob_s, decide_eq_false h, Bool.not_false, br_t]
end
end Go.Proofs.YtpclggcpobakhaaDoor
end

section
namespace Go.Proofs.YtpclggcpobakhaaDoor
open Go Go.Ab Go.Ab.W
def lastP (p : Int × Int) (l : List (Int × Int)) : Int × Int := (l.getLast?).getD p
theorem okE_snoc {N : Int} (e : Int × Int) : ∀ (l : List (Int × Int)) (p : Int × Int), okEp N p (l ++ [e]) = (okEp N p l && stepOk N (lastP p l) e)
 | [], p => by rw [List.nil_append, okE_cons]; simp [okEp, lastP]
 | x :: l, p => by
  rw [List.cons_append, okE_cons, okE_cons, okE_snoc e l x, Bool.and_assoc]
  congr 2
  unfold lastP
  cases l with
  | nil => rfl
  | cons y l =>
   rw [List.getLast?_cons_cons]
   have : ∃ z, (y :: l).getLast? = some z := ⟨_, List.getLast?_eq_some_getLast (by simp)⟩
   obtain ⟨z, hz⟩ := this
   rw [hz]; rfl
def Upto (N : Int) (l : List (Int × Int)) (a b : Int) : Prop := okEp N (-1, -1) l = true ∧ ((lastP (-1, -1) l).1 < a ∨ (lastP (-1, -1) l).1 = a ∧ (lastP (-1, -1) l).2 < b)
theorem Upto.add {N : Int} {l : List (Int × Int)} {a b : Int} (h : Upto N l a b) (ha : 0 ≤ a) (hab : a < b) (hb : b < N) : Upto N (l ++ [(a, b)]) a (b + 1) := by
 refine ⟨?_, .inr ?_⟩
 ·rw [okE_snoc, h.1, Bool.true_and]
  simp only [stepOk, Bool.and_eq_true, decide_eq_true_eq]
  exact ⟨⟨ha, hab, hb⟩, h.2⟩
 ·unfold lastP
  rw [List.getLast?_append]
  simp only [List.getLast?_singleton, Option.some_or, Option.getD_some]
  exact ⟨trivial, by omega⟩
theorem Upto.next {N : Int} {l : List (Int × Int)} {a b : Int} (h : Upto N l a b) : Upto N l a (b + 1) := ⟨h.1, by rcases h.2 with h | h; exact .inl h; exact .inr (by omega)⟩
end Go.Proofs.YtpclggcpobakhaaDoor
end

section
namespace Go.Proofs.YtpclggcpobakhaaDoor
open Go Go.Ab Go.Ab.W
def Wkk (es : List (Int × Int)) (S i : Nat) : Nat → Nat → Prop
 | 0, j => j = i
 | k + 1, j => Wkk es S i k j ∨ ∃ h, Wkk es S i k h ∧ adj es h j ∧ S.testBit j = true
section
variable {es : List (Int × Int)} {S i j : Nat}
theorem wk_mono {k k' : Nat} (h : Wkk es S i k j) (hk : k ≤ k') : Wkk es S i k' j := by
 induction hk with
 | refl => exact h
 | step _ ih => exact .inl ih
theorem wk_mem (hi : S.testBit i = true) : ∀ {k j : Nat}, Wkk es S i k j → S.testBit j = true
 | 0, j, h => by rw [show j = i from h]; exact hi
 | k + 1, j, h => by
  rcases h with h | ⟨_, _, _, h⟩
  ·exact wk_mem hi h
  ·exact h
theorem wk_trans {a : Nat} (h : Wkk es S i a j) : ∀ {b l : Nat}, Wkk es S j b l → Wkk es S i (a + b) l
 | 0, l, h' => by rw [show l = j from h']; exact h
 | b + 1, l, h' => by
  rcases h' with h' | ⟨x, h1, h2, h3⟩
  ·exact .inl (wk_trans h h')
  ·exact .inr ⟨x, wk_trans h h1, h2, h3⟩
theorem wk_symm (hi : S.testBit i = true) : ∀ {k j : Nat}, Wkk es S i k j → Wkk es S j k i
 | 0, j, h => (show j = i from h).symm
 | k + 1, j, h => by
  rcases h with h | ⟨x, h1, h2, h3⟩
  ·exact .inl (wk_symm hi h)
  ·have := wk_trans (a := 1) (i := j) (j := x) (es := es) (S := S) (.inr ⟨j, rfl, adj_symm h2, wk_mem hi h1⟩) (wk_symm hi h1)
   rw [Nat.add_comm] at this
   exact this
end
def Dv (es : List (Int × Int)) (S i j : Nat) (v : Int) : Prop := (v = -1 ∧ ∀ k, ¬ Wkk es S i k j) ∨ ∃ d : Nat, v = (d : Int) ∧ d ≤ 64 ∧ Wkk es S i d j ∧ ∀ k, k < d → ¬ Wkk es S i k j
theorem foldl_set (d : Int) : ∀ (l : List Nat) (out : List Int), (l.foldl (fun o k => o.set k d) out).length = out.length ∧ ∀ j, (l.foldl (fun o k => o.set k d) out)[j]? = if j ∈ l ∧ j < out.length then some d else out[j]?
 | [], out => ⟨rfl, fun j => by simp⟩
 | x :: l, out => by
  obtain ⟨h1, h2⟩ := foldl_set d l (out.set x d)
  rw [List.foldl_cons]
  refine ⟨by rw [h1, List.length_set], fun j => ?_⟩
  rw [h2, List.length_set]
  by_cases hlt : j < out.length
  ·by_cases hj : j ∈ l
   ·rw [if_pos ⟨hj, hlt⟩, if_pos ⟨List.mem_cons_of_mem _ hj, hlt⟩]
   ·rw [if_neg (fun h => hj h.1)]
    by_cases e : x = j
    ·rw [if_pos ⟨by rw [e]; exact List.mem_cons_self .., hlt⟩, e, List.getElem?_set_self hlt]
    ·rw [if_neg (fun h => by rcases List.mem_cons.1 h.1 with h1 | h1; exact e h1.symm; exact hj h1), List.getElem?_set_ne e]
  ·rw [if_neg (fun h => hlt h.2), if_neg (fun h => hlt h.2), List.getElem?_eq_none (by rw [List.length_set]; omega), List.getElem?_eq_none (by omega)]
theorem L20_1_eq (n : Nat) (L out : List Int) (N d front : Nat) (hL : L.length = N) (ho : out.length = N) (hf : front < 2 ^ N) (hN : N ≤ 64) (hn : 64 < n) :
  lpN (L20_1 n L (d : Int)) n (front, out) = some ((bitsOf front).foldl (fun o k => o.set k (d : Int)) out) := by
 have hf64 := lt64 hf hN
 refine lp_bits (body := L20_1 n L (d : Int)) (fun (r : Nat) (s : List Int) => (r, s)) (fun o k => o.set k (d : Int)) id (fun s => s.length = N) front (fun r s h0 hr hb hs => ?_) (fun s _ => ?_) n front out hf64 (fun i hi => hi) ho (by have := bitsOf_len front; omega)
 ·have hk := tb_ltN hf hb
  refine ⟨?_, by simpa using hs⟩
  have e1 : s[tz r]? = some s[tz r] := List.getElem?_eq_getElem (by omega)
  simp only [L20_1, F42_eq hr, ob_s, Int.toNat_natCast, e1]
  rw [show (!decide (r = 0)) = true by simp; omega, br_t, inB_nat (by omega), gd_t]
  rfl
 ·simp only [L20_1]
  rfl
theorem L20_2_eq (n N : Nat) (es : List (Int × Int)) (L : List Int) (S i : Nat) (hok : Okay N es) (hS : S < 2 ^ N) (hi : S.testBit i = true) (hL : L.length = N) (hn : 200 < n) :
  ∀ (q d m R F : Nat) (out : List Int), q + d = 65 → q < m → R < 2 ^ N → F < 2 ^ N → (∀ j, R.testBit j = true ↔ Wkk es S i d j) → (∀ j, F.testBit j = true ↔ Wkk es S i d j ∧ ∀ k, k < d → ¬ Wkk es S i k j) → (F ≠ 0 → d < cnt R) → out.length = N →
   (∀ j, j < N → ∃ v, out[j]? = some v ∧ ((v = -1 ∧ ∀ k, k < d → ¬ Wkk es S i k j) ∨ ∃ e : Nat, e < d ∧ v = (e : Int) ∧ Wkk es S i e j ∧ ∀ k, k < e → ¬ Wkk es S i k j)) →
   ∃ l, lpN (L20_2 n L (N : Int) es S) m (out, R, (d : Int), F) = some l ∧ l.length = N ∧ ∀ j, j < N → ∃ v, l[j]? = some v ∧ Dv es S i j v := by
 have hN := hok.le
 have hS64 := lt64 hS hN
 intro q
 induction q with
 | zero =>
  intro d m R F out hq hm hR hF hRb hFb hc ho hv
  have hcl : cnt R ≤ 64 := bitsOf_len R
  have hF0 : F = 0 := by
   apply Classical.byContradiction
   intro h
   have := hc h; omega
  obtain ⟨m, rfl⟩ : ∃ m', m = m' + 1 := ⟨m - 1, by omega⟩
  have hd : d = 65 := by omega
  refine ⟨out, lp_end (by simp only [L20_2, hF0]; rfl), ho, fun j hj => ?_⟩
  have hstop : ∀ k j, Wkk es S i k j → Wkk es S i 64 j := by
   have hnew : ∀ j, Wkk es S i 65 j → Wkk es S i 64 j := fun j h => by
    apply Classical.byContradiction
    intro hno
    have : F.testBit j = true := (hFb j).2 ⟨by rw [hd]; exact h, fun k hk h' => hno (wk_mono h' (by omega))⟩
    rw [hF0, Nat.zero_testBit] at this; cases this
   intro k
   induction k with
   | zero => intro j h; exact wk_mono h (by omega)
   | succ k ih =>
    intro j h
    rcases h with h | ⟨x, h1, h2, h3⟩
    ·exact ih j h
    ·exact hnew j (.inr ⟨x, ih x h1, h2, h3⟩)
  obtain ⟨v, h1, h2⟩ := hv j hj
  refine ⟨v, h1, ?_⟩
  rcases h2 with ⟨h2, h3⟩ | ⟨e, h2, h3, h4, h5⟩
  ·exact .inl ⟨h2, fun k h => h3 64 (by omega) (hstop k j h)⟩
  ·exact .inr ⟨e, h3, by omega, h4, h5⟩
 | succ q ih =>
  intro d m R F out hq hm hR hF hRb hFb hc ho hv
  obtain ⟨m, rfl⟩ : ∃ m', m = m' + 1 := ⟨m - 1, by omega⟩
  have hR64 := lt64 hR hN
  by_cases hF0 : F = 0
  ·refine ⟨out, lp_end (by simp only [L20_2, hF0]; rfl), ho, fun j hj => ?_⟩
   have hd0 : d ≠ 0 := fun e => by
    subst e
    have : F.testBit i = true := (hFb i).2 ⟨rfl, fun k hk => absurd hk (Nat.not_lt_zero k)⟩
    rw [hF0, Nat.zero_testBit] at this; cases this
   obtain ⟨d', rfl⟩ : ∃ d', d = d' + 1 := ⟨d - 1, by omega⟩
   have hnew : ∀ j, Wkk es S i (d' + 1) j → Wkk es S i d' j := fun j h => by
    apply Classical.byContradiction
    intro hno
    have : F.testBit j = true := (hFb j).2 ⟨h, fun k hk h' => hno (wk_mono h' (by omega))⟩
    rw [hF0, Nat.zero_testBit] at this; cases this
   have hstop : ∀ k j, Wkk es S i k j → Wkk es S i d' j := by
    intro k
    induction k with
    | zero => intro j h; exact wk_mono h (by omega)
    | succ k ih =>
     intro j h
     rcases h with h | ⟨x, h1, h2, h3⟩
     ·exact ih j h
     ·exact hnew j (.inr ⟨x, ih x h1, h2, h3⟩)
   obtain ⟨v, h1, h2⟩ := hv j hj
   refine ⟨v, h1, ?_⟩
   rcases h2 with ⟨h2, h3⟩ | ⟨e, h2, h3, h4, h5⟩
   ·exact .inl ⟨h2, fun k h => h3 d' (by omega) (hstop k j h)⟩
   ·exact .inr ⟨e, h3, by omega, h4, h5⟩
  ·have hdc := hc hF0
   have hcl : cnt R ≤ 64 := bitsOf_len R
   obtain ⟨w, w1, w2, w3⟩ := F56_eq n N es R hok hR hn
   have hset := foldl_set (d : Int) (bitsOf F) out
   have hFl := L20_1_eq n L out N d F hL ho hF hN (by omega)
   have hF' : w &&& S < 2 ^ N := Nat.lt_of_le_of_lt Nat.and_le_right hS
   have hR' : R ||| (w &&& S) < 2 ^ N := Nat.or_lt_two_pow hR hF'
   have hF'64 := lt64 hF' hN
   have hbody : L20_2 n L (N : Int) es S (out, R, (d : Int), F) = some (.inl ((bitsOf F).foldl (fun o k => o.set k (d : Int)) out, R ||| (w &&& S), ((d + 1 : Nat) : Int), w &&& S)) := by
    simp only [L20_2, ob_s, hFl, w1, word_and w2 hS64, word_or hR64 hF'64, wrap_succ (show d < 4611686018427387904 by omega)]
    rw [show (!decide (F = 0)) = true by simp [hF0], br_t]
   rw [lp_next hbody]
   have hRb' : ∀ j, (R ||| (w &&& S)).testBit j = true ↔ Wkk es S i (d + 1) j := fun j => by
    rw [Nat.testBit_or, Nat.testBit_and, Bool.or_eq_true, Bool.and_eq_true, hRb, w3]
    constructor
    ·rintro (h | ⟨⟨⟨k, hk, ha⟩, _⟩, hs⟩)
     ·exact .inl h
     ·exact .inr ⟨k, (hRb k).1 hk, ha, hs⟩
    ·rintro (h | ⟨k, hk, ha, hs⟩)
     ·exact .inl h
     ·cases e : R.testBit j with
      | true => exact .inl ((hRb j).1 e)
      | false => exact .inr ⟨⟨⟨k, (hRb k).2 hk, ha⟩, e⟩, hs⟩
   have hFb' : ∀ j, (w &&& S).testBit j = true ↔ Wkk es S i (d + 1) j ∧ ∀ k, k < d + 1 → ¬ Wkk es S i k j := fun j => by
    rw [Nat.testBit_and, Bool.and_eq_true, w3]
    constructor
    ·rintro ⟨⟨⟨k, hk, ha⟩, hj⟩, hs⟩
     refine ⟨.inr ⟨k, (hRb k).1 hk, ha, hs⟩, fun k' hk' h => ?_⟩
     have := (hRb j).2 (wk_mono h (by omega))
     rw [hj] at this; cases this
    ·rintro ⟨h, hno⟩
     have hj : R.testBit j = false := by
      cases e : R.testBit j with
      | false => rfl
      | true => exact absurd ((hRb j).1 e) (hno d (by omega))
     rcases h with h | ⟨k, hk, ha, hs⟩
     ·exact absurd h (hno d (by omega))
     ·exact ⟨⟨⟨k, (hRb k).2 hk, ha⟩, hj⟩, hs⟩
   refine ih (d + 1) m _ _ _ (by omega) (by omega) hR' hF' hRb' hFb' (fun h => ?_) (by rw [hset.1]; exact ho) (fun j hj => ?_)
   ·obtain ⟨j, hj⟩ : ∃ j, (w &&& S).testBit j = true := by
     apply Classical.byContradiction
     intro hno
     refine h (word_zero.2 fun j => ?_)
     cases e : (w &&& S).testBit j with
     | false => rfl
     | true => exact absurd ⟨j, e⟩ hno
    have h1 := (hFb' j).1 hj
    have := cnt_lt (a := R) (b := R ||| (w &&& S)) (i := j) (lt64 hR' hN) (fun k hk => by rw [Nat.testBit_or, hk]; rfl) (by
     cases e : R.testBit j with
     | false => rfl
     | true => exact absurd ((hRb j).1 e) (h1.2 d (by omega))) (by rw [Nat.testBit_or, hj]; simp)
    omega
   ·obtain ⟨v, h1, h2⟩ := hv j hj
    rw [hset.2]
    by_cases hjF : F.testBit j = true
    ·have := (hFb j).1 hjF
     exact ⟨(d : Int), by rw [if_pos ⟨(mem_bitsOf (lt64 hF hN)).2 hjF, by omega⟩], .inr ⟨d, by omega, rfl, this.1, this.2⟩⟩
    ·refine ⟨v, by rw [if_neg (fun h => hjF ((mem_bitsOf (lt64 hF hN)).1 h.1))]; exact h1, ?_⟩
     rcases h2 with ⟨h2, h3⟩ | ⟨e, h2, h3, h4, h5⟩
     ·refine .inl ⟨h2, fun k hk h => ?_⟩
      rcases Nat.lt_or_ge k d with hkd | hkd
      ·exact h3 k hkd h
      ·have : k = d := by omega
       subst this
       exact hjF ((hFb j).2 ⟨h, h3⟩)
     ·exact .inr ⟨e, by omega, h3, h4, h5⟩
theorem F20_eq (n N : Nat) (es : List (Int × Int)) (S i : Nat) (hg : okG (N : Int) es = true) (hok : Okay N es) (hS : S < 2 ^ N) (hi : S.testBit i = true) (hn : 200 < n) :
  ∃ l, F20 n (N : Int) es S (i : Int) = some (l, 0) ∧ l.length = N ∧ ∀ j, j < N → ∃ v, l[j]? = some v ∧ Dv es S i j v := by
 have hN := hok.le
 have hlen := hok.len
 have hpos := hok.pos
 have hS64 := lt64 hS hN
 have hiN := tb_ltN hS hi
 have hone : 2 ^ i < 2 ^ N := Nat.pow_lt_pow_right (by decide) hiN
 obtain ⟨l, h1, h2, h3⟩ := L20_2_eq n N es (List.replicate N (-1)) S i hok hS hi (by simp) hn 65 0 n (2 ^ i) (2 ^ i) (List.replicate N (-1)) rfl (by omega) hone hone (fun j => by rw [tb_one, decide_eq_true_eq]; rfl) (fun j => by
  rw [tb_one, decide_eq_true_eq]
  exact ⟨fun h => ⟨h, fun k hk => absurd hk (Nat.not_lt_zero k)⟩, fun h => h.1⟩) (fun _ => by
   have := cnt_lt (a := 0) (b := 2 ^ i) (i := i) (lt64 hone hN) (fun k hk => by rw [Nat.zero_testBit] at hk; cases hk) (Nat.zero_testBit i) (by rw [tb_one]; simp)
   omega) (by simp) (fun j hj => ⟨-1, by simp [hj], .inl ⟨rfl, fun k hk => absurd hk (Nat.not_lt_zero k)⟩⟩)
 refine ⟨l, ?_, h2, h3⟩
 have h1' : lpN (L20_2 n (List.replicate N (-1)) (N : Int) es S) n (List.replicate N (-1), 2 ^ i, 0, 2 ^ i) = some l := h1
 have c1 := ckF_fit hok hg hS
 unfold F20
 rw [F55_eq n N es S hS64 (by omega) (by omega) (by omega), ob_s, c1]
 simp only [decide_true, Bool.not_true, br_f]
 rw [br_df (show ¬ (i : Int) < 0 by omega), br_df (show ¬ (N : Int) ≤ (i : Int) by omega), F57_eq n S i hS64 (by omega), hi, ob_s, ob_s, Bool.not_true, br_f]
 have e60 : F60r n [-1] (N : Int) = some (List.replicate N (-1)) := by
  unfold F60r
  simp only
  rw [decide_eq_true (show (1 : Int) ≤ (N : Int) by omega), gd_t, Int.toNat_natCast, lim_of (by omega), gd_t]
 rw [e60, ob_s, decide_eq_true (show (0 : Int) ≤ (i : Int) by omega), gd_t, Int.toNat_natCast, word_one (by omega)]
 simp only [h1', ob_s]
end Go.Proofs.YtpclggcpobakhaaDoor
end

section
namespace Go.Proofs.YtpclggcpobakhaaDoor
open Go Go.Ab Go.Ab.W
structure Dist (es : List (Int × Int)) (S i N : Nat) (l : List Int) : Prop where
 len : l.length = N
 at_ : ∀ j, j < N → ∃ v, l[j]? = some v ∧ Dv es S i j v
section
variable {es : List (Int × Int)} {S i j N : Nat} {l : List Int}
theorem Dv.step {v u : Int} {k : Nat} (hv : Dv es S i j v) (hu : Dv es S i k u) (ha : adj es j k) (hk : S.testBit k = true) (h0 : 0 ≤ v) : 0 ≤ u ∧ u ≤ v + 1 := by
 rcases hv with ⟨h, _⟩ | ⟨d, h, _, h3, _⟩
 ·omega
 ·have hw : Wkk es S i (d + 1) k := .inr ⟨j, h3, ha, hk⟩
  rcases hu with ⟨_, h5⟩ | ⟨e, h5, _, h6, h7⟩
  ·exact absurd hw (h5 _)
  ·have : ¬ d + 1 < e := fun h' => h7 _ h' hw
   omega
theorem Dv.zero {v : Int} (h : Dv es S i j v) : v = 0 ↔ j = i := by
 rcases h with ⟨h, h2⟩ | ⟨d, h, h2, h3, h4⟩
 ·refine ⟨fun h' => by omega, fun e => ?_⟩
  exact absurd (show Wkk es S i 0 j from e) (h2 0)
 ·constructor
  ·intro h'
   have : d = 0 := by omega
   subst this
   exact h3
  ·intro e
   rcases Nat.eq_zero_or_pos d with h5 | h5
   ·omega
   ·exact absurd (show Wkk es S i 0 j from e) (h4 0 h5)
theorem Dv.before {v : Int} (hi : S.testBit i = true) (h : Dv es S i j v) (h0 : 0 < v) : ∃ k, adj es k j ∧ S.testBit k = true ∧ S.testBit j = true ∧ ∀ u, Dv es S i k u → u = v - 1 := by
 rcases h with ⟨h, _⟩ | ⟨d, h, h2, h3, h4⟩
 ·omega
 ·obtain ⟨d, rfl⟩ : ∃ d', d = d' + 1 := ⟨d - 1, by omega⟩
  rcases h3 with h3 | ⟨k, g1, g2, g3⟩
  ·exact absurd h3 (h4 d (by omega))
  ·refine ⟨k, g2, wk_mem hi g1, g3, fun u hu => ?_⟩
   rcases hu with ⟨_, h5⟩ | ⟨e, h5, _, h6, h7⟩
   ·exact absurd g1 (h5 _)
   ·have h8 : ¬ d < e := fun h' => h7 _ h' g1
    have h9 : ¬ e + 1 < d + 1 := fun h' => h4 (e + 1) h' (.inr ⟨k, h6, g2, g3⟩)
    omega
theorem Dv.symm {v u : Int} (hi : S.testBit i = true) (hj : S.testBit j = true) (h : Dv es S i j v) (h' : Dv es S j i u) : v = u := by
 rcases h with ⟨h1, h2⟩ | ⟨d, h1, _, h3, h4⟩ <;> rcases h' with ⟨g1, g2⟩ | ⟨e, g1, _, g3, g4⟩
 ·omega
 ·exact absurd (wk_symm hj g3) (h2 e)
 ·exact absurd (wk_symm hi h3) (g2 d)
 ·have a1 : ¬ d < e := fun h => g4 d h (wk_symm hi h3)
  have a2 : ¬ e < d := fun h => h4 e h (wk_symm hj g3)
  omega
end
end Go.Proofs.YtpclggcpobakhaaDoor
end

section
namespace Go.Proofs.YtpclggcpobakhaaDoor
open Go Go.Ab Go.Ab.W
section
variable {M S i : Nat} {es : List (Int × Int)}
def Ex (es : List (Int × Int)) (S i e j : Nat) : Prop := Wkk es S i e j ∧ ∀ k, k < e → ¬ Wkk es S i k j
theorem ex_of {k j : Nat} (h : Wkk es S i k j) : ∃ e, e ≤ k ∧ Ex es S i e j := by
 obtain ⟨e, h1, h2⟩ := least (fun e => Wkk es S i e j) k h
 exact ⟨e, h2 k h, h1, fun k' hk h' => by have := h2 k' h'; omega⟩
theorem ex_one {e e' j : Nat} (h : Ex es S i e j) (h' : Ex es S i e' j) : e = e' := by
 rcases Nat.lt_trichotomy e e' with h1 | h1 | h1
 ·exact absurd h.1 (h'.2 e h1)
 ·exact h1
 ·exact absurd h'.1 (h.2 e' h1)
noncomputable def wkB (es : List (Int × Int)) (S i e j : Nat) : Bool := @decide (Wkk es S i e j) (Classical.propDecidable _)
theorem wkB_t {e j : Nat} : wkB es S i e j = true ↔ Wkk es S i e j := by
 unfold wkB
 exact @decide_eq_true_iff _ (Classical.propDecidable _)
theorem ex_lt (hS : S < 2 ^ M) (hi : S.testBit i = true) : ∀ {e j : Nat}, Ex es S i e j → e + 1 ≤ ((List.range M).filter fun x => wkB es S i e x).length := by
 have inM : ∀ {e j : Nat}, Wkk es S i e j → j ∈ List.range M := fun h => List.mem_range.2 (tb_ltN hS (wk_mem hi h))
 intro e
 induction e with
 | zero => intro j h; exact List.length_pos_of_mem (List.mem_filter.2 ⟨inM h.1, wkB_t.2 h.1⟩)
 | succ e ih =>
  intro j h
  rcases h.1 with h1 | ⟨x, h1, h2, h3⟩
  ·exact absurd h1 (h.2 e (Nat.lt_succ_self e))
  ·have hx : Ex es S i e x := ⟨h1, fun k hk hk' => h.2 (k + 1) (by omega) (.inr ⟨x, hk', h2, h3⟩)⟩
   have := ih hx
   have hlt := filter_lt (p := fun x => wkB es S i e x) (q := fun x => wkB es S i (e + 1) x) (a := j) (inM h.1) (fun y _ hy => wkB_t.2 (.inl (wkB_t.1 hy))) (by
    cases hw : wkB es S i e j with
    | false => rfl
    | true => exact absurd (wkB_t.1 hw) (h.2 e (Nat.lt_succ_self e))) (wkB_t.2 h.1)
   omega
theorem ex_le (hS : S < 2 ^ M) (hi : S.testBit i = true) {e j : Nat} (h : Ex es S i e j) : e + 1 ≤ M := by
 have h1 := ex_lt hS hi h
 have h2 := List.length_filter_le (fun x => wkB es S i e x) (List.range M)
 rw [List.length_range] at h2
 omega
def RI (es : List (Int × Int)) (S i M d : Nat) (Pr : Nat → Nat → Prop) (out : List Int) : Prop :=
 out.length = M ∧ ∀ j, j < M → ∃ v, out[j]? = some v ∧ ((∃ e : Nat, e ≤ d ∧ Ex es S i e j ∧ v = (e : Int)) ∨ (Ex es S i (d + 1) j ∧ v = ((d + 1 : Nat) : Int)) ∨ (v = -1 ∧ ¬ Wkk es S i d j ∧ ∀ x, Pr x j → ¬ Ex es S i d x))
theorem RI.sub {d : Nat} {Pr Pr' : Nat → Nat → Prop} {out : List Int} (h : RI es S i M d Pr out) (hs : ∀ x y, Pr' x y → Pr x y) : RI es S i M d Pr' out :=
 ⟨h.1, fun j hj => by
  obtain ⟨v, h1, h2⟩ := h.2 j hj
  exact ⟨v, h1, h2.imp id fun h2 => h2.imp id fun h2 => ⟨h2.1, h2.2.1, fun x hx => h2.2.2 x (hs x j hx)⟩⟩⟩
def stp (out : List Int) (x y d : Nat) : List Int := if out.getD x 0 = (d : Int) ∧ out.getD y 0 < 0 then out.set y ((d + 1 : Nat) : Int) else out
theorem RI.step {d x y : Nat} {Pr : Nat → Nat → Prop} {out : List Int} (h : RI es S i M d Pr out) (hx : x < M) (hy : y < M) (ha : adj es x y) (hS : S.testBit y = true) : RI es S i M d (fun x' y' => Pr x' y' ∨ (x' = x ∧ y' = y)) (stp out x y d) := by
 obtain ⟨vx, hx1, hx2⟩ := h.2 x hx
 obtain ⟨vy, hy1, hy2⟩ := h.2 y hy
 have gx : out.getD x 0 = vx := by simp [List.getD, hx1]
 have gy : out.getD y 0 = vy := by simp [List.getD, hy1]
 have exd : vx = (d : Int) ↔ Ex es S i d x := by
  constructor
  ·intro e
   rcases hx2 with ⟨k, _, h2, h3⟩ | ⟨_, h3⟩ | ⟨h3, _⟩
   ·have : k = d := by omega
    rw [← this]; exact h2
   ·omega
   ·omega
  ·intro e
   rcases hx2 with ⟨k, _, h2, h3⟩ | ⟨h2, _⟩ | ⟨_, h3, _⟩
   ·rw [h3, ex_one h2 e]
   ·have := ex_one h2 e; omega
   ·exact absurd e.1 h3
 unfold stp
 rw [gx, gy]
 by_cases hc : vx = (d : Int) ∧ vy < 0
 ·rw [if_pos hc]
  refine ⟨by rw [List.length_set]; exact h.1, fun j hj => ?_⟩
  by_cases e : j = y
  ·subst e
   refine ⟨_, List.getElem?_set_self (by rw [h.1]; exact hj), .inr (.inl ⟨?_, rfl⟩)⟩
   rcases hy2 with ⟨k, _, _, h3⟩ | ⟨_, h3⟩ | ⟨_, h3, _⟩
   ·omega
   ·omega
   ·exact ⟨.inr ⟨x, (exd.1 hc.1).1, ha, hS⟩, fun k hk hw => h3 (wk_mono hw (by omega))⟩
  ·rw [List.getElem?_set_ne (fun e' => e e'.symm)]
   obtain ⟨v, h1, h2⟩ := h.2 j hj
   exact ⟨v, h1, h2.imp id fun h2 => h2.imp id fun h2 => ⟨h2.1, h2.2.1, fun x' hx' => hx'.elim (h2.2.2 x') fun e' => absurd e'.2 e⟩⟩
 ·rw [if_neg hc]
  refine ⟨h.1, fun j hj => ?_⟩
  obtain ⟨v, h1, h2⟩ := h.2 j hj
  refine ⟨v, h1, h2.imp id fun h2 => h2.imp id fun h2 => ⟨h2.1, h2.2.1, fun x' hx' => hx'.elim (h2.2.2 x') fun e' he => ?_⟩⟩
  obtain ⟨rfl, rfl⟩ := e'
  rw [hy1] at h1
  have := Option.some.inj h1
  exact hc ⟨exd.2 he, by omega⟩
theorem RI.next {d : Nat} {Pr : Nat → Nat → Prop} {out : List Int} (hok : Okay M es) (hi : S.testBit i = true) (h : RI es S i M d Pr out) (hall : ∀ x y, adj es x y → S.testBit x = true → S.testBit y = true → Pr x y) : RI es S i M (d + 1) (fun _ _ => False) out := by
 refine ⟨h.1, fun j hj => ?_⟩
 obtain ⟨v, h1, h2⟩ := h.2 j hj
 refine ⟨v, h1, ?_⟩
 rcases h2 with ⟨e, g1, g2, g3⟩ | ⟨g1, g2⟩ | ⟨g1, g2, g3⟩
 ·exact .inl ⟨e, by omega, g2, g3⟩
 ·exact .inl ⟨d + 1, Nat.le_refl _, g1, g2⟩
 ·refine .inr (.inr ⟨g1, fun hw => ?_, fun _ h => h.elim⟩)
  rcases hw with hw | ⟨x, w1, w2, w3⟩
  ·exact g2 hw
  ·obtain ⟨e, e1, e2⟩ := ex_of w1
   by_cases ed : e = d
   ·subst ed
    exact g3 x (hall x j w2 (wk_mem hi w1) w3) e2
   ·exact g2 (wk_mono (k := e + 1) (.inr ⟨x, e2.1, w2, w3⟩) (by omega))
theorem relax_eq {out : List Int} {x y d : Nat} (hx : x < out.length) (hy : y < out.length) (hM : out.length ≤ 64) (hd : d < 1000) {N : Nat} (hN : N = out.length) :
  (ob (gd (inB (x : Int) N) (ob (out[x]?) fun v => br (decide (v = (d : Int))) (gd (inB (y : Int) N) (ob (out[y]?) fun w => some (decide (w < 0)))) (some false))) fun c => br c (gd (inB (y : Int) N) (ob (out[y]?) fun _ => some (out.set y (IntKind.wrap .i64 ((d : Int) + 1))))) (some out)) = some (stp out x y d) := by
 subst hN
 rw [inB_nat hx, inB_nat hy, gd_t, List.getElem?_eq_getElem hx, List.getElem?_eq_getElem hy, wrap_succ (by omega)]
 simp only [ob_s, gd_t]
 have gx : out.getD x 0 = out[x] := by simp [List.getD, hx]
 have gy : out.getD y 0 = out[y] := by simp [List.getD, hy]
 unfold stp
 rw [gx, gy]
 by_cases h1 : out[x] = (d : Int)
 ·rw [br_dt h1, ob_s]
  by_cases h2 : out[y] < 0
  ·rw [br_dt h2, if_pos ⟨h1, h2⟩]
  ·rw [br_df h2, if_neg fun h => h2 h.2]
 ·rw [br_df h1, ob_s, br_f, if_neg fun h => h1 h.1]
theorem stp_len (out : List Int) (x y d : Nat) : (stp out x y d).length = out.length := by
 unfold stp; split <;> simp
theorem L38_2_eq (n : Nat) (hok : Okay M es) (hS : S < 2 ^ M) (hn : 200 < n) (l52 : List Int) (hl : l52.length = M) (d : Nat) (hd : d < 1000) (out : List Int) (h : RI es S i M d (fun _ _ => False) out) :
  ∃ out', lpN (L38_2 n es S l52 (d : Int)) n (out, 0) = some out' ∧ RI es S i M d (fun x y => adj es x y ∧ S.testBit x = true ∧ S.testBit y = true) out' := by
 have hN := hok.le
 have hlen := hok.len
 have hS64 := lt64 hS hN
 have hlp := lp_uptoE (body := L38_2 n es S l52 (d : Int)) es.length (fun (s : List Int) (v : Int) => (s, v)) id
  (fun k s => RI es S i M d (fun x y => (∃ q, q < k ∧ (es[q]? = some ((x : Int), (y : Int)) ∨ es[q]? = some ((y : Int), (x : Int)))) ∧ S.testBit x = true ∧ S.testBit y = true) s)
  (fun s k hk hI => ?_) (fun s _ => ?_) (n := n) (s := out) (h.sub fun x y h => by obtain ⟨⟨q, hq, _⟩, _⟩ := h; omega) (by omega)
 ·obtain ⟨s, h1, h2⟩ := hlp
  refine ⟨s, h1, h2.sub fun x y hxy => ⟨?_, hxy.2⟩⟩
  rcases hxy.1 with hm | hm
  ·obtain ⟨q, hq⟩ := List.mem_iff_getElem?.1 hm
   exact ⟨q, (List.getElem?_eq_some_iff.1 hq).1, .inl hq⟩
  ·obtain ⟨q, hq⟩ := List.mem_iff_getElem?.1 hm
   exact ⟨q, (List.getElem?_eq_some_iff.1 hq).1, .inr hq⟩
 ·obtain ⟨a, b, he, hab, hb⟩ := hok.mem es[k] (List.getElem_mem hk)
  have hek : es[k]? = some ((a : Int), (b : Int)) := by rw [List.getElem?_eq_getElem hk, he]
  have hin : ((a : Int), (b : Int)) ∈ es := List.mem_of_getElem? hek
  have hsl : s.length = M := hI.1
  have hka : ∀ x y : Nat, es[k]? = some ((x : Int), (y : Int)) → x = a ∧ y = b := fun x y h => by
   rw [hek] at h
   have := Option.some.inj h
   simp only [Prod.mk.injEq] at this
   omega
  have grow : ∀ x y : Nat, ((∃ q, q < k + 1 ∧ (es[q]? = some ((x : Int), (y : Int)) ∨ es[q]? = some ((y : Int), (x : Int)))) ∧ S.testBit x = true ∧ S.testBit y = true) → (((∃ q, q < k ∧ (es[q]? = some ((x : Int), (y : Int)) ∨ es[q]? = some ((y : Int), (x : Int)))) ∧ S.testBit x = true ∧ S.testBit y = true) ∨ (((x = a ∧ y = b) ∨ (x = b ∧ y = a)) ∧ S.testBit a = true ∧ S.testBit b = true)) := by
   rintro x y ⟨⟨q, hq, h⟩, sx, sy⟩
   by_cases hqk : q < k
   ·exact .inl ⟨⟨q, hqk, h⟩, sx, sy⟩
   ·have : q = k := by omega
    subst this
    rcases h with h | h
    ·obtain ⟨rfl, rfl⟩ := hka x y h
     exact .inr ⟨.inl ⟨rfl, rfl⟩, sx, sy⟩
    ·obtain ⟨rfl, rfl⟩ := hka y x h
     exact .inr ⟨.inr ⟨rfl, rfl⟩, sy, sx⟩
  have r1 := relax_eq (out := s) (x := a) (y := b) (d := d) (by omega) (by omega) (by omega) hd (N := l52.length) (by omega)
  have r2 := relax_eq (out := stp s a b d) (x := b) (y := a) (d := d) (by rw [stp_len]; omega) (by rw [stp_len]; omega) (by rw [stp_len]; omega) hd (N := l52.length) (by rw [stp_len]; omega)
  simp only [L38_2, Int.toNat_natCast, hek, ob_s, inB_nat hk, gd_t, wrap_succ (show k < 4611686018427387904 by omega), F67_eq n S a hS64 (by omega), F67_eq n S b hS64 (by omega)]
  rw [br_dt (by omega)]
  cases sa : S.testBit a with
  | false =>
   refine ⟨s, by simp only [Bool.not_false, br_t, ob_s], hI.sub fun x y hxy => ?_⟩
   rcases grow x y hxy with h | ⟨_, h, _⟩
   ·exact h
   ·rw [sa] at h; cases h
  | true =>
   cases sb : S.testBit b with
   | false =>
    refine ⟨s, by simp only [Bool.not_false, Bool.not_true, br_t, br_f, ob_s], hI.sub fun x y hxy => ?_⟩
    rcases grow x y hxy with h | ⟨_, _, h⟩
    ·exact h
    ·rw [sb] at h; cases h
   | true =>
    refine ⟨stp (stp s a b d) b a d, ?_, ?_⟩
    ·simp only [Bool.not_true, br_f, ob_s]
     rw [r1]
     simp only [ob_s]
     rw [r2]
     rfl
    ·have h1 := hI.step (by omega) hb (.inl hin) sb
     have h2 := h1.step hb (by omega) (.inr hin) sa
     refine h2.sub fun x y hxy => ?_
     rcases grow x y hxy with h | ⟨h | h, _⟩
     ·exact .inl (.inl h)
     ·exact .inl (.inr h)
     ·exact .inr h
 ·simp only [L38_2]
  rw [br_df (by omega)]; rfl
theorem L38_1_eq (n M : Nat) (hM : M ≤ 64) (hn : 64 < n) : lpN (L38_1 n (M : Int)) n (([] : List Int), 0) = some (List.replicate M (-1)) := by
 have hlp := lp_uptoE (body := L38_1 n (M : Int)) M (fun (s : List Int) (v : Int) => (s, v)) id (fun i s => s = List.replicate i (-1)) (fun s k hk hI => ?_) (fun s _ => ?_) (n := n) (s := []) rfl (by omega)
 ·obtain ⟨s, h1, h2⟩ := hlp
  subst h2
  exact h1
 ·subst hI
  refine ⟨_, ?_, List.replicate_succ'.symm⟩
  simp only [L38_1]
  rw [br_dt (by omega), lim_of (by simp; omega), gd_t, wrap_succ (by omega)]
 ·simp only [L38_1]
  rw [br_df (by omega)]; rfl
theorem F38_ok (n : Nat) (hok : Okay M es) (hg : okG (M : Int) es = true) (hS : S < 2 ^ M) (hi : S.testBit i = true) (hn : 200 < n) :
  ∃ l, F38 n (M : Int) es S (i : Int) = some (l, 0) ∧ l.length = M ∧ ∀ j, j < M → ∃ v, l[j]? = some v ∧ Dv es S i j v := by
 have hN := hok.le
 have hlen := hok.len
 have hS64 := lt64 hS hN
 have hiM := tb_ltN hS hi
 have hlp := lp_uptoE (body := L38_3 n (M : Int) es S (List.replicate M (-1))) M (fun (s : List Int) (v : Int) => (s, v)) id (fun d s => RI es S i M d (fun _ _ => False) s) (fun s d hd hI => ?_) (fun s _ => ?_) (n := n) (s := (List.replicate M (-1)).set i 0) ⟨by simp, fun j hj => ?_⟩ (by omega)
 ·obtain ⟨s, h1, h2⟩ := hlp
  refine ⟨s, ?_, h2.1, fun j hj => ?_⟩
  ·unfold F38
   rw [F66_eq n _ _ _ hS64 (by omega) (by omega), ob_s, ckF_fit hok hg hS]
   simp only [decide_true, Bool.not_true, br_f]
   rw [br_df (show ¬ (i : Int) < 0 by omega), br_df (show ¬ (M : Int) ≤ (i : Int) by omega), F67_eq n S i hS64 (by omega), hi]
   simp only [ob_s, Bool.not_true, br_f, L38_1_eq n M hN (by omega), List.length_replicate, inB_nat hiM, gd_t, Int.toNat_natCast, List.getElem?_replicate, if_pos hiM, h1, id_eq]
  ·obtain ⟨v, g1, g2⟩ := h2.2 j hj
   refine ⟨v, g1, ?_⟩
   rcases g2 with ⟨e, k1, k2, k3⟩ | ⟨k1, _⟩ | ⟨k1, k2, _⟩
   ·exact .inr ⟨e, k3, by omega, k2.1, k2.2⟩
   ·have := ex_le hS hi k1; omega
   ·refine .inl ⟨k1, fun k hw => ?_⟩
    obtain ⟨e, _, he⟩ := ex_of hw
    have := ex_le hS hi he
    exact k2 (wk_mono he.1 (by omega))
 ·obtain ⟨out', g1, g2⟩ := L38_2_eq n hok hS hn (List.replicate M (-1)) (by simp) d (by omega) s hI
  refine ⟨out', ?_, g2.next hok hi fun x y h1 h2 h3 => ⟨h1, h2, h3⟩⟩
  simp only [L38_3]
  rw [br_dt (by omega), g1, ob_s, wrap_succ (by omega)]
 ·simp only [L38_3]
  rw [br_df (by omega)]; rfl
 ·by_cases e : j = i
  ·subst e
   exact ⟨0, List.getElem?_set_self (by simpa using hj), .inl ⟨0, Nat.le_refl _, ⟨rfl, fun k hk => absurd hk (Nat.not_lt_zero k)⟩, rfl⟩⟩
  ·refine ⟨-1, ?_, .inr (.inr ⟨rfl, fun h => e h, fun _ h => h.elim⟩)⟩
   rw [List.getElem?_set_ne (fun e' => e e'.symm), List.getElem?_replicate, if_pos hj]
theorem Dv.one {j : Nat} {v v' : Int} (h : Dv es S i j v) (h' : Dv es S i j v') : v = v' := by
 rcases h with ⟨rfl, h⟩ | ⟨d, rfl, _, h1, h2⟩ <;> rcases h' with ⟨rfl, h'⟩ | ⟨d', rfl, _, h1', h2'⟩
 ·rfl
 ·exact absurd h1' (h d')
 ·exact absurd h1 (h' d)
 ·rw [ex_one ⟨h1, h2⟩ ⟨h1', h2'⟩]
theorem di_both (n : Nat) (N : Int) (es : List (Int × Int)) (x : Nat) (f : Int) (hx : x < 2 ^ 64) (hn : 200 < n) (hl : es.length < 4611686018427387904) (hk : es.length < n) :
  ∃ l e, F20 n N es x f = some (l, e) ∧ F38 n N es x f = some (l, e) ∧ l.length ≤ 64 := by
 by_cases h : ckF N es x = 0
 ·obtain ⟨M, rfl, hM, hxM⟩ := ckF_ok h
  have hg : okG (M : Int) es = true := by
   unfold ckF at h
   split at h
   ·assumption
   ·cases h
  have hN := hM.le
  by_cases hf : 0 ≤ f ∧ f < (M : Int) ∧ x.testBit f.toNat = true
  ·obtain ⟨f, rfl⟩ := Int.eq_ofNat_of_zero_le hf.1
   have hfb : x.testBit f = true := by simpa using hf.2.2
   obtain ⟨l, a1, a2, a3⟩ := F20_eq n M es x f hg hM hxM hfb hn
   obtain ⟨l', b1, b2, b3⟩ := F38_ok n hM hg hxM hfb hn
   have : l = l' := List.ext_getElem? fun j => by
    by_cases hj : j < M
    ·obtain ⟨v, v1, v2⟩ := a3 j hj
     obtain ⟨w, w1, w2⟩ := b3 j hj
     rw [v1, w1, v2.one w2]
    ·rw [List.getElem?_eq_none (by omega), List.getElem?_eq_none (by omega)]
   subst this
   exact ⟨l, 0, a1, b1, by omega⟩
  ·refine ⟨[], 2, ?_, ?_, by simp⟩
   ·unfold F20
    rw [F55_eq n _ es x hx (by omega) hl hk, ob_s, h]
    simp only [decide_true, Bool.not_true, br_f]
    by_cases h1 : f < 0
    ·rw [br_dt h1]; simp only [ob_s, br_t]
    ·rw [br_df h1]
     by_cases h2 : (M : Int) ≤ f
     ·rw [br_dt h2]; simp only [ob_s, br_t]
     ·rw [br_df h2]
      obtain ⟨f, rfl⟩ := Int.eq_ofNat_of_zero_le (show 0 ≤ f by omega)
      have hfb : x.testBit f = false := by
       cases e : x.testBit f with
       | false => rfl
       | true => exact absurd ⟨by omega, by omega, by simpa using e⟩ hf
      rw [F57_eq n x f hx (by omega), hfb]
      simp only [ob_s, Bool.not_false, br_t]
   ·unfold F38
    rw [F66_eq n _ es x hx hl hk, ob_s, h]
    simp only [decide_true, Bool.not_true, br_f]
    by_cases h1 : f < 0
    ·rw [br_dt h1]; simp only [ob_s, br_t]
    ·rw [br_df h1]
     by_cases h2 : (M : Int) ≤ f
     ·rw [br_dt h2]; simp only [ob_s, br_t]
     ·rw [br_df h2]
      obtain ⟨f, rfl⟩ := Int.eq_ofNat_of_zero_le (show 0 ≤ f by omega)
      have hfb : x.testBit f = false := by
       cases e : x.testBit f with
       | false => rfl
       | true => exact absurd ⟨by omega, by omega, by simpa using e⟩ hf
      rw [F67_eq n x f hx (by omega), hfb]
      simp only [ob_s, Bool.not_false, br_t]
 ·refine ⟨[], ckF N es x, ?_, ?_, by simp⟩
  ·unfold F20
   rw [F55_eq n N es x hx (by omega) hl hk, ob_s, decide_eq_false h, Bool.not_false, br_t]
  ·unfold F38
   rw [F66_eq n N es x hx hl hk, ob_s, decide_eq_false h, Bool.not_false, br_t]
theorem L5_1_eq (n x : Nat) (N f g : Int) (es : List (Int × Int)) (hx : x < 2 ^ 64) (hn : 300 < n) (hl : es.length ≤ 300) : lpN (L5_1 n f g N es x) n 0 = some (.inr ()) := by
 have one : ∀ (i : Nat) (y : Int), i < 2 → [f, g][i]? = some y → L5_1 n f g N es x (i : Int) = some (.inl ((i + 1 : Nat) : Int)) := by
  intro i y hi hy
  obtain ⟨l, e, a1, a2, a3⟩ := di_both n N es x y hx (by omega) (by omega) (by omega)
  unfold L5_1
  simp only [Int.toNat_natCast, hy, ob_s, inB_nat hi, gd_t, a1, a2, decide_true, Bool.not_true, br_f, F39_refl n l a3 (by omega), wrap_succ (show i < 4611686018427387904 by omega)]
  rw [br_dt (by omega)]
 obtain ⟨n', rfl⟩ : ∃ n', n = n' + 3 := ⟨n - 3, by omega⟩
 have s0 : L5_1 (n' + 3) f g N es x 0 = some (.inl 1) := one 0 f (by omega) rfl
 have s1 : L5_1 (n' + 3) f g N es x 1 = some (.inl 2) := one 1 g (by omega) rfl
 have s2 : L5_1 (n' + 3) f g N es x 2 = some (.inr (.inr ())) := by unfold L5_1; rw [br_df (by decide)]
 rw [lp_next (s' := 1) s0, lp_next (s' := 2) s1, lp_end s2]
theorem L5_2_eq (n r1 r2 near : Nat) (N f : Int) (es : List (Int × Int)) (h1 : r1 < 2 ^ 64) (h2 : r2 < 2 ^ 64) (hn : 300 < n) (hl : es.length ≤ 300) : lpN (L5_2 n r1 r2 N es near f) n 0 = some (.inr ()) := by
 have one : ∀ (i x : Nat), i < 2 → [r1, r2][i]? = some x → x < 2 ^ 64 → L5_2 n r1 r2 N es near f (i : Int) = some (.inl ((i + 1 : Nat) : Int)) := by
  intro i x hi hx hx64
  obtain ⟨l, e, a1, a2, a3⟩ := br_both n N es x hx64 (by omega) (by omega) (by omega)
  obtain ⟨c, e', b1, b2⟩ := cu_both n N es x hx64 (by omega) (by omega) (by omega)
  have hne : ma (mi N (64 : Int)) (1 : Int) ≠ 0 := by unfold ma; split <;> omega
  unfold L5_2
  simp only [Int.toNat_natCast, hx, ob_s, inB_nat hi, gd_t, a1, a2, b1, b2, decide_true, Bool.not_true, br_f, F34_eq n l l (by omega) (by omega), decide_eq_true hne, L5_1_eq n x N f _ es hx64 hn hl, wrap_succ (show i < 4611686018427387904 by omega)]
  rw [br_dt (by omega)]
 obtain ⟨n', rfl⟩ : ∃ n', n = n' + 3 := ⟨n - 3, by omega⟩
 have s0 : L5_2 (n' + 3) r1 r2 N es near f 0 = some (.inl 1) := one 0 r1 (by omega) rfl h1
 have s1 : L5_2 (n' + 3) r1 r2 N es near f 1 = some (.inl 2) := one 1 r2 (by omega) rfl h2
 have s2 : L5_2 (n' + 3) r1 r2 N es near f 2 = some (.inr (.inr ())) := by unfold L5_2; rw [br_df (by decide)]
 rw [lp_next (s' := 1) s0, lp_next (s' := 2) s1, lp_end s2]
theorem L5_3_eq (n : Nat) (N1 N2 N3 f : Int) (e1 e2 e3 : List (Int × Int)) (x near : Nat) (hx : x < 2 ^ 64) (hn : 300 < n) (h1 : e1.length ≤ 300) (h2 : e2.length ≤ 300) (h3 : e3.length ≤ 300) : lpN (L5_3 n N1 e1 N2 e2 N3 e3 x near f) n 0 = some (.inr ()) := by
 have one : ∀ (i : Nat) (N : Int) (es : List (Int × Int)), i < 3 → [(N1, e1), (N2, e2), (N3, e3)][i]? = some (N, es) → es.length ≤ 300 → L5_3 n N1 e1 N2 e2 N3 e3 x near f (i : Int) = some (.inl ((i + 1 : Nat) : Int)) := by
  intro i N es hi hx' hl
  obtain ⟨y, f1, f2, _⟩ := F29_eq n N es x hx
  unfold L5_3
  simp only [Int.toNat_natCast, hx', ob_s, inB_nat hi, gd_t, f1, L5_2_eq n x y near N f es hx f2 hn hl, wrap_succ (show i < 4611686018427387904 by omega)]
  rw [br_dt (by omega)]
 obtain ⟨n', rfl⟩ : ∃ n', n = n' + 4 := ⟨n - 4, by omega⟩
 have s0 : L5_3 (n' + 4) N1 e1 N2 e2 N3 e3 x near f 0 = some (.inl 1) := one 0 N1 e1 (by omega) rfl h1
 have s1 : L5_3 (n' + 4) N1 e1 N2 e2 N3 e3 x near f 1 = some (.inl 2) := one 1 N2 e2 (by omega) rfl h2
 have s2 : L5_3 (n' + 4) N1 e1 N2 e2 N3 e3 x near f 2 = some (.inl 3) := one 2 N3 e3 (by omega) rfl h3
 have s3 : L5_3 (n' + 4) N1 e1 N2 e2 N3 e3 x near f 3 = some (.inr (.inr ())) := by unfold L5_3; rw [br_df (by decide)]
 rw [lp_next (s' := 1) s0, lp_next (s' := 2) s1, lp_next (s' := 3) s2, lp_end s3]
theorem F5_true (n x1 x2 x3 : Nat) (l4 : List (Nat × Nat)) (x8 x9 : Nat) (x10 x11 x12 : Int) (x13 x14 : Nat) (x15 x16 x17 : Int) (x18 : Nat) (x19 : Int) (x20 : Nat) (h9 : x9 < 256) (h14 : x14 < 256) (h18 : x18 < 2 ^ 64) (hn : 300 < n) :
  F5 n x1 x2 x3 l4 x8 x9 x10 x11 x12 x13 x14 x15 x16 x17 x18 x19 x20 = some true := by
 obtain ⟨N1, e1, N2, e2, N3, e3, h1, g1, g2, g3, _⟩ := F28_tot n x1 x2 x3 l4 x8 x9 x10 x11 x12 x13 x14 x15 x16 x17 h9 h14 (by omega)
 unfold F5
 rw [h1, ob_s]
 simp only [L5_3_eq n N1 N2 N3 x19 e1 e2 e3 x18 x20 h18 hn g1 g2 g3, ob_s]
 rfl
end
end Go.Proofs.YtpclggcpobakhaaDoor
end
