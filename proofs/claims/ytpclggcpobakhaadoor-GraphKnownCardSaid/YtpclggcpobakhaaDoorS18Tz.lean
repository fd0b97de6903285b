/-
  Chapter 18: the contract of bits.TrailingZeros64.
-/
import Derived.Test.YtpclggcpobakhaaDoorS18Facts
import Derived.Test.YtpclggcpobakhaaDoorAbsStep2
namespace Go.Proofs.YtpclggcpobakhaaDoor
open Go Go.Ab
set_option maxRecDepth 10000

theorem tab_tz : ∀ k : Fin 64, (tabInts.map (Value.int .u8))[(2 ^ k.val * 285870213051353865 % 2 ^ 64) >>> 58]?.map (fun v => match v with | .int .u8 n => decide (n = k.val) | _ => false) = some true := by decide +kernel
theorem tab_at (k : Nat) (hk : k < 64) : (tabInts.map (Value.int .u8))[(2 ^ k * 285870213051353865 % 2 ^ 64) >>> 58]? = some (.int .u8 (k : Int)) := by
  have := tab_tz ⟨k, hk⟩
  cases h : (tabInts.map (Value.int .u8))[(2 ^ k * 285870213051353865 % 2 ^ 64) >>> 58]? with
  | none => rw [h] at this; cases this
  | some v =>
    rw [h] at this
    simp only [Option.map_some, Option.some.injEq] at this
    split at this
    · rw [of_decide_eq_true this]
    · cases this
def neg64 (x : Nat) : Nat := 2 ^ 64 - x
def mul64 (x y : Nat) : Nat := x * y % 2 ^ 64
theorem neg_u64 (x : Nat) (h0 : 0 < x) (h1 : x < 2 ^ 64) : unA .neg (.int .u64 (x : Int)) = some (.int .u64 ((neg64 x : Nat) : Int)) := by
  simp only [unA, neg64]
  have : IntKind.u64.wrap (0 - (x : Int)) = ((2 ^ 64 - x : Nat) : Int) := by
    unfold IntKind.wrap IntKind.bits IntKind.signed
    simp only [Bool.false_and, Bool.false_eq_true, if_false]
    omega
  rw [this]
theorem mul_u64 {ty : TypeId} {P : Program} (x : Nat) : binA .mul ty P (.int .u64 (x : Int)) (.int .u64 285870213051353865) = some (.int .u64 ((mul64 x 285870213051353865 : Nat) : Int)) := by
  simp only [binA, if_true, mul64]
  have : IntKind.u64.wrap ((x : Int) * 285870213051353865) = ((x * 285870213051353865 % 2 ^ 64 : Nat) : Int) := by
    unfold IntKind.wrap IntKind.bits IntKind.signed
    simp only [Bool.false_and, Bool.false_eq_true, if_false]
    omega
  rw [this]
theorem shr_u64 {ty : TypeId} {P : Program} (x : Nat) : binA .shr ty P (.int .u64 (x : Int)) (.int .u64 58) = some (.int .u64 ((x >>> 58 : Nat) : Int)) := bin_shr64 x 58 .u64 (by omega)
theorem and_u64 {ty : TypeId} {P : Program} (x : Nat) (h0 : 0 < x) (h1 : x < 2 ^ 64) : binA .and ty P (.int .u64 (x : Int)) (.int .u64 ((neg64 x : Nat) : Int)) = some (.int .u64 ((2 ^ tz x : Nat) : Int)) := by
  rw [bin_and64 x (neg64 x) h1 (by unfold neg64; omega)]
  unfold neg64
  rw [(tz_low h0 h1).2.1]
theorem tab_idx (k : Nat) (hk : k < 64) : indexAddrA Tryd.prog 104 (ptr 0 0) (.int .u64 ((mul64 (2 ^ k) 285870213051353865 >>> 58 : Nat) : Int)) = some (ptr 0 (mul64 (2 ^ k) 285870213051353865 >>> 58)) := by
  have hlt : mul64 (2 ^ k) 285870213051353865 >>> 58 < 64 := by
    rw [Nat.shiftRight_eq_div_pow]
    have : mul64 (2 ^ k) 285870213051353865 < 2 ^ 64 := Nat.mod_lt _ (by omega)
    omega
  rw [idxArr u104 k5 s5 hlt]
  simp
def dbMul (k : Nat) : Nat := mul64 (2 ^ k) 285870213051353865
def dbIdx (k : Nat) : Nat := dbMul k >>> 58
theorem mul_db {ty : TypeId} {P : Program} (k : Nat) : binA .mul ty P (.int .u64 ((2 ^ k : Nat) : Int)) (.int .u64 285870213051353865) = some (.int .u64 ((dbMul k : Nat) : Int)) := mul_u64 _
theorem shr_db {ty : TypeId} {P : Program} (k : Nat) : binA .shr ty P (.int .u64 ((dbMul k : Nat) : Int)) (.int .u64 58) = some (.int .u64 ((dbIdx k : Nat) : Int)) := shr_u64 _
theorem idx_db (k : Nat) (hk : k < 64) : indexAddrA Tryd.prog 104 (ptr 0 0) (.int .u64 ((dbIdx k : Nat) : Int)) = some (ptr 0 (dbIdx k)) := tab_idx k hk
theorem conv_5_3 (n : Nat) (h : n < 2 ^ 63) : convA Tryd.prog 5 3 (.int .u8 (n : Int)) = some (.int .i64 (n : Int)) := by
  simp only [convA, u5, u3]
  rw [wrap_i64 _ (by omega) (by omega)]

theorem load_db (k : Nat) (hk : k < 64) {m : AMem} (hm : m.get 0 = some (.cells (tabInts.map (.int .u8)) .ro)) : loadA Tryd.prog 5 (ptr 0 (dbIdx k)) m = some (.int .u8 (k : Int)) := loadOne k5 a5 hm (tab_at k hk)
theorem tz_spec (x : Nat) (hx : x < 2 ^ 64) (m : AMem) (hm : m.get 0 = some (.cells (tabInts.map (.int .u8)) .ro)) : CallA E18 42 [.int .u64 (x : Int)] m (fun v m' => v = .int .i64 (tz x : Int) ∧ m' = m) := by
  refine CallA.enterM (N := 14) (rs := [.tmp 2]) rfl Tryd.func42 rfl rfl rfl ?_
  simp only [ofList_cons, ofList_nil]
  (repeat refine CodeA.seq ?_); refine CodeA.regionK fun K hK => ?_
  refine st_op rfl (o_assign (ev_int _ _)) (lt_b rfl) ?_
  refine hK _ _ ?_; clear hK K; try simp only [ta_normal]
  (repeat refine CodeA.seq ?_); refine CodeA.regionK fun K hK => ?_
  refine st_op rfl (o_move (ev_at (by repeat first | (apply at_skip; rfl) | exact at_hit _ _ _ | assumption))) (lt_b rfl) ?_
  refine st_op rfl (o_bin (ev_at (by repeat first | (apply at_skip; rfl) | exact at_hit _ _ _ | assumption)) (ev_int _ _) (bin_eql _ _ _)) (lt_b rfl) ?_
  refine hK _ _ ?_; clear hK K; try simp only [ta_normal]
  by_cases h0 : x = 0
  · refine CodeA.cond (c := true) ((ev_at (by repeat first | (apply at_skip; rfl) | exact at_hit _ _ _ | assumption)).trans (by rw [h0]; rfl)) (fun _ => ?_) (fun h => by cases h)
    (repeat refine CodeA.seq ?_); refine CodeA.regionK fun K hK => ?_
    refine st_op rfl (o_assign (ev_int _ _)) (lt_b rfl) ?_
    refine hK _ _ ?_; clear hK K; try simp only [ta_normal]
    refine CodeA.ret ?_; simp only [ta_ret, ib_ret, em_ret, resultsA, resM_some, tupleA, Option.map_some, at_set, Nat.reduceEqDiff, reduceIte]
    rw [h0]
    exact ⟨by trivial, by trivial⟩
  · have hp : 0 < x := by omega
    have hk := (tz_low hp hx).1
    refine CodeA.cond (c := false) ((ev_at (by repeat first | (apply at_skip; rfl) | exact at_hit _ _ _ | assumption)).trans (by rw [decide_eq_false (by omega)])) (fun h => by cases h) (fun _ => ?_)
    refine CodeA.skip ?_
    rw [ta_normal]
    (repeat refine CodeA.seq ?_); refine CodeA.regionK fun K hK => ?_
    refine st_op rfl (o_move (ev_at (by repeat first | (apply at_skip; rfl) | exact at_hit _ _ _ | assumption))) (lt_b rfl) ?_
    refine st_op rfl (o_move (ev_at (by repeat first | (apply at_skip; rfl) | exact at_hit _ _ _ | assumption))) (lt_b rfl) ?_
    refine st_op rfl (o_un (ev_at (by repeat first | (apply at_skip; rfl) | exact at_hit _ _ _ | assumption)) (neg_u64 x hp hx)) (lt_b rfl) ?_
    refine st_op rfl (o_bin (ev_at (by repeat first | (apply at_skip; rfl) | exact at_hit _ _ _ | assumption)) (ev_at (by repeat first | (apply at_skip; rfl) | exact at_hit _ _ _ | assumption)) (and_u64 x hp hx)) (lt_b rfl) ?_
    refine st_op rfl (o_bin (ev_at (by repeat first | (apply at_skip; rfl) | exact at_hit _ _ _ | assumption)) (ev_int _ _) (mul_db _)) (lt_b rfl) ?_
    refine st_op rfl (o_bin (ev_at (by repeat first | (apply at_skip; rfl) | exact at_hit _ _ _ | assumption)) (ev_int _ _) (shr_db _)) (lt_b rfl) ?_
    refine st_op rfl (o_indexAddr rfl (ev_at (by repeat first | (apply at_skip; rfl) | exact at_hit _ _ _ | assumption)) (idx_db _ hk)) (lt_b rfl) ?_
    refine st_op rfl (o_load (ev_at (by repeat first | (apply at_skip; rfl) | exact at_hit _ _ _ | assumption)) (load_db _ hk hm)) (lt_b rfl) ?_
    refine st_op rfl (o_conv (ev_at (by repeat first | (apply at_skip; rfl) | exact at_hit _ _ _ | assumption)) (conv_5_3 _ (Nat.lt_trans hk (by decide)))) (lt_b rfl) ?_
    refine st_op rfl (o_assign (ev_at (by repeat first | (apply at_skip; rfl) | exact at_hit _ _ _ | assumption))) (lt_b rfl) ?_
    refine hK _ _ ?_; clear hK K; try simp only [ta_normal]
    refine CodeA.ret ?_; simp only [ta_ret, ib_ret, em_ret, resultsA, resM_some, tupleA, Option.map_some, at_set, Nat.reduceEqDiff, reduceIte]
    exact ⟨by trivial, by trivial⟩
end Go.Proofs.YtpclggcpobakhaaDoor
