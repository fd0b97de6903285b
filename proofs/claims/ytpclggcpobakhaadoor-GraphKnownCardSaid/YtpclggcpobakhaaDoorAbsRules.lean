/-
  The abstract machine: rewriting rules for a walk by 'simp only': operands, arithmetic.
-/
import Derived.Test.YtpclggcpobakhaaDoorAbsWp
namespace Go.Ab
open Go

section
variable {E : Env} {t : Tm} {ty : TypeId} {P : Program}

theorem ev_tmp (i : Nat) : evalA E t (.tmp i) = some (t.at i) := rfl
theorem ev_int (k : IntKind) (n : Int) : evalA E t (.const (.int k n)) = some (.int k n) := rfl
theorem ev_bool (b : Bool) : evalA E t (.const (.bool b)) = some (.bool b) := rfl
theorem ev_string (s : ByteArray) : evalA E t (.const (.string s)) = some (.string s) := rfl
theorem ev_snil (l c : Nat) : evalA E t (.const (.slice none l c)) = some (.slice none l c) := rfl
theorem ev_pnil : evalA E t (.const (.pointer none)) = some (.pointer none) := rfl
theorem ev_mnil : evalA E t (.const (.map none)) = some (.map none) := rfl
theorem ev_func (f : FuncId) : evalA E t (.func f) = some (.func (.func f) #[] #[]) := rfl

theorem bin_add (k : IntKind) (a b : Int) : binA .add ty P (.int k a) (.int k b) = some (.int k (k.wrap (a + b))) := by simp only [binA, if_true]
theorem bin_sub (k : IntKind) (a b : Int) : binA .sub ty P (.int k a) (.int k b) = some (.int k (k.wrap (a - b))) := by simp only [binA, if_true]
theorem bin_mul (k : IntKind) (a b : Int) : binA .mul ty P (.int k a) (.int k b) = some (.int k (k.wrap (a * b))) := by simp only [binA, if_true]
theorem bin_quo (k : IntKind) (a b : Int) (h : b ≠ 0) : binA .quo ty P (.int k a) (.int k b) = some (.int k (k.wrap (a.tdiv b))) := by simp only [binA, if_true, if_neg h]
theorem bin_rem (k : IntKind) (a b : Int) (h : b ≠ 0) : binA .rem ty P (.int k a) (.int k b) = some (.int k (a.tmod b)) := by simp only [binA, if_true, if_neg h]
theorem bin_lss (k : IntKind) (a b : Int) : binA .lss ty P (.int k a) (.int k b) = some (.bool (decide (a < b))) := by simp only [binA, if_true]
theorem bin_leq (k : IntKind) (a b : Int) : binA .leq ty P (.int k a) (.int k b) = some (.bool (decide (a ≤ b))) := by simp only [binA, if_true]
theorem bin_gtr (k : IntKind) (a b : Int) : binA .gtr ty P (.int k a) (.int k b) = some (.bool (decide (b < a))) := by simp only [binA, if_true, gt_iff_lt]
theorem bin_geq (k : IntKind) (a b : Int) : binA .geq ty P (.int k a) (.int k b) = some (.bool (decide (b ≤ a))) := by simp only [binA, if_true, ge_iff_le]
theorem bin_eql (k : IntKind) (a b : Int) : binA .eql ty P (.int k a) (.int k b) = some (.bool (decide (a = b))) := by simp only [binA, if_true]; rfl
theorem bin_neq (k : IntKind) (a b : Int) : binA .neq ty P (.int k a) (.int k b) = some (.bool (decide (a ≠ b))) := by
  simp only [binA, if_true]
  by_cases h : a = b <;> simp [h]

/-! ### Sets: words of 64 bits, as numbers -/
theorem u64_wrap (x : Nat) (h : x < 2 ^ 64) : IntKind.u64.wrap (x : Int) = (x : Int) := by
  have : ((x : Int)) % 18446744073709551616 = (x : Int) := Int.emod_eq_of_lt (by omega) (by omega)
  simpa [IntKind.wrap, IntKind.bits, IntKind.signed] using this
theorem ofInt_nat (x : Nat) : BitVec.ofInt 64 (x : Int) = BitVec.ofNat 64 x := by simp

theorem bin_and64 (x y : Nat) (hx : x < 2 ^ 64) (hy : y < 2 ^ 64) : binA .and ty P (.int .u64 (x : Int)) (.int .u64 (y : Int)) = some (.int .u64 ((x &&& y : Nat) : Int)) := by
  simp only [binA, if_true]
  have h1 : (BitVec.ofInt IntKind.u64.bits (x : Int) &&& BitVec.ofInt IntKind.u64.bits (y : Int)).toNat = x &&& y := by
    show (BitVec.ofInt 64 (x : Int) &&& BitVec.ofInt 64 (y : Int)).toNat = x &&& y
    rw [ofInt_nat, ofInt_nat, BitVec.toNat_and, BitVec.toNat_ofNat, BitVec.toNat_ofNat, Nat.mod_eq_of_lt hx, Nat.mod_eq_of_lt hy]
  rw [h1, u64_wrap _ (Nat.lt_of_le_of_lt Nat.and_le_left hx)]
theorem bin_or64 (x y : Nat) (hx : x < 2 ^ 64) (hy : y < 2 ^ 64) : binA .or ty P (.int .u64 (x : Int)) (.int .u64 (y : Int)) = some (.int .u64 ((x ||| y : Nat) : Int)) := by
  simp only [binA, if_true]
  have h1 : (BitVec.ofInt IntKind.u64.bits (x : Int) ||| BitVec.ofInt IntKind.u64.bits (y : Int)).toNat = x ||| y := by
    show (BitVec.ofInt 64 (x : Int) ||| BitVec.ofInt 64 (y : Int)).toNat = x ||| y
    rw [ofInt_nat, ofInt_nat, BitVec.toNat_or, BitVec.toNat_ofNat, BitVec.toNat_ofNat, Nat.mod_eq_of_lt hx, Nat.mod_eq_of_lt hy]
  rw [h1, u64_wrap _ (Nat.or_lt_two_pow hx hy)]
theorem bin_shr64 (x k : Nat) (kd : IntKind) (hk : k < 64) : binA .shr ty P (.int .u64 (x : Int)) (.int kd (k : Int)) = some (.int .u64 ((x >>> k : Nat) : Int)) := by
  have h0 : ¬ ((k : Int) < 0) := by omega
  simp only [binA, if_neg h0]
  have h1 : min ((k : Int)).toNat IntKind.u64.bits = k := by
    show min ((k : Int)).toNat 64 = k
    simp; omega
  rw [h1, Nat.shiftRight_eq_div_pow]
  congr 2
  show Int.fdiv (x : Int) ((2 : Int) ^ k) = _
  have h2 : ((2 : Int) ^ k) = ((2 ^ k : Nat) : Int) := by simp
  rw [h2, Int.fdiv_eq_ediv_of_nonneg _ (Int.natCast_nonneg _)]
  exact (Int.natCast_ediv x (2 ^ k)).symm
end
end Go.Ab
