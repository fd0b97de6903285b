/-
  An evaluator that the kernel likes: the operations that are no calls of functions.
-/
import Derived.Test.YtpclggcpobakhaaDoorAbsFastK
import Derived.Test.YtpclggcpobakhaaDoorAbsRules
namespace Go.Ab
open Go

structure OpSem where
  run : Tm → AMem → (Value → AMem → Bool) → Bool
def OkOp (E : Env) (S : OpSem) (o : Op) : Prop := ∀ {t : Tm} {m : AMem} {K : Value → AMem → Bool}, S.run t m K = true → ∃ v m', opA E t m o = some (v, m') ∧ K v m' = true
noncomputable def noOp : OpSem := ⟨fun _ _ _ => false⟩
theorem noOp_ok {E : Env} {o : Op} : OkOp E noOp o := fun h => by cases h
noncomputable def genOp (E : Env) (o : Op) : OpSem :=
  ⟨fun t m K => Option.rec (motive := fun _ => Bool) false (fun r => Prod.rec (motive := fun _ => Bool) (fun v m' => fV v fun v => fM m' fun m' => K v m') r) (opA E t m o)⟩
theorem genOp_ok {E : Env} {o : Op} : OkOp E (genOp E o) o := by
  intro t m K h
  unfold genOp at h
  simp only at h
  cases he : opA E t m o with
  | none => rw [he] at h; cases h
  | some r =>
    obtain ⟨v, m'⟩ := r
    rw [he] at h
    simp only [fV_eq, fM_eq] at h
    exact ⟨v, m', rfl, h⟩

/-- A value that may be missing. -/
noncomputable def optV (r : Option Value) (K : Value → Bool) : Bool := Option.rec (motive := fun _ => Bool) false (fun v => fV v K) r
theorem optV_true {r : Option Value} {K : Value → Bool} (h : optV r K = true) : ∃ v, r = some v ∧ K v = true := by
  cases r with
  | none => cases h
  | some v => exact ⟨v, rfl, by rw [← fV_eq v K]; exact h⟩

section
variable {E : Env} {t : Tm} {m : AMem}

noncomputable def cget (E : Env) (x : Operand) : Get :=
  match x with
  | .tmp i => if i < 512 then getT i else ⟨fun _ _ => false⟩
  | .const v => if plainV v = true then ⟨fun _ k => k v⟩ else ⟨fun _ _ => false⟩
  | .global g => if g < E.glob then ⟨fun _ k => k (ptr g 0)⟩ else ⟨fun _ _ => false⟩
  | .func f => ⟨fun _ k => k (.func (.func f) #[] #[])⟩
theorem cget_ok {x : Operand} {k : Value → Bool} (h : (cget E x).run t k = true) : ∃ v, evalA E t x = some v ∧ k v = true := by
  unfold cget at h
  split at h
  · rename_i i
    split at h
    · rename_i hi; rw [getT_eq i hi] at h; exact ⟨_, rfl, h⟩
    · cases h
  · rename_i v
    split at h
    · rename_i hp; exact ⟨v, by simp only [evalA, if_pos hp], h⟩
    · cases h
  · rename_i g
    split at h
    · rename_i hp; exact ⟨_, by simp only [evalA, if_pos hp], h⟩
    · cases h
  · exact ⟨_, rfl, h⟩

structure Gets where
  run : Tm → (List Value → Bool) → Bool
noncomputable def cgets (E : Env) : List Operand → Gets
  | [] => ⟨fun _ k => k []⟩
  | x :: xs => ⟨fun t k => (cget E x).run t fun v => (cgets E xs).run t fun vs => k (v :: vs)⟩
theorem cgets_ok : ∀ {xs : List Operand} {k : List Value → Bool}, (cgets E xs).run t k = true → ∃ vs, evalAll E t xs = some vs ∧ k vs = true
  | [], k, h => ⟨[], rfl, h⟩
  | x :: xs, k, h => by
    obtain ⟨v, h1, h2⟩ := cget_ok (x := x) h
    obtain ⟨vs, h3, h4⟩ := cgets_ok h2
    exact ⟨v :: vs, by simp only [evalAll, h1, h3], h4⟩
structure Parts where
  run : Tm → (List (Nat × Value) → Bool) → Bool
noncomputable def cparts (E : Env) : List (Nat × Operand) → Parts
  | [] => ⟨fun _ k => k []⟩
  | (i, x) :: xs => ⟨fun t k => (cget E x).run t fun v => (cparts E xs).run t fun vs => k ((i, v) :: vs)⟩
theorem cparts_ok : ∀ {xs : List (Nat × Operand)} {k : List (Nat × Value) → Bool}, (cparts E xs).run t k = true → ∃ vs, evalParts E t xs = some vs ∧ k vs = true
  | [], k, h => ⟨[], rfl, h⟩
  | (i, x) :: xs, k, h => by
    obtain ⟨v, h1, h2⟩ := cget_ok (x := x) h
    obtain ⟨vs, h3, h4⟩ := cparts_ok h2
    exact ⟨(i, v) :: vs, by simp only [evalParts, h1, h3], h4⟩
structure OptGet where
  run : Tm → (Option Value → Bool) → Bool
noncomputable def copt (E : Env) (x : Option Operand) : OptGet :=
  match x with
  | none => ⟨fun _ k => k none⟩
  | some x => ⟨fun t k => (cget E x).run t fun v => k (some v)⟩
theorem copt_ok {x : Option Operand} {k : Option Value → Bool} (h : (copt E x).run t k = true) : ∃ v, optVal E t x = some v ∧ k v = true := by
  unfold copt at h
  split at h
  · exact ⟨none, rfl, h⟩
  · rename_i x
    obtain ⟨v, h1, h2⟩ := cget_ok (x := x) h
    exact ⟨some v, by simp only [optVal, h1, Option.map_some], h2⟩

/-! ### Arithmetic -/
structure BinSem where
  run : Value → Value → (Value → Bool) → Bool
noncomputable def isIntK (v : Value) : Bool :=
  Value.rec (motive_1 := fun _ => Bool) (motive_2 := fun _ => Bool) (motive_3 := fun _ => Bool) (fun _ => false) (fun _ _ => true) (fun _ _ => false) (fun _ _ _ => false) (fun _ => false) (fun _ => false) (fun _ _ _ => false) (fun _ => false) (fun _ => false) (fun _ _ _ _ _ => false) false (fun _ _ _ => false) false (fun _ _ => false) (fun _ _ => false)
    (fun _ _ => false) false (fun _ _ _ _ => false) v
noncomputable def natZ (a : Int) (k : Nat → Bool) (slow : Bool) : Bool := Int.rec (motive := fun _ => Bool) (fun m => k m) (fun _ => slow) a
theorem natZ_cases {a : Int} {k : Nat → Bool} {slow : Bool} (h : natZ a k slow = true) : (∃ m : Nat, a = (m : Int) ∧ k m = true) ∨ slow = true := by
  cases a with
  | ofNat m => exact .inl ⟨m, rfl, h⟩
  | negSucc m => exact .inr h
/-- Two words of 64 bits. -/
noncomputable def word2 (x y : Value) (k : Nat → Nat → Bool) (slow : Bool) : Bool :=
  vInt x fun kx a => vInt y fun ky b => ifB (eqKind kx .u64) (ifB (eqKind ky .u64) (natZ a (fun m => natZ b (fun n => ifB (Nat.ble m 18446744073709551615) (ifB (Nat.ble n 18446744073709551615) (k m n) slow) slow) slow) slow) slow) slow
theorem word2_cases {x y : Value} {k : Nat → Nat → Bool} {slow : Bool} (h : word2 x y k slow = true) : (∃ m n : Nat, m < 2 ^ 64 ∧ n < 2 ^ 64 ∧ x = .int .u64 (m : Int) ∧ y = .int .u64 (n : Int) ∧ k m n = true) ∨ slow = true := by
  have g := vInt_true h; clear h; obtain ⟨kx, a, e1, h⟩ := g
  have g := vInt_true h; clear h; obtain ⟨ky, b, e2, h⟩ := g
  have g := ifB_true h; clear h; rcases g with ⟨h1, h⟩ | ⟨_, h⟩
  · have g := ifB_true h; clear h; rcases g with ⟨h2, h⟩ | ⟨_, h⟩
    · have g := natZ_cases h; clear h; rcases g with ⟨m, rfl, h⟩ | h
      · have g := natZ_cases h; clear h; rcases g with ⟨n, rfl, h⟩ | h
        · have g := ifB_true h; clear h; rcases g with ⟨h3, h⟩ | ⟨_, h⟩
          · have g := ifB_true h; clear h; rcases g with ⟨h4, h⟩ | ⟨_, h⟩
            · cases eqKind_true h1
              cases eqKind_true h2
              have := Nat.le_of_ble_eq_true h3
              have := Nat.le_of_ble_eq_true h4
              exact .inl ⟨m, n, by omega, by omega, e1, e2, h⟩
            · exact .inr h
          · exact .inr h
        · exact .inr h
      · exact .inr h
    · exact .inr h
  · exact .inr h

theorem bin_xor64 {ty : TypeId} {P : Program} (x y : Nat) (hx : x < 2 ^ 64) (hy : y < 2 ^ 64) : binA .xor ty P (.int .u64 (x : Int)) (.int .u64 (y : Int)) = some (.int .u64 ((x ^^^ y : Nat) : Int)) := by
  simp only [binA, if_true]
  have h1 : (BitVec.ofInt IntKind.u64.bits (x : Int) ^^^ BitVec.ofInt IntKind.u64.bits (y : Int)).toNat = x ^^^ y := by
    show (BitVec.ofInt 64 (x : Int) ^^^ BitVec.ofInt 64 (y : Int)).toNat = x ^^^ y
    rw [ofInt_nat, ofInt_nat, BitVec.toNat_xor, BitVec.toNat_ofNat, BitVec.toNat_ofNat, Nat.mod_eq_of_lt hx, Nat.mod_eq_of_lt hy]
  rw [h1, u64_wrap _ (Nat.xor_lt_two_pow hx hy)]
theorem and_not_nat (x y : Nat) (hx : x < 2 ^ 64) (hy : y < 2 ^ 64) : x &&& (2 ^ 64 - 1 - y) = x ^^^ (x &&& y) := by
  apply Nat.eq_of_testBit_eq
  intro i
  rw [Nat.testBit_and, Nat.testBit_xor, Nat.testBit_and, show 2 ^ 64 - 1 - y = 2 ^ 64 - (y + 1) by omega, Nat.testBit_two_pow_sub_succ hy]
  by_cases hi : i < 64
  · simp only [hi, decide_true, Bool.true_and]
    cases x.testBit i <;> cases y.testBit i <;> rfl
  · have : x.testBit i = false := Nat.testBit_lt_two_pow (Nat.lt_of_lt_of_le hx (Nat.pow_le_pow_right (by omega) (by omega)))
    simp [this]
theorem bin_andNot64 {ty : TypeId} {P : Program} (x y : Nat) (hx : x < 2 ^ 64) (hy : y < 2 ^ 64) : binA .andNot ty P (.int .u64 (x : Int)) (.int .u64 (y : Int)) = some (.int .u64 ((x ^^^ (x &&& y) : Nat) : Int)) := by
  simp only [binA, if_true]
  have h1 : (BitVec.ofInt IntKind.u64.bits (x : Int) &&& ~~~BitVec.ofInt IntKind.u64.bits (y : Int)).toNat = x ^^^ (x &&& y) := by
    show (BitVec.ofInt 64 (x : Int) &&& ~~~BitVec.ofInt 64 (y : Int)).toNat = x ^^^ (x &&& y)
    rw [ofInt_nat, ofInt_nat, BitVec.toNat_and, BitVec.toNat_not, BitVec.toNat_ofNat, BitVec.toNat_ofNat, Nat.mod_eq_of_lt hx, Nat.mod_eq_of_lt hy, and_not_nat x y hx hy]
  rw [h1, u64_wrap _ (Nat.xor_lt_two_pow hx (Nat.and_lt_two_pow _ hy))]

noncomputable def genBin (op : BinOp) (xt : TypeId) (P : Program) (x y : Value) (K : Value → Bool) : Bool := optV (binA op xt P x y) K
noncomputable def cbin (op : BinOp) (xt : TypeId) (P : Program) : BinSem :=
  match op with
  | .add => ⟨fun x y K => two x y fun kd a b => wrapK kd (addZ a b) fun n => K (.int kd n)⟩
  | .sub => ⟨fun x y K => two x y fun kd a b => wrapK kd (subZ a b) fun n => K (.int kd n)⟩
  | .lss => ⟨fun x y K => two x y fun _ a b => fB (ltZ a b) fun c => K (.bool c)⟩
  | .gtr => ⟨fun x y K => two x y fun _ a b => fB (ltZ b a) fun c => K (.bool c)⟩
  | .leq => ⟨fun x y K => two x y fun _ a b => fB (ltZ b a) fun c => K (.bool (not c))⟩
  | .geq => ⟨fun x y K => two x y fun _ a b => fB (ltZ a b) fun c => K (.bool (not c))⟩
  | .eql => ⟨fun x y K => ifB (isIntK x) (two x y fun _ a b => fB (eqZ a b) fun c => K (.bool c)) (genBin .eql xt P x y K)⟩
  | .neq => ⟨fun x y K => ifB (isIntK x) (two x y fun _ a b => fB (eqZ a b) fun c => K (.bool (not c))) (genBin .neq xt P x y K)⟩
  | .and => ⟨fun x y K => word2 x y (fun m n => fN (Nat.land m n) fun r => K (.int .u64 (.ofNat r))) (genBin .and xt P x y K)⟩
  | .or => ⟨fun x y K => word2 x y (fun m n => fN (Nat.lor m n) fun r => K (.int .u64 (.ofNat r))) (genBin .or xt P x y K)⟩
  | .xor => ⟨fun x y K => word2 x y (fun m n => fN (Nat.xor m n) fun r => K (.int .u64 (.ofNat r))) (genBin .xor xt P x y K)⟩
  | .andNot => ⟨fun x y K => word2 x y (fun m n => fN (Nat.xor m (Nat.land m n)) fun r => K (.int .u64 (.ofNat r))) (genBin .andNot xt P x y K)⟩
  | op => ⟨fun x y K => genBin op xt P x y K⟩
theorem cbin_ok {op : BinOp} {xt : TypeId} {P : Program} {x y : Value} {K : Value → Bool} (h : (cbin op xt P).run x y K = true) : ∃ v, binA op xt P x y = some v ∧ K v = true := by
  have hnot : ∀ a b : Int, (decide (a ≤ b)) = not (decide (b < a)) := by intro a b; rw [Bool.eq_iff_iff]; simp
  unfold cbin at h
  split at h
  · have g := two_true h; clear h; obtain ⟨kd, a, b, rfl, rfl, h⟩ := g
    rw [wrapK_eq, addZ_eq] at h
    exact ⟨_, bin_add kd a b, h⟩
  · have g := two_true h; clear h; obtain ⟨kd, a, b, rfl, rfl, h⟩ := g
    rw [wrapK_eq, subZ_eq] at h
    exact ⟨_, bin_sub kd a b, h⟩
  · have g := two_true h; clear h; obtain ⟨kd, a, b, rfl, rfl, h⟩ := g
    rw [fB_eq, ltZ_eq] at h
    exact ⟨_, bin_lss kd a b, h⟩
  · have g := two_true h; clear h; obtain ⟨kd, a, b, rfl, rfl, h⟩ := g
    rw [fB_eq, ltZ_eq] at h
    exact ⟨_, bin_gtr kd a b, h⟩
  · have g := two_true h; clear h; obtain ⟨kd, a, b, rfl, rfl, h⟩ := g
    rw [fB_eq, ltZ_eq, ← hnot] at h
    exact ⟨_, bin_leq kd a b, h⟩
  · have g := two_true h; clear h; obtain ⟨kd, a, b, rfl, rfl, h⟩ := g
    rw [fB_eq, ltZ_eq, ← hnot] at h
    exact ⟨_, bin_geq kd a b, h⟩
  · have g := ifB_true h; clear h; rcases g with ⟨_, h⟩ | ⟨_, h⟩
    · have g := two_true h; clear h; obtain ⟨kd, a, b, rfl, rfl, h⟩ := g
      rw [fB_eq, eqZ_eq] at h
      exact ⟨_, by simp only [binA, if_true], h⟩
    · exact optV_true h
  · have g := ifB_true h; clear h; rcases g with ⟨_, h⟩ | ⟨_, h⟩
    · have g := two_true h; clear h; obtain ⟨kd, a, b, rfl, rfl, h⟩ := g
      rw [fB_eq, eqZ_eq] at h
      exact ⟨_, by simp only [binA, if_true]; rfl, h⟩
    · exact optV_true h
  · have g := word2_cases h; clear h; rcases g with ⟨a, b, ha, hb, rfl, rfl, h⟩ | h
    · rw [fN_eq] at h
      exact ⟨_, bin_and64 a b ha hb, h⟩
    · exact optV_true h
  · have g := word2_cases h; clear h; rcases g with ⟨a, b, ha, hb, rfl, rfl, h⟩ | h
    · rw [fN_eq] at h
      exact ⟨_, bin_or64 a b ha hb, h⟩
    · exact optV_true h
  · have g := word2_cases h; clear h; rcases g with ⟨a, b, ha, hb, rfl, rfl, h⟩ | h
    · rw [fN_eq] at h
      exact ⟨_, bin_xor64 a b ha hb, h⟩
    · exact optV_true h
  · have g := word2_cases h; clear h; rcases g with ⟨a, b, ha, hb, rfl, rfl, h⟩ | h
    · rw [fN_eq] at h
      exact ⟨_, bin_andNot64 a b ha hb, h⟩
    · exact optV_true h
  · exact optV_true h

structure UnSem where
  run : Value → (Value → Bool) → Bool
noncomputable def cun (op : UnOp) : UnSem :=
  match op with
  | .not => ⟨fun x K => vBool x (fun b => fB b fun b => K (.bool (not b))) false⟩
  | op => ⟨fun x K => optV (unA op x) K⟩
theorem cun_ok {op : UnOp} {x : Value} {K : Value → Bool} (h : (cun op).run x K = true) : ∃ v, unA op x = some v ∧ K v = true := by
  unfold cun at h
  split at h
  · have g := vBool_true h; clear h; obtain ⟨b, rfl, h⟩ := g
    rw [fB_eq] at h
    exact ⟨_, rfl, h⟩
  · exact optV_true h
noncomputable def cconv (P : Program) (src dst : TypeId) : UnSem :=
  match P.underlying src, P.underlying dst with
  | some _, some (.int k) => ⟨fun x K => ifB (isIntK x) (vInt x fun _ n => wrapK k n fun n => K (.int k n)) (optV (convA P src dst x) K)⟩
  | _, _ => ⟨fun x K => optV (convA P src dst x) K⟩
theorem cconv_ok {P : Program} {src dst : TypeId} {x : Value} {K : Value → Bool} (h : (cconv P src dst).run x K = true) : ∃ v, convA P src dst x = some v ∧ K v = true := by
  unfold cconv at h
  split at h
  · rename_i a k h1 h2
    have g := ifB_true h; clear h; rcases g with ⟨_, h⟩ | ⟨_, h⟩
    · have g := vInt_true h; clear h; obtain ⟨kd, n, rfl, h⟩ := g
      rw [wrapK_eq] at h
      exact ⟨_, by simp only [convA, h1, h2], h⟩
    · exact optV_true h
  · exact optV_true h

/-! ### Memory -/
structure LoadSem where
  run : Value → AMem → (Value → Bool) → Bool
noncomputable def cload (P : Program) (ty : TypeId) : LoadSem :=
  match known P ty, isAggA P ty with
  | true, true => ⟨fun a m K => vPtr a fun b o => cellsK m b fun cs _ => partK o (sizeA P ty) cs fun l => K (.agg ⟨l⟩)⟩
  | true, false => ⟨fun a m K => vPtr a fun b o => cellsK m b fun cs _ => nthK o cs K⟩
  | false, _ => ⟨fun _ _ _ => false⟩
theorem cload_ok {P : Program} {ty : TypeId} {a : Value} {K : Value → Bool} (h : (cload P ty).run a m K = true) : ∃ v, loadA P ty a m = some v ∧ K v = true := by
  unfold cload at h
  split at h
  · rename_i h1 h2
    have g := vPtr_true h; clear h; obtain ⟨b, o, rfl, h⟩ := g
    have g := cellsK_true h; clear h; obtain ⟨cs, tag, hg, h⟩ := g
    have g := partK_true h; clear h; obtain ⟨h3, h⟩ := g
    exact ⟨_, by simp only [loadA, h1, h2, AMem.loadN, hg, Bool.not_true, Bool.false_eq_true, if_false, if_true, h3]; rfl, h⟩
  · rename_i h1 h2
    have g := vPtr_true h; clear h; obtain ⟨b, o, rfl, h⟩ := g
    have g := cellsK_true h; clear h; obtain ⟨cs, tag, hg, h⟩ := g
    have g := nthK_true h; clear h; obtain ⟨v, h3, h⟩ := g
    exact ⟨v, by simp only [loadA, h1, h2, hg, Bool.not_true, Bool.false_eq_true, if_false, h3], h⟩
  · cases h

noncomputable def storeK (m : AMem) (b o : Nat) (vs : List Value) (K : AMem → Bool) : Bool :=
  List.rec (motive := fun _ => Bool) (K m) (fun _ _ _ => cellsK m b fun cs tag => Tag.rec (motive := fun _ => Bool) false (spliceK o cs vs fun cs => memSetK m b (.cells cs .own) K) (fun sz => spliceK o cs vs fun cs => memSetK m b (.cells cs (.more sz)) K) tag) vs
theorem storeK_true {b o : Nat} {vs : List Value} {K : AMem → Bool} (h : storeK m b o vs K = true) : ∃ m', m.storeN b o vs = some m' ∧ K m' = true := by
  unfold storeK at h
  cases vs with
  | nil => exact ⟨m, rfl, h⟩
  | cons v vs =>
    have g := cellsK_true h; clear h; obtain ⟨cs, tag, hg, h⟩ := g
    cases tag with
    | ro => cases h
    | own =>
      have g := spliceK_true h; clear h; obtain ⟨h1, h⟩ := g
      rw [memSetK_eq] at h
      exact ⟨_, by simp only [AMem.storeN, hg, if_pos h1], h⟩
    | more sz =>
      have g := spliceK_true h; clear h; obtain ⟨h1, h⟩ := g
      rw [memSetK_eq] at h
      exact ⟨_, by simp only [AMem.storeN, hg, if_pos h1], h⟩

structure StoreSem where
  run : Value → Value → AMem → (AMem → Bool) → Bool
noncomputable def cstore (P : Program) (ty : TypeId) : StoreSem :=
  match known P ty with
  | true => ⟨fun a v m K => vPtr a fun b o => vCells v fun vs => ifB (lenK vs (sizeA P ty)) (ifB (oneAllK vs) (storeK m b o vs K) false) false⟩
  | false => ⟨fun _ _ _ _ => false⟩
theorem cstore_ok {P : Program} {ty : TypeId} {a v : Value} {K : AMem → Bool} (h : (cstore P ty).run a v m K = true) : ∃ m', storeA P ty a v m = some m' ∧ K m' = true := by
  unfold cstore at h
  split at h
  · rename_i h1
    have g := vPtr_true h; clear h; obtain ⟨b, o, rfl, h⟩ := g
    rw [vCells_eq] at h
    have g := ifB_and h; clear h; obtain ⟨h2, h⟩ := g
    have g := ifB_and h; clear h; obtain ⟨h3, h⟩ := g
    have g := storeK_true h; clear h; obtain ⟨m', h4, h⟩ := g
    have h2' : (v.cells.size == sizeA P ty) = true := by have := lenK_true h2; simpa using this
    exact ⟨m', by simp only [storeA, h1, h2', oneAllK_true h3, Bool.and_self, if_true, h4], h⟩
  · cases h

structure AddrSem where
  run : Value → (Value → Bool) → Bool
noncomputable def cfieldAddr (P : Program) (s : TypeId) (f : Nat) : AddrSem :=
  match P.underlying s with
  | some (.struct fields) =>
    match fields[f]? with
    | some fl => match known P fl.type && sizeA P fl.type != 0 with
      | true => ⟨fun x K => vPtr x fun b o => fN (Nat.add o fl.offset) fun o => K (ptr b o)⟩
      | false => ⟨fun _ _ => false⟩
    | none => ⟨fun _ _ => false⟩
  | _ => ⟨fun _ _ => false⟩
theorem cfieldAddr_ok {P : Program} {s : TypeId} {f : Nat} {x : Value} {K : Value → Bool} (h : (cfieldAddr P s f).run x K = true) : ∃ v, fieldAddrA P s x f = some v ∧ K v = true := by
  unfold cfieldAddr at h
  split at h
  · rename_i fields h1
    split at h
    · rename_i fl h2
      split at h
      · rename_i h3
        have g := vPtr_true h; clear h; obtain ⟨b, o, rfl, h⟩ := g
        rw [fN_eq] at h
        exact ⟨_, by simp only [fieldAddrA, h1, h2, h3, if_true]; rfl, h⟩
      · cases h
    · cases h
  · cases h
structure IdxSem where
  run : Value → Value → (Value → Bool) → Bool
noncomputable def cindexAddr (P : Program) (ty : TypeId) : IdxSem :=
  match P.underlying ty with
  | some (.array len elem) =>
    match known P elem with
    | true => ⟨fun x i K => vPtr x fun b o => vInt i fun _ n => natZ n (fun n => ifB (Nat.ble (Nat.succ n) len) (fN (Nat.add o (Nat.mul n (sizeA P elem))) fun o => K (ptr b o)) false) false⟩
    | false => ⟨fun _ _ _ => false⟩
  | some (.slice elem) =>
    match known P elem with
    | true => ⟨fun x i K => vSlice x fun a len _ => atK a fun b o => vInt i fun _ n => natZ n (fun n => ifB (Nat.ble (Nat.succ n) len) (fN (Nat.add o (Nat.mul n (sizeA P elem))) fun o => K (ptr b o)) false) false⟩
    | false => ⟨fun _ _ _ => false⟩
  | _ => ⟨fun _ _ _ => false⟩
theorem cindexAddr_ok {P : Program} {ty : TypeId} {x i : Value} {K : Value → Bool} (h : (cindexAddr P ty).run x i K = true) : ∃ v, indexAddrA P ty x i = some v ∧ K v = true := by
  unfold cindexAddr at h
  split at h
  · rename_i len elem h1
    split at h
    · rename_i h2
      have g := vPtr_true h; clear h; obtain ⟨b, o, rfl, h⟩ := g
      have g := vInt_true h; clear h; obtain ⟨kd, n, rfl, h⟩ := g
      have g := natZ_cases h; clear h; rcases g with ⟨n, rfl, h⟩ | h
      · have g := ifB_and h; clear h; obtain ⟨h3, h⟩ := g
        rw [fN_eq] at h
        have h3' : decide ((0 : Int) ≤ (n : Int) ∧ (n : Int) < (len : Nat)) = true := by have := Nat.le_of_ble_eq_true h3; simp; omega
        exact ⟨_, by simp only [indexAddrA, h1, h2, h3', Bool.and_self, if_true, Int.toNat_natCast]; rfl, h⟩
      · cases h
    · cases h
  · rename_i elem h1
    split at h
    · rename_i h2
      have g := vSlice_true h; clear h; obtain ⟨a, len, cap, rfl, h⟩ := g
      have g := atK_true h; clear h; obtain ⟨b, o, rfl, h⟩ := g
      have g := vInt_true h; clear h; obtain ⟨kd, n, rfl, h⟩ := g
      have g := natZ_cases h; clear h; rcases g with ⟨n, rfl, h⟩ | h
      · have g := ifB_and h; clear h; obtain ⟨h3, h⟩ := g
        rw [fN_eq] at h
        have h3' : decide ((0 : Int) ≤ (n : Int) ∧ (n : Int) < (len : Nat)) = true := by have := Nat.le_of_ble_eq_true h3; simp; omega
        exact ⟨_, by simp only [indexAddrA, h1, h2, h3', Bool.and_self, if_true, Int.toNat_natCast]; rfl, h⟩
      · cases h
    · cases h
  · cases h

noncomputable def cfield (P : Program) (ty : TypeId) (f : Nat) : AddrSem :=
  match P.underlying ty with
  | some (.struct fields) =>
    match fields[f]? with
    | some fl => match known P fl.type, isAggA P fl.type with
      | true, false => ⟨fun x K => vAgg x fun cs => nthK fl.offset cs.toList K⟩
      | _, _ => ⟨fun x K => optV (fieldA P ty x f) K⟩
    | none => ⟨fun _ _ => false⟩
  | _ => ⟨fun _ _ => false⟩
theorem cfield_ok {P : Program} {ty : TypeId} {f : Nat} {x : Value} {K : Value → Bool} (h : (cfield P ty f).run x K = true) : ∃ v, fieldA P ty x f = some v ∧ K v = true := by
  unfold cfield at h
  split at h
  · rename_i fields h1
    split at h
    · rename_i fl h2
      split at h
      · rename_i h3 h4
        have g := vAgg_true h; clear h; obtain ⟨cs, rfl, h⟩ := g
        have g := nthK_true h; clear h; obtain ⟨v, h5, h⟩ := g
        exact ⟨v, by simp only [fieldA, h1, h2, partA, h3, h4, Bool.not_true, Bool.false_eq_true, if_false]; simpa using h5, h⟩
      · exact optV_true h
    · cases h
  · cases h

/-! ### append -/
noncomputable def srcK (sz : Nat) (a : Option Addr) (n : Nat) (m : AMem) (K : List Value → Bool) : Bool :=
  ifB (Nat.beq n 0) (Option.rec (motive := fun _ => Bool) (K []) (fun _ => K []) a) (atK a fun b o => cellsK m b fun cs _ => partK o (Nat.mul n sz) cs K)
theorem srcK_true {sz n l c : Nat} {a : Option Addr} {K : List Value → Bool} (h : srcK sz a n m K = true) : ∃ cs, srcCells sz (.slice a l c) n m = some cs ∧ K cs = true := by
  unfold srcK at h
  have g := ifB_true h; clear h; rcases g with ⟨h1, h⟩ | ⟨h1, h⟩
  · have hn : n = 0 := Nat.eq_of_beq_eq_true h1
    cases a with
    | none => exact ⟨[], by simp only [srcCells, if_pos hn], h⟩
    | some a =>
      obtain ⟨b, o, s⟩ := a
      cases s with
      | none => exact ⟨[], by simp only [srcCells, if_pos hn], h⟩
      | some s => exact ⟨[], by simp only [srcCells, if_pos hn], h⟩
  · have hn : n ≠ 0 := Nat.ne_of_beq_eq_false h1
    have g := atK_true h; clear h; obtain ⟨b, o, rfl, h⟩ := g
    have g := cellsK_true h; clear h; obtain ⟨cs, tag, hg, h⟩ := g
    have g := partK_true h; clear h; obtain ⟨h3, h⟩ := g
    have h3' : ((cs.drop o).take (n * sz)).length = n * sz := h3
    exact ⟨(cs.drop o).take (n * sz), by simp only [srcCells, if_neg hn, AMem.loadN, hg, h3', if_true], h⟩

noncomputable def appMain (sz : Nat) (base : Option Addr) (len cap n : Nat) (new : List Value) (m : AMem) (K : Value → AMem → Bool) : Bool :=
  Option.rec (motive := fun _ => Bool)
    (ifB (Nat.beq len 0) (ifB (Nat.beq cap 0) (ifB (Nat.beq n 0) (K (.slice none 0 0) m) (memAllocK m (.cells new (.more sz)) fun b m => K (.slice (some ⟨b, 0, none⟩) n n) m)) false) false)
    (fun a => Addr.rec (motive := fun _ => Bool) (fun b o s => Option.rec (motive := fun _ => Bool)
      (cellsK m b fun cs tag => fN (Nat.add len n) fun all => ifB (Nat.ble all cap) (storeK m b (Nat.add o (Nat.mul len sz)) new fun m => K (.slice (some ⟨b, o, none⟩) all cap) m)
        (Tag.rec (motive := fun _ => Bool)
          (partK o (Nat.mul len sz) cs fun old => appK old new fun l => memAllocK m (.cells l (.more sz)) fun b m => K (.slice (some ⟨b, 0, none⟩) all all) m)
          (partK o (Nat.mul len sz) cs fun old => appK old new fun l => memAllocK m (.cells l (.more sz)) fun b m => K (.slice (some ⟨b, 0, none⟩) all all) m)
          (fun sz' => ifB (Nat.beq sz' sz) (ifB (Nat.beq o 0) (takeK (Nat.mul len sz) cs fun old => appK old new fun l => memKillK m b fun m => memAllocK m (.cells l (.more sz)) fun b m => K (.slice (some ⟨b, 0, none⟩) all all) m) false) false)
          tag))
      (fun q => ifB (Nat.beq q 1) (ifB (Nat.beq len 0) (ifB (Nat.beq cap 0) (ifB (Nat.beq n 0) (K (.slice (some ⟨b, 0, some 1⟩) 0 0) m) (memAllocK m (.cells new (.more sz)) fun b m => K (.slice (some ⟨b, 0, none⟩) n n) m)) false) false) false) s) a)
    base
def appCore (sz : Nat) (base : Option Addr) (len cap n : Nat) (new : List Value) (m : AMem) : Option (Value × AMem) :=
  match base with
  | none => if len ≠ 0 ∨ cap ≠ 0 then none else if n = 0 then some (.slice none 0 0, m) else some (.slice (some ⟨m.next, 0, none⟩) n n, m.alloc (.cells new (.more sz)))
  | some ⟨b, o, none⟩ =>
    match m.get b with
    | some (.cells cs tag) =>
      if len + n ≤ cap then (m.storeN b (o + len * sz) new).map fun m' => (.slice (some ⟨b, o, none⟩) (len + n) cap, m')
      else match tag with
        | .more sz' =>
          if sz' = sz ∧ o = 0 then
            let old := cs.take (len * sz)
            if old.length = len * sz then some (.slice (some ⟨m.next, 0, none⟩) (len + n) (len + n), (m.kill b).alloc (.cells (old ++ new) (.more sz))) else none
          else none
        | _ =>
          match m.loadN b o (len * sz) with
          | some old => some (.slice (some ⟨m.next, 0, none⟩) (len + n) (len + n), m.alloc (.cells (old ++ new) (.more sz)))
          | none => none
    | _ => none
  | some ⟨b, _, some 1⟩ =>
    if len ≠ 0 ∨ cap ≠ 0 then none else if n = 0 then some (.slice (some ⟨b, 0, some 1⟩) 0 0, m) else some (.slice (some ⟨m.next, 0, none⟩) n n, m.alloc (.cells new (.more sz)))
  | _ => if len = 0 ∧ cap = 0 ∧ n = 0 then some (.slice base len cap, m) else none
theorem appMain_true {P : Program} {sType elem : TypeId} {xType : Option TypeId} {base : Option Addr} {len cap n : Nat} {x : Value} {new : List Value} {K : Value → AMem → Bool} (hs : P.underlying sType = some (.slice elem)) (hn : newCells P elem xType x m = some (n, new))
    (hc : (!(known P elem) || sizeA P elem == 0 || !oneCellAll new || !(P.info? elem).any (fun i => fitsCap i.bytes (len + n) && i.bytes != 0) || new.length != n * sizeA P elem || !(zeroA P elem).any (fun z => z.cells.size == sizeA P elem)) = false)
    (h : appMain (sizeA P elem) base len cap n new m K = true) : ∃ v m', appendA P sType xType (.slice base len cap) x m = some (v, m') ∧ K v m' = true := by
  have red : ∀ r : Value × AMem, appCore (sizeA P elem) base len cap n new m = some r → appendA P sType xType (.slice base len cap) x m = some r := by
    intro r hr
    unfold appendA
    simp only [hs, hn]
    rw [if_neg (by rw [hc]; exact Bool.false_ne_true)]
    exact hr
  unfold appCore at red
  cases base with
  | none =>
    have g := ifB_and h; clear h; obtain ⟨h1, h⟩ := g
    have g := ifB_and h; clear h; obtain ⟨h2, h⟩ := g
    have e1 : len = 0 := Nat.eq_of_beq_eq_true h1
    have e2 : cap = 0 := Nat.eq_of_beq_eq_true h2
    have hno : ¬ (len ≠ 0 ∨ cap ≠ 0) := by omega
    have g := ifB_true h; clear h; rcases g with ⟨h3, h⟩ | ⟨h3, h⟩
    · exact ⟨_, _, red _ (by simp only [if_neg hno, if_pos (Nat.eq_of_beq_eq_true h3)]), h⟩
    · rw [memAllocK_eq] at h
      exact ⟨_, _, red _ (by simp only [if_neg hno, if_neg (Nat.ne_of_beq_eq_false h3)]), h⟩
  | some a =>
    obtain ⟨b, o, s⟩ := a
    cases s with
    | none =>
      have g := cellsK_true h; clear h; obtain ⟨cs, tag, hg, h⟩ := g
      rw [fN_eq] at h
      have g := ifB_true h; clear h; rcases g with ⟨h1, h⟩ | ⟨h1, h⟩
      · have hle : len + n ≤ cap := Nat.le_of_ble_eq_true h1
        have g := storeK_true h; clear h; obtain ⟨m', h2, h⟩ := g
        have h2' : m.storeN b (o + len * sizeA P elem) new = some m' := h2
        exact ⟨_, _, red _ (by simp only [hg, if_pos hle, h2', Option.map_some]; rfl), h⟩
      · have hle : ¬ len + n ≤ cap := fun e => by rw [Nat.ble_eq_true_of_le (show Nat.add len n ≤ cap from e)] at h1; cases h1
        cases tag with
        | ro =>
          have g := partK_true h; clear h; obtain ⟨h2, h⟩ := g
          have h2' : ((cs.drop o).take (len * sizeA P elem)).length = len * sizeA P elem := h2
          rw [appK_eq, memAllocK_eq] at h
          exact ⟨_, _, red _ (by simp only [hg, if_neg hle, AMem.loadN, h2', if_true]; rfl), h⟩
        | own =>
          have g := partK_true h; clear h; obtain ⟨h2, h⟩ := g
          have h2' : ((cs.drop o).take (len * sizeA P elem)).length = len * sizeA P elem := h2
          rw [appK_eq, memAllocK_eq] at h
          exact ⟨_, _, red _ (by simp only [hg, if_neg hle, AMem.loadN, h2', if_true]; rfl), h⟩
        | more sz' =>
          have g := ifB_and h; clear h; obtain ⟨h2, h⟩ := g
          have g := ifB_and h; clear h; obtain ⟨h3, h⟩ := g
          have g := takeK_true h; clear h; obtain ⟨h4, h⟩ := g
          have h4' : (cs.take (len * sizeA P elem)).length = len * sizeA P elem := h4
          rw [appK_eq, memKillK_eq, memAllocK_eq] at h
          exact ⟨_, _, red _ (by simp only [hg, if_neg hle, if_pos (And.intro (Nat.eq_of_beq_eq_true h2) (Nat.eq_of_beq_eq_true h3)), h4', if_true]; rfl), h⟩
    | some q =>
      have g := ifB_and h; clear h; obtain ⟨h0, h⟩ := g
      have g := ifB_and h; clear h; obtain ⟨h1, h⟩ := g
      have g := ifB_and h; clear h; obtain ⟨h2, h⟩ := g
      have e0 : q = 1 := Nat.eq_of_beq_eq_true h0
      subst e0
      have e1 : len = 0 := Nat.eq_of_beq_eq_true h1
      have e2 : cap = 0 := Nat.eq_of_beq_eq_true h2
      have hno : ¬ (len ≠ 0 ∨ cap ≠ 0) := by omega
      have g := ifB_true h; clear h; rcases g with ⟨h3, h⟩ | ⟨h3, h⟩
      · exact ⟨_, _, red _ (by simp only [if_neg hno, if_pos (Nat.eq_of_beq_eq_true h3)]), h⟩
      · rw [memAllocK_eq] at h
        exact ⟨_, _, red _ (by simp only [if_neg hno, if_neg (Nat.ne_of_beq_eq_false h3)]), h⟩

structure AppSem where
  run : Value → Value → AMem → (Value → AMem → Bool) → Bool
noncomputable def genApp (P : Program) (sType : TypeId) (xType : Option TypeId) : AppSem :=
  ⟨fun s x m K => Option.rec (motive := fun _ => Bool) false (fun r => Prod.rec (motive := fun _ => Bool) (fun v m' => fV v fun v => fM m' fun m' => K v m') r) (appendA P sType xType s x m)⟩
theorem genApp_ok {P : Program} {sType : TypeId} {xType : Option TypeId} {s x : Value} {K : Value → AMem → Bool} (h : (genApp P sType xType).run s x m K = true) : ∃ v m', appendA P sType xType s x m = some (v, m') ∧ K v m' = true := by
  unfold genApp at h
  simp only at h
  cases he : appendA P sType xType s x m with
  | none => rw [he] at h; cases h
  | some r =>
    obtain ⟨v, m'⟩ := r
    rw [he] at h
    simp only [fV_eq, fM_eq] at h
    exact ⟨v, m', rfl, h⟩
noncomputable def capp (P : Program) (sType : TypeId) (xType : Option TypeId) : AppSem :=
  match P.underlying sType, xType.bind P.underlying with
  | some (.slice elem), some (.slice _) =>
    match P.info? elem with
    | some i =>
      match known P elem && sizeA P elem != 0 && i.bytes != 0 && (zeroA P elem).any (fun z => z.cells.size == sizeA P elem) with
      | true => ⟨fun s x m K => vSlice s fun base len cap => vSlice x fun a n _ => srcK (sizeA P elem) a n m fun new => ifB (oneAllK new) (ifB (lenK new (Nat.mul n (sizeA P elem))) (ifB (fitsCap i.bytes (len + n)) (appMain (sizeA P elem) base len cap n new m K) false) false) false⟩
      | false => genApp P sType xType
    | none => genApp P sType xType
  | _, _ => genApp P sType xType
theorem capp_ok {P : Program} {sType : TypeId} {xType : Option TypeId} {s x : Value} {K : Value → AMem → Bool} (h : (capp P sType xType).run s x m K = true) : ∃ v m', appendA P sType xType s x m = some (v, m') ∧ K v m' = true := by
  unfold capp at h
  split at h
  · rename_i elem xe h1 h2
    split at h
    · rename_i i h3
      split at h
      · rename_i h4
        have g := vSlice_true h; clear h; obtain ⟨base, len, cap, rfl, h⟩ := g
        have g := vSlice_true h; clear h; obtain ⟨a, n, c, rfl, h⟩ := g
        have g := srcK_true (l := n) (c := c) h; clear h; obtain ⟨new, h5, h⟩ := g
        have g := ifB_and h; clear h; obtain ⟨h6, h⟩ := g
        have g := ifB_and h; clear h; obtain ⟨h7, h⟩ := g
        have g := ifB_and h; clear h; obtain ⟨h8, h⟩ := g
        simp only [Bool.and_eq_true] at h4
        obtain ⟨⟨⟨h4a, h4b⟩, h4c⟩, h4d⟩ := h4
        have h7' : new.length = n * sizeA P elem := lenK_true h7
        refine appMain_true (elem := elem) (new := new) h1 ?_ ?_ h
        · simp only [newCells, h2, h5, Option.map_some]
        · have hb : (sizeA P elem == 0) = false := by simpa using h4b
          have ha : (P.info? elem).any (fun i => fitsCap i.bytes (len + n) && i.bytes != 0) = true := by rw [h3]; simp [h8]; simpa using h4c
          have hl : (new.length != n * sizeA P elem) = false := by simp [h7']
          rw [h4a, hb, oneAllK_true h6, ha, hl, h4d]; rfl
      · exact genApp_ok h
    · exact genApp_ok h
  · exact genApp_ok h

/-! ### The builtins -/
noncomputable def clen (P : Program) (ty : Option TypeId) : Option AddrSem :=
  match ty.bind P.underlying with
  | some (.slice _) => some ⟨fun x K => vSlice x fun _ n _ => K (.int .i64 (.ofNat n))⟩
  | _ => none
theorem clen_ok {P : Program} {types : Array TypeId} {S : AddrSem} (hS : clen P types[0]? = some S) {x : Value} {K : Value → Bool} (h : S.run x K = true) : ∃ v, builtinA P .len types [x] m = some (v, m) ∧ K v = true := by
  unfold clen at hS
  split at hS
  · rename_i e h1
    cases hS
    have g := vSlice_true h; clear h; obtain ⟨a, n, c, rfl, h⟩ := g
    exact ⟨_, by simp only [builtinA, h1]; rfl, h⟩
  · cases hS
end
end Go.Ab
