/-
  The abstract machine and the model: the operations that touch no memory.
-/
import Derived.Test.YtpclggcpobakhaaDoorAbsEq
namespace Go.Ab
open Go

/-- A pure step of the model that gives v. -/
def Gives (P : Program) (s : Sem Value) (v : Value) : Prop := ∀ w, s.run P w = .ok v w

section
variable {P : Program} {j : Inj}

theorem eqGuard_ok (op : BinOp) (t : TypeId) (x y : Operand) {a b : Value} (h1 : ∀ xs ys, a = .agg xs → b = .agg ys → False) (h2 : a ≠ .nilIface) (w : World) :
    (eqGuard op t x y a b).run P w = .ok () w := by
  unfold eqGuard
  cases op <;> simp only [Bool.not_false, Bool.not_true, if_true, Bool.false_eq_true, if_false, Sem.run_pure] <;>
    (split
     · exact absurd rfl h2
     · exact (h1 _ _ rfl rfl).elim
     · rfl)

def eqShape : Value → Bool
  | .bool _ | .pointer _ | .slice _ _ _ | .map _ | .func _ _ _ | .nilFunc => true
  | _ => false
theorem binOp_eql {t : TypeId} {x y : Value} (h : eqShape x = true) : binOp .eql t x y = (do pure (.bool (← Op.equal t x y))) := by
  cases x <;> first | (simp [eqShape] at h; done) | (cases y <;> rfl)
theorem binOp_neq {t : TypeId} {x y : Value} (h : eqShape x = true) : binOp .neq t x y = (do pure (.bool (!(← Op.equal t x y)))) := by
  cases x <;> first | (simp [eqShape] at h; done) | (cases y <;> rfl)

theorem sim_bin {op : BinOp} {t : TypeId} {x y x' y' v : Value} (h : binA op t P x y = some v) (hx : VR j x x') (hy : VR j y y') (ox oy : Operand) :
    ∃ v', Gives P (do eqGuard op t ox oy x' y'; binOp op t x' y') v' ∧ VR j v v' := by
  unfold binA at h
  split at h
  case h_1 => 
    cases hx; cases hy
    split at h
    · cases h
    · rename_i hb
      cases h
      refine ⟨_, fun w => ?_, .int _ _⟩
      rw [Sem.run_bind, eqGuard_ok _ _ _ _ (by intro _ _ e; cases e) (by intro e; cases e)]
      simp only [Result.andThen_ok, binOp, Op.shift, if_neg hb, Sem.run_pure]
  case h_2 =>
    cases hx; cases hy
    split at h
    · cases h
    · rename_i hb
      cases h
      refine ⟨_, fun w => ?_, .int _ _⟩
      rw [Sem.run_bind, eqGuard_ok _ _ _ _ (by intro _ _ e; cases e) (by intro e; cases e)]
      simp only [Result.andThen_ok, binOp, Op.shift, if_neg hb, Sem.run_pure]
  case h_12 =>
    cases hx; cases hy
    split at h
    · rename_i hk
      split at h
      · cases h
      · rename_i hb
        cases h
        refine ⟨_, fun w => ?_, .int _ _⟩
        rw [Sem.run_bind, eqGuard_ok _ _ _ _ (by intro _ _ e; cases e) (by intro e; cases e)]
        simp only [Result.andThen_ok, binOp, hk, ne_eq, not_true_eq_false, if_false, Op.intDiv, if_neg hb, Sem.run_pure]
    · cases h
  case h_13 =>
    cases hx; cases hy
    split at h
    · rename_i hk
      split at h
      · cases h
      · rename_i hb
        cases h
        refine ⟨_, fun w => ?_, .int _ _⟩
        rw [Sem.run_bind, eqGuard_ok _ _ _ _ (by intro _ _ e; cases e) (by intro e; cases e)]
        simp only [Result.andThen_ok, binOp, hk, ne_eq, not_true_eq_false, if_false, Op.intDiv, if_neg hb, Sem.run_pure]
    · cases h
  case h_18 =>
    cases h; cases hx; cases hy
    refine ⟨_, fun w => ?_, .bool _⟩
    rw [Sem.run_bind, eqGuard_ok _ _ _ _ (by intro _ _ e; cases e) (by intro e; cases e)]
    simp only [Result.andThen_ok, binOp, Op.stringOp, Sem.run_pure, beq_toListBytes]
  case h_19 =>
    cases h; cases hx; cases hy
    refine ⟨_, fun w => ?_, .bool _⟩
    rw [Sem.run_bind, eqGuard_ok _ _ _ _ (by intro _ _ e; cases e) (by intro e; cases e)]
    simp only [Result.andThen_ok, binOp, Op.stringOp, Sem.run_pure, bne, beq_toListBytes]
  case h_20 => cases h
  case h_21 =>
    cases hx with
    | agg h1 h2 =>
    cases hy with
    | agg h3 h4 =>
    split at h
    · cases h
    · rename_i hg
      cases he : eqA P Op.maxDepth t (.agg _) (.agg _) with
      | none => rw [he] at h; cases h
      | some b =>
        rw [he] at h; cases h
        refine ⟨_, fun w => ?_, .bool _⟩
        have := sim_eq (P := P) Op.maxDepth he (.agg h1 h2) (.agg h3 h4) w
        have hg' : P.eqGuardType P.depth t = false := by simpa using hg
        rw [Sem.run_bind, run_eqGuard_agg w _ _ _ _ _ _ hg']
        simp only [Result.andThen_ok, binOp, Op.equal, Sem.run_bind, this, Sem.run_pure]
  case h_22 =>
    cases hx with
    | agg h1 h2 =>
    cases hy with
    | agg h3 h4 =>
    split at h
    · cases h
    · rename_i hg
      cases he : eqA P Op.maxDepth t (.agg _) (.agg _) with
      | none => rw [he] at h; cases h
      | some b =>
        rw [he] at h; cases h
        refine ⟨_, fun w => ?_, .bool _⟩
        have := sim_eq (P := P) Op.maxDepth he (.agg h1 h2) (.agg h3 h4) w
        have hg' : P.eqGuardType P.depth t = false := by simpa using hg
        rw [Sem.run_bind, run_eqGuard_agg w _ _ _ _ _ _ hg']
        simp only [Result.andThen_ok, binOp, Op.equal, Sem.run_bind, this, Sem.run_pure]
  case h_23 =>
    have key : eqShape x' = true ∧ ∃ b, eqA P Op.maxDepth t x y = some b ∧ v = .bool b := by
      split at h <;> first
        | (cases h; done)
        | (refine ⟨?_, ?_⟩
           · cases hx <;> rfl
           · cases he : eqA P Op.maxDepth t _ y with
             | none => rw [he] at h; cases h
             | some b => rw [he] at h; cases h; exact ⟨b, rfl, rfl⟩)
    obtain ⟨hs, b, he, rfl⟩ := key
    refine ⟨_, fun w => ?_, .bool b⟩
    rw [Sem.run_bind, eqGuard_ok _ _ _ _ (by intro _ _ e; subst e; cases hs) (by intro e; subst e; cases hs), Result.andThen_ok, binOp_eql hs]
    simp only [Op.equal, Sem.run_bind, sim_eq _ he hx hy, Result.andThen_ok, Sem.run_pure]
  case h_24 =>
    have key : eqShape x' = true ∧ ∃ b, eqA P Op.maxDepth t x y = some b ∧ v = .bool (!b) := by
      split at h <;> first
        | (cases h; done)
        | (refine ⟨?_, ?_⟩
           · cases hx <;> rfl
           · cases he : eqA P Op.maxDepth t _ y with
             | none => rw [he] at h; cases h
             | some b => rw [he] at h; cases h; exact ⟨b, rfl, rfl⟩)
    obtain ⟨hs, b, he, rfl⟩ := key
    refine ⟨_, fun w => ?_, .bool (!b)⟩
    rw [Sem.run_bind, eqGuard_ok _ _ _ _ (by intro _ _ e; subst e; cases hs) (by intro e; subst e; cases hs), Result.andThen_ok, binOp_neq hs]
    simp only [Op.equal, Sem.run_bind, sim_eq _ he hx hy, Result.andThen_ok, Sem.run_pure]
  case h_25 => cases h
  all_goals
    cases hx; cases hy
    split at h
    · rename_i hk
      cases h
      refine ⟨_, fun w => ?_, (by first | exact .bool _ | exact .int _ _)⟩
      rw [Sem.run_bind, eqGuard_ok _ _ _ _ (by intro _ _ e; cases e) (by intro e; cases e)]
      simp only [Result.andThen_ok, binOp, hk, ne_eq, not_true_eq_false, if_false, Op.intArith, Op.intBits, Op.intCmp, Sem.run_pure]
    · cases h

theorem sim_un {op : UnOp} {x x' v : Value} (h : unA op x = some v) (hx : VR j x x') : ∃ v', Gives P (Op.unary op x') v' ∧ VR j v v' := by
  unfold unA at h
  split at h
  · cases h; cases hx; exact ⟨_, fun w => rfl, .int _ _⟩
  · cases h; cases hx; exact ⟨_, fun w => rfl, .int _ _⟩
  · cases h; cases hx; exact ⟨_, fun w => rfl, .bool _⟩
  · cases h

theorem sim_conv {s d : TypeId} {x x' v : Value} (h : convA P s d x = some v) (hx : VR j x x') : ∃ v', Gives P (convert s d x') v' ∧ VR j v v' := by
  unfold convA at h
  split at h
  · rename_i e1 e2
    cases h; cases hx
    refine ⟨_, fun w => ?_, .int _ _⟩
    simp only [convert, Sem.run_bind, run_underlying e1, run_underlying e2, Result.andThen_ok, Conv.intToInt, Sem.run_pure]
  · rename_i e1 e2
    cases h; cases hx
    refine ⟨_, fun w => ?_, .string _⟩
    simp only [convert, Sem.run_bind, run_underlying e1, run_underlying e2, Result.andThen_ok]
    rfl
  · cases h
end
end Go.Ab
