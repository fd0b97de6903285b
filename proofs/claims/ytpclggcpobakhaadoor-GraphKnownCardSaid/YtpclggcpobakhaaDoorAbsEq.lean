/-
  The abstract machine and the model: types, parts of aggregates, equality.
-/
import Derived.Test.YtpclggcpobakhaaDoorAbsMem
import Derived.Laws.Entries
import Derived.Laws.StructEq
namespace Go.Ab
open Go

section
variable {P : Program} {w : World}

theorem r_info {t : TypeId} {i : TypeInfo} (h : P.info? t = some i) (w : World) : (typeInfo t).run P w = .ok i w := by simp [typeInfo, h]
theorem r_size {t : TypeId} (h : known P t = true) (w : World) : (sizeOf t).run P w = .ok (sizeA P t) w := by
  simp only [known, Bool.and_eq_true, Option.isSome_iff_exists] at h
  obtain ⟨_, i, hi⟩ := h
  simp [sizeOf, r_info hi, sizeA, Program.cellsOf, hi]
theorem r_isAgg {t : TypeId} (h : known P t = true) (w : World) : (isAgg t).run P w = .ok (isAggA P t) w := by
  simp only [known, Bool.and_eq_true, Option.isSome_iff_exists] at h
  obtain ⟨⟨d, hd⟩, _⟩ := h
  simp only [isAgg, Sem.run_bind, run_underlying hd, Result.andThen_ok, isAggA, hd]
  cases d <;> rfl
theorem r_zero {t : TypeId} {z : Value} (h : zeroA P t = some z) (w : World) : (zeroValue t).run P w = .ok z w := by
  unfold zeroA at h
  cases hi : P.info? t with
  | none => rw [hi] at h; cases h
  | some i =>
    rw [hi] at h
    have hz : i.zero = some z := h
    simp [zeroValue, r_info hi, hz]
theorem info_of_known {t : TypeId} (h : known P t = true) : ∃ i, P.info? t = some i := by
  simp only [known, Bool.and_eq_true, Option.isSome_iff_exists] at h
  exact h.2
theorem info_of_zero {t : TypeId} {z : Value} (h : zeroA P t = some z) : ∃ i, P.info? t = some i ∧ i.zero = some z := by
  unfold zeroA at h
  cases hi : P.info? t with
  | none => rw [hi] at h; cases h
  | some i => rw [hi] at h; exact ⟨i, rfl, h⟩

theorem LR.extract {j : Inj} {xs ys : Array Value} (h : LR j xs.toList ys.toList) (a b : Nat) : LR j (xs.extract a b).toList (ys.extract a b).toList := by
  simp only [Array.toList_extract]
  exact (h.drop a).take (b - a)

theorem sim_part {j : Inj} {t : TypeId} {cs cs' : Array Value} {off : Nat} {v : Value} (h : partA P t cs off = some v) (hc : LR j cs.toList cs'.toList) :
    ∃ v', (∀ w, (part t cs' off).run P w = .ok v' w) ∧ VR j v v' := by
  unfold partA at h
  split at h
  · cases h
  · rename_i hk
    have hk' : known P t = true := by simpa using hk
    split at h
    · rename_i ha
      cases h
      refine ⟨.agg (cs'.extract off (off + sizeA P t)), fun w => ?_, .agg' (hc.extract _ _)⟩
      simp [part, r_isAgg hk', ha, r_size hk']
    · rename_i ha
      have : cs.toList[off]? = some v := by simpa using h
      obtain ⟨v', h1, h2⟩ := hc.get this
      refine ⟨v', fun w => ?_, h2⟩
      have h1' : cs'[off]? = some v' := by simpa using h1
      have ha' : isAggA P t = false := by simpa using ha
      simp [part, r_isAgg hk', ha', h1']

/-- Parts compared one behind the other, in the model. -/
def eqPartsM (d : Nat) (xs ys : Array Value) : List (TypeId × Nat) → Sem Bool
  | [] => pure true
  | (t, off) :: rest => do
    let a ← part t xs off
    let b ← part t ys off
    let r ← Op.equalIn d t a b
    if (!r) = true then pure false else eqPartsM d xs ys rest

theorem run_eqFields_parts (d : Nat) (xs ys : Array Value) : ∀ (fs : List Field) (w : World), fs.any (·.name == "_") = false →
    (Op.eqFields d xs ys fs).run P w = (eqPartsM d xs ys (fs.map fun f => (f.type, f.offset))).run P w
  | [], _, _ => rfl
  | f :: fs, w, h => by
    simp only [List.any_cons, Bool.or_eq_false_iff] at h
    have hn : f.name ≠ "_" := by simpa using h.1
    simp only [Op.eqFields, if_pos hn, List.map_cons, eqPartsM, Sem.run_bind, Sem.run_ite]
    congr 1; funext a w1; congr 1; funext b w2; congr 1; funext r w3
    split
    · rfl
    · exact run_eqFields_parts d xs ys fs w3 h.2

theorem run_equalIn_array (d : Nat) (t : TypeId) (len : Nat) (elem : TypeId) (xs ys : Array Value) (ht : P.underlying t = some (.array len elem)) (he : known P elem = true) (w : World) :
    (Op.equalIn (d + 1) t (.agg xs) (.agg ys)).run P w = (eqPartsM d xs ys ((List.range len).map fun i => (elem, i * sizeA P elem))).run P w := by
  simp only [Op.equalIn, Sem.run_bind, run_underlying ht, Result.andThen_ok, r_size he]
  rw [Std.Legacy.Range.forIn_eq_forIn_range']
  simp only [Std.Legacy.Range.size, Nat.sub_zero, Nat.add_sub_cancel, Nat.div_one]
  rw [← List.range_eq_range']
  generalize List.range len = is
  induction is generalizing w with
  | nil => simp [eqPartsM]
  | cons i is ih =>
    simp only [List.forIn_cons, List.map_cons, eqPartsM, Sem.run_bind, Sem.run_ite]
    generalize (part elem xs (i * sizeA P elem)).run P w = r1
    cases r1 with
    | ok a w1 =>
      simp only [Result.andThen_ok]
      generalize (part elem ys (i * sizeA P elem)).run P w1 = r2
      cases r2 with
      | ok b w2 =>
        simp only [Result.andThen_ok]
        generalize (Op.equalIn d elem a b).run P w2 = r3
        cases r3 with
        | ok r w3 =>
          cases r
          · simp only [Result.andThen_ok, Bool.not_false, if_true, Sem.run_pure]
          · simp only [Result.andThen_ok, Bool.not_true, Bool.false_eq_true, if_false, Sem.run_pure]
            exact ih w3
        | halt x w3 => simp [Result.andThen]
      | halt x w2 => simp [Result.andThen]
    | halt x w1 => simp [Result.andThen]

theorem sim_eqParts {j : Inj} {d : Nat} (ih : ∀ {t : TypeId} {x y x' y' : Value} {b : Bool}, eqA P d t x y = some b → VR j x x' → VR j y y' → ∀ w, (Op.equalIn d t x' y').run P w = .ok b w)
    {xs ys xs' ys' : Array Value} (hx : LR j xs.toList xs'.toList) (hy : LR j ys.toList ys'.toList) :
    ∀ (l : List (TypeId × Nat)) {b : Bool}, eqParts (eqA P d) P xs ys l = some b → ∀ w, (eqPartsM d xs' ys' l).run P w = .ok b w
  | [], b, h, w => by cases h; rfl
  | (t, off) :: rest, b, h, w => by
    simp only [eqParts] at h
    split at h
    · rename_i x y h1 h2
      obtain ⟨x', e1, r1⟩ := sim_part h1 hx
      obtain ⟨y', e2, r2⟩ := sim_part h2 hy
      simp only [eqPartsM, Sem.run_bind, e1, e2, Result.andThen_ok]
      split at h
      · rename_i he
        rw [ih he r1 r2 w]
        simp only [Result.andThen_ok, Bool.not_true, Bool.false_eq_true, if_false]
        exact sim_eqParts ih hx hy rest h w
      · rename_i hne
        cases b with
        | true => exact absurd h hne
        | false =>
          rw [ih h r1 r2 w]
          simp
    · cases h

theorem sim_eq {j : Inj} : ∀ (d : Nat) {t : TypeId} {x y x' y' : Value} {b : Bool}, eqA P d t x y = some b → VR j x x' → VR j y y' → ∀ w, (Op.equalIn d t x' y').run P w = .ok b w
  | 0, _, _, _, _, _, _, h, _, _, _ => by cases h
  | d + 1, t, x, y, x', y', b, h, hx, hy, w => by
    unfold eqA at h
    split at h
    · rename_i ht; cases h; cases hx; cases hy; simp only [Op.equalIn, Sem.run_bind, run_underlying ht, Result.andThen_ok, Sem.run_pure]
    · rename_i ht
      split at h
      · rename_i hk; cases h; cases hx; cases hy; simp only [Op.equalIn, Sem.run_bind, run_underlying ht, Result.andThen_ok, Sem.run_pure, if_pos hk]
      · cases h
    · rename_i ht; cases h; cases hx; cases hy; simp only [Op.equalIn, Sem.run_bind, run_underlying ht, Result.andThen_ok, Sem.run_pure]
    · rename_i ht; cases h; cases hx; cases hy <;> simp only [Op.equalIn, Sem.run_bind, run_underlying ht, Result.andThen_ok, Sem.run_pure] <;> rfl
    · rename_i ht; cases h; cases hx; cases hy; simp only [Op.equalIn, Sem.run_bind, run_underlying ht, Result.andThen_ok, Sem.run_pure]
    · rename_i ht; cases h; cases hx; cases hy <;> simp only [Op.equalIn, Sem.run_bind, run_underlying ht, Result.andThen_ok, Sem.run_pure] <;> rfl
    · rename_i ht; cases h; cases hy; cases hx <;> simp only [Op.equalIn, Sem.run_bind, run_underlying ht, Result.andThen_ok, Sem.run_pure]
    · rename_i ht; cases h; cases hx; cases hy <;> simp only [Op.equalIn, Sem.run_bind, run_underlying ht, Result.andThen_ok, Sem.run_pure] <;> rfl
    · rename_i ht; cases h; cases hy; cases hx <;> simp only [Op.equalIn, Sem.run_bind, run_underlying ht, Result.andThen_ok, Sem.run_pure]
    · rename_i ht; cases h; cases hx; cases hy; simp only [Op.equalIn, Sem.run_bind, run_underlying ht, Result.andThen_ok, Sem.run_pure]
    · rename_i ht; cases h; cases hx; cases hy <;> simp only [Op.equalIn, Sem.run_bind, run_underlying ht, Result.andThen_ok, Sem.run_pure]
    · rename_i ht; cases h; cases hy; cases hx <;> simp only [Op.equalIn, Sem.run_bind, run_underlying ht, Result.andThen_ok, Sem.run_pure]
    · rename_i fs xs ys ht
      split at h
      · cases h
      · rename_i hs
        simp only [Bool.or_eq_true, not_or, Bool.not_eq_true] at hs
        cases hx with
        | agg h1 h2 =>
        cases hy with
        | agg h3 h4 =>
        have hf : P.fieldsOf t = fs := by simp [Program.fieldsOf, ht]
        rw [run_equalIn_struct _ d t _ _ (by rw [hf]; exact ht) hs.1, hf, run_eqFields_parts _ _ _ _ _ (by simpa using hs.2)]
        exact sim_eqParts (fun a b c w => sim_eq d a b c w) (LR.of_arr h1 h2) (LR.of_arr h3 h4) _ h w
    · rename_i len elem xs ys ht
      split at h
      · rename_i hk
        cases hx with
        | agg h1 h2 =>
        cases hy with
        | agg h3 h4 =>
        rw [run_equalIn_array d t len elem _ _ ht hk]
        exact sim_eqParts (fun a b c w => sim_eq d a b c w) (LR.of_arr h1 h2) (LR.of_arr h3 h4) _ h w
      · cases h
    · cases h
end
end Go.Ab
