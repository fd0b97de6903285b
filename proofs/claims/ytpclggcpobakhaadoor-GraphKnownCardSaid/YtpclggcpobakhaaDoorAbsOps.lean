/-
  The abstract machine and the model: the operations on aggregates, addresses and slices.
-/
import Derived.Test.YtpclggcpobakhaaDoorAbsPure
namespace Go.Ab
open Go

section
variable {P : Program} {j : Inj}

/-! ### Parts laid over cells -/
theorem oneCells_VR {v v' : Value} (h : VR j v v') : LR j v.cells.toList v'.cells.toList := by
  cases h with
  | agg h1 h2 => exact LR.of_arr h1 h2
  | bool b => exact LR.cons (.bool b) (.nil j)
  | int k n => exact LR.cons (.int k n) (.nil j)
  | string s => exact LR.cons (.string s) (.nil j)
  | pnil => exact LR.cons .pnil (.nil j)
  | ptr h => exact LR.cons (.ptr h) (.nil j)
  | snil l c => exact LR.cons (.snil l c) (.nil j)
  | slice h hm => exact LR.cons (.slice h hm) (.nil j)
  | sliceM h hm h1 h2 hl hc => exact LR.cons (.sliceM h hm h1 h2 hl hc) (.nil j)
  | vague => exact LR.cons .vague (.nil j)
  | dry => exact LR.cons .dry (.nil j)
  | mnil => exact LR.cons .mnil (.nil j)
  | map h => exact LR.cons (.map h) (.nil j)
  | func h1 h2 h3 h4 => exact LR.cons (.func h1 h2 h3 h4) (.nil j)
  | yield h h1 h2 => exact LR.cons (.yield h h1 h2) (.nil j)
  | nilFunc => exact LR.cons .nilFunc (.nil j)
  | nilIface => exact LR.cons .nilIface (.nil j)
  | tuple h1 h2 => exact LR.cons (.tuple h1 h2) (.nil j)

theorem LR.splice {cs cs' vs vs' : List Value} (h : LR j cs cs') (hv : LR j vs vs') (o : Nat) : LR j (spliceL cs o vs) (spliceL cs' o vs') :=
  ⟨by rw [length_spliceL, length_spliceL, h.1], fun i v hi => by
    rw [getElem?_spliceL] at hi ⊢
    rw [← hv.1, ← h.1]
    split at hi
    · rename_i hc; rw [if_pos hc]; exact hv.2 _ v hi
    · rename_i hc; rw [if_neg hc]; exact h.2 _ v hi⟩

/-- The model's way to lay a value's cells. -/
theorem foldl_splice (off : Nat) : ∀ (l : List Value) (k : Nat) (cs : Array Value), off + k + l.length ≤ cs.size →
    (l.zipIdx k).foldl (fun (cs : Array Value) (x : Value × Nat) => cs.setIfInBounds (off + x.2) x.1) cs = (spliceL cs.toList (off + k) l).toArray
  | [], k, cs, _ => by simp [spliceL_nil]
  | v :: l, k, cs, h => by
    have h' : off + k + (l.length + 1) ≤ cs.size := by simpa using h
    simp only [List.zipIdx_cons, List.foldl_cons]
    rw [foldl_splice off l (k + 1) _ (by simp; omega), spliceL_cons_set _ _ _ _ (by simp; omega)]
    simp [Nat.add_assoc]

theorem sim_fill {place : Nat → Option (Nat × Nat)} : ∀ {ps : List (Nat × Value)} {ps' : List (Nat × Value)} {cells cells' r : List Value}, ps.map (·.1) = ps'.map (·.1) → LR j (ps.map (·.2)) (ps'.map (·.2)) →
    LR j cells cells' → fillA place cells ps = some r → ∃ r', Instr.fill place cells'.toArray ps' = some r'.toArray ∧ LR j r r'
  | [], ps', cells, cells', r, h1, _, hc, h => by
    cases ps' with
    | nil => cases h; exact ⟨cells', rfl, hc⟩
    | cons _ _ => simp at h1
  | (i, v) :: rest, ps', cells, cells', r, h1, h2, hc, h => by
    cases ps' with
    | nil => simp at h1
    | cons p rest' =>
      obtain ⟨i', v'⟩ := p
      simp only [List.map_cons, List.cons.injEq] at h1
      obtain ⟨rfl, h1⟩ := h1
      have hv := h2.head
      have hrest := h2.tail
      simp only [fillA] at h
      split at h
      · cases h
      · rename_i off size hp
        split at h
        · cases h
        · rename_i hcond
          have hcells := oneCells_VR hv
          have hsz : v.cells.size = v'.cells.size := by simpa using hcells.1
          have hlen : cells.length = cells'.length := hc.1
          have hcond' : ¬ ((v'.cells.size ≠ size || off + v'.cells.size > cells'.toArray.size) = true) := by
            rw [← hsz]; simpa [← hlen] using hcond
          simp only [Instr.fill, hp, if_neg hcond']
          have hle : off + 0 + v'.cells.toList.length ≤ cells'.toArray.size := by
            simp only [Bool.or_eq_true, not_or, decide_eq_true_eq] at hcond'
            simp; have := hcond'.2; simp at this; omega
          have hfold := foldl_splice off v'.cells.toList 0 cells'.toArray hle
          have hz : v'.cells.zipIdx.foldl (fun cs x => cs.setIfInBounds (off + x.2) x.1) cells'.toArray = (spliceL cells' off v'.cells.toList).toArray := by
            rw [← Array.foldl_toList, Array.toList_zipIdx]
            exact hfold
          rw [show (v'.cells.zipIdx.foldl (fun cs (x : Value × Nat) => match x with | (c, j) => cs.setIfInBounds (off + j) c) cells'.toArray) = (spliceL cells' off v'.cells.toList).toArray from hz]
          exact sim_fill h1 hrest (hc.splice hcells off) h

theorem r_placesL : ∀ (l : List Field) (w : World), l.all (fun f => known P f.type) = true →
    (l.mapM fun (f : Field) => (do pure (f.offset, ← sizeOf f.type) : Sem (Nat × Nat))).run P w = .ok (l.map fun f => (f.offset, sizeA P f.type)) w
  | [], w, _ => rfl
  | f :: l, w, h => by
    simp only [List.all_cons, Bool.and_eq_true] at h
    simp only [List.mapM_cons, Sem.run_bind, r_size h.1, Result.andThen_ok, Sem.run_pure, r_placesL l w h.2, List.map_cons]
theorem r_places (fields : Array Field) (h : fields.toList.all (fun f => known P f.type) = true) (w : World) :
    (fields.mapM fun (f : Field) => (do pure (f.offset, ← sizeOf f.type) : Sem (Nat × Nat))).run P w = .ok (fields.map fun f => (f.offset, sizeA P f.type)) w := by
  obtain ⟨l⟩ := fields
  simp only [List.mapM_toArray, Sem.run_map, List.map_toArray]
  rw [r_placesL l w h]; rfl

theorem sim_build {t : TypeId} {ps ps' : List (Nat × Value)} {v : Value} (h : buildA P t ps = some v) (h1 : ps.map (·.1) = ps'.map (·.1)) (h2 : LR j (ps.map (·.2)) (ps'.map (·.2)))
    {z : Value} (hz : zeroA P t = some z) (hp : plainV z = true) : ∃ v', Gives P (Instr.build t ps'.toArray) v' ∧ VR j v v' := by
  have hzc : LR j z.cells.toList z.cells.toList := oneCells_VR (VR.plainV hp)
  unfold buildA at h
  rw [hz] at h
  split at h
  · rename_i z0 fields hz0 hu
    cases hz0
    split at h
    · rename_i hall
      cases hf : fillA (fun i => (fields[i]?).map fun f => (f.offset, sizeA P f.type)) z.cells.toList ps with
      | none => rw [hf] at h; cases h
      | some r =>
        rw [hf] at h; cases h
        obtain ⟨r', h3, h4⟩ := sim_fill h1 h2 hzc hf
        refine ⟨.agg r'.toArray, fun w => ?_, .agg' (by simpa using h4)⟩
        have hpl : (fun (i : Nat) => (fields.map fun (f : Field) => (f.offset, sizeA P f.type))[i]?) = fun i => (fields[i]?).map fun (f : Field) => (f.offset, sizeA P f.type) := by
          funext i; simp
        simp only [Instr.build, Sem.run_bind, r_zero hz, run_underlying hu, Result.andThen_ok, r_places fields hall, hpl]
        have h3' : Instr.fill _ z.cells ps' = some r'.toArray := h3
        rw [h3']; rfl
    · cases h
  · rename_i z0 n elem hz0 hu
    cases hz0
    split at h
    · rename_i hk
      cases hf : fillA (fun i => some (i * sizeA P elem, sizeA P elem)) z.cells.toList ps with
      | none => rw [hf] at h; cases h
      | some r =>
        rw [hf] at h; cases h
        obtain ⟨r', h3, h4⟩ := sim_fill h1 h2 hzc hf
        refine ⟨.agg r'.toArray, fun w => ?_, .agg' (by simpa using h4)⟩
        simp only [Instr.build, Sem.run_bind, r_zero hz, run_underlying hu, Result.andThen_ok, r_size hk]
        have h3' : Instr.fill _ z.cells ps' = some r'.toArray := h3
        rw [h3']; rfl
    · cases h
  · cases h

/-! ### Bounds -/
theorem sim_bound {x x' : Value} {y l : Nat} (h : boundA x y = some l) (hx : VR j x x') {y' : Nat} (hy : y ≤ y') (code : BoundsCode) (w : World) :
    (Instr.sliceBound x' y' code).run P w = .ok l w ∧ l ≤ y := by
  unfold boundA at h
  split at h
  · rename_i k i
    split at h
    · rename_i hc
      cases h
      cases hx
      refine ⟨?_, by omega⟩
      simp only [Instr.sliceBound, asIntOf, Sem.run_bind, Sem.run_pure, Result.andThen_ok]
      rw [if_pos ⟨hc.1, by omega⟩]; rfl
    · cases h
  · cases h

/-- The capacity behind the bounds. -/
def capOf (mx : Option Value) (c m : Nat) : Nat := match mx with | none => c | some _ => m

inductive OVR (j : Inj) : Option Value → Option Value → Prop
  | none : OVR j none none
  | some {v v' : Value} (h : VR j v v') : OVR j (some v) (some v')

theorem boundsA_le {len cap : Nat} {lo hi mx : Option Value} {l h m : Nat} (e : boundsA len cap lo hi mx = some (l, h, m)) : l ≤ h ∧ m ≤ cap ∧ (hi.isSome = true → h ≤ m) ∧ (hi = none → h = len ∧ mx = none) ∧ (mx = none → m = cap) := by
  have hb : ∀ (x : Value) (y l : Nat), boundA x y = some l → l ≤ y := by
    intro x y l h
    unfold boundA at h
    split at h
    · split at h
      · rename_i hc; cases h; omega
      · cases h
    · cases h
  unfold boundsA at e
  split at e
  · cases e
  · rename_i m' hm
    split at e
    · cases e
    · rename_i h' hh
      split at e
      · cases e
      · rename_i l' hl
        cases e
        have h1 : m ≤ cap := by
          cases mx with
          | none => simp at hm; omega
          | some v => exact hb _ _ _ hm
        have h2 : hi.isSome = true → h ≤ m := by
          cases hi with
          | none => intro e; cases e
          | some v => intro _; cases mx <;> exact hb _ _ _ hh
        have h3 : hi = none → h = len ∧ mx = none := by
          intro e; subst e
          cases mx with
          | none => simp at hh; exact ⟨hh.symm, rfl⟩
          | some v => simp at hh
        have h4 : l ≤ h := by
          cases lo with
          | none => simp at hl; omega
          | some v => exact hb _ _ _ hl
        have h5 : mx = none → m = cap := by intro e; subst e; simpa using hm.symm
        exact ⟨h4, h1, h2, h3, h5⟩

/-- The bounds of a slice expression, in the model: at a capacity that may be greater, if no third bound is given. -/
theorem sim_bounds {len cap cap' : Nat} {lo hi mx lo' hi' mx' : Option Value} {l h m : Nat} (e : boundsA len cap lo hi mx = some (l, h, m)) (h1 : OVR j lo lo') (h2 : OVR j hi hi') (h3 : OVR j mx mx') (hc : cap ≤ cap') (b : Bool) (w : World) :
    (Instr.sliceBounds b len cap' lo' hi' mx').run P w = .ok (l, h, capOf mx cap' m) w := by
  unfold boundsA at e
  split at e
  · cases e
  · rename_i m' hm
    split at e
    · cases e
    · rename_i h' hh
      split at e
      · cases e
      · rename_i l' hl
        cases e
        cases h3 with
        | none =>
          have hm' : cap = m := by simpa using hm
          subst hm'
          cases h2 with
          | none =>
            have hh' : len = h := by simpa using hh
            subst hh'
            cases h1 with
            | none =>
              have : 0 = l := by simpa using hl
              subst this
              simp only [capOf, Instr.sliceBounds, Sem.run_bind, Sem.run_pure, Result.andThen_ok]
            | some r1 =>
              have := (sim_bound (P := P) (by simpa using hl) r1 (Nat.le_refl _) .sliceB w).1
              simp only [capOf, Instr.sliceBounds, Sem.run_bind, Sem.run_pure, Result.andThen_ok, Option.isSome_none, Bool.false_eq_true, if_false, this]
          | some r2 =>
            have e2 := sim_bound (P := P) (by simpa using hh) r2 hc (if b then .sliceAcap else .sliceAlen) w
            cases h1 with
            | none =>
              have : 0 = l := by simpa using hl
              subst this
              simp only [capOf, Instr.sliceBounds, Sem.run_bind, Sem.run_pure, Result.andThen_ok, e2.1]
            | some r1 =>
              have := (sim_bound (P := P) (by simpa using hl) r1 (Nat.le_refl _) .sliceB w).1
              simp only [capOf, Instr.sliceBounds, Sem.run_bind, Sem.run_pure, Result.andThen_ok, Option.isSome_none, Bool.false_eq_true, if_false, e2.1, this]
        | some r3 =>
          have e3 := sim_bound (P := P) (by simpa using hm) r3 hc (if b then .slice3Acap else .slice3Alen) w
          cases h2 with
          | none => simp at hh
          | some r2 =>
            have e2 := (sim_bound (P := P) (by simpa using hh) r2 (Nat.le_refl _) .slice3B w).1
            cases h1 with
            | none =>
              have : 0 = l := by simpa using hl
              subst this
              simp only [capOf, Instr.sliceBounds, Sem.run_bind, Sem.run_pure, Result.andThen_ok, e2, e3.1]
            | some r1 =>
              have := (sim_bound (P := P) (by simpa using hl) r1 (Nat.le_refl _) .slice3C w).1
              simp only [capOf, Instr.sliceBounds, Sem.run_bind, Sem.run_pure, Result.andThen_ok, Option.isSome_some, if_true, e2, e3.1, this]

theorem add_none' (c o i : Nat) : (⟨c, o, none⟩ : Addr).add i = ⟨c, o + i, none⟩ := by
  unfold Addr.add
  split
  · rename_i e; subst e; rfl
  · rfl

theorem MR.kindOf {E : Env} {m : AMem} {w : World} (h : MR E j m w) {b : Nat} {k : Blk} (hk : j b = some k) {cs : List Value} {tag : Tag} (hg : m.get b = some (.cells cs tag)) :
    match tag with
    | .more sz => ∃ nc, k.more = some (sz, cs.length, nc) ∧ 0 < sz
    | _ => k.more = none := by
  obtain ⟨o', h1, h2⟩ := h.obj b _ k hg hk
  cases o' with
  | cells c e fz =>
    have := h2.1
    cases tag with
    | ro => exact this.1
    | own => exact this.1
    | more sz => exact ⟨_, this.1, this.2.2.2⟩
  | _ => exact h2.elim

theorem sim_slice {E : Env} {m : AMem} {w : World} (h : MR E j m w) {t : TypeId} {x x' v : Value} {lo hi mx lo' hi' mx' : Option Value} (e : sliceA E.P t x lo hi mx m = some v) (hx : VR j x x') (h1 : OVR j lo lo') (h2 : OVR j hi hi') (h3 : OVR j mx mx') :
    ∃ v', Gives E.P (Instr.sliceAt t x' lo' hi' mx') v' ∧ VR j v v' := by
  unfold sliceA at e
  split at e
  · -- a nil slice
    rename_i elem len cap hu
    split at e
    · rename_i hk
      split at e
      · rename_i l hh mm hb
        cases e; cases hx
        refine ⟨_, fun w => ?_, .snil _ _⟩
        have := sim_bounds (P := E.P) (cap' := cap) hb h1 h2 h3 (Nat.le_refl _) true w
        have hm : capOf mx cap mm = mm := by
          cases mx with
          | none => exact ((boundsA_le hb).2.2.2.2 rfl).symm
          | some _ => rfl
        rw [hm] at this
        simp only [Instr.sliceAt, Instr.slice, Sem.run_bind, run_underlying hu, Result.andThen_ok, this, r_size hk, Sem.run_pure]
        split <;> rfl
      · cases e
    · cases e
  · rename_i elem b o len cap hu
    split at e
    · rename_i hk
      split at e
      · rename_i cs sz hg
        split at e
        · cases e
        · rename_i hsz
          have hsz : sz = sizeA E.P elem := Decidable.of_not_not hsz
          cases hx with
          | slice hj hm =>
            have := h.kindOf hj hg
            simp only at this
            obtain ⟨nc, hmm, _⟩ := this
            rw [hm] at hmm; cases hmm
          | sliceM hj hm e1 e2 hl hc =>
            rename_i cap' sz' na nc k
            have hkd := h.kindOf hj hg
            simp only at hkd
            obtain ⟨nc', hmm, hpos⟩ := hkd
            rw [hm] at hmm; cases hmm
            cases h3 with
            | none =>
              simp only at e
              split at e
              · rename_i l hh mm hb
                have hbl := boundsA_le hb
                have hrun := fun w => sim_bounds (P := E.P) (cap' := cap') hb h1 h2 .none hc true w
                have hlc : l ≤ cap := by
                  cases hi with
                  | none => have := hbl.2.2.2.1 rfl; omega
                  | some _ => have := hbl.2.2.1 rfl; omega
                split at e
                · rename_i hcl
                  cases e
                  refine ⟨_, fun w => ?_, .vague (a' := if cap' = l then ⟨k.c, o, none⟩ else ⟨k.c, o + l * sizeA E.P elem, none⟩) (cap' := cap' - l)⟩
                  have hhl : hh - l = 0 := by
                    cases hi with
                    | none => have := hbl.2.2.2.1 rfl; omega
                    | some _ => have := hbl.2.2.1 rfl; omega
                  simp only [Instr.sliceAt, Instr.slice, Sem.run_bind, run_underlying hu, Result.andThen_ok, hrun, r_size hk, Sem.run_pure, hhl, capOf]
                  split
                  · rfl
                  · rw [Option.map_some, add_none']
                · rename_i hcl
                  cases e
                  refine ⟨.slice (some ⟨k.c, o + l * sizeA E.P elem, none⟩) (hh - l) (cap' - l), fun w => ?_, .sliceM hj hm ?_ ?_ ?_ ?_⟩
                  · have : ¬ cap' = l := by omega
                    simp only [Instr.sliceAt, Instr.slice, Sem.run_bind, run_underlying hu, Result.andThen_ok, hrun, r_size hk, Sem.run_pure, if_neg this, Option.map_some, add_none', capOf]
                  · subst hsz; rw [← e1, Nat.sub_mul]; have : l * sizeA E.P elem ≤ cap * sizeA E.P elem := Nat.mul_le_mul_right _ hlc; omega
                  · subst hsz; rw [← e2, Nat.sub_mul]; have : l * sizeA E.P elem ≤ cap' * sizeA E.P elem := Nat.mul_le_mul_right _ (by omega); omega
                  · cases hi with
                    | none => have := hbl.2.2.2.1 rfl; omega
                    | some _ => have := hbl.2.2.1 rfl; omega
                  · omega
              · cases e
            | some r3 =>
              simp only at e
              split at e
              · rename_i l hh mm hb
                split at e
                · rename_i hcond
                  cases e
                  have hrun := fun w => sim_bounds (P := E.P) (cap' := cap') hb h1 h2 (.some r3) hc true w
                  refine ⟨_, fun w => ?_, .dry (a' := ⟨k.c, o, none⟩)⟩
                  simp only [Instr.sliceAt, Instr.slice, Sem.run_bind, run_underlying hu, Result.andThen_ok, hrun, r_size hk, Sem.run_pure, hcond.2, hcond.1, Nat.sub_self, capOf]
                  simp
                · cases e
              · cases e
      · rename_i cs tag hnm hg
        split at e
        · rename_i l hh mm hb
          cases e
          cases hx with
          | slice hj hm =>
            rename_i k
            have hrun := fun w => sim_bounds (P := E.P) (cap' := cap) hb h1 h2 h3 (Nat.le_refl _) true w
            have hmm : capOf mx cap mm = mm := by
              cases mx with
              | none => exact ((boundsA_le hb).2.2.2.2 rfl).symm
              | some _ => rfl
            rw [hmm] at hrun
            refine ⟨.slice (some (if mm = l then ⟨k.c, o, none⟩ else ⟨k.c, o + l * sizeA E.P elem, none⟩)) (hh - l) (mm - l), fun w => ?_, ?_⟩
            · simp only [Instr.sliceAt, Instr.slice, Sem.run_bind, run_underlying hu, Result.andThen_ok, hrun, r_size hk, Sem.run_pure]
              split
              · rename_i hc; simp only [if_pos hc]
              · rename_i hc; simp only [if_neg hc, Option.map_some, add_none']
            · split
              · exact .slice hj hm
              · exact .slice hj hm
          | sliceM hj hm e1 e2 hl hc =>
            have hkd := h.kindOf hj hg
            cases tag with
            | more sz => exact absurd rfl (hnm sz)
            | ro => simp only at hkd; rw [hm] at hkd; cases hkd
            | own => simp only at hkd; rw [hm] at hkd; cases hkd
        · cases e
      · cases e
    · cases e
  · -- an empty slice of which no more is known
    rename_i elem b o sp hu
    split at e
    · rename_i hk
      split at e
      · rename_i r hb
        obtain ⟨l, hh, mm⟩ := r
        cases e
        have hbl := boundsA_le hb
        have hl0 : l = 0 ∧ hh = 0 := by
          cases hi with
          | none => have := hbl.2.2.2.1 rfl; omega
          | some _ => have := hbl.2.2.1 rfl; omega
        cases hx with
        | vague =>
          rename_i a' cap'
          have hrun := fun w => sim_bounds (P := E.P) (cap' := cap') hb h1 h2 h3 (Nat.zero_le _) true w
          refine ⟨_, fun w => ?_, .vague (a' := a') (cap' := capOf mx cap' mm)⟩
          simp only [Instr.sliceAt, Instr.slice, Sem.run_bind, run_underlying hu, Result.andThen_ok, hrun, r_size hk, Sem.run_pure, hl0.1, hl0.2, Nat.sub_self, Nat.zero_mul, Nat.sub_zero, Option.map_some]
          simp [Addr.add]
        | dry =>
          rename_i a'
          have hrun := fun w => sim_bounds (P := E.P) (cap' := 0) hb h1 h2 h3 (Nat.zero_le _) true w
          have hmm : capOf mx 0 mm = 0 := by
            cases mx with
            | none => rfl
            | some _ => have := hbl.2.1; simp [capOf]; omega
          rw [hmm] at hrun
          refine ⟨_, fun w => ?_, .dry (a' := a')⟩
          simp only [Instr.sliceAt, Instr.slice, Sem.run_bind, run_underlying hu, Result.andThen_ok, hrun, r_size hk, Sem.run_pure, hl0.1, hl0.2, Nat.sub_self, Nat.zero_mul, Nat.sub_zero, Option.map_some]
          simp
      · cases e
    · cases e
  · -- an array in memory
    rename_i n elem b o hu
    split at e
    · rename_i hk
      split at e
      · cases e
      · rename_i cs tag hnm hg
        split at e
        · rename_i l hh mm hb
          cases e
          cases hx with
          | ptr hj =>
            rename_i k
            have hrun := fun w => sim_bounds (P := E.P) (cap' := n) hb h1 h2 h3 (Nat.le_refl _) false w
            have hmm : capOf mx n mm = mm := by
              cases mx with
              | none => exact ((boundsA_le hb).2.2.2.2 rfl).symm
              | some _ => rfl
            rw [hmm] at hrun
            have hkd := h.kindOf hj hg
            have hm : k.more = none := by
              cases tag with
              | more sz => exact absurd rfl (hnm sz)
              | ro => exact hkd
              | own => exact hkd
            refine ⟨.slice (some (if mm = l then ⟨k.c, o, none⟩ else ⟨k.c, o + l * sizeA E.P elem, none⟩)) (hh - l) (mm - l), fun w => ?_, ?_⟩
            · simp only [Instr.sliceAt, Instr.sureAddr, Sem.run_bind, run_underlying hu, Result.andThen_ok, hrun, r_size hk, Sem.run_pure]
              split
              · rename_i hc; simp only [if_pos hc]
              · rename_i hc; simp only [if_neg hc, add_none']
            · split
              · exact .slice hj hm
              · exact .slice hj hm
        · cases e
      · cases e
    · cases e
  · cases e

/-! ### Addresses, fields, elements -/
theorem sim_fieldAddr {t : TypeId} {x x' v : Value} {f : Nat} (e : fieldAddrA P t x f = some v) (hx : VR j x x') : ∃ v', Gives P (Instr.fieldAt t x' f) v' ∧ VR j v v' := by
  unfold fieldAddrA at e
  split at e
  · rename_i fields b o hu
    split at e
    · rename_i fl hf
      split at e
      · rename_i hk
        simp only [Bool.and_eq_true, bne_iff_ne, ne_eq] at hk
        cases e
        cases hx with
        | ptr hj =>
        rename_i k
        refine ⟨_, fun w => ?_, .ptr hj⟩
        simp only [Instr.fieldAt, Sem.run_bind, run_underlying hu, Result.andThen_ok, hf, Instr.sureAddr, Sem.run_pure, fieldPlace, r_size hk.1, if_neg hk.2, add_none']
      · cases e
    · cases e
  · cases e

theorem sim_indexAddr {t : TypeId} {x x' y y' v : Value} (e : indexAddrA P t x y = some v) (hx : VR j x x') (hy : VR j y y') : ∃ v', Gives P (Instr.indexAt t x' y') v' ∧ VR j v v' := by
  unfold indexAddrA at e
  split at e
  · rename_i len elem b o k i hu
    split at e
    · rename_i hc
      simp only [Bool.and_eq_true, decide_eq_true_eq] at hc
      cases e
      cases hy
      cases hx with
      | ptr hj =>
      refine ⟨_, fun w => ?_, .ptr hj⟩
      simp only [Instr.indexAt, asIntOf, Sem.run_bind, run_underlying hu, Result.andThen_ok, Instr.sureAddr, Sem.run_pure, r_size hc.1, if_pos hc.2, add_none']
    · cases e
  · rename_i elem b o len cap k i hu
    split at e
    · rename_i hc
      simp only [Bool.and_eq_true, decide_eq_true_eq] at hc
      cases e
      cases hy
      cases hx with
      | slice hj hm =>
        refine ⟨_, fun w => ?_, .ptr hj⟩
        simp only [Instr.indexAt, asIntOf, Sem.run_bind, run_underlying hu, Result.andThen_ok, Sem.run_pure, r_size hc.1, if_pos hc.2, add_none']
      | sliceM hj hm e1 e2 hl hcap =>
        refine ⟨_, fun w => ?_, .ptr hj⟩
        simp only [Instr.indexAt, asIntOf, Sem.run_bind, run_underlying hu, Result.andThen_ok, Sem.run_pure, r_size hc.1, if_pos hc.2, add_none']
    · cases e
  · cases e

theorem sim_index {t : TypeId} {x x' y y' v : Value} (e : indexA P t x y = some v) (hx : VR j x x') (hy : VR j y y') : ∃ v', Gives P (Instr.index t x' y') v' ∧ VR j v v' := by
  unfold indexA at e
  split at e
  · rename_i len elem cs k i hu
    split at e
    · rename_i hc
      cases hy
      cases hx with
      | agg h1 h2 =>
      have hk : known P elem = true := by
        unfold partA at e
        split at e
        · cases e
        · rename_i hk; simpa using hk
      obtain ⟨v', h3, h4⟩ := sim_part e (LR.of_arr h1 h2)
      refine ⟨v', fun w => ?_, h4⟩
      simp only [Instr.index, asIntOf, Sem.run_bind, run_underlying hu, Result.andThen_ok, Sem.run_pure, if_pos hc, r_size hk, h3]
    · cases e
  · rename_i s k i hu
    split at e
    · rename_i hc
      cases hy; cases hx
      cases hs : s[i.toNat]? with
      | none => rw [hs] at e; cases e
      | some b =>
        rw [hs] at e; cases e
        refine ⟨_, fun w => ?_, .int _ _⟩
        simp only [Instr.index, asIntOf, Sem.run_bind, run_underlying hu, Result.andThen_ok, Sem.run_pure, if_pos hc, hs]
    · cases e
  · cases e

theorem sim_field {t : TypeId} {x x' v : Value} {f : Nat} (e : fieldA P t x f = some v) (hx : VR j x x') : ∃ v', Gives P (Instr.field t x' f) v' ∧ VR j v v' := by
  unfold fieldA at e
  split at e
  · rename_i fields cs hu
    split at e
    · rename_i fl hf
      cases hx with
      | agg h1 h2 =>
      obtain ⟨v', h3, h4⟩ := sim_part e (LR.of_arr h1 h2)
      refine ⟨v', fun w => ?_, h4⟩
      simp only [Instr.field, Sem.run_bind, run_underlying hu, Result.andThen_ok, hf, asAgg, Sem.run_pure, h3]
    · cases e
  · cases e

/-! ### Loads -/
theorem sim_load {E : Env} {m : AMem} {w : World} (h : MR E j m w) {t : TypeId} {x x' v : Value} (e : loadA E.P t x m = some v) (hx : VR j x x') :
    ∃ v', (Instr.loadAt t x').run E.P w = .ok v' w ∧ VR j v v' := by
  unfold loadA at e
  split at e
  · rename_i b o
    split at e
    · cases e
    · rename_i hk
      have hk' : known E.P t = true := by simpa using hk
      cases hx with
      | ptr hj =>
      rename_i k
      split at e
      · rename_i ha
        cases hl : m.loadN b o (sizeA E.P t) with
        | none => rw [hl] at e; cases e
        | some vs =>
          rw [hl] at e; cases e
          obtain ⟨vs', h1, h2⟩ := h.loadN hj hl
          refine ⟨.agg vs'.toArray, ?_, .agg' (by simpa using h2)⟩
          simp only [Instr.loadAt, Instr.sureAddr, Sem.run_bind, Sem.run_pure, Result.andThen_ok, loadVar, r_isAgg hk', ha, if_true, r_size hk', h1 w rfl]
      · rename_i ha
        have ha' : isAggA E.P t = false := by simpa using ha
        split at e
        · rename_i cs tag hg
          obtain ⟨v', h1, h2⟩ := h.cell hj hg e
          refine ⟨v', ?_, h2⟩
          simp only [Instr.loadAt, Instr.sureAddr, Sem.run_bind, Sem.run_pure, Result.andThen_ok, loadVar, r_isAgg hk', ha', Bool.false_eq_true, if_false, run_load, h1]
        · cases e
  · cases e
end
end Go.Ab
