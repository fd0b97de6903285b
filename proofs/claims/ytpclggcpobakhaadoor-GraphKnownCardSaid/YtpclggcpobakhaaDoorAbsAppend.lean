/-
  The abstract machine and the model: append, copy, clear, len, cap, min, max.
-/
import Derived.Test.YtpclggcpobakhaaDoorAbsWrite
import Derived.IntWalk
namespace Go.Ab
open Go

theorem growBy_le (n : Nat) : ∀ (r c : Nat), Builtin.growBy n r c ≤ max c (n + (n + 768) / 4)
  | 0, c => by simp only [Builtin.growBy]; omega
  | r + 1, c => by
    simp only [Builtin.growBy]
    split
    · omega
    · have := growBy_le n r (c + (c + 768) / 4)
      omega
theorem nextslicecap_le {need cap : Nat} (h : cap < need) : Builtin.nextslicecap need cap ≤ 2 * need + 2000 := by
  unfold Builtin.nextslicecap
  split
  · omega
  · split
    · omega
    · have := growBy_le need 4 cap
      omega

section
variable {E : Env} {j : Inj} {m : AMem} {w : World}

/-- What append does in the model, once it is known what is appended. -/
def appendCore (elem : TypeId) (size : Nat) (base : Option Addr) (sLen sCap n : Nat) (zeros : Bool) (s x : Value) (appended : Sem (Array Value)) : Sem Value := do
  let need := sLen + n
  if need ≤ sCap then
    let new ← appended
    if let some a := base then storeCells (a.add (sLen * size)) new.toList
    pure (.slice base need sCap)
  else
    if (need : Int) > IntKind.i64.max ∧ (zeros ∨ (← typeInfo elem).bytes = 0) then runtimePanic (.error "growslice: len out of range")
    if Builtin.nextslicecap need sCap * (← typeInfo elem).bytes > 2 ^ 48 then (if zeros then runtimePanic (.error "growslice: len out of range") else do
      if !(← Builtin.mayShare size sLen n base x) then mark .noRoom
      unsupported (.resourceLimit "append: a slice or a string whose bytes no memory bears"))
    let newCap ← choose (.appendCap need sCap elem)
    askRoom (newCap * (← typeInfo elem).bytes)
    let old ← Builtin.firstCells size sLen s
    let new ← appended
    let rest := Builtin.zeroCells (← zeroValue elem).cells (newCap - need)
    pure (.slice (some (← newRow elem (old ++ new ++ rest))) need newCap)

/-- Within the capacity. -/
theorem core_fits {P : Program} {elem : TypeId} {size sLen sCap n : Nat} {zeros : Bool} {s x : Value} {a : Addr} {app : Sem (Array Value)} {new : List Value} {w w' : World}
    (happ : app.run P w = .ok new.toArray w) (hfit : sLen + n ≤ sCap) (hst : (storeCells (a.add (sLen * size)) new).run P w = .ok () w') :
    (appendCore elem size (some a) sLen sCap n zeros s x app).run P w = .ok (.slice (some a) (sLen + n) sCap) w' := by
  simp only [appendCore, if_pos hfit, Sem.run_bind, happ, Result.andThen_ok, hst, Sem.run_pure]

/-- Beyond the capacity: a new array, of whatever capacity. -/
theorem core_grows {P : Program} {elem : TypeId} {size sLen sCap n : Nat} {zeros : Bool} {s x : Value} {base : Option Addr} {app : Sem (Array Value)} {new old : List Value} {w : World} {i : TypeInfo} {z : Value}
    (happ : ∀ w0 : World, w0.heap = w.heap → app.run P w0 = .ok new.toArray w0) (hold : ∀ w0 : World, w0.heap = w.heap → (Builtin.firstCells size sLen s).run P w0 = .ok old.toArray w0) (hgrow : ¬ sLen + n ≤ sCap)
    (hi : P.info? elem = some i) (hz : i.zero = some z) (hfit : fitsCap i.bytes (sLen + n) = true) (hb : i.bytes ≠ 0) (hzs : z.cells.size = size) (ho : old.length = sLen * size) (hn : new.length = n * size) :
    ∃ (cap : Nat) (rest : List Value) (w0 : World), (w0.heap = w.heap ∧ w0.os = w.os ∧ w0.output = w.output) ∧ sLen + n ≤ cap ∧ (old ++ new ++ rest).length = cap * size ∧
      (appendCore elem size base sLen sCap n zeros s x app).run P w = .ok (.slice (some ⟨w.heap.size, 0, none⟩) (sLen + n) cap) (w0.alloc (.cells (old ++ new ++ rest).toArray elem)) := by
  have hfit' : (2 * (sLen + n) + 2000) * i.bytes ≤ 2 ^ 48 := by simpa [fitsCap] using hfit
  have h1 : ¬ (((sLen + n : Nat) : Int) > IntKind.i64.max ∧ (zeros = true ∨ i.bytes = 0)) := by
    intro hc
    have hbig : sLen + n ≤ 2 ^ 48 := by
      have : 1 ≤ i.bytes := Nat.one_le_iff_ne_zero.2 hb
      have : (sLen + n) * 1 ≤ (2 * (sLen + n) + 2000) * i.bytes := Nat.mul_le_mul (by omega) this
      omega
    have hmax : IntKind.i64.max = 9223372036854775807 := by decide
    rw [hmax] at hc
    omega
  have h2 : ¬ Builtin.nextslicecap (sLen + n) sCap * i.bytes > 2 ^ 48 := by
    have := Nat.mul_le_mul_right i.bytes (nextslicecap_le (need := sLen + n) (cap := sCap) (by omega))
    omega
  have hzv : ∀ w0 : World, (zeroValue elem).run P w0 = .ok z w0 := fun w0 => r_zero (by simp [zeroA, hi, hz]) w0
  obtain ⟨cap, hcap⟩ : ∃ cap, cap = (Question.appendCap (sLen + n) sCap elem).cut (w.tape w.drawn (.appendCap (sLen + n) sCap elem)) := ⟨_, rfl⟩
  have hle : sLen + n ≤ cap := by rw [hcap]; simp [Question.cut]
  refine ⟨cap, repeatL z.cells.toList (cap - (sLen + n)), w.drew, ⟨rfl, rfl, rfl⟩, hle, ?_, ?_⟩
  · simp only [List.length_append, length_repeatL, ho, hn, Array.length_toList, hzs]
    rw [← Nat.add_mul, ← Nat.add_mul]
    congr 1; omega
  · have hzc : Builtin.zeroCells z.cells (cap - (sLen + n)) = (repeatL z.cells.toList (cap - (sLen + n))).toArray := by
      rw [← zeros_eq (zero := z.cells)]; rfl
    simp only [appendCore, if_neg hgrow, Sem.run_bind, r_info hi, Result.andThen_ok, Sem.run_ite, if_neg h1, if_neg h2, Sem.run_pure, run_choose, Question.forced, Bool.false_eq_true, if_false, World.drew_eq, run_askRoom,
      hold w.drew rfl, happ w.drew rfl, hzv, ← hcap, hzc, newRow, run_newObj, World.alloc_eq]
    simp

/-- What is appended, or copied, out of a slice. -/
theorem sim_src (h : MR E j m w) {sz n : Nat} {x x' : Value} {new : List Value} (e : srcCells sz x n m = some new) (hx : VR j x x') :
    ∃ new', (∀ w0 : World, w0.heap = w.heap → (Builtin.firstCells sz n x').run E.P w0 = .ok new'.toArray w0) ∧ LR j new new' := by
  unfold srcCells at e
  split at e
  · split at e
    · rename_i hn; subst hn; cases e; cases hx
      exact ⟨[], fun w0 _ => rfl, .nil j⟩
    · cases e
  · rename_i b o l c
    split at e
    · rename_i hn; subst hn; cases e
      refine ⟨[], fun w0 _ => ?_, .nil j⟩
      cases hx <;> simp [Builtin.firstCells, loadCells, loadCellsFrom]
    · have hgo : ∀ k : Blk, j b = some k → ∃ new', (∀ w0 : World, w0.heap = w.heap → (loadCells ⟨k.c, o, none⟩ (n * sz)).run E.P w0 = .ok new'.toArray w0) ∧ LR j new new' := by
        intro k hj
        exact h.loadN hj e
      cases hx with
      | slice hj hm => exact hgo _ hj
      | sliceM hj hm e1 e2 hl hc => exact hgo _ hj
  · split at e
    · rename_i hn; subst hn; cases e
      refine ⟨[], fun w0 _ => ?_, .nil j⟩
      cases hx <;> simp [Builtin.firstCells, loadCells, loadCellsFrom]
    · cases e
  · cases e

/-- What an append adds. -/
theorem sim_newCells (h : MR E j m w) {elem : TypeId} {xt : Option TypeId} {x x' : Value} {n : Nat} {new : List Value} (e : newCells E.P elem xt x m = some (n, new)) (hx : VR j x x') (hk : known E.P elem = true)
    {i : TypeInfo} (hi : E.P.info? elem = some i) (hbytes : n * i.bytes ≤ 2 ^ 48) {sType : TypeId} (hu : E.P.underlying sType = some (.slice elem)) {ts : Array TypeId} (h0 : ts[0]? = some sType) (h1 : ts[1]? = xt) (ty : TypeId) :
    ∃ (new' : List Value) (zeros : Bool) (app : Sem (Array Value)), LR j new new' ∧ (∀ w0 : World, w0.heap = w.heap → app.run E.P w0 = .ok new'.toArray w0) ∧
      ∀ base sLen sCap, (Builtin.append_ ts ty #[.slice base sLen sCap, x']).run E.P w = (appendCore elem (sizeA E.P elem) base sLen sCap n zeros (.slice base sLen sCap) x' app).run E.P w := by
  unfold newCells at e
  split at e
  · rename_i et a l c hxt
    cases hs : srcCells (sizeA E.P elem) (.slice a l c) l m with
    | none => rw [hs] at e; cases e
    | some cs =>
      rw [hs] at e; cases e
      obtain ⟨new', h2, h3⟩ := sim_src h hs hx
      refine ⟨new', false, Builtin.firstCells (sizeA E.P elem) n x', h3, h2, fun base sLen sCap => ?_⟩
      have hlen : ∀ w0 : World, (Builtin.lenOf x').run E.P w0 = .ok n w0 := by
        intro w0
        cases hx <;> rfl
      obtain ⟨xt', hxt', hu'⟩ : ∃ xt', xt = some xt' ∧ E.P.underlying xt' = some (.slice et) := by
        cases xt with
        | none => cases hxt
        | some xt' => exact ⟨xt', rfl, hxt⟩
      rw [hxt'] at h1
      simp only [appendCore, Builtin.append_, h0, h1, List.getElem?_toArray, List.getElem?_cons_zero, List.getElem?_cons_succ, Sem.run_bind, run_underlying hu, run_underlying hu', Result.andThen_ok, r_size hk, Sem.run_pure, Bool.false_eq_true, if_false, hlen, Bool.not_false, if_true]
      congr
  · rename_i k l hxt
    split at e
    · rename_i hl
      cases hz : zerosA E.P elem l.toNat with
      | none => rw [hz] at e; cases e
      | some zs =>
        rw [hz] at e
        simp only [Option.bind_some] at e
        split at e
        · rename_i hp
          cases e
          cases hx
          obtain ⟨z, hz1, hz2, hz3⟩ := zerosA_some hz
          obtain ⟨xt', k', hxt', hu'⟩ : ∃ xt' k', xt = some xt' ∧ E.P.underlying xt' = some (.int k') := by
            cases xt with
            | none => cases hxt
            | some xt' => exact ⟨xt', _, rfl, hxt⟩
          have hwrap : IntKind.i64.wrap l = l := IntWalk.i64_in l (by have := hl.1; have := hl.2; omega)
          have hlb : ¬ (l * i.bytes > 2 ^ 48) := by
            have : ((l.toNat * i.bytes : Nat) : Int) ≤ 2 ^ 48 := by exact_mod_cast hbytes
            have h3 : ((l.toNat : Nat) : Int) = l := Int.toNat_of_nonneg hl.1
            rw [Int.natCast_mul, h3] at this
            omega
          refine ⟨new, true, if l.toNat * sizeA E.P elem = 0 then pure #[] else do pure (Builtin.zeroCells (← zeroValue elem).cells l.toNat), LR.plain hp, ?_, fun base sLen sCap => ?_⟩
          · intro w0 _
            rw [Sem.run_ite]
            split
            · rename_i h0
              have : new = [] := by
                apply List.eq_nil_of_length_eq_zero
                rw [hz3, length_repeatL, Array.length_toList, hz2, h0]
              rw [this]; rfl
            · simp only [Sem.run_bind, r_zero hz1, Result.andThen_ok, Sem.run_pure]
              rw [hz3, ← zeros_eq (zero := z.cells)]; rfl
          · rw [hxt'] at h1
            have hneg : ¬ l < 0 := by have := hl.1; omega
            simp only [appendCore, Builtin.append_, h0, h1, List.getElem?_toArray, List.getElem?_cons_zero, List.getElem?_cons_succ, Sem.run_bind, run_underlying hu, run_underlying hu', Result.andThen_ok, r_size hk, Sem.run_pure, if_true, asInt, asIntOf, hwrap, if_neg hneg, r_info hi, if_neg hlb, Bool.not_true, Bool.false_eq_true, if_false]
            congr
        · cases e
    · cases e
  · cases e

theorem OR.more {c na nc sz : Nat} {cs : List Value} {c' : Array Value} {elem : TypeId} (h1 : cs.length = na) (h2 : c'.size = nc) (h3 : na ≤ nc) (hsz : 0 < sz) (h : ∀ (i : Nat) (v : Value), cs[i]? = some v → ∃ v', c'[i]? = some v' ∧ VR j v v') :
    OR j ⟨c, some (sz, na, nc)⟩ (.cells cs (.more sz)) (.cells c' elem) :=
  ⟨⟨by rw [h1, h2], by omega, rfl, hsz⟩, h⟩

/-- A new array that may have more. -/
theorem sim_newMore (h : MR E j m w) {w0 : World} (hw3 : w0.heap = w.heap ∧ w0.os = w.os ∧ w0.output = w.output) {cs cs' rest : List Value} {elem : TypeId} {sz n cap : Nat} (hc : LR j cs cs') (hl : cs.length = n * sz) (hr : (cs' ++ rest).length = cap * sz) (hn : n ≤ cap) (hsz : 0 < sz) :
    ∃ j', Sim E j m w j' (m.alloc (.cells cs (.more sz))) (w0.alloc (.cells (cs' ++ rest).toArray elem)) ∧ VR j' (.slice (some ⟨m.next, 0, none⟩) n n) (.slice (some ⟨w.heap.size, 0, none⟩) n cap) := by
  have hw := hw3.1
  have h0 := h.of_heap hw
  have hle : n * sz ≤ cap * sz := Nat.mul_le_mul_right _ hn
  have ho : OR j ⟨w0.heap.size, some (sz, n * sz, cap * sz)⟩ (.cells cs (.more sz)) (.cells (cs' ++ rest).toArray elem) := by
    refine OR.more hl (by simpa using hr) hle hsz fun i v hi => ?_
    obtain ⟨v', a, b⟩ := hc.get hi
    refine ⟨v', ?_, b⟩
    rw [List.getElem?_toArray, List.getElem?_append_left (List.getElem?_eq_some_iff.1 a).1]
    exact a
  have s := sim_alloc h0 ho
  refine ⟨_, (Sim.of_heap h hw hw3.2).trans h s, ?_⟩
  have : VR (j.set m.next ⟨w0.heap.size, some (sz, n * sz, cap * sz)⟩) (.slice (some ⟨m.next, 0, none⟩) n n) (.slice (some ⟨w0.heap.size, 0, none⟩) n cap) :=
    .sliceM (k := ⟨w0.heap.size, some (sz, n * sz, cap * sz)⟩) (Inj.set_eq _ _ _) rfl rfl rfl (Nat.le_refl _) hn
  rw [hw] at this ⊢
  exact this

theorem sim_append (h : MR E j m w) {t : TypeId} {xt : Option TypeId} {s s' x x' v : Value} {m' : AMem} (e : appendA E.P t xt s x m = some (v, m')) (hs : VR j s s') (hx : VR j x x')
    {ts : Array TypeId} (h0 : ts[0]? = some t) (h1 : ts[1]? = xt) (ty : TypeId) :
    ∃ j' w' v', (Builtin.append_ ts ty #[s', x']).run E.P w = .ok v' w' ∧ Sim E j m w j' m' w' ∧ VR j' v v' := by
  unfold appendA at e
  split at e
  · rename_i elem base len cap n new hu hnc
    simp only [hu] at hnc
    simp only at e
    split at e
    · cases e
    · rename_i hcond
      simp only [Bool.or_eq_true, Bool.not_eq_true', not_or, Bool.not_eq_false, beq_iff_eq, bne_iff_ne, ne_eq, Decidable.not_not, Option.any_eq_true] at hcond
      obtain ⟨⟨⟨⟨⟨hk, hsz0⟩, hone⟩, ⟨i, hi, hfit⟩⟩, hlen⟩, ⟨z, hz, hzs⟩⟩ := hcond
      simp only [Bool.and_eq_true, bne_iff_ne, ne_eq] at hfit
      obtain ⟨hfit, hb⟩ := hfit
      obtain ⟨i', hi', hz'⟩ := info_of_zero hz
      rw [hi] at hi'; cases hi'
      have hzs' : z.cells.size = sizeA E.P elem := by simpa using hzs
      have hsz : 0 < sizeA E.P elem := Nat.pos_of_ne_zero hsz0
      have hbytes : n * i.bytes ≤ 2 ^ 48 := by
        have : (2 * (len + n) + 2000) * i.bytes ≤ 2 ^ 48 := by simpa [fitsCap] using hfit
        have := Nat.mul_le_mul_right i.bytes (show n ≤ 2 * (len + n) + 2000 by omega)
        omega
      obtain ⟨new', zeros, app, hnew, happ, hrun⟩ := sim_newCells h hnc hx hk hi hbytes hu h0 h1 ty
      have hnl : new'.length = n * sizeA E.P elem := by rw [← hnew.1]; exact hlen
      split at e
      · -- a nil slice
        split at e
        · cases e
        · rename_i hz0
          have hlc : len = 0 ∧ cap = 0 := by omega
          obtain ⟨rfl, rfl⟩ := hlc
          cases hs
          split at e
          · rename_i hn; cases e
            subst hn
            refine ⟨j, w, .slice none 0 0, ?_, .refl h, .snil 0 0⟩
            rw [hrun]
            simp only [appendCore, Nat.add_zero, Nat.le_refl, if_true, Sem.run_bind, happ w rfl, Result.andThen_ok, Sem.run_pure]
          · rename_i hn; cases e
            obtain ⟨cap', rest, w0, hw0, hle, hlr, hr⟩ := core_grows (P := E.P) (zeros := zeros) (s := .slice none 0 0) (x := x') (base := none) (sLen := 0) (sCap := 0) (old := []) happ (fun w0 _ => rfl) (by omega) hi hz' (by simpa using hfit) hb hzs' (by simp) hnl
            obtain ⟨j', s1, s2⟩ := sim_newMore h hw0 (elem := elem) hnew hlen (by simpa using hlr) (by omega) hsz
            refine ⟨j', _, _, by rw [hrun]; exact hr, by simpa using s1, by simpa using s2⟩
      · rename_i b o
        split at e
        · rename_i cs tag hg
          split at e
          · -- within the cells that are known
            rename_i hfits
            cases hst : m.storeN b (o + len * sizeA E.P elem) new with
            | none => rw [hst] at e; cases e
            | some m1 =>
              rw [hst] at e; cases e
              cases hs with
              | slice hj hm =>
                obtain ⟨w', g1, g2⟩ := sim_storeN h hj hnew hone hst
                refine ⟨j, w', _, ?_, g2, .slice hj hm⟩
                rw [hrun]
                exact core_fits (happ w rfl) hfits (by rw [add_none]; exact g1)
              | sliceM hj hm e1 e2 hl hc =>
                obtain ⟨w', g1, g2⟩ := sim_storeN h hj hnew hone hst
                refine ⟨j, w', _, ?_, g2, .sliceM hj hm e1 e2 hfits hc⟩
                rw [hrun]
                exact core_fits (happ w rfl) (by omega) (by rw [add_none]; exact g1)
          · rename_i hno
            have hexact : ∀ k : Blk, j b = some k → k.more = none → ∀ old, m.loadN b o (len * sizeA E.P elem) = some old → v = .slice (some ⟨m.next, 0, none⟩) (len + n) (len + n) → m' = m.alloc (.cells (old ++ new) (.more (sizeA E.P elem))) →
                ∃ j' w' v', (Builtin.append_ ts ty #[.slice (some ⟨k.c, o, none⟩) len cap, x']).run E.P w = .ok v' w' ∧ Sim E j m w j' m' w' ∧ VR j' v v' := by
              intro k hj hm old hold ev em
              obtain ⟨old', g1, g2⟩ := h.loadN hj hold
              have hol : old.length = len * sizeA E.P elem := (loadN_some hold).choose_spec.choose_spec.2.2
              obtain ⟨cap', rest, w0, hw0, hle, hlr, hr⟩ := core_grows (P := E.P) (zeros := zeros) (s := .slice (some ⟨k.c, o, none⟩) len cap) (x := x') (base := some ⟨k.c, o, none⟩) (sLen := len) (sCap := cap) (old := old') happ
                (fun w0 hw0 => g1 w0 hw0) hno hi hz' hfit hb hzs' (by rw [← g2.1]; exact hol) hnl
              obtain ⟨j', s1, s2⟩ := sim_newMore h hw0 (elem := elem) (g2.append hnew) (n := len + n) (by rw [List.length_append, hol, hlen, Nat.add_mul]) hlr hle hsz
              exact ⟨j', _, _, by rw [hrun]; exact hr, em ▸ s1, ev ▸ s2⟩
            split at e
            · -- a row that may have more
              rename_i sz' 
              split at e
              · rename_i hso
                obtain ⟨rfl, rfl⟩ := hso
                split at e
                · rename_i hol
                  cases e
                  cases hs with
                  | slice hj hm =>
                    have := h.kindOf hj hg
                    simp only at this
                    obtain ⟨nc, hmm, _⟩ := this
                    rw [hm] at hmm; cases hmm
                  | sliceM hj hm e1 e2 hl hc =>
                    rename_i cap' sz' na nc k
                    have hkd := h.kindOf hj hg
                    simp only at hkd
                    obtain ⟨nc', hmm, _⟩ := hkd
                    rw [hm] at hmm
                    simp only [Option.some.injEq, Prod.mk.injEq] at hmm
                    obtain ⟨rfl, rfl, rfl⟩ := hmm
                    by_cases hfits : len + n ≤ cap'
                    · -- there is room
                      obtain ⟨c, el, fz, c1, c2, c3⟩ := h.cellsAt hj hg
                      have c2' : k.more = some (sizeA E.P elem, cs.length, c.size) ∧ cs.length ≤ c.size ∧ fz = (0, 0) ∧ 0 < sizeA E.P elem := c2
                      obtain ⟨c4, c5, rfl, _⟩ := c2'
                      rw [hm] at c4
                      simp only [Option.some.injEq, Prod.mk.injEq, true_and] at c4
                      have hcs : (len + n) * sizeA E.P elem ≤ c.size := by
                        rw [← c4, ← e2]; simp; exact Nat.mul_le_mul_right _ hfits
                      have hmul : (len + n) * sizeA E.P elem = len * sizeA E.P elem + n * sizeA E.P elem := Nat.add_mul _ _ _
                      have hst := run_storeCells (P := E.P) new' w c 0 (len * sizeA E.P elem) c1 (by rw [hnl]; omega) (oneCell_LR hnew hone)
                      have hold : (cs.take (len * sizeA E.P elem)).length = len * sizeA E.P elem := hol
                      have hlecs : len * sizeA E.P elem ≤ cs.length := by rw [List.length_take] at hold; omega
                      have hor : OR j ⟨k.c, some (sizeA E.P elem, (len + n) * sizeA E.P elem, c.size)⟩ (.cells (cs.take (len * sizeA E.P elem) ++ new) (.more (sizeA E.P elem))) (.cells (spliceL c.toList (0 + len * sizeA E.P elem) new').toArray el) := by
                        refine OR.more (by rw [List.length_append, hold, hlen, hmul]) (by simp [length_spliceL]) hcs hsz fun ix vx hix => ?_
                        rw [List.getElem?_toArray, getElem?_spliceL, Nat.zero_add]
                        by_cases hlt : ix < len * sizeA E.P elem
                        · rw [List.getElem?_append_left (by rw [hold]; exact hlt), List.getElem?_take, if_pos hlt] at hix
                          rw [if_neg (by omega)]
                          obtain ⟨vx', q1, q2⟩ := c3 ix vx hix
                          exact ⟨vx', by simpa using q1, q2⟩
                        · rw [List.getElem?_append_right (by rw [hold]; omega), hold] at hix
                          obtain ⟨vx', q1, q2⟩ := hnew.get hix
                          have hlt' := (List.getElem?_eq_some_iff.1 q1).1
                          rw [if_pos ⟨by omega, by omega, by simp; omega⟩]
                          exact ⟨vx', q1, q2⟩
                      have s1 := sim_regrow h hj (by rw [hg]; rfl) hor
                      refine ⟨_, _, .slice (some ⟨k.c, 0, none⟩) (len + n) cap', ?_, s1, .sliceM (k := ⟨k.c, some (sizeA E.P elem, (len + n) * sizeA E.P elem, c.size)⟩) (Inj.set_eq _ _ _) rfl rfl (by rw [← c4]; exact e2) (Nat.le_refl _) hfits⟩
                      rw [hrun]
                      refine core_fits (happ w rfl) hfits ?_
                      rw [add_none]
                      have := run_storeCells (P := E.P) new' w c (0 + len * sizeA E.P elem) 0 c1 (by rw [hnl]; omega) (oneCell_LR hnew hone)
                      simpa using this
                    · -- there is none
                      have hol' : m.loadN b 0 (len * sizeA E.P elem) = some (cs.take (len * sizeA E.P elem)) := by
                        simp only [AMem.loadN, hg, List.drop_zero]
                        rw [if_pos hol]
                      obtain ⟨old', g1, g2⟩ := h.loadN hj hol'
                      obtain ⟨cap2, rest, w0, hw0, hle, hlr, hr⟩ := core_grows (P := E.P) (zeros := zeros) (s := .slice (some ⟨k.c, 0, none⟩) len cap') (x := x') (base := some ⟨k.c, 0, none⟩) (sLen := len) (sCap := cap') (old := old') happ
                        (fun w0 hw0 => g1 w0 hw0) hfits hi hz' hfit hb hzs' (by rw [← g2.1]; exact hol) hnl
                      have sk := sim_kill h hj
                      obtain ⟨j', s1, s2⟩ := sim_newMore sk.mr hw0 (elem := elem) (g2.append hnew) (n := len + n) (by rw [List.length_append, hol, hlen, Nat.add_mul]) hlr hle hsz
                      exact ⟨j', _, _, by rw [hrun]; exact hr, sk.trans h s1, s2⟩
                · cases e
              · cases e
            · -- a row that has just these cells
              rename_i htag
              split at e
              · rename_i old hold
                cases e
                have hkm : ∀ k : Blk, j b = some k → k.more = none := by
                  intro k hj
                  have := h.kindOf hj hg
                  cases tag with
                  | more sz => exact absurd rfl (htag sz)
                  | ro => exact this
                  | own => exact this
                cases hs with
                | slice hj hm => exact hexact _ hj hm _ hold rfl rfl
                | sliceM hj hm e1 e2 hl hc => rw [hkm _ hj] at hm; cases hm
              · cases e
        · cases e
      · -- no capacity at all
        rename_i b o
        split at e
        · cases e
        · rename_i hz0
          have hlc : len = 0 ∧ cap = 0 := by omega
          obtain ⟨rfl, rfl⟩ := hlc
          cases hs with
          | dry =>
          rename_i a'
          split at e
          · rename_i hn; subst hn; cases e
            have : new' = [] := List.eq_nil_of_length_eq_zero (by rw [hnl]; simp)
            subst this
            refine ⟨j, w, _, ?_, .refl h, .dry (a' := a')⟩
            rw [hrun]
            exact core_fits (happ w rfl) (by omega) rfl
          · rename_i hn; cases e
            obtain ⟨cap', rest, w0, hw0, hle, hlr, hr⟩ := core_grows (P := E.P) (zeros := zeros) (s := .slice (some a') 0 0) (x := x') (base := some a') (sLen := 0) (sCap := 0) (old := []) happ
              (fun w0 _ => by simp [Builtin.firstCells, loadCells, loadCellsFrom]) (by omega) hi hz' (by simpa using hfit) hb hzs' (by simp) hnl
            obtain ⟨j', s1, s2⟩ := sim_newMore h hw0 (elem := elem) hnew hlen (by simpa using hlr) (by omega) hsz
            refine ⟨j', _, _, by rw [hrun]; exact hr, by simpa using s1, by simpa using s2⟩
      · split at e
        · rename_i hnil hmem hdry hz0
          obtain ⟨rfl, rfl, rfl⟩ := hz0
          cases e
          have : new' = [] := List.eq_nil_of_length_eq_zero (by rw [hnl]; simp)
          subst this
          cases hs with
          | snil => exact absurd rfl hnil
          | slice hj hm => exact absurd rfl (hmem _ _)
          | sliceM hj hm e1 e2 hl hc => exact absurd rfl (hmem _ _)
          | dry => exact absurd rfl (hdry _ _)
          | vague =>
            rename_i a' cap'
            refine ⟨j, w, _, ?_, .refl h, .vague (a' := a') (cap' := cap')⟩
            rw [hrun]
            exact core_fits (happ w rfl) (by omega) rfl
        · cases e
  · cases e
end
end Go.Ab
