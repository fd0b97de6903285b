/-
  The abstract machine and the model: the operations that make or write memory.
-/
import Derived.Test.YtpclggcpobakhaaDoorAbsOps
namespace Go.Ab
open Go

section
variable {E : Env} {j : Inj} {m : AMem} {w : World}

/-! ### New rows -/
theorem OR.own {c : Nat} {cs : List Value} {c' : Array Value} {elem : TypeId} (h : LR j cs c'.toList) : OR j ⟨c, none⟩ (.cells cs .own) (.cells c' elem) :=
  ⟨⟨rfl, by simpa using h.1.symm, rfl⟩, fun i v hi => by
    obtain ⟨v', a, b⟩ := h.get hi
    exact ⟨v', by simpa using a, b⟩⟩

theorem sim_new (h : MR E j m w) {cs : List Value} {c' : Array Value} (elem : TypeId) (hc : LR j cs c'.toList) :
    Sim E j m w (j.set m.next ⟨w.heap.size, none⟩) (m.alloc (.cells cs .own)) (w.alloc (.cells c' elem)) := sim_alloc h (OR.own hc)

theorem ptr_new {mo : Option (Nat × Nat × Nat)} : VR (j.set m.next ⟨w.heap.size, mo⟩) (ptr m.next 0) (.pointer (some ⟨w.heap.size, 0, none⟩)) :=
  .ptr (k := ⟨w.heap.size, mo⟩) (Inj.set_eq _ _ _)

/-- A row of zeros, in the model. -/
theorem zeros_eq {zero : Array Value} : ∀ (n : Nat), ((Array.range (n * zero.size)).map fun i => zero[i % zero.size]!).toList = repeatL zero.toList n := by
  intro n
  by_cases hz : zero.size = 0
  · have : zero = #[] := Array.eq_empty_of_size_eq_zero hz
    subst this
    have : ∀ n, repeatL ([] : List Value) n = [] := by
      intro n
      induction n with
      | zero => rfl
      | succ n ih => simpa [repeatL] using ih
    simp [this]
  · have hpos : 0 < zero.size := Nat.pos_of_ne_zero hz
    have hlen : ∀ n, (repeatL zero.toList n).length = n * zero.size := by
      intro n
      induction n with
      | zero => simp [repeatL]
      | succ n ih => simp [repeatL, ih, Nat.succ_mul, Nat.add_comm]
    have hget : ∀ n i, i < n * zero.size → (repeatL zero.toList n)[i]? = zero[i % zero.size]? := by
      intro n
      induction n with
      | zero => intro i hi; simp at hi
      | succ n ih =>
        intro i hi
        simp only [repeatL]
        by_cases hlt : i < zero.size
        · rw [List.getElem?_append_left (by simpa using hlt), Nat.mod_eq_of_lt hlt]; simp
        · have hge : zero.size ≤ i := by omega
          rw [List.getElem?_append_right (by simpa using hge)]
          have := ih (i - zero.size) (by rw [Nat.succ_mul] at hi; omega)
          simp only [Array.length_toList]
          rw [this, ← Nat.mod_eq_sub_mod hge]
    apply List.ext_getElem?
    intro i
    by_cases hi : i < n * zero.size
    · rw [hget n i hi]
      have hlt : i % zero.size < zero.size := Nat.mod_lt _ hpos
      simp [hi, hlt]
    · rw [List.getElem?_eq_none (by simp; omega), List.getElem?_eq_none (by rw [hlen]; omega)]

theorem zerosA_some {P : Program} {elem : TypeId} {n : Nat} {zs : List Value} (h : zerosA P elem n = some zs) : ∃ z, zeroA P elem = some z ∧ z.cells.size = sizeA P elem ∧ zs = repeatL z.cells.toList n := by
  unfold zerosA at h
  split at h
  · rename_i z hz
    split at h
    · rename_i hs; cases h; exact ⟨z, hz, hs, rfl⟩
    · cases h
  · cases h

theorem length_repeatL (l : List Value) (n : Nat) : (repeatL l n).length = n * l.length := by
  induction n with
  | zero => simp [repeatL]
  | succ n ih => simp [repeatL, ih, Nat.succ_mul, Nat.add_comm]

/-! ### Stores -/
theorem sim_store (h : MR E j m w) {t : TypeId} {x x' v v' : Value} {m' : AMem} (e : storeA E.P t x v m = some m') (hx : VR j x x') (hv : VR j v v') :
    ∃ w', (Instr.storeAt t x' v').run E.P w = .ok () w' ∧ Sim E j m w j m' w' := by
  unfold storeA at e
  split at e
  · rename_i b o
    split at e
    · rename_i hc
      simp only [Bool.and_eq_true, beq_iff_eq] at hc
      obtain ⟨⟨hk, hs⟩, ho⟩ := hc
      cases hx with
      | ptr hj =>
      have hvc := oneCells_VR hv
      obtain ⟨w', h1, h2⟩ := sim_storeN h hj hvc ho e
      refine ⟨w', ?_, h2⟩
      have hs' : v'.cells.size = sizeA E.P t := by have := hvc.1; simp at this; omega
      have hne : ¬ v'.cells.size ≠ sizeA E.P t := by simp [hs']
      simp only [Instr.storeAt, Instr.sureAddr, Sem.run_bind, Sem.run_pure, Result.andThen_ok, storeVar, r_size hk, if_neg hne, h1]
    · cases e
  · cases e

/-! ### Maps -/
theorem plain1_eq {v v' : Value} (hp : plain1 v = true) (h : VR j v v') : v' = v := by
  cases h <;> first | rfl | (simp [plain1] at hp)
theorem plainL_eq : ∀ {l l' : List Value}, l.all plain1 = true → LR j l l' → l' = l
  | [], _, _, h => h.nil_inv
  | v :: l, l', hp, h => by
    obtain ⟨y, ys, rfl, h1, h2⟩ := h.cons_inv
    simp only [List.all_cons, Bool.and_eq_true] at hp
    rw [plain1_eq hp.1 h1, plainL_eq hp.2 h2]
theorem plainV_eq {v v' : Value} (hp : plainV v = true) (h : VR j v v') : v' = v := by
  cases h with
  | agg h1 h2 =>
    have := plainL_eq (by simpa [plainV] using hp) (LR.of_arr h1 h2)
    exact congrArg Value.agg (Array.toList_inj.1 this)
  | tuple h1 h2 =>
    have := plainL_eq (by simpa [plainV] using hp) (LR.of_arr h1 h2)
    exact congrArg Value.tuple (Array.toList_inj.1 this)
  | func h1 h2 h3 h4 => simp [plainV, plain1] at hp
  | yield h h1 h2 => simp [plainV, plain1] at hp
  | _ => first | rfl | (simp [plainV, plain1] at hp)

theorem keyOk_plain {P : Program} {kt : TypeId} {k : Value} (h : keyOk P kt k = true) : plainV k = true := by
  unfold keyOk at h
  split at h
  · rfl
  · rfl
  · rfl
  · simp only [Bool.and_eq_true] at h; exact h.2
  · simp only [Bool.and_eq_true] at h; exact h.2
  · cases h

theorem checkKind {P : Program} {t : TypeId} (ht : keyKind P t = true) (n : Nat) (v : Value) (b : Bool) (w : World) : (Instr.checkKey b (n + 1) t v).run P w = .ok () w := by
  unfold keyKind at ht
  simp only [Instr.checkKey, Sem.run_bind]
  cases hu : P.underlying t with
  | none => rw [hu] at ht; cases ht
  | some d =>
    rw [hu] at ht
    simp only [run_underlying hu, Result.andThen_ok]
    cases d <;> first | (simp at ht; done) | rfl

theorem run_forIn_unit {P : Program} {α : Type} (f : α → Sem Unit) (w : World) : ∀ (l : List α), (∀ x ∈ l, (f x).run P w = .ok () w) →
    (forIn l PUnit.unit (fun x _ => do f x; pure (ForInStep.yield PUnit.unit)) : Sem PUnit).run P w = .ok PUnit.unit w
  | [], _ => rfl
  | x :: l, h => by
    simp only [List.forIn_cons, Sem.run_bind, h x (by simp), Result.andThen_ok, Sem.run_pure]
    exact run_forIn_unit f w l fun y hy => h y (by simp [hy])

theorem kind_noAgg {P : Program} {t : TypeId} (h : keyKind P t = true) : isAggA P t = false := by
  unfold keyKind at h
  unfold isAggA
  cases hu : P.underlying t with
  | none => rfl
  | some d => rw [hu] at h; cases d <;> first | rfl | (simp at h)

theorem part_kind {P : Program} {t : TypeId} (h : keyKind P t = true) (hk : known P t = true) {cs : Array Value} {o : Nat} (ho : o < cs.size) (w : World) : (part t cs o).run P w = .ok cs[o] w := by
  simp [part, r_isAgg hk, kind_noAgg h, ho]

theorem checkKey_ok {P : Program} {kt : TypeId} {k : Value} (h : keyOk P kt k = true) (b : Bool) (w : World) : (Instr.checkKey b 10000 kt k).run P w = .ok () w := by
  unfold keyOk at h
  split at h
  · rename_i hu; exact checkKind (by simp [keyKind, hu]) 9999 _ b w
  · rename_i hu; exact checkKind (by simp [keyKind, hu]) 9999 _ b w
  · rename_i hu; exact checkKind (by simp [keyKind, hu]) 9999 _ b w
  · rename_i len elem cs hu
    simp only [Bool.and_eq_true, beq_iff_eq] at h
    obtain ⟨⟨⟨⟨hek, hkn⟩, hsz⟩, hlen⟩, _⟩ := h
    have key : ∀ n, (Instr.checkKey b (n + 1 + 1) kt (.agg cs)).run P w = .ok () w := by
      intro n
      unfold Instr.checkKey
      simp only [Sem.run_bind, run_underlying hu, Result.andThen_ok]
      rw [Std.Legacy.Range.forIn_eq_forIn_range']
      simp only [Std.Legacy.Range.size, Nat.sub_zero, Nat.add_sub_cancel, Nat.div_one]
      have := run_forIn_unit (P := P) (fun i => do Instr.checkKey b (n + 1) elem (← part elem cs (i * (← sizeOf elem)))) w (List.range' 0 len) (fun x hx => by
        have hlt : x < cs.size := by rw [List.mem_range'] at hx; obtain ⟨i, h1, h2⟩ := hx; omega
        simp only [Sem.run_bind, r_size hkn, hsz, Nat.mul_one, part_kind hek hkn hlt, Result.andThen_ok]
        exact checkKind hek n _ b w)
      simp only [bind_assoc] at this
      rw [this]; rfl
    exact key 9998
  · rename_i fs cs hu
    simp only [Bool.and_eq_true] at h
    have key : ∀ n, (Instr.checkKey b (n + 1 + 1) kt (.agg cs)).run P w = .ok () w := by
      intro n
      unfold Instr.checkKey
      simp only [Sem.run_bind, run_underlying hu, Result.andThen_ok]
      rw [← Array.forIn_toList]
      have hall := h.1
      generalize fs.toList = l at hall
      clear hu
      induction l with
      | nil => rfl
      | cons f l ih =>
        simp only [List.all_cons, Bool.and_eq_true, decide_eq_true_eq] at hall
        obtain ⟨⟨⟨h1, h2⟩, h3⟩, h4⟩ := hall
        have ih' := ih (by simpa [Bool.and_eq_true] using h4)
        simp only [List.forIn_cons, Sem.run_bind, Sem.run_ite]
        split
        · simp only [Sem.run_bind, part_kind h1 h2 h3, Result.andThen_ok, checkKind h1 n _ b w, Sem.run_pure]
          exact ih'
        · simp only [Sem.run_pure, Result.andThen_ok]
          exact ih'
    exact key 9998
  · cases h

/-! ### A key found -/
inductive FR (j : Inj) : Option (Nat × Value) → Option (Nat × Value) → Prop
  | none : FR j none none
  | some {i : Nat} {v v' : Value} (h : VR j v v') : FR j (some (i, v)) (some (i, v'))

theorem findAsking_ok {P : Program} {kt : TypeId} {k k' : Value} (hk : VR j k k') : ∀ {es : List (Value × Value)} {es' : List MapEntry} {i : Nat} {r : Option (Nat × Value)}, findA P kt k es i = some r → ER j es es' →
    ∃ r', (∀ w, (Instr.findAsking kt k' es' i).run P w = .ok r' w) ∧ FR j r r'
  | [], [], i, r, h, _ => by cases h; exact ⟨_, fun w => rfl, .none⟩
  | e :: es, f :: fs, i, r, h, he => by
    simp only [findA] at h
    split at h
    · rename_i hq
      cases h
      refine ⟨some (i, f.val), fun w => ?_, .some he.2.1⟩
      simp only [Instr.findAsking, Sem.run_bind, Op.equal, sim_eq _ hq hk he.1, Result.andThen_ok, if_true, Sem.run_pure]
    · rename_i hq
      obtain ⟨r', h1, h2⟩ := findAsking_ok hk h he.2.2
      refine ⟨r', fun w => ?_, h2⟩
      simp only [Instr.findAsking, Sem.run_bind, Op.equal, sim_eq _ hq hk he.1, Result.andThen_ok, Bool.false_eq_true, if_false, h1]
    · cases h
  | [], _ :: _, _, _, _, he => he.elim
  | _ :: _, [], _, _, _, he => he.elim

theorem sameNow_eq {P : Program} {kt : TypeId} {d : TypeDesc} {k k' x x' : Value} {b b' : Bool} (hu : P.underlying kt = some d) (hk : VR j k k') (hx : VR j x x') (h : Instr.sameNow d k' x' = some b') (he : eqA P Op.maxDepth kt k x = some b) : b = b' := by
  have := sim_eq (P := P) Op.maxDepth he hk hx default
  rw [show Op.maxDepth = 9999 + 1 from rfl] at this
  unfold Instr.sameNow at h
  split at h
  · rename_i k0 k1 a k2 c
    split at h
    · rename_i hkk
      subst hkk
      cases h
      rw [run_equalIn_int _ 9999 kt _ _ a c hu] at this
      injection this with h1 _; exact h1.symm
    · cases h
  · cases h
    rw [run_equalIn_string _ 9999 kt _ _ hu, ← beq_toListBytes] at this
    injection this with h1 _; exact h1.symm
  · cases h
    rw [run_equalIn_bool' _ 9999 kt _ _ hu] at this
    injection this with h1 _; exact h1.symm
  · cases h

theorem findNow_ok {P : Program} {kt : TypeId} {d : TypeDesc} {k k' : Value} (hu : P.underlying kt = some d) (hk : VR j k k') : ∀ {es : List (Value × Value)} {es' : List MapEntry} {i : Nat} {r r' : Option (Nat × Value)}, findA P kt k es i = some r → ER j es es' →
    Instr.findNow d k' es' i = some r' → FR j r r'
  | [], [], i, r, r', h, _, h' => by cases h; cases h'; exact .none
  | e :: es, f :: fs, i, r, r', h, he, h' => by
    simp only [findA] at h
    simp only [Instr.findNow] at h'
    split at h'
    · rename_i hs
      cases h'
      split at h
      · cases h; exact .some he.2.1
      · rename_i hq; cases sameNow_eq hu hk he.1 hs hq
      · cases h
    · rename_i hs
      split at h
      · rename_i hq; cases sameNow_eq hu hk he.1 hs hq
      · exact findNow_ok hu hk h he.2.2 h'
      · cases h
    · cases h'
  | [], _ :: _, _, _, _, _, he, _ => he.elim
  | _ :: _, [], _, _, _, _, he, _ => he.elim

theorem findKey_ok {P : Program} {kt : TypeId} {d : TypeDesc} {k k' : Value} (hu : P.underlying kt = some d) (hk : VR j k k') {es : List (Value × Value)} {es' : List MapEntry} {r : Option (Nat × Value)} (h : findA P kt k es 0 = some r) (he : ER j es es') :
    ∃ r', (∀ w, (Instr.findKey kt k' es').run P w = .ok r' w) ∧ FR j r r' := by
  cases hn : Instr.findNow d k' es' 0 with
  | some r' =>
    refine ⟨r', fun w => ?_, findNow_ok hu hk h he hn⟩
    simp only [Instr.findKey, Sem.run_bind, run_underlying hu, Result.andThen_ok, hn, Sem.run_pure]
  | none =>
    obtain ⟨r', h1, h2⟩ := findAsking_ok hk h he
    refine ⟨r', fun w => ?_, h2⟩
    simp only [Instr.findKey, Sem.run_bind, run_underlying hu, Result.andThen_ok, hn, h1]

theorem keyOk_known {P : Program} {kt : TypeId} {k : Value} (h : keyOk P kt k = true) : ∃ d, P.underlying kt = some d := by
  unfold keyOk at h
  cases hu : P.underlying kt with
  | some d => exact ⟨d, rfl⟩
  | none => rw [hu] at h; simp at h

theorem MR.mapAt (h : MR E j m w) {b : Nat} {k : Blk} (hk : j b = some k) {es : List (Value × Value)} (hg : m.get b = some (.map es)) : ∃ es' clock, w.heap[k.c]? = some (.map es' clock) ∧ ER j es es'.toList := by
  obtain ⟨o', h1, h2⟩ := h.obj b _ k hg hk
  cases o' with
  | map es' clock => exact ⟨es', clock, h1, h2⟩
  | _ => exact h2.elim

theorem run_getObj_map {P : Program} {w : World} {r : Nat} {es : Array MapEntry} {c : Nat} (h : w.heap[r]? = some (.map es c)) : (getObj r).run P w = .ok (.map es c) w := by simp [getObj, Sem.run, h]
theorem run_setObj_map {P : Program} {w : World} {r : Nat} {es : Array MapEntry} {c : Nat} (o : Obj) (h : w.heap[r]? = some (.map es c)) : (setObj r o).run P w = .ok () (w.putObj r o) := by simp [setObj, Sem.run, h, World.putObj]

theorem sim_lookup (h : MR E j m w) {t : TypeId} {x x' y y' v : Value} {ok : Bool} (e : lookupA E.P t x y ok m = some v) (hx : VR j x x') (hy : VR j y y') :
    ∃ v', (Instr.lookup t x' y' ok).run E.P w = .ok v' w ∧ VR j v v' := by
  unfold lookupA at e
  split at e
  · rename_i key elem hu
    split at e
    · rename_i es z hes hz
      split at e
      · rename_i hko
        obtain ⟨d, hd⟩ := keyOk_known hko
        have hy' : y' = y := plainV_eq (keyOk_plain hko) hy
        subst hy'
        -- the map's entries
        have hmap : ∃ es' : Array MapEntry, ER j es es'.toList ∧ ((x' = .map none ∧ es' = #[]) ∨ ∃ r c, x' = .map (some r) ∧ w.heap[r]? = some (.map es' c)) := by
          unfold mapOf at hes
          split at hes
          · cases hes; cases hx
            exact ⟨#[], trivial, .inl ⟨rfl, rfl⟩⟩
          · rename_i r
            split at hes
            · rename_i es0 hg
              cases hes
              cases hx with
              | map hj =>
              obtain ⟨es', clock, h1, h2⟩ := h.mapAt hj hg
              exact ⟨es', h2, .inr ⟨_, _, rfl, h1⟩⟩
            · cases hes
          · cases hes
        obtain ⟨es', hes', hsh⟩ := hmap
        split at e
        · rename_i i v0 hf
          cases e
          obtain ⟨r', h1, h2⟩ := findKey_ok hd hy hf hes'
          cases h2 with
          | some hv =>
          rename_i v0'
          refine ⟨if ok then .tuple #[v0', .bool true] else v0', ?_, ?_⟩
          · rcases hsh with ⟨rfl, rfl⟩ | ⟨r, c, rfl, h5⟩
            · simp only [Instr.lookup, Sem.run_bind, run_underlying hu, Result.andThen_ok, Sem.run_pure, checkKey_ok hko, h1]
            · simp only [Instr.lookup, Sem.run_bind, run_underlying hu, Result.andThen_ok, run_getObj_map h5, Sem.run_pure, checkKey_ok hko, h1]
          · cases ok with
            | true => exact .tuple' (by exact LR.cons hv (LR.cons (.bool true) (.nil j)))
            | false => exact hv
        · rename_i hf
          split at e
          · rename_i hpz
            cases e
            obtain ⟨r', h1, h2⟩ := findKey_ok hd hy hf hes'
            cases h2
            refine ⟨if ok then .tuple #[z, .bool false] else z, ?_, ?_⟩
            · rcases hsh with ⟨rfl, rfl⟩ | ⟨r, c, rfl, h5⟩
              · simp only [Instr.lookup, Sem.run_bind, run_underlying hu, Result.andThen_ok, Sem.run_pure, checkKey_ok hko, h1, r_zero hz]
              · simp only [Instr.lookup, Sem.run_bind, run_underlying hu, Result.andThen_ok, run_getObj_map h5, Sem.run_pure, checkKey_ok hko, h1, r_zero hz]
            · cases ok with
              | true => exact .tuple' (by exact LR.cons (VR.plainV hpz) (LR.cons (.bool false) (.nil j)))
              | false => exact VR.plainV hpz
          · cases e
        · cases e
      · cases e
    · cases e
  · cases e

theorem ER.get : ∀ {es : List (Value × Value)} {fs : List MapEntry} {i : Nat} {e : Value × Value}, ER j es fs → es[i]? = some e → ∃ f, fs[i]? = some f ∧ VR j e.1 f.key ∧ VR j e.2 f.val
  | [], [], _, _, _, h => by simp at h
  | x :: es, f :: fs, 0, e, h, hi => by simp at hi; subst hi; exact ⟨f, rfl, h.1, h.2.1⟩
  | x :: es, f :: fs, i + 1, e, h, hi => by simpa using ER.get h.2.2 (by simpa using hi)
  | [], _ :: _, _, _, h, _ => h.elim
  | _ :: _, [], _, _, h, _ => h.elim
theorem ER.append_one : ∀ {es : List (Value × Value)} {fs : List MapEntry} {e : Value × Value} {f : MapEntry}, ER j es fs → VR j e.1 f.key → VR j e.2 f.val → ER j (es ++ [e]) (fs ++ [f])
  | [], [], _, _, _, h1, h2 => ⟨h1, h2, trivial⟩
  | x :: es, g :: fs, _, _, h, h1, h2 => ⟨h.1, h.2.1, ER.append_one h.2.2 h1 h2⟩
  | [], _ :: _, _, _, h, _, _ => h.elim
  | _ :: _, [], _, _, h, _, _ => h.elim
theorem ER.put : ∀ {es : List (Value × Value)} {fs : List MapEntry} {i : Nat} {k k' v v' : Value}, ER j es fs → i < es.length → VR j k k' → VR j v v' → ER j (mapPut es i k v) (fs.modify i fun e => { e with key := k', val := v' })
  | x :: es, f :: fs, 0, _, _, _, _, h, _, h1, h2 => ⟨h1, h2, h.2.2⟩
  | x :: es, f :: fs, i + 1, _, _, _, _, h, hi, h1, h2 => ⟨h.1, h.2.1, ER.put h.2.2 (by simpa using hi) h1 h2⟩
  | [], _, _, _, _, _, _, _, hi, _, _ => by simp at hi
  | _ :: _, [], _, _, _, _, _, h, _, _, _ => h.elim
theorem ER.erase : ∀ {es : List (Value × Value)} {fs : List MapEntry} (i : Nat), ER j es fs → ER j (es.eraseIdx i) (fs.eraseIdx i)
  | [], [], _, _ => trivial
  | x :: es, f :: fs, 0, h => h.2.2
  | x :: es, f :: fs, i + 1, h => ⟨h.1, h.2.1, ER.erase i h.2.2⟩
  | [], _ :: _, _, h => h.elim
  | _ :: _, [], _, h => h.elim

theorem sim_mapUpdate (h : MR E j m w) {t : TypeId} {x x' k k' v v' : Value} {m' : AMem} (e : mapUpdateA E.P t x k v m = some m') (hx : VR j x x') (hk : VR j k k') (hv : VR j v v') :
    ∃ w', (Instr.mapUpdate t x' k' v').run E.P w = .ok () w' ∧ Sim E j m w j m' w' := by
  unfold mapUpdateA at e
  split at e
  · rename_i kt et r hu
    split at e
    · rename_i es hg
      split at e
      · rename_i hko
        obtain ⟨d, hd⟩ := keyOk_known hko
        have hk' : k' = k := plainV_eq (keyOk_plain hko) hk
        cases hx with
        | map hj =>
        rename_i kb
        obtain ⟨es', clock, h1, h2⟩ := h.mapAt hj hg
        split at e
        · rename_i i v0 hf
          split at e
          · rename_i hsame
            cases e
            unfold staysOk at hsame
            split at hsame
            · rename_i e0 he0
              simp only [Bool.and_eq_true] at hsame
              obtain ⟨r', h3, h4⟩ := findKey_ok hd hk hf h2
              cases h4 with
              | some _ =>
              obtain ⟨f0, g1, g2, g3⟩ := h2.get he0
              have hf0 : f0.key = e0.1 := plainV_eq hsame.1 g2
              have hi : i < es.length := (List.getElem?_eq_some_iff.1 he0).1
              refine ⟨_, ?_, sim_put h hj (by rw [hg]; rfl) (co := .map (es'.modify i fun e => { e with key := k, val := v' }) clock) ?_⟩
              · have g1' : es'[i]? = some f0 := by simpa using g1
                simp only [Instr.mapUpdate, Sem.run_bind, run_underlying hu, Result.andThen_ok, run_getObj_map h1, hk', checkKey_ok hko]
                rw [hk'] at h3
                simp only [h3, Result.andThen_ok, Sem.run_bind, g1', Option.map_some, Option.getD_some, hf0, Instr.keyThatStays, hsame.2, if_true, Sem.run_pure, run_setObj_map _ h1]
              · show ER j (mapPut es i k v) (es'.modify i fun e => { e with key := k, val := v' }).toList
                rw [Array.toList_modify]
                exact h2.put hi (VR.plainV (keyOk_plain hko)) hv
            · cases hsame
          · cases e
        · rename_i hf
          cases e
          obtain ⟨r', h3, h4⟩ := findKey_ok hd hk hf h2
          cases h4
          refine ⟨_, ?_, sim_put h hj (by rw [hg]; rfl) (co := .map (es'.push { key := k, val := v', born := clock }) (clock + 1)) ?_⟩
          · simp only [Instr.mapUpdate, Sem.run_bind, run_underlying hu, Result.andThen_ok, run_getObj_map h1, hk', checkKey_ok hko]
            rw [hk'] at h3
            simp only [h3, Result.andThen_ok, run_setObj_map _ h1]
          · show ER j (es ++ [(k, v)]) (es'.push { key := k, val := v', born := clock }).toList
            rw [Array.toList_push]
            exact h2.append_one (VR.plainV (keyOk_plain hko)) hv
        · cases e
      · cases e
    · cases e
  · cases e

theorem sim_delete (h : MR E j m w) {t : TypeId} {x x' k k' : Value} {m' : AMem} (e : deleteA E.P t x k m = some m') (hx : VR j x x') (hk : VR j k k') (ts : Array TypeId) (hts : ts[0]? = some t) (ty : TypeId) :
    ∃ w', (Builtin.delete_ ts ty #[x', k']).run E.P w = .ok (.tuple #[]) w' ∧ Sim E j m w j m' w' := by
  unfold deleteA at e
  split at e
  · rename_i kt et r hu
    split at e
    · rename_i es hg
      split at e
      · rename_i hko
        obtain ⟨d, hd⟩ := keyOk_known hko
        have hk' : k' = k := plainV_eq (keyOk_plain hko) hk
        cases hx with
        | map hj =>
        rename_i kb
        obtain ⟨es', clock, h1, h2⟩ := h.mapAt hj hg
        split at e
        · rename_i i v0 hf
          cases e
          obtain ⟨r', h3, h4⟩ := findKey_ok hd hk hf h2
          cases h4 with
          | some _ =>
          refine ⟨_, ?_, sim_put h hj (by rw [hg]; rfl) (co := .map (es'.eraseIdxIfInBounds i) clock) ?_⟩
          · simp only [Builtin.delete_, hts, List.getElem?_toArray, List.getElem?_cons_zero, List.getElem?_cons_succ, Sem.run_bind, run_underlying hu, Result.andThen_ok, run_getObj_map h1, hk', checkKey_ok hko]
            rw [hk'] at h3
            simp only [h3, Result.andThen_ok, Sem.run_bind, run_setObj_map _ h1, Sem.run_pure]
          · show ER j (es.eraseIdx i) (es'.eraseIdxIfInBounds i).toList
            rw [Array.toList_eraseIdxIfInBounds]
            exact h2.erase i
        · rename_i hf
          cases e
          obtain ⟨r', h3, h4⟩ := findKey_ok hd hk hf h2
          cases h4
          refine ⟨w, ?_, .refl h⟩
          simp only [Builtin.delete_, hts, List.getElem?_toArray, List.getElem?_cons_zero, List.getElem?_cons_succ, Sem.run_bind, run_underlying hu, Result.andThen_ok, run_getObj_map h1, hk', checkKey_ok hko]
          rw [hk'] at h3
          simp only [h3, Result.andThen_ok, Sem.run_bind, run_setObj_map _ h1, Sem.run_pure, putObj_self h1]
        · cases e
      · cases e
    · cases e
  · cases e
end
end Go.Ab
