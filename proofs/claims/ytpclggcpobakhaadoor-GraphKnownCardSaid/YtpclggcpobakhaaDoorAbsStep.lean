/-
  The abstract machine and the model: an operation that is no call of a function, whole.
-/
import Derived.Test.YtpclggcpobakhaaDoorAbsOp
namespace Go.Ab
open Go

section
variable {E : Env} {j : Inj} {m : AMem} {w : World} {t : Tm} {n : Nat} {a : Act}

theorem sim_eval (h : MR E j m w) (ht : TR n j t a.tmps) {x : Operand} {v : Value} (e : evalA E t x = some v) : VR j v (a.eval x) := by
  unfold evalA at e
  split at e
  · cases e; exact ht.2 _
  · split at e
    · rename_i hp; cases e; exact VR.plainV hp
    · cases e
  · split at e
    · rename_i hg; cases e; exact .ptr (h.glob _ hg)
    · cases e
  · cases e; exact .func rfl (fun i a _ => by simp at a) rfl (fun i a _ => by simp at a)

theorem sim_evalAll (h : MR E j m w) (ht : TR n j t a.tmps) : ∀ {xs : List Operand} {vs : List Value}, evalAll E t xs = some vs → LR j vs (xs.map a.eval)
  | [], vs, e => by cases e; exact .nil j
  | x :: xs, vs, e => by
    simp only [evalAll] at e
    split at e
    · rename_i v vs' h1 h2
      cases e
      exact .cons (sim_eval h ht h1) (sim_evalAll h ht h2)
    · cases e

theorem sim_evalParts (h : MR E j m w) (ht : TR n j t a.tmps) : ∀ {xs : List (Nat × Operand)} {vs : List (Nat × Value)}, evalParts E t xs = some vs →
    vs.map (·.1) = (xs.map fun p => (p.1, a.eval p.2)).map (·.1) ∧ LR j (vs.map (·.2)) ((xs.map fun p => (p.1, a.eval p.2)).map (·.2))
  | [], vs, e => by cases e; exact ⟨rfl, .nil j⟩
  | (i, x) :: xs, vs, e => by
    simp only [evalParts] at e
    split at e
    · rename_i v vs' h1 h2
      cases e
      obtain ⟨h3, h4⟩ := sim_evalParts h ht h2
      exact ⟨by simpa using h3, .cons (sim_eval h ht h1) h4⟩
    · cases e

theorem sim_optVal (h : MR E j m w) (ht : TR n j t a.tmps) {x : Option Operand} {v : Option Value} (e : optVal E t x = some v) : OVR j v (x.map a.eval) := by
  cases x with
  | none => cases e; exact .none
  | some x =>
    simp only [optVal] at e
    cases hv : evalA E t x with
    | none => rw [hv] at e; cases e
    | some v0 => rw [hv] at e; cases e; exact .some (sim_eval h ht hv)

/-- The outcome of an operation of the model. -/
def Outs (P : Program) (s : Sem Next) (v : Value) (w w' : World) : Prop := s.run P w = .ok (.value v) w' ∨ (s.run P w = .ok .skip w' ∧ v = undef)

theorem Outs.value {P : Program} {s : Sem Value} {v : Value} {w w' : World} (h : s.run P w = .ok v w') : Outs P (do pure (.value (← s))) v w w' :=
  .inl (by simp only [Sem.run_bind, h, Result.andThen_ok, Sem.run_pure])
theorem Outs.unit {P : Program} {s : Sem Unit} {w w' : World} (h : s.run P w = .ok () w') : Outs P (do s; pure .skip) undef w w' :=
  .inr ⟨by simp only [Sem.run_bind, h, Result.andThen_ok, Sem.run_pure], rfl⟩

theorem map_some {α β : Type} {f : α → β} {x : Option α} {y : β} (h : x.map f = some y) : ∃ a, x = some a ∧ y = f a := by
  cases x with
  | none => cases h
  | some a => cases h; exact ⟨a, rfl, rfl⟩

/-! ### What an operation reads -/
theorem loadN_congr {m2 m : AMem} {b o n : Nat} (h : m2.get b = m.get b) : m2.loadN b o n = m.loadN b o n := by simp only [AMem.loadN, h]
theorem loadA_congr {P : Program} {t : TypeId} {p : Value} {m2 m : AMem} (h : ∀ b0, blockOf p = some b0 → m2.get b0 = m.get b0) : loadA P t p m2 = loadA P t p m := by
  unfold loadA
  split
  · rename_i b o
    have hb := h b rfl
    simp only [loadN_congr hb, hb]
  · rfl
theorem sliceA_congr {P : Program} {t : TypeId} {p : Value} {l hh k : Option Value} {m2 m : AMem} (h : ∀ b0, blockOf p = some b0 → m2.get b0 = m.get b0) : sliceA P t p l hh k m2 = sliceA P t p l hh k m := by
  unfold sliceA
  split
  · rfl
  · rename_i b o len cap _
    simp only [h b rfl]
  · rfl
  · rename_i b o _
    simp only [h b rfl]
  · rfl
theorem lookupA_congr {P : Program} {t : TypeId} {p q : Value} {ok : Bool} {m2 m : AMem} (h : ∀ b0, blockOf p = some b0 → m2.get b0 = m.get b0) : lookupA P t p q ok m2 = lookupA P t p q ok m := by
  have : mapOf m2 p = mapOf m p := by
    unfold mapOf
    split
    · rfl
    · rename_i r; simp only [h r rfl]
    · rfl
  unfold lookupA
  simp only [this]

/-- An operation that makes no memory and writes none. -/
def Quiet (E : Env) (j : Inj) (m : AMem) (w : World) (t : Tm) (a : Act) (o : Oper) (v : Value) (m' : AMem) : Prop :=
  m' = m ∧ (∀ m2 : AMem, (∀ b0, readsAt E t o.op = some b0 → m2.get b0 = m.get b0) → opA E t m2 o.op = some (v, m2)) ∧ ∃ v', Outs E.P (execOp a.eval o) v' w w ∧ VR j v v'
/-- An operation that makes a block. -/
def Makes (E : Env) (j : Inj) (m : AMem) (w : World) (t : Tm) (a : Act) (o : Oper) (v : Value) (m' : AMem) : Prop :=
  ∃ (ao : AObj) (co : Obj) (vb : Nat → Value) (v' : Value), v = vb m.next ∧ m' = m.alloc ao ∧ Outs E.P (execOp a.eval o) v' w (w.alloc co) ∧ OR j ⟨w.heap.size, none⟩ ao co ∧
    (∀ (j' : Inj) (b : Nat), j' b = some ⟨w.heap.size, none⟩ → VR j' (vb b) v') ∧ ∀ m2 : AMem, opA E t m2 o.op = some (vb m2.next, m2.alloc ao)

theorem sim_op3 (h : MR E j m w) (ht : TR n j t a.tmps) {o : Oper} {v : Value} {m' : AMem} (e : opA E t m o.op = some (v, m')) :
    Quiet E j m w t a o v m' ∨ Makes E j m w t a o v m' ∨ (effectful o.op = true ∧ ∃ j' w' v', Outs E.P (execOp a.eval o) v' w w' ∧ Sim E j m w j' m' w' ∧ VR j' v v') := by
  have hpure : ∀ {s : Sem Value} {f : AMem → Option Value} {v0 : Value} {m0 : AMem}, (∀ m2 : AMem, opA E t m2 o.op = (f m2).map fun v => (v, m2)) → (∀ m2 : AMem, (∀ b0, readsAt E t o.op = some b0 → m2.get b0 = m.get b0) → f m2 = f m) →
      (∀ v1, f m = some v1 → ∃ v', s.run E.P w = .ok v' w ∧ VR j v1 v') → (f m).map (fun v => (v, m)) = some (v0, m0) → execOp a.eval o = (do pure (.value (← s))) →
      Quiet E j m w t a o v0 m0 := by
    intro s f v0 m0 hf hf2 h1 h2 hx
    obtain ⟨v1, hr, he⟩ := map_some h2
    cases he
    obtain ⟨v', h3, h4⟩ := h1 _ hr
    exact ⟨rfl, fun m2 hm2 => by rw [hf, hf2 m2 hm2, hr]; rfl, v', by rw [hx]; exact .value h3, h4⟩
  cases hop : o.op <;> rw [hop] at e <;> simp only [opA] at e <;> try (cases e; done)
  case move x =>
    refine .inl ⟨(by obtain ⟨v1, hv, he⟩ := map_some e; cases he; rfl), fun m2 _ => ?_, ?_⟩
    · rw [hop]; obtain ⟨v1, hv, he⟩ := map_some e; cases he
      simp only [opA, hv, Option.map_some]
    · obtain ⟨v1, hv, he⟩ := map_some e
      cases he
      exact ⟨_, .inl (by simp only [execOp, hop]; rfl), sim_eval h ht hv⟩
  case assign x =>
    refine .inl ⟨(by obtain ⟨v1, hv, he⟩ := map_some e; cases he; rfl), fun m2 _ => ?_, ?_⟩
    · rw [hop]; obtain ⟨v1, hv, he⟩ := map_some e; cases he
      simp only [opA, hv, Option.map_some]
    · obtain ⟨v1, hv, he⟩ := map_some e
      cases he
      exact ⟨_, .inl (by simp only [execOp, hop]; rfl), sim_eval h ht hv⟩
  case pick c x y =>
    have hx : execOp a.eval o = (do pure (.value (if ← asBool (a.eval c) then a.eval x else a.eval y))) := by simp only [execOp, hop]
    refine .inl ?_
    split at e
    · rename_i hc
      obtain ⟨v1, hv, he⟩ := map_some e
      cases he
      have hb := sim_eval h ht hc
      refine ⟨rfl, fun m2 _ => by rw [hop]; simp only [opA, hc, hv, Option.map_some], a.eval x, ?_, sim_eval h ht hv⟩
      rw [hx]
      generalize a.eval c = cv at hb
      cases hb
      exact .inl rfl
    · rename_i hc
      obtain ⟨v1, hv, he⟩ := map_some e
      cases he
      have hb := sim_eval h ht hc
      refine ⟨rfl, fun m2 _ => by rw [hop]; simp only [opA, hc, hv, Option.map_some], a.eval y, ?_, sim_eval h ht hv⟩
      rw [hx]
      generalize a.eval c = cv at hb
      cases hb
      exact .inl rfl
    · cases e
  case alloc elem =>
    have hx : execOp a.eval o = (do pure (.value (← Instr.alloc elem true (.tuple #[])))) := by simp only [execOp, hop]
    split at e
    · rename_i z hz
      split at e
      · rename_i hp
        cases e
        refine .inr (.inl ⟨_, .cells z.cells elem, fun b => ptr b 0, .pointer (some ⟨w.heap.size, 0, none⟩), rfl, rfl, ?_, OR.own (oneCells_VR (VR.plainV hp)), fun j' b hb => .ptr hb, fun m2 => by rw [hop]; simp only [opA, hz, hp, if_true]⟩)
        rw [hx]
        refine .value ?_
        simp only [Instr.alloc, Sem.run_bind, r_zero hz, Result.andThen_ok, newVar, newRow, run_newObj, Sem.run_pure, World.alloc_eq]
      · cases e
    · cases e
  case box elem x =>
    have hx : execOp a.eval o = (do pure (.value (← Instr.box elem (a.eval x)))) := by simp only [execOp, hop]
    obtain ⟨v1, hv, he⟩ := map_some e
    cases he
    refine .inr (.inl ⟨_, .cells (a.eval x).cells elem, fun b => ptr b 0, .pointer (some ⟨w.heap.size, 0, none⟩), rfl, rfl, ?_, OR.own (oneCells_VR (sim_eval h ht hv)), fun j' b hb => .ptr hb, fun m2 => by rw [hop]; simp only [opA, hv, Option.map_some]⟩)
    rw [hx]
    refine .value ?_
    simp only [Instr.box, Sem.run_bind, newVar, newRow, run_newObj, Result.andThen_ok, Sem.run_pure, World.alloc_eq]
  case build ty parts =>
    have hx : execOp a.eval o = (do pure (.value (← Instr.build ty (parts.map fun (i, x) => (i, a.eval x))))) := by simp only [execOp, hop]
    split at e
    · rename_i ps z hps hz
      split at e
      · rename_i hp
        obtain ⟨h1, h2⟩ := sim_evalParts h ht hps
        refine .inl (hpure (f := fun _ => buildA E.P ty ps) (fun m2 => by rw [hop]; simp only [opA, hps, hz, if_pos hp]) (fun _ _ => rfl) (fun v1 hv1 => ?_) e hx)
        obtain ⟨v', h3, h4⟩ := sim_build hv1 h1 h2 hz hp
        refine ⟨v', ?_, h4⟩
        have : (parts.map fun (i, x) => (i, a.eval x)) = (parts.toList.map fun p => (p.1, a.eval p.2)).toArray := by
          apply Array.toList_inj.1; simp
        rw [this]; exact h3 w
      · cases e
    · cases e
  case buildSlice ty len parts =>
    have hx : execOp a.eval o = (do pure (.value (← Instr.buildSlice ty len (parts.map fun (i, x) => (i, a.eval x))))) := by simp only [execOp, hop]
    split at e
    · rename_i elem ps hu hps
      split at e
      · cases e
      · rename_i hc
        simp only [Bool.or_eq_true, Bool.not_eq_true', decide_eq_true_eq, not_or, Bool.not_eq_false] at hc
        obtain ⟨hk, hbig⟩ := hc
        split at e
        · rename_i zs hz
          split at e
          · rename_i hp
            obtain ⟨cs, hcs, he⟩ := map_some e
            cases he
            obtain ⟨h1, h2⟩ := sim_evalParts h ht hps
            obtain ⟨z, hz1, hz2, hz3⟩ := zerosA_some hz
            obtain ⟨cs', h3, h4⟩ := sim_fill h1 h2 (LR.plain (j := j) hp) hcs
            have hparts : (parts.map fun (i, x) => (i, a.eval x)).toList = parts.toList.map fun p => (p.1, a.eval p.2) := by simp
            refine .inr (.inl ⟨_, .cells cs'.toArray elem, fun b => .slice (some ⟨b, 0, none⟩) len len, .slice (some ⟨w.heap.size, 0, none⟩) len len, rfl, rfl, ?_, OR.own (by simpa using h4), fun j' b hb => .slice hb rfl, fun m2 => by rw [hop]; simp only [opA, hu, hps, hk, hz, hp, hcs, decide_eq_false hbig, Bool.not_true, Bool.or_self, Bool.false_eq_true, if_true, if_false, Option.map_some]⟩)
            rw [hx]
            refine .value ?_
            have hc0 : len * sizeA E.P elem = 0 → ((Array.range (len * sizeA E.P elem)).map fun i => (#[] : Array Value)[i % (#[] : Array Value).size]!) = zs.toArray := by
              intro h0
              apply Array.toList_inj.1
              have : zs = [] := by apply List.eq_nil_of_length_eq_zero; rw [hz3, length_repeatL, Array.length_toList, hz2, h0]
              simp [h0, this]
            have hc1 : ((Array.range (len * sizeA E.P elem)).map fun i => z.cells[i % z.cells.size]!) = zs.toArray := by
              apply Array.toList_inj.1
              rw [hz3, ← hz2]; exact zeros_eq len
            simp only [Instr.buildSlice, Sem.run_bind, run_underlying hu, Result.andThen_ok, r_size hk, Sem.run_ite, if_neg hbig, hparts]
            split
            · rename_i h0
              simp only [Sem.run_pure, Result.andThen_ok, hc0 h0, h3, newRow, Sem.run_bind, run_newObj, World.alloc_eq]
            · simp only [Sem.run_bind, r_zero hz1, Sem.run_pure, Result.andThen_ok, hc1, h3, newRow, run_newObj, World.alloc_eq]
          · cases e
        · cases e
    · cases e
  case load ty x =>
    have hx : execOp a.eval o = (do pure (.value (← Instr.loadAt ty (a.eval x)))) := by simp only [execOp, hop]
    split at e
    · rename_i p hp
      refine .inl (hpure (f := fun m2 => loadA E.P ty p m2) (fun m2 => by rw [hop]; simp only [opA, hp]) (fun m2 hm2 => ?_) (fun v1 hv1 => sim_load h hv1 (sim_eval h ht hp)) e hx)
      rw [hop] at hm2
      simp only [readsAt, hp, Option.bind_some] at hm2
      exact loadA_congr hm2
    · cases e
  case store ty x y =>
    have hx : execOp a.eval o = (do Instr.storeAt ty (a.eval x) (a.eval y); pure .skip) := by simp only [execOp, hop]
    rw [hx]
    split at e
    · rename_i p v0 hp hv0
      obtain ⟨m1, hm1, he⟩ := map_some e
      cases he
      obtain ⟨w', h1, h2⟩ := sim_store h hm1 (sim_eval h ht hp) (sim_eval h ht hv0)
      exact .inr (.inr ⟨rfl, j, w', undef, .unit h1, h2, VR.undef j⟩)
    · cases e
  case nilCheck x =>
    split at e
    · rename_i ad hp
      cases e
      have hv := sim_eval h ht hp
      refine .inl ⟨rfl, fun m2 _ => by rw [hop]; simp only [opA, hp], a.eval x, .inl ?_, hv⟩
      generalize hxv : a.eval x = xv at hv
      cases hv
      simp only [execOp, hop, hxv, Sem.run_pure]
    · rename_i f fs cs hp
      cases e
      have hv := sim_eval h ht hp
      refine .inl ⟨rfl, fun m2 _ => by rw [hop]; simp only [opA, hp], a.eval x, .inl ?_, hv⟩
      generalize hxv : a.eval x = xv at hv
      cases hv
      simp only [execOp, hop, hxv, Sem.run_pure]
    · rename_i f fs cs hp
      cases e
      have hv := sim_eval h ht hp
      refine .inl ⟨rfl, fun m2 _ => by rw [hop]; simp only [opA, hp], a.eval x, .inl ?_, hv⟩
      generalize hxv : a.eval x = xv at hv
      cases hv
      simp only [execOp, hop, hxv, Sem.run_pure]
    · cases e
  case binOp op xt x y yt =>
    have hx : execOp a.eval o = (do pure (.value (← (do eqGuard op xt x y (a.eval x) (a.eval y); binOp op xt (a.eval x) (a.eval y))))) := by simp only [execOp, hop]
    split at e
    · rename_i p q hp hq
      refine .inl (hpure (f := fun _ => binA op xt E.P p q) (fun m2 => by rw [hop]; simp only [opA, hp, hq]) (fun _ _ => rfl) (fun v1 hv1 => ?_) e hx)
      obtain ⟨v', h1, h2⟩ := sim_bin hv1 (sim_eval h ht hp) (sim_eval h ht hq) x y
      exact ⟨v', h1 w, h2⟩
    · cases e
  case unOp op xt x =>
    have hx : execOp a.eval o = (do pure (.value (← Op.unary op (a.eval x)))) := by simp only [execOp, hop]
    split at e
    · rename_i p hp
      refine .inl (hpure (f := fun _ => unA op p) (fun m2 => by rw [hop]; simp only [opA, hp]) (fun _ _ => rfl) (fun v1 hv1 => ?_) e hx)
      obtain ⟨v', h1, h2⟩ := sim_un (P := E.P) hv1 (sim_eval h ht hp)
      exact ⟨v', h1 w, h2⟩
    · cases e
  case convert s d x =>
    have hx : execOp a.eval o = (do pure (.value (← convert s d (a.eval x)))) := by simp only [execOp, hop]
    split at e
    · rename_i p hp
      refine .inl (hpure (f := fun _ => convA E.P s d p) (fun m2 => by rw [hop]; simp only [opA, hp]) (fun _ _ => rfl) (fun v1 hv1 => ?_) e hx)
      obtain ⟨v', h1, h2⟩ := sim_conv hv1 (sim_eval h ht hp)
      exact ⟨v', h1 w, h2⟩
    · cases e
  case makeFunc fn first captured =>
    cases fn <;> simp only at e <;> try (cases e; done)
    rename_i f
    have hx : execOp a.eval o = (do pure (.value (← Instr.makeFunc (.func f) (first.map a.eval) (captured.map a.eval)))) := by simp only [execOp, hop]
    split at e
    · rename_i fs cs h1 h2
      cases e
      have h3 := sim_evalAll h ht h1
      have h4 := sim_evalAll h ht h2
      have h3' : LR j fs.toArray.toList (first.map a.eval).toList := by simpa using h3
      have h4' : LR j cs.toArray.toList (captured.map a.eval).toList := by simpa using h4
      refine .inl ⟨rfl, fun m2 _ => by rw [hop]; simp only [opA, h1, h2], _, ?_, .func h3'.size h3'.arr h4'.size h4'.arr⟩
      rw [hx]; exact .value rfl
    · cases e
  case makeMap ty r =>
    cases r with
    | some _ => simp at e
    | none =>
      simp only at e
      cases e
      have hx : execOp a.eval o = (do pure (.value (← Instr.makeMap ty none))) := by simp only [execOp, hop]; rfl
      refine .inr (.inl ⟨.map [], .map #[] 0, fun b => .map (some b), .map (some w.heap.size), rfl, rfl, ?_, trivial, fun j' b hb => .map hb, fun m2 => by rw [hop]; rfl⟩)
      rw [hx]
      refine .value ?_
      simp only [Instr.makeMap, Sem.run_bind, run_newObj, Result.andThen_ok, Sem.run_pure, World.alloc_eq]
  case makeSlice ty l c =>
    have hx : execOp a.eval o = (do pure (.value (← Instr.makeSlice ty (a.eval l) (a.eval c)))) := by simp only [execOp, hop]
    split at e
    · rename_i elem li ci hu hl hc
      split at e
      · rename_i hcond
        have hcond0 := hcond
        obtain ⟨h0l, hlc, hany, hk⟩ := hcond
        simp only [Option.any_eq_true, Bool.and_eq_true, decide_eq_true_eq, bne_iff_ne, ne_eq] at hany
        obtain ⟨i, hi, hby, hb0⟩ := hany
        split at e
        · rename_i zs hz
          split at e
          · rename_i hp
            cases e
            obtain ⟨z, hz1, hz2, hz3⟩ := zerosA_some hz
            have hlv := sim_eval h ht hl
            have hcv := sim_eval h ht hc
            refine .inr (.inl ⟨_, .cells zs.toArray elem, fun b => .slice (some ⟨b, 0, none⟩) li.toNat ci.toNat, .slice (some ⟨w.heap.size, 0, none⟩) li.toNat ci.toNat, rfl, rfl, ?_, OR.own (LR.plain hp), fun j' b hb => .slice hb rfl, fun m2 => by rw [hop]; simp only [opA, hu, hl, hc]; rw [if_pos hcond0]; simp only [hz, hp, if_true]⟩)
            rw [hx]
            refine .value ?_
            generalize a.eval l = lv at hlv
            generalize a.eval c = cv at hcv
            cases hlv; cases hcv
            have hci : ci ≤ 2 ^ 40 := by
              have h1 : (1 : Int) ≤ (i.bytes : Int) := by exact_mod_cast Nat.one_le_iff_ne_zero.2 hb0
              have : 1 * ci ≤ (i.bytes : Int) * ci := Int.mul_le_mul_of_nonneg_right h1 (by omega)
              omega
            have hwl : IntKind.i64.wrap li = li := IntWalk.i64_in li (by omega)
            have hwc : IntKind.i64.wrap ci = ci := IntWalk.i64_in ci (by omega)
            have hneg : ¬ (((ci < 0 || (i.bytes : Int) * ci > 2 ^ 48) || li < 0 || li > ci) = true) := by
              simp only [Bool.or_eq_true, decide_eq_true_eq, not_or]
              omega
            have hc0 : ci.toNat * sizeA E.P elem = 0 → ((Array.range (ci.toNat * sizeA E.P elem)).map fun i => (#[] : Array Value)[i % (#[] : Array Value).size]!) = zs.toArray := by
              intro h0
              apply Array.toList_inj.1
              have : zs = [] := by apply List.eq_nil_of_length_eq_zero; rw [hz3, length_repeatL, Array.length_toList, hz2, h0]
              simp [h0, this]
            have hc1 : ((Array.range (ci.toNat * sizeA E.P elem)).map fun i => z.cells[i % z.cells.size]!) = zs.toArray := by
              apply Array.toList_inj.1
              rw [hz3, ← hz2]; exact zeros_eq ci.toNat
            simp only [Instr.makeSlice, Sem.run_bind, run_underlying hu, Result.andThen_ok, asInt, asIntOf, Sem.run_pure, r_info hi, hwl, hwc, Sem.run_ite, if_neg hneg, run_askRoom, r_size hk]
            split
            · rename_i h0
              simp only [Sem.run_pure, Result.andThen_ok, hc0 h0, newRow, Sem.run_bind, run_newObj, World.alloc_eq]
            · simp only [Sem.run_bind, r_zero hz1, Sem.run_pure, Result.andThen_ok, hc1, newRow, run_newObj, World.alloc_eq]
          · cases e
        · cases e
      · cases e
    · cases e
  case slice ty x lo hi mx =>
    have hx : execOp a.eval o = (do pure (.value (← Instr.sliceAt ty (a.eval x) (lo.map a.eval) (hi.map a.eval) (mx.map a.eval)))) := by simp only [execOp, hop]
    split at e
    · rename_i p l hh k hp h1 h2 h3
      refine .inl (hpure (f := fun m2 => sliceA E.P ty p l hh k m2) (fun m2 => by rw [hop]; simp only [opA, hp, h1, h2, h3]) (fun m2 hm2 => ?_) (fun v1 hv1 => ?_) e hx)
      · rw [hop] at hm2
        simp only [readsAt, hp, Option.bind_some] at hm2
        exact sliceA_congr hm2
      · obtain ⟨v', g1, g2⟩ := sim_slice h hv1 (sim_eval h ht hp) (sim_optVal h ht h1) (sim_optVal h ht h2) (sim_optVal h ht h3)
        exact ⟨v', g1 w, g2⟩
    · cases e
  case fieldAddr s x f =>
    have hx : execOp a.eval o = (do pure (.value (← Instr.fieldAt s (a.eval x) f))) := by simp only [execOp, hop]
    split at e
    · rename_i p hp
      refine .inl (hpure (f := fun _ => fieldAddrA E.P s p f) (fun m2 => by rw [hop]; simp only [opA, hp]) (fun _ _ => rfl) (fun v1 hv1 => ?_) e hx)
      obtain ⟨v', g1, g2⟩ := sim_fieldAddr hv1 (sim_eval h ht hp)
      exact ⟨v', g1 w, g2⟩
    · cases e
  case field ty x f =>
    have hx : execOp a.eval o = (do pure (.value (← Instr.field ty (a.eval x) f))) := by simp only [execOp, hop]
    split at e
    · rename_i p hp
      refine .inl (hpure (f := fun _ => fieldA E.P ty p f) (fun m2 => by rw [hop]; simp only [opA, hp]) (fun _ _ => rfl) (fun v1 hv1 => ?_) e hx)
      obtain ⟨v', g1, g2⟩ := sim_field hv1 (sim_eval h ht hp)
      exact ⟨v', g1 w, g2⟩
    · cases e
  case indexAddr ty x i =>
    have hx : execOp a.eval o = (do pure (.value (← Instr.indexAt ty (a.eval x) (a.eval i)))) := by simp only [execOp, hop]
    split at e
    · rename_i p q hp hq
      refine .inl (hpure (f := fun _ => indexAddrA E.P ty p q) (fun m2 => by rw [hop]; simp only [opA, hp, hq]) (fun _ _ => rfl) (fun v1 hv1 => ?_) e hx)
      obtain ⟨v', g1, g2⟩ := sim_indexAddr hv1 (sim_eval h ht hp) (sim_eval h ht hq)
      exact ⟨v', g1 w, g2⟩
    · cases e
  case index ty x i =>
    have hx : execOp a.eval o = (do pure (.value (← Instr.index ty (a.eval x) (a.eval i)))) := by simp only [execOp, hop]
    split at e
    · rename_i p q hp hq
      refine .inl (hpure (f := fun _ => indexA E.P ty p q) (fun m2 => by rw [hop]; simp only [opA, hp, hq]) (fun _ _ => rfl) (fun v1 hv1 => ?_) e hx)
      obtain ⟨v', g1, g2⟩ := sim_index hv1 (sim_eval h ht hp) (sim_eval h ht hq)
      exact ⟨v', g1 w, g2⟩
    · cases e
  case lookup ty x i ok =>
    have hx : execOp a.eval o = (do pure (.value (← Instr.lookup ty (a.eval x) (a.eval i) ok))) := by simp only [execOp, hop]
    split at e
    · rename_i p q hp hq
      refine .inl (hpure (f := fun m2 => lookupA E.P ty p q ok m2) (fun m2 => by rw [hop]; simp only [opA, hp, hq]) (fun m2 hm2 => ?_) (fun v1 hv1 => sim_lookup h hv1 (sim_eval h ht hp) (sim_eval h ht hq)) e hx)
      rw [hop] at hm2
      simp only [readsAt, hp, Option.bind_some] at hm2
      exact lookupA_congr hm2
    · cases e
  case mapUpdate ty x k y =>
    have hx : execOp a.eval o = (do Instr.mapUpdate ty (a.eval x) (a.eval k) (a.eval y); pure .skip) := by simp only [execOp, hop]
    rw [hx]
    split at e
    · rename_i p q r hp hq hr
      obtain ⟨m1, hm1, he⟩ := map_some e
      cases he
      obtain ⟨w', h1, h2⟩ := sim_mapUpdate h hm1 (sim_eval h ht hp) (sim_eval h ht hq) (sim_eval h ht hr)
      exact .inr (.inr ⟨rfl, j, w', undef, .unit h1, h2, VR.undef j⟩)
    · cases e
  case insert ty x k y =>
    have hx : execOp a.eval o = (do Instr.mapUpdate ty (a.eval x) (a.eval k) (a.eval y); pure .skip) := by simp only [execOp, hop]
    rw [hx]
    split at e
    · rename_i p q r hp hq hr
      obtain ⟨m1, hm1, he⟩ := map_some e
      cases he
      obtain ⟨w', h1, h2⟩ := sim_mapUpdate h hm1 (sim_eval h ht hp) (sim_eval h ht hq) (sim_eval h ht hr)
      exact .inr (.inr ⟨rfl, j, w', undef, .unit h1, h2, VR.undef j⟩)
    · cases e
  case extract x i =>
    have hx : execOp a.eval o = (do pure (.value (← Instr.extract (a.eval x) i))) := by simp only [execOp, hop]
    split at e
    · rename_i vs hp
      refine .inl (hpure (f := fun _ => vs[i]?) (fun m2 => by rw [hop]; simp only [opA, hp]) (fun _ _ => rfl) (fun v1 hv1 => ?_) e hx)
      have hv := sim_eval h ht hp
      generalize a.eval x = xv at hv
      cases hv with
      | tuple h1 h2 =>
      rename_i ys
      obtain ⟨v', g1, g2⟩ := (LR.of_arr h1 h2).get (show vs.toList[i]? = some v1 by simpa using hv1)
      refine ⟨v', ?_, g2⟩
      have g1' : ys[i]? = some v' := by simpa using g1
      simp only [Instr.extract, g1', Sem.run_pure]
    · cases e
  case call c =>
    split at e
    · rename_i b hb
      split at e
      · rename_i vs hvs
        have hx : execOp a.eval o = (do let d ← resolve a.eval c o.type; invoke d.target d.args) := by simp only [execOp, hop]
        have hargs : c.args.map a.eval = (c.args.toList.map a.eval).toArray := by apply Array.toList_inj.1; simp
        have hrun : ∃ cs, (execOp a.eval o).run E.P w = (builtin b c.argTypes o.type cs (c.args.toList.map a.eval).toArray).run E.P w :=
          ⟨_, by rw [hx]; simp only [resolve, hb, Sem.run_bind, Sem.run_pure, Result.andThen_ok, invoke, hargs]; rfl⟩
        obtain ⟨cs, hrun⟩ := hrun
        rcases sim_builtin h e (sim_evalAll h ht hvs) o.type cs with ⟨rfl, hm, v', h1, h2⟩ | ⟨hbb, j', w', v', h1, h2, h3⟩
        · refine .inl ⟨rfl, fun m2 hm2 => ?_, v', .inl (hrun.trans h1), h2⟩
          rw [hop] at hm2 ⊢
          simp only [opA, hb, hvs]
          refine hm m2 fun hlc x b0 hx1 hx2 => hm2 b0 ?_
          subst hx1
          rcases hlc with rfl | rfl <;> simp only [readsAt, hb, hvs, hx2]
        · refine .inr (.inr ⟨?_, j', w', v', .inl (hrun.trans h1), h2, h3⟩)
          rcases hbb with rfl | rfl | rfl | rfl <;> simp only [effectful, hb]
      · cases e
    · cases e

theorem sim_op (h : MR E j m w) (ht : TR n j t a.tmps) {o : Oper} {v : Value} {m' : AMem} (e : opA E t m o.op = some (v, m')) :
    ∃ j' w' v', Outs E.P (execOp a.eval o) v' w w' ∧ Sim E j m w j' m' w' ∧ VR j' v v' := by
  rcases sim_op3 h ht e with ⟨rfl, _, v', h1, h2⟩ | ⟨ao, co, vb, v', rfl, rfl, h1, h2, h3, _⟩ | ⟨_, h1⟩
  · exact ⟨j, w, v', h1, .refl h, h2⟩
  · exact ⟨_, _, v', h1, sim_alloc h h2, h3 _ _ (Inj.set_eq _ _ _)⟩
  · exact h1
end
end Go.Ab
