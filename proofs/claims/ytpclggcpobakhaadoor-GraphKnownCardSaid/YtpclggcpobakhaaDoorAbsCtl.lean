/-
  The abstract machine and the model: control, calls, rounds: every step of the interpreter keeps what it must, and so does every run.
-/
import Derived.Test.YtpclggcpobakhaaDoorAbsOrder
import Derived.RangeFuncRecord
import Derived.Scope
namespace Go.Ab
open Go

section
variable {E : Env} {k : K}

/-! ### Rules of the walk -/
section
variable {P : Program} {F : Fence} {n : Nat} {b : Frame} {a : Act} {ks : List Item} {cs : List Frame} {w : World} {Q : Exit → Act → World → Prop} {c : Code}
theorem stepR_scope : Go.step P (lone (b.atR a (.code (.scope c) :: ks)) cs w) = .next (lone (b.atR a (.code c :: .inScope c :: ks)) cs w) :=
  step_lone_go (by simp [stepG, stepG.exec, Frame.atR])
theorem stepR_inScope : Go.step P (lone (b.atR a (.inScope c :: ks)) cs w) = .next (lone (b.atR a ks) cs w) :=
  step_lone_go (by simp [stepG, stepG.exec, Frame.atR])

theorem wpIn_scope (h : c.wpIn F n P (Exit.noGoto Q) a w) : (Code.scope c).wpIn F n P Q a w := by
  intro b k cs hro hb hr
  have h0 : (lone (b.atR a (.code (.scope c) :: k)) cs w).fenced P F := fenced_calm hb hr rfl
  obtain ⟨e, a₁, w₁, hq, harr⟩ := h b (.inScope c :: k) cs hro hb hr
  cases e with
  | normal => exact ⟨.normal, a₁, w₁, hq, .head h0 stepR_scope (StepsIn.trans harr (.one (fenced_calm hb hr rfl) stepR_inScope))⟩
  | exit id =>
    refine ⟨.exit id, a₁, w₁, hq, fun k' hk => .head h0 stepR_scope (harr.1 k' (by simpa [exitTo] using hk)), fun hr' hk => ?_⟩
    obtain ⟨k₁, h1, h2⟩ := harr.2 hr' (by simpa [exitTo] using hk)
    exact ⟨k₁, h1, .head h0 stepR_scope h2⟩
  | goto l => exact hq.elim
  | ret => exact ⟨.ret, a₁, w₁, hq, ArrivesIn.of_steps (k := k) (e := .ret) (.one h0 stepR_scope) harr⟩
  | panic ch => exact ⟨.panic ch, a₁, w₁, hq, ArrivesIn.of_steps (k := k) (e := .panic ch) (.one h0 stepR_scope) harr⟩
  | outgrown => exact ⟨.outgrown, a₁, w₁, hq, ArrivesIn.of_steps (k := k) (e := .outgrown) (.one h0 stepR_scope) harr⟩

theorem wpIn_of_loopIn (h : LoopIn F n P c Q a w) : (Code.loop c).wpIn F n P Q a w := fun b k cs hro hb hr =>
  let ⟨e, a', w', hq, harr⟩ := h b k cs hro hb hr
  ⟨e, a', w', hq, .of_steps (.one (fenced_calm hb hr rfl) stepR_loop) harr⟩

theorem loopIn_round (h : c.wpIn F n P (Exit.then (fun a' w' => LoopIn F n P c Q a' w') Q) a w) : LoopIn F n P c Q a w := by
  intro b k cs hro hb hr
  obtain ⟨e, a₁, w₁, hq, harr⟩ := h b (.inLoop c :: k) cs hro hb hr
  cases e with
  | normal =>
    obtain ⟨e₂, a₂, w₂, hq₂, harr₂⟩ := hq b k cs hro hb hr
    exact ⟨e₂, a₂, w₂, hq₂, .of_steps (StepsIn.trans harr (.one (fenced_calm hb hr rfl) stepR_inLoop)) harr₂⟩
  | exit id => exact ⟨_, a₁, w₁, hq, .pass (x := .inLoop c) rfl (fun _ _ => .inl (by simp)) harr⟩
  | goto l => exact ⟨_, a₁, w₁, hq, .pass (x := .inLoop c) rfl (fun _ _ => .inl (by simp)) harr⟩
  | ret => exact ⟨_, a₁, w₁, hq, .pass (x := .inLoop c) rfl (fun _ _ => .inl (by simp)) harr⟩
  | panic ch => exact ⟨_, a₁, w₁, hq, .pass (x := .inLoop c) rfl (fun _ _ => .inl (by simp)) harr⟩
  | outgrown => exact ⟨_, a₁, w₁, hq, .pass (x := .inLoop c) rfl (fun _ _ => .inl (by simp)) harr⟩
end

theorem CodeQ.from {j j1 : Inj} {m m1 m' : AMem} {w w1 w' : World} {N n : Nat} {e : AExit} {t : Tm} {e' : Exit} {a' : Act} (h : MR E j m w) (s : Sim E j m w j1 m1 w1) (q : CodeQ E j1 m1 w1 N n e t m' e' a' w') : CodeQ E j m w N n e t m' e' a' w' :=
  let ⟨he, j2, s2, ht, hm⟩ := q
  ⟨he, j2, s.trans h s2, ht, hm⟩

/-! ### Results -/
theorem sim_loadVar {j : Inj} {m : AMem} {w : World} (h : MR E j m w) {t : TypeId} {x x' v : Value} (e : loadA E.P t x m = some v) (hx : VR j x x') :
    ∃ v', (do loadVar t (← asAddr x') : Sem Value).run E.P w = .ok v' w ∧ VR j v v' := by
  obtain ⟨v', h1, h2⟩ := sim_load h e hx
  refine ⟨v', ?_, h2⟩
  unfold loadA at e
  split at e
  · cases hx with
    | ptr hj =>
      simp only [Instr.loadAt, Instr.sureAddr, Sem.run_bind, Sem.run_pure, Result.andThen_ok] at h1
      simp only [asAddr, Sem.run_bind, Sem.run_pure, Result.andThen_ok]
      exact h1
  · cases e

theorem sim_resultsL {j : Inj} {m : AMem} {w : World} (h : MR E j m w) {n : Nat} {t : Tm} {tmps : Array Value} (ht : TR n j t tmps) {f : ResultVar → Sem Value} (h1 : ∀ i, f (.tmp i) = pure (tmps.getD i undef))
    (h2 : ∀ a ty, f (.cell a ty) = (do loadVar ty (← asAddr (tmps.getD a undef)))) :
    ∀ {rs : List ResultVar} {vs : List Value}, resultsA E t m rs = some vs → ∃ vs', (rs.mapM f).run E.P w = .ok vs' w ∧ LR j vs vs'
  | [], vs, e => by cases e; exact ⟨[], rfl, .nil j⟩
  | .tmp i :: rs, vs, e => by
    simp only [resultsA] at e
    obtain ⟨vs0, e0, rfl⟩ := map_some e
    obtain ⟨vs', r1, r2⟩ := sim_resultsL h ht h1 h2 e0
    exact ⟨tmps.getD i undef :: vs', by simp only [List.mapM_cons, h1, Sem.run_bind, Sem.run_pure, Result.andThen_ok, r1], .cons (ht.2 i) r2⟩
  | .cell a ty :: rs, vs, e => by
    simp only [resultsA] at e
    split at e
    · rename_i v vs0 hv hvs
      cases e
      obtain ⟨vs', r1, r2⟩ := sim_resultsL h ht h1 h2 hvs
      obtain ⟨v', l1, l2⟩ := sim_loadVar h hv (ht.2 a)
      refine ⟨v' :: vs', ?_, .cons l2 r2⟩
      rw [List.mapM_cons, Sem.run_bind, h2, l1]
      simp only [Sem.run_bind, Sem.run_pure, Result.andThen_ok, r1]
    · cases e

theorem sim_results' {j : Inj} {m : AMem} {w : World} (h : MR E j m w) {n : Nat} {t : Tm} {tmps : Array Value} (ht : TR n j t tmps) {f : ResultVar → Sem Value} (h1 : ∀ i, f (.tmp i) = pure (tmps.getD i undef))
    (h2 : ∀ a ty, f (.cell a ty) = (do loadVar ty (← asAddr (tmps.getD a undef)))) {rs : Array ResultVar} {vs : List Value} (e : resultsA E t m rs.toList = some vs) :
    ∃ v', (do let vs ← rs.mapM f; pure (if h : vs.size = 1 then vs[0] else .tuple vs) : Sem Value).run E.P w = .ok v' w ∧ VR j (tupleA vs) v' := by
  obtain ⟨l⟩ := rs
  simp only [List.mapM_toArray, Sem.run_bind, Sem.run_map]
  obtain ⟨vs', h1, h2⟩ := sim_resultsL h ht h1 h2 e
  rw [h1]
  simp only [Result.andThen_ok, Sem.run_pure]
  cases h2' : vs' with
  | nil =>
    subst h2'
    have hv : vs = [] := by have := h2.1; simp at this; exact this
    subst hv
    exact ⟨_, rfl, .tuple' (by simpa using LR.nil j)⟩
  | cons v' l' =>
    subst h2'
    cases hv : vs with
    | nil => subst hv; exact absurd h2.1 (by simp)
    | cons v l =>
      subst hv
      cases l' with
      | nil =>
        have hl : l = [] := by have := h2.1; simp at this; exact this
        subst hl
        exact ⟨_, rfl, h2.head⟩
      | cons v2' l2' =>
        cases l with
        | nil => exact absurd h2.1 (by simp)
        | cons v2 l2 => exact ⟨_, rfl, .tuple' (by simpa using h2)⟩
theorem sim_results {j : Inj} {m : AMem} {w : World} (h : MR E j m w) {n : Nat} {t : Tm} {tmps : Array Value} (ht : TR n j t tmps) {fn : Func} {vs : List Value} (e : resultsA E t m fn.results.toList = some vs) :
    ∃ v', (results fn tmps).run E.P w = .ok v' w ∧ VR j (tupleA vs) v' :=
  sim_results' h ht (fun _ => rfl) (fun _ _ => rfl) e

/-! ### Marks are shut -/
theorem Sim.shut {j j' : Inj} {m m' : AMem} {w w' : World} (s : Sim E j m w j' m' w') {r : Nat} (hr : w'.heap[r]? = some (.deferred (some []))) (hs : w.heap.size ≤ r) (o : Obj) : Sim E j m w j' m' (w'.putObj r o) where
  ext := s.ext
  le := s.le
  new := s.new
  mr := ⟨fun b k e => ⟨(s.mr.lt b k e).1, by simpa using (s.mr.lt b k e).2⟩, fun b o k hg e => by
      obtain ⟨o', h1, h2⟩ := s.mr.obj b o k hg e
      have hne : k.c ≠ r := not_mark s.mr hr b k e (by rw [hg]; rfl)
      exact ⟨o', by rw [World.putObj_heap_other hne]; exact h1, h2⟩, s.mr.inj, s.mr.glob⟩
  size := by simpa using s.size
  full := s.full
  away := s.away
  fresh := s.fresh
  frame := fun c hc H => by rw [World.putObj_heap_other (by omega)]; exact s.frame c hc H
  calm := s.calm

theorem leaves_marks {fn : Func} {tmps : Array Value} {R : Ending → World → Prop} {j j' : Inj} {m m' : AMem} {w : World}
    (hR : ∀ w'', Sim E j m w j' m' w'' → ∃ v, (results fn tmps).run E.P w'' = .ok v w'' ∧ R (.returned v) w'') :
    ∀ (rs : List Nat) (w' : World), Sim E j m w j' m' w' → rs.Nodup → (∀ r ∈ rs, w.heap.size ≤ r ∧ w'.heap[r]? = some (.deferred (some []))) → LeavesInM Fence.wide 0 E.P fn tmps R (rs.map markOf) .returning w'
  | [], w', s, _, _ => hR w' s
  | r :: rs, w', s, hn, hr => by
    have h0 := hr r (by simp)
    refine ⟨by simp, .inl ⟨r, w'.putObj r (.deferred none), rfl, run_takeDeferred h0.2, ?_⟩⟩
    refine leaves_marks hR rs _ (s.shut h0.2 h0.1 _) (List.nodup_cons.1 hn).2 fun x hx => ?_
    have hne : x ≠ r := fun e => (List.nodup_cons.1 hn).1 (e ▸ hx)
    have h1 := hr x (by simp [hx])
    exact ⟨h1.1, by rw [World.putObj_heap_other hne]; exact h1.2⟩

/-! ### The frame of a call -/
theorem get_ofList : ∀ (vs : List Value) (i : Nat) (t : Tm) (d : Nat), (Trie.ofList vs i t).get d = if i ≤ d ∧ d < i + vs.length then vs[d - i]? else t.get d
  | [], i, t, d => by
    have : ¬ (i ≤ d ∧ d < i + ([] : List Value).length) := by simp only [List.length_nil]; omega
    rw [if_neg this]; rfl
  | v :: vs, i, t, d => by
    simp only [Trie.ofList, get_ofList vs (i + 1), Trie.get_set]
    by_cases h : d = i
    · subst h
      rw [if_neg (by omega), if_pos rfl, if_pos (by simp)]; simp
    · by_cases h2 : i ≤ d ∧ d < i + (v :: vs).length
      · have h3 : i + 1 ≤ d ∧ d < i + 1 + vs.length := by simp at h2; omega
        rw [if_pos h2, if_pos h3]
        obtain ⟨x, hx⟩ : ∃ x, d - i = x + 1 := ⟨d - i - 1, by omega⟩
        rw [hx, show d - (i + 1) = x by omega]; rfl
      · have h3 : ¬ (i + 1 ≤ d ∧ d < i + 1 + vs.length) := by simp at h2; omega
        rw [if_neg h2, if_neg h3, if_neg h]

theorem TR.enter {j : Inj} {args args' : List Value} (h : LR j args args') (nt : Nat) : TR (max args.length nt) j (Trie.ofList args 0 .nil) (args'.toArray ++ Array.replicate (nt - args'.toArray.size) undef) := by
  refine ⟨by simp [h.1]; omega, fun i => ?_⟩
  unfold Tm.at
  rw [get_ofList]
  by_cases hi : i < args.length
  · rw [if_pos (by omega)]
    have hi' : i < args'.length := h.1 ▸ hi
    obtain ⟨v', h1, h2⟩ := h.2 i args[i] (by simp [hi])
    have e1 : (args[i - 0]?).getD undef = args[i] := by simp [hi]
    have e2 : (args'.toArray ++ Array.replicate (nt - args'.toArray.size) undef).getD i undef = v' := by
      rw [Array.getD_eq_getD_getElem?, Array.getElem?_append_left (by simpa using hi')]
      simp [h1]
    rw [e1, e2]; exact h2
  · rw [if_neg (by omega)]
    have e2 : (args'.toArray ++ Array.replicate (nt - args'.toArray.size) undef).getD i undef = undef := by
      rw [Array.getD_eq_getD_getElem?, Array.getElem?_append_right (by simp [← h.1]; omega)]
      simp only [Array.getElem?_replicate]
      split <;> rfl
    rw [e2, Trie.get_nil]; exact VR.undef j

theorem sim_callStep (hE : EnvOk E) (hk : ∀ tk r, k tk = some r → TaskSim E tk r) {f : FuncId} {args : List Value} {m : AMem} {r : Res} (h : step E k (.call f args m) = some r) : TaskSim E (.call f args m) r := by
  simp only [step] at h
  split at h
  · rename_i r0 hp
    obtain ⟨v, m'⟩ := r0
    cases h
    unfold primA at hp
    cases hpf : E.prim f with
    | none => rw [hpf] at hp; cases hp
    | some p =>
      rw [hpf] at hp
      exact ⟨v, m', rfl, fun j w args' hm hl => hE.prim f p hpf args m v m' hp j w args' hm hl⟩
  · rename_i hp
    split at h
    · rename_i fn hfn
      split at h
      · rename_i c hb
        split at h
        · cases h
        · rename_i e t m' hne hkc
          obtain ⟨vs, hvs, rfl⟩ := map_some h
          obtain ⟨e0, t0, m0, hr0, H⟩ := hk _ _ hkc
          cases hr0
          refine ⟨tupleA vs, m', rfl, fun j w args' hm hl => .inl ⟨hE.call f fn c hfn hb _ w, ?_⟩⟩
          refine callsIn_of_wp_marks hfn hb trivial ?_
          refine wpIn_mono (H j w { tmps := args'.toArray ++ Array.replicate (fn.ntmps - args'.toArray.size) undef, defers := [] } Fence.wide w.heap.size hm (TR.enter hl fn.ntmps) rfl (Marks.nil _ _) (Nat.le_refl _)) ?_
          rintro e' a' w' ⟨rfl, j', s, ht, rs, hnd, hds, hrs⟩
          have hleave : LeavesInM Fence.wide 0 E.P fn a'.tmps (fun e w' => ∃ v, e = .returned v ∧ ValQ E j m w (tupleA vs) m' v w') a'.defers .returning w' := by
            rw [hds]
            refine leaves_marks (fun w'' s' => ?_) rs w' s hnd hrs
            obtain ⟨v', hv1, hv2⟩ := sim_results s'.mr ht hvs
            exact ⟨v', hv1, v', rfl, j', s', hv2⟩
          cases e with
          | normal => exact hleave
          | ret => exact hleave
          | exit id => exact (hne id rfl).elim
        · cases h
      · cases h
    · cases h

/-! ### A round -/
theorem TR.set {n : Nat} {j : Inj} {t : Tm} {tmps : Array Value} {p : Tmp} {v v' : Value} (h : TR n j t tmps) (hv : VR j v v') (hp : p < n) : TR n j (t.set p v) (tmps.setIfInBounds p v') :=
  TR.put (a := { tmps := tmps, defers := [] }) (dst := some p) h hv (by
    have : Nat.blt p n = true := by simpa using hp
    simp only [putT, this])

theorem sim_setParams {n : Nat} {j : Inj} : ∀ {ps : List Tmp} {vs vs' : List Value} {t t' : Tm} {tmps : Array Value}, setParams n t ps vs = some t' → LR j vs vs' → TR n j t tmps →
    TR n j t' ((ps.zip vs').foldl (fun tm (x : Tmp × Value) => tm.setIfInBounds x.1 x.2) tmps)
  | [], vs, vs', t, t', tmps, h, hl, ht => by cases h; exact ht
  | p :: ps, [], vs', t, t', tmps, h, hl, ht => by
    cases h
    cases hl.nil_inv
    exact ht
  | p :: ps, v :: vs, vs', t, t', tmps, h, hl, ht => by
    obtain ⟨v', l', rfl, h1, h2⟩ := hl.cons_inv
    simp only [setParams] at h
    split at h
    · rename_i hlt
      show TR n j t' ((ps.zip l').foldl (fun tm (x : Tmp × Value) => tm.setIfInBounds x.1 x.2) (tmps.setIfInBounds p v'))
      exact sim_setParams h h2 (ht.set h1 (by simpa using hlt))
    · cases h

theorem foldl_zip_list (ps : Array Tmp) (vs : List Value) (tmps : Array Value) :
    (ps.zip vs.toArray).foldl (fun tm (x : Tmp × Value) => tm.setIfInBounds x.1 x.2) tmps = (ps.toList.zip vs).foldl (fun tm (x : Tmp × Value) => tm.setIfInBounds x.1 x.2) tmps := by
  rw [← Array.foldl_toList, Array.toList_zip]

theorem MR.loopAt {j : Inj} {m : AMem} {w : World} (h : MR E j m w) {b : Nat} {kb : Blk} (hk : j b = some kb) {r : ALoop} (hg : m.get b = some (.loop r)) :
    ∃ r', w.heap[kb.c]? = some (.loop r') ∧ r.state = r'.state ∧ r.pending = r'.pending ∧ r.params = r'.params ∧ r.assign = r'.assign ∧ r.body = r'.body ∧ TR r.n j r.tmps r'.tmps := by
  obtain ⟨o, h1, h2⟩ := h.obj b _ kb hg hk
  cases o with
  | loop r' => exact ⟨r', h1, h2⟩
  | _ => exact h2.elim

theorem sim_roundStep (hk : ∀ tk r, k tk = some r → TaskSim E tk r) {l : Nat} {args : List Value} {m : AMem} {r : Res} (h : step E k (.round l args m) = some r) : TaskSim E (.round l args m) r := by
  simp only [step] at h
  split at h
  · rename_i rec hl
    split at h
    · rename_i hst
      split at h
      · cases h
      · rename_i hlen
        split at h
        · cases h
        · rename_i t0 hsp
          split at h
          · rename_i t1 m1 hka
            split at h
            · rename_i r1 hl1
              split at h
              · rename_i hst1
                split at h
                · rename_i e t2 m2 hkb
                  split at h
                  · rename_i r2 hl2
                    cases h
                    obtain ⟨e0, t0', m0', hr0, HA⟩ := hk _ _ hka
                    cases hr0
                    obtain ⟨e0, t0', m0', hr0, HB⟩ := hk _ _ hkb
                    cases hr0
                    refine ⟨_, _, rfl, fun j w kb args' hm hj hargs => ?_⟩
                    obtain ⟨rc, hrc, c1, c2, c3, c4, c5, c6⟩ := hm.loopAt hj hl
                    have hsz : args'.toArray.size = rc.params.size := by
                      rw [← c3]; have := hargs.1; simp; omega
                    refine ⟨_, _, _, _, run_yield hrc hsz, ?_⟩
                    refine roundIn_of_wpIn trivial ?_
                    have htm : TR rec.n j t0 ((rc.params.zip args'.toArray).foldl (fun tm (x : Tmp × Value) => tm.setIfInBounds x.1 x.2) rc.tmps) := by
                      rw [foldl_zip_list, ← c3]
                      exact sim_setParams hsp hargs c6
                    have HA' := HA j w { tmps := (rc.params.zip args'.toArray).foldl (fun tm (x : Tmp × Value) => tm.setIfInBounds x.1 x.2) rc.tmps, defers := [] } (Fence.wide.inRound kb.c) w.heap.size hm htm ⟨kb, hj, rfl⟩ (Marks.nil _ _) (Nat.le_refl _)
                    rw [← c4, ← c5]
                    refine wpIn_mono HA' ?_
                    rintro e' a1 w1 ⟨rfl, j1, s1, ht1, hm1⟩
                    have hj1 := s1.le _ _ hj
                    obtain ⟨rc1, hrc1, d1, d2, d3, d4, d5, d6⟩ := s1.mr.loopAt hj1 hl1
                    refine ⟨_, run_beginRound hrc1 (by rw [← d1]; exact hst1), ?_⟩
                    have s2 : Sim E j1 m1 w1 j1 (m1.set l (.loop { r1 with state := .busy })) (w1.putObj kb.c (.loop { rc1 with state := .busy })) :=
                      sim_put s1.mr hj1 (by rw [hl1]; rfl) ⟨rfl, d2, d3, d4, d5, d6⟩
                    have HB' := HB j1 (w1.putObj kb.c (.loop { rc1 with state := .busy })) a1 (Fence.wide.inRound kb.c) w.heap.size s2.mr ht1 ⟨kb, hj1, rfl⟩ (hm1.sim s1.mr s2) (Nat.le_trans s1.size s2.size)
                    refine wpIn_mono HB' ?_
                    rintro e' a2 w2 ⟨rfl, j2, s3, ht2, hm2⟩
                    have hj2 := s3.le _ _ hj1
                    obtain ⟨rc2, hrc2, f1, f2, f3, f4, f5, f6⟩ := s3.mr.loopAt hj2 hl2
                    have fin : ∀ jump : Option Code, ∃ v w', (Instr.endRound kb.c jump).run E.P w2 = .ok v w' ∧ ∃ v', Ending.returned v = .returned v' ∧ ValQ E j m w (.bool jump.isNone) (m2.set l (.loop { r2 with state := if jump.isNone then .ready else .done, pending := jump })) v' w' := by
                      intro jump
                      refine ⟨_, _, run_endRound jump hrc2, _, rfl, j2, ?_, .bool _⟩
                      have s4 : Sim E j2 m2 w2 j2 (m2.set l (.loop { r2 with state := if jump.isNone then .ready else .done, pending := jump })) (w2.putObj kb.c (.loop { rc2 with state := if jump.isNone then .ready else .done, pending := jump })) :=
                        sim_put s3.mr hj2 (by rw [hl2]; rfl) ⟨rfl, rfl, f3, f4, f5, f6⟩
                      exact s1.trans hm (s2.trans s1.mr (s3.trans s2.mr s4))
                    cases e with
                    | normal => exact fin none
                    | ret => exact fin (some .ret)
                    | exit id => exact fin (some (.exit id))
                  · cases h
                · cases h
              · cases h
            · cases h
          · cases h
    · cases h
  · cases h

/-! ### A range over a function -/
/-- A block is laid that stands for none. -/
theorem sim_extra {j : Inj} {m : AMem} {w : World} (h : MR E j m w) (o : Obj) : Sim E j m w j m (w.alloc o) := by
  have hget : ∀ c, c < w.heap.size → (w.alloc o).heap[c]? = w.heap[c]? := fun c hc => by
    show (w.heap.push o)[c]? = w.heap[c]?
    rw [Array.getElem?_push, if_neg (by omega)]
  exact { Sim.refl h with
    mr := ⟨fun b k e => ⟨(h.lt b k e).1, by rw [World.size_alloc]; exact Nat.lt_succ_of_lt (h.lt b k e).2⟩, fun b o k hg e => by
        obtain ⟨o', h1, h2⟩ := h.obj b o k hg e
        exact ⟨o', by rw [hget _ (h.lt b k e).2]; exact h1, h2⟩, h.inj, h.glob⟩
    size := by rw [World.size_alloc]; omega
    frame := fun c hc _ => hget c hc }

theorem run_enterLoop_inner {P : Program} {w : World} {l : Nat} {r : Loop} (h : w.heap[l]? = some (.loop r)) (fn : FuncId) (tmps : Array Value) (ps : Array Tmp) (assign body : Code) :
    (Instr.enterLoop fn tmps ps assign body (some l)).run P w = .ok (w.heap.size, []) (w.alloc (.loop { state := .ready, pending := none, fn, tmps, params := ps, assign, body, defers := r.defers })) := by
  unfold Instr.enterLoop
  simp only [Sem.run_bind, run_getLoop h, run_newObj_alloc, Result.andThen, Sem.run_pure]

theorem sim_rangeFunc (hk : ∀ tk r, k tk = some r → TaskSim E tk r) {g : Operand} {ps : Array Tmp} {assign body : Code} {fr : Fr} {m : AMem} {r : Res} (h : step E k (.code (.rangeFunc g ps assign body) fr m) = some r) :
    TaskSim E (.code (.rangeFunc g ps assign body) fr m) r := by
  simp only [step] at h
  split at h
  · rename_i gf first captured hg har
    split at h
    · rename_i v0 m2 hkc
      split at h
      · rename_i r2 hl2
        obtain ⟨v1, m1', hr1, HC⟩ := hk _ _ hkc
        cases hr1
        -- what is common: up to the end of the call
        have common : r2.state ≠ .busy → ∀ (j : Inj) (w : World) (a : Act) (F : Fence) (N : Nat), MR E j m w → TR fr.n j fr.tmps a.tmps → RoundF j fr.round F → Marks N w a.defers → N ≤ w.heap.size → ∀ Q : Exit → Act → World → Prop,
            (∀ (j3 : Inj) (w3 : World) (a3 : Act), Sim E j m w j3 (m2.set m.next (.loop { r2 with state := .exhausted })) w3 → TR fr.n j3 fr.tmps a3.tmps → Marks N w3 a3.defers →
              (r2.pending = none → Q .normal a3 w3) ∧ (∀ c, r2.pending = some c → c.wpIn F 0 E.P Q a3 w3)) → (Code.rangeFunc g ps assign body).wpIn F 0 E.P Q a w := by
          intro hbusy j w a F N hm ht hro hmk hN Q hQ
          have hF := hro.wide
          refine wpIn_rangeFunc fun fnId _ => ?_
          have hfv := sim_eval hm ht hg
          generalize hfe : a.eval g = fv at hfv
          cases hfv with
          | func h1 h2 h3 h4 =>
          rename_i ys ds
          -- the record
          have enter : ∃ (l : Nat) (mark : List Deferred) (w1 : World) (j1 : Inj) (kb : Blk), (Instr.enterLoop fnId a.tmps ps assign body F.round).run E.P w = .ok (l, mark) w1 ∧ kb.c = l ∧ j1 m.next = some kb ∧
              Sim E j m w j1 (m.alloc (.loop { state := .ready, pending := none, fn := fr.fn, tmps := fr.tmps, n := fr.n, params := ps, assign, body })) w1 ∧ Marks N w1 (mark ++ a.defers) := by
            unfold aroundOk at har
            simp only [Bool.and_eq_true] at har
            have hround := har.2
            cases hfr : fr.round with
            | none =>
              rw [hfr] at hro
              have hFw : F = Fence.wide := hro
              subst hFw
              have s0 := sim_extra hm (.deferred (some []))
              have s1 := sim_alloc s0.mr (ao := .loop { state := .ready, pending := none, fn := fr.fn, tmps := fr.tmps, n := fr.n, params := ps, assign, body }) (mo := none)
                (co := .loop { state := .ready, pending := none, fn := fnId, tmps := a.tmps, params := ps, assign, body, defers := w.heap.size }) ⟨rfl, rfl, rfl, rfl, rfl, ht⟩
              refine ⟨_, _, _, _, _, run_enterLoop_outer fnId a.tmps ps assign body, ?_, Inj.set_eq _ _ _, s0.trans hm s1, ?_⟩
              · show (w.alloc (.deferred (some []))).heap.size = _
                rw [World.size_alloc]
              · obtain ⟨rs, n1, n2, n3⟩ := (hmk.sim hm s0).sim s0.mr s1
                obtain ⟨rs', p1, p2, p3⟩ := hmk
                have hrs : rs = rs' := by
                  have e := n2.symm.trans p2
                  refine List.map_inj_right (f := markOf) (fun x y hxy => ?_) |>.1 e
                  simpa [markOf] using hxy
                subst hrs
                refine ⟨w.heap.size :: rs, List.nodup_cons.2 ⟨fun hin => ?_, n1⟩, by simp [markOf, n2], fun x hx => ?_⟩
                · have := (Array.getElem?_eq_some_iff.1 (p3 _ hin).2).1
                  omega
                · rcases List.mem_cons.1 hx with rfl | hx
                  · refine ⟨hN, ?_⟩
                    have hlt : w.heap.size < (w.alloc (.deferred (some []))).heap.size := by rw [World.size_alloc]; omega
                    rw [s1.frame _ hlt fun b kb hb hl he => absurd (hm.lt b kb hb).2 (by omega)]
                    exact World.alloc_heap_new _ _
                  · exact n3 x hx
            | some l0 =>
              rw [hfr] at hro hround
              obtain ⟨k0, hj0, rfl⟩ := hro
              simp only at hround
              split at hround
              · rename_i r0 hl0
                obtain ⟨rc0, hrc0, _⟩ := hm.loopAt hj0 hl0
                have s1 := sim_alloc hm (ao := .loop { state := .ready, pending := none, fn := fr.fn, tmps := fr.tmps, n := fr.n, params := ps, assign, body }) (mo := none)
                  (co := .loop { state := .ready, pending := none, fn := fnId, tmps := a.tmps, params := ps, assign, body, defers := rc0.defers }) ⟨rfl, rfl, rfl, rfl, rfl, ht⟩
                exact ⟨_, _, _, _, _, run_enterLoop_inner hrc0 fnId a.tmps ps assign body, rfl, Inj.set_eq _ _ _, s1, by simpa using hmk.sim hm s1⟩
              · cases hround
          obtain ⟨l, mark, w1, j1, kb, e1, e2, e3, s1, hmk1⟩ := enter
          subst e2
          have hprim : (E.prim gf).isSome = false := by
            unfold aroundOk at har
            simp only [Bool.and_eq_true, hg] at har
            cases hp : E.prim gf with
            | none => rfl
            | some p => rw [hp] at har; simp at har
          have hl : LR j1 (first.toList ++ [Value.func (.yield m.next) #[] #[]] ++ captured.toList) (ys.toList ++ [Value.func (.yield kb.c) #[] #[]] ++ ds.toList) :=
            (((LR.of_arr h1 h2).mono s1.le).append (.cons (.yield e3 rfl (fun i a _ => by simp at a)) (.nil _))).append ((LR.of_arr h3 h4).mono s1.le)
          have hcs := HC j1 w1 _ s1.mr hl
          have harr : (ys.toList ++ [Value.func (.yield kb.c) #[] #[]] ++ ds.toList).toArray = ys ++ #[Value.func (.yield kb.c) #[] #[]] ++ ds := by apply Array.toList_inj.1; simp
          rw [harr] at hcs
          rcases hcs with ⟨hr, hci⟩ | ⟨hpr, _⟩
          · refine ⟨kb.c, mark, w1, { target := .fn (.func gf) ds, args := ys ++ #[Value.func (.yield kb.c) #[] #[]] }, w1, gf, ys ++ #[Value.func (.yield kb.c) #[] #[]] ++ ds, w1, e1, ?_, fun f' _ => hF.fn f', ?_, hF.depth, ?_⟩
            · have hmap : Array.map a.eval #[Operand.const (Value.func (Fn.yield kb.c) #[] #[])] = #[Value.func (Fn.yield kb.c) #[] #[]] := by
                apply Array.toList_inj.1; rw [Array.toList_map]; rfl
              simp only [resolve, rangeCall, hfe, Deferred.ofValue, Sem.run_bind, Sem.run_pure, Result.andThen_ok, hmap]
            · simp only [invoke]; exact hr
            · refine CallsIn.mono (hF.calls hci) ?_
              rintro e' w2 ⟨v', rfl, j2, s2, hv⟩
              have hj2 := s2.le _ _ e3
              obtain ⟨rc2, hrc2, f1, f2, f3, f4, f5, f6⟩ := s2.mr.loopAt hj2 hl2
              have s3 : Sim E j2 m2 w2 j2 (m2.set m.next (.loop { r2 with state := .exhausted })) (w2.putObj kb.c (.loop { rc2 with state := .exhausted })) :=
                sim_put s2.mr hj2 (by rw [hl2]; rfl) ⟨rfl, f2, f3, f4, f5, f6⟩
              have sall := s1.trans hm (s2.trans s1.mr s3)
              refine ⟨rc2.pending, _, run_endLoop hrc2 (by rw [← f1]; exact hbusy), ?_⟩
              have hfin := hQ j2 _ { a with defers := mark ++ a.defers } sall (ht.mono sall.le) ((hmk1.sim s1.mr s2).sim s2.mr s3)
              rw [f2] at hfin
              generalize (w2.putObj kb.c (.loop { rc2 with state := .exhausted })) = w4 at hfin ⊢
              cases hp : rc2.pending with
              | none => exact hfin.1 hp
              | some c => exact hfin.2 c hp
          · rw [hprim] at hpr; cases hpr
        split at h
        · cases h
        · rename_i hbusy
          split at h
          · rename_i hpend
            cases h
            refine ⟨.normal, fr.tmps, _, rfl, fun j w a F N hm ht hro hmk hN => ?_⟩
            refine common hbusy j w a F N hm ht hro hmk hN _ fun j3 w3 a3 s3 ht3 hm3 => ?_
            exact ⟨fun _ => ⟨rfl, j3, s3, ht3, hm3⟩, fun c hc => absurd (hpend.symm.trans hc) (by simp)⟩
          · rename_i c hpend
            split at h
            · rename_i e t m' hkp
              cases h
              obtain ⟨e0, t0, m0, hr0, HP⟩ := hk _ _ hkp
              cases hr0
              refine ⟨e, t, m', rfl, fun j w a F N hm ht hro hmk hN => ?_⟩
              refine common hbusy j w a F N hm ht hro hmk hN _ fun j3 w3 a3 s3 ht3 hm3 => ?_
              refine ⟨fun hc => absurd (hpend.symm.trans hc) (by simp), fun c' hc => ?_⟩
              rw [hpend] at hc; cases hc
              exact wpIn_mono (HP j3 w3 a3 F N s3.mr ht3 (hro.mono s3.le) hm3 (Nat.le_trans hN s3.size)) fun e' a' w' q => q.from hm s3
            · cases h
      · cases h
    · cases h
  · cases h

/-! ### Code -/
theorem sim_codeStep (hE : EnvOk E) (hk : ∀ tk r, k tk = some r → TaskSim E tk r) {c : Code} {fr : Fr} {m : AMem} {r : Res} (h : step E k (.code c fr m) = some r) : TaskSim E (.code c fr m) r := by
  cases c with
  | skip =>
    simp only [step, Option.some.injEq] at h
    subst h
    exact ⟨.normal, fr.tmps, m, rfl, fun j w a F N hm ht hro hd hN => wpIn_skip ⟨rfl, j, .refl hm, ht, hd⟩⟩
  | label l =>
    simp only [step, Option.some.injEq] at h
    subst h
    exact ⟨.normal, fr.tmps, m, rfl, fun j w a F N hm ht hro hd hN => wpIn_label ⟨rfl, j, .refl hm, ht, hd⟩⟩
  | exit id =>
    simp only [step, Option.some.injEq] at h
    subst h
    exact ⟨.exit id, fr.tmps, m, rfl, fun j w a F N hm ht hro hd hN => wpIn_exit ⟨rfl, j, .refl hm, ht, hd⟩⟩
  | ret =>
    simp only [step, Option.some.injEq] at h
    subst h
    exact ⟨.ret, fr.tmps, m, rfl, fun j w a F N hm ht hro hd hN => wpIn_ret ⟨rfl, j, .refl hm, ht, hd⟩⟩
  | seq x y =>
    simp only [step] at h
    split at h
    · rename_i t1 m1 h1
      obtain ⟨e0, t0, m0, hr0, H1⟩ := hk _ _ h1
      cases hr0
      obtain ⟨e2, t2, m2, rfl, H2⟩ := hk _ _ h
      refine ⟨e2, t2, m2, rfl, fun j w a F N hm ht hro hd hN => wpIn_seq (wpIn_mono (H1 j w a F N hm ht hro hd hN) ?_)⟩
      rintro e' a' w' ⟨rfl, j', s, ht', hd'⟩
      exact wpIn_mono (H2 j' w' a' F N s.mr ht' (hro.mono s.le) hd' (Nat.le_trans hN s.size)) fun _ _ _ q => q.from hm s
    · rename_i e1 t1 m1 hne h1
      cases h
      obtain ⟨e0, t0, m0, hr0, H1⟩ := hk _ _ h1
      cases hr0
      refine ⟨e1, t1, m1, rfl, fun j w a F N hm ht hro hd hN => wpIn_seq (wpIn_mono (H1 j w a F N hm ht hro hd hN) ?_)⟩
      rintro e' a' w' q
      have he := q.1
      subst he
      cases e1 with
      | normal => exact (hne rfl).elim
      | exit id => exact q
      | ret => exact q
    · cases h
  | cond x a b =>
    simp only [step] at h
    split at h
    · rename_i hx
      obtain ⟨e2, t2, m2, rfl, H⟩ := hk _ _ h
      refine ⟨e2, t2, m2, rfl, fun j w a F N hm ht hro hd hN => ?_⟩
      have hv := sim_eval hm ht hx
      generalize hxe : a.eval x = xv at hv
      cases hv
      exact wpIn_cond_true hxe (H j w a F N hm ht hro hd hN)
    · rename_i hx
      obtain ⟨e2, t2, m2, rfl, H⟩ := hk _ _ h
      refine ⟨e2, t2, m2, rfl, fun j w a F N hm ht hro hd hN => ?_⟩
      have hv := sim_eval hm ht hx
      generalize hxe : a.eval x = xv at hv
      cases hv
      exact wpIn_cond_false hxe (H j w a F N hm ht hro hd hN)
    · cases h
  | block id c =>
    simp only [step] at h
    split at h
    · rename_i id' t1 m1 h1
      obtain ⟨e0, t0, m0, hr0, H⟩ := hk _ _ h1
      cases hr0
      split at h
      · rename_i hid
        cases h
        refine ⟨.normal, t1, m1, rfl, fun j w a F N hm ht hro hd hN => wpIn_block (wpIn_mono (H j w a F N hm ht hro hd hN) ?_)⟩
        rintro e' a' w' ⟨rfl, q⟩
        simp only [concE, Exit.inBlock, hid, if_true]
        exact ⟨rfl, q⟩
      · rename_i hid
        cases h
        refine ⟨.exit id', t1, m1, rfl, fun j w a F N hm ht hro hd hN => wpIn_block (wpIn_mono (H j w a F N hm ht hro hd hN) ?_)⟩
        rintro e' a' w' ⟨rfl, q⟩
        simp only [concE, Exit.inBlock, hid, if_false]
        exact ⟨rfl, q⟩
    · rename_i e1 t1 m1 hne h1
      cases h
      obtain ⟨e0, t0, m0, hr0, H⟩ := hk _ _ h1
      cases hr0
      refine ⟨e1, t1, m1, rfl, fun j w a F N hm ht hro hd hN => wpIn_block (wpIn_mono (H j w a F N hm ht hro hd hN) ?_)⟩
      rintro e' a' w' ⟨rfl, q⟩
      cases e1 with
      | normal => exact ⟨rfl, q⟩
      | exit id => exact (hne _ rfl).elim
      | ret => exact ⟨rfl, q⟩
    · cases h
  | loop c =>
    simp only [step] at h
    obtain ⟨e2, t2, m2, rfl, H⟩ := hk _ _ h
    exact ⟨e2, t2, m2, rfl, fun j w a F N hm ht hro hd hN => wpIn_of_loopIn (H j w a F N hm ht hro hd hN)⟩
  | scope c =>
    simp only [step] at h
    split at h
    · rename_i e1 t1 m1 h1
      cases h
      obtain ⟨e0, t0, m0, hr0, H⟩ := hk _ _ h1
      cases hr0
      refine ⟨e1, t1, m1, rfl, fun j w a F N hm ht hro hd hN => wpIn_scope (wpIn_mono (H j w a F N hm ht hro hd hN) ?_)⟩
      rintro e' a' w' ⟨rfl, q⟩
      cases e1 <;> exact ⟨rfl, q⟩
    · cases h
  | region id ops draw =>
    simp only [step] at h
    split at h
    · rename_i hdraw
      split at h
      · rename_i ps hps
        split at h
        · rename_i t1 m1 ns hr
          split at h
          · rename_i hok
            cases h
            refine ⟨.normal, t1, m1, rfl, fun j w a F N hm ht hro hd hN => ?_⟩
            rw [hdraw]
            simp only [Bool.and_eq_true] at hok
            exact sim_draw hk hE.mixed hps hr hok.1 hok.2 hm ht hro.wide fun j' w' a' s ht' hds => ⟨rfl, j', s, ht', by rw [hds]; exact hd.sim hm s⟩
          · cases h
        · cases h
      · cases h
    · rename_i hdraw
      have hdraw' : draw = false := by simpa using hdraw
      split at h
      · rename_i t1 m1 hr
        cases h
        refine ⟨.normal, t1, m1, rfl, fun j w a F N hm ht hro hd hN => ?_⟩
        rw [hdraw']
        refine wpIn_region ?_
        have := sim_runOps (ops := ops) (n := fr.n) (tf := t1) (mf := m1) hk hro.wide hm a.defers (Q := CodeQ E j m w N fr.n .normal t1 m1) (fun j' w' a' s ht' hds => ⟨rfl, j', s, ht', by rw [hds]; exact hd.sim hm s⟩) ops.toList 0 fr.tmps m j w a rfl hr (.refl hm) ht rfl
        rw [List.range_eq_range']
        simpa using this
      · cases h
  | rangeFunc g ps assign body => exact sim_rangeFunc hk h
  | goto l => simp [step] at h
  | refuse why => simp [step] at h

theorem sim_loopStep (hk : ∀ tk r, k tk = some r → TaskSim E tk r) {c : Code} {fr : Fr} {m : AMem} {r : Res} (h : step E k (.loop c fr m) = some r) : TaskSim E (.loop c fr m) r := by
  simp only [step] at h
  split at h
  · rename_i t1 m1 h1
    obtain ⟨e0, t0, m0, hr0, H1⟩ := hk _ _ h1
    cases hr0
    obtain ⟨e2, t2, m2, rfl, H2⟩ := hk _ _ h
    refine ⟨e2, t2, m2, rfl, fun j w a F N hm ht hro hd hN => loopIn_round (wpIn_mono (H1 j w a F N hm ht hro hd hN) ?_)⟩
    rintro e' a' w' ⟨rfl, j', s, ht', hd'⟩
    intro b k' cs hro' hb hr
    obtain ⟨e3, a3, w3, q, harr⟩ := H2 j' w' a' F N s.mr ht' (hro.mono s.le) hd' (Nat.le_trans hN s.size) b k' cs hro' hb hr
    exact ⟨e3, a3, w3, q.from hm s, harr⟩
  · rename_i e1 t1 m1 hne h1
    cases h
    obtain ⟨e0, t0, m0, hr0, H1⟩ := hk _ _ h1
    cases hr0
    refine ⟨e1, t1, m1, rfl, fun j w a F N hm ht hro hd hN => loopIn_round (wpIn_mono (H1 j w a F N hm ht hro hd hN) ?_)⟩
    rintro e' a' w' q
    have he := q.1
    subst he
    cases e1 with
    | normal => exact (hne rfl).elim
    | exit id => exact q
    | ret => exact q
  · cases h

theorem sim_step (hE : EnvOk E) (hk : ∀ tk r, k tk = some r → TaskSim E tk r) {tk : Task} {r : Res} (h : step E k tk = some r) : TaskSim E tk r := by
  cases tk with
  | code c fr m => exact sim_codeStep hE hk h
  | loop c fr m => exact sim_loopStep hk h
  | call f args m => exact sim_callStep hE hk h
  | round l args m => exact sim_roundStep hk h

/-- A RUN OF THE INTERPRETER IS WHAT THE MODEL DOES. -/
theorem sim_run (hE : EnvOk E) : ∀ (fuel : Nat) (tk : Task) (r : Res), run E fuel tk = some r → TaskSim E tk r
  | 0, _, _, h => by cases h
  | n + 1, _, _, h => sim_step hE (sim_run hE n) h
end
end Go.Ab
