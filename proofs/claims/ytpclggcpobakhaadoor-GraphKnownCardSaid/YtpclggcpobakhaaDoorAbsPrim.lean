/-
  The abstract machine: a function's contract, proved over its code, takes the place of its code.
-/
import Derived.Test.YtpclggcpobakhaaDoorAbsWp
import Derived.Test.YtpclggcpobakhaaDoorAbsLaw
namespace Go.Ab
open Go

/-- Nothing that lay is written or made anew. -/
structure Grown (m m1 : AMem) : Prop where
  next : m.next ≤ m1.next
  same : ∀ b, b < m.next → m1.get b = m.get b
  wl : m.next ≤ m1.wl

section
variable {E : Env} {j j1 : Inj} {m m1 : AMem} {w w1 : World}

theorem MR.env {E E' : Env} (hg : E'.glob = E.glob) (h : MR E j m w) : MR E' j m w := ⟨h.lt, h.obj, h.inj, fun g hl => h.glob g (hg ▸ hl)⟩
theorem Sim.env {E E' : Env} {m' : AMem} {w' : World} {j' : Inj} (hg : E'.glob = E.glob) (s : Sim E j m w j' m' w') : Sim E' j m w j' m' w' :=
  ⟨s.ext, s.le, s.new, s.mr.env hg, s.size, s.full, s.away, s.fresh, s.frame, s.calm⟩

theorem Sim.old (h : MR E j m w) (s : Sim E j { m with wl := m.next } w j1 m1 w1) (g : Grown m m1) : ∀ c, c < w.heap.size → w1.heap[c]? = w.heap[c]? :=
  fun c hc => s.frame c hc fun b k hb _ _ => Nat.lt_of_lt_of_le (h.lt b k hb).1 g.wl

theorem MR.after (h : MR E j m w) (s : Sim E j { m with wl := m.next } w j1 m1 w1) (g : Grown m m1) : MR E j m w1 where
  lt := fun b k hb => ⟨(h.lt b k hb).1, Nat.lt_of_lt_of_le (h.lt b k hb).2 s.size⟩
  obj := fun b o k ho hb => by
    obtain ⟨o', h1, h2⟩ := h.obj b o k ho hb
    exact ⟨o', (s.old h g k.c (h.lt b k hb).2).trans h1, h2⟩
  inj := h.inj
  glob := h.glob

/-- What a call made is forgotten. -/
theorem Sim.forget (h : MR E j m w) (s : Sim E j { m with wl := m.next } w j1 m1 w1) (g : Grown m m1) : Sim E j m w j m w1 where
  ext := .refl m
  le := .refl j
  new := fun b k h h' => by simp [h'] at h
  mr := h.after s g
  size := s.size
  full := fun b h h' _ => absurd h (by omega)
  away := fun _ _ _ => rfl
  fresh := fun b k h h' => by simp [h'] at h
  frame := fun c hc _ => s.old h g c hc
  calm := s.calm

/-- One block of what a call made is kept. -/
theorem Sim.born (h : MR E j m w) (s : Sim E j { m with wl := m.next } w j1 m1 w1) (g : Grown m m1) {b1 : Nat} {k1 : Blk} {cs : List Value} {tag : Tag} (hb : m.next ≤ b1) (hk : j1 b1 = some k1) (ho : m1.get b1 = some (.cells cs tag)) (hp : cs.all plain1 = true) :
    Sim E j m w (j.set m.next k1) (m.alloc (.cells cs tag)) w1 := by
  have hn : j m.next = none := h.next_none
  have hj1 : j b1 = none := by
    cases e : j b1 with
    | none => rfl
    | some k => exact absurd (h.lt b1 k e).1 (by omega)
  have hfresh : w.heap.size ≤ k1.c := by
    rcases s.fresh b1 k1 hk hj1 with hf | ⟨b0, k0, a1, _, _, a4⟩
    · exact hf
    · have := (h.lt b0 k0 a1).1; have := g.wl; omega
  refine ⟨.alloc m _, Inj.le_set k1 hn, ?_, ?_, s.size, ?_, ?_, ?_, fun c hc _ => s.old h g c hc, s.calm⟩
  · intro b k e e'
    by_cases hbm : b = m.next
    · omega
    · rw [Inj.set_ne _ _ hbm, e'] at e; cases e
  · have ha := h.after s g
    refine ⟨fun b k e => ?_, fun b o k ho' e => ?_, fun b b' k k' e e' hl hl' hc => ?_, fun gl hgl => ?_⟩
    · by_cases hbm : b = m.next
      · subst hbm; rw [Inj.set_eq] at e; cases e
        exact ⟨Nat.lt_succ_self _, (s.mr.lt b1 k1 hk).2⟩
      · rw [Inj.set_ne _ _ hbm] at e
        exact ⟨Nat.lt_succ_of_lt (h.lt b k e).1, (ha.lt b k e).2⟩
    · rw [AMem.get_alloc] at ho'
      by_cases hbm : b = m.next
      · subst hbm; rw [Inj.set_eq] at e; cases e
        rw [if_pos rfl] at ho'; cases ho'
        obtain ⟨o', h1, h2⟩ := s.mr.obj b1 _ k1 ho hk
        refine ⟨o', h1, ?_⟩
        cases o' with
        | cells c ty fz =>
          refine ⟨h2.1, fun i v hi => ?_⟩
          obtain ⟨v', h3, h4⟩ := h2.2 i v hi
          have hpv := List.all_eq_true.1 hp v (List.mem_of_getElem? hi)
          have := plain1_eq hpv h4
          subst this
          exact ⟨_, h3, .plain1 hpv⟩
        | _ => exact h2.elim
      · rw [if_neg hbm] at ho'
        rw [Inj.set_ne _ _ hbm] at e
        obtain ⟨o', h1, h2⟩ := ha.obj b o k ho' e
        exact ⟨o', h1, h2.mono (Inj.le_set k1 hn)⟩
    · have old : ∀ {b k}, j b = some k → (m.get b).isSome = true → k.c ≠ k1.c := fun {b k} e hl hc => by
        have hlt := (h.lt b k e).1
        have := s.mr.inj b b1 k k1 (s.le b k e) hk (by rw [g.same b hlt]; exact hl) (by rw [ho]; rfl) hc
        omega
      by_cases hbm : b = m.next
      · by_cases hbm' : b' = m.next
        · rw [hbm, hbm']
        · subst hbm; rw [Inj.set_eq] at e; cases e
          rw [Inj.set_ne _ _ hbm'] at e'
          rw [AMem.get_alloc, if_neg hbm'] at hl'
          exact absurd hc.symm (old e' hl')
      · by_cases hbm' : b' = m.next
        · subst hbm'; rw [Inj.set_eq] at e'; cases e'
          rw [Inj.set_ne _ _ hbm] at e
          rw [AMem.get_alloc, if_neg hbm] at hl
          exact absurd hc (old e hl)
        · rw [Inj.set_ne _ _ hbm] at e
          rw [Inj.set_ne _ _ hbm'] at e'
          rw [AMem.get_alloc, if_neg hbm] at hl
          rw [AMem.get_alloc, if_neg hbm'] at hl'
          exact h.inj b b' k k' e e' hl hl' hc
    · have := h.glob gl hgl
      have hlt := (h.lt gl _ this).1
      rw [Inj.set_ne _ _ (by omega)]; exact this
  · intro b hb1 hb2 _
    have : b = m.next := by simp at hb2; omega
    subst this; exact ⟨k1, Inj.set_eq _ _ _⟩
  · intro b hb _
    rw [AMem.get_alloc, if_neg (by omega)]
  · intro b k e e'
    by_cases hbm : b = m.next
    · subst hbm; rw [Inj.set_eq] at e; cases e
      exact .inl hfresh
    · rw [Inj.set_ne _ _ hbm, e'] at e; cases e

/-- A value that leads to one block. -/
def Leads (R : Nat → Value) : Prop := ∀ (j1 j2 : Inj) (b1 b2 : Nat) (k : Blk) (v' : Value), j1 b1 = some k → j2 b2 = some k → VR j1 (R b1) v' → VR j2 (R b2) v'
theorem Leads.slice (o len cap : Nat) : Leads fun b => .slice (some ⟨b, o, none⟩) len cap := by
  intro j1 j2 b1 b2 k v' h1 h2 h
  cases h with
  | slice e hm => rw [h1] at e; cases e; exact .slice h2 hm
  | sliceM e hm a1 a2 hl hc => rw [h1] at e; cases e; exact .sliceM h2 hm a1 a2 hl hc
theorem Leads.plain {v : Value} (h : plain1 v = true) : Leads fun _ => v := by
  intro j1 j2 b1 b2 k v' h1 h2 hv
  have := plain1_eq h hv
  subst this
  exact .plain1 h
theorem Leads.tuple2 {R S : Nat → Value} (hR : Leads R) (hS : Leads S) : Leads fun b => .tuple #[R b, S b] := by
  intro j1 j2 b1 b2 k v' h1 h2 h
  cases h with
  | tuple hs ha =>
    rename_i ys
    refine .tuple hs fun i a b => ?_
    have h0 : i = 0 ∨ i = 1 := by simp at a; omega
    rcases h0 with rfl | rfl
    · exact hR _ _ _ _ _ _ h1 h2 (ha 0 (by simp) b)
    · exact hS _ _ _ _ _ _ h1 h2 (ha 1 (by simp) b)

theorem VR.plainMove {j j' : Inj} {v v' : Value} (hp : Ab.plainV v = true) (h : VR j' v v') : VR j v v' := by
  unfold Ab.plainV at hp
  split at hp
  · cases h with
    | agg hs ha =>
      refine .agg hs fun i a b => ?_
      have hpi := List.all_eq_true.1 hp _ (List.getElem_mem (l := Array.toList _) (by simpa using a))
      simp only [Array.getElem_toList] at hpi
      have := plain1_eq hpi (ha i a b)
      rw [this]; exact .plain1 hpi
  · cases h with
    | tuple hs ha =>
      refine .tuple hs fun i a b => ?_
      have hpi := List.all_eq_true.1 hp _ (List.getElem_mem (l := Array.toList _) (by simpa using a))
      simp only [Array.getElem_toList] at hpi
      have := plain1_eq hpi (ha i a b)
      rw [this]; exact .plain1 hpi
  · have := plain1_eq hp h
    rw [this]; exact .plain1 hp

/-- What a contract promises: a call of the code comes to this value, this memory, but for what was made on the way. -/
def Meets (E : Env) (f : FuncId) (args : List Value) (m : AMem) (v : Value) (m' : AMem) : Prop :=
  CallA E f args { m with wl := m.next } fun v1 m1 => Grown m m1 ∧
    ((plainV v = true ∧ v1 = v ∧ m' = m) ∨ ∃ R b1 cs tag, Leads R ∧ v1 = R b1 ∧ v = R m.next ∧ m.next ≤ b1 ∧ b1 < m1.next ∧ m1.get b1 = some (.cells cs tag) ∧ cs.all plain1 = true ∧ m' = m.alloc (.cells cs tag))

theorem callOk_mono {P : Program} {pr pr' : Bool} {f : FuncId} {args : Array Value} {w : World} {R R' : Value → World → Prop} (hp : pr = true → pr' = true) (h : CallOk P pr f args w R) (hR : ∀ v w', R v w' → R' v w') : CallOk P pr' f args w R' := by
  rcases h with ⟨h1, h2⟩ | ⟨h1, v, w', h2, h3⟩
  · exact .inl ⟨h1, h2.mono fun e w' ⟨v, he, hv⟩ => ⟨v, he, hR v w' hv⟩⟩
  · exact .inr ⟨hp h1, v, w', h2, hR v w' h3⟩

theorem envOk_prims {E : Env} (hE : EnvOk E) {pr : FuncId → Option Prim} (h : ∀ f p, pr f = some p → ∀ args m v m', p.run args m = some (v, m') → Meets E f args m v m') : EnvOk { E with prim := pr } := by
  refine ⟨hE.call, hE.mixed, fun f p hp args m v m' hrun j w args' hm hl => ?_⟩
  obtain ⟨v1, m1, ⟨k, hr⟩, hg, hc⟩ := h f p hp args m v m' hrun
  obtain ⟨_, _, e, hs⟩ := sim_run hE k _ _ hr
  cases e
  have hm0 : MR E j m w := MR.env (E := { E with prim := pr }) (E' := E) rfl hm
  have hp' : ({ E with prim := pr } : Env).prim f = some p := hp
  refine callOk_mono (fun _ => by rw [hp']; rfl) (hs j w args' (MR.of_wl hm0) hl) ?_
  intro v' w' ⟨j', s, hv⟩
  rcases hc with ⟨hpv, rfl, rfl⟩ | ⟨R, b1, cs, tag, hR, rfl, rfl, hb, hb1, ho, hpl, rfl⟩
  · exact ⟨j, Sim.env (E := E) rfl (Sim.forget hm0 s hg), VR.plainMove hpv hv⟩
  · obtain ⟨k1, hk1⟩ := s.full b1 hb hb1 (by rw [ho]; rfl)
    exact ⟨_, Sim.env (E := E) rfl (Sim.born hm0 s hg hb hk1 ho hpl), hR _ _ _ _ _ _ hk1 (Inj.set_eq _ _ _) hv⟩
end
end Go.Ab
