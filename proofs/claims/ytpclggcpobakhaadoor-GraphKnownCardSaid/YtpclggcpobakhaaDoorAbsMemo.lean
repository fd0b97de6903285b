/-
  The abstract machine: a call that was evaluated once, in a small memory, is known wherever its arguments read the same.
-/
import Derived.Test.YtpclggcpobakhaaDoorAbsPrim
namespace Go.Ab
open Go

section
variable {E : Env} {j j1 : Inj} {m m1 : AMem} {w w1 : World}

/-- Nothing that lay was written; one new block is known. -/
theorem Sim.bornAt (h : MR E j m w) (hold : ∀ c, c < w.heap.size → w1.heap[c]? = w.heap[c]?) (hsize : w.heap.size ≤ w1.heap.size) (hcalm : w1.os = w.os ∧ w1.output = w.output) {k1 : Blk} (hfresh : w.heap.size ≤ k1.c) (hlt : k1.c < w1.heap.size) {cs : List Value} {tag : Tag} {o' : Obj} (ho : w1.heap[k1.c]? = some o') (hor : OR j1 k1 (.cells cs tag) o') (hp : cs.all plain1 = true) :
    Sim E j m w (j.set m.next k1) (m.alloc (.cells cs tag)) w1 := by
  have hn : j m.next = none := h.next_none
  have ha : MR E j m w1 := ⟨fun b k hb => ⟨(h.lt b k hb).1, Nat.lt_of_lt_of_le (h.lt b k hb).2 hsize⟩, fun b o k ho hb => by
    obtain ⟨o', h1, h2⟩ := h.obj b o k ho hb
    exact ⟨o', (hold k.c (h.lt b k hb).2).trans h1, h2⟩, h.inj, h.glob⟩
  refine ⟨.alloc m _, Inj.le_set k1 hn, ?_, ?_, hsize, ?_, ?_, ?_, fun c hc _ => hold c hc, hcalm⟩
  · intro b k e e'
    by_cases hbm : b = m.next
    · omega
    · rw [Inj.set_ne _ _ hbm, e'] at e; cases e
  · refine ⟨fun b k e => ?_, fun b o k ho' e => ?_, fun b b' k k' e e' hl hl' hc => ?_, fun gl hgl => ?_⟩
    · by_cases hbm : b = m.next
      · subst hbm; rw [Inj.set_eq] at e; cases e
        exact ⟨Nat.lt_succ_self _, hlt⟩
      · rw [Inj.set_ne _ _ hbm] at e
        exact ⟨Nat.lt_succ_of_lt (h.lt b k e).1, (ha.lt b k e).2⟩
    · rw [AMem.get_alloc] at ho'
      by_cases hbm : b = m.next
      · subst hbm; rw [Inj.set_eq] at e; cases e
        rw [if_pos rfl] at ho'; cases ho'
        refine ⟨o', ho, ?_⟩
        cases o' with
        | cells c ty fz =>
          refine ⟨hor.1, fun i v hi => ?_⟩
          obtain ⟨v', h3, h4⟩ := hor.2 i v hi
          have hpv := List.all_eq_true.1 hp v (List.mem_of_getElem? hi)
          have := plain1_eq hpv h4
          subst this
          exact ⟨_, h3, .plain1 hpv⟩
        | _ => exact hor.elim
      · rw [if_neg hbm] at ho'
        rw [Inj.set_ne _ _ hbm] at e
        obtain ⟨o', h1, h2⟩ := ha.obj b o k ho' e
        exact ⟨o', h1, h2.mono (Inj.le_set k1 hn)⟩
    · have old : ∀ {b k}, j b = some k → k.c ≠ k1.c := fun {b k} e hc => by
        have := (h.lt b k e).2
        omega
      by_cases hbm : b = m.next
      · by_cases hbm' : b' = m.next
        · rw [hbm, hbm']
        · subst hbm; rw [Inj.set_eq] at e; cases e
          rw [Inj.set_ne _ _ hbm'] at e'
          exact absurd hc.symm (old e')
      · by_cases hbm' : b' = m.next
        · subst hbm'; rw [Inj.set_eq] at e'; cases e'
          rw [Inj.set_ne _ _ hbm] at e
          exact absurd hc (old e)
        · rw [Inj.set_ne _ _ hbm] at e
          rw [Inj.set_ne _ _ hbm'] at e'
          rw [AMem.get_alloc, if_neg hbm] at hl
          rw [AMem.get_alloc, if_neg hbm'] at hl'
          exact h.inj b b' k k' e e' hl hl' hc
    · have := h.glob gl hgl
      have hlt := (h.lt gl _ this).1
      rw [Inj.set_ne _ _ (by omega)]; exact this
  · intro b hb1 hb2 _
    have : b = m.next := by simp at hb2; omega
    subst this; exact ⟨k1, Inj.set_eq _ _ _⟩
  · intro b hb _
    rw [AMem.get_alloc, if_neg (by omega)]
  · intro b k e e'
    by_cases hbm : b = m.next
    · subst hbm; rw [Inj.set_eq] at e; cases e
      exact .inl hfresh
    · rw [Inj.set_ne _ _ hbm, e'] at e; cases e

theorem Sim.same (h : MR E j m w) (hold : ∀ c, c < w.heap.size → w1.heap[c]? = w.heap[c]?) (hsize : w.heap.size ≤ w1.heap.size) (hcalm : w1.os = w.os ∧ w1.output = w.output) : Sim E j m w j m w1 where
  ext := .refl m
  le := .refl j
  new := fun b k h h' => by simp [h'] at h
  mr := ⟨fun b k hb => ⟨(h.lt b k hb).1, Nat.lt_of_lt_of_le (h.lt b k hb).2 hsize⟩, fun b o k ho hb => by
    obtain ⟨o', h1, h2⟩ := h.obj b o k ho hb
    exact ⟨o', (hold k.c (h.lt b k hb).2).trans h1, h2⟩, h.inj, h.glob⟩
  size := hsize
  full := fun b h h' _ => absurd h (by omega)
  away := fun _ _ _ => rfl
  fresh := fun b k h h' => by simp [h'] at h
  frame := fun c hc _ => hold c hc
  calm := hcalm

/-! ### The small memory: the program's variables, and one block of plain cells -/
def memo0 (g : Nat) (gs : Nat → Option (List Value)) (cs : List Value) (tag : Tag) : AMem := { next := g + 1, wl := g + 1, objs := .nil, base := fun b => if b = g then some (.cells cs tag) else (gs b).map fun cs => .cells cs .ro }
theorem memo0_get (g : Nat) (gs : Nat → Option (List Value)) (cs : List Value) (tag : Tag) (b : Nat) : (memo0 g gs cs tag).get b = if b = g then some (.cells cs tag) else (gs b).map fun cs => .cells cs .ro := by
  simp [AMem.get, memo0, Heap.get_nil]
def injMemo (j : Inj) (g b : Nat) : Inj := fun x => if x = g then j b else if x < g then j x else none

theorem MR.memo {gs : Nat → Option (List Value)} {cs : List Value} {tag : Tag} {b : Nat} (h : MR E j m w) (hb : E.glob ≤ b) (hm : m.get b = some (.cells cs tag)) (hp : cs.all plain1 = true) (hgs : ∀ x c, x < E.glob → gs x = some c → m.get x = some (.cells c .ro)) (hgp : ∀ x c, gs x = some c → c.all plain1 = true) : MR E (injMemo j E.glob b) (memo0 E.glob gs cs tag) w := by
  have cases1 : ∀ x k, injMemo j E.glob b x = some k → (x = E.glob ∧ j b = some k) ∨ (x < E.glob ∧ j x = some k) := by
    intro x k hx
    unfold injMemo at hx
    split at hx
    · rename_i e; exact .inl ⟨e, hx⟩
    · split at hx
      · rename_i hlt; exact .inr ⟨hlt, hx⟩
      · cases hx
  refine ⟨fun x k hx => ?_, fun x o k ho hx => ?_, fun x x' k k' hx hx' hl hl' hc => ?_, fun gl hgl => ?_⟩
  · rcases cases1 x k hx with ⟨rfl, hj⟩ | ⟨hlt, hj⟩
    · exact ⟨Nat.lt_succ_self _, (h.lt b k hj).2⟩
    · exact ⟨Nat.lt_succ_of_lt hlt, (h.lt x k hj).2⟩
  · rw [memo0_get] at ho
    rcases cases1 x k hx with ⟨rfl, hj⟩ | ⟨hlt, hj⟩
    · rw [if_pos rfl] at ho; cases ho
      obtain ⟨o', h1, h2⟩ := h.obj b _ k hm hj
      refine ⟨o', h1, ?_⟩
      cases o' with
      | cells c ty fz =>
        refine ⟨h2.1, fun i v hi => ?_⟩
        obtain ⟨v', h3, h4⟩ := h2.2 i v hi
        have hpv := List.all_eq_true.1 hp v (List.mem_of_getElem? hi)
        have := plain1_eq hpv h4
        subst this
        exact ⟨_, h3, .plain1 hpv⟩
      | _ => exact h2.elim
    · rw [if_neg (by omega)] at ho
      cases hg : gs x with
      | none => rw [hg] at ho; cases ho
      | some c =>
        rw [hg] at ho; cases ho
        have hgx := hgs x c hlt hg
        obtain ⟨o', h1, h2⟩ := h.obj x _ k hgx hj
        refine ⟨o', h1, ?_⟩
        cases o' with
        | cells c' ty fz =>
          refine ⟨h2.1, fun i v hi => ?_⟩
          obtain ⟨v', h3, h4⟩ := h2.2 i v hi
          have hpv := List.all_eq_true.1 (hgp x c hg) v (List.mem_of_getElem? hi)
          have := plain1_eq hpv h4
          subst this
          exact ⟨_, h3, .plain1 hpv⟩
        | _ => exact h2.elim
  · have live : ∀ y, y < E.glob → ((memo0 E.glob gs cs tag).get y).isSome = true → (m.get y).isSome = true := by
      intro y hy hl
      rw [memo0_get, if_neg (by omega)] at hl
      cases hg : gs y with
      | none => rw [hg] at hl; cases hl
      | some c => rw [hgs y c hy hg]; rfl
    have hbl : (m.get b).isSome = true := by rw [hm]; rfl
    rcases cases1 x k hx with ⟨rfl, hj⟩ | ⟨hlt, hj⟩ <;> rcases cases1 x' k' hx' with ⟨rfl, hj'⟩ | ⟨hlt', hj'⟩
    · rfl
    · have := h.inj b x' k k' hj hj' hbl (live x' hlt' hl') hc
      omega
    · have := h.inj x b k k' hj hj' (live x hlt hl) hbl hc
      omega
    · exact h.inj x x' k k' hj hj' (live x hlt hl) (live x' hlt' hl') hc
  · unfold injMemo
    rw [if_neg (by omega), if_pos hgl]
    exact h.glob gl hgl

/-- A value that leads to one block, wherever that lies. -/
def Leads2 (R : Nat → Value) : Prop := ∀ (j1 j2 : Inj) (b1 b2 : Nat) (v' : Value), (∀ k, j1 b1 = some k → j2 b2 = some k) → VR j1 (R b1) v' → VR j2 (R b2) v'
def Leads2L (A : Nat → List Value) : Prop := ∀ (j1 j2 : Inj) (b1 b2 : Nat) (l' : List Value), (∀ k, j1 b1 = some k → j2 b2 = some k) → LR j1 (A b1) l' → LR j2 (A b2) l'
theorem Leads2.slice (o len cap : Nat) : Leads2 fun b => .slice (some ⟨b, o, none⟩) len cap := by
  intro j1 j2 b1 b2 v' hk h
  cases h with
  | slice e hm => exact .slice (hk _ e) hm
  | sliceM e hm a1 a2 hl hc => exact .sliceM (hk _ e) hm a1 a2 hl hc
theorem Leads2.plain {v : Value} (h : plain1 v = true) : Leads2 fun _ => v := by
  intro j1 j2 b1 b2 v' _ hv
  have := plain1_eq h hv
  subst this
  exact .plain1 h
theorem Leads2.tuple2 {R S : Nat → Value} (hR : Leads2 R) (hS : Leads2 S) : Leads2 fun b => .tuple #[R b, S b] := by
  intro j1 j2 b1 b2 v' hk h
  cases h with
  | tuple hs ha =>
    refine .tuple hs fun i a b => ?_
    have h0 : i = 0 ∨ i = 1 := by simp at a; omega
    rcases h0 with rfl | rfl
    · exact hR _ _ _ _ _ hk (ha 0 (by simp) b)
    · exact hS _ _ _ _ _ hk (ha 1 (by simp) b)
theorem Leads2.agg2 {R S : Nat → Value} (hR : Leads2 R) (hS : Leads2 S) : Leads2 fun b => .agg #[R b, S b] := by
  intro j1 j2 b1 b2 v' hk h
  cases h with
  | agg hs ha =>
    refine .agg hs fun i a b => ?_
    have h0 : i = 0 ∨ i = 1 := by simp at a; omega
    rcases h0 with rfl | rfl
    · exact hR _ _ _ _ _ hk (ha 0 (by simp) b)
    · exact hS _ _ _ _ _ hk (ha 1 (by simp) b)
theorem Leads2L.nil : Leads2L fun _ => [] := fun _ _ _ _ _ _ h => by rw [h.nil_inv]; exact .nil _
theorem Leads2L.cons {R : Nat → Value} {A : Nat → List Value} (hR : Leads2 R) (hA : Leads2L A) : Leads2L fun b => R b :: A b := by
  intro j1 j2 b1 b2 l' hk h
  obtain ⟨y, ys, rfl, h1, h2⟩ := h.cons_inv
  exact .cons (hR _ _ _ _ _ hk h1) (hA _ _ _ _ _ hk h2)

/-- What a call that was evaluated comes to, wherever its arguments read the same. -/
theorem memo_callOk (hE : EnvOk E) {f : FuncId} {A : Nat → List Value} (hA : Leads2L A) {gs : Nat → Option (List Value)} {cs : List Value} {tag : Tag} (hp : cs.all plain1 = true) (hgp : ∀ x c, gs x = some c → c.all plain1 = true) {fuel : Nat} {v0 : Value} {m0 : AMem}
    (hrun : run E fuel (.call f (A E.glob) (memo0 E.glob gs cs tag)) = some (.val v0 m0)) (hwl : E.glob + 1 ≤ m0.wl) {b : Nat} {args' : List Value} (h : MR E j m w) (hb : E.glob ≤ b) (hm : m.get b = some (.cells cs tag)) (hgs : ∀ x c, x < E.glob → gs x = some c → m.get x = some (.cells c .ro)) (hl : LR j (A b) args') {v : Value} {m' : AMem}
    (hv : (plainV v0 = true ∧ v = v0 ∧ m' = m) ∨ ∃ R b1 cs1 tag1, Leads2 R ∧ v0 = R b1 ∧ v = R m.next ∧ E.glob + 1 ≤ b1 ∧ b1 < m0.next ∧ m0.get b1 = some (.cells cs1 tag1) ∧ cs1.all plain1 = true ∧ m' = m.alloc (.cells cs1 tag1)) :
    CallOk E.P (E.prim f).isSome f args'.toArray w (ValQ E j m w v m') := by
  have hm0 := h.memo hb hm hp hgs hgp
  have hl0 : LR (injMemo j E.glob b) (A E.glob) args' := hA j _ b E.glob args' (fun k hk => by unfold injMemo; rw [if_pos rfl]; exact hk) hl
  obtain ⟨_, _, e, hs⟩ := sim_run hE fuel _ _ hrun
  cases e
  refine callOk_mono (fun x => x) (hs _ w args' hm0 hl0) ?_
  intro v' w' ⟨j', s, hv'⟩
  have hold : ∀ c, c < w.heap.size → w'.heap[c]? = w.heap[c]? := fun c hc => s.frame c hc fun x k hx _ _ => by
    have : x < E.glob + 1 := (hm0.lt x k hx).1
    omega
  rcases hv with ⟨hpv, rfl, rfl⟩ | ⟨R, b1, cs1, tag1, hR, rfl, rfl, hb1, hb2, ho, hpl, rfl⟩
  · exact ⟨j, .same h hold s.size s.calm, VR.plainMove hpv hv'⟩
  · obtain ⟨k1, hk1⟩ := s.full b1 hb1 hb2 (by rw [ho]; rfl)
    have hj1 : injMemo j E.glob b b1 = none := by unfold injMemo; rw [if_neg (by omega), if_neg (by omega)]
    have hfresh : w.heap.size ≤ k1.c := by
      rcases s.fresh b1 k1 hk1 hj1 with hf | ⟨b0, k0, a1, _, _, a4⟩
      · exact hf
      · have : b0 < E.glob + 1 := (hm0.lt b0 k0 a1).1
        omega
    obtain ⟨o', h1, h2⟩ := s.mr.obj b1 _ k1 ho hk1
    exact ⟨_, .bornAt h hold s.size s.calm hfresh (s.mr.lt b1 k1 hk1).2 h1 h2 hpl, hR _ _ _ _ _ (fun k hk => by rw [hk1] at hk; cases hk; exact Inj.set_eq _ _ _) hv'⟩

/-- More contracts. -/
theorem envOk_more (hE : EnvOk E) {pr : FuncId → Option Prim} (h : ∀ f p, pr f = some p → E.prim f = some p ∨ ∀ args m v m', p.run args m = some (v, m') → ∀ (j : Inj) (w : World) (args' : List Value), MR E j m w → LR j args args' → CallOk E.P (E.prim f).isSome f args'.toArray w (ValQ E j m w v m')) : EnvOk { E with prim := pr } := by
  refine ⟨hE.call, hE.mixed, fun f p hp args m v m' hrun j w args' hm hl => ?_⟩
  have hp' : ({ E with prim := pr } : Env).prim f = some p := hp
  have hm0 : MR E j m w := MR.env (E := { E with prim := pr }) (E' := E) rfl hm
  have key : ∀ v' w', ValQ E j m w v m' v' w' → ValQ { E with prim := pr } j m w v m' v' w' := fun v' w' ⟨j', s, hv⟩ => ⟨j', Sim.env (E := E) rfl s, hv⟩
  rcases h f p hp with h1 | h1
  · exact callOk_mono (fun _ => by rw [hp']; rfl) (hE.prim f p h1 args m v m' hrun j w args' hm0 hl) key
  · exact callOk_mono (fun _ => by rw [hp']; rfl) (h1 args m v m' hrun j w args' hm0 hl) key
end
end Go.Ab
