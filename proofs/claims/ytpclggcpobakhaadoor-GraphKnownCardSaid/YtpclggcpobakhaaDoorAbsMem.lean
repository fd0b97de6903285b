/-
  The abstract machine and the model: reading, writing and making memory.
-/
import Derived.Test.YtpclggcpobakhaaDoorAbsRel
import Derived.Laws.Cells
namespace Go.Ab
open Go

def Inj.set (j : Inj) (b : Nat) (k : Blk) : Inj := fun x => if x = b then some k else j x
theorem Inj.set_eq (j : Inj) (b : Nat) (k : Blk) : j.set b k b = some k := by simp [Inj.set]
theorem Inj.set_ne (j : Inj) {b x : Nat} (k : Blk) (h : x ≠ b) : j.set b k x = j x := by simp [Inj.set, h]
theorem Inj.le_set {j : Inj} {b : Nat} (k : Blk) (h : j b = none) : j.le (j.set b k) := fun x k' hx => by
  by_cases e : x = b
  · subst e; rw [h] at hx; cases hx
  · rw [Inj.set_ne _ _ e]; exact hx

/-! ### The abstract memory's laws -/
theorem AMem.get_alloc (m : AMem) (o : AObj) (b : Nat) : (m.alloc o).get b = if b = m.next then some o else m.get b := by
  unfold AMem.alloc AMem.get
  simp only [Heap.get_set]
  by_cases h : b = m.next <;> simp [h]
theorem AMem.get_set (m : AMem) (b x : Nat) (o : AObj) : (m.set b o).get x = if x = b then some o else m.get x := by
  unfold AMem.set AMem.get
  simp only [Heap.get_set]
  by_cases h : x = b <;> simp [h]
theorem AMem.get_kill (m : AMem) (b x : Nat) : (m.kill b).get x = if x = b then none else m.get x := by
  unfold AMem.kill AMem.get
  simp only [Heap.get_set]
  by_cases h : x = b <;> simp [h]
@[simp] theorem AMem.next_alloc (m : AMem) (o : AObj) : (m.alloc o).next = m.next + 1 := rfl
@[simp] theorem AMem.next_set (m : AMem) (b : Nat) (o : AObj) : (m.set b o).next = m.next := rfl
@[simp] theorem AMem.next_kill (m : AMem) (b : Nat) : (m.kill b).next = m.next := rfl
@[simp] theorem AMem.wl_alloc (m : AMem) (o : AObj) : (m.alloc o).wl = m.wl := rfl
@[simp] theorem AMem.wl_set (m : AMem) (b : Nat) (o : AObj) : (m.set b o).wl = min m.wl b := rfl
@[simp] theorem AMem.wl_kill (m : AMem) (b : Nat) : (m.kill b).wl = min m.wl b := rfl

theorem AExt.alloc (m : AMem) (o : AObj) : AExt m (m.alloc o) :=
  ⟨Nat.le_succ _, Nat.le_refl _, fun b h _ => by rw [AMem.get_alloc, if_neg (by omega)], fun b h hn => by rw [AMem.get_alloc, if_neg (by omega)]; exact hn⟩
theorem AExt.set {m : AMem} {b : Nat} (o : AObj) (hb : (m.get b).isSome = true) : AExt m (m.set b o) :=
  ⟨Nat.le_refl _, Nat.min_le_left _ _, fun x _ h => by
    rw [AMem.get_set, if_neg]; intro e; subst e; simp at h; omega,
   fun x _ hn => by
    rw [AMem.get_set, if_neg]
    · exact hn
    · intro e; subst e; rw [hn] at hb; cases hb⟩
theorem AExt.kill (m : AMem) (b : Nat) : AExt m (m.kill b) :=
  ⟨Nat.le_refl _, Nat.min_le_left _ _, fun x _ h => by
    rw [AMem.get_kill, if_neg]; intro e; subst e; simp at h; omega,
   fun x _ hn => by rw [AMem.get_kill]; split <;> first | rfl | exact hn⟩

theorem full_new {j : Inj} {n : Nat} {k : Blk} {m' : AMem} : ∀ b, n ≤ b → b < n + 1 → (m'.get b).isSome = true → ∃ k', j.set n k b = some k' := fun b h1 h2 _ => by
  have : b = n := by omega
  subst this
  exact ⟨k, Inj.set_eq _ _ _⟩

section
variable {E : Env} {j : Inj} {m : AMem} {w : World}

theorem MR.next_none (h : MR E j m w) : j m.next = none := by
  cases e : j m.next with
  | none => rfl
  | some k => exact absurd (h.lt _ _ e).1 (Nat.lt_irrefl _)

theorem MR.of_heap {w' : World} (h : MR E j m w) (e : w'.heap = w.heap) : MR E j m w' :=
  ⟨by rw [e]; exact h.lt, by rw [e]; exact h.obj, h.inj, h.glob⟩
theorem Sim.of_heap {w' : World} (h : MR E j m w) (e : w'.heap = w.heap) (e2 : w'.os = w.os ∧ w'.output = w.output := by exact ⟨rfl, rfl⟩) : Sim E j m w j m w' :=
  { Sim.refl h with mr := h.of_heap e, size := by rw [e]; exact Nat.le_refl _, frame := fun c _ _ => by rw [e], calm := e2 }
/-- The watermark does not matter to the two memories. -/
theorem MR.of_wl {x : Nat} (h : MR E j m w) : MR E j { m with wl := x } w := ⟨h.lt, h.obj, h.inj, h.glob⟩

/-! ### A new block -/
theorem sim_alloc (h : MR E j m w) {ao : AObj} {co : Obj} {mo : Option (Nat × Nat × Nat)} (ho : OR j ⟨w.heap.size, mo⟩ ao co) :
    Sim E j m w (j.set m.next ⟨w.heap.size, mo⟩) (m.alloc ao) (w.alloc co) := by
  have hle : j.le (j.set m.next ⟨w.heap.size, mo⟩) := Inj.le_set _ h.next_none
  have hlt : ∀ b k, j b = some k → b ≠ m.next := fun b k e => Nat.ne_of_lt (h.lt b k e).1
  refine ⟨.alloc m ao, hle, ?_, ⟨?_, ?_, ?_, ?_⟩, by simp, full_new, ?_, ?_, ?_, ⟨rfl, rfl⟩⟩
  · intro b k hb hn
    by_cases e : b = m.next
    · exact Nat.le_of_eq e.symm
    · rw [Inj.set_ne _ _ e, hn] at hb; cases hb
  · intro b k hb
    by_cases e : b = m.next
    · subst e; rw [Inj.set_eq] at hb; cases hb; simp
    · rw [Inj.set_ne _ _ e] at hb
      have := h.lt b k hb
      simp; omega
  · intro b o k hg hb
    by_cases e : b = m.next
    · subst e
      rw [Inj.set_eq] at hb; cases hb
      rw [AMem.get_alloc, if_pos rfl] at hg; cases hg
      exact ⟨co, World.alloc_heap_new w co, ho.mono hle⟩
    · rw [Inj.set_ne _ _ e] at hb
      rw [AMem.get_alloc, if_neg e] at hg
      obtain ⟨o', h1, h2⟩ := h.obj b o k hg hb
      refine ⟨o', ?_, h2.mono hle⟩
      have hk := (h.lt b k hb).2
      show (w.heap.push co)[k.c]? = some o'
      rw [Array.getElem?_push, if_neg (by omega)]; exact h1
  · intro b b' k k' hb hb' hl hl' hc
    by_cases e : b = m.next <;> by_cases e' : b' = m.next
    · rw [e, e']
    · subst e
      rw [Inj.set_eq] at hb; cases hb
      rw [Inj.set_ne _ _ e'] at hb'
      exact absurd (h.lt b' k' hb').2 (by simp at hc; omega)
    · subst e'
      rw [Inj.set_eq] at hb'; cases hb'
      rw [Inj.set_ne _ _ e] at hb
      exact absurd (h.lt b k hb).2 (by simp at hc; omega)
    · rw [Inj.set_ne _ _ e] at hb
      rw [Inj.set_ne _ _ e'] at hb'
      rw [AMem.get_alloc, if_neg e] at hl
      rw [AMem.get_alloc, if_neg e'] at hl'
      exact h.inj b b' k k' hb hb' hl hl' hc
  · intro g hg; exact hle _ _ (h.glob g hg)
  · intro b hb _; rw [AMem.get_alloc, if_neg (by omega)]
  · intro b k hb hn
    by_cases e : b = m.next
    · subst e; rw [Inj.set_eq] at hb; cases hb; exact .inl (Nat.le_refl _)
    · rw [Inj.set_ne _ _ e, hn] at hb; cases hb
  · intro c hc _
    show (w.heap.push co)[c]? = w.heap[c]?
    rw [Array.getElem?_push, if_neg (by omega)]

/-! ### A block is written -/
theorem sim_put (h : MR E j m w) {b : Nat} {k : Blk} (hk : j b = some k) (hl : (m.get b).isSome = true) {ao : AObj} {co : Obj} (ho : OR j k ao co) :
    Sim E j m w j (m.set b ao) (w.putObj k.c co) := by
  refine ⟨.set ao hl, .refl j, fun x k' e e' => by simp [e'] at e, ⟨?_, ?_, ?_, h.glob⟩, by simp, fun b h1 h2 _ => absurd h1 (by simp at h2; omega), ?_, fun x k' e e' => by simp [e'] at e, ?_, ⟨rfl, rfl⟩⟩
  · intro x k' e; simpa using h.lt x k' e
  · intro x o k' hg e
    by_cases hx : x = b
    · subst hx
      rw [hk] at e; cases e
      rw [AMem.get_set, if_pos rfl] at hg; cases hg
      exact ⟨co, World.putObj_heap_same (h.lt x k hk).2, ho⟩
    · rw [AMem.get_set, if_neg hx] at hg
      obtain ⟨o', h1, h2⟩ := h.obj x o k' hg e
      refine ⟨o', ?_, h2⟩
      rw [World.putObj_heap_other]
      · exact h1
      · intro hc
        exact hx (h.inj x b k' k e hk (by rw [hg]; rfl) hl hc)
  · intro x x' k1 k2 e e' hl1 hl2 hc
    refine h.inj x x' k1 k2 e e' ?_ ?_ hc
    · rw [AMem.get_set] at hl1; split at hl1
      · rename_i hx; subst hx; exact hl
      · exact hl1
    · rw [AMem.get_set] at hl2; split at hl2
      · rename_i hx; subst hx; exact hl
      · exact hl2
  · intro x hx hn
    rw [AMem.get_set, if_neg]; intro e; subst e; rw [hk] at hn; cases hn
  · intro c hc H
    apply World.putObj_heap_other
    intro e
    have := H b k hk hl e.symm
    simp at this; omega

/-! ### A block is given up -/
theorem sim_kill (h : MR E j m w) {b : Nat} {k0 : Blk} (hk0 : j b = some k0) : Sim E j m w j (m.kill b) w := by
  refine ⟨.kill m b, .refl j, fun x k' e e' => by simp [e'] at e, ⟨h.lt, ?_, ?_, h.glob⟩, Nat.le_refl _, fun b h1 h2 _ => absurd h1 (by simp at h2; omega), ?_, fun x k' e e' => by simp [e'] at e, fun _ _ _ => rfl, ⟨rfl, rfl⟩⟩
  · intro x o k hg e
    rw [AMem.get_kill] at hg
    split at hg
    · cases hg
    · exact h.obj x o k hg e
  · intro x x' k k' e e' hl hl' hc
    rw [AMem.get_kill] at hl hl'
    split at hl
    · cases hl
    · split at hl'
      · cases hl'
      · exact h.inj x x' k k' e e' hl hl' hc
  · intro x hx hn
    rw [AMem.get_kill, if_neg]
    intro e; subst e; rw [hk0] at hn; cases hn

/-! ### A block is given up, and its place taken by a new one -/
theorem sim_regrow (h : MR E j m w) {b : Nat} {k : Blk} (hk : j b = some k) (hl : (m.get b).isSome = true) {ao : AObj} {co : Obj} {mo : Option (Nat × Nat × Nat)} (ho : OR j ⟨k.c, mo⟩ ao co) :
    Sim E j m w (j.set m.next ⟨k.c, mo⟩) ((m.kill b).alloc ao) (w.putObj k.c co) := by
  have hle : j.le (j.set m.next ⟨k.c, mo⟩) := Inj.le_set _ h.next_none
  have hbn : b < m.next := (h.lt b k hk).1
  have hkc : k.c < w.heap.size := (h.lt b k hk).2
  have hget : ∀ x, ((m.kill b).alloc ao).get x = if x = m.next then some ao else if x = b then none else m.get x := by
    intro x; rw [AMem.get_alloc, AMem.get_kill]; rfl
  refine ⟨(AExt.kill m b).trans (AExt.alloc _ ao), hle, ?_, ⟨?_, ?_, ?_, fun g hg => hle _ _ (h.glob g hg)⟩, by simp, full_new, ?_, ?_, ?_, ⟨rfl, rfl⟩⟩
  · intro x k' hx hn
    by_cases e : x = m.next
    · exact Nat.le_of_eq e.symm
    · rw [Inj.set_ne _ _ e, hn] at hx; cases hx
  · intro x k' hx
    by_cases e : x = m.next
    · subst e; rw [Inj.set_eq] at hx; cases hx; simp; exact hkc
    · rw [Inj.set_ne _ _ e] at hx
      have := h.lt x k' hx
      simp; omega
  · intro x o k' hg hx
    rw [hget] at hg
    by_cases e : x = m.next
    · subst e
      rw [Inj.set_eq] at hx; cases hx
      rw [if_pos rfl] at hg; cases hg
      exact ⟨co, World.putObj_heap_same hkc, ho.mono hle⟩
    · rw [Inj.set_ne _ _ e] at hx
      rw [if_neg e] at hg
      split at hg
      · cases hg
      · rename_i hxb
        obtain ⟨o', h1, h2⟩ := h.obj x o k' hg hx
        refine ⟨o', ?_, h2.mono hle⟩
        rw [World.putObj_heap_other]
        · exact h1
        · intro hc
          exact hxb (h.inj x b k' k hx hk (by rw [hg]; rfl) hl hc)
  · intro x x' k1 k2 hx hx' hl1 hl2 hc
    rw [hget] at hl1 hl2
    by_cases e : x = m.next <;> by_cases e' : x' = m.next
    · rw [e, e']
    · subst e
      rw [Inj.set_eq] at hx; cases hx
      rw [Inj.set_ne _ _ e'] at hx'
      rw [if_neg e'] at hl2
      split at hl2
      · cases hl2
      · rename_i hxb
        exact absurd (h.inj x' b k2 k hx' hk hl2 hl hc.symm) hxb
    · subst e'
      rw [Inj.set_eq] at hx'; cases hx'
      rw [Inj.set_ne _ _ e] at hx
      rw [if_neg e] at hl1
      split at hl1
      · cases hl1
      · rename_i hxb
        exact absurd (h.inj x b k1 k hx hk hl1 hl hc) hxb
    · rw [Inj.set_ne _ _ e] at hx
      rw [Inj.set_ne _ _ e'] at hx'
      rw [if_neg e] at hl1
      rw [if_neg e'] at hl2
      split at hl1
      · cases hl1
      · split at hl2
        · cases hl2
        · exact h.inj x x' k1 k2 hx hx' hl1 hl2 hc
  · intro x hx hn
    rw [hget, if_neg (by omega), if_neg]
    intro e; subst e; rw [hk] at hn; cases hn
  · intro x k' hx hn
    by_cases e : x = m.next
    · subst e; rw [Inj.set_eq] at hx; cases hx
      exact .inr ⟨b, k, hk, hl, rfl, by simp; omega⟩
    · rw [Inj.set_ne _ _ e, hn] at hx; cases hx
  · intro c hc H
    apply World.putObj_heap_other
    intro e
    have := H b k hk hl e.symm
    simp at this; omega

/-! ### Reading -/
theorem MR.cellsAt (h : MR E j m w) {b : Nat} {k : Blk} (hk : j b = some k) {cs : List Value} {tag : Tag} (hg : m.get b = some (.cells cs tag)) :
    ∃ c e fz, w.heap[k.c]? = some (.cells c e fz) ∧ tagOk k tag cs.length c.size fz ∧ ∀ (i : Nat) (v : Value), cs[i]? = some v → ∃ v', c[i]? = some v' ∧ VR j v v' := by
  obtain ⟨o', h1, h2⟩ := h.obj b _ k hg hk
  cases o' with
  | cells c e fz => exact ⟨c, e, fz, h1, h2.1, h2.2⟩
  | _ => exact h2.elim

theorem MR.cell (h : MR E j m w) {b : Nat} {k : Blk} (hk : j b = some k) {cs : List Value} {tag : Tag} (hg : m.get b = some (.cells cs tag)) {o : Nat} {v : Value} (hv : cs[o]? = some v) :
    ∃ v', w.cell? ⟨k.c, o, none⟩ = some v' ∧ VR j v v' := by
  obtain ⟨c, e, fz, h1, _, h3⟩ := h.cellsAt hk hg
  obtain ⟨v', h4, h5⟩ := h3 o v hv
  exact ⟨v', by simp [World.cell?, h1, h4], h5⟩

theorem add_none (c o i : Nat) : (⟨c, o, none⟩ : Addr).add i = ⟨c, o + i, none⟩ := by
  unfold Addr.add
  split
  · rename_i e; subst e; rfl
  · rfl

theorem loadN_some {b o n : Nat} {vs : List Value} (hm : m.loadN b o n = some vs) : ∃ cs tag, m.get b = some (.cells cs tag) ∧ vs = (cs.drop o).take n ∧ vs.length = n := by
  unfold AMem.loadN at hm
  split at hm
  · rename_i cs tag hg
    simp only at hm
    split at hm
    · rename_i hl
      cases hm
      exact ⟨cs, tag, hg, rfl, hl⟩
    · cases hm
  · cases hm

theorem MR.loadN (h : MR E j m w) {b : Nat} {k : Blk} (hk : j b = some k) {o n : Nat} {vs : List Value} (hm : m.loadN b o n = some vs) :
    ∃ vs', (∀ w0 : World, w0.heap = w.heap → (loadCells ⟨k.c, o, none⟩ n).run E.P w0 = .ok vs'.toArray w0) ∧ LR j vs vs' := by
  obtain ⟨cs, tag, hg, rfl, hl⟩ := loadN_some hm
  obtain ⟨c, e, fz, h1, _, h3⟩ := h.cellsAt hk hg
  have hcell : ∀ i, i < n → ∃ v v', cs[o + i]? = some v ∧ c[o + i]? = some v' ∧ VR j v v' := by
    intro i hi
    have : o + i < cs.length := by simp at hl; omega
    obtain ⟨v', a, b⟩ := h3 (o + i) _ (List.getElem?_eq_getElem this)
    exact ⟨_, v', List.getElem?_eq_getElem this, a, b⟩
  refine ⟨(List.range n).map fun i => c.getD (o + i) undef, fun w0 hw0 => run_loadCells w0 _ n _ ?_, ?_⟩
  · intro i hi
    obtain ⟨v, v', _, a, _⟩ := hcell i hi
    rw [add_none]
    simp [World.cell?, hw0, h1, a]
  · refine ⟨by simp; simpa using hl, fun i v hi => ?_⟩
    rw [List.getElem?_take] at hi
    split at hi
    · rename_i hlt
      rw [List.getElem?_drop] at hi
      obtain ⟨v1, v', a, b, r⟩ := hcell i hlt
      rw [hi] at a; cases a
      refine ⟨v', ?_, r⟩
      simp [hlt, b]
    · cases hi

/-! ### Writing -/
theorem spliceL_nil (cs : List Value) (o : Nat) : spliceL cs o [] = cs := by
  induction cs generalizing o with
  | nil => cases o <;> rfl
  | cons c cs ih => cases o <;> simp [spliceL, ih]
theorem length_spliceL : ∀ (cs : List Value) (o : Nat) (vs : List Value), (spliceL cs o vs).length = cs.length
  | [], 0, [] => rfl
  | [], 0, _ :: _ => rfl
  | [], _ + 1, _ => rfl
  | _ :: _, 0, [] => rfl
  | _ :: cs, 0, _ :: vs => by simp [spliceL, length_spliceL cs 0 vs]
  | _ :: cs, o + 1, vs => by simp [spliceL, length_spliceL cs o vs]
theorem getElem?_spliceL : ∀ (cs : List Value) (o : Nat) (vs : List Value) (i : Nat), (spliceL cs o vs)[i]? = if o ≤ i ∧ i < o + vs.length ∧ i < cs.length then vs[i - o]? else cs[i]?
  | [], 0, [], i => by simp [spliceL]
  | [], 0, _ :: _, i => by simp [spliceL]
  | [], _ + 1, _, i => by simp [spliceL]
  | c :: cs, 0, [], i => by simp [spliceL]
  | c :: cs, 0, v :: vs, 0 => by simp [spliceL]
  | c :: cs, 0, v :: vs, i + 1 => by
    have := getElem?_spliceL cs 0 vs i
    simp only [spliceL, List.getElem?_cons_succ, this, List.length_cons, Nat.zero_le, true_and, Nat.zero_add, Nat.sub_zero, Nat.add_lt_add_iff_right]
  | c :: cs, o + 1, vs, 0 => by simp [spliceL]
  | c :: cs, o + 1, vs, i + 1 => by
    have := getElem?_spliceL cs o vs i
    simp only [spliceL, List.getElem?_cons_succ, this, List.length_cons, Nat.add_le_add_iff_right, Nat.add_lt_add_iff_right, Nat.add_sub_add_right, Nat.add_right_comm o 1 vs.length]

theorem spliceL_cons_set : ∀ (cs : List Value) (o : Nat) (v : Value) (vs : List Value), o < cs.length → spliceL cs o (v :: vs) = spliceL (cs.set o v) (o + 1) vs
  | [], _, _, _, h => by simp at h
  | c :: cs, 0, v, vs, _ => by simp [spliceL]
  | c :: cs, o + 1, v, vs, h => by simp [spliceL, spliceL_cons_set cs o v vs (by simpa using h)]

theorem setCell_putObj {w : World} {B o : Nat} {c : Array Value} {e : TypeId} {fz : Nat × Nat} (h : w.heap[B]? = some (.cells c e fz)) (v : Value) :
    w.setCell ⟨B, o, none⟩ v = w.putObj B (.cells (c.setIfInBounds o v) e fz) := by
  unfold World.setCell World.putObj
  congr 1
  apply Array.ext_getElem?
  intro i
  rw [Array.getElem?_modify, Array.getElem?_setIfInBounds]
  by_cases hi : B = i
  · subst hi
    obtain ⟨hlt, hv⟩ := Array.getElem?_eq_some_iff.1 h
    simp [hlt, hv]
  · simp [hi]
theorem putObj_putObj {w : World} {B : Nat} {o o' : Obj} : (w.putObj B o).putObj B o' = w.putObj B o' := by
  unfold World.putObj
  simp
theorem putObj_self {w : World} {B : Nat} {o : Obj} (h : w.heap[B]? = some o) : w.putObj B o = w := by
  unfold World.putObj
  congr 1
  apply Array.ext_getElem?
  intro i
  rw [Array.getElem?_setIfInBounds]
  split
  · rename_i hi; subst hi
    obtain ⟨hlt, hv⟩ := Array.getElem?_eq_some_iff.1 h
    simp [hlt, hv]
  · rfl

theorem run_storeCells {P : Program} {B : Nat} {e : TypeId} : ∀ (vs : List Value) (w : World) (c : Array Value) (off i : Nat), w.heap[B]? = some (.cells c e (0, 0)) → off + i + vs.length ≤ c.size →
    oneCellAll vs = true → (storeCells ⟨B, off, none⟩ vs i).run P w = .ok () (w.putObj B (.cells (spliceL c.toList (off + i) vs).toArray e (0, 0)))
  | [], w, c, off, i, h, _, _ => by
    simp only [storeCells, Sem.run_pure, spliceL_nil]
    rw [show c.toList.toArray = c from rfl, putObj_self h]
  | v :: vs, w, c, off, i, h, hlen, hone => by
    have hlen' : off + i + (vs.length + 1) ≤ c.size := by simpa using hlen
    have hone' : oneC v = true ∧ oneCellAll vs = true := by simpa [oneCellAll] using hone
    have hv : v.oneCell' = true := by
      have := hone'.1; cases v <;> first | rfl | (simp [oneC] at this)
    have hcell : w.cell? ⟨B, off + i, none⟩ = some c[off + i] := by
      simp [World.cell?, h]
    have hfz : w.frozen? ⟨B, off + i, none⟩ = false := by simp [World.frozen?, h]
    have hh : (w.putObj B (.cells (c.setIfInBounds (off + i) v) e (0, 0))).heap[B]? = some (.cells (c.setIfInBounds (off + i) v) e (0, 0)) :=
      World.putObj_heap_same (Array.getElem?_eq_some_iff.1 h).1
    have ih := run_storeCells (P := P) vs _ (c.setIfInBounds (off + i) v) off (i + 1) hh (by simp; omega) hone'.2
    simp only [storeCells, Sem.run_bind, add_none]
    rw [run_store _ _ _ _ _ hv]
    simp only [hcell, hfz, Result.andThen_ok, Bool.false_eq_true, if_false, setCell_putObj h, ih, putObj_putObj]
    congr 4
    rw [spliceL_cons_set _ _ _ _ (by simp; omega)]
    simp [Nat.add_assoc]

theorem oneCell_VR {j : Inj} {v v' : Value} (h : VR j v v') (ho : oneC v = true) : oneC v' = true := by
  cases h <;> first | rfl | (simp [oneC] at ho)
theorem oneCell_LR {j : Inj} {vs vs' : List Value} (h : LR j vs vs') (ho : oneCellAll vs = true) : oneCellAll vs' = true := by
  induction vs generalizing vs' with
  | nil => rw [h.nil_inv]; rfl
  | cons v vs ih =>
    obtain ⟨y, ys, rfl, h1, h2⟩ := h.cons_inv
    simp only [oneCellAll, List.all_cons, Bool.and_eq_true] at ho ⊢
    exact ⟨oneCell_VR h1 ho.1, ih h2 ho.2⟩

theorem storeN_some {b o : Nat} {vs : List Value} {m' : AMem} (hm : m.storeN b o vs = some m') :
    (vs = [] ∧ m' = m) ∨ ∃ cs tag, m.get b = some (.cells cs tag) ∧ tag ≠ .ro ∧ o + vs.length ≤ cs.length ∧ m' = m.set b (.cells (spliceL cs o vs) tag) := by
  unfold AMem.storeN at hm
  split at hm
  · cases hm; exact .inl ⟨rfl, rfl⟩
  · split at hm
    · cases hm
    · rename_i cs tag hro hg
      split at hm
      · rename_i hl
        cases hm
        exact .inr ⟨cs, tag, hg, fun e => hro e, hl, rfl⟩
      · cases hm
    · cases hm

theorem sim_storeN (h : MR E j m w) {b : Nat} {k : Blk} (hk : j b = some k) {o : Nat} {vs vs' : List Value} (hv : LR j vs vs') (ho : oneCellAll vs = true) {m' : AMem} (hm : m.storeN b o vs = some m') :
    ∃ w', (storeCells ⟨k.c, o, none⟩ vs').run E.P w = .ok () w' ∧ Sim E j m w j m' w' := by
  rcases storeN_some hm with ⟨rfl, rfl⟩ | ⟨cs, tag, hg, hro, hl, rfl⟩
  · rw [hv.nil_inv]
    exact ⟨w, rfl, .refl h⟩
  · obtain ⟨c, e, fz, h1, h2, h3⟩ := h.cellsAt hk hg
    have hfz : fz = (0, 0) ∧ cs.length ≤ c.size := by
      cases tag with
      | ro => exact absurd rfl hro
      | own => exact ⟨h2.2.2, by rw [h2.2.1]; exact Nat.le_refl _⟩
      | more sz => exact ⟨h2.2.2.1, h2.2.1⟩
    obtain ⟨rfl, hsz⟩ := hfz
    refine ⟨_, run_storeCells vs' w c o 0 h1 (by rw [← hv.1]; simp; omega) (oneCell_LR hv ho), sim_put h hk (by rw [hg]; rfl) ⟨?_, ?_⟩⟩
    · rw [length_spliceL]
      have : (spliceL c.toList (o + 0) vs').toArray.size = c.size := by simp [length_spliceL]
      rw [this]; exact h2
    · intro i v hi
      rw [getElem?_spliceL] at hi
      have : (spliceL c.toList (o + 0) vs').toArray[i]? = if o ≤ i ∧ i < o + vs'.length ∧ i < c.size then vs'[i - o]? else c[i]? := by
        rw [List.getElem?_toArray, getElem?_spliceL]; simp
      rw [this]
      by_cases hc : o ≤ i ∧ i < o + vs.length ∧ i < cs.length
      · rw [if_pos hc] at hi
        rw [if_pos ⟨hc.1, hv.1 ▸ hc.2.1, by omega⟩]
        exact hv.2 _ v hi
      · rw [if_neg hc] at hi
        have hi' := (List.getElem?_eq_some_iff.1 hi).1
        rw [if_neg (by rw [← hv.1]; omega)]
        exact h3 i v hi
end
end Go.Ab
