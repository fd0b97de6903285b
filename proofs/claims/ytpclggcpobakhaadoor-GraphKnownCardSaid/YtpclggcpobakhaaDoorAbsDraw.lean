/-
  The abstract machine and the model: a region that draws its order. Whatever order its edges allow comes to what the order of the text comes to.
-/
import Derived.Test.YtpclggcpobakhaaDoorAbsRun
namespace Go.Ab
open Go

/-! ### The canonical run, step by step -/
def StepAt (k : K) (E : Env) (n : Nat) (ops : Array Oper) (i : Nat) (t : Tm) (m : AMem) (v : Value) (t' : Tm) (m' : AMem) (note : Note) : Prop :=
  ∃ o, ops[i]? = some o ∧ putT n t o.dst v = some t' ∧
    ((wantedA ops o t = true ∧ ∃ r, oper1 k E t { m with wl := m.next } o.op = some (v, r) ∧ m' = { r with wl := min m.wl r.wl } ∧ note = { read := readsAt E t o.op, wl := r.wl, next := m.next, wrote := writesAt E t o.op }) ∨
     (wantedA ops o t = false ∧ v = undef ∧ m' = m ∧ note = { read := none, wl := m.next, next := m.next, wrote := none }))

/-- A run as sequences. -/
structure Tr (k : K) (E : Env) (n : Nat) (ops : Array Oper) (i L : Nat) (T : Nat → Tm) (M : Nat → AMem) (V : Nat → Value) (ns : List Note) : Prop where
  len : ns.length = L
  step : ∀ x, x < L → ∃ note, ns[x]? = some note ∧ StepAt k E n ops (i + x) (T x) (M x) (V x) (T (x + 1)) (M (x + 1)) note

def cons0 {α : Type} (a : α) (f : Nat → α) : Nat → α
  | 0 => a
  | x + 1 => f x

theorem noted_tr {k : K} {E : Env} {n : Nat} {ops : Array Oper} : ∀ (os : List Oper) (i : Nat) (t : Tm) (m : AMem) (tf : Tm) (mf : AMem) (ns : List Note), ops.toList.drop i = os → runNoted k E n ops os t m = some (tf, mf, ns) →
    ∃ T M V, Tr k E n ops i os.length T M V ns ∧ T 0 = t ∧ M 0 = m ∧ T os.length = tf ∧ M os.length = mf
  | [], i, t, m, tf, mf, ns, _, h => by
    cases h
    exact ⟨fun _ => t, fun _ => m, fun _ => undef, ⟨rfl, fun x hx => absurd hx (Nat.not_lt_zero _)⟩, rfl, rfl, rfl, rfl⟩
  | o :: os, i, t, m, tf, mf, ns, hd, h => by
    have ho : ops[i]? = some o := by
      have := congrArg (·[0]?) hd
      simpa [List.getElem?_drop] using this
    have hd' : ops.toList.drop (i + 1) = os := by rw [← List.drop_drop, hd]; rfl
    -- one step in front
    have cons : ∀ (v : Value) (t1 : Tm) (m1 : AMem) (note : Note) (ns' : List Note), StepAt k E n ops i t m v t1 m1 note → runNoted k E n ops os t1 m1 = some (tf, mf, ns') → ns = note :: ns' →
        ∃ T M V, Tr k E n ops i (os.length + 1) T M V ns ∧ T 0 = t ∧ M 0 = m ∧ T (os.length + 1) = tf ∧ M (os.length + 1) = mf := by
      intro v t1 m1 note ns' hst hr hns
      obtain ⟨T, M, V, htr, h1, h2, h3, h4⟩ := noted_tr os (i + 1) t1 m1 tf mf ns' hd' hr
      refine ⟨cons0 t T, cons0 m M, cons0 v V, ⟨by rw [hns]; simp [htr.len], fun x hx => ?_⟩, rfl, rfl, h3, h4⟩
      cases x with
      | zero =>
        refine ⟨note, by rw [hns]; rfl, ?_⟩
        show StepAt k E n ops i t m v (T 0) (M 0) note
        rw [h1, h2]; exact hst
      | succ x =>
        obtain ⟨nt, h5, h6⟩ := htr.step x (by omega)
        refine ⟨nt, by rw [hns]; simpa using h5, ?_⟩
        show StepAt k E n ops (i + (x + 1)) (T x) (M x) (V x) (T (x + 1)) (M (x + 1)) nt
        rw [show i + (x + 1) = i + 1 + x by omega]; exact h6
    simp only [runNoted] at h
    split at h
    · rename_i hw
      split at h
      · rename_i v r he
        split at h
        · rename_i t1 hp
          split at h
          · rename_i t' m'' ns' hr
            cases h
            exact cons v t1 _ _ ns' ⟨o, ho, hp, .inl ⟨hw, r, he, rfl, rfl⟩⟩ hr rfl
          · cases h
        · cases h
      · cases h
    · rename_i hw
      split at h
      · rename_i t1 hp
        split at h
        · rename_i t' m'' ns' hr
          cases h
          exact cons undef t1 m _ ns' ⟨o, ho, hp, .inr ⟨by simpa using hw, rfl, rfl, rfl⟩⟩ hr rfl
        · cases h
      · cases h

/-! ### The watermark reset for a step -/
theorem Sim.rewl {E : Env} {j j' : Inj} {m r : AMem} {w w' : World} (s : Sim E j { m with wl := m.next } w j' r w') : Sim E j m w j' { r with wl := min m.wl r.wl } w' where
  ext := ⟨s.ext.next, Nat.min_le_left _ _, fun b hb hw => s.ext.same b hb (Nat.lt_of_lt_of_le hw (Nat.min_le_right _ _)), s.ext.dead⟩
  le := s.le
  new := s.new
  mr := s.mr.of_wl
  size := s.size
  full := s.full
  away := s.away
  fresh := fun b k h h' => (s.fresh b k h h').imp id fun ⟨b0, k0, a1, a2, a3, a4⟩ => ⟨b0, k0, a1, a2, a3, Nat.le_trans (Nat.min_le_right _ _) a4⟩
  frame := fun c hc H => s.frame c hc fun b k hb hl he => Nat.lt_of_lt_of_le (H b k hb hl he) (Nat.min_le_right _ _)
  calm := s.calm

/-! ### Values and objects under a part of a placing -/
/-- The placing of the blocks below x alone. -/
def Inj.below (j : Inj) (x : Nat) : Inj := fun b => if b < x then j b else none
theorem Inj.below_some {j : Inj} {x b : Nat} {k : Blk} : j.below x b = some k ↔ b < x ∧ j b = some k := by
  unfold Inj.below
  split
  · rename_i h; simp [h]
  · rename_i h; simp [h]

theorem VR.cut {j jc : Inj} {x : Nat} (hc : ∀ b k, jc b = some k → b < x) : ∀ {v v' : Value}, VR j v v' → ∀ {u : Value}, VR jc v u → VR (j.below x) v v' := by
  intro v v' h
  induction h with
  | bool b => intro u _; exact .bool b
  | int k n => intro u _; exact .int k n
  | string s => intro u _; exact .string s
  | pnil => intro u _; exact .pnil
  | ptr h => intro u hu; cases hu with
    | ptr h' => exact .ptr (Inj.below_some.2 ⟨hc _ _ h', h⟩)
  | snil l c => intro u _; exact .snil l c
  | slice h hm => intro u hu; cases hu with
    | slice h' _ => exact .slice (Inj.below_some.2 ⟨hc _ _ h', h⟩) hm
    | sliceM h' _ _ _ _ _ => exact .slice (Inj.below_some.2 ⟨hc _ _ h', h⟩) hm
  | sliceM h hm h1 h2 hl hcap => intro u hu; cases hu with
    | slice h' _ => exact .sliceM (Inj.below_some.2 ⟨hc _ _ h', h⟩) hm h1 h2 hl hcap
    | sliceM h' _ _ _ _ _ => exact .sliceM (Inj.below_some.2 ⟨hc _ _ h', h⟩) hm h1 h2 hl hcap
  | vague => intro u _; exact .vague
  | dry => intro u _; exact .dry
  | mnil => intro u _; exact .mnil
  | map h => intro u hu; cases hu with
    | map h' => exact .map (Inj.below_some.2 ⟨hc _ _ h', h⟩)
  | func h1 _ h3 _ ih2 ih4 => intro u hu; cases hu with
    | func g1 g2 g3 g4 => exact .func h1 (fun i a b => ih2 i a b (g2 i a (g1 ▸ a))) h3 (fun i a b => ih4 i a b (g4 i a (g3 ▸ a)))
  | yield h h1 _ ih2 => intro u hu; cases hu with
    | yield g g1 g2 => exact .yield (Inj.below_some.2 ⟨hc _ _ g, h⟩) h1 (fun i a b => ih2 i a b (g2 i a (g1 ▸ a)))
  | nilFunc => intro u _; exact .nilFunc
  | nilIface => intro u _; exact .nilIface
  | agg h1 _ ih => intro u hu; cases hu with
    | agg g1 g2 => exact .agg h1 (fun i a b => ih i a b (g2 i a (g1 ▸ a)))
  | tuple h1 _ ih => intro u hu; cases hu with
    | tuple g1 g2 => exact .tuple h1 (fun i a b => ih i a b (g2 i a (g1 ▸ a)))

theorem ER.cut {j jc : Inj} {x : Nat} (hc : ∀ b k, jc b = some k → b < x) : ∀ {es : List (Value × Value)} {fs gs : List MapEntry}, ER j es fs → ER jc es gs → ER (j.below x) es fs
  | [], [], _, _, _ => trivial
  | _ :: _, _ :: _, _ :: _, h, g => ⟨h.1.cut hc g.1, h.2.1.cut hc g.2.1, ER.cut hc h.2.2 g.2.2⟩
  | [], _ :: _, _, h, _ => h.elim
  | _ :: _, [], _, h, _ => h.elim
  | _ :: _, _ :: _, [], _, g => g.elim

theorem OR.cut {j jc : Inj} {x : Nat} (hc : ∀ b k, jc b = some k → b < x) {k k' : Blk} {o : AObj} {o1 o2 : Obj} (h : OR j k o o1) (g : OR jc k' o o2) : OR (j.below x) k o o1 := by
  cases o with
  | cells cs tag =>
    cases o1 with
    | cells c e fz =>
      cases o2 with
      | cells c2 e2 fz2 =>
        refine ⟨h.1, fun i v hi => ?_⟩
        obtain ⟨v', a, b⟩ := h.2 i v hi
        obtain ⟨u, _, b2⟩ := g.2 i v hi
        exact ⟨v', a, b.cut hc b2⟩
      | _ => exact g.elim
    | _ => exact h.elim
  | map es =>
    cases o1 with
    | map c e =>
      cases o2 with
      | map c2 e2 => exact ER.cut hc h g
      | _ => exact g.elim
    | _ => exact h.elim
  | loop r =>
    cases o1 with
    | loop r1 =>
      cases o2 with
      | loop r2 =>
        refine ⟨h.1, h.2.1, h.2.2.1, h.2.2.2.1, h.2.2.2.2.1, h.2.2.2.2.2.1, fun i => ?_⟩
        exact (h.2.2.2.2.2.2 i).cut hc (g.2.2.2.2.2.2 i)
      | _ => exact g.elim
    | _ => exact h.elim

theorem TR.cut {n n' : Nat} {j jc : Inj} {x : Nat} (hc : ∀ b k, jc b = some k → b < x) {t : Tm} {tm tm2 : Array Value} (h : TR n j t tm) (g : TR n' jc t tm2) : TR n (j.below x) t tm :=
  ⟨h.1, fun i => (h.2 i).cut hc (g.2 i)⟩

/-! ### An operation looks at its operands alone -/
theorem evalAll_congr {E : Env} {t t' : Tm} : ∀ {xs : List Operand}, (∀ x ∈ xs, evalA E t x = evalA E t' x) → evalAll E t xs = evalAll E t' xs
  | [], _ => rfl
  | x :: xs, h => by
    simp only [evalAll]
    rw [h x (by simp), evalAll_congr fun y hy => h y (by simp [hy])]
theorem evalParts_congr {E : Env} {t t' : Tm} : ∀ {xs : List (Nat × Operand)}, (∀ x ∈ xs, evalA E t x.2 = evalA E t' x.2) → evalParts E t xs = evalParts E t' xs
  | [], _ => rfl
  | (i, x) :: xs, h => by
    simp only [evalParts]
    rw [h (i, x) (by simp), evalParts_congr fun y hy => h y (by simp [hy])]
theorem optVal_congr {E : Env} {t t' : Tm} {x : Option Operand} (h : ∀ y, x = some y → evalA E t y = evalA E t' y) : optVal E t x = optVal E t' x := by
  cases x with
  | none => rfl
  | some y => simp only [optVal, h y rfl]

theorem opA_congr {E : Env} {t t' : Tm} {m : AMem} {o : Op} (h : ∀ x ∈ o.operands.toList, evalA E t x = evalA E t' x) : opA E t m o = opA E t' m o := by
  cases o <;> simp only [Op.operands] at h <;> simp only [opA]
  case build ty ps => rw [evalParts_congr fun x hx => h x.2 (by simp; exact ⟨x.1, by simpa using hx⟩)]
  case buildSlice ty n ps => rw [evalParts_congr fun x hx => h x.2 (by simp; exact ⟨x.1, by simpa using hx⟩)]
  case makeFunc fn first captured =>
    cases fn <;> simp only
    rw [evalAll_congr (xs := first.toList) fun x hx => h x (by simp at hx ⊢; exact .inl hx), evalAll_congr (xs := captured.toList) fun x hx => h x (by simp at hx ⊢; exact .inr hx)]
  case makeMap ty r => cases r <;> rfl
  case slice ty x lo hi mx =>
    rw [h x (by simp), optVal_congr (x := lo) fun y hy => h y (by simp [hy]), optVal_congr (x := hi) fun y hy => h y (by simp [hy]), optVal_congr (x := mx) fun y hy => h y (by simp [hy])]
  case call c =>
    cases hc : c.callee <;> simp only
    rw [evalAll_congr (xs := c.args.toList) fun x hx => h x (by simp [Call.operands, hc]; simpa using hx)]
  all_goals first | rfl | (simp_all; done)

theorem oper1_congr {k : K} {E : Env} {t t' : Tm} {m : AMem} {o : Op} (h : ∀ x ∈ o.operands.toList, evalA E t x = evalA E t' x) : oper1 k E t m o = oper1 k E t' m o := by
  have hop := opA_congr (m := m) h
  unfold oper1
  cases o with
  | call c =>
    simp only
    cases hc : c.callee with
    | value f =>
      simp only
      rw [h f (by simp [Op.operands, Call.operands, hc]), evalAll_congr (xs := c.args.toList) fun x hx => h x (by simp [Op.operands, Call.operands, hc]; exact .inr (by simpa using hx))]
    | _ => exact hop
  | _ => exact hop

/-- The temporaries of a list alone. -/
def maskT (t : Tm) : List Tmp → Tm
  | [] => .nil
  | d :: ds => (maskT t ds).set d (t.at d)
theorem maskT_at (t : Tm) : ∀ (S : List Tmp) (d : Nat), (maskT t S).at d = if d ∈ S then t.at d else undef
  | [], d => by simp [maskT, Tm.at, Trie.get_nil]
  | x :: S, d => by
    have ih := maskT_at t S d
    simp only [Tm.at] at ih
    simp only [maskT, Tm.at, Trie.get_set]
    by_cases h : d = x
    · simp [h]
    · simp only [if_neg h, List.mem_cons, h, false_or]; exact ih
def maskA (tm : Array Value) (S : List Tmp) : Array Value := (Array.range tm.size).map fun d => if d ∈ S then tm.getD d undef else undef
theorem maskA_getD (tm : Array Value) (S : List Tmp) (d : Nat) : (maskA tm S).getD d undef = if d ∈ S then tm.getD d undef else undef := by
  unfold maskA
  by_cases h : d < tm.size
  · simp [h]
  · have : tm.getD d undef = undef := by simp [h]
    simp [h]

theorem mem_tmpsOf : ∀ {l : List Operand} {d : Tmp}, d ∈ tmpsOf l ↔ Operand.tmp d ∈ l
  | [], d => by simp [tmpsOf]
  | x :: l, d => by
    have ih := mem_tmpsOf (l := l) (d := d)
    cases x <;> simp [tmpsOf, ih]

/-- An operation under a placing of just the temporaries that it looks at. -/
theorem does_masked {k : K} {E : Env} (hk : ∀ tk r, k tk = some r → TaskSim E tk r) {j : Inj} {m : AMem} {w : World} {t : Tm} {a : Act} (h : MR E j m w) {o : Oper} (ht : ∀ d ∈ tmpsOf o.op.operands.toList, VR j (t.at d) (a.tmps.getD d undef)) {v : Value} {m' : AMem}
    (e : oper1 k E t m o.op = some (v, m')) : Does E.P (execOp a.eval o) w (ValQ E j m w v m') := by
  have hT : TR (maskA a.tmps (tmpsOf o.op.operands.toList)).size j (maskT t (tmpsOf o.op.operands.toList)) ({ tmps := maskA a.tmps (tmpsOf o.op.operands.toList), defers := a.defers } : Act).tmps := by
    refine ⟨rfl, fun d => ?_⟩
    show VR j _ ((maskA a.tmps _).getD d undef)
    rw [maskT_at, maskA_getD]
    split
    · rename_i hd; exact ht d hd
    · exact VR.undef j
  have hev : ∀ x ∈ o.op.operands.toList, evalA E (maskT t (tmpsOf o.op.operands.toList)) x = evalA E t x := by
    intro x hx
    cases x with
    | tmp d => simp only [evalA, maskT_at, if_pos (mem_tmpsOf.2 hx)]
    | _ => rfl
  have hd := sim_does hk h hT (o := o) (v := v) (m' := m') ((oper1_congr hev).trans e)
  have hex : execOp ({ tmps := maskA a.tmps (tmpsOf o.op.operands.toList), defers := a.defers } : Act).eval o = execOp a.eval o := by
    refine execOp_congr o (fun cs b hs => ?_) fun x hx => ?_
    · rw [hs] at e; simp [oper1, opA] at e
    · cases x with
      | tmp d =>
        show (maskA a.tmps _).getD d undef = a.tmps.getD d undef
        rw [maskA_getD, if_pos (mem_tmpsOf.2 (by simpa using hx))]
      | _ => rfl
  rw [hex] at hd
  exact hd
end Go.Ab
