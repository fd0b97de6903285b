/-
  The abstract machine: a walk through a region that draws its order, nothing in which clashes.
-/
import Derived.Test.YtpclggcpobakhaaDoorAbsStep2
namespace Go.Ab
open Go

section
variable {E : Env} {n : Nat} {fn : FuncId} {ro : Option Nat} {Q : AExit → Tm → AMem → Prop} {t : Tm} {m : AMem} {w : Nat}

/-- The region's rest, from a memory m whose mark is w. -/
def DrawW (E : Env) (n : Nat) (ops : Array Oper) (K : Tm → AMem → Prop) : List Oper → Tm → AMem → Nat → Prop
  | [], t, m, w => K t (m.ww w)
  | o :: os, t, m, w =>
    if wantedA ops o t then (∀ b, readsAt E t o.op = some b → b < m.next) ∧ OperM E t (m.ww m.next) o.op fun v m' => tmM (putT n t o.dst v) fun t' => DrawW E n ops K os t' m' (min w m'.wl)
    else tmM (putT n t o.dst undef) fun t' => DrawW E n ops K os t' m w

theorem noteOk_of {r : Option Nat} {x y : Nat} {z : Option Nat} (h : ∀ b, r = some b → b < y) : noteOk { read := r, wl := x, next := y, wrote := z } = true := by
  cases r with
  | none => rfl
  | some b =>
    have := h b rfl
    show Nat.blt b y = true
    rw [Nat.blt_eq]; exact this

theorem noted_of_W {ops : Array Oper} {K : Tm → AMem → Prop} : ∀ {os : List Oper} {t : Tm} {m : AMem} {w : Nat} {ns : List Note}, DrawW E n ops K os t m w → ns.all noteOk = true → NotedA E n ops (fun t m ns => ns.all noteOk = true ∧ K t m) os t (m.ww w) ns
  | [], t, m, w, ns, h, hn => ⟨by simpa using hn, h⟩
  | o :: os, t, m, w, ns, h, hn => by
    simp only [DrawW] at h
    simp only [NotedA]
    split at h
    · rename_i hw
      rw [if_pos hw]
      obtain ⟨h1, h2⟩ := h
      refine h2.A.mono fun v m' hv => ?_
      obtain ⟨t', hp, h3⟩ := hv.A
      refine ⟨t', hp, ?_⟩
      have := noted_of_W (ns := { read := readsAt E t o.op, wl := m'.wl, next := m.next, wrote := writesAt E t o.op } :: ns) h3 (by rw [List.all_cons, hn, Bool.and_true]; exact noteOk_of h1)
      exact this
    · rename_i hw
      rw [if_neg hw]
      obtain ⟨t', hp, h2⟩ := h.A
      exact ⟨t', hp, noted_of_W h2 (by rw [List.all_cons, hn]; rfl)⟩

theorem CodeA.drawW {id : Nat} {ops : Array Oper} (hp : pairsOf ops = some []) (h : ∀ K : Tm → AMem → Prop, (∀ t m, Q .normal t m → K t m) → DrawW E n ops K ops.toList t m m.wl) : CodeA E n fn ro (.region id ops true) Q t m := by
  refine .draw hp ?_
  have h1 := noted_of_W (ns := []) (h (fun t m => Q .normal t m) fun _ _ h => h) rfl
  have mono : ∀ {os : List Oper} {t : Tm} {m : AMem} {ns : List Note}, NotedA E n ops (fun t m ns => ns.all noteOk = true ∧ Q .normal t m) os t m ns → NotedA E n ops (fun t m ns => (([] : List (Nat × Nat)).all (pairOk ns ops) && ns.all noteOk) = true ∧ Q .normal t m) os t m ns := by
    intro os t m ns h
    simpa using h
  exact mono h1

variable {K : Tm → AMem → Prop} {ops : Array Oper} {os : List Oper} {ty : TypeId} {p : String} {af : Array Edge} {d : Nat} {g : Option (Nat × Bool)} {v a b r : Value} {x y : Operand} {e : TypeId}

theorem sw_nil (k : K t (m.ww w)) : DrawW E n ops K [] t m w := k
theorem sw_skip {o : Op} {j : Nat} {b : Bool} (hw : wantedA ops ⟨some d, o, ty, p, af, some (j, b)⟩ t = false) (hd : d < n) (k : DrawW E n ops K os (t.set d undef) m w) : DrawW E n ops K (⟨some d, o, ty, p, af, some (j, b)⟩ :: os) t m w := by
  simp only [DrawW, hw, Bool.false_eq_true, if_false, putT_some, if_pos hd]; exact k
theorem drawW_ww {K : Tm → AMem → Prop} {ops : Array Oper} {m : AMem} {x : Nat} : ∀ (os : List Oper) {t : Tm} {w : Nat}, DrawW E n ops K os t m w → DrawW E n ops K os t (m.ww x) w
  | [], _, _, k => k
  | o :: os, t, w, k => by
    simp only [DrawW] at k ⊢
    split at k
    · rename_i hw; rw [if_pos hw]; exact k
    · rename_i hw; rw [if_neg hw]
      obtain ⟨t', hp, h2⟩ := k.A
      rw [hp]
      exact drawW_ww os h2
/-- An operation that reads no memory and writes none. -/
theorem sw_pure {o : Op} (hw : wantedA ops ⟨some d, o, ty, p, af, g⟩ t = true) (hr : readsAt E t o = none) (h : ∀ K', OperM E t (m.ww m.next) o K' = K' v (m.ww m.next)) (hd : d < n) (k : DrawW E n ops K os (t.set d v) m (min w m.next)) : DrawW E n ops K (⟨some d, o, ty, p, af, g⟩ :: os) t m w := by
  simp only [DrawW, hw, if_true, h, putT_some, if_pos hd]
  exact ⟨fun b hb => (by rw [hr] at hb; cases hb), drawW_ww _ k⟩
theorem sw_read {o : Op} {b : Nat} (hw : wantedA ops ⟨some d, o, ty, p, af, g⟩ t = true) (hr : readsAt E t o = some b) (hb : b < m.next) (h : ∀ K', OperM E t (m.ww m.next) o K' = K' v (m.ww m.next)) (hd : d < n) (k : DrawW E n ops K os (t.set d v) m (min w m.next)) : DrawW E n ops K (⟨some d, o, ty, p, af, g⟩ :: os) t m w := by
  simp only [DrawW, hw, if_true, h, putT_some, if_pos hd]
  exact ⟨fun b' hb' => (by rw [hr] at hb'; cases hb'; exact hb), drawW_ww _ k⟩
theorem sw_load {b o : Nat} (hw : wantedA ops ⟨some d, .load e x, ty, p, af, g⟩ t = true) (hx : evalA E t x = some (ptr b o)) (hb : b < m.next) (hl : loadA E.P e (ptr b o) m = some r) (hd : d < n) (k : DrawW E n ops K os (t.set d r) m (min w m.next)) : DrawW E n ops K (⟨some d, .load e x, ty, p, af, g⟩ :: os) t m w :=
  sw_read (b := b) hw (by simp only [readsAt, hx]; rfl) hb (o_load hx hl) hd k
theorem sw_store {b o : Nat} {ob : AObj} (hw : wantedA ops ⟨none, .store e x y, ty, p, af, g⟩ t = true) (hx : evalA E t x = some (ptr b o)) (hy : evalA E t y = some v) (hs : storeA E.P e (ptr b o) v (m.ww m.next) = some ((m.ww m.next).set b ob)) (k : DrawW E n ops K os t (m.set b ob) (min w (min m.next b))) : DrawW E n ops K (⟨none, .store e x y, ty, p, af, g⟩ :: os) t m w := by
  simp only [DrawW, hw, if_true, o_store hx hy hs]
  refine ⟨fun b' hb' => by simp [readsAt] at hb', ?_⟩
  exact drawW_ww (x := min m.next b) _ k
theorem sw_call {f : Operand} {as : Array Operand} {ts : Array TypeId} {fn : FuncId} {vs : List Value} {R : Value → AMem → Prop} (hw : wantedA ops ⟨some d, .call ⟨.value f, as, ts⟩, ty, p, af, g⟩ t = true) (hf : evalA E t f = some (.func (.func fn) #[] #[])) (ha : evalAll E t as.toList = some vs) (hc : CallA E fn vs (m.ww m.next) R) (hd : d < n)
    (k : ∀ v m', R v m' → DrawW E n ops K os (t.set d v) m' (min w m'.wl)) : DrawW E n ops K (⟨some d, .call ⟨.value f, as, ts⟩, ty, p, af, g⟩ :: os) t m w := by
  simp only [DrawW, hw, if_true]
  refine ⟨fun b hb => by simp [readsAt] at hb, ?_⟩
  show callM E (evalA E t f) (evalAll E t as.toList) (m.ww m.next) _
  rw [hf, ha, callM_func]
  refine hc.mono fun v m' hr => ?_
  rw [putT_some, if_pos hd]
  exact k v m' hr
theorem LoopA.inv {c : Code} (I : Nat → Tm → AMem → Prop) (h : ∀ k t m, I k t m → CodeA E n fn ro c (thenA (fun t m => ∃ k', k' < k ∧ I k' t m) Q) t m) : ∀ k t m, I k t m → LoopA E n fn ro c Q t m := by
  intro k
  induction k using Nat.strongRecOn with
  | _ k ih =>
    intro t m hI
    refine .round ((h k t m hI).mono fun e t' m' hq => ?_)
    cases e with
    | normal => obtain ⟨k', hk, hI'⟩ := hq; exact ih k' hk t' m' hI'
    | exit id => exact hq
    | ret => exact hq
theorem Ext.ww {m M : AMem} (h : Ext m M) {w : Nat} (hw : min m.wl m.next ≤ w) : Ext m (M.ww w) := ⟨h.next, h.same, hw⟩
theorem ea_nil : evalAll E t [] = some [] := rfl
theorem ea_cons {xs : List Operand} {vs : List Value} (h : evalA E t x = some v) (hs : evalAll E t xs = some vs) : evalAll E t (x :: xs) = some (v :: vs) := by simp only [evalAll, h, hs]
theorem ov_some (h : evalA E t x = some v) : optVal E t (some x) = some (some v) := by simp only [optVal, h, Option.map_some]
end
end Go.Ab
