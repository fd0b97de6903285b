/-
  The abstract machine and the model: from a run of the interpreter to a call of the model; the memory at the beginning.
-/
import Derived.Test.YtpclggcpobakhaaDoorAbsCtl
import Derived.OpenShut
import Derived.FnData
import Derived.MakeChecks
import Derived.CallsIn
import Derived.Laws.Twins
namespace Go.Ab
open Go

/-- No function of the program stands for the number of goroutines; regions that mix follow every order. -/
def progOk (P : Program) : Bool := P.funcs.toList.all (fun fn => !(fn.name == "runtime.NumGoroutine")) && P.follows .mixedOrders

theorem envOk_of {E : Env} (h : progOk E.P = true) (hp : ∀ f p, E.prim f = some p → ∀ args m v m', p.run args m = some (v, m') → ∀ (j : Inj) (w : World) (args' : List Value), MR E j m w → LR j args args' → CallOk E.P (E.prim f).isSome f args'.toArray w (ValQ E j m w v m')) : EnvOk E := by
  simp only [progOk, Bool.and_eq_true] at h
  refine ⟨fun f fn c hf hb args w => ?_, h.2, hp⟩
  have hnm := List.all_eq_true.1 h.1 fn (List.mem_of_getElem? (by simpa using hf))
  have hname : (fn.name == "runtime.NumGoroutine") = false := by simpa using hnm
  have h1 : fn.name ≠ "runtime.NumGoroutine" := by simpa using hname
  simp [callFunc, hf, h1, hb]

/-- A call, run by the interpreter, is a call of the model. -/
theorem calls_of_run {E : Env} (hE : EnvOk E) {fuel : Nat} {f : FuncId} {args : List Value} {m m' : AMem} {v : Value} (e : run E fuel (.call f args m) = some (.val v m')) (hp : E.prim f = none) {j : Inj} {W : World} {args' : List Value} (h : MR E j m W) (hl : LR j args args') :
    CallsIn Fence.wide 0 E.P f args'.toArray W fun e W' => ∃ v', e = .returned v' ∧ ∃ j', Sim E j m W j' m' W' ∧ VR j' v v' := by
  obtain ⟨v1, m1, hr, hs⟩ := sim_run hE fuel _ _ e
  cases hr
  rcases hs j W args' h hl with ⟨_, h1⟩ | ⟨h1, _⟩
  · exact h1
  · rw [hp] at h1; cases h1

/-- What a call that wrote nothing old leaves. -/
theorem Sim.grown {E : Env} {j j' : Inj} {m m' : AMem} {w w' : World} (s : Sim E j m w j' m' w') (h : MR E j m w) (hwl : m.next ≤ m'.wl) : ∀ c, c < w.heap.size → w'.heap[c]? = w.heap[c]? :=
  fun c hc => s.frame c hc fun b k hb _ _ => Nat.lt_of_lt_of_le (h.lt b k hb).1 hwl

theorem keptBut_of_same {w w' : World} (h1 : w'.os = w.os ∧ w'.output = w.output) (h2 : ∀ c, c < w.heap.size → w'.heap[c]? = w.heap[c]?) (may : MemPlace → Prop) : w.keptBut w' may := by
  refine World.keptBut_mono (fun _ f => f.elim) (?_ : w.keptBut w' fun _ => False)
  refine ⟨h1.1, h1.2, fun i hi => ?_⟩
  rw [h2 i hi]
  exact (World.keptBut_refl w (fun _ => False)).2.2 i hi

/-! ### The memory at the beginning: some variables alone -/
def memG (n : Nat) (gs : Nat → Option (List Value)) : AMem := { next := n, wl := n, objs := .nil, base := fun b => (gs b).map fun cs => .cells cs .ro }
def injG (n : Nat) : Inj := fun b => if b < n then some ⟨b, none⟩ else none

theorem mr_memG {E : Env} {n : Nat} {gs : Nat → Option (List Value)} {W : World} (hn : E.glob ≤ n) (hW : n ≤ W.heap.size)
    (hg : ∀ b cs, gs b = some cs → b < n → ∃ c t fz, W.heap[b]? = some (.cells c t fz) ∧ LR (injG n) cs c.toList) : MR E (injG n) (memG n gs) W := by
  have hj : ∀ b k, injG n b = some k → b < n ∧ k = ⟨b, none⟩ := by
    intro b k h
    unfold injG at h
    split at h
    · cases h; exact ⟨by assumption, rfl⟩
    · cases h
  refine ⟨fun b k h => ?_, fun b o k hget h => ?_, fun b b' k k' h h' _ _ he => ?_, fun g hgl => ?_⟩
  · obtain ⟨h1, rfl⟩ := hj b k h
    exact ⟨h1, Nat.lt_of_lt_of_le h1 hW⟩
  · obtain ⟨h1, rfl⟩ := hj b k h
    have hget' : (gs b).map (fun cs => AObj.cells cs .ro) = some o := by simpa [AMem.get, memG, Heap.get_nil] using hget
    obtain ⟨cs, e1, rfl⟩ := map_some hget'
    obtain ⟨c, t, fz, h2, h3⟩ := hg b cs e1 h1
    refine ⟨_, h2, ⟨⟨rfl, by have := h3.1; simpa using this.symm⟩, fun i v hi => ?_⟩⟩
    obtain ⟨v', h4, h5⟩ := h3.get hi
    exact ⟨v', by simpa using h4, h5⟩
  · obtain ⟨_, rfl⟩ := hj b k h
    obtain ⟨_, rfl⟩ := hj b' k' h'
    exact he
  · unfold injG
    rw [if_pos (by omega)]

/-- A listed variable: an array of integers. -/
theorem laid_ints {P : Program} {W : World} {name : String} {g : Nat} {t e : TypeId} {N : Nat} {k : IntKind} {L : List Int} (hn : P.globalNamed name = some g) (ht : (P.globals[g]?).map (·.type) = some t) (hu : P.underlying t = some (.array N e)) (he : P.underlying e = some (.int k))
    (hsz : P.cellsOf e = 1) (hszt : P.cellsOf t = N) (hL : L.length = N) {q : List MemPlace} {rest : List (String × DataW Unit)} (h : DataW.LaidVars P W ((name, .agg (L.map fun n => .lit (.int k n))) :: rest) q) :
    ∃ c ty fz, W.heap[g]? = some (.cells c ty fz) ∧ c.toList = L.map (.int k) := by
  obtain ⟨g', t', cs, fuel, p, q', hg', ht', hv, hd, _⟩ := h
  obtain rfl := Option.some.inj (hn.symm.trans hg')
  obtain rfl := Option.some.inj (ht.symm.trans ht')
  obtain ⟨xs, m, rfl, hx, hlen, hxl, hel⟩ := DataW.trod_array hu hd
  simp only [Prod.mk.injEq, DataW.agg.injEq] at hx
  have hv' := hv
  simp only [World.var?, hn, Option.bind_some] at hv'
  split at hv'
  · rename_i c ty fz hh
    simp only [Option.some.injEq] at hv'
    subst hv'
    refine ⟨c, ty, fz, hh, List.ext_getElem? fun i => ?_⟩
    rcases Nat.lt_or_ge i N with hi | hi
    · have h1 := hel i hi
      rw [hsz, Nat.mul_one] at h1
      have hxi : xs[i]? = some xs[i] := by simp [hxl, hi]
      rw [hxi] at h1
      obtain ⟨n, e1, e2, _⟩ := DataW.trod_int he h1
      have hc : c.toList[i]? = some (.int k n) := by
        have := congrArg (·[0]?) e1
        simp only [List.getElem?_take, List.getElem?_drop, Nat.add_zero] at this
        simpa using this
      rw [hc]
      have h2 := congrArg (·[i]?) hx.1
      simp only [List.getElem?_map, hxi, e2, Option.map_some] at h2
      have hLi : L[i]? = some L[i] := by simp [hL, hi]
      rw [hLi] at h2
      simp only [Option.map_some, Option.some.injEq, DataW.lit.injEq, Lit.int.injEq, true_and] at h2
      rw [List.getElem?_map, hLi, Option.map_some, ← h2]
    · rw [List.getElem?_eq_none (by rw [hlen, hszt]; exact hi), List.getElem?_eq_none (by simp [hL]; exact hi)]
  · cases hv'
end Go.Ab
