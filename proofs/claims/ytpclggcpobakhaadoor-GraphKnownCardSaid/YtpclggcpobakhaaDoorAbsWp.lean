/-
  The abstract machine: what a run comes to, said by conditions on its end: rules for code, loops, regions, calls.
-/
import Derived.Test.YtpclggcpobakhaaDoorAbsMono
namespace Go.Ab
open Go

section
variable {E : Env} {n : Nat} {fn : FuncId} {ro : Option Nat}

def CallA (E : Env) (f : FuncId) (args : List Value) (m : AMem) (Q : Value → AMem → Prop) : Prop := ∃ v m', Runs E (.call f args m) (.val v m') ∧ Q v m'
def RoundA (E : Env) (l : Nat) (args : List Value) (m : AMem) (Q : Value → AMem → Prop) : Prop := ∃ v m', Runs E (.round l args m) (.val v m') ∧ Q v m'
def CodeA (E : Env) (n : Nat) (fn : FuncId) (ro : Option Nat) (c : Code) (Q : AExit → Tm → AMem → Prop) (t : Tm) (m : AMem) : Prop := ∃ e t' m', Runs E (.code c ⟨t, n, fn, ro⟩ m) (.code e t' m') ∧ Q e t' m'
def LoopA (E : Env) (n : Nat) (fn : FuncId) (ro : Option Nat) (c : Code) (Q : AExit → Tm → AMem → Prop) (t : Tm) (m : AMem) : Prop := ∃ e t' m', Runs E (.loop c ⟨t, n, fn, ro⟩ m) (.code e t' m') ∧ Q e t' m'

theorem CallA.mono {f : FuncId} {args : List Value} {m : AMem} {Q Q' : Value → AMem → Prop} (h : CallA E f args m Q) (hq : ∀ v m', Q v m' → Q' v m') : CallA E f args m Q' :=
  let ⟨v, m', r, q⟩ := h; ⟨v, m', r, hq v m' q⟩
theorem CodeA.mono {c : Code} {Q Q' : AExit → Tm → AMem → Prop} {t : Tm} {m : AMem} (h : CodeA E n fn ro c Q t m) (hq : ∀ e t m, Q e t m → Q' e t m) : CodeA E n fn ro c Q' t m :=
  let ⟨e, t', m', r, q⟩ := h; ⟨e, t', m', r, hq _ _ _ q⟩
theorem LoopA.mono {c : Code} {Q Q' : AExit → Tm → AMem → Prop} {t : Tm} {m : AMem} (h : LoopA E n fn ro c Q t m) (hq : ∀ e t m, Q e t m → Q' e t m) : LoopA E n fn ro c Q' t m :=
  let ⟨e, t', m', r, q⟩ := h; ⟨e, t', m', r, hq _ _ _ q⟩

def thenA (K : Tm → AMem → Prop) (Q : AExit → Tm → AMem → Prop) : AExit → Tm → AMem → Prop
  | .normal, t, m => K t m
  | .exit id, t, m => Q (.exit id) t m
  | .ret, t, m => Q .ret t m
def inBlockA (id : Nat) (Q : AExit → Tm → AMem → Prop) : AExit → Tm → AMem → Prop
  | .normal, t, m => Q .normal t m
  | .exit id', t, m => if id' = id then Q .normal t m else Q (.exit id') t m
  | .ret, t, m => Q .ret t m

variable {Q : AExit → Tm → AMem → Prop} {t : Tm} {m : AMem}

theorem runs_step {k : Nat} {tk : Task} {r : Res} (h : step E (run E k) tk = some r) : Runs E tk r := ⟨k + 1, h⟩

theorem CodeA.skip (h : Q .normal t m) : CodeA E n fn ro .skip Q t m := ⟨_, _, _, runs_step (k := 0) rfl, h⟩
theorem CodeA.label {l : Nat} (h : Q .normal t m) : CodeA E n fn ro (.label l) Q t m := ⟨_, _, _, runs_step (k := 0) rfl, h⟩
theorem CodeA.exit {id : Nat} (h : Q (.exit id) t m) : CodeA E n fn ro (.exit id) Q t m := ⟨_, _, _, runs_step (k := 0) rfl, h⟩
theorem CodeA.ret (h : Q .ret t m) : CodeA E n fn ro .ret Q t m := ⟨_, _, _, runs_step (k := 0) rfl, h⟩

theorem CodeA.seq {a b : Code} (h : CodeA E n fn ro a (thenA (CodeA E n fn ro b Q) Q) t m) : CodeA E n fn ro (.seq a b) Q t m := by
  obtain ⟨e, t1, m1, ⟨k1, h1⟩, q⟩ := h
  cases e with
  | normal =>
    obtain ⟨e2, t2, m2, ⟨k2, h2⟩, q2⟩ := q
    refine ⟨e2, t2, m2, runs_step (k := max k1 k2) ?_, q2⟩
    simp only [step, run_le (Nat.le_max_left k1 k2) h1]
    exact run_le (Nat.le_max_right k1 k2) h2
  | exit id => exact ⟨_, _, _, runs_step (k := k1) (by simp only [step, h1]), q⟩
  | ret => exact ⟨_, _, _, runs_step (k := k1) (by simp only [step, h1]), q⟩

theorem CodeA.cond {x : Operand} {a b : Code} {c : Bool} (hx : evalA E t x = some (.bool c)) (ht : c = true → CodeA E n fn ro a Q t m) (hf : c = false → CodeA E n fn ro b Q t m) : CodeA E n fn ro (.cond x a b) Q t m := by
  cases c with
  | true =>
    obtain ⟨e, t1, m1, ⟨k1, h1⟩, q⟩ := ht rfl
    exact ⟨e, t1, m1, runs_step (k := k1) (by simp only [step, hx]; exact h1), q⟩
  | false =>
    obtain ⟨e, t1, m1, ⟨k1, h1⟩, q⟩ := hf rfl
    exact ⟨e, t1, m1, runs_step (k := k1) (by simp only [step, hx]; exact h1), q⟩

theorem CodeA.block {id : Nat} {a : Code} (h : CodeA E n fn ro a (inBlockA id Q) t m) : CodeA E n fn ro (.block id a) Q t m := by
  obtain ⟨e, t1, m1, ⟨k1, h1⟩, q⟩ := h
  cases e with
  | normal => exact ⟨_, _, _, runs_step (k := k1) (by simp only [step, h1]), q⟩
  | exit id' =>
    simp only [inBlockA] at q
    by_cases hid : id' = id
    · rw [if_pos hid] at q
      exact ⟨_, _, _, runs_step (k := k1) (by simp only [step, h1, if_pos hid]), q⟩
    · rw [if_neg hid] at q
      exact ⟨_, _, _, runs_step (k := k1) (by simp only [step, h1, if_neg hid]), q⟩
  | ret => exact ⟨_, _, _, runs_step (k := k1) (by simp only [step, h1]), q⟩

theorem CodeA.scope {a : Code} (h : CodeA E n fn ro a Q t m) : CodeA E n fn ro (.scope a) Q t m := by
  obtain ⟨e, t1, m1, ⟨k1, h1⟩, q⟩ := h
  exact ⟨_, _, _, runs_step (k := k1) (by simp only [step, h1]), q⟩

theorem CodeA.loop {a : Code} (h : LoopA E n fn ro a Q t m) : CodeA E n fn ro (.loop a) Q t m := by
  obtain ⟨e, t1, m1, ⟨k1, h1⟩, q⟩ := h
  exact ⟨_, _, _, runs_step (k := k1) (by simp only [step]; exact h1), q⟩

theorem LoopA.round {a : Code} (h : CodeA E n fn ro a (thenA (LoopA E n fn ro a Q) Q) t m) : LoopA E n fn ro a Q t m := by
  obtain ⟨e, t1, m1, ⟨k1, h1⟩, q⟩ := h
  cases e with
  | normal =>
    obtain ⟨e2, t2, m2, ⟨k2, h2⟩, q2⟩ := q
    refine ⟨e2, t2, m2, runs_step (k := max k1 k2) ?_, q2⟩
    simp only [step, run_le (Nat.le_max_left k1 k2) h1]
    exact run_le (Nat.le_max_right k1 k2) h2
  | exit id => exact ⟨_, _, _, runs_step (k := k1) (by simp only [step, h1]), q⟩
  | ret => exact ⟨_, _, _, runs_step (k := k1) (by simp only [step, h1]), q⟩

/-! ### Operations -/
/-- What an operation comes to. -/
def OperA (E : Env) (t : Tm) (m : AMem) (o : Op) (K : Value → AMem → Prop) : Prop := ∃ v m', (∃ k, oper1 (run E k) E t m o = some (v, m')) ∧ K v m'

theorem kle_run {k k' : Nat} (h : k ≤ k') : KLe (run E k) (run E k') := fun _ _ => run_le h

theorem OperA.plain {o : Op} {v : Value} {m' : AMem} {K : Value → AMem → Prop} (he : opA E t m o = some (v, m')) (h : K v m') : OperA E t m o K := by
  refine ⟨v, m', ⟨0, ?_⟩, h⟩
  unfold oper1
  split
  · rename_i c
    split
    · rename_i f hc
      simp [opA, hc] at he
    · exact he
  · exact he

theorem OperA.call {c : Call} {f : Operand} {g : FuncId} {first captured : Array Value} {args : List Value} {K : Value → AMem → Prop} (hc : c.callee = .value f) (hf : evalA E t f = some (.func (.func g) first captured)) (ha : evalAll E t c.args.toList = some args)
    (h : CallA E g (first.toList ++ args ++ captured.toList) m K) : OperA E t m (.call c) K := by
  obtain ⟨v, m', ⟨k, hk⟩, q⟩ := h
  exact ⟨v, m', ⟨k, by simp only [oper1, hc, hf, ha, hk]⟩, q⟩

theorem OperA.round {c : Call} {f : Operand} {l : Nat} {first cap : Array Value} {args : List Value} {K : Value → AMem → Prop} (hc : c.callee = .value f) (hf : evalA E t f = some (.func (.yield l) first cap)) (ha : evalAll E t c.args.toList = some args)
    (h : RoundA E l (first.toList ++ args) m K) : OperA E t m (.call c) K := by
  obtain ⟨v, m', ⟨k, hk⟩, q⟩ := h
  exact ⟨v, m', ⟨k, by simp only [oper1, hc, hf, ha, hk]⟩, q⟩

def putA (n : Nat) (t : Tm) (dst : Option Tmp) (v : Value) (K : Tm → Prop) : Prop := ∃ t', putT n t dst v = some t' ∧ K t'

/-- A region in the order of its text. -/
def OpsA (E : Env) (n : Nat) (ops : Array Oper) (K : Tm → AMem → Prop) : List Oper → Tm → AMem → Prop
  | [], t, m => K t m
  | o :: os, t, m => if wantedA ops o t then OperA E t m o.op fun v m' => putA n t o.dst v fun t' => OpsA E n ops K os t' m' else putA n t o.dst undef fun t' => OpsA E n ops K os t' m

theorem opsA_runs {ops : Array Oper} {K : Tm → AMem → Prop} : ∀ {os : List Oper} {t : Tm} {m : AMem}, OpsA E n ops K os t m → ∃ k t' m', runOps (run E k) E n ops os t m = some (t', m') ∧ K t' m'
  | [], t, m, h => ⟨0, t, m, rfl, h⟩
  | o :: os, t, m, h => by
    simp only [OpsA] at h
    split at h
    · rename_i hw
      obtain ⟨v, m1, ⟨k1, h1⟩, t1, hp, h2⟩ := h
      obtain ⟨k2, t2, m2, h3, h4⟩ := opsA_runs h2
      refine ⟨max k1 k2, t2, m2, ?_, h4⟩
      simp only [runOps, if_pos hw, oper1_mono (kle_run (Nat.le_max_left k1 k2)) h1, hp]
      exact runOps_mono (kle_run (Nat.le_max_right k1 k2)) h3
    · rename_i hw
      obtain ⟨t1, hp, h2⟩ := h
      obtain ⟨k2, t2, m2, h3, h4⟩ := opsA_runs h2
      refine ⟨k2, t2, m2, ?_, h4⟩
      simp only [runOps, if_neg hw, hp]
      exact h3

theorem CodeA.region {id : Nat} {ops : Array Oper} (h : OpsA E n ops (Q .normal) ops.toList t m) : CodeA E n fn ro (.region id ops false) Q t m := by
  obtain ⟨k, t', m', h1, h2⟩ := opsA_runs h
  exact ⟨_, _, _, runs_step (k := k) (by simp only [step, Bool.false_eq_true, if_false, h1]), h2⟩

/-- A region that draws its order, and what is noted of it. -/
def NotedA (E : Env) (n : Nat) (ops : Array Oper) (K : Tm → AMem → List Note → Prop) : List Oper → Tm → AMem → List Note → Prop
  | [], t, m, ns => K t m ns.reverse
  | o :: os, t, m, ns =>
    if wantedA ops o t then OperA E t { m with wl := m.next } o.op fun v m' => putA n t o.dst v fun t' =>
      NotedA E n ops K os t' { m' with wl := min m.wl m'.wl } ({ read := readsAt E t o.op, wl := m'.wl, next := m.next, wrote := writesAt E t o.op } :: ns)
    else putA n t o.dst undef fun t' => NotedA E n ops K os t' m ({ read := none, wl := m.next, next := m.next, wrote := none } :: ns)

theorem notedA_runs {ops : Array Oper} {K : Tm → AMem → List Note → Prop} : ∀ {os : List Oper} {t : Tm} {m : AMem} {ns : List Note}, NotedA E n ops K os t m ns → ∃ k t' m' ns', runNoted (run E k) E n ops os t m = some (t', m', ns') ∧ K t' m' (ns.reverse ++ ns')
  | [], t, m, ns, h => ⟨0, t, m, [], rfl, by rw [List.append_nil]; exact h⟩
  | o :: os, t, m, ns, h => by
    simp only [NotedA] at h
    split at h
    · rename_i hw
      obtain ⟨v, m1, ⟨k1, h1⟩, t1, hp, h2⟩ := h
      obtain ⟨k2, t2, m2, ns2, h3, h4⟩ := notedA_runs h2
      refine ⟨max k1 k2, t2, m2, _ :: ns2, ?_, by simpa using h4⟩
      simp only [runNoted, if_pos hw, oper1_mono (kle_run (Nat.le_max_left k1 k2)) h1, hp, runNoted_mono (kle_run (Nat.le_max_right k1 k2)) h3]
    · rename_i hw
      obtain ⟨t1, hp, h2⟩ := h
      obtain ⟨k2, t2, m2, ns2, h3, h4⟩ := notedA_runs h2
      refine ⟨k2, t2, m2, _ :: ns2, ?_, by simpa using h4⟩
      simp only [runNoted, if_neg hw, hp, h3]

theorem CodeA.draw {id : Nat} {ops : Array Oper} {ps : List (Nat × Nat)} (hp : pairsOf ops = some ps) (h : NotedA E n ops (fun t m ns => (ps.all (pairOk ns ops) && ns.all noteOk) = true ∧ Q .normal t m) ops.toList t m []) : CodeA E n fn ro (.region id ops true) Q t m := by
  obtain ⟨k, t', m', ns, h1, h2, h3⟩ := notedA_runs h
  simp only [List.reverse_nil, List.nil_append] at h2
  exact ⟨_, _, _, runs_step (k := k) (by simp only [step, if_true, hp, h1, h2]), h3⟩

/-! ### Calls -/
theorem CallA.enter {f : FuncId} {F : Func} {c : Code} {args : List Value} {R : Value → AMem → Prop} (hp : E.prim f = none) (hf : E.P.funcs[f]? = some F) (hb : F.body = some c)
    (h : CodeA E (max args.length F.ntmps) f none c (fun e t' m' => (∀ id, e ≠ .exit id) ∧ ∃ vs, resultsA E t' m' F.results.toList = some vs ∧ R (tupleA vs) m') (Trie.ofList args 0 .nil) m) : CallA E f args m R := by
  obtain ⟨e, t', m', ⟨k, h1⟩, hne, vs, h2, h3⟩ := h
  refine ⟨_, m', runs_step (k := k) ?_, h3⟩
  have hpa : primA E f args m = none := by unfold primA; rw [hp]; rfl
  simp only [step, hpa, hf, hb, h1]
  cases e with
  | exit id => exact (hne id rfl).elim
  | normal => simp only [h2, Option.map_some]
  | ret => simp only [h2, Option.map_some]

theorem CallA.enterP {f : FuncId} {F : Func} {c : Code} {args : List Value} {R : Value → AMem → Prop} (hpa : primA E f args m = none) (hf : E.P.funcs[f]? = some F) (hb : F.body = some c)
    (h : CodeA E (max args.length F.ntmps) f none c (fun e t' m' => (∀ id, e ≠ .exit id) ∧ ∃ vs, resultsA E t' m' F.results.toList = some vs ∧ R (tupleA vs) m') (Trie.ofList args 0 .nil) m) : CallA E f args m R := by
  obtain ⟨e, t', m', ⟨k, h1⟩, hne, vs, h2, h3⟩ := h
  refine ⟨_, m', runs_step (k := k) ?_, h3⟩
  simp only [step, hpa, hf, hb, h1]
  cases e with
  | exit id => exact (hne id rfl).elim
  | normal => simp only [h2, Option.map_some]
  | ret => simp only [h2, Option.map_some]

/-! ### A region without calls of functions: one evaluation -/
def OpsP (E : Env) (n : Nat) (ops : Array Oper) (K : Tm → AMem → Prop) : List Oper → Tm → AMem → Prop
  | [], t, m => K t m
  | o :: os, t, m =>
    if wantedA ops o t then
      match opA E t m o.op with
      | some (v, m') => match putT n t o.dst v with
        | some t' => OpsP E n ops K os t' m'
        | none => False
      | none => False
    else match putT n t o.dst undef with
      | some t' => OpsP E n ops K os t' m
      | none => False

theorem opsA_of_P {ops : Array Oper} {K : Tm → AMem → Prop} : ∀ {os : List Oper} {t : Tm} {m : AMem}, OpsP E n ops K os t m → OpsA E n ops K os t m
  | [], t, m, h => h
  | o :: os, t, m, h => by
    simp only [OpsP] at h
    simp only [OpsA]
    split at h
    · rename_i hw
      rw [if_pos hw]
      split at h
      · rename_i v m' he
        split at h
        · rename_i t' hp
          exact .plain he ⟨t', hp, opsA_of_P h⟩
        · exact h.elim
      · exact h.elim
    · rename_i hw
      rw [if_neg hw]
      split at h
      · rename_i t' hp
        exact ⟨t', hp, opsA_of_P h⟩
      · exact h.elim

theorem CodeA.regionP {id : Nat} {ops : Array Oper} (h : OpsP E n ops (Q .normal) ops.toList t m) : CodeA E n fn ro (.region id ops false) Q t m := .region (opsA_of_P h)
end

section
variable {E : Env} {n : Nat} {fn : FuncId} {ro : Option Nat} {Q : AExit → Tm → AMem → Prop} {t : Tm} {m : AMem}
/-! ### Operations, as conditions that a rewriting unfolds -/
def valM (r : Option (Value × AMem)) (K : Value → AMem → Prop) : Prop :=
  match r with
  | some (v, m) => K v m
  | none => False
theorem valM_some (v : Value) (m : AMem) (K : Value → AMem → Prop) : valM (some (v, m)) K = K v m := rfl
def tmM (r : Option Tm) (K : Tm → Prop) : Prop :=
  match r with
  | some t => K t
  | none => False
theorem tmM_some (t : Tm) (K : Tm → Prop) : tmM (some t) K = K t := rfl
/-- A call of a function value. -/
def callM (E : Env) (f : Option Value) (args : Option (List Value)) (m : AMem) (K : Value → AMem → Prop) : Prop :=
  match f, args with
  | some (.func (.func g) first captured), some as => CallA E g (first.toList ++ as ++ captured.toList) m K
  | some (.func (.yield l) first _), some as => RoundA E l (first.toList ++ as) m K
  | _, _ => False
theorem callM_func (g : FuncId) (as : List Value) (K : Value → AMem → Prop) : callM E (some (.func (.func g) #[] #[])) (some as) m K = CallA E g as m K := by
  simp [callM]

def isCall (o : Op) : Option (Operand × List Operand) :=
  match o with
  | .call c => match c.callee with
    | .value f => some (f, c.args.toList)
    | _ => none
  | _ => none
def OperM (E : Env) (t : Tm) (m : AMem) (o : Op) (K : Value → AMem → Prop) : Prop :=
  match isCall o with
  | some (f, as) => callM E (evalA E t f) (evalAll E t as) m K
  | none => valM (opA E t m o) K

theorem OperM.A {o : Op} {K : Value → AMem → Prop} (h : OperM E t m o K) : OperA E t m o K := by
  unfold OperM at h
  split at h
  · rename_i f as hc
    unfold isCall at hc
    split at hc
    · rename_i c
      split at hc
      · rename_i f' hcal
        cases hc
        unfold callM at h
        split at h
        · rename_i g first captured args h1 h2
          exact .call hcal h1 h2 h
        · rename_i l first cap args h1 h2
          exact .round hcal h1 h2 h
        · exact h.elim
      · cases hc
    · cases hc
  · unfold valM at h
    split at h
    · rename_i v m' he
      exact .plain he h
    · exact h.elim

def OpsM (E : Env) (n : Nat) (ops : Array Oper) (K : Tm → AMem → Prop) : List Oper → Tm → AMem → Prop
  | [], t, m => K t m
  | o :: os, t, m => if wantedA ops o t then OperM E t m o.op fun v m' => tmM (putT n t o.dst v) fun t' => OpsM E n ops K os t' m' else tmM (putT n t o.dst undef) fun t' => OpsM E n ops K os t' m

theorem OperA.mono {o : Op} {K K' : Value → AMem → Prop} (h : OperA E t m o K) (hk : ∀ v m', K v m' → K' v m') : OperA E t m o K' :=
  let ⟨v, m', r, q⟩ := h; ⟨v, m', r, hk v m' q⟩
theorem tmM.A {r : Option Tm} {K : Tm → Prop} (h : tmM r K) : ∃ t', r = some t' ∧ K t' := by
  cases r with
  | none => exact h.elim
  | some t => exact ⟨t, rfl, h⟩

theorem opsA_of_M {ops : Array Oper} {K : Tm → AMem → Prop} : ∀ {os : List Oper} {t : Tm} {m : AMem}, OpsM E n ops K os t m → OpsA E n ops K os t m
  | [], t, m, h => h
  | o :: os, t, m, h => by
    simp only [OpsM] at h
    simp only [OpsA]
    split at h
    · rename_i hw
      rw [if_pos hw]
      refine h.A.mono fun v m' hv => ?_
      obtain ⟨t', hp, h2⟩ := hv.A
      exact ⟨t', hp, opsA_of_M h2⟩
    · rename_i hw
      rw [if_neg hw]
      obtain ⟨t', hp, h2⟩ := h.A
      exact ⟨t', hp, opsA_of_M h2⟩

theorem CodeA.regionM {id : Nat} {ops : Array Oper} (h : OpsM E n ops (Q .normal) ops.toList t m) : CodeA E n fn ro (.region id ops false) Q t m := .region (opsA_of_M h)

def NotedM (E : Env) (n : Nat) (ops : Array Oper) (K : Tm → AMem → List Note → Prop) : List Oper → Tm → AMem → List Note → Prop
  | [], t, m, ns => K t m ns.reverse
  | o :: os, t, m, ns =>
    if wantedA ops o t then OperM E t { m with wl := m.next } o.op fun v m' => tmM (putT n t o.dst v) fun t' =>
      NotedM E n ops K os t' { m' with wl := min m.wl m'.wl } ({ read := readsAt E t o.op, wl := m'.wl, next := m.next, wrote := writesAt E t o.op } :: ns)
    else tmM (putT n t o.dst undef) fun t' => NotedM E n ops K os t' m ({ read := none, wl := m.next, next := m.next, wrote := none } :: ns)

theorem notedA_of_M {ops : Array Oper} {K : Tm → AMem → List Note → Prop} : ∀ {os : List Oper} {t : Tm} {m : AMem} {ns : List Note}, NotedM E n ops K os t m ns → NotedA E n ops K os t m ns
  | [], t, m, ns, h => h
  | o :: os, t, m, ns, h => by
    simp only [NotedM] at h
    simp only [NotedA]
    split at h
    · rename_i hw
      rw [if_pos hw]
      refine h.A.mono fun v m' hv => ?_
      obtain ⟨t', hp, h2⟩ := hv.A
      exact ⟨t', hp, notedA_of_M h2⟩
    · rename_i hw
      rw [if_neg hw]
      obtain ⟨t', hp, h2⟩ := h.A
      exact ⟨t', hp, notedA_of_M h2⟩

theorem CodeA.drawM {id : Nat} {ops : Array Oper} {ps : List (Nat × Nat)} (hp : pairsOf ops = some ps) (h : NotedM E n ops (fun t m ns => (ps.all (pairOk ns ops) && ns.all noteOk) = true ∧ Q .normal t m) ops.toList t m []) : CodeA E n fn ro (.region id ops true) Q t m :=
  .draw hp (notedA_of_M h)
end

section
variable {E : Env} {n : Nat} {fn : FuncId} {ro : Option Nat} {t : Tm} {m : AMem}
def condM (r : Option Value) (A B : Prop) : Prop :=
  match r with
  | some (.bool c) => (c = true → A) ∧ (c = false → B)
  | _ => False
theorem condM_bool (c : Bool) (A B : Prop) : condM (some (.bool c)) A B = ((c = true → A) ∧ (c = false → B)) := rfl

/-- A function is called. -/
def hasCall : List Oper → Bool
  | [] => false
  | o :: os => match isCall o.op with
    | some _ => true
    | none => hasCall os

/-- Code without loops, as a condition that a rewriting unfolds; loops, drawn regions and ranges over functions stay. -/
def CodeM (E : Env) (n : Nat) (fn : FuncId) (ro : Option Nat) : Code → (AExit → Tm → AMem → Prop) → Tm → AMem → Prop
  | .skip, Q, t, m => Q .normal t m
  | .label _, Q, t, m => Q .normal t m
  | .exit id, Q, t, m => Q (.exit id) t m
  | .ret, Q, t, m => Q .ret t m
  | .seq a b, Q, t, m => CodeM E n fn ro a (thenA (CodeM E n fn ro b Q) Q) t m
  | .cond x a b, Q, t, m => condM (evalA E t x) (CodeM E n fn ro a Q t m) (CodeM E n fn ro b Q t m)
  | .block id a, Q, t, m => CodeM E n fn ro a (inBlockA id Q) t m
  | .scope a, Q, t, m => CodeM E n fn ro a Q t m
  | .region id ops draw, Q, t, m => if (draw || hasCall ops.toList) = true then CodeA E n fn ro (.region id ops draw) Q t m else OpsM E n ops (Q .normal) ops.toList t m
  | .loop a, Q, t, m => CodeA E n fn ro (.loop a) Q t m
  | .rangeFunc f ps a b, Q, t, m => CodeA E n fn ro (.rangeFunc f ps a b) Q t m
  | _, _, _, _ => False

section
variable {Q : AExit → Tm → AMem → Prop}
theorem cm_skip : CodeM E n fn ro .skip Q t m = Q .normal t m := rfl
theorem cm_exit {id : Nat} : CodeM E n fn ro (.exit id) Q t m = Q (.exit id) t m := rfl
theorem cm_ret : CodeM E n fn ro .ret Q t m = Q .ret t m := rfl
theorem cm_seq {a b : Code} : CodeM E n fn ro (.seq a b) Q t m = CodeM E n fn ro a (thenA (CodeM E n fn ro b Q) Q) t m := rfl
theorem cm_cond {x : Operand} {a b : Code} : CodeM E n fn ro (.cond x a b) Q t m = condM (evalA E t x) (CodeM E n fn ro a Q t m) (CodeM E n fn ro b Q t m) := rfl
theorem cm_block {id : Nat} {a : Code} : CodeM E n fn ro (.block id a) Q t m = CodeM E n fn ro a (inBlockA id Q) t m := rfl
theorem cm_scope {a : Code} : CodeM E n fn ro (.scope a) Q t m = CodeM E n fn ro a Q t m := rfl
theorem cm_region {id : Nat} {ops : Array Oper} {draw : Bool} : CodeM E n fn ro (.region id ops draw) Q t m = if (draw || hasCall ops.toList) = true then CodeA E n fn ro (.region id ops draw) Q t m else OpsM E n ops (Q .normal) ops.toList t m := rfl
theorem cm_plain {id : Nat} {ops : Array Oper} (h : hasCall ops.toList = false) : CodeM E n fn ro (.region id ops false) Q t m = OpsM E n ops (Q .normal) ops.toList t m := by
  rw [cm_region, h]; rfl
theorem cm_calls {id : Nat} {ops : Array Oper} (h : hasCall ops.toList = true) : CodeM E n fn ro (.region id ops false) Q t m = CodeA E n fn ro (.region id ops false) Q t m := by
  rw [cm_region, h]; rfl
theorem cm_draw {id : Nat} {ops : Array Oper} : CodeM E n fn ro (.region id ops true) Q t m = CodeA E n fn ro (.region id ops true) Q t m := rfl
theorem cm_loop {a : Code} : CodeM E n fn ro (.loop a) Q t m = CodeA E n fn ro (.loop a) Q t m := rfl
theorem cm_range {f : Operand} {ps : Array Tmp} {a b : Code} : CodeM E n fn ro (.rangeFunc f ps a b) Q t m = CodeA E n fn ro (.rangeFunc f ps a b) Q t m := rfl
theorem ta_normal {K : Tm → AMem → Prop} : thenA K Q .normal t m = K t m := rfl
theorem ta_exit {K : Tm → AMem → Prop} {id : Nat} : thenA K Q (.exit id) t m = Q (.exit id) t m := rfl
theorem ta_ret {K : Tm → AMem → Prop} : thenA K Q .ret t m = Q .ret t m := rfl
theorem ib_normal {id : Nat} : inBlockA id Q .normal t m = Q .normal t m := rfl
theorem ib_exit {id id' : Nat} : inBlockA id Q (.exit id') t m = if id' = id then Q .normal t m else Q (.exit id') t m := rfl
theorem ib_ret {id : Nat} : inBlockA id Q .ret t m = Q .ret t m := rfl
theorem om_nil {ops : Array Oper} {K : Tm → AMem → Prop} : OpsM E n ops K [] t m = K t m := rfl
theorem om_cons {ops : Array Oper} {K : Tm → AMem → Prop} {o : Oper} {os : List Oper} : OpsM E n ops K (o :: os) t m = if wantedA ops o t then OperM E t m o.op fun v m' => tmM (putT n t o.dst v) fun t' => OpsM E n ops K os t' m' else tmM (putT n t o.dst undef) fun t' => OpsM E n ops K os t' m := rfl
end

theorem CodeM.A : ∀ {c : Code} {Q : AExit → Tm → AMem → Prop} {t : Tm} {m : AMem}, CodeM E n fn ro c Q t m → CodeA E n fn ro c Q t m := by
  intro c
  induction c with
  | skip => intro Q t m h; exact .skip h
  | label l => intro Q t m h; exact .label h
  | exit id => intro Q t m h; exact .exit h
  | ret => intro Q t m h; exact .ret h
  | seq a b iha ihb =>
    intro Q t m h
    refine .seq ((iha h).mono fun e t' m' hq => ?_)
    cases e with
    | normal => exact ihb hq
    | exit id => exact hq
    | ret => exact hq
  | cond x a b iha ihb =>
    intro Q t m h
    simp only [CodeM] at h
    unfold condM at h
    split at h
    · rename_i c hx
      exact .cond hx (fun hc => iha (h.1 hc)) (fun hc => ihb (h.2 hc))
    · exact h.elim
  | block id a ih => intro Q t m h; exact .block (ih h)
  | scope a ih => intro Q t m h; exact .scope (ih h)
  | region id ops draw =>
    intro Q t m h
    simp only [CodeM] at h
    split at h
    · exact h
    · rename_i hd
      have hd' : draw = false := by cases draw <;> simp_all
      subst hd'
      exact .regionM h
  | loop a => intro Q t m h; exact h
  | rangeFunc f ps a b => intro Q t m h; exact h
  | _ => intro Q t m h; exact h.elim

/-- A region with calls: what comes behind is held back. -/
theorem CodeA.regionK {id : Nat} {ops : Array Oper} {Q : AExit → Tm → AMem → Prop} (h : ∀ K : Tm → AMem → Prop, (∀ t m, Q .normal t m → K t m) → OpsM E n ops K ops.toList t m) : CodeA E n fn ro (.region id ops false) Q t m :=
  .regionM (h _ fun _ _ h => h)

def resM (r : Option (List Value)) (R : Value → Prop) : Prop :=
  match r with
  | some vs => R (tupleA vs)
  | none => False
theorem resM_some (vs : List Value) (R : Value → Prop) : resM (some vs) R = R (tupleA vs) := rfl
def endM (E : Env) (rs : List ResultVar) (R : Value → AMem → Prop) : AExit → Tm → AMem → Prop
  | .exit _, _, _ => False
  | .normal, t, m => resM (resultsA E t m rs) fun v => R v m
  | .ret, t, m => resM (resultsA E t m rs) fun v => R v m

theorem em_exit {rs : List ResultVar} {R : Value → AMem → Prop} {id : Nat} : endM E rs R (.exit id) t m = False := rfl
theorem em_normal {rs : List ResultVar} {R : Value → AMem → Prop} : endM E rs R .normal t m = resM (resultsA E t m rs) fun v => R v m := rfl
theorem em_ret {rs : List ResultVar} {R : Value → AMem → Prop} : endM E rs R .ret t m = resM (resultsA E t m rs) fun v => R v m := rfl

theorem CallA.enterM {f : FuncId} {F : Func} {c : Code} {args : List Value} {rs : List ResultVar} {N : Nat} {R : Value → AMem → Prop} (hp : E.prim f = none) (hf : E.P.funcs[f]? = some F) (hb : F.body = some c) (hrs : F.results.toList = rs) (hN : max args.length F.ntmps = N)
    (h : CodeA E N f none c (endM E rs R) (Trie.ofList args 0 .nil) m) : CallA E f args m R := by
  subst hrs hN
  refine .enter hp hf hb (h.mono fun e t' m' hq => ?_)
  cases e with
  | exit id => exact hq.elim
  | normal =>
    refine ⟨fun id h => (by cases h), ?_⟩
    simp only [endM] at hq
    unfold resM at hq
    split at hq
    · rename_i vs hv; exact ⟨vs, hv, hq⟩
    · exact hq.elim
  | ret =>
    refine ⟨fun id h => (by cases h), ?_⟩
    simp only [endM] at hq
    unfold resM at hq
    split at hq
    · rename_i vs hv; exact ⟨vs, hv, hq⟩
    · exact hq.elim
end

theorem ofList_nil {α : Type} (i : Nat) (t : Trie α) : Trie.ofList [] i t = t := rfl
theorem ofList_cons {α : Type} (v : α) (vs : List α) (i : Nat) (t : Trie α) : Trie.ofList (v :: vs) i t = Trie.ofList vs (i + 1) (t.set i v) := rfl
theorem at_set (t : Tm) (i j : Nat) (v : Value) : Tm.at (Trie.set t i v) j = if j = i then v else Tm.at t j := by
  unfold Tm.at; rw [Trie.get_set]; split <;> rfl
theorem get_set (t : Tm) (i j : Nat) (v : Value) : Trie.get (Trie.set t i v) j = if j = i then some v else Trie.get t j := Trie.get_set t i j v
theorem putT_none (n : Nat) (t : Tm) (v : Value) : putT n t none v = some t := rfl
theorem putT_some (n : Nat) (t : Tm) (d : Nat) (v : Value) : putT n t (some d) v = if d < n then some (Trie.set t d v) else none := by
  unfold putT
  by_cases h : d < n
  · have : Nat.blt d n = true := by simpa using h
    simp only [this, if_pos h]
  · have : Nat.blt d n = false := by
      cases hb : Nat.blt d n with
      | false => rfl
      | true => exact (h (by simpa using hb)).elim
    simp only [this, if_neg h]
end Go.Ab
