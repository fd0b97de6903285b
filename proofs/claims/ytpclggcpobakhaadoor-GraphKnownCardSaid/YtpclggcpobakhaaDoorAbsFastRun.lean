/-
  An evaluator that the kernel likes: code and functions. What it finds true is true of a run of the interpreter.
-/
import Derived.Test.YtpclggcpobakhaaDoorAbsFast
namespace Go.Ab
open Go

structure Sem where
  run : Hand → Option Nat → Tm → AMem → (AExit → Tm → AMem → Bool) → Bool
noncomputable def byExit (e : AExit) (a : Bool) (b : Nat → Bool) (c : Bool) : Bool := AExit.rec (motive := fun _ => Bool) a b c e
noncomputable def loopN (S : Sem) : Nat → Hand → Option Nat → Tm → AMem → (AExit → Tm → AMem → Bool) → Bool :=
  Nat.rec (fun _ _ _ _ _ => false) fun _ ih H ro t m K => S.run H ro t m fun e t m => byExit e (ih H ro t m K) (fun id => K (.exit id) t m) (K .ret t m)
noncomputable def byState (s : LoopState) (ready busy other : Bool) : Bool := LoopState.rec (motive := fun _ => Bool) ready busy other other s
noncomputable def roundThere (ro : Option Nat) (m : AMem) (x : Bool) : Bool := Option.rec (motive := fun _ => Bool) x (fun l => loopK m l fun _ => x) ro
noncomputable def isNoneK {α : Type} (o : Option α) : Bool := Option.rec (motive := fun _ => Bool) true (fun _ => false) o
/-- A function is entered that ranges. -/
noncomputable def enterK (E : Env) (H : Hand) (f : Fn) (first captured : Array Value) (l : Nat) (m : AMem) (K : Value → AMem → Bool) : Bool :=
  Fn.rec (motive := fun _ => Bool) (fun g => ifB (isNoneK (E.prim g)) (appK first.toList [.func (.yield l) #[] #[]] fun as => appK as captured.toList fun as => H.call g as m K) false) (fun _ => false) (fun _ _ => false) (fun _ _ _ _ => false) (fun _ => false) f

noncomputable def ccode (E : Env) (n : Nat) (fn : FuncId) : Code → Sem
  | .skip => ⟨fun _ _ t m K => K .normal t m⟩
  | .label _ => ⟨fun _ _ t m K => K .normal t m⟩
  | .exit id => ⟨fun _ _ t m K => K (.exit id) t m⟩
  | .ret => ⟨fun _ _ t m K => K .ret t m⟩
  | .seq a b => ⟨fun H ro t m K => (ccode E n fn a).run H ro t m fun e t m => byExit e ((ccode E n fn b).run H ro t m K) (fun id => K (.exit id) t m) (K .ret t m)⟩
  | .cond x a b => ⟨fun H ro t m K => (cget E x).run t fun v => vBool v (fun c => ifB c ((ccode E n fn a).run H ro t m K) ((ccode E n fn b).run H ro t m K)) false⟩
  | .block id a => ⟨fun H ro t m K => (ccode E n fn a).run H ro t m fun e t m => byExit e (K .normal t m) (fun id' => ifB (Nat.beq id' id) (K .normal t m) (K (.exit id') t m)) (K .ret t m)⟩
  | .scope a => ⟨fun H ro t m K => (ccode E n fn a).run H ro t m K⟩
  | .loop a => ⟨fun H ro t m K => loopN (ccode E n fn a) 1000000 H ro t m K⟩
  | .region _ ops draw => ⟨fun H _ t m K => (creg E n ops draw).run H t m fun t m => K .normal t m⟩
  | .rangeFunc f params assign body => ⟨fun H ro t m K => roundThere ro m ((cget E f).run t fun fv => vFunc fv fun g first captured =>
      memAllocK m (.loop { state := .ready, pending := none, fn := fn, tmps := t, n := n, params := params, assign := assign, body := body }) fun l m1 => enterK E H g first captured l m1 fun _ m2 =>
        loopK m2 l fun r => ALoop.rec (motive := fun _ => Bool) (fun state pending fn' tmps' n' params' assign' body' => byState state
          (memSetK m2 l (.loop ⟨.exhausted, pending, fn', tmps', n', params', assign', body'⟩) fun m3 => Option.rec (motive := fun _ => Bool) (K .normal t m3) (fun c => Code.rec (motive := fun _ => Bool) false (fun _ _ _ => false) (fun _ _ _ _ => false) (fun _ _ _ _ _ => false) (fun _ _ _ => false) (fun _ _ => false) (fun _ _ _ _ _ _ => false) (fun id => K (.exit id) t m3) (fun _ _ => false) (fun _ => false) (fun _ => false) (K .ret t m3) (fun _ => false) c) pending)
          false
          (memSetK m2 l (.loop ⟨.exhausted, pending, fn', tmps', n', params', assign', body'⟩) fun m3 => Option.rec (motive := fun _ => Bool) (K .normal t m3) (fun c => Code.rec (motive := fun _ => Bool) false (fun _ _ _ => false) (fun _ _ _ _ => false) (fun _ _ _ _ _ => false) (fun _ _ _ => false) (fun _ _ => false) (fun _ _ _ _ _ _ => false) (fun id => K (.exit id) t m3) (fun _ _ => false) (fun _ => false) (fun _ => false) (K .ret t m3) (fun _ => false) c) pending)) r)⟩
  | .goto _ => ⟨fun _ _ _ _ _ => false⟩
  | .refuse _ => ⟨fun _ _ _ _ _ => false⟩

section
variable {E : Env} {n : Nat} {fn : FuncId} {ro : Option Nat} {Q : AExit → Tm → AMem → Prop} {t : Tm} {m : AMem}

/-- What is left to do once a loop over a function is over. -/
def afterA (E : Env) (n : Nat) (fn : FuncId) (ro : Option Nat) (t : Tm) (l : Nat) (Q : AExit → Tm → AMem → Prop) (m2 : AMem) : Prop :=
  ∃ r, m2.get l = some (.loop r) ∧ r.state ≠ .busy ∧ ((r.pending = none ∧ Q .normal t (m2.set l (.loop { r with state := .exhausted }))) ∨ (∃ c, r.pending = some c ∧ CodeA E n fn ro c Q t (m2.set l (.loop { r with state := .exhausted }))))

theorem CodeA.rangeFunc {f : Operand} {params : Array Tmp} {assign body : Code} {g : FuncId} {first captured : Array Value} (hf : evalA E t f = some (.func (.func g) first captured)) (ha : aroundOk E ⟨t, n, fn, ro⟩ m f = true)
    (h : CallA E g (first.toList ++ [.func (.yield m.next) #[] #[]] ++ captured.toList) (m.alloc (.loop { state := .ready, pending := none, fn := fn, tmps := t, n := n, params := params, assign := assign, body := body })) (fun _ m2 => afterA E n fn ro t m.next Q m2)) :
    CodeA E n fn ro (.rangeFunc f params assign body) Q t m := by
  obtain ⟨v, m2, ⟨k1, h1⟩, r, hr, hb, hq⟩ := h
  rcases hq with ⟨hp, hq⟩ | ⟨c, hp, e, t', m', ⟨k2, h2⟩, hq⟩
  · refine ⟨_, _, _, runs_step (k := k1) ?_, hq⟩
    cases hs : r.state with
    | busy => exact absurd hs hb
    | _ => simp only [step, hf, ha, h1, hr, hs, hp]
  · refine ⟨_, _, _, runs_step (k := max k1 k2) ?_, hq⟩
    obtain ⟨state, pending, fn', tmps', n', params', assign', body'⟩ := r
    have hp' : pending = some c := hp
    subst hp'
    have h2' := run_le (Nat.le_max_right k1 k2) h2
    cases state with
    | busy => exact absurd rfl hb
    | _ => simp only [step, hf, ha, run_le (Nat.le_max_left k1 k2) h1, hr, h2']

def roB (ro : Option Nat) (m : AMem) : Bool :=
  match ro with
  | none => true
  | some l => match m.get l with
    | some (.loop _) => true
    | _ => false
theorem roundThere_true {x : Bool} (h : roundThere ro m x = true) : x = true ∧ roB ro m = true := by
  cases ro with
  | none => exact ⟨h, rfl⟩
  | some l =>
    obtain ⟨r, h1, h2⟩ := loopK_true h
    exact ⟨h2, by simp only [roB, h1]⟩
theorem byExit_true {e : AExit} {a : Bool} {b : Nat → Bool} {c : Bool} (h : byExit e a b c = true) : (e = .normal ∧ a = true) ∨ (∃ id, e = .exit id ∧ b id = true) ∨ (e = .ret ∧ c = true) := by
  cases e with
  | normal => exact .inl ⟨rfl, h⟩
  | exit id => exact .inr (.inl ⟨id, rfl, h⟩)
  | ret => exact .inr (.inr ⟨rfl, h⟩)

theorem loopN_ok {H : Hand} {a : Code} {S : Sem} (hS : ∀ {t : Tm} {m : AMem} {K : AExit → Tm → AMem → Bool}, S.run H ro t m K = true → CodeA E n fn ro a (fun e t m => K e t m = true) t m) {K : AExit → Tm → AMem → Bool} :
    ∀ (k : Nat) {t : Tm} {m : AMem}, loopN S k H ro t m K = true → LoopA E n fn ro a (fun e t m => K e t m = true) t m
  | 0, t, m, h => by cases h
  | k + 1, t, m, h => by
    have h' : (S.run H ro t m fun e t m => byExit e (loopN S k H ro t m K) (fun id => K (.exit id) t m) (K .ret t m)) = true := h
    refine .round ((hS h').mono fun e t m h => ?_)
    rcases byExit_true h with ⟨rfl, h⟩ | ⟨id, rfl, h⟩ | ⟨rfl, h⟩
    · exact loopN_ok hS k h
    · exact h
    · exact h

theorem pendK_true {c : Code} {a : Nat → Bool} {b : Bool} (h : Code.rec (motive := fun _ => Bool) false (fun _ _ _ => false) (fun _ _ _ _ => false) (fun _ _ _ _ _ => false) (fun _ _ _ => false) (fun _ _ => false) (fun _ _ _ _ _ _ => false) a (fun _ _ => false) (fun _ => false) (fun _ => false) b (fun _ => false) c = true) :
    (∃ id, c = .exit id ∧ a id = true) ∨ (c = .ret ∧ b = true) := by
  cases c <;> first | exact .inl ⟨_, rfl, h⟩ | exact .inr ⟨rfl, h⟩ | cases h

theorem ccode_ok {H : Hand} (hH : HOk E H) : ∀ (c : Code) {ro : Option Nat} {t : Tm} {m : AMem} {K : AExit → Tm → AMem → Bool}, (ccode E n fn c).run H ro t m K = true → CodeA E n fn ro c (fun e t m => K e t m = true) t m := by
  intro c
  induction c with
  | skip => intro ro t m K h; exact .skip h
  | label l => intro ro t m K h; exact .label h
  | exit id => intro ro t m K h; exact .exit h
  | ret => intro ro t m K h; exact .ret h
  | seq a b iha ihb =>
    intro ro t m K h
    refine .seq ((iha (K := fun e t m => byExit e ((ccode E n fn b).run H ro t m K) (fun id => K (.exit id) t m) (K .ret t m)) h).mono fun e t m h => ?_)
    rcases byExit_true h with ⟨rfl, h⟩ | ⟨id, rfl, h⟩ | ⟨rfl, h⟩
    · exact ihb h
    · exact h
    · exact h
  | cond x a b iha ihb =>
    intro ro t m K h
    obtain ⟨v, h1, h⟩ := cget_ok (x := x) h
    obtain ⟨c, rfl, h⟩ := vBool_true h
    refine .cond h1 (fun hc => ?_) (fun hc => ?_)
    · subst hc; exact iha h
    · subst hc; exact ihb h
  | block id a ih =>
    intro ro t m K h
    refine .block ((ih (K := fun e t m => byExit e (K .normal t m) (fun id' => ifB (Nat.beq id' id) (K .normal t m) (K (.exit id') t m)) (K .ret t m)) h).mono fun e t m h => ?_)
    rcases byExit_true h with ⟨rfl, h⟩ | ⟨id', rfl, h⟩ | ⟨rfl, h⟩
    · exact h
    · simp only [inBlockA]
      rcases ifB_true h with ⟨h1, h⟩ | ⟨h1, h⟩
      · rw [if_pos (Nat.eq_of_beq_eq_true h1)]; exact h
      · rw [if_neg (Nat.ne_of_beq_eq_false h1)]; exact h
    · exact h
  | scope a ih => intro ro t m K h; exact .scope (ih h)
  | loop a ih => intro ro t m K h; exact .loop (loopN_ok (fun h => ih h) 1000000 h)
  | region id ops draw => intro ro t m K h; exact creg_ok hH (fun t m h => h) h
  | rangeFunc f params assign body iha ihb =>
    intro ro t m K h
    obtain ⟨h, hro⟩ := roundThere_true h
    obtain ⟨fv, h1, h⟩ := cget_ok (x := f) h
    have g := vFunc_true h; clear h; obtain ⟨g, first, captured, rfl, h⟩ := g
    rw [memAllocK_eq] at h
    cases g with
    | func g =>
      have g' := ifB_and h; clear h; obtain ⟨hp, h⟩ := g'
      rw [appK_eq, appK_eq] at h
      have hp' : (E.prim g).isNone = true := by cases hg : E.prim g with
        | none => rfl
        | some p => rw [hg] at hp; cases hp
      have hro' : aroundOk E ⟨t, n, fn, ro⟩ m f = true := by
        unfold aroundOk
        simp only [h1, hp', Bool.true_and]
        exact hro
      refine .rangeFunc h1 hro' ((hH.1 h).mono fun v m2 h => ?_)
      obtain ⟨r, hr, h⟩ := loopK_true h
      refine ⟨r, hr, ?_⟩
      obtain ⟨state, pending, fn', tmps', n', params', assign', body'⟩ := r
      have key : ∀ {x : Bool}, (x = memSetK m2 m.next (.loop ⟨.exhausted, pending, fn', tmps', n', params', assign', body'⟩) fun m3 => Option.rec (motive := fun _ => Bool) (K .normal t m3) (fun c => Code.rec (motive := fun _ => Bool) false (fun _ _ _ => false) (fun _ _ _ _ => false) (fun _ _ _ _ _ => false) (fun _ _ _ => false) (fun _ _ => false) (fun _ _ _ _ _ _ => false) (fun id => K (.exit id) t m3) (fun _ _ => false) (fun _ => false) (fun _ => false) (K .ret t m3) (fun _ => false) c) pending) → x = true →
          ((pending = none ∧ K .normal t (m2.set m.next (.loop ⟨.exhausted, pending, fn', tmps', n', params', assign', body'⟩)) = true) ∨ (∃ c, pending = some c ∧ CodeA E n fn ro c (fun e t m => K e t m = true) t (m2.set m.next (.loop ⟨.exhausted, pending, fn', tmps', n', params', assign', body'⟩)))) := by
        intro x hx hx'
        rw [hx, memSetK_eq] at hx'
        cases pending with
        | none => exact .inl ⟨rfl, hx'⟩
        | some c =>
          rcases pendK_true hx' with ⟨id, rfl, h⟩ | ⟨rfl, h⟩
          · exact .inr ⟨_, rfl, .exit h⟩
          · exact .inr ⟨_, rfl, .ret h⟩
      cases state with
      | busy => cases h
      | ready => exact ⟨(by intro e; cases e), key rfl h⟩
      | done => exact ⟨(by intro e; cases e), key rfl h⟩
      | exhausted => exact ⟨(by intro e; cases e), key rfl h⟩
    | _ => cases h
  | goto l => intro ro t m K h; cases h
  | refuse w => intro ro t m K h; cases h
end

/-! ### Functions -/
structure ResSem where
  run : Tm → AMem → (List Value → Bool) → Bool
noncomputable def cres (E : Env) : List ResultVar → ResSem
  | [] => ⟨fun _ _ k => k []⟩
  | .tmp i :: rs => ⟨fun t m k => (getD' i).run t fun v => (cres E rs).run t m fun vs => k (v :: vs)⟩
  | .cell a ty :: rs => ⟨fun t m k => (getD' a).run t fun p => (cload E.P ty).run p m fun v => (cres E rs).run t m fun vs => k (v :: vs)⟩
theorem cres_ok {E : Env} {t : Tm} {m : AMem} : ∀ {rs : List ResultVar} {k : List Value → Bool}, (cres E rs).run t m k = true → ∃ vs, resultsA E t m rs = some vs ∧ k vs = true
  | [], k, h => ⟨[], rfl, h⟩
  | .tmp i :: rs, k, h => by
    have h' := getD'_ok (d := i) h
    obtain ⟨vs, h1, h2⟩ := cres_ok h'
    exact ⟨_, by simp only [resultsA, h1, Option.map_some], h2⟩
  | .cell a ty :: rs, k, h => by
    have h' := getD'_ok (d := a) h
    obtain ⟨v, h1, h'⟩ := cload_ok h'
    obtain ⟨vs, h2, h3⟩ := cres_ok h'
    exact ⟨_, by simp only [resultsA, h1, h2], h3⟩
noncomputable def tupK (vs : List Value) (k : Value → Bool) : Bool :=
  List.rec (motive := fun _ => Bool) (k (.tuple #[])) (fun v rest _ => List.rec (motive := fun _ => Bool) (k v) (fun w rest' _ => k (.tuple ⟨v :: w :: rest'⟩)) rest) vs
theorem tupK_eq (vs : List Value) (k : Value → Bool) : tupK vs k = k (tupleA vs) := by
  match vs with
  | [] => rfl
  | [v] => rfl
  | v :: w :: rest => rfl
noncomputable def frameK (args : List Value) : Nat → Tm → (Tm → Bool) → Bool :=
  List.rec (motive := fun _ => Nat → Tm → (Tm → Bool) → Bool) (fun _ t k => k t) (fun v _ ih i t k => (putT' i).run t v fun t => fN (Nat.succ i) fun i => ih i t k) args
theorem frameK_eq : ∀ (args : List Value) (i : Nat) (t : Tm) (k : Tm → Bool), i + args.length ≤ 512 → frameK args i t k = k (Trie.ofList args i t)
  | [], i, t, k, _ => rfl
  | v :: vs, i, t, k, h => by
    have hi : i < 512 := by simp at h; omega
    show (putT' i).run t v (fun t => fN (Nat.succ i) fun i => frameK vs i t k) = _
    rw [putT'_eq i hi, fN_eq, frameK_eq vs (i + 1) _ k (by simp at h; omega)]
    rfl
structure FunSem where
  run : Hand → List Value → AMem → (Value → AMem → Bool) → Bool
/-- Contracts, evaluated. -/
structure PSem where
  run : List Value → AMem → (Value → AMem → Bool) → Bool
def FOk (E : Env) (F : FuncId → Option PSem) : Prop := ∀ {f : FuncId} {S : PSem}, F f = some S → ∃ p, E.prim f = some p ∧ ∀ {args : List Value} {m : AMem} {K : Value → AMem → Bool}, S.run args m K = true → ∃ v m', p.run args m = some (v, m') ∧ K v m' = true
/-- A function's code. -/
noncomputable def ccall (E : Env) (f : FuncId) : FunSem :=
  match E.P.funcs[f]? with
  | some fn => match fn.body, Nat.ble fn.ntmps 512 with
    | some c, true => ⟨fun H args m K => ifB (Nat.ble args.length fn.ntmps) (frameK args 0 .nil fun t => (ccode E fn.ntmps f c).run H none t m fun e t m => byExit e ((cres E fn.results.toList).run t m fun vs => tupK vs fun v => K v m) (fun _ => false) ((cres E fn.results.toList).run t m fun vs => tupK vs fun v => K v m)) false⟩
    | _, _ => ⟨fun _ _ _ _ => false⟩
  | none => ⟨fun _ _ _ _ => false⟩
noncomputable def cfun (E : Env) (F : FuncId → Option PSem) (f : FuncId) : FunSem :=
  match F f with
  | some S => ⟨fun _ args m K => S.run args m K⟩
  | none => match E.prim f with
    | some p => ⟨fun H args m K => Option.rec (motive := fun _ => Bool) ((ccall E f).run H args m K) (fun r => Prod.rec (motive := fun _ => Bool) (fun v m' => fV v fun v => fM m' fun m' => K v m') r) (p.run args m)⟩
    | none => ccall E f
theorem CallA.prim {E : Env} {f : FuncId} {p : Prim} {args : List Value} {m m' : AMem} {v : Value} {R : Value → AMem → Prop} (hp : E.prim f = some p) (h : p.run args m = some (v, m')) (hR : R v m') : CallA E f args m R := by
  have hpa : primA E f args m = some (v, m') := by
    unfold primA
    rw [hp]
    exact h
  exact ⟨v, m', runs_step (k := 0) (by simp only [step, hpa]), hR⟩
theorem ccall_ok {E : Env} {H : Hand} (hH : HOk E H) {f : FuncId} {args : List Value} {m : AMem} (hpa : primA E f args m = none) {K : Value → AMem → Bool} (h : (ccall E f).run H args m K = true) : CallA E f args m fun v m' => K v m' = true := by
  unfold ccall at h
  split at h
  · rename_i F hf
    split at h
    · rename_i c hb hn
      have g := ifB_and h; clear h; obtain ⟨h1, h⟩ := g
      have hle := Nat.le_of_ble_eq_true h1
      have hn' := Nat.le_of_ble_eq_true hn
      rw [frameK_eq args 0 _ _ (by omega)] at h
      have hmax : max args.length F.ntmps = F.ntmps := Nat.max_eq_right hle
      refine .enterP hpa hf hb ?_
      rw [hmax]
      refine (ccode_ok hH c h).mono fun e t m h => ?_
      rcases byExit_true h with ⟨rfl, h⟩ | ⟨id, rfl, h⟩ | ⟨rfl, h⟩
      · obtain ⟨vs, h2, h⟩ := cres_ok h
        rw [tupK_eq] at h
        exact ⟨fun id e => (by cases e), vs, h2, h⟩
      · cases h
      · obtain ⟨vs, h2, h⟩ := cres_ok h
        rw [tupK_eq] at h
        exact ⟨fun id e => (by cases e), vs, h2, h⟩
    · cases h
  · cases h
theorem cfun_ok {E : Env} {F : FuncId → Option PSem} (hF : FOk E F) {H : Hand} (hH : HOk E H) {f : FuncId} {args : List Value} {m : AMem} {K : Value → AMem → Bool} (h : (cfun E F f).run H args m K = true) : CallA E f args m fun v m' => K v m' = true := by
  unfold cfun at h
  split at h
  · rename_i S hS
    obtain ⟨p, hp, hS'⟩ := hF hS
    obtain ⟨v, m', h1, h2⟩ := hS' h
    exact .prim hp h1 h2
  split at h
  · rename_i p hp
    simp only at h
    cases he : p.run args m with
    | none =>
      rw [he] at h
      exact ccall_ok hH (by unfold primA; rw [hp]; exact he) h
    | some r =>
      obtain ⟨v, m'⟩ := r
      rw [he] at h
      simp only [fV_eq, fM_eq] at h
      exact .prim hp he h
  · rename_i hp
    exact ccall_ok hH (by unfold primA; rw [hp]; rfl) h

/-! ### Rounds -/
noncomputable def setParK (n : Nat) : List Tmp → List Value → Tm → (Tm → Bool) → Bool
  | p :: ps, v :: vs, t, k => (putD n (some p)).run t v fun t => setParK n ps vs t k
  | _, _, t, k => k t
theorem setParK_true {n : Nat} : ∀ {ps : List Tmp} {vs : List Value} {t : Tm} {k : Tm → Bool}, setParK n ps vs t k = true → ∃ t', setParams n t ps vs = some t' ∧ k t' = true
  | p :: ps, v :: vs, t, k, h => by
    have h' : ((putD n (some p)).run t v fun t => setParK n ps vs t k) = true := by rw [setParK] at h; exact h
    obtain ⟨t', hp, h2⟩ := putD_ok h'
    obtain ⟨t'', h3, h4⟩ := setParK_true h2
    refine ⟨t'', ?_, h4⟩
    unfold setParams
    unfold putT at hp
    simp only at hp
    split at hp
    · rename_i hb; cases hp; exact h3
    · cases hp
  | [], vs, t, k, h => ⟨t, by unfold setParams; rfl, by rw [setParK] at h; exact h; intros; simp_all⟩
  | p :: ps, [], t, k, h => ⟨t, by unfold setParams; rfl, by rw [setParK] at h; exact h; intros; simp_all⟩
noncomputable def roundK (E : Env) (H : Hand) (l : Nat) (args : List Value) (m : AMem) (K : Value → AMem → Bool) : Bool :=
  loopK m l fun r => ALoop.rec (motive := fun _ => Bool) (fun state pending fn tmps n params assign body => byState state
    (ifB (Nat.beq args.length params.size) (setParK n params.toList args tmps fun t0 => (ccode E n fn assign).run H (some l) t0 m fun e t1 m1 => byExit e
      (loopK m1 l fun r1 => ALoop.rec (motive := fun _ => Bool) (fun state1 pending1 fn1 tmps1 n1 params1 assign1 body1 => byState state1
        (memSetK m1 l (.loop ⟨.busy, pending1, fn1, tmps1, n1, params1, assign1, body1⟩) fun m1' => (ccode E n fn body).run H (some l) t1 m1' fun e m2t m2 => loopK m2 l fun r2 => ALoop.rec (motive := fun _ => Bool) (fun _ _ fn2 tmps2 n2 params2 assign2 body2 =>
          byExit e (memSetK m2 l (.loop ⟨.ready, none, fn2, tmps2, n2, params2, assign2, body2⟩) fun m3 => K (.bool true) m3)
            (fun id => memSetK m2 l (.loop ⟨.done, some (.exit id), fn2, tmps2, n2, params2, assign2, body2⟩) fun m3 => K (.bool false) m3)
            (memSetK m2 l (.loop ⟨.done, some .ret, fn2, tmps2, n2, params2, assign2, body2⟩) fun m3 => K (.bool false) m3)) r2)
        false false) r1)
      (fun _ => false) false) false)
    false false) r
theorem byState_ready {s : LoopState} {a : Bool} (h : byState s a false false = true) : s = .ready ∧ a = true := by
  cases s <;> first | exact ⟨rfl, h⟩ | cases h
theorem roundK_ok {E : Env} {H : Hand} (hH : HOk E H) {l : Nat} {args : List Value} {m : AMem} {K : Value → AMem → Bool} (h : roundK E H l args m K = true) : RoundA E l args m fun v m' => K v m' = true := by
  obtain ⟨r, hr, h⟩ := loopK_true h
  obtain ⟨state, pending, fn, tmps, n, params, assign, body⟩ := r
  have g := byState_ready h; clear h; obtain ⟨rfl, h⟩ := g
  obtain ⟨h1, h⟩ := ifB_and h
  obtain ⟨t0, h2, h⟩ := setParK_true h
  obtain ⟨e, t1, m1, ⟨k1, h3⟩, h⟩ := ccode_ok hH assign h
  rcases byExit_true h with ⟨rfl, h⟩ | ⟨id, rfl, h⟩ | ⟨rfl, h⟩
  · obtain ⟨r1, hr1, h⟩ := loopK_true h
    obtain ⟨state1, pending1, fn1, tmps1, n1, params1, assign1, body1⟩ := r1
    have g := byState_ready h; clear h; obtain ⟨rfl, h⟩ := g
    rw [memSetK_eq] at h
    obtain ⟨e, t2, m2, ⟨k2, h4⟩, h⟩ := ccode_ok hH body h
    obtain ⟨r2, hr2, h⟩ := loopK_true h
    obtain ⟨state2, pending2, fn2, tmps2, n2, params2, assign2, body2⟩ := r2
    have hlen : ¬ args.length ≠ params.size := by have := Nat.eq_of_beq_eq_true h1; omega
    have hb : step E (run E (max k1 k2)) (.round l args m) = some (.val (.bool (jumpOf e).isNone) (m2.set l (.loop ⟨if (jumpOf e).isNone then .ready else .done, jumpOf e, fn2, tmps2, n2, params2, assign2, body2⟩))) := by
      simp only [step, hr, if_neg hlen, h2, run_le (Nat.le_max_left k1 k2) h3, hr1, run_le (Nat.le_max_right k1 k2) h4, hr2]
    rcases byExit_true h with ⟨rfl, hz⟩ | ⟨id, rfl, hz⟩ | ⟨rfl, hz⟩
    · rw [memSetK_eq] at hz
      exact ⟨_, _, runs_step (k := max k1 k2) hb, hz⟩
    · rw [memSetK_eq] at hz
      exact ⟨_, _, runs_step (k := max k1 k2) hb, hz⟩
    · rw [memSetK_eq] at hz
      exact ⟨_, _, runs_step (k := max k1 k2) hb, hz⟩
  · cases h
  · cases h

/-! ### All together -/
noncomputable def hand (E : Env) (F : FuncId → Option PSem) : Nat → Hand :=
  Nat.rec ⟨fun _ _ _ _ => false, fun _ _ _ _ => false⟩ fun _ ih => ⟨fun f args m K => (cfun E F f).run ih args m K, fun l args m K => roundK E ih l args m K⟩
theorem hand_ok {E : Env} {F : FuncId → Option PSem} (hF : FOk E F) : ∀ n, HOk E (hand E F n)
  | 0 => ⟨fun h => (by cases h), fun h => (by cases h)⟩
  | n + 1 => ⟨fun h => cfun_ok hF (hand_ok hF n) h, fun h => roundK_ok (hand_ok hF n) h⟩
/-- A call, evaluated. -/
theorem call_of_fast {E : Env} {F : FuncId → Option PSem} (hF : FOk E F) {n : Nat} {f : FuncId} {args : List Value} {m : AMem} {K : Value → AMem → Bool} (h : (hand E F n).call f args m K = true) : ∃ fuel v m', run E fuel (.call f args m) = some (.val v m') ∧ K v m' = true := by
  obtain ⟨v, m', ⟨k, h1⟩, h2⟩ := (hand_ok hF n).1 h
  exact ⟨k, v, m', h1, h2⟩
/-- A law answers true, and writes nothing that lay. -/
noncomputable def yesK (n : Nat) (v : Value) (m : AMem) : Bool := vBool v (fun b => ifB b (Nat.ble n m.wl) false) false
theorem yes_of_fast {E : Env} {F : FuncId → Option PSem} (hF : FOk E F) {n g : Nat} {f : FuncId} {args : List Value} {m : AMem} (h : (hand E F n).call f args m (yesK g) = true) : ∃ fuel m', run E fuel (.call f args m) = some (.val (.bool true) m') ∧ g ≤ m'.wl := by
  obtain ⟨k, v, m', h1, h2⟩ := call_of_fast hF h
  obtain ⟨b, rfl, h2⟩ := vBool_true h2
  obtain ⟨rfl, h2⟩ := ifB_and h2
  exact ⟨k, m', h1, Nat.le_of_ble_eq_true h2⟩
end Go.Ab
