/-
  The abstract machine and the model: calls, regions in the order of the text, what a step of the interpreter must keep.
-/
import Derived.Test.YtpclggcpobakhaaDoorAbsStep
import Derived.OrdersIn
import Derived.LeavingIn
namespace Go.Ab
open Go

def concE : AExit → Exit
  | .normal => .normal
  | .exit id => .exit id
  | .ret => .ret

/-- A fence that shuts nothing out. -/
def Wide (F : Fence) : Prop := F = Fence.wide ∨ ∃ l, F = Fence.wide.inRound l
theorem Wide.fn {F : Fence} (h : Wide F) (f : FuncId) : F.fn f := by
  rcases h with rfl | ⟨l, rfl⟩ <;> trivial
theorem Wide.room {F : Fence} (h : Wide F) (n : Nat) : F.room n := by
  rcases h with rfl | ⟨l, rfl⟩ <;> intro d hd <;> simp [Fence.wide] at hd
theorem Wide.depth {F : Fence} (h : Wide F) {n : Nat} : F.depth.isSome = true → 1 ≤ n := by
  rcases h with rfl | ⟨l, rfl⟩ <;> intro hd <;> simp [Fence.wide] at hd
theorem Wide.calls {F : Fence} (h : Wide F) {n : Nat} {P : Program} {f : FuncId} {args : Array Value} {w : World} {R : Ending → World → Prop} (hc : CallsIn Fence.wide n P f args w R) : CallsIn F n P f args w R := by
  rcases h with rfl | ⟨l, rfl⟩
  · exact hc
  · exact hc
theorem Wide.roundIn {F : Fence} (h : Wide F) {n : Nat} {P : Program} {l : Nat} {f : FuncId} {tmps : Array Value} {x y : Code} {w : World} {R : Ending → World → Prop} (hc : RoundIn Fence.wide n P l f tmps x y w R) : RoundIn F n P l f tmps x y w R := by
  rcases h with rfl | ⟨l, rfl⟩
  · exact hc
  · exact hc

/-- The frame's round, and the fence. -/
def RoundF (j : Inj) (r : Option Nat) (F : Fence) : Prop :=
  match r with
  | none => F = Fence.wide
  | some l => ∃ k, j l = some k ∧ F = Fence.wide.inRound k.c
theorem RoundF.wide {j : Inj} {r : Option Nat} {F : Fence} (h : RoundF j r F) : Wide F := by
  cases r with
  | none => exact .inl h
  | some l => obtain ⟨k, _, rfl⟩ := h; exact .inr ⟨_, rfl⟩
theorem RoundF.mono {j j' : Inj} (hj : j.le j') {r : Option Nat} {F : Fence} (h : RoundF j r F) : RoundF j' r F := by
  cases r with
  | none => exact h
  | some l => obtain ⟨k, h1, rfl⟩ := h; exact ⟨k, hj _ _ h1, rfl⟩

def markOf (r : Nat) : Deferred := { target := .collected r, args := #[] }
/-- The marks that ranges over functions have left. -/
def Marks (N : Nat) (w : World) (ds : List Deferred) : Prop := ∃ rs : List Nat, rs.Nodup ∧ ds = rs.map markOf ∧ ∀ r ∈ rs, N ≤ r ∧ w.heap[r]? = some (.deferred (some []))
theorem Marks.nil (N : Nat) (w : World) : Marks N w [] := ⟨[], List.nodup_nil, rfl, fun r h => by simp at h⟩
/-- A mark's block stands for no block. -/
theorem not_mark {E : Env} {j : Inj} {m : AMem} {w : World} (h : MR E j m w) {r : Nat} (hr : w.heap[r]? = some (.deferred (some []))) : ∀ b k, j b = some k → (m.get b).isSome = true → k.c ≠ r := by
  intro b k hb hl he
  cases hg : m.get b with
  | none => rw [hg] at hl; cases hl
  | some o =>
    obtain ⟨o', h1, h2⟩ := h.obj b o k hg hb
    rw [he, hr] at h1
    cases h1
    cases o <;> exact h2.elim
theorem Marks.sim {E : Env} {j j' : Inj} {m m' : AMem} {w w' : World} (h : MR E j m w) (s : Sim E j m w j' m' w') {N : Nat} {ds : List Deferred} (hm : Marks N w ds) : Marks N w' ds := by
  obtain ⟨rs, h1, h2, h3⟩ := hm
  refine ⟨rs, h1, h2, fun r hr => ⟨(h3 r hr).1, ?_⟩⟩
  have hh := (h3 r hr).2
  rw [s.frame r (Array.getElem?_eq_some_iff.1 hh).1 fun b k hb hl he => absurd he (not_mark h hh b k hb hl)]
  exact hh

/-! ### What a step of the interpreter keeps -/
def CodeQ (E : Env) (j : Inj) (m : AMem) (w : World) (N n : Nat) (e : AExit) (t : Tm) (m' : AMem) : Exit → Act → World → Prop := fun e' a' w' =>
  e' = concE e ∧ ∃ j', Sim E j m w j' m' w' ∧ TR n j' t a'.tmps ∧ Marks N w' a'.defers

def CodeSim (E : Env) (cs : Nat → Program → Fence → (Exit → Act → World → Prop) → Act → World → Prop) (fr : Fr) (m : AMem) (r : Res) : Prop :=
  ∃ e t m', r = .code e t m' ∧ ∀ (j : Inj) (w : World) (a : Act) (F : Fence) (N : Nat), MR E j m w → TR fr.n j fr.tmps a.tmps → RoundF j fr.round F → Marks N w a.defers → N ≤ w.heap.size →
    cs 0 E.P F (CodeQ E j m w N fr.n e t m') a w

/-- A call's outcome, in the model. -/
def CallOk (P : Program) (pr : Bool) (f : FuncId) (args : Array Value) (w : World) (R : Value → World → Prop) : Prop :=
  ((callFunc f args).run P w = .ok (.enter f args) w ∧ CallsIn Fence.wide 0 P f args w (fun e w' => ∃ v, e = .returned v ∧ R v w')) ∨
    (pr = true ∧ ∃ v w', (callFunc f args).run P w = .ok (.value v) w' ∧ R v w')

def ValQ (E : Env) (j : Inj) (m : AMem) (w : World) (v : Value) (m' : AMem) : Value → World → Prop := fun v' w' => ∃ j', Sim E j m w j' m' w' ∧ VR j' v v'

def CallSim (E : Env) (f : FuncId) (args : List Value) (m : AMem) (r : Res) : Prop :=
  ∃ v m', r = .val v m' ∧ ∀ (j : Inj) (w : World) (args' : List Value), MR E j m w → LR j args args' → CallOk E.P (E.prim f).isSome f args'.toArray w (ValQ E j m w v m')

def RoundSim (E : Env) (l : Nat) (args : List Value) (m : AMem) (r : Res) : Prop :=
  ∃ v m', r = .val v m' ∧ ∀ (j : Inj) (w : World) (k : Blk) (args' : List Value), MR E j m w → j l = some k → LR j args args' →
    ∃ fn tmps assign body, (Instr.yield k.c args'.toArray).run E.P w = .ok (.round k.c fn tmps assign body) w ∧
      RoundIn Fence.wide 0 E.P k.c fn tmps assign body w (fun e w' => ∃ v', e = .returned v' ∧ ValQ E j m w v m' v' w')

/-- A loop's rounds, as the machine goes round. -/
def LoopIn (F : Fence) (n : Nat) (P : Program) (c : Code) (Q : Exit → Act → World → Prop) (a : Act) (w : World) : Prop :=
  ∀ (b : Frame) (k : List Item) (cs : List Frame), b.roundOf = F.round → F.fn b.fn → F.room (cs.length + 1 + n) →
    ∃ e a' w', Q e a' w' ∧ ArrivesIn (Machine.fenced P F) P (lone (b.atR a (.code c :: .inLoop c :: k)) cs w) b k cs e a' w'

def TaskSim (E : Env) : Task → Res → Prop
  | .code c fr m, r => CodeSim E (fun n P F Q a w => c.wpIn F n P Q a w) fr m r
  | .loop c fr m, r => CodeSim E (fun n P F Q a w => LoopIn F n P c Q a w) fr m r
  | .call f args m, r => CallSim E f args m r
  | .round l args m, r => RoundSim E l args m r

structure EnvOk (E : Env) : Prop where
  call : ∀ f fn c, E.P.funcs[f]? = some fn → fn.body = some c → ∀ args w, (callFunc f args).run E.P w = .ok (.enter f args) w
  mixed : E.P.follows .mixedOrders = true
  prim : ∀ f p, E.prim f = some p → ∀ args m v m', p.run args m = some (v, m') → ∀ (j : Inj) (w : World) (args' : List Value), MR E j m w → LR j args args' → CallOk E.P (E.prim f).isSome f args'.toArray w (ValQ E j m w v m')

/-! ### One operation -/
theorem wpIn_value {F : Fence} (hF : Wide F) {P : Program} {o : Oper} {a : Act} {w w' : World} {v : Value} {next : Act → World → Prop} {Q : Exit → Act → World → Prop} (hd : ∀ c, o.op ≠ .defer c)
    (h : Outs P (execOp a.eval o) v w w') (hn : next (a.put o.dst v) w') : o.wpIn F 0 P a w next Q := by
  refine ⟨fun f _ => hF.fn f, ?_⟩
  rw [Oper.semAt_eq _ _ _ hd]
  rcases h with h | ⟨h, rfl⟩
  · rw [h]; exact hn
  · rw [h]; exact hn

section
variable {E : Env} {k : K}

theorem opA_noDefer {t : Tm} {m : AMem} {o : Op} {r : Value × AMem} (h : opA E t m o = some r) : ∀ c, o ≠ .defer c := by
  intro c e; subst e; simp [opA] at h

/-- What an operation comes to in the model, whatever frame it stands in. -/
def Does (P : Program) (s : Sem Next) (w : World) (G : Value → World → Prop) : Prop :=
  (∃ v w', Outs P s v w w' ∧ G v w') ∨
  (∃ f args, s.run P w = .ok (.enter f args) w ∧ CallsIn Fence.wide 0 P f args w (fun e w' => ∃ v, e = .returned v ∧ G v w')) ∨
  (∃ l fn tmps x y, s.run P w = .ok (.round l fn tmps x y) w ∧ RoundIn Fence.wide 0 P l fn tmps x y w (fun e w' => ∃ v, e = .returned v ∧ G v w'))

theorem Does.mono {P : Program} {s : Sem Next} {w : World} {G G' : Value → World → Prop} (h : Does P s w G) (hg : ∀ v w', G v w' → G' v w') : Does P s w G' := by
  rcases h with ⟨v, w', h1, h2⟩ | ⟨f, args, h1, h2⟩ | ⟨l, fn, tmps, x, y, h1, h2⟩
  · exact .inl ⟨v, w', h1, hg _ _ h2⟩
  · exact .inr (.inl ⟨f, args, h1, CallsIn.mono h2 fun e w' ⟨v, he, hq⟩ => ⟨v, he, hg _ _ hq⟩⟩)
  · exact .inr (.inr ⟨l, fn, tmps, x, y, h1, RoundIn.mono h2 fun e w' ⟨v, he, hq⟩ => ⟨v, he, hg _ _ hq⟩⟩)

theorem Does.wpIn {F : Fence} (hF : Wide F) {P : Program} {o : Oper} (hd : ∀ c, o.op ≠ .defer c) {a : Act} {w : World} {G : Value → World → Prop} (h : Does P (execOp a.eval o) w G) {next : Act → World → Prop} {Q : Exit → Act → World → Prop}
    (hn : ∀ v' w', G v' w' → next (a.put o.dst v') w') : o.wpIn F 0 P a w next Q := by
  rcases h with ⟨v, w', h1, h2⟩ | ⟨f, args, h1, h2⟩ | ⟨l, fn, tmps, x, y, h1, h2⟩
  · exact wpIn_value hF hd h1 (hn _ _ h2)
  · refine ⟨fun f _ => hF.fn f, ?_⟩
    rw [Oper.semAt_eq _ _ _ hd, h1]
    exact ⟨hF.depth, CallsIn.mono (hF.calls h2) fun e' w' he => by
      obtain ⟨v', rfl, hq⟩ := he
      exact hn v' w' hq⟩
  · refine ⟨fun f _ => hF.fn f, ?_⟩
    rw [Oper.semAt_eq _ _ _ hd, h1]
    exact ⟨hF.depth, RoundIn.mono (hF.roundIn h2) fun e' w' he => by
      obtain ⟨v', rfl, hq⟩ := he
      exact hn v' w' hq⟩

/-- There is an end. -/
theorem Does.ends {P : Program} {s : Sem Next} {w : World} {G : Value → World → Prop} (h : Does P s w G) : ∃ v w', G v w' := by
  rcases h with ⟨v, w', _, h2⟩ | ⟨f, args, _, h2⟩ | ⟨l, fn, tmps, x, y, _, h2⟩
  · exact ⟨v, w', h2⟩
  · obtain ⟨e, w', fr, ⟨v, _, hq⟩, _⟩ := h2.2 [] (Wide.room (.inl rfl) _)
    exact ⟨v, w', hq⟩
  · obtain ⟨e, w', ⟨v, _, hq⟩, _⟩ := h2.2 default [] (Wide.room (.inl rfl) _)
    exact ⟨v, w', hq⟩

theorem oper1_noDefer {t : Tm} {m : AMem} {o : Op} {r : Value × AMem} (h : oper1 k E t m o = some r) : ∀ c, o ≠ .defer c := by
  intro c e; subst e; simp [oper1, opA] at h

theorem sim_does (hk : ∀ tk r, k tk = some r → TaskSim E tk r) {j : Inj} {m : AMem} {w : World} {t : Tm} {n : Nat} {a : Act} (h : MR E j m w) (ht : TR n j t a.tmps) {o : Oper} {v : Value} {m' : AMem} (e : oper1 k E t m o.op = some (v, m')) :
    Does E.P (execOp a.eval o) w (ValQ E j m w v m') := by
  have hplain : opA E t m o.op = some (v, m') → Does E.P (execOp a.eval o) w (ValQ E j m w v m') := by
    intro e
    obtain ⟨j', w', v', h1, h2, h3⟩ := sim_op h ht e
    exact .inl ⟨v', w', h1, j', h2, h3⟩
  unfold oper1 at e
  split at e
  · rename_i c hop
    split at e
    · rename_i f hc
      split at e
      · rename_i g first captured args hf hargs
        split at e
        · rename_i v0 m0 hcall
          cases e
          obtain ⟨v1, m1, hr, hsim⟩ := hk _ _ hcall
          cases hr
          have hfv := sim_eval h ht hf
          generalize hfe : a.eval f = fv at hfv
          cases hfv with
          | func h1 h2 h3 h4 =>
          rename_i ys ds
          have hl : LR j (first.toList ++ args ++ captured.toList) (ys.toList ++ (c.args.toList.map a.eval) ++ ds.toList) :=
            ((LR.of_arr h1 h2).append (sim_evalAll h ht hargs)).append (LR.of_arr h3 h4)
          have hcs := hsim j w _ h hl
          have harr : (ys.toList ++ (c.args.toList.map a.eval) ++ ds.toList).toArray = ys ++ c.args.map a.eval ++ ds := by apply Array.toList_inj.1; simp
          rw [harr] at hcs
          have hexec : execOp a.eval o = (do let d ← resolve a.eval c o.type; invoke d.target d.args) := by simp only [execOp, hop]
          have hrun : (execOp a.eval o).run E.P w = (callFunc g (ys ++ c.args.map a.eval ++ ds)).run E.P w := by
            rw [hexec]
            simp only [resolve, hc, hfe, Deferred.ofValue, Sem.run_bind, Sem.run_pure, Result.andThen_ok, invoke]
          rcases hcs with ⟨hr, hci⟩ | ⟨_, v', w', hr, hq⟩
          · exact .inr (.inl ⟨_, _, hrun.trans hr, hci⟩)
          · exact .inl ⟨v', w', .inl (hrun.trans hr), hq⟩
        · cases e
      · rename_i l first cap args hf hargs
        split at e
        · rename_i v0 m0 hcall
          cases e
          obtain ⟨v1, m1, hr, hsim⟩ := hk _ _ hcall
          cases hr
          have hfv := sim_eval h ht hf
          generalize hfe : a.eval f = fv at hfv
          cases hfv with
          | yield hj h1 h2 =>
          rename_i kb ys ds
          have hl : LR j (first.toList ++ args) (ys.toList ++ (c.args.toList.map a.eval)) := (LR.of_arr h1 h2).append (sim_evalAll h ht hargs)
          obtain ⟨fn, tmps, assign, body, hy, hro⟩ := hsim j w kb _ h hj hl
          have harr : (ys.toList ++ (c.args.toList.map a.eval)).toArray = ys ++ c.args.map a.eval := by apply Array.toList_inj.1; simp
          rw [harr] at hy
          have hexec : execOp a.eval o = (do let d ← resolve a.eval c o.type; invoke d.target d.args) := by simp only [execOp, hop]
          have hrun : (execOp a.eval o).run E.P w = .ok (.round kb.c fn tmps assign body) w := by
            rw [hexec]
            simp only [resolve, hc, hfe, Deferred.ofValue, Sem.run_bind, Sem.run_pure, Result.andThen_ok, invoke, hy]
          exact .inr (.inr ⟨_, _, _, _, _, hrun, hro⟩)
        · cases e
      · cases e
    · exact hplain e
  · exact hplain e

theorem sim_oper1 (hk : ∀ tk r, k tk = some r → TaskSim E tk r) {j : Inj} {m : AMem} {w : World} {t : Tm} {n : Nat} {a : Act} (h : MR E j m w) (ht : TR n j t a.tmps) {o : Oper} {v : Value} {m' : AMem} (e : oper1 k E t m o.op = some (v, m'))
    {F : Fence} (hF : Wide F) {next : Act → World → Prop} {Q : Exit → Act → World → Prop} (hn : ∀ v' w', ValQ E j m w v m' v' w' → next (a.put o.dst v') w') : o.wpIn F 0 E.P a w next Q :=
  (sim_does hk h ht e).wpIn hF (oper1_noDefer e) hn

/-! ### Temporaries -/
theorem TR.put {n : Nat} {j : Inj} {t t' : Tm} {a : Act} {dst : Option Tmp} {v v' : Value} (h : TR n j t a.tmps) (hv : VR j v v') (hp : putT n t dst v = some t') : TR n j t' (a.put dst v').tmps := by
  unfold putT at hp
  split at hp
  · rename_i d
    split at hp
    · rename_i hlt
      cases hp
      have hlt' : d < n := by simpa using hlt
      refine ⟨by simp [Act.put, h.1], fun i => ?_⟩
      simp only [Act.put, Tm.at, Trie.get_set]
      by_cases hi : i = d
      · subst hi
        simp only [if_pos rfl, Option.getD_some]
        have : i < a.tmps.size := by rw [h.1]; exact hlt'
        simp [this, hv]
      · simp only [if_neg hi]
        have := h.2 i
        simp only [Tm.at] at this
        simpa [Array.getElem?_setIfInBounds_ne (Ne.symm hi)] using this
    · cases hp
  · cases hp; exact h

theorem wanted_eq {n : Nat} {j : Inj} {t : Tm} {a : Act} (h : TR n j t a.tmps) (ops : Array Oper) (o : Oper) : Region.wanted o (yielded ops a.tmps) = wantedA ops o t := by
  unfold Region.wanted wantedA
  cases hgd : o.guard with
  | none => rfl
  | some p =>
    obtain ⟨g, want⟩ := p
    simp only
    have key : yielded ops a.tmps g = yieldedA ops t g := by
      unfold yielded yieldedA
      cases hd : (ops[g]?).bind (·.dst) with
      | none => rfl
      | some d =>
        simp only [Option.bind_some]
        have hv := h.2 d
        unfold Tm.at at hv
        cases hg : t.get d with
        | none =>
          rw [hg] at hv
          simp only [Option.getD_none] at hv
          have : a.tmps[d]? = none ∨ a.tmps[d]? = some undef := by
            cases ha : a.tmps[d]? with
            | none => exact .inl rfl
            | some x =>
              right
              have : a.tmps.getD d undef = x := by simp [ha]
              rw [this] at hv
              have : x = undef := plainV_eq (by rfl) hv
              rw [this]
          rcases this with e | e <;> rw [e] <;> rfl
        | some x =>
          rw [hg] at hv
          simp only [Option.getD_some] at hv
          cases ha : a.tmps[d]? with
          | none =>
            have : a.tmps.getD d undef = undef := by simp [ha]
            rw [this] at hv
            cases x <;> first | rfl | cases hv
          | some y =>
            have : a.tmps.getD d undef = y := by simp [ha]
            rw [this] at hv
            cases hv <;> rfl
    rw [key]
    cases yieldedA ops t g with
    | none => rfl
    | some b => simp

/-! ### A region in the order of its text -/
theorem sim_runOps (hk : ∀ tk r, k tk = some r → TaskSim E tk r) {ops : Array Oper} {n : Nat} {F : Fence} (hF : Wide F) {Q : Exit → Act → World → Prop} {m0 : AMem} {w0 : World} {j0 : Inj} (h0 : MR E j0 m0 w0) {tf : Tm} {mf : AMem}
    (ds : List Deferred) (hQ : ∀ j' w' a', Sim E j0 m0 w0 j' mf w' → TR n j' tf a'.tmps → a'.defers = ds → Q .normal a' w') :
    ∀ (os : List Oper) (i : Nat) (t : Tm) (m : AMem) (j : Inj) (w : World) (a : Act), ops.toList.drop i = os → runOps k E n ops os t m = some (tf, mf) → Sim E j0 m0 w0 j m w → TR n j t a.tmps → a.defers = ds →
      wpOpsIn F 0 E.P ops Q (List.range' i (ops.size - i)) a w
  | [], i, t, m, j, w, a, hd, hr, s, ht, hds => by
    cases hr
    have hlen : ops.size ≤ i := by
      have := congrArg List.length hd
      simp at this; omega
    rw [show ops.size - i = 0 by omega]
    exact hQ j w a s ht hds
  | o :: os, i, t, m, j, w, a, hd, hr, s, ht, hds => by
    have hlt : i < ops.size := by
      have := congrArg List.length hd
      simp at this; omega
    have ho : ops[i]? = some o := by
      have := congrArg (·[0]?) hd
      simpa [List.getElem?_drop] using this
    have hd' : ops.toList.drop (i + 1) = os := by
      rw [← List.drop_drop, hd]; rfl
    have hidx : List.range' i (ops.size - i) = i :: List.range' (i + 1) (ops.size - (i + 1)) := by
      rw [show ops.size - i = (ops.size - (i + 1)) + 1 by omega]; rfl
    rw [hidx]
    simp only [wpOpsIn, ho, wanted_eq ht]
    simp only [runOps] at hr
    split at hr
    · rename_i hw
      rw [if_pos hw]
      split at hr
      · rename_i v m' he
        split at hr
        · rename_i t' hp
          refine sim_oper1 hk s.mr ht he hF ?_
          rintro v' w' ⟨j', s', hv⟩
          exact sim_runOps hk hF h0 ds hQ os (i + 1) t' m' j' w' _ hd' hr (s.trans h0 s') ((ht.mono s'.le).put hv hp) (by cases hds' : o.dst <;> simp [Act.put, hds])
        · cases hr
      · cases hr
    · rename_i hw
      rw [if_neg hw]
      split at hr
      · rename_i t' hp
        exact ⟨fun f _ => hF.fn f, sim_runOps hk hF h0 ds hQ os (i + 1) t' m j w _ hd' hr s (ht.put (VR.undef j) hp) (by cases hds' : o.dst <;> simp [Act.put, hds])⟩
      · cases hr
end
end Go.Ab
