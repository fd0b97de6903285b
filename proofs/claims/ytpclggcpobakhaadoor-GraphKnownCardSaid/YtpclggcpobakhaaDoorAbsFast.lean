/-
  An evaluator that the kernel likes: calls, regions, code, functions. What it finds true is true of a run of the interpreter.
-/
import Derived.Test.YtpclggcpobakhaaDoorAbsFastOp
namespace Go.Ab
open Go

/-! ### Operations -/
noncomputable def ptrOk (v : Value) (x : Bool) : Bool :=
  Value.rec (motive_1 := fun _ => Bool) (motive_2 := fun _ => Bool) (motive_3 := fun _ => Bool) (fun _ => false) (fun _ _ => false) (fun _ _ => false) (fun _ _ _ => false) (fun _ => false) (fun a => Option.rec (motive := fun _ => Bool) false (fun _ => x) a) (fun _ _ _ => false) (fun _ => false) (fun _ => false)
    (fun f _ _ _ _ => Fn.rec (motive := fun _ => Bool) (fun _ => x) (fun _ => false) (fun _ _ => false) (fun _ _ _ _ => false) (fun _ => x) f) false (fun _ _ _ => false) false (fun _ _ => false) (fun _ _ => false)
    (fun _ _ => false) false (fun _ _ _ _ => false) v
noncomputable def optL (r : Option (List Value)) (K : List Value → Bool) : Bool := Option.rec (motive := fun _ => Bool) false (fun l => fList l K) r
theorem optL_true {r : Option (List Value)} {K : List Value → Bool} (h : optL r K = true) : ∃ l, r = some l ∧ K l = true := by
  cases r with
  | none => cases h
  | some l => exact ⟨l, rfl, by rw [← fList_eq l K]; exact h⟩
/-- A key that is a number, in a list of entries. -/
noncomputable def findIK (kd : IntKind) (a : Int) (es : List (Value × Value)) : Nat → (Option (Nat × Value) → Bool) → Bool :=
  List.rec (motive := fun _ => Nat → (Option (Nat × Value) → Bool) → Bool) (fun _ k => k none) (fun e _ ih i k => Prod.rec (motive := fun _ => Bool) (fun x y => vInt x fun kd' b => ifB (eqKind kd kd') (ifB (eqZ a b) (k (some (i, y))) (fN (Nat.succ i) fun i => ih i k)) false) e) es
theorem findIK_true {P : Program} {kt : TypeId} {kd0 kd : IntKind} {a : Int} (hu : P.underlying kt = some (.int kd0)) : ∀ {es : List (Value × Value)} {i : Nat} {k : Option (Nat × Value) → Bool}, findIK kd a es i k = true → ∃ r, findA P kt (.int kd a) es i = some r ∧ k r = true
  | [], i, k, h => ⟨none, rfl, h⟩
  | (x, y) :: es, i, k, h => by
    have h' : (vInt x fun kd' b => ifB (eqKind kd kd') (ifB (eqZ a b) (k (some (i, y))) (fN (Nat.succ i) fun i => findIK kd a es i k)) false) = true := h
    obtain ⟨kd', b, e, h1⟩ := vInt_true h'
    obtain ⟨hk, h2⟩ := ifB_and h1
    cases eqKind_true hk
    subst e
    have he : eqA P Op.maxDepth kt (.int kd a) (.int kd b) = some (a == b) := by
      show eqA P (Nat.succ _) kt (.int kd a) (.int kd b) = _
      simp only [eqA, hu, if_true]
    rcases ifB_true h2 with ⟨h3, h4⟩ | ⟨h3, h4⟩
    · rw [eqZ_eq] at h3
      exact ⟨_, by simp only [findA, he, h3], h4⟩
    · rw [eqZ_eq] at h3
      rw [fN_eq] at h4
      obtain ⟨r, h5, h6⟩ := findIK_true hu h4
      exact ⟨r, by simp only [findA, he, h3]; exact h5, h6⟩
/-- A map's entries. -/
noncomputable def entriesK (m : AMem) (x : Value) (k : List (Value × Value) → Bool) : Bool := vMap x fun r => Option.rec (motive := fun _ => Bool) (k []) (fun r => mapK m r k) r
theorem entriesK_true {m : AMem} {x : Value} {k : List (Value × Value) → Bool} (h : entriesK m x k = true) : ∃ es, mapOf m x = some es ∧ k es = true := by
  obtain ⟨r, e, h1⟩ := vMap_true h
  subst e
  cases r with
  | none => exact ⟨[], rfl, h1⟩
  | some r =>
    obtain ⟨es, hg, h2⟩ := mapK_true h1
    exact ⟨es, by simp only [mapOf, hg], h2⟩
structure Look where
  run : Value → Value → AMem → (Value → Bool) → Bool
noncomputable def clook (P : Program) (ty : TypeId) (ok : Bool) : Look :=
  match P.underlying ty with
  | some (.map key elem) => match P.underlying key, zeroA P elem with
    | some (.int _), some z => match plainV z, ok with
      | true, true => ⟨fun x n m K => entriesK m x fun es => vInt n fun kd a => ifB (keyOk P key (.int kd a)) (findIK kd a es 0 fun r => Option.rec (motive := fun _ => Bool) (K (.tuple #[z, .bool false])) (fun iv => Prod.rec (motive := fun _ => Bool) (fun _ v => K (.tuple #[v, .bool true])) iv) r) false⟩
      | true, false => ⟨fun x n m K => entriesK m x fun es => vInt n fun kd a => ifB (keyOk P key (.int kd a)) (findIK kd a es 0 fun r => Option.rec (motive := fun _ => Bool) (K z) (fun iv => Prod.rec (motive := fun _ => Bool) (fun _ v => K v) iv) r) false⟩
      | false, _ => ⟨fun x n m K => optV (lookupA P ty x n ok m) K⟩
    | _, _ => ⟨fun x n m K => optV (lookupA P ty x n ok m) K⟩
  | _ => ⟨fun x n m K => optV (lookupA P ty x n ok m) K⟩
theorem clook_ok {P : Program} {ty : TypeId} {ok : Bool} {x n : Value} {m : AMem} {K : Value → Bool} (h : (clook P ty ok).run x n m K = true) : ∃ v, lookupA P ty x n ok m = some v ∧ K v = true := by
  unfold clook at h
  split at h
  · rename_i key elem h1
    split at h
    · rename_i kd0 z h2 h3
      split at h
      · rename_i h4
        dsimp only at h
        obtain ⟨es, h5, h6⟩ := entriesK_true h
        obtain ⟨kd, a, e, h7⟩ := vInt_true h6
        subst e
        obtain ⟨h8, h9⟩ := ifB_and h7
        obtain ⟨r, h10, h11⟩ := findIK_true h2 h9
        cases r with
        | none => exact ⟨_, by simp only [lookupA, h1, h5, h3, h8, if_true, h10, h4], h11⟩
        | some iv =>
          obtain ⟨i, v⟩ := iv
          exact ⟨_, by simp only [lookupA, h1, h5, h3, h8, if_true, h10], h11⟩
      · rename_i h4
        dsimp only at h
        obtain ⟨es, h5, h6⟩ := entriesK_true h
        obtain ⟨kd, a, e, h7⟩ := vInt_true h6
        subst e
        obtain ⟨h8, h9⟩ := ifB_and h7
        obtain ⟨r, h10, h11⟩ := findIK_true h2 h9
        cases r with
        | none => exact ⟨_, by simp only [lookupA, h1, h5, h3, h8, if_true, h10, h4]; rfl, h11⟩
        | some iv =>
          obtain ⟨i, v⟩ := iv
          exact ⟨_, by simp only [lookupA, h1, h5, h3, h8, if_true, h10]; rfl, h11⟩
      · exact optV_true h
    · exact optV_true h
  · exact optV_true h
noncomputable def mapUpIK (P : Program) (kt : TypeId) (x key value : Value) (m : AMem) (K : AMem → Bool) : Bool :=
  vMap x fun r => Option.rec (motive := fun _ => Bool) false (fun r => mapK m r fun es => vInt key fun kd a => ifB (keyOk P kt (.int kd a))
    (findIK kd a es 0 fun f => Option.rec (motive := fun _ => Bool) (appK es [(.int kd a, value)] fun es => memSetK m r (.map es) K) (fun iv => Prod.rec (motive := fun _ => Bool) (fun i _ => ifB (staysOk es i (.int kd a)) (fList (mapPut es i (.int kd a) value) fun es => memSetK m r (.map es) K) false) iv) f) false) r
noncomputable def mapUpK (P : Program) (kt : TypeId) (x key value : Value) (m : AMem) (K : AMem → Bool) : Bool :=
  vMap x fun r => Option.rec (motive := fun _ => Bool) false (fun r => mapK m r fun es => ifB (keyOk P kt key)
    (Option.rec (motive := fun _ => Bool) false (fun f => Option.rec (motive := fun _ => Bool) (appK es [(key, value)] fun es => memSetK m r (.map es) K) (fun iv => Prod.rec (motive := fun _ => Bool) (fun i _ => ifB (staysOk es i key) (fList (mapPut es i key value) fun es => memSetK m r (.map es) K) false) iv) f) (findA P kt key es 0)) false) r
structure MapUp where
  run : Value → Value → Value → AMem → (AMem → Bool) → Bool
noncomputable def cmapUp (P : Program) (ty : TypeId) : MapUp :=
  match P.underlying ty with
  | some (.map kt _) => match P.underlying kt with
    | some (.int _) => ⟨fun x k v m K => mapUpIK P kt x k v m K⟩
    | _ => ⟨fun x k v m K => mapUpK P kt x k v m K⟩
  | _ => ⟨fun _ _ _ _ _ => false⟩
theorem cmapUp_ok {P : Program} {ty : TypeId} {x k v : Value} {m : AMem} {K : AMem → Bool} (h : (cmapUp P ty).run x k v m K = true) : ∃ m', mapUpdateA P ty x k v m = some m' ∧ K m' = true := by
  unfold cmapUp at h
  split at h
  · rename_i kt vt h1
    split at h
    · rename_i kd0 h2
      obtain ⟨r, e, h3⟩ := vMap_true h
      subst e
      cases r with
      | none => cases h3
      | some r =>
        obtain ⟨es, hg, h4⟩ := mapK_true h3
        obtain ⟨kd, a, e, h5⟩ := vInt_true h4
        subst e
        obtain ⟨h6, h7⟩ := ifB_and h5
        obtain ⟨f, h8, h9⟩ := findIK_true h2 h7
        cases f with
        | none =>
          have h10 : (appK es [(.int kd a, v)] fun es => memSetK m r (.map es) K) = true := h9
          rw [appK_eq, memSetK_eq] at h10
          exact ⟨_, by simp only [mapUpdateA, h1, hg, h6, if_true, h8], h10⟩
        | some iv =>
          obtain ⟨i, w⟩ := iv
          obtain ⟨h10, h11⟩ := ifB_and h9
          rw [fList_eq, memSetK_eq] at h11
          exact ⟨_, by simp only [mapUpdateA, h1, hg, h6, if_true, h8, h10], h11⟩
    have g := vMap_true h; clear h; obtain ⟨r, rfl, h⟩ := g
    cases r with
    | none => cases h
    | some r =>
      have g := mapK_true h; clear h; obtain ⟨es, hg, h⟩ := g
      have g := ifB_and h; clear h; obtain ⟨h2, h⟩ := g
      cases hf : findA P kt k es 0 with
      | none => rw [hf] at h; cases h
      | some f =>
        rw [hf] at h
        cases f with
        | none =>
          rw [show (Option.rec (motive := fun _ => Bool) false (fun f => Option.rec (motive := fun _ => Bool) (appK es [(k, v)] fun es => memSetK m r (.map es) K) (fun iv => Prod.rec (motive := fun _ => Bool) (fun i _ => ifB (staysOk es i k) (fList (mapPut es i k v) fun es => memSetK m r (.map es) K) false) iv) f) (some (none : Option (Nat × Value)))) = appK es [(k, v)] fun es => memSetK m r (.map es) K from rfl, appK_eq, memSetK_eq] at h
          exact ⟨_, by simp only [mapUpdateA, h1, hg, h2, if_true, hf], h⟩
        | some iv =>
          obtain ⟨i, w⟩ := iv
          have g := ifB_and h; clear h; obtain ⟨h3, h⟩ := g
          rw [fList_eq, memSetK_eq] at h
          exact ⟨_, by simp only [mapUpdateA, h1, hg, h2, if_true, hf, h3], h⟩
  · cases h

noncomputable def cop (E : Env) (o : Op) : OpSem :=
  match o with
  | .move x => ⟨fun t m K => (cget E x).run t fun v => K v m⟩
  | .assign x => ⟨fun t m K => (cget E x).run t fun v => K v m⟩
  | .pick c a b => ⟨fun t m K => (cget E c).run t fun v => vBool v (fun c => ifB c ((cget E a).run t fun v => K v m) ((cget E b).run t fun v => K v m)) false⟩
  | .alloc elem =>
    match zeroA E.P elem with
    | some z => match plainV z with
      | true => ⟨fun _ m K => memAllocK m (.cells z.cells.toList .own) fun b m => K (ptr b 0) m⟩
      | false => noOp
    | none => noOp
  | .box _ x => ⟨fun t m K => (cget E x).run t fun v => vCells v fun cs => memAllocK m (.cells cs .own) fun b m => K (ptr b 0) m⟩
  | .build ty parts =>
    match zeroA E.P ty with
    | some z => match plainV z with
      | true => ⟨fun t m K => (cparts E parts.toList).run t fun ps => optV (buildA E.P ty ps) fun v => K v m⟩
      | false => noOp
    | none => noOp
  | .buildSlice ty len parts =>
    match E.P.underlying ty with
    | some (.slice elem) =>
      match !(known E.P elem) || decide (len * sizeA E.P elem > 2 ^ 24), zerosA E.P elem len with
      | false, some zs => match zs.all plain1 with
        | true => ⟨fun t m K => (cparts E parts.toList).run t fun ps => optL (fillA (fun i => some (i * sizeA E.P elem, sizeA E.P elem)) zs ps) fun cs => memAllocK m (.cells cs .own) fun b m => K (.slice (some ⟨b, 0, none⟩) len len) m⟩
        | false => noOp
      | _, _ => noOp
    | _ => noOp
  | .load ty a => ⟨fun t m K => (cget E a).run t fun p => (cload E.P ty).run p m fun v => K v m⟩
  | .store ty a x => ⟨fun t m K => (cget E a).run t fun p => (cget E x).run t fun v => (cstore E.P ty).run p v m fun m => K undef m⟩
  | .nilCheck x => ⟨fun t m K => (cget E x).run t fun v => ptrOk v (K v m)⟩
  | .binOp op xt x y _ => ⟨fun t m K => (cget E x).run t fun a => (cget E y).run t fun b => (cbin op xt E.P).run a b fun v => K v m⟩
  | .unOp op _ x => ⟨fun t m K => (cget E x).run t fun a => (cun op).run a fun v => K v m⟩
  | .convert src dst x => ⟨fun t m K => (cget E x).run t fun a => (cconv E.P src dst).run a fun v => K v m⟩
  | .makeFunc fn first captured =>
    match fn with
    | .func f => ⟨fun t m K => (cgets E first.toList).run t fun fs => (cgets E captured.toList).run t fun cs => K (.func (.func f) ⟨fs⟩ ⟨cs⟩) m⟩
    | _ => noOp
  | .makeMap _ r =>
    match r with
    | none => ⟨fun _ m K => memAllocK m (.map []) fun b m => K (.map (some b)) m⟩
    | some _ => noOp
  | .makeSlice ty len cap =>
    match E.P.underlying ty with
    | some (.slice elem) => ⟨fun t m K => (cget E len).run t fun lv => (cget E cap).run t fun cv => vInt lv fun lk l => vInt cv fun ck c => ifB (eqKind lk .i64) (ifB (eqKind ck .i64)
        (ifB (decide (0 ≤ l ∧ l ≤ c ∧ (E.P.info? elem).any (fun i => i.bytes * c ≤ 2 ^ 40 && i.bytes != 0) ∧ known E.P elem)) (fN c.toNat fun cn => optL (zerosA E.P elem cn) fun zs => ifB (zs.all plain1) (fN l.toNat fun ln => memAllocK m (.cells zs .own) fun b m => K (.slice (some ⟨b, 0, none⟩) ln cn) m) false) false) false) false⟩
    | _ => noOp
  | .slice ty x lo hi mx => ⟨fun t m K => (cget E x).run t fun v => (copt E lo).run t fun l => (copt E hi).run t fun h => (copt E mx).run t fun k => optV (sliceA E.P ty v l h k m) fun v => K v m⟩
  | .fieldAddr s x f => ⟨fun t m K => (cget E x).run t fun v => (cfieldAddr E.P s f).run v fun v => K v m⟩
  | .field ty x f => ⟨fun t m K => (cget E x).run t fun v => (cfield E.P ty f).run v fun v => K v m⟩
  | .indexAddr ty x i => ⟨fun t m K => (cget E x).run t fun v => (cget E i).run t fun n => (cindexAddr E.P ty).run v n fun v => K v m⟩
  | .index ty x i => ⟨fun t m K => (cget E x).run t fun v => (cget E i).run t fun n => optV (indexA E.P ty v n) fun v => K v m⟩
  | .lookup ty x i ok => ⟨fun t m K => (cget E x).run t fun v => (cget E i).run t fun n => (clook E.P ty ok).run v n m fun v => K v m⟩
  | .mapUpdate ty x k v => ⟨fun t m K => (cget E x).run t fun x => (cget E k).run t fun k => (cget E v).run t fun v => (cmapUp E.P ty).run x k v m fun m => K undef m⟩
  | .insert ty x k v => ⟨fun t m K => (cget E x).run t fun x => (cget E k).run t fun k => (cget E v).run t fun v => (cmapUp E.P ty).run x k v m fun m => K undef m⟩
  | .extract x i => ⟨fun t m K => (cget E x).run t fun v => vTuple v fun vs => nthK i vs.toList fun v => K v m⟩
  | .call c =>
    match c.callee, c.args.toList with
    | .builtin .len, [x] => match clen E.P c.argTypes[0]? with
      | some S => ⟨fun t m K => (cget E x).run t fun v => S.run v fun v => K v m⟩
      | none => genOp E o
    | .builtin .append, [s, x] => match c.argTypes[0]? with
      | some ty => ⟨fun t m K => (cget E s).run t fun s => (cget E x).run t fun x => (capp E.P ty c.argTypes[1]?).run s x m K⟩
      | none => noOp
    | _, _ => genOp E o
  | o => genOp E o

theorem ptrOk_true {v : Value} {x : Bool} (h : ptrOk v x = true) : x = true ∧ ((∃ a, v = .pointer (some a)) ∨ (∃ f a b, v = .func (.func f) a b) ∨ (∃ f a b, v = .func (.yield f) a b)) := by
  cases v with
  | pointer a => cases a with
    | none => cases h
    | some a => exact ⟨h, .inl ⟨a, rfl⟩⟩
  | func f a b => cases f with
    | func f => exact ⟨h, .inr (.inl ⟨f, a, b, rfl⟩)⟩
    | yield f => exact ⟨h, .inr (.inr ⟨f, a, b, rfl⟩)⟩
    | _ => cases h
  | _ => cases h

theorem cop_ok {E : Env} (o : Op) : OkOp E (cop E o) o := by
  intro t m K h
  unfold cop at h
  split at h
  · have g := cget_ok h; clear h; obtain ⟨v, h1, h⟩ := g
    exact ⟨v, m, by simp only [opA, h1, Option.map_some], h⟩
  · have g := cget_ok h; clear h; obtain ⟨v, h1, h⟩ := g
    exact ⟨v, m, by simp only [opA, h1, Option.map_some], h⟩
  · have g := cget_ok h; clear h; obtain ⟨v, h1, h⟩ := g
    have g := vBool_true h; clear h; obtain ⟨b, rfl, h⟩ := g
    have g := ifB_true h; clear h; rcases g with ⟨rfl, h⟩ | ⟨rfl, h⟩
    · have g := cget_ok h; clear h; obtain ⟨v, h2, h⟩ := g
      exact ⟨v, m, by simp only [opA, h1, h2, Option.map_some], h⟩
    · have g := cget_ok h; clear h; obtain ⟨v, h2, h⟩ := g
      exact ⟨v, m, by simp only [opA, h1, h2, Option.map_some], h⟩
  · split at h
    · rename_i z hz
      split at h
      · rename_i hp
        simp only [memAllocK_eq] at h
        exact ⟨_, _, by simp only [opA, hz, if_pos hp], h⟩
      · cases h
    · cases h
  · have g := cget_ok h; clear h; obtain ⟨v, h1, h⟩ := g
    rw [vCells_eq, memAllocK_eq] at h
    exact ⟨_, _, by simp only [opA, h1, Option.map_some], h⟩
  · split at h
    · rename_i z hz
      split at h
      · rename_i hp
        have g := cparts_ok h; clear h; obtain ⟨ps, h1, h⟩ := g
        have g := optV_true h; clear h; obtain ⟨v, h2, h⟩ := g
        exact ⟨v, m, by simp only [opA, h1, hz, if_pos hp, h2, Option.map_some], h⟩
      · cases h
    · cases h
  · split at h
    · rename_i elem hu
      split at h
      · rename_i zs hk hz
        split at h
        · rename_i hp
          have g := cparts_ok h; clear h; obtain ⟨ps, h1, h⟩ := g
          have g := optL_true h; clear h; obtain ⟨cs, h2, h⟩ := g
          rw [memAllocK_eq] at h
          exact ⟨_, _, by simp only [opA, hu, h1, hz, if_pos hp, h2, Option.map_some]; rw [if_neg (by rw [hk]; exact Bool.false_ne_true)], h⟩
        · cases h
      · cases h
    · cases h
  · have g := cget_ok h; clear h; obtain ⟨p, h1, h⟩ := g
    have g := cload_ok h; clear h; obtain ⟨v, h2, h⟩ := g
    exact ⟨v, m, by simp only [opA, h1, h2, Option.map_some], h⟩
  · have g := cget_ok h; clear h; obtain ⟨p, h1, h⟩ := g
    have g := cget_ok h; clear h; obtain ⟨v, h2, h⟩ := g
    have g := cstore_ok h; clear h; obtain ⟨m', h3, h⟩ := g
    exact ⟨_, _, by simp only [opA, h1, h2, h3, Option.map_some], h⟩
  · have g := cget_ok h; clear h; obtain ⟨p, h1, h⟩ := g
    have g := ptrOk_true h; clear h; obtain ⟨h, ⟨a, rfl⟩ | ⟨f, a, b, rfl⟩ | ⟨f, a, b, rfl⟩⟩ := g
    · exact ⟨_, _, by simp only [opA, h1], h⟩
    · exact ⟨_, _, by simp only [opA, h1], h⟩
    · exact ⟨_, _, by simp only [opA, h1], h⟩
  · have g := cget_ok h; clear h; obtain ⟨a, h1, h⟩ := g
    have g := cget_ok h; clear h; obtain ⟨b, h2, h⟩ := g
    have g := cbin_ok h; clear h; obtain ⟨v, h3, h⟩ := g
    exact ⟨_, _, by simp only [opA, h1, h2, h3, Option.map_some], h⟩
  · have g := cget_ok h; clear h; obtain ⟨a, h1, h⟩ := g
    have g := cun_ok h; clear h; obtain ⟨v, h3, h⟩ := g
    exact ⟨_, _, by simp only [opA, h1, h3, Option.map_some], h⟩
  · have g := cget_ok h; clear h; obtain ⟨a, h1, h⟩ := g
    have g := cconv_ok h; clear h; obtain ⟨v, h3, h⟩ := g
    exact ⟨_, _, by simp only [opA, h1, h3, Option.map_some], h⟩
  · split at h
    · have g := cgets_ok h; clear h; obtain ⟨fs, h1, h⟩ := g
      have g := cgets_ok h; clear h; obtain ⟨cs, h2, h⟩ := g
      exact ⟨_, _, by simp only [opA, h1, h2], h⟩
    · cases h
  · split at h
    · simp only [memAllocK_eq] at h
      exact ⟨_, _, by simp only [opA], h⟩
    · cases h
  · split at h
    · rename_i elem hu
      have g := cget_ok h; clear h; obtain ⟨lv, h1, h⟩ := g
      have g := cget_ok h; clear h; obtain ⟨cv, h2, h⟩ := g
      have g := vInt_true h; clear h; obtain ⟨lk, l, rfl, h⟩ := g
      have g := vInt_true h; clear h; obtain ⟨ck, c, rfl, h⟩ := g
      have g := ifB_and h; clear h; obtain ⟨e1, h⟩ := g
      have g := ifB_and h; clear h; obtain ⟨e2, h⟩ := g
      cases eqKind_true e1
      cases eqKind_true e2
      have g := ifB_and h; clear h; obtain ⟨h3, h⟩ := g
      rw [fN_eq] at h
      have g := optL_true h; clear h; obtain ⟨zs, h4, h⟩ := g
      have g := ifB_and h; clear h; obtain ⟨h5, h⟩ := g
      rw [fN_eq, memAllocK_eq] at h
      exact ⟨_, _, by simp only [opA, hu, h1, h2, h4, if_pos (of_decide_eq_true h3), if_pos h5], h⟩
    · cases h
  · have g := cget_ok h; clear h; obtain ⟨v, h1, h⟩ := g
    have g := copt_ok h; clear h; obtain ⟨l, h2, h⟩ := g
    have g := copt_ok h; clear h; obtain ⟨hh, h3, h⟩ := g
    have g := copt_ok h; clear h; obtain ⟨k, h4, h⟩ := g
    have g := optV_true h; clear h; obtain ⟨w, h5, h⟩ := g
    exact ⟨_, _, by simp only [opA, h1, h2, h3, h4, h5, Option.map_some], h⟩
  · have g := cget_ok h; clear h; obtain ⟨v, h1, h⟩ := g
    have g := cfieldAddr_ok h; clear h; obtain ⟨w, h2, h⟩ := g
    exact ⟨_, _, by simp only [opA, h1, h2, Option.map_some], h⟩
  · have g := cget_ok h; clear h; obtain ⟨v, h1, h⟩ := g
    have g := cfield_ok h; clear h; obtain ⟨w, h2, h⟩ := g
    exact ⟨_, _, by simp only [opA, h1, h2, Option.map_some], h⟩
  · have g := cget_ok h; clear h; obtain ⟨v, h1, h⟩ := g
    have g := cget_ok h; clear h; obtain ⟨n, h2, h⟩ := g
    have g := cindexAddr_ok h; clear h; obtain ⟨w, h3, h⟩ := g
    exact ⟨_, _, by simp only [opA, h1, h2, h3, Option.map_some], h⟩
  · have g := cget_ok h; clear h; obtain ⟨v, h1, h⟩ := g
    have g := cget_ok h; clear h; obtain ⟨n, h2, h⟩ := g
    have g := optV_true h; clear h; obtain ⟨w, h3, h⟩ := g
    exact ⟨_, _, by simp only [opA, h1, h2, h3, Option.map_some], h⟩
  · have g := cget_ok h; clear h; obtain ⟨v, h1, h⟩ := g
    have g := cget_ok h; clear h; obtain ⟨n, h2, h⟩ := g
    have g := clook_ok h; clear h; obtain ⟨w, h3, h⟩ := g
    exact ⟨_, _, by simp only [opA, h1, h2, h3, Option.map_some], h⟩
  · have g := cget_ok h; clear h; obtain ⟨x, h1, h⟩ := g
    have g := cget_ok h; clear h; obtain ⟨k, h2, h⟩ := g
    have g := cget_ok h; clear h; obtain ⟨v, h3, h⟩ := g
    have g := cmapUp_ok h; clear h; obtain ⟨m', h4, h⟩ := g
    exact ⟨_, _, by simp only [opA, h1, h2, h3, h4, Option.map_some], h⟩
  · have g := cget_ok h; clear h; obtain ⟨x, h1, h⟩ := g
    have g := cget_ok h; clear h; obtain ⟨k, h2, h⟩ := g
    have g := cget_ok h; clear h; obtain ⟨v, h3, h⟩ := g
    have g := cmapUp_ok h; clear h; obtain ⟨m', h4, h⟩ := g
    exact ⟨_, _, by simp only [opA, h1, h2, h3, h4, Option.map_some], h⟩
  · rename_i x i
    have g := cget_ok h; clear h; obtain ⟨v, h1, h⟩ := g
    have g := vTuple_true h; clear h; obtain ⟨vs, rfl, h⟩ := g
    have g := nthK_true h; clear h; obtain ⟨w, h2, h⟩ := g
    have h2' : vs[i]? = some w := by simpa using h2
    exact ⟨_, _, by simp only [opA, h1, h2', Option.map_some], h⟩
  · rename_i c
    split at h
    · rename_i x hc ha
      split at h
      · rename_i S hS
        have g := cget_ok h; clear h; obtain ⟨v, h1, h⟩ := g
        have g := clen_ok (m := m) hS h; clear h; obtain ⟨w, h2, h⟩ := g
        exact ⟨_, _, by simp only [opA, hc, ha, evalAll, h1, h2], h⟩
      · exact genOp_ok h
    · rename_i s x hc ha
      split at h
      · rename_i ty hty
        have g := cget_ok h; clear h; obtain ⟨v, h1, h⟩ := g
        have g := cget_ok h; clear h; obtain ⟨w, h2, h⟩ := g
        have g := capp_ok h; clear h; obtain ⟨r, m', h3, h⟩ := g
        exact ⟨_, _, by simp only [opA, hc, ha, evalAll, h1, h2, builtinA, hty, h3], h⟩
      · cases h
    · exact genOp_ok h
  · exact genOp_ok h

/-! ### Operations and calls -/
structure Hand where
  call : FuncId → List Value → AMem → (Value → AMem → Bool) → Bool
  round : Nat → List Value → AMem → (Value → AMem → Bool) → Bool
def HOk (E : Env) (H : Hand) : Prop :=
  (∀ {f : FuncId} {args : List Value} {m : AMem} {K : Value → AMem → Bool}, H.call f args m K = true → CallA E f args m fun v m' => K v m' = true) ∧
  (∀ {l : Nat} {args : List Value} {m : AMem} {K : Value → AMem → Bool}, H.round l args m K = true → RoundA E l args m fun v m' => K v m' = true)

structure OperSem where
  run : Hand → Tm → AMem → (Value → AMem → Bool) → Bool
noncomputable def goTo (H : Hand) (fn : Fn) (first captured : Array Value) (args : List Value) (m : AMem) (K : Value → AMem → Bool) : Bool :=
  Fn.rec (motive := fun _ => Bool) (fun g => appK first.toList args fun l => appK l captured.toList fun l => H.call g l m K) (fun _ => false) (fun _ _ => false) (fun _ _ _ _ => false) (fun l => appK first.toList args fun as => H.round l as m K) fn
noncomputable def coper (E : Env) (o : Op) : OperSem :=
  match o with
  | .call c => match c.callee with
    | .value f => ⟨fun H t m K => (cget E f).run t fun fv => vFunc fv fun fn first captured => (cgets E c.args.toList).run t fun args => goTo H fn first captured args m K⟩
    | _ => ⟨fun _ t m K => (cop E o).run t m K⟩
  | _ => ⟨fun _ t m K => (cop E o).run t m K⟩
theorem coper_ok {E : Env} {H : Hand} (hH : HOk E H) {o : Op} {t : Tm} {m : AMem} {K : Value → AMem → Bool} (h : (coper E o).run H t m K = true) : OperA E t m o fun v m' => K v m' = true := by
  unfold coper at h
  split at h
  · rename_i c
    split at h
    · rename_i f hc
      have g := cget_ok h; clear h; obtain ⟨fv, h1, h⟩ := g
      have g := vFunc_true h; clear h; obtain ⟨fn, first, captured, rfl, h⟩ := g
      have g := cgets_ok h; clear h; obtain ⟨args, h2, h⟩ := g
      cases fn with
      | func g =>
        have h' : (appK first.toList args fun l => appK l captured.toList fun l => H.call g l m K) = true := h
        rw [appK_eq, appK_eq] at h'
        exact .call hc h1 h2 (hH.1 h')
      | yield l =>
        have h' : (appK first.toList args fun as => H.round l as m K) = true := h
        rw [appK_eq] at h'
        exact .round hc h1 h2 (hH.2 h')
      | _ => cases h
    · obtain ⟨v, m', h1, h2⟩ := cop_ok _ h
      exact .plain h1 h2
  · obtain ⟨v, m', h1, h2⟩ := cop_ok _ h
    exact .plain h1 h2

/-! ### Regions -/
noncomputable def putD (n : Nat) (dst : Option Tmp) : Put :=
  match dst with
  | none => ⟨fun t _ k => k t⟩
  | some d => match Nat.blt d n, Nat.blt d 512 with
    | true, true => putT' d
    | _, _ => ⟨fun _ _ _ => false⟩
theorem putD_ok {n : Nat} {dst : Option Tmp} {t : Tm} {v : Value} {k : Tm → Bool} (h : (putD n dst).run t v k = true) : putA n t dst v fun t => k t = true := by
  unfold putD at h
  split at h
  · exact ⟨t, rfl, h⟩
  · rename_i d
    split at h
    · rename_i h1 h2
      rw [putT'_eq d (by simpa using h2)] at h
      exact ⟨_, by simp only [putT, h1], h⟩
    · cases h
noncomputable def getD' (d : Nat) : Get := if d < 512 then getT d else ⟨fun _ _ => false⟩
theorem getD'_ok {d : Nat} {t : Tm} {k : Value → Bool} (h : (getD' d).run t k = true) : k (t.at d) = true := by
  unfold getD' at h
  split at h
  · rename_i hd; rw [getT_eq d hd] at h; exact h
  · cases h
noncomputable def eqB (a b : Bool) : Bool := Bool.rec (motive := fun _ => Bool) (not b) b a
theorem eqB_eq (a b : Bool) : eqB a b = (a == b) := by cases a <;> cases b <;> rfl
theorem at_bool {t : Tm} {d : Nat} {b : Bool} (h : t.at d = .bool b) : t.get d = some (.bool b) := by
  unfold Tm.at at h
  cases hg : Trie.get t d with
  | none => rw [hg] at h; cases h
  | some v => rw [hg] at h; exact congrArg some h
theorem at_notBool {t : Tm} {d : Nat} (h : ∀ b, t.at d ≠ .bool b) (b : Bool) : t.get d ≠ some (.bool b) := by
  intro e; exact h b (by unfold Tm.at; rw [e]; rfl)

/-- Whether an operation runs: its guard. -/
structure Guard where
  run : Tm → Bool → Bool → Bool
noncomputable def cguard (ops : Array Oper) (o : Oper) : Guard :=
  match o.guard with
  | none => ⟨fun _ x _ => x⟩
  | some (j, want) => match (ops[j]?).bind (·.dst) with
    | some d => ⟨fun t x y => (getD' d).run t fun v => vBool v (fun b => ifB (eqB b want) x y) y⟩
    | none => ⟨fun _ _ y => y⟩
theorem cguard_ok {ops : Array Oper} {o : Oper} {t : Tm} {x y : Bool} (h : (cguard ops o).run t x y = true) : (wantedA ops o t = true ∧ x = true) ∨ (wantedA ops o t = false ∧ y = true) := by
  unfold cguard at h
  split at h
  · rename_i hg; exact .inl ⟨by simp only [wantedA, hg], h⟩
  · rename_i j want hg
    split at h
    · rename_i d hd
      have g := getD'_ok h; clear h
      rcases vBool_cases g with ⟨b, hb, h⟩ | ⟨hb, h⟩
      · have hy : yieldedA ops t j = some b := by simp only [yieldedA, hd, at_bool hb]
        rcases ifB_true h with ⟨h1, h⟩ | ⟨h1, h⟩
        · exact .inl ⟨by simp only [wantedA, hg, hy]; rw [← eqB_eq]; exact h1, h⟩
        · exact .inr ⟨by simp only [wantedA, hg, hy]; rw [← eqB_eq]; exact h1, h⟩
      · have hy : yieldedA ops t j = none := by
          simp only [yieldedA, hd]
          have := at_notBool hb
          split
          · rename_i b e; exact absurd e (this b)
          · rfl
        exact .inr ⟨by simp only [wantedA, hg, hy], h⟩
    · rename_i hd
      exact .inr ⟨by simp only [wantedA, hg, yieldedA, hd], h⟩

structure RegSem where
  run : Hand → Tm → AMem → (Tm → AMem → Bool) → Bool
noncomputable def cops (E : Env) (n : Nat) (ops : Array Oper) : List Oper → RegSem
  | [] => ⟨fun _ t m K => K t m⟩
  | o :: os => match o.guard with
    | none => ⟨fun H t m K => (coper E o.op).run H t m fun v m => (putD n o.dst).run t v fun t => (cops E n ops os).run H t m K⟩
    | some _ => ⟨fun H t m K => (cguard ops o).run t ((coper E o.op).run H t m fun v m => (putD n o.dst).run t v fun t => (cops E n ops os).run H t m K) ((putD n o.dst).run t undef fun t => (cops E n ops os).run H t m K)⟩
theorem cops_ok {E : Env} {H : Hand} (hH : HOk E H) {n : Nat} {ops : Array Oper} {K : Tm → AMem → Bool} : ∀ {os : List Oper} {t : Tm} {m : AMem}, (cops E n ops os).run H t m K = true → OpsA E n ops (fun t m => K t m = true) os t m
  | [], t, m, h => h
  | o :: os, t, m, h => by
    unfold cops at h
    simp only [OpsA]
    split at h
    · rename_i hg
      have hw : wantedA ops o t = true := by simp only [wantedA, hg]
      rw [if_pos hw]
      refine (coper_ok hH h).mono fun v m' h => ?_
      obtain ⟨t', hp, h⟩ := putD_ok h
      exact ⟨t', hp, cops_ok hH h⟩
    · rcases cguard_ok h with ⟨hw, h⟩ | ⟨hw, h⟩
      · rw [if_pos hw]
        refine (coper_ok hH h).mono fun v m' h => ?_
        obtain ⟨t', hp, h⟩ := putD_ok h
        exact ⟨t', hp, cops_ok hH h⟩
      · rw [if_neg (by rw [hw]; exact Bool.false_ne_true)]
        obtain ⟨t', hp, h⟩ := putD_ok h
        exact ⟨t', hp, cops_ok hH h⟩

/-- A region that draws its order, all that could clash being ordered. -/
noncomputable def seenOk (E : Env) (t : Tm) (m : AMem) (o : Op) : Bool :=
  Option.rec (motive := fun _ => Bool) true (fun b => Nat.blt b m.next) (readsAt E t o)
noncomputable def isReadB (o : Op) : Bool :=
  match o with
  | .load _ _ | .lookup _ _ _ _ | .slice _ _ _ _ _ => true
  | .call c => match c.callee with
    | .builtin .len | .builtin .cap => true
    | _ => false
  | _ => false
theorem readsAt_none {E : Env} {t : Tm} {o : Op} (h : isReadB o = false) : readsAt E t o = none := by
  cases o with
  | load a b => cases h
  | lookup a b c d => cases h
  | slice a b c d e => cases h
  | call c =>
    simp only [readsAt]
    simp only [isReadB] at h
    cases hc : c.callee with
    | value f => rfl
    | invoke r n => rfl
    | builtin b =>
      rw [hc] at h
      cases b <;> first | (exact absurd h (by decide)) | rfl
  | _ => rfl
noncomputable def cnoted (E : Env) (n : Nat) (ops : Array Oper) : List Oper → RegSem
  | [] => ⟨fun _ t m K => K t m⟩
  | o :: os =>
    match isReadB o.op with
    | false => ⟨fun H t m K => (cguard ops o).run t (memWlK m fun m0 => (coper E o.op).run H t m0 fun v m' => (putD n o.dst).run t v fun t => memMinK m m' fun m => (cnoted E n ops os).run H t m K) ((putD n o.dst).run t undef fun t => (cnoted E n ops os).run H t m K)⟩
    | true => ⟨fun H t m K => (cguard ops o).run t (ifB (seenOk E t m o.op) (memWlK m fun m0 => (coper E o.op).run H t m0 fun v m' => (putD n o.dst).run t v fun t => memMinK m m' fun m => (cnoted E n ops os).run H t m K) false) ((putD n o.dst).run t undef fun t => (cnoted E n ops os).run H t m K)⟩
theorem all_rev {ns : List Note} (h : ns.all noteOk = true) : ns.reverse.all noteOk = true := by simpa using h
theorem cnoted_ok {E : Env} {H : Hand} (hH : HOk E H) {n : Nat} {ops : Array Oper} {K : Tm → AMem → Bool} : ∀ {os : List Oper} {t : Tm} {m : AMem} {ns : List Note}, (cnoted E n ops os).run H t m K = true → ns.all noteOk = true → NotedA E n ops (fun t m ns => ns.all noteOk = true ∧ K t m = true) os t m ns
  | [], t, m, ns, h, hn => ⟨all_rev hn, h⟩
  | o :: os, t, m, ns, h, hn => by
    have key : ((wantedA ops o t = true ∧ noteOk { read := readsAt E t o.op, wl := 0, next := m.next, wrote := none } = true ∧ (memWlK m fun m0 => (coper E o.op).run H t m0 fun v m' => (putD n o.dst).run t v fun t => memMinK m m' fun m => (cnoted E n ops os).run H t m K) = true)) ∨ (wantedA ops o t = false ∧ ((putD n o.dst).run t undef fun t => (cnoted E n ops os).run H t m K) = true) := by
      unfold cnoted at h
      split at h
      · rename_i hr
        rcases cguard_ok h with ⟨hw, h⟩ | ⟨hw, h⟩
        · exact .inl ⟨hw, by rw [readsAt_none hr]; rfl, h⟩
        · exact .inr ⟨hw, h⟩
      · rcases cguard_ok h with ⟨hw, h⟩ | ⟨hw, h⟩
        · obtain ⟨h1, h⟩ := ifB_and h
          refine .inl ⟨hw, ?_, h⟩
          unfold seenOk at h1
          unfold noteOk
          simp only
          cases hr : readsAt E t o.op with
          | none => rfl
          | some b => rw [hr] at h1; exact h1
        · exact .inr ⟨hw, h⟩
    simp only [NotedA]
    rcases key with ⟨hw, h1, h⟩ | ⟨hw, h⟩
    · rw [if_pos hw]
      rw [memWlK_eq] at h
      refine (coper_ok hH h).mono fun v m' h => ?_
      obtain ⟨t', hp, h⟩ := putD_ok h
      rw [memMinK_eq] at h
      refine ⟨t', hp, cnoted_ok hH h ?_⟩
      rw [List.all_cons, hn, Bool.and_true]
      exact h1
    · rw [if_neg (by rw [hw]; exact Bool.false_ne_true)]
      obtain ⟨t', hp, h⟩ := putD_ok h
      refine ⟨t', hp, cnoted_ok hH h ?_⟩
      rw [List.all_cons, hn]; rfl

/-- A region that draws its order, with what is noted. -/
structure NoteSem where
  run : Hand → Tm → AMem → List Note → (Tm → AMem → List Note → Bool) → Bool
noncomputable def cnotes (E : Env) (n : Nat) (ops : Array Oper) : List Oper → NoteSem
  | [] => ⟨fun _ t m ns K => K t m ns.reverse⟩
  | o :: os => ⟨fun H t m ns K => (cguard ops o).run t
      (memWlK m fun m0 => (coper E o.op).run H t m0 fun v m' => (putD n o.dst).run t v fun t' => memMinK m m' fun m'' => (cnotes E n ops os).run H t' m'' ({ read := readsAt E t o.op, wl := m'.wl, next := m.next, wrote := writesAt E t o.op } :: ns) K)
      ((putD n o.dst).run t undef fun t => (cnotes E n ops os).run H t m ({ read := none, wl := m.next, next := m.next, wrote := none } :: ns) K)⟩
theorem cnotes_ok {E : Env} {H : Hand} (hH : HOk E H) {n : Nat} {ops : Array Oper} {K : Tm → AMem → List Note → Bool} : ∀ {os : List Oper} {t : Tm} {m : AMem} {ns : List Note}, (cnotes E n ops os).run H t m ns K = true → NotedA E n ops (fun t m ns => K t m ns = true) os t m ns
  | [], t, m, ns, h => h
  | o :: os, t, m, ns, h => by
    unfold cnotes at h
    simp only [NotedA]
    rcases cguard_ok h with ⟨hw, h⟩ | ⟨hw, h⟩
    · rw [if_pos hw]
      rw [memWlK_eq] at h
      refine (coper_ok hH h).mono fun v m' h => ?_
      obtain ⟨t', hp, h⟩ := putD_ok h
      rw [memMinK_eq] at h
      exact ⟨t', hp, cnotes_ok hH h⟩
    · rw [if_neg (by rw [hw]; exact Bool.false_ne_true)]
      obtain ⟨t', hp, h⟩ := putD_ok h
      exact ⟨t', hp, cnotes_ok hH h⟩
noncomputable def creg (E : Env) (n : Nat) (ops : Array Oper) (draw : Bool) : RegSem :=
  match draw with
  | false => cops E n ops ops.toList
  | true => match pairsOf ops with
    | none => ⟨fun _ _ _ _ => false⟩
    | some [] => cnoted E n ops ops.toList
    | some ps => ⟨fun H t m K => (cnotes E n ops ops.toList).run H t m [] fun t m ns => ifB (ps.all (pairOk ns ops) && ns.all noteOk) (K t m) false⟩
theorem notedA_mono {E : Env} {n : Nat} {ops : Array Oper} {K K' : Tm → AMem → List Note → Prop} (hk : ∀ t m ns, K t m ns → K' t m ns) : ∀ {os : List Oper} {t : Tm} {m : AMem} {ns : List Note}, NotedA E n ops K os t m ns → NotedA E n ops K' os t m ns
  | [], t, m, ns, h => hk _ _ _ h
  | o :: os, t, m, ns, h => by
    simp only [NotedA] at h ⊢
    split at h
    · rename_i hw
      rw [if_pos hw]
      refine h.mono fun v m' h => ?_
      obtain ⟨t', hp, h⟩ := h
      exact ⟨t', hp, notedA_mono hk h⟩
    · rename_i hw
      rw [if_neg hw]
      obtain ⟨t', hp, h⟩ := h
      exact ⟨t', hp, notedA_mono hk h⟩
theorem creg_ok {E : Env} {H : Hand} (hH : HOk E H) {n : Nat} {fn : FuncId} {ro : Option Nat} {id : Nat} {ops : Array Oper} {draw : Bool} {Q : AExit → Tm → AMem → Prop} {t : Tm} {m : AMem} {K : Tm → AMem → Bool} (hQ : ∀ t m, K t m = true → Q .normal t m) (h : (creg E n ops draw).run H t m K = true) : CodeA E n fn ro (.region id ops draw) Q t m := by
  unfold creg at h
  split at h
  · exact (CodeA.region (Q := fun e t m => e = .normal ∧ K t m = true) (by
      have := cops_ok hH h
      have mono : ∀ {os : List Oper} {t : Tm} {m : AMem}, OpsA E n ops (fun t m => K t m = true) os t m → OpsA E n ops (fun t m => AExit.normal = .normal ∧ K t m = true) os t m := by
        intro os t m h; simpa using h
      exact mono this)).mono fun e t m h => by obtain ⟨rfl, h⟩ := h; exact hQ _ _ h
  · split at h
    · cases h
    · rename_i hp
      refine CodeA.draw hp (notedA_mono (fun t m ns h => ?_) (cnoted_ok hH h rfl))
      exact ⟨by rw [h.1]; rfl, hQ _ _ h.2⟩
    · rename_i ps _ hp
      refine CodeA.draw hp (notedA_mono (fun t m ns h => ?_) (cnotes_ok hH h))
      obtain ⟨h1, h2⟩ := ifB_and h
      exact ⟨h1, hQ _ _ h2⟩
end Go.Ab
