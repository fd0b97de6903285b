/- GraphKnown returns true: the kernel evaluates the law by the abstract machine, which is proved to follow the model; two functions are evaluated by their contracts. Conditions: none beyond those of the row. -/
import Derived.Test.YtpclggcpobakhaaDoorS18Tz
import Derived.Test.YtpclggcpobakhaaDoorS18Around
namespace Go.Proofs.YtpclggcpobakhaaDoor
open Go Go.Ab

/-! ### Contracts that are computed -/
def eqTab : List Value → List Int → Bool
  | [], [] => true
  | .int .u8 n :: vs, k :: ks => n == k && eqTab vs ks
  | _, _ => false
theorem eqTab_true : ∀ {vs : List Value} {ks : List Int}, eqTab vs ks = true → vs = ks.map (.int .u8)
  | [], [], _ => rfl
  | [], _ :: _, h => by cases h
  | v :: vs, [], h => by simp [eqTab] at h
  | v :: vs, k :: ks, h => by
    unfold eqTab at h
    split at h
    · rename_i e _; cases e
    · rename_i n vs' k' ks' e1 e2
      cases e1; cases e2
      simp only [Bool.and_eq_true, beq_iff_eq] at h
      rw [h.1, eqTab_true h.2]; rfl
    · cases h
def tabAt (m : AMem) : Bool :=
  match m.get 0 with
  | some (.cells cs .ro) => eqTab cs tabInts
  | _ => false
theorem tabAt_true {m : AMem} (h : tabAt m = true) : m.get 0 = some (.cells (tabInts.map (.int .u8)) .ro) := by
  unfold tabAt at h
  split at h
  · rename_i cs hg; rw [hg, eqTab_true h]
  · cases h
def tzRun (args : List Value) (m : AMem) : Option (Value × AMem) :=
  match args with
  | [.int .u64 (.ofNat x)] => if tabAt m && Nat.blt x (2 ^ 64) then some (.int .i64 (.ofNat (tz x)), m) else none
  | _ => none
theorem tz_meets {args : List Value} {m m' : AMem} {v : Value} (h : tzRun args m = some (v, m')) : Meets E18 42 args m v m' := by
  unfold tzRun at h
  split at h
  · rename_i x
    split at h
    · rename_i hc
      simp only [Bool.and_eq_true] at hc
      cases h
      have hx : x < 2 ^ 64 := by have := hc.2; rw [Nat.blt_eq] at this; exact this
      refine (tz_spec x hx { m with wl := m.next } (tabAt_true hc.1)).mono ?_
      rintro v1 m1 ⟨rfl, rfl⟩
      exact ⟨⟨Nat.le_refl _, fun _ _ => rfl, Nat.le_refl _⟩, .inl ⟨rfl, rfl, rfl⟩⟩
    · cases h
  · cases h

/-- The edges of a slice. -/
def pairsL : Nat → List Value → Option (List (Nat × Nat))
  | 0, _ => some []
  | n + 1, .int .i64 (.ofNat a) :: .int .i64 (.ofNat b) :: cs => (pairsL n cs).map fun l => (a, b) :: l
  | _ + 1, _ => none
theorem pairsL_true : ∀ {n : Nat} {cs : List Value} {es : List (Nat × Nat)}, pairsL n cs = some es → es.length = n ∧ ∀ i x, (es.map ecells)[i]? = some x → (cs.drop (i * 2)).take 2 = x ∧ x.length = 2
  | 0, cs, es, h => by cases h; exact ⟨rfl, fun i x hi => by simp at hi⟩
  | n + 1, cs, es, h => by
    unfold pairsL at h
    split at h
    · rename_i e; cases e
    · rename_i n' a b cs' e
      cases e
      cases hp : pairsL n cs' with
      | none => rw [hp] at h; cases h
      | some l =>
        rw [hp] at h
        cases h
        obtain ⟨h1, h2⟩ := pairsL_true hp
        refine ⟨by simp [h1], fun i x hi => ?_⟩
        cases i with
        | zero => simp [ecells] at hi; subst hi; exact ⟨rfl, rfl⟩
        | succ i =>
          have := h2 i x (by simpa using hi)
          rw [show (i + 1) * 2 = i * 2 + 1 + 1 by omega]
          simpa using this
    · cases h
def edgesOf (m : AMem) (sl : Value) : Option (List (Nat × Nat)) :=
  match sl with
  | .slice none 0 0 => some []
  | .slice (some ⟨b, o, none⟩) len cap => match m.get b with
    | some (.cells cs _) => if Nat.blt b m.next && Nat.ble len cap then pairsL len (cs.drop o) else none
    | _ => none
  | _ => none
theorem edgesOf_true {m : AMem} {sl : Value} {es : List (Nat × Nat)} (h : edgesOf m sl = some es) : SlA m 2 sl (es.map ecells) := by
  unfold edgesOf at h
  split at h
  · cases h; exact .nil
  · rename_i b o len cap
    split at h
    · rename_i cs tag hg
      split at h
      · rename_i hc
        simp only [Bool.and_eq_true, Nat.blt_eq] at hc
        obtain ⟨h1, h2⟩ := pairsL_true h
        have hl : (es.map ecells).length = len := by rw [List.length_map, h1]
        rw [← hl]
        refine .at hc.1 hg (by rw [hl]; exact Nat.le_of_ble_eq_true hc.2) fun i x hi => ?_
        have := h2 i x hi
        rw [List.drop_drop] at this
        exact this
      · cases h
    · cases h
  · cases h
def okE (n : Nat) : List (Nat × Nat) → Bool
  | [] => true
  | e :: es => Nat.blt e.1 n && Nat.blt e.2 n && okE n es
theorem okE_true {n : Nat} : ∀ {es : List (Nat × Nat)}, okE n es = true → ∀ e ∈ es, e.1 < n ∧ e.2 < n
  | [], _, e, h => by cases h
  | x :: es, h, e, he => by
    simp only [okE, Bool.and_eq_true, Nat.blt_eq] at h
    rcases List.mem_cons.1 he with rfl | he
    · exact ⟨h.1.1, h.1.2⟩
    · exact okE_true h.2 e he
def aroundRun (args : List Value) (m : AMem) : Option (Value × AMem) :=
  match args with
  | [.agg ⟨[.int .i64 (.ofNat n), sl]⟩] => match edgesOf m sl with
    | some es => if Nat.ble n 64 && okE n es && Nat.ble es.length 1000 then some (.slice (some ⟨m.next, 0, none⟩) n n, m.alloc (.cells ((aroundL n es).map cw) .own)) else none
    | none => none
  | _ => none
theorem slA_wl {m : AMem} {x w : Nat} {sl : Value} {xs : List (List Value)} (h : SlA m w sl xs) : SlA { m with wl := x } w sl xs := by
  cases h with
  | nil => exact .nil
  | «at» hb hg hc hx => exact .at hb hg hc hx
theorem around_meets {args : List Value} {m m' : AMem} {v : Value} (h : aroundRun args m = some (v, m')) : Meets E18 75 args m v m' := by
  unfold aroundRun at h
  split at h
  · rename_i n sl
    split at h
    · rename_i es hes
      split at h
      · rename_i hc
        simp only [Bool.and_eq_true] at hc
        cases h
        refine (around_spec n es sl { m with wl := m.next } (Nat.le_of_ble_eq_true hc.1.1) (okE_true hc.1.2) (slA_wl (edgesOf_true hes)) (Nat.le_refl _) (Nat.le_of_ble_eq_true hc.2)).mono ?_
        rintro v1 m1 ⟨b, rfl, h1, h2, h3, h4⟩
        refine ⟨⟨h4.next, h4.same, h4.wl⟩, .inr ⟨fun b => .slice (some ⟨b, 0, none⟩) n n, b, _, _, Leads.slice 0 n n, rfl, rfl, h1, h2, h3, ?_, rfl⟩⟩
        rw [List.all_map]
        exact List.all_eq_true.2 fun w _ => rfl
      · cases h
    · cases h
  · cases h

def pr18 (f : FuncId) : Option Prim := if f = 42 then some ⟨tzRun⟩ else if f = 75 then some ⟨aroundRun⟩ else none
noncomputable def E18p : Env := { E18 with prim := pr18 }
theorem E18p_ok : EnvOk E18p := envOk_prims E18ok fun f p hp args m v m' h => by
  unfold pr18 at hp
  split at hp
  · rename_i e; cases hp; rw [e]; exact tz_meets h
  · split at hp
    · rename_i e; cases hp; rw [e]; exact around_meets h
    · cases hp

/-! ### Contracts, evaluated -/
noncomputable def tzK (args : List Value) (m : AMem) (K : Value → AMem → Bool) : Bool :=
  nthK 0 args fun a => ifB (lenK args 1) (vInt a fun kd z => ifB (eqKind kd .u64) (natZ z (fun x => ifB (Nat.blt x 18446744073709551616) (cellsK m 0 fun cs tag => Tag.rec (motive := fun _ => Bool) (ifB (eqTab cs tabInts) (fN (tz x) fun k => K (.int .i64 (.ofNat k)) m) false) false (fun _ => false) tag) false) false) false) false
theorem tzK_ok {args : List Value} {m : AMem} {K : Value → AMem → Bool} (h : tzK args m K = true) : ∃ v m', tzRun args m = some (v, m') ∧ K v m' = true := by
  obtain ⟨a, ha, h⟩ := nthK_true h
  obtain ⟨hl, h⟩ := ifB_and h
  have hargs : args = [a] := by
    have := lenK_true hl
    cases args with
    | nil => cases ha
    | cons x xs =>
      have h0 : xs = [] := by simpa using this
      subst h0
      simpa using ha
  obtain ⟨kd, z, e1, h⟩ := vInt_true h
  obtain ⟨hk, h⟩ := ifB_and h
  cases eqKind_true hk
  rcases natZ_cases h with ⟨x, e2, h⟩ | h
  · obtain ⟨hx, h⟩ := ifB_and h
    obtain ⟨cs, tag, hg, h⟩ := cellsK_true h
    cases tag with
    | ro =>
      obtain ⟨ht, h⟩ := ifB_and h
      rw [fN_eq] at h
      have htab : tabAt m = true := by unfold tabAt; rw [hg]; exact ht
      refine ⟨_, _, ?_, h⟩
      rw [hargs, e1, e2]
      show (if tabAt m && Nat.blt x (2 ^ 64) then _ else none) = _
      have hx' : Nat.blt x (2 ^ 64) = true := hx
      rw [htab, hx']
      rfl
    | own => cases h
    | more sz => cases h
  · cases h

noncomputable def pairsK : Nat → List Value → (List (Nat × Nat) → Bool) → Bool :=
  Nat.rec (fun _ k => k []) fun _ ih cs k => List.rec (motive := fun _ => Bool) false (fun va rest _ => List.rec (motive := fun _ => Bool) false (fun vb rest' _ => vInt va fun ka a => vInt vb fun kb b => ifB (eqKind ka .i64) (ifB (eqKind kb .i64) (natZ a (fun a => natZ b (fun b => ih rest' fun l => k ((a, b) :: l)) false) false) false) false) rest) cs
theorem pairsK_true : ∀ {n : Nat} {cs : List Value} {k : List (Nat × Nat) → Bool}, pairsK n cs k = true → ∃ es, pairsL n cs = some es ∧ k es = true
  | 0, cs, k, h => ⟨[], rfl, h⟩
  | n + 1, [], k, h => by cases h
  | n + 1, [_], k, h => by cases h
  | n + 1, va :: vb :: cs, k, h => by
    have h' : (vInt va fun ka a => vInt vb fun kb b => ifB (eqKind ka .i64) (ifB (eqKind kb .i64) (natZ a (fun a => natZ b (fun b => pairsK n cs fun l => k ((a, b) :: l)) false) false) false) false) = true := h
    obtain ⟨ka, a, rfl, h1⟩ := vInt_true h'
    obtain ⟨kb, b, rfl, h2⟩ := vInt_true h1
    obtain ⟨e1, h3⟩ := ifB_and h2
    obtain ⟨e2, h4⟩ := ifB_and h3
    cases eqKind_true e1
    cases eqKind_true e2
    rcases natZ_cases h4 with ⟨x, rfl, h5⟩ | h5
    · rcases natZ_cases h5 with ⟨y, rfl, h6⟩ | h6
      · obtain ⟨es, h7, h8⟩ := pairsK_true h6
        refine ⟨(x, y) :: es, ?_, h8⟩
        show (pairsL n cs).map _ = _
        rw [h7]; rfl
      · cases h6
    · cases h5
/-- A word of a list gets more bits. -/
noncomputable def orK (i w : Nat) (l : List Nat) (k : List Nat → Bool) : Bool :=
  Nat.rec (motive := fun _ => List Nat → (List Nat → Bool) → Bool) (fun l k => List.rec (motive := fun _ => Bool) (k []) (fun x t _ => fN (Nat.lor x w) fun x => k (x :: t)) l) (fun _ ih l k => List.rec (motive := fun _ => Bool) (k []) (fun x t _ => ih t fun t => k (x :: t)) l) i l k
theorem orK_eq (w : Nat) : ∀ (i : Nat) (l : List Nat) (k : List Nat → Bool), orK i w l k = k (l.set i (l.getD i 0 ||| w))
  | 0, [], k => rfl
  | 0, x :: t, k => by
    show fN (Nat.lor x w) (fun x => k (x :: t)) = _
    rw [fN_eq]; rfl
  | i + 1, [], k => rfl
  | i + 1, x :: t, k => by
    show orK i w t (fun t => k (x :: t)) = _
    rw [orK_eq w i t]
    simp
noncomputable def foldK (es : List (Nat × Nat)) : List Nat → (List Nat → Bool) → Bool :=
  List.rec (motive := fun _ => List Nat → (List Nat → Bool) → Bool) (fun o k => k o) (fun e _ ih o k => Prod.rec (motive := fun _ => Bool) (fun a b => orK a (Nat.pow 2 b) o fun o => orK b (Nat.pow 2 a) o fun o => ih o k) e) es
theorem foldK_eq : ∀ (es : List (Nat × Nat)) (o : List Nat) (k : List Nat → Bool), foldK es o k = k (es.foldl addE o)
  | [], o, k => rfl
  | (a, b) :: es, o, k => by
    show orK a (Nat.pow 2 b) o (fun o => orK b (Nat.pow 2 a) o fun o => foldK es o k) = _
    rw [orK_eq, orK_eq, foldK_eq]; rfl
noncomputable def cwK (l : List Nat) (k : List Value → Bool) : Bool := List.rec (motive := fun _ => (List Value → Bool) → Bool) (fun k => k []) (fun x _ ih k => ih fun t => k (.int .u64 (.ofNat x) :: t)) l k
theorem cwK_eq : ∀ (l : List Nat) (k : List Value → Bool), cwK l k = k (l.map cw)
  | [], k => rfl
  | x :: l, k => by
    show cwK l (fun t => k (.int .u64 (.ofNat x) :: t)) = _
    rw [cwK_eq]; rfl
noncomputable def edgesK (m : AMem) (sl : Value) (k : List (Nat × Nat) → Bool) : Bool :=
  vSlice sl fun a len cap => Option.rec (motive := fun _ => Bool) (ifB (Nat.beq len 0) (ifB (Nat.beq cap 0) (k []) false) false) (fun _ => atK a fun b o => cellsK m b fun cs _ => ifB (Nat.blt b m.next) (ifB (Nat.ble len cap) (dropK o cs fun cs => pairsK len cs k) false) false) a
theorem edgesK_true {m : AMem} {sl : Value} {k : List (Nat × Nat) → Bool} (h : edgesK m sl k = true) : ∃ es, edgesOf m sl = some es ∧ k es = true := by
  obtain ⟨a, len, cap, e, h1⟩ := vSlice_true h
  cases a with
  | none =>
    obtain ⟨e1, h2⟩ := ifB_and h1
    obtain ⟨e2, h3⟩ := ifB_and h2
    have e1' := Nat.eq_of_beq_eq_true e1
    have e2' := Nat.eq_of_beq_eq_true e2
    subst e1' e2'
    exact ⟨[], by rw [e]; rfl, h3⟩
  | some a =>
    obtain ⟨b, o, e3, h2⟩ := atK_true h1
    cases e3
    obtain ⟨cs, tag, hg, h3⟩ := cellsK_true h2
    obtain ⟨e4, h4⟩ := ifB_and h3
    obtain ⟨e5, h5⟩ := ifB_and h4
    rw [dropK_eq] at h5
    obtain ⟨es, h6, h7⟩ := pairsK_true h5
    refine ⟨es, ?_, h7⟩
    rw [e]
    simp only [edgesOf, hg, e4, e5, Bool.and_self, if_true, h6]
noncomputable def aroundK (args : List Value) (m : AMem) (K : Value → AMem → Bool) : Bool :=
  nthK 0 args fun a => ifB (lenK args 1) (vAgg a fun cs => ifB (lenK cs.toList 2) (nthK 0 cs.toList fun nv => nthK 1 cs.toList fun sl => vInt nv fun kd z => ifB (eqKind kd .i64) (natZ z (fun n => edgesK m sl fun es => ifB (Nat.ble n 64) (ifB (okE n es) (ifB (Nat.ble es.length 1000) (foldK es (List.replicate n 0) fun o => cwK o fun l => memAllocK m (.cells l .own) fun b m => K (.slice (some ⟨b, 0, none⟩) n n) m) false) false) false) false) false) false) false
theorem aroundK_ok {args : List Value} {m : AMem} {K : Value → AMem → Bool} (h : aroundK args m K = true) : ∃ v m', aroundRun args m = some (v, m') ∧ K v m' = true := by
  obtain ⟨a, ha, h1⟩ := nthK_true h
  obtain ⟨hl, h2⟩ := ifB_and h1
  have hargs : args = [a] := by
    have := lenK_true hl
    cases args with
    | nil => cases ha
    | cons x xs =>
      have h0 : xs = [] := by simpa using this
      subst h0
      simpa using ha
  obtain ⟨cs, e1, h3⟩ := vAgg_true h2
  obtain ⟨hl2, h4⟩ := ifB_and h3
  obtain ⟨nv, hn, h5⟩ := nthK_true h4
  obtain ⟨sl, hs, h6⟩ := nthK_true h5
  have hcs : cs = ⟨[nv, sl]⟩ := by
    have h0 := lenK_true hl2
    obtain ⟨l⟩ := cs
    simp only at hn hs h0
    match l, h0 with
    | [x, y], _ =>
      simp at hn hs
      rw [hn, hs]
  obtain ⟨kd, z, e2, h7⟩ := vInt_true h6
  obtain ⟨hk, h8⟩ := ifB_and h7
  cases eqKind_true hk
  rcases natZ_cases h8 with ⟨n, e3, h9⟩ | h9
  · obtain ⟨es, h10, h11⟩ := edgesK_true h9
    obtain ⟨c1, h12⟩ := ifB_and h11
    obtain ⟨c2, h13⟩ := ifB_and h12
    obtain ⟨c3, h14⟩ := ifB_and h13
    rw [foldK_eq, cwK_eq, memAllocK_eq] at h14
    refine ⟨_, _, ?_, h14⟩
    rw [hargs, e1, hcs, e2, e3]
    show (match edgesOf m sl with | some es => if Nat.ble n 64 && okE n es && Nat.ble es.length 1000 then _ else none | none => none) = _
    rw [h10]
    simp only [c1, c2, c3, Bool.and_self, if_true]
    rfl
  · cases h9

noncomputable def fast18 (f : FuncId) : Option PSem := if f = 42 then some ⟨tzK⟩ else if f = 75 then some ⟨aroundK⟩ else none
theorem fast18_ok : FOk E18p fast18 := by
  intro f S hS
  unfold fast18 at hS
  split at hS
  · rename_i e; cases hS; subst e
    exact ⟨⟨tzRun⟩, rfl, fun h => tzK_ok h⟩
  · split at hS
    · rename_i e; cases hS; subst e
      exact ⟨⟨aroundRun⟩, rfl, fun h => aroundK_ok h⟩
    · cases hS
end Go.Proofs.YtpclggcpobakhaaDoor
