/-
  The abstract machine: rules for walking a function's code by rewriting, with values that are not known.
-/
import Derived.Test.YtpclggcpobakhaaDoorAbsSl
import Derived.Test.YtpclggcpobakhaaDoorAbsPrim
namespace Go.Ab
open Go

/-- The same memory with another mark of what was written. -/
def AMem.ww (m : AMem) (x : Nat) : AMem := { m with wl := x }
section
variable {E : Env} {n : Nat} {fn : FuncId} {ro : Option Nat} {Q : AExit → Tm → AMem → Prop} {t : Tm} {m : AMem} {P : Program}
@[simp] theorem AMem.get_ww (m : AMem) (x b : Nat) : (m.ww x).get b = m.get b := rfl
@[simp] theorem AMem.next_ww (m : AMem) (x : Nat) : (m.ww x).next = m.next := rfl
@[simp] theorem AMem.wl_ww (m : AMem) (x : Nat) : (m.ww x).wl = x := rfl

theorem nm_nil {ops : Array Oper} {K : Tm → AMem → List Note → Prop} {ns : List Note} : NotedM E n ops K [] t m ns = K t m ns.reverse := rfl
theorem nm_cons {ops : Array Oper} {K : Tm → AMem → List Note → Prop} {o : Oper} {os : List Oper} {ns : List Note} : NotedM E n ops K (o :: os) t m ns = if wantedA ops o t then OperM E t (m.ww m.next) o.op fun v m' => tmM (putT n t o.dst v) fun t' =>
      NotedM E n ops K os t' (m'.ww (min m.wl m'.wl)) ({ read := readsAt E t o.op, wl := m'.wl, next := m.next, wrote := writesAt E t o.op } :: ns)
    else tmM (putT n t o.dst undef) fun t' => NotedM E n ops K os t' m ({ read := none, wl := m.next, next := m.next, wrote := none } :: ns) := rfl
/-- A region that draws its order, nothing in which clashes: what comes behind is held back. -/
theorem CodeA.drawK {id : Nat} {ops : Array Oper} (hp : pairsOf ops = some []) (h : ∀ K : Tm → AMem → Prop, (∀ t m, Q .normal t m → K t m) → NotedM E n ops (fun t m ns => ns.all noteOk = true ∧ K t m) ops.toList t m []) : CodeA E n fn ro (.region id ops true) Q t m := by
  refine .draw hp ?_
  have h1 := notedA_of_M (h (fun t m => Q .normal t m) fun _ _ h => h)
  have mono : ∀ {os : List Oper} {t : Tm} {m : AMem} {ns : List Note}, NotedA E n ops (fun t m ns => ns.all noteOk = true ∧ Q .normal t m) os t m ns → NotedA E n ops (fun t m ns => (([] : List (Nat × Nat)).all (pairOk ns ops) && ns.all noteOk) = true ∧ Q .normal t m) os t m ns := by
    intro os t m ns h
    simpa using h
  exact mono h1

/-! ### Parts of a walk: what comes behind is not looked at before its time -/
def gM (b : Bool) (A B : Prop) : Prop := if b then A else B
theorem gM_true (A B : Prop) : gM true A B = A := rfl
theorem gM_false (A B : Prop) : gM false A B = B := rfl
def vM {α : Type} (r : Option α) (K : α → Prop) : Prop :=
  match r with
  | some v => K v
  | none => False
theorem vM_some {α : Type} (v : α) (K : α → Prop) : vM (some v) K = K v := rfl
def pickM (c a b : Option Value) (K : Value → Prop) : Prop :=
  match c with
  | some (.bool true) => vM a K
  | some (.bool false) => vM b K
  | _ => False
theorem pickM_true (a b : Option Value) (K : Value → Prop) : pickM (some (.bool true)) a b K = vM a K := rfl
theorem pickM_false (a b : Option Value) (K : Value → Prop) : pickM (some (.bool false)) a b K = vM b K := rfl
@[congr] theorem gM_congr {b b' : Bool} {A B : Prop} (h : b = b') : gM b A B = gM b' A B := by rw [h]
@[congr] theorem vM_congr {α : Type} {r r' : Option α} {K : α → Prop} (h : r = r') : vM r K = vM r' K := by rw [h]
@[congr] theorem pickM_congr {c c' a b : Option Value} {K : Value → Prop} (h : c = c') : pickM c a b K = pickM c' a b K := by rw [h]
@[congr] theorem valM_congr {r r' : Option (Value × AMem)} {K : Value → AMem → Prop} (h : r = r') : valM r K = valM r' K := by rw [h]
@[congr] theorem tmM_congr {r : Option Tm} {K : Tm → Prop} : tmM r K = tmM r K := rfl
@[congr] theorem callM_congr {f f' : Option Value} {as as' : Option (List Value)} {K : Value → AMem → Prop} (h : f = f') (h' : as = as') : callM E f as m K = callM E f' as' m K := by rw [h, h']
@[congr] theorem callA_congr {f : FuncId} {as as' : List Value} {K : Value → AMem → Prop} (h : as = as') : CallA E f as m K = CallA E f as' m K := by rw [h]
@[congr] theorem operM_congr {o : Op} {K : Value → AMem → Prop} : OperM E t m o K = OperM E t m o K := rfl
@[congr] theorem wantedA_congr {ops : Array Oper} {o : Oper} : wantedA ops o t = wantedA ops o t := rfl
@[congr] theorem opsM_congr {ops : Array Oper} {K : Tm → AMem → Prop} {os : List Oper} : OpsM E n ops K os t m = OpsM E n ops K os t m := rfl
@[congr] theorem notedM_congr {ops : Array Oper} {K : Tm → AMem → List Note → Prop} {os : List Oper} {ns : List Note} : NotedM E n ops K os t m ns = NotedM E n ops K os t m ns := rfl
@[congr] theorem codeA_congr {c : Code} : CodeA E n fn ro c Q t m = CodeA E n fn ro c Q t m := rfl
theorem og_nil {ops : Array Oper} {K : Tm → AMem → Prop} : OpsM E n ops K [] t m = K t m := rfl
theorem og_cons {ops : Array Oper} {K : Tm → AMem → Prop} {o : Oper} {os : List Oper} : OpsM E n ops K (o :: os) t m = gM (wantedA ops o t) (OperM E t m o.op fun v m' => tmM (putT n t o.dst v) fun t' => OpsM E n ops K os t' m') (tmM (putT n t o.dst undef) fun t' => OpsM E n ops K os t' m) := rfl
theorem og_start {l : List Oper} {K : Tm → AMem → Prop} : OpsM E n l.toArray K (l.toArray.toList) t m = OpsM E n l.toArray K l t m := rfl
theorem ng_start {l : List Oper} {K : Tm → AMem → List Note → Prop} {ns : List Note} : NotedM E n l.toArray K (l.toArray.toList) t m ns = NotedM E n l.toArray K l t m ns := rfl
theorem ng_nil {ops : Array Oper} {K : Tm → AMem → List Note → Prop} {ns : List Note} : NotedM E n ops K [] t m ns = K t m ns.reverse := rfl
theorem ng_cons {ops : Array Oper} {K : Tm → AMem → List Note → Prop} {o : Oper} {os : List Oper} {ns : List Note} : NotedM E n ops K (o :: os) t m ns = gM (wantedA ops o t) (OperM E t (m.ww m.next) o.op fun v m' => tmM (putT n t o.dst v) fun t' =>
      NotedM E n ops K os t' (m'.ww (min m.wl m'.wl)) ({ read := readsAt E t o.op, wl := m'.wl, next := m.next, wrote := writesAt E t o.op } :: ns))
    (tmM (putT n t o.dst undef) fun t' => NotedM E n ops K os t' m ({ read := none, wl := m.next, next := m.next, wrote := none } :: ns)) := rfl
theorem w_none {ops : Array Oper} {d : Option Tmp} {o : Op} {ty : TypeId} {p : String} {a : Array Edge} : wantedA ops ⟨d, o, ty, p, a, none⟩ t = true := rfl
theorem w_some {ops : Array Oper} {d : Option Tmp} {o : Op} {ty : TypeId} {p : String} {a : Array Edge} {j : Nat} {b : Bool} : wantedA ops ⟨d, o, ty, p, a, some (j, b)⟩ t = (match yieldedA ops t j with | some c => c == b | none => false) := rfl
theorem tm_none (v : Value) (K : Tm → Prop) : tmM (putT n t none v) K = K t := rfl
theorem tm_put {d : Nat} {v : Value} {K : Tm → Prop} (h : d < n) : tmM (putT n t (some d) v) K = K (t.set d v) := by rw [putT_some, if_pos h]; rfl

section
variable {K : Value → AMem → Prop}
theorem op_move {x : Operand} : OperM E t m (.move x) K = vM (evalA E t x) fun v => K v m := by show valM ((evalA E t x).map _) K = _; cases evalA E t x <;> rfl
theorem op_assign {x : Operand} : OperM E t m (.assign x) K = vM (evalA E t x) fun v => K v m := by show valM ((evalA E t x).map _) K = _; cases evalA E t x <;> rfl
theorem op_pick {c a b : Operand} : OperM E t m (.pick c a b) K = pickM (evalA E t c) (evalA E t a) (evalA E t b) fun v => K v m := by
  show valM (match evalA E t c with | some (.bool true) => (evalA E t a).map fun v => (v, m) | some (.bool false) => (evalA E t b).map fun v => (v, m) | _ => none) K = _
  unfold pickM
  split
  · cases evalA E t a <;> rfl
  · cases evalA E t b <;> rfl
  · rfl
theorem op_box {e : TypeId} {x : Operand} : OperM E t m (.box e x) K = vM (evalA E t x) fun v => K (ptr m.next 0) (m.alloc (.cells v.cells.toList .own)) := by show valM ((evalA E t x).map _) K = _; cases evalA E t x <;> rfl
theorem op_load {e : TypeId} {x : Operand} : OperM E t m (.load e x) K = vM (evalA E t x) fun p => vM (loadA E.P e p m) fun v => K v m := by
  show valM (match evalA E t x with | some p => (loadA E.P e p m).map fun v => (v, m) | none => none) K = _
  cases evalA E t x with
  | none => rfl
  | some p => show valM ((loadA E.P e p m).map _) K = vM (loadA E.P e p m) _; cases loadA E.P e p m <;> rfl
theorem op_store {e : TypeId} {x y : Operand} : OperM E t m (.store e x y) K = vM (evalA E t x) fun p => vM (evalA E t y) fun v => vM (storeA E.P e p v m) fun m' => K undef m' := by
  show valM (match evalA E t x, evalA E t y with | some p, some v => (storeA E.P e p v m).map fun m' => (undef, m') | _, _ => none) K = _
  cases evalA E t x with
  | none => rfl
  | some p => cases evalA E t y with
    | none => rfl
    | some v => show valM ((storeA E.P e p v m).map _) K = vM (storeA E.P e p v m) _; cases storeA E.P e p v m <;> rfl
theorem op_binOp {b : BinOp} {e e' : TypeId} {x y : Operand} : OperM E t m (.binOp b e x y e') K = vM (evalA E t x) fun p => vM (evalA E t y) fun v => vM (binA b e E.P p v) fun r => K r m := by
  show valM (match evalA E t x, evalA E t y with | some p, some v => (binA b e E.P p v).map fun v => (v, m) | _, _ => none) K = _
  cases evalA E t x with
  | none => rfl
  | some p => cases evalA E t y with
    | none => rfl
    | some v => show valM ((binA b e E.P p v).map _) K = vM (binA b e E.P p v) _; cases binA b e E.P p v <;> rfl
theorem op_unOp {b : UnOp} {e : TypeId} {x : Operand} : OperM E t m (.unOp b e x) K = vM (evalA E t x) fun p => vM (unA b p) fun r => K r m := by
  show valM (match evalA E t x with | some p => (unA b p).map fun v => (v, m) | none => none) K = _
  cases evalA E t x with
  | none => rfl
  | some p => show valM ((unA b p).map _) K = vM (unA b p) _; cases unA b p <;> rfl
theorem op_convert {e e' : TypeId} {x : Operand} : OperM E t m (.convert e e' x) K = vM (evalA E t x) fun p => vM (convA E.P e e' p) fun r => K r m := by
  show valM (match evalA E t x with | some p => (convA E.P e e' p).map fun v => (v, m) | none => none) K = _
  cases evalA E t x with
  | none => rfl
  | some p => show valM ((convA E.P e e' p).map _) K = vM (convA E.P e e' p) _; cases convA E.P e e' p <;> rfl
theorem op_fieldAddr {e : TypeId} {x : Operand} {f : Nat} : OperM E t m (.fieldAddr e x f) K = vM (evalA E t x) fun p => vM (fieldAddrA E.P e p f) fun r => K r m := by
  show valM (match evalA E t x with | some p => (fieldAddrA E.P e p f).map fun v => (v, m) | none => none) K = _
  cases evalA E t x with
  | none => rfl
  | some p => show valM ((fieldAddrA E.P e p f).map _) K = vM (fieldAddrA E.P e p f) _; cases fieldAddrA E.P e p f <;> rfl
theorem op_field {e : TypeId} {x : Operand} {f : Nat} : OperM E t m (.field e x f) K = vM (evalA E t x) fun p => vM (fieldA E.P e p f) fun r => K r m := by
  show valM (match evalA E t x with | some p => (fieldA E.P e p f).map fun v => (v, m) | none => none) K = _
  cases evalA E t x with
  | none => rfl
  | some p => show valM ((fieldA E.P e p f).map _) K = vM (fieldA E.P e p f) _; cases fieldA E.P e p f <;> rfl
theorem op_indexAddr {e : TypeId} {x y : Operand} : OperM E t m (.indexAddr e x y) K = vM (evalA E t x) fun p => vM (evalA E t y) fun v => vM (indexAddrA E.P e p v) fun r => K r m := by
  show valM (match evalA E t x, evalA E t y with | some p, some v => (indexAddrA E.P e p v).map fun v => (v, m) | _, _ => none) K = _
  cases evalA E t x with
  | none => rfl
  | some p => cases evalA E t y with
    | none => rfl
    | some v => show valM ((indexAddrA E.P e p v).map _) K = vM (indexAddrA E.P e p v) _; cases indexAddrA E.P e p v <;> rfl
theorem op_index {e : TypeId} {x y : Operand} : OperM E t m (.index e x y) K = vM (evalA E t x) fun p => vM (evalA E t y) fun v => vM (indexA E.P e p v) fun r => K r m := by
  show valM (match evalA E t x, evalA E t y with | some p, some v => (indexA E.P e p v).map fun v => (v, m) | _, _ => none) K = _
  cases evalA E t x with
  | none => rfl
  | some p => cases evalA E t y with
    | none => rfl
    | some v => show valM ((indexA E.P e p v).map _) K = vM (indexA E.P e p v) _; cases indexA E.P e p v <;> rfl
theorem op_extract {x : Operand} {i : Nat} {vs : Array Value} (h : evalA E t x = some (.tuple vs)) : OperM E t m (.extract x i) K = vM vs[i]? fun r => K r m := by
  show valM (match evalA E t x with | some (.tuple vs) => (vs[i]?).map fun v => (v, m) | _ => none) K = _
  rw [h]
  show valM ((vs[i]?).map _) K = _
  cases vs[i]? <;> rfl
theorem op_slice {e : TypeId} {x : Operand} {a b c : Option Operand} {v : Value} {l h k : Option Value} (h1 : evalA E t x = some v) (h2 : optVal E t a = some l) (h3 : optVal E t b = some h) (h4 : optVal E t c = some k) : OperM E t m (.slice e x a b c) K = vM (sliceA E.P e v l h k m) fun r => K r m := by
  show valM (match evalA E t x, optVal E t a, optVal E t b, optVal E t c with | some v, some l, some h, some k => (sliceA E.P e v l h k m).map fun v => (v, m) | _, _, _, _ => none) K = _
  rw [h1, h2, h3, h4]
  show valM ((sliceA E.P e v l h k m).map _) K = _
  cases sliceA E.P e v l h k m <;> rfl
theorem op_makeSlice {e : TypeId} {x y : Operand} : OperM E t m (.makeSlice e x y) K = valM (opA E t m (.makeSlice e x y)) K := rfl
theorem op_alloc {e : TypeId} : OperM E t m (.alloc e) K = valM (opA E t m (.alloc e)) K := rfl
theorem op_build {e : TypeId} {ps : Array (Nat × Operand)} : OperM E t m (.build e ps) K = valM (opA E t m (.build e ps)) K := rfl
theorem op_buildSlice {e : TypeId} {l : Nat} {ps : Array (Nat × Operand)} : OperM E t m (.buildSlice e l ps) K = valM (opA E t m (.buildSlice e l ps)) K := rfl
theorem op_lookup {e : TypeId} {x y : Operand} {c : Bool} : OperM E t m (.lookup e x y c) K = valM (opA E t m (.lookup e x y c)) K := rfl
theorem op_mapUpdate {e : TypeId} {x y z : Operand} : OperM E t m (.mapUpdate e x y z) K = valM (opA E t m (.mapUpdate e x y z)) K := rfl
theorem op_makeFunc {f : FuncId} {a b : Array Operand} : OperM E t m (.makeFunc (.func f) a b) K = vM (evalAll E t a.toList) fun fs => vM (evalAll E t b.toList) fun cs => K (.func (.func f) fs.toArray cs.toArray) m := by
  show valM (match evalAll E t a.toList, evalAll E t b.toList with | some fs, some cs => some (.func (.func f) fs.toArray cs.toArray, m) | _, _ => none) K = _
  cases evalAll E t a.toList with
  | none => rfl
  | some fs => cases evalAll E t b.toList <;> rfl
theorem op_makeMap {e : TypeId} : OperM E t m (.makeMap e none) K = K (.map (some m.next)) (m.alloc (.map [])) := rfl
theorem op_builtin {b : Builtin} {a : Array Operand} {ts : Array TypeId} : OperM E t m (.call ⟨.builtin b, a, ts⟩) K = vM (evalAll E t a.toList) fun vs => valM (builtinA E.P b ts vs m) K := by
  show valM (match evalAll E t a.toList with | some vs => builtinA E.P b ts vs m | none => none) K = _
  cases evalAll E t a.toList <;> rfl
theorem op_call {f : Operand} {a : Array Operand} {ts : Array TypeId} : OperM E t m (.call ⟨.value f, a, ts⟩) K = callM E (evalA E t f) (evalAll E t a.toList) m K := rfl
end
theorem putT_lt {d : Nat} (v : Value) (h : d < n) : putT n t (some d) v = some (t.set d v) := by rw [putT_some, if_pos h]

theorem idxArr {ty len elem w b o i : Nat} {kd : IntKind} (hu : P.underlying ty = some (.array len elem)) (hk : known P elem = true) (hs : sizeA P elem = w) (hi : i < len) : indexAddrA P ty (ptr b o) (.int kd (i : Int)) = some (ptr b (o + i * w)) := by
  have hd : decide ((0 : Int) ≤ (i : Int) ∧ (i : Int) < (len : Nat)) = true := by simp; omega
  simp only [indexAddrA, ptr, hu, hk, hd, Bool.and_self, if_true, hs, Int.toNat_natCast]
theorem idxSl {ty elem w b o len cap i : Nat} {kd : IntKind} (hu : P.underlying ty = some (.slice elem)) (hk : known P elem = true) (hs : sizeA P elem = w) (hi : i < len) : indexAddrA P ty (.slice (some ⟨b, o, none⟩) len cap) (.int kd (i : Int)) = some (ptr b (o + i * w)) := by
  have hd : decide ((0 : Int) ≤ (i : Int) ∧ (i : Int) < (len : Nat)) = true := by simp; omega
  simp only [indexAddrA, hu, hk, hd, Bool.and_self, if_true, hs, Int.toNat_natCast]
theorem loadOne {ty b o : Nat} {cs : List Value} {tag : Tag} {v : Value} (hk : known P ty = true) (ha : isAggA P ty = false) (hg : m.get b = some (.cells cs tag)) (hv : cs[o]? = some v) : loadA P ty (ptr b o) m = some v := by
  simp only [loadA, ptr, hk, ha, hg, Bool.not_true, Bool.false_eq_true, if_false, hv]
theorem loadAgg {ty b o w : Nat} {cs l : List Value} {tag : Tag} (hk : known P ty = true) (ha : isAggA P ty = true) (hs : sizeA P ty = w) (hg : m.get b = some (.cells cs tag)) (hl : (cs.drop o).take w = l) (hw : l.length = w) : loadA P ty (ptr b o) m = some (.agg l.toArray) := by
  simp only [loadA, ptr, hk, ha, hs, Bool.not_true, Bool.false_eq_true, if_false, if_true, AMem.loadN, hg, hl, hw, Option.map_some]
theorem storeOwn {ty b o : Nat} {v : Value} {cs : List Value} (hk : known P ty = true) (hs : v.cells.size = sizeA P ty) (h1 : oneCellAll v.cells.toList = true) (hne : v.cells.toList ≠ []) (hg : m.get b = some (.cells cs .own)) (hb : o + v.cells.toList.length ≤ cs.length) :
    storeA P ty (ptr b o) v m = some (m.set b (.cells (spliceL cs o v.cells.toList) .own)) := by
  have hs' : (v.cells.size == sizeA P ty) = true := by simpa using hs
  simp only [storeA, ptr, hk, hs', h1, Bool.and_self, if_true]
  unfold AMem.storeN
  cases hc : v.cells.toList with
  | nil => exact absurd hc hne
  | cons x xs => rw [hc] at hb; simp only [hg, if_pos hb]
theorem splice_one : ∀ (cs : List Value) (o : Nat) (v : Value), o < cs.length → spliceL cs o [v] = cs.set o v
  | [], o, v, h => by simp at h
  | c :: cs, 0, v, _ => by
    have : spliceL cs 0 [] = cs := by cases cs <;> rfl
    simp [spliceL, this]
  | c :: cs, o + 1, v, h => by
    simp only [spliceL, List.set_cons_succ]
    rw [splice_one cs o v (by simpa using h)]
theorem storeOne {ty b o : Nat} {v : Value} {cs : List Value} (hk : known P ty = true) (hs : sizeA P ty = 1) (h1 : oneC v = true) (hg : m.get b = some (.cells cs .own)) (hb : o < cs.length) :
    storeA P ty (ptr b o) v m = some (m.set b (.cells (cs.set o v) .own)) := by
  have hc : v.cells = #[v] := by cases v <;> first | rfl | cases h1
  rw [storeOwn (cs := cs) hk (by rw [hc, hs]; rfl) (by rw [hc]; simp [oneCellAll, h1]) (by rw [hc]; simp) hg (by rw [hc]; simp; omega), hc]
  rw [show (#[v] : Array Value).toList = [v] from rfl, splice_one cs o v hb]
theorem shl64 {ty : TypeId} {kd : IntKind} (b : Nat) (hb : b < 64) : binA .shl ty P (.int .u64 1) (.int kd (b : Int)) = some (.int .u64 ((2 ^ b : Nat) : Int)) := by
  have h0 : ¬ ((b : Int) < 0) := by omega
  simp only [binA, if_neg h0]
  have h1 : min ((b : Int)).toNat IntKind.u64.bits = b := by
    show min ((b : Int)).toNat 64 = b
    simp; omega
  rw [h1]
  have h2 : ((1 : Int) * 2 ^ b) = ((2 ^ b : Nat) : Int) := by simp
  rw [h2, u64_wrap _ (Nat.pow_lt_pow_right (by omega) hb)]
end
end Go.Ab
