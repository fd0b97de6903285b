/-
  The abstract machine: a walk, operation by operation: one rule for each kind.
-/
import Derived.Test.YtpclggcpobakhaaDoorAbsSym
import Derived.Test.YtpclggcpobakhaaDoorAbsFastRun
namespace Go.Ab
open Go

section
variable {E : Env} {n : Nat} {t : Tm} {m : AMem} {K : Tm → AMem → Prop} {ops : Array Oper} {os : List Oper} {ty : TypeId} {p : String} {af : Array Edge} {d : Nat}

theorem st_skip {dst : Option Tmp} {o : Op} {j : Nat} {b : Bool} (hw : wantedA ops ⟨some d, o, ty, p, af, some (j, b)⟩ t = false) (hd : d < n) (k : OpsM E n ops K os (t.set d undef) m) : OpsM E n ops K (⟨some d, o, ty, p, af, some (j, b)⟩ :: os) t m := by
  simp only [OpsM, hw, Bool.false_eq_true, if_false, putT_some, if_pos hd]; exact k
/-- An operation that is no call, in general. -/
theorem st_op {o : Op} {g : Option (Nat × Bool)} {v : Value} {m' : AMem} (hw : wantedA ops ⟨some d, o, ty, p, af, g⟩ t = true) (h : ∀ K', OperM E t m o K' = K' v m') (hd : d < n) (k : OpsM E n ops K os (t.set d v) m') : OpsM E n ops K (⟨some d, o, ty, p, af, g⟩ :: os) t m := by
  simp only [OpsM, hw, if_true, h, putT_some, if_pos hd]; exact k
theorem st_op0 {o : Op} {g : Option (Nat × Bool)} {v : Value} {m' : AMem} (hw : wantedA ops ⟨none, o, ty, p, af, g⟩ t = true) (h : ∀ K', OperM E t m o K' = K' v m') (k : OpsM E n ops K os t m') : OpsM E n ops K (⟨none, o, ty, p, af, g⟩ :: os) t m := by
  simp only [OpsM, hw, if_true, h]; exact k
theorem st_call {f : Operand} {a : Array Operand} {ts : Array TypeId} {g : Option (Nat × Bool)} {fn : FuncId} {as : List Value} {R : Value → AMem → Prop} (hw : wantedA ops ⟨some d, .call ⟨.value f, a, ts⟩, ty, p, af, g⟩ t = true) (hf : evalA E t f = some (.func (.func fn) #[] #[])) (ha : evalAll E t a.toList = some as) (hc : CallA E fn as m R) (hd : d < n)
    (k : ∀ v m', R v m' → OpsM E n ops K os (t.set d v) m') : OpsM E n ops K (⟨some d, .call ⟨.value f, a, ts⟩, ty, p, af, g⟩ :: os) t m := by
  simp only [OpsM, hw, if_true]
  show callM E (evalA E t f) (evalAll E t a.toList) m _
  rw [hf, ha, callM_func]
  refine hc.mono fun v m' hr => ?_
  rw [putT_some, if_pos hd]
  exact k v m' hr
theorem lt_b {a b : Nat} (h : Nat.blt a b = true) : a < b := by rwa [Nat.blt_eq] at h
theorem st_nil (k : K t m) : OpsM E n ops K [] t m := k

/-! The same in a region that draws its order. -/
variable {L : Tm → AMem → List Note → Prop} {ns : List Note}
theorem sn_skip {o : Op} {j : Nat} {b : Bool} (hw : wantedA ops ⟨some d, o, ty, p, af, some (j, b)⟩ t = false) (hd : d < n) (k : NotedM E n ops L os (t.set d undef) m ({ read := none, wl := m.next, next := m.next, wrote := none } :: ns)) : NotedM E n ops L (⟨some d, o, ty, p, af, some (j, b)⟩ :: os) t m ns := by
  simp only [NotedM, hw, Bool.false_eq_true, if_false, putT_some, if_pos hd]; exact k
theorem sn_op {o : Op} {g : Option (Nat × Bool)} {v : Value} {m' : AMem} (hw : wantedA ops ⟨some d, o, ty, p, af, g⟩ t = true) (h : ∀ K', OperM E t (m.ww m.next) o K' = K' v m') (hd : d < n) (k : NotedM E n ops L os (t.set d v) (m'.ww (min m.wl m'.wl)) ({ read := readsAt E t o, wl := m'.wl, next := m.next, wrote := writesAt E t o } :: ns)) : NotedM E n ops L (⟨some d, o, ty, p, af, g⟩ :: os) t m ns := by
  have h' := h
  unfold AMem.ww at h'
  simp only [NotedM, hw, if_true, h', putT_some, if_pos hd]; exact k
theorem sn_op0 {o : Op} {g : Option (Nat × Bool)} {v : Value} {m' : AMem} (hw : wantedA ops ⟨none, o, ty, p, af, g⟩ t = true) (h : ∀ K', OperM E t (m.ww m.next) o K' = K' v m') (k : NotedM E n ops L os t (m'.ww (min m.wl m'.wl)) ({ read := readsAt E t o, wl := m'.wl, next := m.next, wrote := writesAt E t o } :: ns)) : NotedM E n ops L (⟨none, o, ty, p, af, g⟩ :: os) t m ns := by
  have h' := h
  unfold AMem.ww at h'
  simp only [NotedM, hw, if_true, h']; exact k

/-! What an operation comes to. -/
variable {a b r v : Value} {x y : Operand} {e e' : TypeId}
theorem o_move (h : evalA E t x = some v) (K' : Value → AMem → Prop) : OperM E t m (.move x) K' = K' v m := by rw [op_move, h]; rfl
theorem o_assign (h : evalA E t x = some v) (K' : Value → AMem → Prop) : OperM E t m (.assign x) K' = K' v m := by rw [op_assign, h]; rfl
theorem o_pickT {c : Operand} (hc : evalA E t c = some (.bool true)) (h : evalA E t x = some v) (K' : Value → AMem → Prop) : OperM E t m (.pick c x y) K' = K' v m := by rw [op_pick, hc, pickM_true, h]; rfl
theorem o_pickF {c : Operand} (hc : evalA E t c = some (.bool false)) (h : evalA E t y = some v) (K' : Value → AMem → Prop) : OperM E t m (.pick c x y) K' = K' v m := by rw [op_pick, hc, pickM_false, h]; rfl
theorem o_box (h : evalA E t x = some v) (K' : Value → AMem → Prop) : OperM E t m (.box e x) K' = K' (ptr m.next 0) (m.alloc (.cells v.cells.toList .own)) := by rw [op_box, h]; rfl
theorem o_bin {op : BinOp} (h : evalA E t x = some a) (h' : evalA E t y = some b) (hr : binA op e E.P a b = some r) (K' : Value → AMem → Prop) : OperM E t m (.binOp op e x y e') K' = K' r m := by rw [op_binOp, h, vM_some, h', vM_some, hr]; rfl
theorem o_un {op : UnOp} (h : evalA E t x = some a) (hr : unA op a = some r) (K' : Value → AMem → Prop) : OperM E t m (.unOp op e x) K' = K' r m := by rw [op_unOp, h, vM_some, hr]; rfl
theorem o_conv (h : evalA E t x = some a) (hr : convA E.P e e' a = some r) (K' : Value → AMem → Prop) : OperM E t m (.convert e e' x) K' = K' r m := by rw [op_convert, h, vM_some, hr]; rfl
theorem o_load (h : evalA E t x = some a) (hr : loadA E.P e a m = some r) (K' : Value → AMem → Prop) : OperM E t m (.load e x) K' = K' r m := by rw [op_load, h, vM_some, hr]; rfl
theorem o_store {m' : AMem} (h : evalA E t x = some a) (h' : evalA E t y = some b) (hr : storeA E.P e a b m = some m') (K' : Value → AMem → Prop) : OperM E t m (.store e x y) K' = K' undef m' := by rw [op_store, h, vM_some, h', vM_some, hr]; rfl
theorem o_fieldAddr {f : Nat} (h : evalA E t x = some a) (hr : fieldAddrA E.P e a f = some r) (K' : Value → AMem → Prop) : OperM E t m (.fieldAddr e x f) K' = K' r m := by rw [op_fieldAddr, h, vM_some, hr]; rfl
theorem o_field {f : Nat} (h : evalA E t x = some a) (hr : fieldA E.P e a f = some r) (K' : Value → AMem → Prop) : OperM E t m (.field e x f) K' = K' r m := by rw [op_field, h, vM_some, hr]; rfl
theorem o_indexAddr (h : evalA E t x = some a) (h' : evalA E t y = some b) (hr : indexAddrA E.P e a b = some r) (K' : Value → AMem → Prop) : OperM E t m (.indexAddr e x y) K' = K' r m := by rw [op_indexAddr, h, vM_some, h', vM_some, hr]; rfl
theorem o_index (h : evalA E t x = some a) (h' : evalA E t y = some b) (hr : indexA E.P e a b = some r) (K' : Value → AMem → Prop) : OperM E t m (.index e x y) K' = K' r m := by rw [op_index, h, vM_some, h', vM_some, hr]; rfl
theorem o_extract {i : Nat} {vs : Array Value} (h : evalA E t x = some (.tuple vs)) (hr : vs[i]? = some r) (K' : Value → AMem → Prop) : OperM E t m (.extract x i) K' = K' r m := by rw [op_extract h, hr]; rfl
theorem o_slice {l h k : Option Operand} {l' h' k' : Option Value} (h1 : evalA E t x = some a) (h2 : optVal E t l = some l') (h3 : optVal E t h = some h') (h4 : optVal E t k = some k') (hr : sliceA E.P e a l' h' k' m = some r) (K' : Value → AMem → Prop) : OperM E t m (.slice e x l h k) K' = K' r m := by rw [op_slice h1 h2 h3 h4, hr]; rfl
theorem o_alloc {z : Value} (hz : zeroA E.P e = some z) (hp : plainV z = true) (K' : Value → AMem → Prop) : OperM E t m (.alloc e) K' = K' (ptr m.next 0) (m.alloc (.cells z.cells.toList .own)) := by
  rw [op_alloc]; simp only [opA, hz, hp, if_true]; rfl
theorem o_builtin {bi : Builtin} {as : Array Operand} {ts : Array TypeId} {vs : List Value} {m' : AMem} (h : evalAll E t as.toList = some vs) (hr : builtinA E.P bi ts vs m = some (r, m')) (K' : Value → AMem → Prop) : OperM E t m (.call ⟨.builtin bi, as, ts⟩) K' = K' r m' := by rw [op_builtin, h, vM_some, hr]; rfl
theorem o_gen {op : Op} {m' : AMem} (hc : isCall op = none) (hr : opA E t m op = some (r, m')) (K' : Value → AMem → Prop) : OperM E t m op K' = K' r m' := by
  unfold OperM; rw [hc]; simp only [hr]; rfl
/-! Frames. -/
theorem at_hit (t : Tm) (d : Nat) (v : Value) : Tm.at (Trie.set t d v) d = v := by rw [at_set, if_pos rfl]
theorem at_skip {t : Tm} {i d : Nat} {v w : Value} (h : Nat.beq i d = false) (k : t.at i = v) : Tm.at (Trie.set t d w) i = v := by rw [at_set, if_neg (Nat.ne_of_beq_eq_false h)]; exact k
theorem w_at {ops : Array Oper} {t : Tm} {dst : Option Tmp} {o : Op} {ty : TypeId} {p : String} {a : Array Edge} {j d : Nat} {b c : Bool} (hd : (ops[j]?).bind (·.dst) = some d) (h : t.at d = .bool c) : wantedA ops ⟨dst, o, ty, p, a, some (j, b)⟩ t = (c == b) := by
  rw [w_some]; unfold yieldedA; rw [hd]; simp only [at_bool h]
theorem ev_at {i : Nat} (h : t.at i = v) : evalA E t (.tmp i) = some v := by rw [ev_tmp, h]
end
end Go.Ab
