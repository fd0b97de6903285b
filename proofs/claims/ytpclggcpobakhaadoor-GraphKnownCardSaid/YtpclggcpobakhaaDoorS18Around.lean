/-
  Chapter 18: the contract of graph.around.
-/
import Derived.Test.YtpclggcpobakhaaDoorS18Facts
import Derived.Test.YtpclggcpobakhaaDoorAbsDrawW
namespace Go.Proofs.YtpclggcpobakhaaDoor
open Go Go.Ab
set_option maxRecDepth 10000

theorem z26 : zeroA Tryd.prog 26 = some (.agg #[.int .i64 0, .int .i64 0]) := by kernel_rfl
theorem z28 : zeroA Tryd.prog 28 = some (.int .u64 0) := by kernel_rfl
theorem i28 : (Tryd.prog.info? 28).map (fun i => i.bytes) = some 8 := by kernel_rfl
theorem fa25_0 (b o : Nat) : fieldAddrA Tryd.prog 25 (ptr b o) 0 = some (ptr b (o + 0)) := by kernel_rfl
theorem fa25_1 (b o : Nat) : fieldAddrA Tryd.prog 25 (ptr b o) 1 = some (ptr b (o + 1)) := by kernel_rfl
theorem ia26_0 (b o : Nat) : indexAddrA Tryd.prog 26 (ptr b o) (.int .i64 0) = some (ptr b o) := by
  have := idxArr (P := Tryd.prog) (b := b) (o := o) (kd := .i64) u26 k3 s3 (i := 0) (by decide)
  simpa using this
theorem ia26_1 (b o : Nat) : indexAddrA Tryd.prog 26 (ptr b o) (.int .i64 1) = some (ptr b (o + 1)) := by
  have := idxArr (P := Tryd.prog) (b := b) (o := o) (kd := .i64) u26 k3 s3 (i := 1) (by decide)
  simpa using this
theorem repeatL_one (v : Value) : ∀ n, repeatL [v] n = List.replicate n v
  | 0 => rfl
  | n + 1 => by simp [repeatL, repeatL_one v n, List.replicate_succ]
theorem ms36 {t : Tm} {m : AMem} {n : Nat} (h : t.at 7 = .int .i64 (n : Int)) (hn : n ≤ 64) : opA E18 t m (.makeSlice 36 (.tmp 7) (.tmp 7)) = some (.slice (some ⟨m.next, 0, none⟩) n n, m.alloc (.cells (List.replicate n (.int .u64 0)) .own)) := by
  have hz : zerosA Tryd.prog 28 n = some (List.replicate n (.int .u64 0)) := by
    simp only [zerosA, z28]
    rw [if_pos (by rw [s28]; rfl)]
    exact congrArg some (repeatL_one _ n)
  have ha : (List.replicate n (Value.int .u64 0)).all plain1 = true := by simp [List.all_replicate, plain1]
  have hi : (Tryd.prog.info? 28).any (fun i => i.bytes * (n : Int) ≤ 2 ^ 40 && i.bytes != 0) = true := by
    have := i28
    cases hh : Tryd.prog.info? 28 with
    | none => rw [hh] at this; cases this
    | some i =>
      rw [hh] at this
      simp only [Option.map_some, Option.some.injEq] at this
      simp only [Option.any_some, this]
      simp; omega
  have hc : (0 : Int) ≤ (n : Int) ∧ (n : Int) ≤ (n : Int) ∧ (Tryd.prog.info? 28).any (fun i => i.bytes * (n : Int) ≤ 2 ^ 40 && i.bytes != 0) = true ∧ known Tryd.prog 28 = true := ⟨by omega, by omega, hi, k28⟩
  simp only [opA, P18, u36, ev_tmp, h, Int.toNat_natCast, hz]
  rw [if_pos hc, if_pos ha]

def cw (w : Nat) : Value := .int .u64 (w : Int)
def ecells (e : Nat × Nat) : List Value := [.int .i64 (e.1 : Int), .int .i64 (e.2 : Int)]
def addE (o : List Nat) (e : Nat × Nat) : List Nat :=
  let o1 := o.set e.1 (o.getD e.1 0 ||| 2 ^ e.2)
  o1.set e.2 (o1.getD e.2 0 ||| 2 ^ e.1)
def aroundL (n : Nat) (es : List (Nat × Nat)) : List Nat := es.foldl addE (List.replicate n 0)
theorem addE_len (o : List Nat) (e : Nat × Nat) : (addE o e).length = o.length := by simp [addE]
theorem foldl_len : ∀ (es : List (Nat × Nat)) (o : List Nat), (es.foldl addE o).length = o.length
  | [], _ => rfl
  | e :: es, o => by rw [List.foldl_cons, foldl_len es, addE_len]
theorem around_len (n : Nat) (es : List (Nat × Nat)) : (aroundL n es).length = n := by unfold aroundL; rw [foldl_len, List.length_replicate]
theorem set_lt {o : List Nat} {i v : Nat} (h : ∀ x ∈ o, x < 2 ^ 64) (hv : v < 2 ^ 64) : ∀ x ∈ o.set i v, x < 2 ^ 64 := by
  intro x hx
  rcases List.mem_or_eq_of_mem_set hx with h1 | h1
  · exact h x h1
  · rw [h1]; exact hv
theorem getD_lt {o : List Nat} {i : Nat} (h : ∀ x ∈ o, x < 2 ^ 64) : o.getD i 0 < 2 ^ 64 := by
  rw [List.getD_eq_getElem?_getD]
  cases hi : o[i]? with
  | none => simp
  | some x => exact h x (List.mem_of_getElem? hi)
theorem addE_lt {o : List Nat} {e : Nat × Nat} (h : ∀ x ∈ o, x < 2 ^ 64) (h1 : e.1 < 64) (h2 : e.2 < 64) : ∀ x ∈ addE o e, x < 2 ^ 64 := by
  have hp : ∀ k, k < 64 → 2 ^ k < 2 ^ 64 := fun k hk => Nat.pow_lt_pow_right (by omega) hk
  have a1 := set_lt (i := e.1) h (Nat.or_lt_two_pow (getD_lt (i := e.1) h) (hp _ h2))
  exact set_lt a1 (Nat.or_lt_two_pow (getD_lt a1) (hp _ h1))
theorem fold_lt : ∀ (es : List (Nat × Nat)) (o : List Nat), (∀ x ∈ o, x < 2 ^ 64) → (∀ e ∈ es, e.1 < 64 ∧ e.2 < 64) → ∀ x ∈ es.foldl addE o, x < 2 ^ 64
  | [], o, h, _ => h
  | e :: es, o, h, he => fold_lt es (addE o e) (addE_lt h (he e (by simp)).1 (he e (by simp)).2) fun e' h' => he e' (by simp [h'])
theorem get_cw {o : List Nat} {i : Nat} (h : i < o.length) : (o.map cw)[i]? = some (cw (o.getD i 0)) := by
  rw [List.getElem?_map, List.getD_eq_getElem?_getD]
  simp [h]

theorem get_cw1 {o : List Nat} {i : Nat} (h : i < o.length) : (o.map cw)[0 + i * 1]? = some (cw (o.getD i 0)) := by
  rw [show 0 + i * 1 = i by omega]; exact get_cw h
theorem st28 {M : AMem} {b i w : Nat} {cs : List Value} (hg : M.get b = some (.cells cs .own)) (h : i < cs.length) : storeA E18.P 28 (ptr b (0 + i * 1)) (.int .u64 (w : Int)) (M.ww M.next) = some ((M.ww M.next).set b (.cells (cs.set i (cw w)) .own)) := by
  rw [show 0 + i * 1 = i by omega]
  exact storeOne (P := Tryd.prog) k28 s28 rfl hg h
theorem st26 (e : Nat × Nat) (m : AMem) : storeA E18.P 26 (ptr m.next 0) (.agg (ecells e).toArray) (m.alloc (.cells [.int .i64 0, .int .i64 0] .own)) = some ((m.alloc (.cells [.int .i64 0, .int .i64 0] .own)).set m.next (.cells (ecells e) .own)) :=
  (storeOwn (P := Tryd.prog) (cs := [.int .i64 0, .int .i64 0]) k26 (by rw [s26]; rfl) (by rfl) (by simp [ecells, Value.cells]) (by rw [AMem.get_alloc, if_pos rfl]) (by simp [ecells, Value.cells])).trans (by rfl)
attribute [local irreducible] Tm.at Trie.set Trie.get AMem.get AMem.set AMem.alloc AMem.ww
set_option maxHeartbeats 4000000 in
theorem around_spec (n : Nat) (es : List (Nat × Nat)) (sl : Value) (m : AMem) (hn : n ≤ 64) (he : ∀ e ∈ es, e.1 < n ∧ e.2 < n) (hs : SlA m 2 sl (es.map ecells)) (hwl : m.next ≤ m.wl) (hlen : es.length ≤ 1000) :
    CallA E18 75 [.agg #[.int .i64 (n : Int), sl]] m (fun v m' => ∃ b, v = .slice (some ⟨b, 0, none⟩) n n ∧ m.next ≤ b ∧ b < m'.next ∧ m'.get b = some (.cells ((aroundL n es).map cw) .own) ∧ Grown m m') := by
  refine CallA.enterM (N := 38) (rs := [.tmp 2]) rfl Tryd.func75 rfl rfl rfl ?_
  simp only [ofList_cons, ofList_nil]
  (repeat refine CodeA.seq ?_); refine CodeA.regionK fun K hK => ?_
  refine st_op rfl (o_box (ev_at (by repeat first | (apply at_skip; rfl) | exact at_hit _ _ _ | assumption))) (lt_b rfl) ?_
  refine st_op rfl (o_assign (ev_snil _ _)) (lt_b rfl) ?_
  refine hK _ _ ?_; clear hK K; try simp only [ta_normal]
  have c1 : (Value.agg #[.int .i64 (n : Int), sl]).cells.toList = [.int .i64 (n : Int), sl] := rfl
  rw [c1]
  obtain ⟨M, hM⟩ : ∃ M, M = m.alloc (.cells [.int .i64 (n : Int), sl] .own) := ⟨_, rfl⟩
  rw [← hM]
  have g1 : M.get m.next = some (.cells [.int .i64 (n : Int), sl] .own) := by rw [hM, AMem.get_alloc, if_pos rfl]
  have x1 : Ext m M := by rw [hM]; exact (Ext.refl m).alloc _
  have n1 : M.next = m.next + 1 := by rw [hM, AMem.next_alloc]
  (repeat refine CodeA.seq ?_); refine CodeA.regionK fun K hK => ?_
  refine st_op rfl (o_fieldAddr (ev_at (by repeat first | (apply at_skip; rfl) | exact at_hit _ _ _ | assumption)) (fa25_0 _ _)) (lt_b rfl) ?_
  refine st_op rfl (o_load (ev_at (by repeat first | (apply at_skip; rfl) | exact at_hit _ _ _ | assumption)) (loadOne k3 a3 g1 rfl)) (lt_b rfl) ?_
  refine st_op rfl (o_gen rfl (ms36 (at_hit _ _ _) hn)) (lt_b rfl) ?_
  refine st_op rfl (o_assign (ev_at (by repeat first | (apply at_skip; rfl) | exact at_hit _ _ _ | assumption))) (lt_b rfl) ?_
  refine hK _ _ ?_; clear hK K; try simp only [ta_normal]
  obtain ⟨M2, hM2⟩ : ∃ M2, M2 = M.alloc (.cells (List.replicate n (.int .u64 0)) .own) := ⟨_, rfl⟩
  rw [← hM2]
  have g2 : M2.get m.next = some (.cells [.int .i64 (n : Int), sl] .own) := by rw [hM2, AMem.get_alloc, if_neg (by omega)]; exact g1
  have g2b : M2.get M.next = some (.cells ((aroundL n []).map cw) .own) := by
    rw [hM2, AMem.get_alloc, if_pos rfl]
    simp [aroundL, cw]
  have x2 : Ext m M2 := by rw [hM2]; exact x1.alloc _
  have n2 : M2.next = M.next + 1 := by rw [hM2, AMem.next_alloc]
  clear hM hM2
  (repeat refine CodeA.seq ?_); refine CodeA.regionK fun K hK => ?_
  refine st_op rfl (o_fieldAddr (ev_at (by repeat first | (apply at_skip; rfl) | exact at_hit _ _ _ | assumption)) (fa25_1 _ _)) (lt_b rfl) ?_
  refine st_op rfl (o_load (ev_at (by repeat first | (apply at_skip; rfl) | exact at_hit _ _ _ | assumption)) (loadOne k23 a23 g2 rfl)) (lt_b rfl) ?_
  refine st_op rfl (o_builtin (ea_cons (ev_at (by repeat first | (apply at_skip; rfl) | exact at_hit _ _ _ | assumption)) ea_nil) (SlA.len (E := E18) (hs.mono x2) u23)) (lt_b rfl) ?_
  refine st_op rfl (o_move (ev_int _ _)) (lt_b rfl) ?_
  refine hK _ _ ?_; clear hK K; try simp only [ta_normal]
  refine CodeA.block (CodeA.loop ?_)
  refine LoopA.inv (fun r t M' => ∃ k, k + r = es.length ∧ t.at 3 = .slice (some ⟨M.next, 0, none⟩) n n ∧ t.at 10 = sl ∧ t.at 11 = .int .i64 (es.length : Int) ∧ t.at 12 = .int .i64 (k : Int) ∧ M'.get M.next = some (.cells ((aroundL n (es.take k)).map cw) .own) ∧ Ext m M' ∧ M.next < M'.next) ?_ es.length _ _
    ⟨0, by omega, (by repeat first | (apply at_skip; rfl) | exact at_hit _ _ _ | assumption), (by repeat first | (apply at_skip; rfl) | exact at_hit _ _ _ | assumption), (show Tm.at _ 11 = .int .i64 ((es.map ecells).length : Nat) from (by repeat first | (apply at_skip; rfl) | exact at_hit _ _ _ | assumption)).trans (by rw [List.length_map]), (show Tm.at _ 12 = .int .i64 0 from (by repeat first | (apply at_skip; rfl) | exact at_hit _ _ _ | assumption)).trans (by rfl), g2b, x2, by omega⟩
  rintro r t M' ⟨k, hk, h3, h10, h11, h12, hg, hx, hlt⟩
  by_cases hkl : k < es.length
  · have hek : es[k]? = some es[k] := by simp [hkl]
    obtain ⟨e, hee⟩ : ∃ e, e = es[k] := ⟨_, rfl⟩
    rw [← hee] at hek
    have hemem : e ∈ es := List.mem_of_getElem? hek
    obtain ⟨ha, hb⟩ := he e hemem
    have hxi : (es.map ecells)[k]? = some (ecells e) := by rw [List.getElem?_map, hek]; rfl
    obtain ⟨pp, hp1, ⟨pb, po, hpp, hpb⟩, hp2⟩ := (hs.mono hx).elem u23 k26 s26 a26 hxi .i64
    subst hpp
    have htake : es.take (k + 1) = es.take k ++ [e] := by rw [List.take_add_one, hek]; rfl
    obtain ⟨o, ho⟩ : ∃ o, o = aroundL n (es.take k) := ⟨_, rfl⟩
    rw [← ho] at hg
    have hol : o.length = n := by rw [ho, around_len]
    have hob : ∀ x ∈ o, x < 2 ^ 64 := by
      rw [ho]
      refine fold_lt _ _ (by intro x hx'; rw [List.eq_of_mem_replicate hx']; omega) fun e' he' => ?_
      have := he e' (List.mem_of_mem_take he')
      omega
    have honext : aroundL n (es.take (k + 1)) = addE o e := by rw [htake, ho]; simp [aroundL, List.foldl_append]
    clear ho htake
    (repeat refine CodeA.seq ?_); refine CodeA.regionK fun K hK => ?_
    refine st_op rfl (o_bin (ev_at (by repeat first | (apply at_skip; rfl) | exact at_hit _ _ _ | assumption)) (ev_at (by repeat first | (apply at_skip; rfl) | exact at_hit _ _ _ | assumption)) (bin_lss _ _ _)) (lt_b rfl) ?_
    refine hK _ _ ?_; clear hK K; try simp only [ta_normal]
    refine CodeA.seq (CodeA.cond (c := true) ((ev_at (by repeat first | (apply at_skip; rfl) | exact at_hit _ _ _ | assumption)).trans (by rw [decide_eq_true (by omega)])) (fun _ => CodeA.skip ?_) (fun h => by cases h))
    rw [ta_normal]
    refine CodeA.seq (CodeA.block ?_)
    (repeat refine CodeA.seq ?_); refine CodeA.regionK fun K hK => ?_
    refine st_op rfl (o_indexAddr (ev_at (by repeat first | (apply at_skip; rfl) | exact at_hit _ _ _ | assumption)) (ev_at (by repeat first | (apply at_skip; rfl) | exact at_hit _ _ _ | assumption)) hp1) (lt_b rfl) ?_
    refine st_op rfl (o_load (ev_at (by repeat first | (apply at_skip; rfl) | exact at_hit _ _ _ | assumption)) hp2) (lt_b rfl) ?_
    refine st_op rfl (o_alloc z26 rfl) (lt_b rfl) ?_
    refine st_op0 rfl (o_store (ev_at (by repeat first | (apply at_skip; rfl) | exact at_hit _ _ _ | assumption)) (ev_at (by repeat first | (apply at_skip; rfl) | exact at_hit _ _ _ | assumption)) (st26 _ _)) ?_
    refine hK _ _ ?_; clear hK K; try simp only [ta_normal]
    generalize h5M : AMem.set _ _ _ = M5
    have hne : M'.next ≠ M.next := by omega
    have g5x : M5.get M'.next = some (.cells (ecells e) .own) := by rw [← h5M, AMem.get_set, if_pos rfl]
    have g5o : M5.get M.next = some (.cells (o.map cw) .own) := by rw [← h5M, AMem.get_set, if_neg hne.symm, AMem.get_alloc, if_neg hne.symm]; exact hg
    have x5 : Ext m M5 := by rw [← h5M]; exact (hx.alloc _).set hx.next _
    have n5 : M5.next = M'.next + 1 := by rw [← h5M, AMem.next_set, AMem.next_alloc]
    clear h5M
    (repeat refine CodeA.seq ?_); refine CodeA.drawW (by kernel_rfl) fun K hK => ?_
    refine sw_pure rfl rfl (o_move (ev_at (by repeat first | (apply at_skip; rfl) | exact at_hit _ _ _ | assumption))) (lt_b rfl) ?_
    refine sw_pure rfl rfl (o_indexAddr (ev_at (by repeat first | (apply at_skip; rfl) | exact at_hit _ _ _ | assumption)) (ev_int _ _) (ia26_0 _ _)) (lt_b rfl) ?_
    refine sw_load rfl (ev_at (by repeat first | (apply at_skip; rfl) | exact at_hit _ _ _ | assumption)) (by omega) (loadOne k3 a3 g5x (by rfl)) (lt_b rfl) ?_
    refine sw_pure rfl rfl (o_indexAddr (ev_at (by repeat first | (apply at_skip; rfl) | exact at_hit _ _ _ | assumption)) (ev_at (by repeat first | (apply at_skip; rfl) | exact at_hit _ _ _ | assumption)) (idxSl (i := e.1) u36 k28 s28 ha)) (lt_b rfl) ?_
    refine sw_load rfl (ev_at (by repeat first | (apply at_skip; rfl) | exact at_hit _ _ _ | assumption)) (by omega) (loadOne k28 a28 g5o (get_cw1 (o := o) (i := e.1) (by omega))) (lt_b rfl) ?_
    refine sw_pure rfl rfl (o_indexAddr (ev_at (by repeat first | (apply at_skip; rfl) | exact at_hit _ _ _ | assumption)) (ev_int _ _) (ia26_1 _ _)) (lt_b rfl) ?_
    refine sw_load rfl (ev_at (by repeat first | (apply at_skip; rfl) | exact at_hit _ _ _ | assumption)) (by omega) (loadOne k3 a3 g5x (by rfl)) (lt_b rfl) ?_
    refine sw_pure rfl rfl (o_bin (ev_int _ _) (ev_at (by repeat first | (apply at_skip; rfl) | exact at_hit _ _ _ | assumption)) (shl64 e.2 (by omega))) (lt_b rfl) ?_
    refine sw_pure rfl rfl (o_bin (ev_at (by repeat first | (apply at_skip; rfl) | exact at_hit _ _ _ | assumption)) (ev_at (by repeat first | (apply at_skip; rfl) | exact at_hit _ _ _ | assumption)) (bin_or64 (o.getD e.1 0) (2 ^ e.2) (getD_lt hob) (Nat.pow_lt_pow_right (by omega) (by omega)))) (lt_b rfl) ?_
    refine sw_pure rfl rfl (o_indexAddr (ev_at (by repeat first | (apply at_skip; rfl) | exact at_hit _ _ _ | assumption)) (ev_at (by repeat first | (apply at_skip; rfl) | exact at_hit _ _ _ | assumption)) (idxSl (i := e.1) u36 k28 s28 ha)) (lt_b rfl) ?_
    refine sw_store rfl (ev_at (by repeat first | (apply at_skip; rfl) | exact at_hit _ _ _ | assumption)) (ev_at (by repeat first | (apply at_skip; rfl) | exact at_hit _ _ _ | assumption)) (st28 g5o (by simp; omega)) ?_
    refine sw_nil ?_; refine hK _ _ ?_; clear hK K; try simp only [ta_normal]
    rw [← List.map_set]
    generalize h6M : AMem.ww _ _ = M6
    have g6x : M6.get M'.next = some (.cells (ecells e) .own) := by rw [← h6M, AMem.get_ww, AMem.get_set, if_neg hne]; exact g5x
    have g6o : M6.get M.next = some (.cells ((o.set e.1 (o.getD e.1 0 ||| 2 ^ e.2)).map cw) .own) := by rw [← h6M, AMem.get_ww, AMem.get_set, if_pos rfl]
    have x6 : Ext m M6 := by rw [← h6M]; exact (x5.set x1.next _).ww (by have := x5.wl; have := x5.next; have := x1.next; omega)
    have n6 : M6.next = M'.next + 1 := by rw [← h6M, AMem.next_ww, AMem.next_set]; exact n5
    clear h6M
    have hob1 : ∀ x ∈ o.set e.1 (o.getD e.1 0 ||| 2 ^ e.2), x < 2 ^ 64 := set_lt hob (Nat.or_lt_two_pow (getD_lt hob) (Nat.pow_lt_pow_right (by omega) (by omega)))
    have hol1 : (o.set e.1 (o.getD e.1 0 ||| 2 ^ e.2)).length = n := by rw [List.length_set, hol]
    obtain ⟨o1, ho1⟩ : ∃ o1, o1 = o.set e.1 (o.getD e.1 0 ||| 2 ^ e.2) := ⟨_, rfl⟩
    rw [← ho1] at g6o hob1 hol1
    (repeat refine CodeA.seq ?_); refine CodeA.drawW (by kernel_rfl) fun K hK => ?_
    refine sw_pure rfl rfl (o_move (ev_at (by repeat first | (apply at_skip; rfl) | exact at_hit _ _ _ | assumption))) (lt_b rfl) ?_
    refine sw_pure rfl rfl (o_indexAddr (ev_at (by repeat first | (apply at_skip; rfl) | exact at_hit _ _ _ | assumption)) (ev_int _ _) (ia26_1 _ _)) (lt_b rfl) ?_
    refine sw_load rfl (ev_at (by repeat first | (apply at_skip; rfl) | exact at_hit _ _ _ | assumption)) (by omega) (loadOne k3 a3 g6x (by rfl)) (lt_b rfl) ?_
    refine sw_pure rfl rfl (o_indexAddr (ev_at (by repeat first | (apply at_skip; rfl) | exact at_hit _ _ _ | assumption)) (ev_at (by repeat first | (apply at_skip; rfl) | exact at_hit _ _ _ | assumption)) (idxSl (i := e.2) u36 k28 s28 hb)) (lt_b rfl) ?_
    refine sw_load rfl (ev_at (by repeat first | (apply at_skip; rfl) | exact at_hit _ _ _ | assumption)) (by omega) (loadOne k28 a28 g6o (get_cw1 (o := o1) (i := e.2) (by omega))) (lt_b rfl) ?_
    refine sw_pure rfl rfl (o_indexAddr (ev_at (by repeat first | (apply at_skip; rfl) | exact at_hit _ _ _ | assumption)) (ev_int _ _) (ia26_0 _ _)) (lt_b rfl) ?_
    refine sw_load rfl (ev_at (by repeat first | (apply at_skip; rfl) | exact at_hit _ _ _ | assumption)) (by omega) (loadOne k3 a3 g6x (by rfl)) (lt_b rfl) ?_
    refine sw_pure rfl rfl (o_bin (ev_int _ _) (ev_at (by repeat first | (apply at_skip; rfl) | exact at_hit _ _ _ | assumption)) (shl64 e.1 (by omega))) (lt_b rfl) ?_
    refine sw_pure rfl rfl (o_bin (ev_at (by repeat first | (apply at_skip; rfl) | exact at_hit _ _ _ | assumption)) (ev_at (by repeat first | (apply at_skip; rfl) | exact at_hit _ _ _ | assumption)) (bin_or64 (o1.getD e.2 0) (2 ^ e.1) (getD_lt hob1) (Nat.pow_lt_pow_right (by omega) (by omega)))) (lt_b rfl) ?_
    refine sw_pure rfl rfl (o_indexAddr (ev_at (by repeat first | (apply at_skip; rfl) | exact at_hit _ _ _ | assumption)) (ev_at (by repeat first | (apply at_skip; rfl) | exact at_hit _ _ _ | assumption)) (idxSl (i := e.2) u36 k28 s28 hb)) (lt_b rfl) ?_
    refine sw_store rfl (ev_at (by repeat first | (apply at_skip; rfl) | exact at_hit _ _ _ | assumption)) (ev_at (by repeat first | (apply at_skip; rfl) | exact at_hit _ _ _ | assumption)) (st28 g6o (by simp; omega)) ?_
    refine sw_nil ?_; refine hK _ _ ?_; clear hK K; try simp only [ta_normal]
    rw [← List.map_set]
    generalize h7M : AMem.ww _ _ = M7
    have g7o : M7.get M.next = some (.cells ((addE o e).map cw) .own) := by rw [← h7M, AMem.get_ww, AMem.get_set, if_pos rfl]; unfold addE; rw [← ho1]
    have x7 : Ext m M7 := by rw [← h7M]; exact (x6.set x1.next _).ww (by have := x6.wl; have := x6.next; have := x1.next; omega)
    have n7 : M7.next = M'.next + 1 := by rw [← h7M, AMem.next_ww, AMem.next_set]; exact n6
    clear h7M
    simp only [ib_normal, ta_normal]
    (repeat refine CodeA.seq ?_); refine CodeA.regionK fun K hK => ?_
    refine st_op rfl (o_bin (ev_at (by repeat first | (apply at_skip; rfl) | exact at_hit _ _ _ | assumption)) (ev_int _ _) (bin_add _ _ _)) (lt_b rfl) ?_
    refine st_op rfl (o_move (ev_at (by repeat first | (apply at_skip; rfl) | exact at_hit _ _ _ | assumption))) (lt_b rfl) ?_
    refine hK _ _ ?_; clear hK K; try simp only [ta_normal]
    refine ⟨r - 1, by omega, k + 1, by omega, (by repeat first | (apply at_skip; rfl) | exact at_hit _ _ _ | assumption), (by repeat first | (apply at_skip; rfl) | exact at_hit _ _ _ | assumption), (by repeat first | (apply at_skip; rfl) | exact at_hit _ _ _ | assumption), (show Tm.at _ 12 = _ from (by repeat first | (apply at_skip; rfl) | exact at_hit _ _ _ | assumption)).trans (by rw [wrap_i64 _ (by omega) (by omega)]; rfl), by rw [honext]; exact g7o, x7, by omega⟩
  · have hkl' : k = es.length := by omega
    (repeat refine CodeA.seq ?_); refine CodeA.regionK fun K hK => ?_
    refine st_op rfl (o_bin (ev_at (by repeat first | (apply at_skip; rfl) | exact at_hit _ _ _ | assumption)) (ev_at (by repeat first | (apply at_skip; rfl) | exact at_hit _ _ _ | assumption)) (bin_lss _ _ _)) (lt_b rfl) ?_
    refine hK _ _ ?_; clear hK K; try simp only [ta_normal]
    refine CodeA.seq (CodeA.cond (c := false) ((ev_at (by repeat first | (apply at_skip; rfl) | exact at_hit _ _ _ | assumption)).trans (by rw [decide_eq_false (by omega)])) (fun h => by cases h) (fun _ => CodeA.exit ?_))
    simp only [ta_exit, ib_exit, if_true, ta_normal]
    (repeat refine CodeA.seq ?_); refine CodeA.regionK fun K hK => ?_
    refine st_op rfl (o_move (ev_at (by repeat first | (apply at_skip; rfl) | exact at_hit _ _ _ | assumption))) (lt_b rfl) ?_
    refine st_op rfl (o_assign (ev_at (by repeat first | (apply at_skip; rfl) | exact at_hit _ _ _ | assumption))) (lt_b rfl) ?_
    refine hK _ _ ?_; clear hK K; try simp only [ta_normal]
    refine CodeA.ret ?_; simp only [ta_ret, ib_ret, em_ret, resultsA, resM_some, tupleA, Option.map_some, at_set, Nat.reduceEqDiff, reduceIte]
    refine ⟨M.next, rfl, x1.next, hlt, ?_, hx.next, hx.same, by have := hx.wl; omega⟩
    rw [hkl', List.take_length] at hg
    exact hg
end Go.Proofs.YtpclggcpobakhaaDoor
