/-
  The abstract machine and the model: every operation that is no call of a function.
-/
import Derived.Test.YtpclggcpobakhaaDoorAbsAppend
namespace Go.Ab
open Go

section
variable {E : Env} {j : Inj} {m : AMem} {w : World}

/-! ### copy, clear -/
theorem sim_copy (h : MR E j m w) {t : TypeId} {d d' s s' v : Value} {m' : AMem} (e : copyA E.P t d s m = some (v, m')) (hd : VR j d d') (hs : VR j s s') {ts : Array TypeId} (h0 : ts[0]? = some t) (ty : TypeId) :
    ∃ w' v', (Builtin.copy_ ts ty #[d', s']).run E.P w = .ok v' w' ∧ Sim E j m w j m' w' ∧ VR j v v' := by
  unfold copyA at e
  split at e
  · rename_i elem base dLen dCap sa sLen sCap hu
    simp only at e
    split at e
    · cases e
    · rename_i hk
      have hk' : known E.P elem = true := by simpa using hk
      split at e
      · cases e
      · rename_i cells hsrc
        split at e
        · cases e
        · rename_i hone
          have hone' : oneCellAll cells = true := by simpa using hone
          obtain ⟨cells', hc1, hc2⟩ := sim_src h hsrc hs
          have hlen : ∀ w0 : World, (Builtin.lenOf s').run E.P w0 = .ok sLen w0 := by
            intro w0
            cases hs <;> rfl
          have hbase : ∃ base' dCap', d' = .slice base' dLen dCap' ∧ (∀ b o, base = some ⟨b, o, none⟩ → ∃ k : Blk, j b = some k ∧ base' = some ⟨k.c, o, none⟩) := by
            cases hd with
            | snil => exact ⟨_, _, rfl, fun b o e => by cases e⟩
            | slice hj hm => exact ⟨_, _, rfl, fun b o e => by cases e; exact ⟨_, hj, rfl⟩⟩
            | sliceM hj hm e1 e2 hl hc => exact ⟨_, _, rfl, fun b o e => by cases e; exact ⟨_, hj, rfl⟩⟩
            | vague => exact ⟨_, _, rfl, fun b o e => by cases e⟩
            | dry => exact ⟨_, _, rfl, fun b o e => by cases e⟩
          obtain ⟨base', dCap', rfl, hb⟩ := hbase
          have hrun0 : ∀ K : Value → World → Result Value, True := fun _ => trivial
          split at e
          · rename_i hn
            cases e
            have hcl : cells = [] := by
              unfold srcCells at hsrc
              split at hsrc <;> first | (split at hsrc <;> first | (cases hsrc; rfl) | (cases hsrc; done) | (rename_i hne; exact absurd hn hne)) | (cases hsrc; done)
            subst hcl
            have : cells' = [] := hc2.nil_inv
            subst this
            refine ⟨w, .int .i64 0, ?_, .refl h, .int _ _⟩
            have hmin : Nat.min sLen dLen = 0 := hn
            simp only [Builtin.copy_, h0, List.getElem?_toArray, List.getElem?_cons_zero, List.getElem?_cons_succ, Sem.run_bind, run_underlying hu, Result.andThen_ok, hlen, hmin, r_size hk']
            rw [hn] at hc1
            simp only [hc1 w rfl, Result.andThen_ok]
            cases base' <;> rfl
          · rename_i b o n hn
            cases hst : m.storeN b o cells with
            | none => rw [hst] at e; cases e
            | some m1 =>
              rw [hst] at e; cases e
              obtain ⟨k, hj, rfl⟩ := hb b o rfl
              obtain ⟨w', g1, g2⟩ := sim_storeN h hj hc2 hone' hst
              refine ⟨w', .int .i64 (n + 1 : Nat), ?_, g2, .int _ _⟩
              have hmin : Nat.min sLen dLen = n + 1 := hn
              simp only [Builtin.copy_, h0, List.getElem?_toArray, List.getElem?_cons_zero, List.getElem?_cons_succ, Sem.run_bind, run_underlying hu, Result.andThen_ok, hlen, hmin, r_size hk']
              rw [hn] at hc1
              simp only [hc1 w rfl, Result.andThen_ok, g1, Sem.run_pure, goInt]
          · cases e
  · cases e

theorem sim_clear (h : MR E j m w) {t : TypeId} {x x' v : Value} {m' : AMem} (e : clearA E.P t x m = some (v, m')) (hx : VR j x x') {ts : Array TypeId} (h0 : ts[0]? = some t) (ty : TypeId) :
    ∃ w' v', (Builtin.clear_ ts ty #[x']).run E.P w = .ok v' w' ∧ Sim E j m w j m' w' ∧ VR j v v' := by
  unfold clearA at e
  split at e
  · rename_i elem a c hu
    cases e
    refine ⟨w, .tuple #[], ?_, .refl h, VR.undef j⟩
    cases hx <;> simp only [Builtin.clear_, h0, List.getElem?_toArray, List.getElem?_cons_zero, Sem.run_bind, run_underlying hu, Result.andThen_ok] <;> rfl
  · rename_i elem b o n c hnz hu
    split at e
    · rename_i zs hz
      split at e
      · rename_i hp
        cases hst : m.storeN b o zs with
        | none => rw [hst] at e; cases e
        | some m1 =>
          rw [hst] at e; cases e
          obtain ⟨z, hz1, hz2, hz3⟩ := zerosA_some hz
          have hone : oneCellAll zs = true := by
            unfold oneCellAll
            rw [List.all_eq_true] at hp ⊢
            intro v hv
            have := hp v hv
            cases v <;> first | rfl | (simp [plain1] at this)
          have hn0 : n ≠ 0 := fun e => hnz e
          have hzc : (Builtin.zeroCells z.cells n).toList = zs := by rw [hz3]; exact zeros_eq n
          have hgo : ∀ k : Blk, j b = some k → ∃ w', (storeCells ⟨k.c, o, none⟩ zs).run E.P w = .ok () w' ∧ Sim E j m w j m' w' := fun k hj => sim_storeN h hj (LR.plain hp) hone hst
          cases hx with
          | slice hj hm =>
            obtain ⟨w', g1, g2⟩ := hgo _ hj
            refine ⟨w', .tuple #[], ?_, g2, VR.undef j⟩
            simp only [Builtin.clear_, h0, List.getElem?_toArray, List.getElem?_cons_zero, Sem.run_bind, run_underlying hu, Result.andThen_ok]
            cases n with
            | zero => exact absurd rfl hn0
            | succ n => simp only [Sem.run_bind, r_zero hz1, Result.andThen_ok, hzc, g1, Sem.run_pure]
          | sliceM hj hm e1 e2 hl hc =>
            obtain ⟨w', g1, g2⟩ := hgo _ hj
            refine ⟨w', .tuple #[], ?_, g2, VR.undef j⟩
            simp only [Builtin.clear_, h0, List.getElem?_toArray, List.getElem?_cons_zero, Sem.run_bind, run_underlying hu, Result.andThen_ok]
            cases n with
            | zero => exact absurd rfl hn0
            | succ n => simp only [Sem.run_bind, r_zero hz1, Result.andThen_ok, hzc, g1, Sem.run_pure]
      · cases e
    · cases e
  · cases e

/-! ### min, max -/
theorem sim_foldMax : ∀ (vs vs' : List Value) (k : IntKind) (a : Int) (v : Value), foldInts (fun x y => if y > x then y else x) k a vs = some v → LR j vs vs' → ∀ w, (vs'.foldlM Builtin.max2 (.int k a)).run E.P w = .ok v w
  | [], vs', k, a, v, e, hl, w => by rw [hl.nil_inv]; cases e; rfl
  | x :: vs, vs', k, a, v, e, hl, w => by
    obtain ⟨y, ys, rfl, h1, h2⟩ := hl.cons_inv
    cases x <;> simp only [foldInts] at e <;> first | (cases e; done) | skip
    cases h1
    simp only [List.foldlM_cons, Builtin.max2, Sem.run_bind, Sem.run_pure, Result.andThen_ok]
    exact sim_foldMax vs ys k _ v e h2 w
theorem sim_foldMin : ∀ (vs vs' : List Value) (k : IntKind) (a : Int) (v : Value), foldInts (fun x y => if y < x then y else x) k a vs = some v → LR j vs vs' → ∀ w, (vs'.foldlM Builtin.min2 (.int k a)).run E.P w = .ok v w
  | [], vs', k, a, v, e, hl, w => by rw [hl.nil_inv]; cases e; rfl
  | x :: vs, vs', k, a, v, e, hl, w => by
    obtain ⟨y, ys, rfl, h1, h2⟩ := hl.cons_inv
    cases x <;> simp only [foldInts] at e <;> first | (cases e; done) | skip
    cases h1
    simp only [List.foldlM_cons, Builtin.min2, Sem.run_bind, Sem.run_pure, Result.andThen_ok]
    exact sim_foldMin vs ys k _ v e h2 w
theorem foldInts_int (f : Int → Int → Int) : ∀ (vs : List Value) (k : IntKind) (a : Int) (v : Value), foldInts f k a vs = some v → ∃ n, v = .int k n
  | [], k, a, v, e => by cases e; exact ⟨a, rfl⟩
  | x :: vs, k, a, v, e => by
    cases x <;> simp only [foldInts] at e <;> first | (cases e; done) | exact foldInts_int f vs k _ v e

theorem ER.len : ∀ {a : List (Value × Value)} {b : List MapEntry}, ER j a b → a.length = b.length
  | [], [], _ => rfl
  | _ :: _, _ :: _, h => by simp [ER.len h.2.2]
  | [], _ :: _, h => h.elim
  | _ :: _, [], h => h.elim

/-! ### Builtin functions -/
theorem sim_builtin (h : MR E j m w) {b : Builtin} {ts : Array TypeId} {args args' : List Value} {v : Value} {m' : AMem} (e : builtinA E.P b ts args m = some (v, m')) (ha : LR j args args') (ty : TypeId) (cs : Array Bool) :
    (m' = m ∧ (∀ m2 : AMem, ((b = .len ∨ b = .cap) → ∀ x b0, args = [x] → blockOf x = some b0 → m2.get b0 = m.get b0) → builtinA E.P b ts args m2 = some (v, m2)) ∧ ∃ v', (builtin b ts ty cs args'.toArray).run E.P w = .ok (.value v') w ∧ VR j v v') ∨
    ((b = .append ∨ b = .copy ∨ b = .clear ∨ b = .delete) ∧ ∃ j' w' v', (builtin b ts ty cs args'.toArray).run E.P w = .ok (.value v') w' ∧ Sim E j m w j' m' w' ∧ VR j' v v') := by
  unfold builtinA at e
  split at e
  · -- len
    rename_i x
    obtain ⟨x', l, rfl, hx, hl⟩ := ha.cons_inv
    rw [hl.nil_inv]
    refine .inl ?_
    have key0 : ∀ n : Int, (Builtin.len_ ts ty [x'].toArray).run E.P w = .ok (.int .i64 n) w → ∃ v', (builtin .len ts ty cs [x'].toArray).run E.P w = .ok (.value v') w ∧ VR j (.int .i64 n) v' :=
      fun n hr => ⟨_, by simp only [builtin, Sem.run_bind, hr, Result.andThen_ok, Sem.run_pure], .int _ _⟩
    cases ht : ts[0]? with
    | none => rw [ht] at e; simp at e
    | some t =>
      rw [ht] at e
      simp only [Option.bind_some] at e
      split at e
      · rename_i hu; cases e; cases hx
        exact ⟨rfl, fun m2 hm2 => by simp only [builtinA, ht, Option.bind_some, hu], key0 _ (by simp only [Builtin.len_, ht, List.getElem?_toArray, List.getElem?_cons_zero, Sem.run_bind, run_underlying hu, Result.andThen_ok, Sem.run_pure, goInt])⟩
      · rename_i hu; cases e
        exact ⟨rfl, fun m2 hm2 => by simp only [builtinA, ht, Option.bind_some, hu], key0 _ (by simp only [Builtin.len_, ht, List.getElem?_toArray, List.getElem?_cons_zero, Sem.run_bind, run_underlying hu, Result.andThen_ok, Sem.run_pure, goInt])⟩
      · rename_i a hu
        split at e
        · rename_i hu2; cases e
          exact ⟨rfl, fun m2 hm2 => by simp only [builtinA, ht, Option.bind_some, hu, hu2], key0 _ (by simp only [Builtin.len_, ht, List.getElem?_toArray, List.getElem?_cons_zero, Sem.run_bind, run_underlying hu, run_underlying hu2, Result.andThen_ok, Sem.run_pure, goInt])⟩
        · cases e
      · rename_i hu; cases e
        cases hx <;> exact ⟨rfl, fun m2 hm2 => by simp only [builtinA, ht, Option.bind_some, hu], key0 _ (by simp only [Builtin.len_, ht, List.getElem?_toArray, List.getElem?_cons_zero, Sem.run_bind, run_underlying hu, Result.andThen_ok, Sem.run_pure, goInt])⟩
      · rename_i hu
        cases hes : mapOf m _ with
        | none => rw [hes] at e; cases e
        | some es =>
          rw [hes] at e; cases e
          unfold mapOf at hes
          split at hes
          · cases hes; cases hx
            exact ⟨rfl, fun m2 hm2 => by simp only [builtinA, ht, Option.bind_some, hu, mapOf, Option.map_some], key0 _ (by simp only [Builtin.len_, ht, List.getElem?_toArray, List.getElem?_cons_zero, Sem.run_bind, run_underlying hu, Result.andThen_ok, Sem.run_pure, goInt]; rfl)⟩
          · rename_i r
            split at hes
            · rename_i es0 hg
              cases hes
              cases hx with
              | map hj =>
              obtain ⟨es', clock, h1, h2⟩ := h.mapAt hj hg
              have hlen : es.length = es'.size := by
                simpa using ER.len h2
              exact ⟨rfl, fun m2 hm2 => by simp only [builtinA, ht, Option.bind_some, hu, mapOf, hm2 (.inl rfl) _ _ rfl rfl, hg, Option.map_some], key0 _ (by simp only [Builtin.len_, ht, List.getElem?_toArray, List.getElem?_cons_zero, Sem.run_bind, run_underlying hu, Result.andThen_ok, run_getObj_map h1, Sem.run_pure, goInt, hlen])⟩
            · cases hes
          · cases hes
      · cases e
  · -- cap
    rename_i x
    obtain ⟨x', l, rfl, hx, hl⟩ := ha.cons_inv
    rw [hl.nil_inv]
    refine .inl ?_
    have key0 : ∀ n : Int, (Builtin.cap_ ts ty [x'].toArray).run E.P w = .ok (.int .i64 n) w → ∃ v', (builtin .cap ts ty cs [x'].toArray).run E.P w = .ok (.value v') w ∧ VR j (.int .i64 n) v' :=
      fun n hr => ⟨_, by simp only [builtin, Sem.run_bind, hr, Result.andThen_ok, Sem.run_pure], .int _ _⟩
    cases ht : ts[0]? with
    | none => rw [ht] at e; simp at e
    | some t =>
      rw [ht] at e
      simp only [Option.bind_some] at e
      split at e
      · rename_i hu; cases e; cases hx
        exact ⟨rfl, fun m2 hm2 => by simp only [builtinA, ht, Option.bind_some, hu], key0 _ (by simp only [Builtin.cap_, ht, List.getElem?_toArray, List.getElem?_cons_zero, Sem.run_bind, run_underlying hu, Result.andThen_ok, Sem.run_pure, goInt])⟩
      · rename_i b0 o l0 n hu
        split at e
        · cases e
        · rename_i cs0 tag htag hg
          cases e
          cases hx with
          | slice hj hm =>
            refine ⟨rfl, fun m2 hm2 => ?_, key0 _ (by simp only [Builtin.cap_, ht, List.getElem?_toArray, List.getElem?_cons_zero, Sem.run_bind, run_underlying hu, Result.andThen_ok, Sem.run_pure, goInt])⟩
            have hg2 : m2.get b0 = some (.cells cs0 tag) := (hm2 (.inr rfl) _ _ rfl rfl).trans hg
            simp only [builtinA, ht, Option.bind_some, hu, hg2]
          | sliceM hj hm e1 e2 hl hc =>
            have := h.kindOf hj hg
            cases tag with
            | more sz => exact absurd rfl (htag sz)
            | ro => simp only at this; rw [hm] at this; cases this
            | own => simp only at this; rw [hm] at this; cases this
        · cases e
      · cases e
  · -- append
    rename_i s x
    obtain ⟨s', l, rfl, hs, hl⟩ := ha.cons_inv
    obtain ⟨x', l', rfl, hx, hl'⟩ := hl.cons_inv
    rw [hl'.nil_inv]
    split at e
    · rename_i t ht
      obtain ⟨j', w', v', h1, h2, h3⟩ := sim_append h e hs hx ht rfl ty
      exact .inr ⟨by simp, j', w', v', by simp only [builtin, Sem.run_bind]; rw [h1]; rfl, h2, h3⟩
    · cases e
  · -- copy
    rename_i d s
    obtain ⟨d', l, rfl, hd, hl⟩ := ha.cons_inv
    obtain ⟨s', l', rfl, hs, hl'⟩ := hl.cons_inv
    rw [hl'.nil_inv]
    split at e
    · rename_i t ht
      obtain ⟨w', v', h1, h2, h3⟩ := sim_copy h e hd hs ht ty
      exact .inr ⟨by simp, j, w', v', by simp only [builtin, Sem.run_bind]; rw [h1]; rfl, h2, h3⟩
    · cases e
  · -- clear
    rename_i x
    obtain ⟨x', l, rfl, hx, hl⟩ := ha.cons_inv
    rw [hl.nil_inv]
    split at e
    · rename_i t ht
      obtain ⟨w', v', h1, h2, h3⟩ := sim_clear h e hx ht ty
      exact .inr ⟨by simp, j, w', v', by simp only [builtin, Sem.run_bind]; rw [h1]; rfl, h2, h3⟩
    · cases e
  · -- delete
    rename_i x k
    obtain ⟨x', l, rfl, hx, hl⟩ := ha.cons_inv
    obtain ⟨k', l', rfl, hk, hl'⟩ := hl.cons_inv
    rw [hl'.nil_inv]
    split at e
    · rename_i t ht
      cases hd : deleteA E.P t x k m with
      | none => rw [hd] at e; cases e
      | some m1 =>
        rw [hd] at e; cases e
        obtain ⟨w', h1, h2⟩ := sim_delete h hd hx hk ts ht ty
        exact .inr ⟨by simp, j, w', .tuple #[], by simp only [builtin, Sem.run_bind]; rw [h1]; rfl, h2, VR.undef j⟩
    · cases e
  · -- max
    rename_i k a vs
    obtain ⟨x', l, rfl, hx, hl⟩ := ha.cons_inv
    cases hx
    cases hf : foldInts (fun x y => if y > x then y else x) k a vs with
    | none => rw [hf] at e; cases e
    | some r =>
      rw [hf] at e; cases e
      obtain ⟨n, rfl⟩ := foldInts_int _ _ _ _ _ hf
      refine .inl ⟨rfl, fun m2 _ => by simp only [builtinA, hf, Option.map_some], .int k n, ?_, .int _ _⟩
      have := sim_foldMax (E := E) vs l k a _ hf hl w
      simp only [builtin, Sem.run_bind, Builtin.max_, this, Result.andThen_ok, Sem.run_pure]
  · -- min
    rename_i k a vs
    obtain ⟨x', l, rfl, hx, hl⟩ := ha.cons_inv
    cases hx
    cases hf : foldInts (fun x y => if y < x then y else x) k a vs with
    | none => rw [hf] at e; cases e
    | some r =>
      rw [hf] at e; cases e
      obtain ⟨n, rfl⟩ := foldInts_int _ _ _ _ _ hf
      refine .inl ⟨rfl, fun m2 _ => by simp only [builtinA, hf, Option.map_some], .int k n, ?_, .int _ _⟩
      have := sim_foldMin (E := E) vs l k a _ hf hl w
      simp only [builtin, Sem.run_bind, Builtin.min_, this, Result.andThen_ok, Sem.run_pure]
  · cases e
end
end Go.Ab
