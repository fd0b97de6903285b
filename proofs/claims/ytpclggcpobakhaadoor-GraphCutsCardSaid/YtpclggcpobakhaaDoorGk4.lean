/- Texts of the abstract machine and of the walks, joined: AbsShow AbsApart AbsW8 S18Row S18Env S18Del S18Ins S18Facts S18Tz S18Around S18Known AbsMemo S18Memo AbsMemoG S18Works S18Env2 S18ManW S18TzW S18Man2W S18Use S18Lift S18F2 AbsW9 AbsW10 S18F63 S18F3 S18F4 AbsW11 S18F5 S18W0. -/
import Derived.Test.YtpclggcpobakhaaDoorGk3
import Derived.Lib.Overlaps
import Derived.Test.YtpclggcpobakhaaDoorRows
import Derived.Test.YtpclggcpobakhaaDoorTie
import Derived.Test.YtpclggcpobakhaaDoorCards
import Derived.ProofKit
import Derived.LaidMore
import Derived.OpenShut
import Derived.Stop.Joined
import Derived.SevenTiedAt
section
namespace Go.Ab
open Go
section
variable {E : Env} {j j2 j3 : Inj} {m m3 : AMem} {w w3 : World}
theorem sim_show (h : MR E j m w) {b sz : Nat} {k : Blk} (hk : j b = some k) {cs : List Value} (hg : m.get b = some (.cells cs (.more sz))) (hp : cs.all plain1 = true) :
  ∃ zs : List Value, zs.all plain1 = true ∧ k.more = some (sz, cs.length, cs.length + zs.length) ∧ 0 < sz ∧ Sim E j m w (j.set m.next ⟨k.c, none⟩) ((m.kill b).alloc (.cells (cs ++ zs) .own)) w := by
 obtain ⟨c, e, fz, h1, h2, h3⟩ := h.cellsAt hk hg
 obtain ⟨c4, c5, rfl, c6, c7⟩ : k.more = some (sz, cs.length, c.size) ∧ cs.length ≤ c.size ∧ fz = (0, 0) ∧ 0 < sz ∧ restOk cs.length c := h2
 have hl : (cs ++ c.toList.drop cs.length).length = c.size := by simp; omega
 refine ⟨c.toList.drop cs.length, List.all_eq_true.2 fun v hv => ?_, by rw [c4]; simp; omega, c6, ?_⟩
 ·obtain ⟨i, hi⟩ := List.mem_iff_getElem?.1 hv
  rw [List.getElem?_drop] at hi
  exact c7 (cs.length + i) v (by omega) (by simpa using hi)
 ·have ho : OR j ⟨k.c, none⟩ (.cells (cs ++ c.toList.drop cs.length) .own) (.cells c e (0, 0)) := by
   refine ⟨⟨rfl, hl.symm, rfl⟩, fun i v hi => ?_⟩
   by_cases hlt : i < cs.length
   ·rw [List.getElem?_append_left hlt] at hi
    exact h3 i v hi
   ·rw [List.getElem?_append_right (by omega), List.getElem?_drop] at hi
    have hi' : c[i]? = some v := by rw [show cs.length + (i - cs.length) = i by omega] at hi; simpa using hi
    exact ⟨v, hi', .plain1 (c7 i v (by omega) hi')⟩
  have s := sim_regrow h hk (by rw [hg]; rfl) ho
  rwa [putObj_self h1] at s
theorem sim_show1 (h : MR E j m w) {b : Nat} {k : Blk} (hk : j b = some k) {cs : List Value} (hg : m.get b = some (.cells cs .own)) (hp : cs.all plain1 = true) :
  Sim E j m w (j.set m.next ⟨k.c, none⟩) ((m.kill b).alloc (.cells cs .own)) w := by
 obtain ⟨c, e, fz, h1, h2, h3⟩ := h.cellsAt hk hg
 obtain ⟨c4, c5, rfl⟩ : k.more = none ∧ c.size = cs.length ∧ fz = (0, 0) := h2
 have s := sim_regrow h hk (by rw [hg]; rfl) (mo := none) (show OR j ⟨k.c, none⟩ (.cells cs .own) (.cells c e (0, 0)) from ⟨⟨rfl, c5, rfl⟩, h3⟩)
 rwa [putObj_self h1] at s
theorem Sim.hide (h : MR E j m w) {b : Nat} {k : Blk} (hk : j b = some k) (hl : (m.get b).isSome = true) {ao : AObj}
  (s : Sim E (j.set m.next ⟨k.c, none⟩) { (m.kill b).alloc ao with wl := m.next } w j3 m3 w3) (hw : m.next ≤ m3.wl) {b3 : Nat} {k3 k' : Blk} (hb : m.next ≤ b3) (hk3 : j3 b3 = some k3) (hl3 : (m3.get b3).isSome = true) (hc : k'.c = k3.c)
  {no : AObj} (hor : ∀ o', w3.heap[k3.c]? = some o' → OR (j.set m.next k') k' no o') :
  Sim E j m w (j.set m.next k') ((m.kill b).alloc no) w3 := by
 have hn : j m.next = none := h.next_none
 have hbn : b < m.next := (h.lt b k hk).1
 have hle : j.le (j.set m.next k') := Inj.le_set _ hn
 have hget : ∀ x, ((m.kill b).alloc no).get x = if x = m.next then some no else if x = b then none else m.get x := by
  intro x; rw [AMem.get_alloc, AMem.get_kill]; rfl
 have hget2 : ∀ x, ({ (m.kill b).alloc ao with wl := m.next } : AMem).get x = if x = m.next then some ao else if x = b then none else m.get x := by
  intro x
  show ((m.kill b).alloc ao).get x = _
  rw [AMem.get_alloc, AMem.get_kill]; rfl
 have hj2 : ∀ {x kx}, x < m.next → j x = some kx → (j.set m.next ⟨k.c, none⟩) x = some kx := fun hx e => by rw [Inj.set_ne _ _ (by omega)]; exact e
 have hframe : ∀ c, c < w.heap.size → c ≠ k.c → w3.heap[c]? = w.heap[c]? := fun c hcs hcne => by
  refine s.frame c hcs fun b' k'' e _ ec => ?_
  by_cases hb' : b' = m.next
  ·subst hb'; rw [Inj.set_eq] at e; cases e; exact absurd ec.symm hcne
  ·rw [Inj.set_ne _ _ hb'] at e
   exact Nat.lt_of_lt_of_le (h.lt b' k'' e).1 hw
 have hsame3 : ∀ x, x < m.next → x ≠ b → m3.get x = m.get x := fun x hx hxb => by
  have := s.ext.same x (Nat.lt_succ_of_lt hx) (Nat.lt_of_lt_of_le hx hw)
  rw [this, hget2, if_neg (by omega), if_neg hxb]
 have hk3lt := s.mr.lt b3 k3 hk3
 refine ⟨(AExt.kill m b).trans (AExt.alloc _ no), hle, ?_, ⟨?_, ?_, ?_, fun g hg => hle _ _ (h.glob g hg)⟩, s.size, full_new, ?_, ?_, ?_, s.calm⟩
 ·intro x kx hx hnx
  by_cases e : x = m.next
  ·exact Nat.le_of_eq e.symm
  ·rw [Inj.set_ne _ _ e, hnx] at hx; cases hx
 ·intro x kx hx
  by_cases e : x = m.next
  ·subst e; rw [Inj.set_eq] at hx; cases hx
   exact ⟨Nat.lt_succ_self _, by rw [hc]; exact hk3lt.2⟩
  ·rw [Inj.set_ne _ _ e] at hx
   have := h.lt x kx hx
   exact ⟨Nat.lt_succ_of_lt this.1, Nat.lt_of_lt_of_le this.2 s.size⟩
 ·intro x o kx hg hx
  rw [hget] at hg
  by_cases e : x = m.next
  ·subst e
   rw [Inj.set_eq] at hx; cases hx
   rw [if_pos rfl] at hg; cases hg
   obtain ⟨o3, hg3⟩ := Option.isSome_iff_exists.1 hl3
   obtain ⟨o', h1, _⟩ := s.mr.obj b3 o3 k3 hg3 hk3
   exact ⟨o', by rw [hc]; exact h1, hor o' h1⟩
  ·rw [Inj.set_ne _ _ e] at hx
   rw [if_neg e] at hg
   split at hg
   ·cases hg
   ·rename_i hxb
    obtain ⟨o', h1, h2⟩ := h.obj x o kx hg hx
    refine ⟨o', ?_, h2.mono hle⟩
    rw [hframe kx.c (h.lt x kx hx).2 fun hcc => hxb (h.inj x b kx k hx hk (by rw [hg]; rfl) hl hcc)]
    exact h1
 ·have old : ∀ {x kx}, j x = some kx → (m.get x).isSome = true → x ≠ b → kx.c ≠ k'.c := fun {x kx} e hlx hxb hcc => by
   have hlt := (h.lt x kx e).1
   have := s.mr.inj x b3 kx k3 (s.le x kx (hj2 hlt e)) hk3 (by rw [hsame3 x hlt hxb]; exact hlx) hl3 (by rw [hcc, hc])
   omega
  intro x x' k1 k2 hx hx' hl1 hl2 hcc
  rw [hget] at hl1 hl2
  by_cases e : x = m.next <;> by_cases e' : x' = m.next
  ·rw [e, e']
  ·subst e
   rw [Inj.set_eq] at hx; cases hx
   rw [Inj.set_ne _ _ e'] at hx'
   rw [if_neg e'] at hl2
   split at hl2
   ·cases hl2
   ·rename_i hxb
    exact absurd hcc.symm (old hx' hl2 hxb)
  ·subst e'
   rw [Inj.set_eq] at hx'; cases hx'
   rw [Inj.set_ne _ _ e] at hx
   rw [if_neg e] at hl1
   split at hl1
   ·cases hl1
   ·rename_i hxb
    exact absurd hcc (old hx hl1 hxb)
  ·rw [Inj.set_ne _ _ e] at hx
   rw [Inj.set_ne _ _ e'] at hx'
   rw [if_neg e] at hl1
   rw [if_neg e'] at hl2
   split at hl1
   ·cases hl1
   ·split at hl2
    ·cases hl2
    ·exact h.inj x x' k1 k2 hx hx' hl1 hl2 hcc
 ·intro x hx hnx
  rw [hget, if_neg (by omega), if_neg]
  intro e; subst e; rw [hk] at hnx; cases hnx
 ·intro x kx hx hnx
  by_cases e : x = m.next
  ·subst e; rw [Inj.set_eq] at hx; cases hx
   have hwl : ((m.kill b).alloc no).wl ≤ b := Nat.min_le_right _ _
   by_cases hb3 : b3 = m.next
   ·subst hb3
    have := s.le m.next _ (Inj.set_eq _ _ _)
    rw [hk3] at this; cases this
    exact .inr ⟨b, k, hk, hl, by rw [hc], hwl⟩
   ·rcases s.fresh b3 k3 hk3 (by
     rw [Inj.set_ne _ _ hb3]
     cases e : j b3 with
     | none => rfl
     | some k => have := (h.lt b3 k e).1; omega) with hf | ⟨b0, k0, a1, _, a3, a4⟩
    ·exact .inl (by rw [hc]; exact hf)
    ·by_cases hb0 : b0 = m.next
     ·subst hb0; rw [Inj.set_eq] at a1; cases a1
      exact .inr ⟨b, k, hk, hl, by rw [hc]; exact a3, hwl⟩
     ·rw [Inj.set_ne _ _ hb0] at a1
      have := (h.lt b0 k0 a1).1
      omega
  ·rw [Inj.set_ne _ _ e, hnx] at hx; cases hx
 ·intro c hcs hall
  refine hframe c hcs fun e => ?_
  have := hall b k hk hl e.symm
  have hwl : ((m.kill b).alloc no).wl ≤ b := Nat.min_le_right _ _
  omega
def MeetsS (E : Env) (f : FuncId) (m : AMem) (b sz n : Nat) (cs : List Value) (rest : List Value) (n3 : Nat) (new : List Value) : Prop :=
 ∀ (zs : List Value) (c : Nat), zs.all plain1 = true → n ≤ c → c * sz = cs.length + zs.length →
  CallA E f (.slice (some ⟨m.next, 0, none⟩) n c :: rest) { (m.kill b).alloc (.cells (cs ++ zs) .own) with wl := m.next } fun v m3 =>
   m.next ≤ m3.wl ∧ ∃ b3 c3 all tag, v = .slice (some ⟨b3, 0, none⟩) n3 c3 ∧ m.next ≤ b3 ∧ m3.get b3 = some (.cells (new ++ all) tag) ∧ all.all plain1 = true ∧ n3 ≤ c3 ∧
    ((tag = .own ∧ c3 * sz = new.length + all.length) ∨ (tag = .more sz ∧ all = [] ∧ c3 = n3))
theorem callOk_show (hE : EnvOk E) {f : FuncId} {b sz n n3 : Nat} {cs rest new : List Value} {tg : Tag} (hg : m.get b = some (.cells cs tg)) (htg : tg = .own ∨ tg = .more sz) (hsz : 0 < sz) (hcl : cs.length = n * sz) (hp : cs.all plain1 = true) (hn : new.length = n3 * sz) (hpn : new.all plain1 = true)
  (hM : MeetsS E f m b sz n cs rest n3 new) {args' : List Value} (h : MR E j m w) (hl : LR j (.slice (some ⟨b, 0, none⟩) n n :: rest) args') :
  CallOk E.P (E.prim f).isSome f args'.toArray w (ValQ E j m w (.slice (some ⟨m.next, 0, none⟩) n3 n3) ((m.kill b).alloc (.cells new (.more sz)))) := by
 obtain ⟨v1, vs, rfl, hv1, hvs⟩ := hl.cons_inv
 obtain ⟨k, cap', zs, hj, rfl, hz, hcc, hce, s1⟩ : ∃ (k : Blk) (cap' : Nat) (zs : List Value), j b = some k ∧ v1 = .slice (some ⟨k.c, 0, none⟩) n cap' ∧ zs.all plain1 = true ∧ n ≤ cap' ∧ cap' * sz = cs.length + zs.length ∧
   Sim E j m w (j.set m.next ⟨k.c, none⟩) ((m.kill b).alloc (.cells (cs ++ zs) .own)) w := by
  cases hv1 with
  | slice hj hm =>
   rename_i k
   rcases htg with rfl | rfl
   ·exact ⟨k, n, [], hj, rfl, rfl, Nat.le_refl _, by simp [hcl], by rw [List.append_nil]; exact sim_show1 h hj hg hp⟩
   ·obtain ⟨zs, _, h2, _⟩ := sim_show h hj hg hp
    rw [hm] at h2; cases h2
  | sliceM hj hm e1 e2 hlc hcc =>
   rename_i cap' sz' na nc k
   rcases htg with rfl | rfl
   ·have h2 := h.kindOf hj hg
    simp only at h2
    rw [hm] at h2; cases h2
   ·obtain ⟨zs, hz, hmm, _, s1⟩ := sim_show h hj hg hp
    rw [hm] at hmm
    simp only [Option.some.injEq, Prod.mk.injEq] at hmm
    obtain ⟨rfl, rfl, rfl⟩ := hmm
    exact ⟨k, cap', zs, hj, rfl, hz, hcc, by omega, s1⟩
 obtain ⟨v3, m3, ⟨fu, hr⟩, hw, b3, c3, all, tag, rfl, hb3, hg3, hall, hnc, htag⟩ := hM zs cap' hz hcc hce
 obtain ⟨_, _, e, hs⟩ := sim_run hE fu _ _ hr
 cases e
 have hl2 : LR (j.set m.next ⟨k.c, none⟩) (.slice (some ⟨m.next, 0, none⟩) n cap' :: rest) (.slice (some ⟨k.c, 0, none⟩) n cap' :: vs) :=
  .cons (VR.slice (k := ⟨k.c, none⟩) (Inj.set_eq _ _ _) rfl) (hvs.mono s1.le)
 refine callOk_mono (fun hh => hh) (hs _ w _ (s1.mr.of_wl (x := m.next)) hl2) ?_
 intro v' w' ⟨j', s2, hv⟩
 have key : ∀ {k3 : Blk} {cap3 : Nat}, j' b3 = some k3 → (cap3 * sz = new.length + all.length ∧ tag = .own ∨ (∃ nc3, k3.more = some (sz, new.length, nc3) ∧ cap3 * sz = nc3) ∧ tag = .more sz ∧ all = []) → n3 ≤ cap3 →
   ValQ E j m w (.slice (some ⟨m.next, 0, none⟩) n3 n3) ((m.kill b).alloc (.cells new (.more sz))) (.slice (some ⟨k3.c, 0, none⟩) n3 cap3) w' := by
  intro k3 cap3 hk3 hca hle3
  have hk' : j'.le j' := .refl _
  obtain ⟨o3, ho3, hor3⟩ := s2.mr.obj b3 _ k3 hg3 hk3
  cases o3 with
  | cells c3' e3 fz3 =>
   have hsame : ∀ {o'}, w'.heap[k3.c]? = some o' → o' = .cells c3' e3 fz3 := fun e => by rw [ho3] at e; cases e; rfl
   have hsize : cap3 * sz = c3'.size ∧ fz3 = (0, 0) ∧ restOk new.length c3' := by
    rcases hca with ⟨h1, rfl⟩ | ⟨⟨nc3, h1, h2⟩, rfl, rfl⟩
    ·have ht : k3.more = none ∧ c3'.size = (new ++ all).length ∧ fz3 = (0, 0) := hor3.1
     refine ⟨by rw [h1, ht.2.1, List.length_append], ht.2.2, fun i v hi hv => ?_⟩
     have hlt : i < (new ++ all).length := by rw [← ht.2.1]; exact (Array.getElem?_eq_some_iff.1 hv).1
     obtain ⟨v', h3, h4⟩ := hor3.2 i (new ++ all)[i] (List.getElem?_eq_getElem hlt)
     have hpv : plain1 (new ++ all)[i] = true := by
      have : (new ++ all).all plain1 = true := by rw [List.all_append, hpn, hall]; rfl
      exact List.all_eq_true.1 this _ (List.getElem_mem hlt)
     have := plain1_eq hpv h4
     rw [hv] at h3; cases h3
     rw [this]; exact hpv
    ·have ht : k3.more = some (sz, (new ++ []).length, c3'.size) ∧ (new ++ []).length ≤ c3'.size ∧ fz3 = (0, 0) ∧ 0 < sz ∧ restOk (new ++ []).length c3' := hor3.1
     rw [List.append_nil] at ht
     rw [h1] at ht
     have := ht.1
     simp only [Option.some.injEq, Prod.mk.injEq, true_and] at this
     exact ⟨by omega, ht.2.2.1, ht.2.2.2.2⟩
   have hles : new.length ≤ c3'.size := by
    rw [← hsize.1, hn]; exact Nat.mul_le_mul_right _ hle3
   refine ⟨_, Sim.hide h hj (by rw [hg]; rfl) s2 hw hb3 hk3 (by rw [hg3]; rfl) (k' := ⟨k3.c, some (sz, n3 * sz, cap3 * sz)⟩) rfl (no := .cells new (.more sz)) ?_,
    VR.sliceM (k := ⟨k3.c, some (sz, n3 * sz, cap3 * sz)⟩) (Inj.set_eq _ _ _) rfl rfl rfl (Nat.le_refl _) hle3⟩
   intro o' ho'
   rw [hsame ho', hsize.2.1]
   refine ⟨⟨by rw [hn, hsize.1], hles, rfl, hsz, hsize.2.2⟩, fun i v hi => ?_⟩
   obtain ⟨v', h3, h4⟩ := hor3.2 i v (by rw [List.getElem?_append_left (List.getElem?_eq_some_iff.1 hi).1]; exact hi)
   have hpv := List.all_eq_true.1 hpn v (List.mem_of_getElem? hi)
   have := plain1_eq hpv h4
   subst this
   exact ⟨_, h3, .plain1 hpv⟩
  | _ => exact hor3.elim
 cases hv with
 | slice hj3 hm3 =>
  rename_i k3
  rcases htag with ⟨rfl, h1⟩ | ⟨rfl, _, _⟩
  ·exact key hj3 (.inl ⟨h1, rfl⟩) hnc
  ·have h2 := s2.mr.kindOf hj3 hg3
   simp only at h2
   obtain ⟨_, h2, _⟩ := h2
   rw [hm3] at h2; cases h2
 | sliceM hj3 hm3 f1 f2 hl3 hc3 =>
  rcases htag with ⟨rfl, h1⟩ | ⟨rfl, rfl, rfl⟩
  ·have := s2.mr.kindOf hj3 hg3
   simp only at this
   rw [hm3] at this; cases this
  ·have h2 := s2.mr.kindOf hj3 hg3
   simp only at h2
   obtain ⟨_, h2, _⟩ := h2
   rw [hm3] at h2
   simp only [Option.some.injEq, Prod.mk.injEq] at h2
   obtain ⟨rfl, h2, rfl⟩ := h2
   rw [List.append_nil] at h2
   exact key hj3 (.inr ⟨⟨_, by rw [hm3, h2], by omega⟩, rfl, rfl⟩) (by omega)
end
end Go.Ab
end

section
namespace Go.Ab
open Go
section
variable {E : Env} {j : Inj} {m : AMem} {w : World}
theorem VR.at {b o l c : Nat} {v' : Value} (h : VR j (.slice (some ⟨b, o, none⟩) l c) v') : ∃ k c', j b = some k ∧ v' = .slice (some ⟨k.c, o, none⟩) l c' := by
 cases h with
 | slice hj hm => exact ⟨_, _, hj, rfl⟩
 | sliceM hj hm _ _ _ _ => exact ⟨_, _, hj, rfl⟩
theorem MR.warm (h : MR E j m w) {b : Nat} {k : Blk} (hk : j b = some k) {cs : List Value} {tag : Tag} (hg : m.get b = some (.cells cs tag)) (ht : tag ≠ .ro) :
  ∃ c e, w.heap[k.c]? = some (.cells c e (0, 0)) ∧ cs.length ≤ c.size := by
 obtain ⟨c, e, fz, h1, h2, _⟩ := h.cellsAt hk hg
 cases tag with
 | ro => exact absurd rfl ht
 | own =>
  obtain ⟨_, h4, rfl⟩ : k.more = none ∧ c.size = cs.length ∧ fz = (0, 0) := h2
  exact ⟨c, e, h1, by omega⟩
 | more sz =>
  obtain ⟨_, h4, rfl, _⟩ : k.more = some (sz, cs.length, c.size) ∧ cs.length ≤ c.size ∧ fz = (0, 0) ∧ 0 < sz ∧ restOk cs.length c := h2
  exact ⟨c, e, h1, h4⟩
theorem callOk_apart {f : FuncId} {fn : Func} {tS tR e : TypeId} (hf : E.P.funcs[f]? = some fn) (hname : (fn.name == "runtime.NumGoroutine") = false) (hb : fn.body.isNone = true) (hn : Extern.findNext fn = none)
  (he : Extern.find fn = some (Extern.SlicesOverlaps.overlaps #[tS, tS] #[tR])) (hu : E.P.underlying tS = some (.slice e)) (hk : known E.P e = true) (hpr : (E.prim f).isSome = true)
  {ba oa la ca bb ob lb cb : Nat} {csa csb : List Value} {ta tb : Tag} (hga : m.get ba = some (.cells csa ta)) (hta : ta ≠ .ro) (hgb : m.get bb = some (.cells csb tb)) (htb : tb ≠ .ro) (hne : ba ≠ bb) (h0 : csb ≠ [])
  {args' : List Value} (h : MR E j m w) (hl : LR j [.slice (some ⟨ba, oa, none⟩) la ca, .slice (some ⟨bb, ob, none⟩) lb cb] args') :
  CallOk E.P (E.prim f).isSome f args'.toArray w (ValQ E j m w (.bool false) m) := by
 obtain ⟨v1, vs, rfl, hv1, hvs⟩ := hl.cons_inv
 obtain ⟨v2, vs2, rfl, hv2, hvs2⟩ := hvs.cons_inv
 obtain rfl := hvs2.nil_inv
 obtain ⟨ka, ca', hja, rfl⟩ := hv1.at
 obtain ⟨kb, cb', hjb, rfl⟩ := hv2.at
 obtain ⟨c1, e1, g1, _⟩ := h.warm hja hga hta
 obtain ⟨c2, e2, g2, s2⟩ := h.warm hjb hgb htb
 have hcne : ka.c ≠ kb.c := fun e => hne (h.inj ba bb ka kb hja hjb (by rw [hga]; rfl) (by rw [hgb]; rfl) e)
 have hpos : 0 < csb.length := List.length_pos_iff.2 h0
 have hrun := Lib.run_overlaps_apart (P := E.P) w tS tR e hu (sizeA E.P e) (fun w => r_size hk w) ⟨ka.c, oa, none⟩ ⟨kb.c, ob, none⟩ la ca' lb cb' hcne e1 e2 c1.size c2.size
  (by simp only [World.shape?, g1]) (by simp only [World.shape?, g2]) (by omega) (by simp only [World.frozen?, g1]; simp) (by simp only [World.frozen?, g1]; simp)
 refine .inr ⟨hpr, .bool false, w, ?_, j, .refl h, .bool false⟩
 rw [run_callFunc_extern hf hname hb hn he]
 show ((Extern.SlicesOverlaps.overlaps #[tS, tS] #[tR] #[.slice (some ⟨ka.c, oa, none⟩) la ca', .slice (some ⟨kb.c, ob, none⟩) lb cb']).run E.P w).andThen _ = _
 rw [hrun]
 rfl
end
end Go.Ab
end

section
namespace Go.Ab.W
open Go Go.Ab
set_option maxRecDepth 10000
attribute [local irreducible] Tm.at Trie.set Trie.get AMem.get AMem.set AMem.alloc AMem.ww
theorem pset_self (ps : List Pc) : ∀ (k : Nat) (p : Pc), pk ps k = some p → pset ps k p = ps := by
 induction ps with
 | nil => intro k p h; exact nomatch h
 | cons q l ih =>
  intro k p h
  cases k with
  | zero => rw [pk_zero] at h; cases h; rfl
  | succ k => rw [pk_succ] at h; simp only [pset, ih k p h]
section
variable {E : Env} {n : Nat} {m0 : AMem} {fs : Fs} {ps : List Pc} {x y z : Operand} {v : Value} {ty ty2 : TypeId}
theorem o_slo {elem lo hi mx b o len cap w k : Nat} {cs : List Value} {tg : Tag} {lx hx kx : Option Operand} {l h q : Option Value} (ht : SlT E.P ty elem w) (hv : ev E fs x = some (.slice (some ⟨b, o, none⟩) len cap)) (e1 : evo E fs lx = some l) (e2 : evo E fs hx = some h) (e3 : evo E fs kx = some q)
  (hp : pk ps k = some (.obj b (.cells cs tg))) (htg : notMore tg = true) (hb : boundsA len cap l h q = some (lo, hi, mx)) {o' : Nat} (ho : o' = if mx = lo then o else o + lo * w) :
  Od E m0 fs ps (.slice ty x lx hx kx) (.slice (some ⟨b, o', none⟩) (hi - lo) (mx - lo)) ps :=
 fun t m hf hm => ⟨fun b' hb' => by
  have : blockOf (.slice (some ⟨b, o, none⟩) len cap) = some b := rfl
  simp only [readsAt, hf.ev hv, Option.bind_some, this] at hb'
  cases hb'; exact (hm.get hp).2.1, fun K hK => by
  have hg := (hm.get hp).2.2
  have hs : sliceA E.P ty (.slice (some ⟨b, o, none⟩) len cap) l h q m = some (.slice (some ⟨b, o', none⟩) (hi - lo) (mx - lo)) := by
   subst ho
   cases tg with
   | more s => cases htg
   | ro => simp only [sliceA, ht.und, ht.known, if_true, hg, hb, ht.size]; split <;> rfl
   | own => simp only [sliceA, ht.und, ht.known, if_true, hg, hb, ht.size]; split <;> rfl
  rw [Go.Ab.o_slice (hf.ev hv) (hf.evo e1) (hf.evo e2) (hf.evo e3) hs]; exact hK m hm⟩
theorem o_cap {elem b o len cap k : Nat} {cs : List Value} {tg : Tag} {ars : Array Operand} (hu : E.P.underlying ty = some (.slice elem)) (ha : evs E fs ars.toList = some [.slice (some ⟨b, o, none⟩) len cap]) (hp : pk ps k = some (.obj b (.cells cs tg))) (htg : notMore tg = true) :
  Od E m0 fs ps (.call ⟨.builtin .cap, ars, #[ty]⟩) (.int .i64 (cap : Int)) ps :=
 fun t m hf hm => ⟨fun b' hb' => by
  simp only [readsAt, hf.evs ha] at hb'
  have : blockOf (.slice (some ⟨b, o, none⟩) len cap) = some b := rfl
  rw [this] at hb'
  cases hb'; exact (hm.get hp).2.1, fun K hK => by
  have hg := (hm.get hp).2.2
  have : builtinA E.P .cap #[ty] [.slice (some ⟨b, o, none⟩) len cap] m = some (.int .i64 (cap : Int), m) := by
   have ht : (#[ty] : Array TypeId)[0]? = some ty := rfl
   cases tg with
   | more s => cases htg
   | ro => simp only [builtinA, ht, Option.bind_some, hu, hg]
   | own => simp only [builtinA, ht, Option.bind_some, hu, hg]
  rw [Go.Ab.o_builtin (hf.evs ha) this]; exact hK m hm⟩
theorem o_cpo {elem w b o dl dc l c k : Nat} {a : Option Addr} {cs new : List Value} {tg : Tag} {ars : Array Operand} (ht : SlT E.P ty elem w) (ha : evs E fs ars.toList = some [.slice (some ⟨b, o, none⟩) dl dc, .slice a l c]) (hp : pk ps k = some (.obj b (.cells cs tg))) (htg : notRo tg = true)
  (hn : min l dl ≠ 0) (hs : ∀ m, Hp m0 m ps → srcCells w (.slice a l c) (min l dl) m = some new) (ho : oneCellAll new = true) (hl : o + new.length ≤ cs.length) (h0 : new ≠ []) :
  Od E m0 fs ps (.call ⟨.builtin .copy, ars, #[ty, ty2]⟩) (.int .i64 ((min l dl : Nat) : Int)) (pset ps k (.obj b (.cells (spliceL cs o new) tg))) :=
 fun t m hf hm => ⟨fun b' hb' => by simp [readsAt] at hb', fun K hK => by
  have hg := (hm.get hp).2.2
  have hst : m.storeN b o new = some (m.set b (.cells (spliceL cs o new) tg)) := by
   cases new with
   | nil => exact absurd rfl h0
   | cons a' new =>
    cases tg with
    | ro => cases htg
    | own => simp only [AMem.storeN, hg, if_pos hl]
    | more s => simp only [AMem.storeN, hg, if_pos hl]
  obtain ⟨q, hq⟩ := Nat.exists_eq_succ_of_ne_zero hn
  have : builtinA E.P .copy #[ty, ty2] [.slice (some ⟨b, o, none⟩) dl dc, .slice a l c] m = some (.int .i64 ((min l dl : Nat) : Int), m.set b (.cells (spliceL cs o new) tg)) := by
   have hty : (#[ty, ty2] : Array TypeId)[0]? = some ty := rfl
   have hsm := hs m hm
   simp only [builtinA, hty, copyA, ht.und, ht.known, Bool.not_true, Bool.false_eq_true, if_false, ht.size, hsm, ho]
   rw [hq]
   simp only [hst, Option.map_some]
  rw [Go.Ab.o_builtin (hf.evs ha) this]
  exact hK _ (hm.write hp rfl rfl rfl rfl ⟨(hm.get hp).1, by rw [AMem.next_set]; exact (hm.get hp).2.1, by rw [AMem.get_set, if_pos rfl]⟩)⟩
theorem src_obj {m : AMem} {b o l c w q k : Nat} {cs : List Value} {tg : Tag} (hm : Hp m0 m ps) (hp : pk ps k = some (.obj b (.cells cs tg))) (h0 : q ≠ 0) (hl : o + q * w ≤ cs.length) : srcCells w (.slice (some ⟨b, o, none⟩) l c) q m = some ((cs.drop o).take (q * w)) := by
 have hg := (hm.get hp).2.2
 have h1 : ((cs.drop o).take (q * w)).length = q * w := by simp; omega
 simp only [srcCells, if_neg h0, AMem.loadN, hg, if_pos h1]
theorem o_clo {elem w b o l c k : Nat} {cs zs : List Value} {tg : Tag} {ars : Array Operand} (ht : SlT E.P ty elem w) (ha : evs E fs ars.toList = some [.slice (some ⟨b, o, none⟩) l c]) (hp : pk ps k = some (.obj b (.cells cs tg))) (htg : notRo tg = true)
  (h0 : l ≠ 0) (hz : zerosA E.P elem l = some zs) (hzp : zs.all plain1 = true) (hne : zs ≠ []) (hl : o + zs.length ≤ cs.length) :
  Od E m0 fs ps (.call ⟨.builtin .clear, ars, #[ty]⟩) undef (pset ps k (.obj b (.cells (spliceL cs o zs) tg))) :=
 fun t m hf hm => ⟨fun b' hb' => by simp [readsAt] at hb', fun K hK => by
  have hg := (hm.get hp).2.2
  have hst : m.storeN b o zs = some (m.set b (.cells (spliceL cs o zs) tg)) := by
   cases zs with
   | nil => exact absurd rfl hne
   | cons a' new =>
    cases tg with
    | ro => cases htg
    | own => simp only [AMem.storeN, hg, if_pos hl]
    | more s => simp only [AMem.storeN, hg, if_pos hl]
  obtain ⟨q, rfl⟩ := Nat.exists_eq_succ_of_ne_zero h0
  have : builtinA E.P .clear #[ty] [.slice (some ⟨b, o, none⟩) (q + 1) c] m = some (undef, m.set b (.cells (spliceL cs o zs) tg)) := by
   have hty : (#[ty] : Array TypeId)[0]? = some ty := rfl
   simp only [builtinA, hty, clearA, ht.und, hz, hzp, if_true, hst, Option.map_some]
   rfl
  rw [Go.Ab.o_builtin (hf.evs ha) this]
  exact hK _ (hm.write hp rfl rfl rfl rfl ⟨(hm.get hp).1, by rw [AMem.next_set]; exact (hm.get hp).2.1, by rw [AMem.get_set, if_pos rfl]⟩)⟩
theorem o_api {elem w b o len cap l2 c2 k : Nat} {a2 : Option Addr} {cs new : List Value} {ars : Array Operand} (ht : SlT E.P ty elem w) (ht2 : ∃ e2, E.P.underlying ty2 = some (.slice e2)) (ha : evs E fs ars.toList = some [.slice (some ⟨b, o, none⟩) len cap, .slice a2 l2 c2]) (hp : pk ps k = some (.obj b (.cells cs .own)))
  (hs : ∀ m, Hp m0 m ps → srcCells w (.slice a2 l2 c2) l2 m = some new) (hnl : new.length = l2 * w) (ho : oneCellAll new = true) (hlim : lim (len + l2) = true) (hfit : len + l2 ≤ cap) (hl : o + len * w + new.length ≤ cs.length) :
  Od E m0 fs ps (.call ⟨.builtin .append, ars, #[ty, ty2]⟩) (.slice (some ⟨b, o, none⟩) (len + l2) cap) (pset ps k (.obj b (.cells (spliceL cs (o + len * w) new) .own))) :=
 fun t m hf hm => ⟨fun b' hb' => by simp [readsAt] at hb', fun K hK => by
  have hg := (hm.get hp).2.2
  obtain ⟨e2, ht2⟩ := ht2
  obtain ⟨inf, hi1, hi2, hi3⟩ := ht.bytes
  have hlim' : len + l2 ≤ 1073741824 := Nat.le_of_ble_eq_true hlim
  have hfc : fitsCap inf.bytes (len + l2) = true := by
   simp only [fitsCap, decide_eq_true_eq]
   calc (2 * (len + l2) + 2000) * inf.bytes ≤ (2 * 1073741824 + 2000) * 1024 := Nat.mul_le_mul (by omega) hi3
    _ ≤ 2 ^ 48 := by decide
  have hguard : (!(known E.P elem) || sizeA E.P elem == 0 || !oneCellAll new || !(E.P.info? elem).any (fun i => fitsCap i.bytes (len + l2) && i.bytes != 0) || new.length != l2 * sizeA E.P elem || !(zeroA E.P elem).any (fun z => z.cells.size == sizeA E.P elem && z.cells.toList.all plain1)) = false := by
   have hz := ht.zero
   have hp := ht.pos
   rw [ht.size]
   simp only [ht.known, ho, hi1, Option.any_some, hfc, hz, hnl]
   simp [hi2]; omega
  have hnc : newCells E.P elem (some ty2) (.slice a2 l2 c2) m = some (l2, new) := by
   simp only [newCells, Option.bind_some, ht2, ht.size, hs m hm, Option.map_some]
  by_cases hnil : new = []
  ·subst hnil
   have hsp : spliceL cs (o + len * w) [] = cs := by
    apply List.ext_getElem?
    intro i
    rw [getElem?_spliceL, if_neg (by simp; omega)]
   have : builtinA E.P .append #[ty, ty2] [.slice (some ⟨b, o, none⟩) len cap, .slice a2 l2 c2] m = some (.slice (some ⟨b, o, none⟩) (len + l2) cap, m) := by
    show appendA E.P ty (some ty2) _ _ m = _
    unfold appendA
    simp only [ht.und, hnc, hguard, Bool.false_eq_true, if_false, hg, if_pos hfit, AMem.storeN, Option.map_some]
   rw [Go.Ab.o_builtin (hf.evs ha) this]
   refine hK _ ?_
   rw [hsp]
   have e : pset ps k (.obj b (.cells cs .own)) = ps := pset_self _ _ _ hp
   rw [e]; exact hm
  ·have hst : m.storeN b (o + len * w) new = some (m.set b (.cells (spliceL cs (o + len * w) new) .own)) := by
    cases new with
    | nil => exact absurd rfl hnil
    | cons a' new => simp only [AMem.storeN, hg, if_pos hl]
   have hst2 : m.storeN b (o + len * sizeA E.P elem) new = some (m.set b (.cells (spliceL cs (o + len * w) new) .own)) := by rw [ht.size]; exact hst
   have : builtinA E.P .append #[ty, ty2] [.slice (some ⟨b, o, none⟩) len cap, .slice a2 l2 c2] m = some (.slice (some ⟨b, o, none⟩) (len + l2) cap, m.set b (.cells (spliceL cs (o + len * w) new) .own)) := by
    show appendA E.P ty (some ty2) _ _ m = _
    unfold appendA
    simp only [ht.und, hnc, hguard, Bool.false_eq_true, if_false, hg, if_pos hfit, hst2, Option.map_some]
   rw [Go.Ab.o_builtin (hf.evs ha) this]
   exact hK _ (hm.write hp rfl rfl rfl rfl ⟨(hm.get hp).1, by rw [AMem.next_set]; exact (hm.get hp).2.1, by rw [AMem.get_set, if_pos rfl]⟩)⟩
theorem o_apg {elem w b o len cap l2 k : Nat} {xv : Value} {cs new : List Value} {ars : Array Operand} (ht : SlT E.P ty elem w) (ha : evs E fs ars.toList = some [.slice (some ⟨b, o, none⟩) len cap, xv]) (hp : pk ps k = some (.obj b (.cells cs .own)))
  (hnc : ∀ m, Hp m0 m ps → newCells E.P elem (some ty2) xv m = some (l2, new)) (hnl : new.length = l2 * w) (ho : oneCellAll new = true) (hlim : lim (len + l2) = true) (hfit : ¬ len + l2 ≤ cap) (hl : o + len * w ≤ cs.length) :
  Ox E m0 fs ps (.call ⟨.builtin .append, ars, #[ty, ty2]⟩) (fun b' => .slice (some ⟨b', 0, none⟩) (len + l2) (len + l2)) (fun b' => .obj b' (.cells ((cs.drop o).take (len * w) ++ new) (.more w)) :: ps) :=
 fun t m hf hm => ⟨fun b' hb' => by simp [readsAt] at hb', fun K hK => by
  have hg := (hm.get hp).2.2
  obtain ⟨inf, hi1, hi2, hi3⟩ := ht.bytes
  have hlim' : len + l2 ≤ 1073741824 := Nat.le_of_ble_eq_true hlim
  have hfc : fitsCap inf.bytes (len + l2) = true := by
   simp only [fitsCap, decide_eq_true_eq]
   calc (2 * (len + l2) + 2000) * inf.bytes ≤ (2 * 1073741824 + 2000) * 1024 := Nat.mul_le_mul (by omega) hi3
    _ ≤ 2 ^ 48 := by decide
  have hguard : (!(known E.P elem) || sizeA E.P elem == 0 || !oneCellAll new || !(E.P.info? elem).any (fun i => fitsCap i.bytes (len + l2) && i.bytes != 0) || new.length != l2 * sizeA E.P elem || !(zeroA E.P elem).any (fun z => z.cells.size == sizeA E.P elem && z.cells.toList.all plain1)) = false := by
   have hz := ht.zero
   have hp := ht.pos
   rw [ht.size]
   simp only [ht.known, ho, hi1, Option.any_some, hfc, hz, hnl]
   simp [hi2]; omega
  have hld : m.loadN b o (len * sizeA E.P elem) = some ((cs.drop o).take (len * w)) := by
   rw [ht.size]
   simp only [AMem.loadN, hg]
   rw [if_pos (by simp; omega)]
  have : builtinA E.P .append #[ty, ty2] [.slice (some ⟨b, o, none⟩) len cap, xv] m = some (.slice (some ⟨m.next, 0, none⟩) (len + l2) (len + l2), m.alloc (.cells ((cs.drop o).take (len * w) ++ new) (.more (sizeA E.P elem)))) := by
   show appendA E.P ty (some ty2) _ _ m = _
   unfold appendA
   simp only [ht.und, hnc m hm, hguard, Bool.false_eq_true, if_false, hg, if_neg hfit, hld]
  rw [Go.Ab.o_builtin (hf.evs ha) this, ht.size]
  refine hK m.next _ (hm.cons (by rw [AMem.next_alloc]; omega) (hm.ext.alloc _) (fun b hlt => by rw [AMem.get_alloc, if_neg (by omega)]) ⟨hm.ext.next, by rw [AMem.next_alloc]; omega, by rw [AMem.get_alloc, if_pos rfl]⟩ fun b' h' => ?_)
  cases h'; exact Nat.le_refl _⟩
end
end Go.Ab.W
end

section
namespace Go.Proofs.YtpclggcpobakhaaDoor
open Go.ChangeShapes Go.WideShapes Go.ChangeAt Go.WideMaps Go.WideElems Go.RowKit Go.Ab
theorem own18 : ownKnob Tryd.prog.godebug = none := by kernel_rfl
theorem gTab : Tryd.prog.globalNamed "math/bits.deBruijn64tab" = some 0 := by kernel_rfl
def tabInts : List Int := [0, 1, 56, 2, 57, 49, 28, 3, 61, 58, 42, 50, 38, 29, 17, 4, 62, 47, 59, 36, 45, 43, 51, 22, 53, 39, 33, 30, 24, 18, 12, 5, 63, 55, 48, 27, 60, 41, 37, 16, 46, 35, 44, 21, 52, 32, 23, 11, 54, 26, 40, 15, 34, 20, 31, 10, 25, 14, 19, 9, 13, 8, 7, 6]
abbrev laid18 : List (String × DataW Unit) := [("math/bits.deBruijn64tab", Rows.laid_math_bits_deBruijn64tab)]
def tab18 : Nat → Option (List Value) := fun b => if b = 0 then some (tabInts.map (.int .u8)) else none
def m18 : AMem := memG 1 tab18
noncomputable def E18 : Env := { P := Tryd.prog, glob := 1, prim := fun _ => none }
theorem progOk18 : progOk Tryd.prog = true := by kernel_rfl
theorem E18ok : EnvOk E18 := envOk_of progOk18 (fun f p h => by cases h)
theorem door_met18 (os : Os) (args : Array Value) : laidMetH Tryd.prog laid18 ((World.doorLaid Tryd.prog 400 os).forCall (fun _ _ => 0) ⟨#[], args, []⟩).memory :=
 laidMetH_of_parts3 (fuel := 8) (laidMet_of_run' 8 (by kernel_rfl) (by kernel_rfl)) (by kernel_rfl) (by kernel_rfl)
end Go.Proofs.YtpclggcpobakhaaDoor
end

section
namespace Go.Proofs.YtpclggcpobakhaaDoor
open Go Go.Ab Go.Ab.W
set_option maxRecDepth 10000
def ovRun (args : List Value) (m : AMem) : Option (Value × AMem) :=
 match args with
 | [.slice (some ⟨ba, _, none⟩) _ _, .slice (some ⟨bb, _, none⟩) _ _] =>
  match m.get ba, m.get bb with
  | some (.cells _ ta), some (.cells csb tb) => if notRo ta && notRo tb && decide (ba ≠ bb) && !csb.isEmpty then some (.bool false, m) else none
  | _, _ => none
 | _ => none
noncomputable def E18o : Env := { E18 with prim := fun f => if f = 95 then some ⟨ovRun⟩ else none }
theorem notRo_ne {t : Tag} (h : notRo t = true) : t ≠ .ro := fun e => by rw [e] at h; cases h
theorem E18o_ok : EnvOk E18o := envOk_of progOk18 fun f p hp args m v m' hrun j w args' hm hl => by
 have hf95 : f = 95 := by
  by_cases h : f = 95
  ·exact h
  ·have : (none : Option Prim) = some p := by rw [← hp]; show _ = (if f = 95 then some _ else none); rw [if_neg h]
   cases this
 subst hf95
 have hpe : p = ⟨ovRun⟩ := by
  have : some (⟨ovRun⟩ : Prim) = some p := hp
  cases this; rfl
 subst hpe
 have hrun' : ovRun args m = some (v, m') := hrun
 unfold ovRun at hrun'
 split at hrun'
 ·rename_i ba oa la ca bb ob lb cb
  split at hrun'
  ·rename_i csa ta csb tb hga hgb
   split at hrun'
   ·rename_i hc
    cases hrun'
    simp only [Bool.and_eq_true, decide_eq_true_eq, Bool.not_eq_true'] at hc
    obtain ⟨⟨⟨h1, h2⟩, h3⟩, h4⟩ := hc
    exact callOk_apart (E := E18o) (tS := 23) (tR := 4) (e := 26) Tryd.func95 (by kernel_rfl) (by kernel_rfl) (by kernel_rfl) (by kernel_rfl) (by kernel_rfl) (by kernel_rfl) rfl hga (notRo_ne h1) hgb (notRo_ne h2) h3 (fun e => by rw [e] at h4; cases h4) hm hl
   ·cases hrun'
  ·cases hrun'
 ·cases hrun'
end Go.Proofs.YtpclggcpobakhaaDoor
end

section
namespace Go.Proofs.YtpclggcpobakhaaDoor
open Go Go.Ab Go.Ab.W
set_option maxRecDepth 10000
set_option maxHeartbeats 4000000
attribute [local irreducible] Tm.at Trie.set Trie.get AMem.get AMem.set AMem.alloc AMem.ww AMem.kill
theorem ns23 : SlT E18o.P 23 26 2 := SlT.of (by kernel_rfl)
theorem nu23 : E18o.P.underlying 23 = some (.slice 26) := by kernel_rfl
theorem bA (k : IntKind) {x y : Nat} (h : x ≤ y) : boundA (.int k (x : Int)) y = some x := by
 simp only [boundA]; rw [if_pos ⟨by omega, by omega⟩, Int.toNat_natCast]
theorem bnd3 {len cap lo hi mx : Nat} {k1 k2 k3 : IntKind} (h1 : lo ≤ hi) (h2 : hi ≤ mx) (h3 : mx ≤ cap) : boundsA len cap (some (.int k1 (lo : Int))) (some (.int k2 (hi : Int))) (some (.int k3 (mx : Int))) = some (lo, hi, mx) := by
 unfold boundsA; simp only [bA _ h3, bA _ h2, bA _ h1]
theorem bndh {len cap hi : Nat} {k2 : IntKind} (h2 : hi ≤ cap) : boundsA len cap none (some (.int k2 (hi : Int))) none = some (0, hi, cap) := by
 unfold boundsA; simp only [bA _ h2]
theorem bndl {len cap lo : Nat} {k1 : IntKind} (h1 : lo ≤ len) : boundsA len cap (some (.int k1 (lo : Int))) none none = some (lo, len, cap) := by
 unfold boundsA; simp only [bA _ h1]
theorem bndlh {len cap lo hi : Nat} {k1 k2 : IntKind} (h1 : lo ≤ hi) (h2 : hi ≤ cap) : boundsA len cap (some (.int k1 (lo : Int))) (some (.int k2 (hi : Int))) none = some (lo, hi, cap) := by
 unfold boundsA; simp only [bA _ h2, bA _ h1]
theorem shown_hp {m : AMem} {b : Nat} {all : List Value} : Hp { m.kill b with wl := m.next } { (m.kill b).alloc (.cells all .own) with wl := m.next } [.obj m.next (.cells all .own)] := by
 have hg : ∀ x, ({ (m.kill b).alloc (.cells all .own) with wl := m.next } : AMem).get x = ((m.kill b).alloc (.cells all .own)).get x := fun x => by unfold AMem.get; rfl
 have hg0 : ∀ x, ({ m.kill b with wl := m.next } : AMem).get x = (m.kill b).get x := fun x => by unfold AMem.get; rfl
 have hn : ({ (m.kill b).alloc (.cells all .own) with wl := m.next } : AMem).next = m.next + 1 := by
  show ((m.kill b).alloc (.cells all .own)).next = _
  rw [AMem.next_alloc, AMem.next_kill]
 have hn0 : ({ m.kill b with wl := m.next } : AMem).next = m.next := by show (m.kill b).next = _; rw [AMem.next_kill]
 refine ⟨⟨by rw [hn, hn0]; omega, fun x hx => ?_, by rw [hn0]; exact Nat.min_le_left _ _⟩, fun p hp => ?_, by simp⟩
 ·rw [hn0] at hx
  rw [hg, hg0, AMem.get_alloc, AMem.next_kill, if_neg (by omega)]
 ·rw [List.mem_singleton] at hp
  subst hp
  exact ⟨by rw [hn0]; omega, by rw [hn]; omega, by rw [hg, AMem.get_alloc, AMem.next_kill, if_pos rfl]⟩
theorem lim_le {a b : Nat} (h : lim a = true) (hb : b ≤ a) : lim b = true := Nat.ble_eq_true_of_le (Nat.le_trans hb (Nat.le_of_ble_eq_true h))
theorem oneCell_sub {l l' : List Value} (h : oneCellAll l = true) (hs : ∀ v ∈ l', v ∈ l) : oneCellAll l' = true := List.all_eq_true.2 fun v hv => List.all_eq_true.1 h v (hs v hv)
theorem nz26 {n : Nat} : zerosA E18o.P 26 n = some (repeatL [.int .i64 0, .int .i64 0] n) := by
 have : zeroA E18o.P 26 = some (.agg #[.int .i64 0, .int .i64 0]) := by kernel_rfl
 have hs : sizeA E18o.P 26 = 2 := by kernel_rfl
 simp only [zerosA, this, hs]; rfl
theorem oneCell_plain {l : List Value} (h : l.all plain1 = true) : oneCellAll l = true := List.all_eq_true.2 fun v hv => by
 have := List.all_eq_true.1 h v hv
 unfold plain1 at this
 split at this <;> first | rfl | cases this
theorem plain_splice {cs vs : List Value} {o : Nat} (h : cs.all plain1 = true) (h' : vs.all plain1 = true) : (spliceL cs o vs).all plain1 = true := List.all_eq_true.2 fun v hv => by
 obtain ⟨k, hk⟩ := List.mem_iff_getElem?.1 hv
 rw [getElem?_spliceL] at hk
 split at hk
 ·exact List.all_eq_true.1 h' v (List.mem_of_getElem? hk)
 ·exact List.all_eq_true.1 h v (List.mem_of_getElem? hk)
theorem plain_sub {l l' : List Value} (h : l.all plain1 = true) (hs : ∀ v ∈ l', v ∈ l) : l'.all plain1 = true := List.all_eq_true.2 fun v hv => List.all_eq_true.1 h v (hs v hv)
theorem take_splice {cs new zs : List Value} {p q : Nat} (hq : q = p + new.length) (hl : q ≤ cs.length) : (spliceL (spliceL cs p new) q zs).take q = cs.take p ++ new := by
 apply List.ext_getElem?
 intro k
 have hp : (cs.take p).length = p := by rw [List.length_take]; omega
 rw [List.getElem?_take]
 split
 ·rw [getElem?_spliceL, if_neg (by omega), getElem?_spliceL]
  by_cases hk : k < p
  ·rw [if_neg (by omega), List.getElem?_append_left (by rw [hp]; exact hk), List.getElem?_take, if_pos hk]
  ·rw [if_pos ⟨by omega, by omega, by omega⟩, List.getElem?_append_right (by rw [hp]; omega), hp]
 ·rw [List.getElem?_eq_none (by rw [List.length_append, hp]; omega)]
theorem del_walk {m0 m : AMem} {b n c i j : Nat} {cs : List Value} (hm : Hp m0 m [.obj b (.cells cs .own)]) (hcl : n * 2 ≤ cs.length) (hone : oneCellAll cs = true) (hnc : n ≤ c) (hij : i < j) (hjn : j ≤ n) (hlim : lim n = true) :
  CallA E18o 49 [.slice (some ⟨b, 0, none⟩) n c, .int .i64 (i : Int), .int .i64 (j : Int)] m fun v m' => v = .slice (some ⟨b, 0, none⟩) (n - (j - i)) c ∧
   ∃ cs', Hp m0 m' [.obj b (.cells cs' .own)] ∧ cs'.length = cs.length ∧ (cs.all plain1 = true → cs'.all plain1 = true) ∧ cs'.take ((n - (j - i)) * 2) = cs.take (i * 2) ++ (cs.drop (j * 2)).take ((n - j) * 2) := by
 refine call_wk (m0 := m0) (ps := [.obj b (.cells cs .own)]) (N := 33) (rs := [.tmp 6]) rfl Tryd.func49 rfl rfl rfl hm ?_
 refine Wk.seq ?_
 refine Wk.region ?_
 refine Wo.od (o_as rfl) rfl ?_
 refine Wo.nil ?_
 refine At.tn ?_
 refine Wk.seq ?_
 refine Wk.region ?_
 refine Wo.od (o_mv rfl) rfl ?_
 refine Wo.od (o_mv rfl) rfl ?_
 refine Wo.od (o_mv rfl) rfl ?_
 refine Wo.od (o_mv rfl) rfl ?_
 refine Wo.od (o_ln (k := 0) nu23 rfl rfl (.inl rfl)) rfl ?_
 refine Wo.od (o_slo (k := 0) ns23 rfl rfl rfl rfl rfl rfl (bnd3 (Nat.le_of_lt hij) hjn hnc) rfl) rfl ?_
 refine Wo.nil ?_
 refine At.tn ?_
 refine Wk.seq ?_
 refine Wk.seq ?_
 refine Wk.region ?_
 refine Wo.od (o_mv rfl) rfl ?_
 refine Wo.od (o_mv rfl) rfl ?_
 refine Wo.od (o_bi rfl rfl (ub_eql _ _)) rfl ?_
 refine Wo.nil ?_
 refine At.tn ?_
 refine Wk.condF rfl (decide_eq_false (Nat.ne_of_lt hij)) ?_
 refine Wk.skip ?_
 refine At.tn ?_
 refine Wk.seq ?_
 refine Wk.region ?_
 refine Wo.od (o_mv rfl) rfl ?_
 refine Wo.od (o_ln (k := 0) nu23 rfl rfl (.inl rfl)) rfl ?_
 refine Wo.od (o_as rfl) rfl ?_
 refine Wo.nil ?_
 refine At.tn ?_
 refine Wk.seq ?_
 refine Wk.draw (by kernel_rfl) ?_
 refine Wo.od (o_mv rfl) rfl ?_
 refine Wo.od (o_mv rfl) rfl ?_
 refine Wo.od (o_slo (k := 0) (o' := 0) ns23 rfl rfl rfl rfl rfl rfl (bndh (by omega)) (by split <;> simp)) rfl ?_
 refine Wo.od (o_mv rfl) rfl ?_
 refine Wo.od (o_mv rfl) rfl ?_
 refine Wo.od (o_slo (k := 0) (o' := if c = j then 0 else 0 + j * 2) ns23 rfl rfl rfl rfl rfl rfl (bndl hjn) rfl) rfl ?_
 have hnl : ((cs.drop (j * 2)).take ((n - j) * 2)).length = (n - j) * 2 := by simp; omega
 have hs : ∀ m, Hp m0 m [.obj b (.cells cs .own)] → srcCells 2 (.slice (some ⟨b, if c = j then 0 else 0 + j * 2, none⟩) (n - j) (c - j)) (n - j) m = some ((cs.drop (j * 2)).take ((n - j) * 2)) := by
  intro m' hm'
  by_cases h0 : n - j = 0
  ·simp [srcCells, h0]
  ·rw [if_neg (by omega), src_obj (k := 0) hm' rfl h0 (by omega), Nat.zero_add]
 have ho1 : oneCellAll ((cs.drop (j * 2)).take ((n - j) * 2)) = true := oneCell_sub hone fun v hv => List.mem_of_mem_drop (List.mem_of_mem_take hv)
 refine Wo.od (o_api (k := 0) ns23 ⟨_, nu23⟩ rfl rfl hs hnl ho1 (lim_le hlim (by omega)) (by omega) (by rw [hnl]; omega)) rfl ?_
 refine Wo.od (o_as rfl) rfl ?_
 refine Wo.nil ?_
 refine At.tn ?_
 refine Wk.seq ?_
 refine Wk.region ?_
 refine Wo.od (o_mv rfl) rfl ?_
 refine Wo.od (o_mv rfl) rfl ?_
 refine Wo.od (o_ln (k := 0) nu23 rfl rfl (.inl rfl)) rfl ?_
 refine Wo.od (o_mv rfl) rfl ?_
 refine Wo.od (o_slo (k := 0) (o' := 0 + (i - 0 + (n - j)) * 2) ns23 rfl rfl rfl rfl rfl rfl (bndlh (by omega) (by omega)) (by rw [if_neg (by omega)])) rfl ?_
 refine Wo.o0 (o_clo (k := 0) (zs := repeatL [.int .i64 0, .int .i64 0] (n - (i - 0 + (n - j)))) ns23 rfl rfl rfl (by omega) nz26 (repeatL_plain (by decide) _) (by intro e; have := congrArg List.length e; rw [length_repeatL] at this; simp at this; omega) (by rw [length_repeatL, length_spliceL]; simp; omega)) ?_
 refine Wo.nil ?_
 refine At.tn ?_
 refine Wk.seq ?_
 refine Wk.region ?_
 refine Wo.od (o_mv rfl) rfl ?_
 refine Wo.od (o_as rfl) rfl ?_
 refine Wo.nil ?_
 refine At.tn ?_
 refine Wk.ret ?_
 refine At.ret (.tmp rfl .nil) fun m' hm' => ⟨?_, _, hm', ?_, ?_, ?_⟩
 ·rw [show i - 0 + (n - j) = n - (j - i) by omega, Nat.sub_zero]; rfl
 ·rw [length_spliceL, length_spliceL]
 ·exact fun h => plain_splice (plain_splice h (plain_sub h fun v hv => List.mem_of_mem_drop (List.mem_of_mem_take hv))) (repeatL_plain (by decide) _)
 ·rw [show (n - (j - i)) * 2 = 0 + (i - 0 + (n - j)) * 2 by omega]
  rw [take_splice (by rw [hnl]; omega) (by omega), Nat.zero_add, Nat.sub_zero]
theorem del_meets {m : AMem} {b n i j : Nat} {cs : List Value} (hcl : cs.length = n * 2) (hp : cs.all plain1 = true) (hij : i < j) (hjn : j ≤ n) (hlim : lim n = true) :
  MeetsS E18o 49 m b 2 n cs [.int .i64 (i : Int), .int .i64 (j : Int)] (n - (j - i)) (cs.take (i * 2) ++ cs.drop (j * 2)) := by
 intro zs c hz hnc hcc
 have hall : (cs ++ zs).all plain1 = true := by rw [List.all_append, hp, hz]; rfl
 refine (del_walk (cs := cs ++ zs) shown_hp (by rw [List.length_append]; omega) (oneCell_plain hall) hnc hij hjn hlim).mono fun v m3 ⟨h1, cs', h2, h3, h5, h4⟩ => ?_
 have hn0 : ({ m.kill b with wl := m.next } : AMem).next = m.next := by show (m.kill b).next = _; rw [AMem.next_kill]
 have hwl := h2.ext.wl
 rw [hn0] at hwl
 have hwl' : m.next ≤ m3.wl := by rwa [Nat.min_eq_left (Nat.le_refl _)] at hwl
 have hget := (h2.get (k := 0) rfl).2.2
 have hnew : cs.take (i * 2) ++ cs.drop (j * 2) = cs'.take ((n - (j - i)) * 2) := by
  have e2 : (cs.drop (j * 2)).take ((n - j) * 2) = cs.drop (j * 2) := List.take_of_length_le (by rw [List.length_drop]; omega)
  rw [h4, List.take_append_of_le_length (by omega), List.drop_append_of_le_length (by omega), List.take_append_of_le_length (by rw [List.length_drop]; omega), e2]
 refine ⟨hwl', m.next, c, cs'.drop ((n - (j - i)) * 2), .own, h1, Nat.le_refl _, ?_, ?_, by omega, .inl ⟨rfl, ?_⟩⟩
 ·rw [hnew, List.take_append_drop]; exact hget
 ·exact plain_sub (h5 hall) fun v hv => List.mem_of_mem_drop hv
 ·rw [hnew, ← List.length_append, List.take_append_drop, h3, List.length_append]; omega
end Go.Proofs.YtpclggcpobakhaaDoor
end

section
namespace Go.Proofs.YtpclggcpobakhaaDoor
open Go Go.Ab Go.Ab.W
set_option maxRecDepth 10000
set_option maxHeartbeats 4000000
attribute [local irreducible] Tm.at Trie.set Trie.get AMem.get AMem.set AMem.alloc AMem.ww AMem.kill
theorem o_lnm {E : Env} {m0 : AMem} {fs : Fs} {ps : List Pc} {ty a o n cap elem : Nat} {ars : Array Operand} (hu : E.P.underlying ty = some (.slice elem)) (ha : evs E fs ars.toList = some [.slice (some ⟨a, o, none⟩) n cap]) (hlt : a < m0.next) :
  Od E m0 fs ps (.call ⟨.builtin .len, ars, #[ty]⟩) (.int .i64 (n : Int)) ps :=
 fun t m hf h => ⟨fun b hb' => by
  simp only [readsAt, hf.evs ha] at hb'
  have : blockOf (.slice (some ⟨a, o, none⟩) n cap) = some a := rfl
  rw [this] at hb'; cases hb'
  exact Nat.lt_of_lt_of_le hlt h.ext.next, fun K hK => by
  have : builtinA E.P .len #[ty] [.slice (some ⟨a, o, none⟩) n cap] m = some (.int .i64 (n : Int), m) := by
   have ht : (#[ty] : Array TypeId)[0]? = some ty := rfl
   simp only [builtinA, ht, Option.bind_some, hu]
  rw [Go.Ab.o_builtin (hf.evs ha) this]; exact hK m h⟩
theorem nsz26 : sizeA E18o.P 26 = 2 := by kernel_rfl
theorem n_add {P : Program} {ty : TypeId} {a b : Nat} (h : a + b ≤ 1073741824) : binA .add ty P (.int .i64 (a : Int)) (.int .i64 (b : Int)) = some (.int .i64 ((a + b : Nat) : Int)) := by
 rw [bin_add, IntWalk.i64_in _ (by omega)]; rfl
theorem n_sub {P : Program} {ty : TypeId} {a b : Nat} (h : b ≤ a) (h2 : a ≤ 1073741824) : binA .sub ty P (.int .i64 (a : Int)) (.int .i64 (b : Int)) = some (.int .i64 ((a - b : Nat) : Int)) := by
 rw [bin_sub, IntWalk.i64_in _ (by omega)]; congr 2; omega
theorem o_slm {E : Env} {m0 : AMem} {fs : Fs} {ps : List Pc} {x : Operand} {ty elem lo hi mx b o len cap w k : Nat} {cs : List Value} {lx hx : Option Operand} {l h : Option Value} (ht : SlT E.P ty elem w) (hv : ev E fs x = some (.slice (some ⟨b, o, none⟩) len cap)) (e1 : evo E fs lx = some l) (e2 : evo E fs hx = some h)
  (hp : pk ps k = some (.obj b (.cells cs (.more w)))) (hb : boundsA len cap l h none = some (lo, hi, mx)) (hne : cap ≠ lo) :
  Od E m0 fs ps (.slice ty x lx hx none) (.slice (some ⟨b, o + lo * w, none⟩) (hi - lo) (cap - lo)) ps :=
 fun t m hf hm => ⟨fun b' hb' => by
  have : blockOf (.slice (some ⟨b, o, none⟩) len cap) = some b := rfl
  simp only [readsAt, hf.ev hv, Option.bind_some, this] at hb'
  cases hb'; exact (hm.get hp).2.1, fun K hK => by
  have hg := (hm.get hp).2.2
  have hs : sliceA E.P ty (.slice (some ⟨b, o, none⟩) len cap) l h none m = some (.slice (some ⟨b, o + lo * w, none⟩) (hi - lo) (cap - lo)) := by
   simp only [sliceA, ht.und, ht.known, if_true, hg, hb, ht.size, ne_eq, not_true_eq_false, if_false, if_neg hne]
  rw [Go.Ab.o_slice (hf.ev hv) (hf.evo e1) (hf.evo e2) rfl hs]; exact hK m hm⟩
theorem nu3 : E18o.P.underlying 3 = some (.int .i64) := by kernel_rfl
theorem nzc {k : Nat} {m : AMem} (h : k ≤ 1073741824) : newCells E18o.P 26 (some 3) (.int .i64 (k : Int)) m = some (k, repeatL [.int .i64 0, .int .i64 0] k) := by
 simp only [newCells, Option.bind_some, nu3, Int.toNat_natCast, nz26]
 rw [if_pos (by omega), if_pos (repeatL_plain (by decide) _)]
theorem tk1 {cs V : List Value} {p q : Nat} (hq : q = p + V.length) (hl : q ≤ cs.length) : (spliceL cs p V).take q = cs.take p ++ V := by
 apply List.ext_getElem?
 intro k
 have hp : (cs.take p).length = p := by rw [List.length_take]; omega
 rw [List.getElem?_take]
 split
 ·rw [getElem?_spliceL]
  by_cases hk : k < p
  ·rw [if_neg (by omega), List.getElem?_append_left (by rw [hp]; exact hk), List.getElem?_take, if_pos hk]
  ·rw [if_pos ⟨by omega, by omega, by omega⟩, List.getElem?_append_right (by rw [hp]; omega), hp]
 ·rw [List.getElem?_eq_none (by rw [List.length_append, hp]; omega)]
theorem tk2 {cs V D : List Value} {p q r : Nat} (hq : q = p + V.length) (hr : r = q + D.length) (hl : r ≤ cs.length) : (spliceL (spliceL cs q D) p V).take r = cs.take p ++ V ++ D := by
 apply List.ext_getElem?
 intro k
 have hp : (cs.take p).length = p := by rw [List.length_take]; omega
 have hpv : (cs.take p ++ V).length = q := by rw [List.length_append, hp, hq]
 rw [List.getElem?_take]
 split
 ·rw [getElem?_spliceL, length_spliceL]
  by_cases hk : k < q
  ·rw [List.getElem?_append_left (by rw [hpv]; exact hk)]
   by_cases hk' : k < p
   ·rw [if_neg (by omega), getElem?_spliceL, if_neg (by omega), List.getElem?_append_left (by rw [hp]; exact hk'), List.getElem?_take, if_pos hk']
   ·rw [if_pos ⟨by omega, by omega, by omega⟩, List.getElem?_append_right (by rw [hp]; omega), hp]
  ·rw [if_neg (by omega), getElem?_spliceL, if_pos ⟨by omega, by omega, by omega⟩, List.getElem?_append_right (by rw [hpv]; omega), hpv]
 ·rw [List.getElem?_eq_none (by rw [List.length_append, hpv]; omega)]
theorem tk3 {cs V D : List Value} {p q r : Nat} (hq : q = p + V.length) (hr : r = q + D.length) (hl : r ≤ cs.length) : (spliceL (spliceL cs p V) q D).take r = cs.take p ++ V ++ D := by
 rw [tk1 hr (by rw [length_spliceL]; exact hl), tk1 hq (by omega)]
theorem ins_walk {m0 m : AMem} {b n c i a o c2 : Nat} {cs vs : List Value} {tv : Tag} (hm : Hp m0 m [.obj b (.cells cs .own)]) (ha : a < m0.next) (hga : m0.get a = some (.cells vs tv)) (htv : notRo tv = true) (hov : o + 2 ≤ vs.length)
  (hcl : c * 2 = cs.length) (hone : oneCellAll cs = true) (honev : oneCellAll vs = true) (hnc : n ≤ c) (hin : i ≤ n) (hlim : lim (n + 1) = true) :
  CallA E18o 82 [.slice (some ⟨b, 0, none⟩) n c, .int .i64 (i : Int), .slice (some ⟨a, o, none⟩) 1 c2] m fun v m' => ∃ b3 c3 cs' tag ps, v = .slice (some ⟨b3, 0, none⟩) (n + 1) c3 ∧ Hp m0 m' (.obj b3 (.cells cs' tag) :: ps) ∧ n + 1 ≤ c3 ∧
   cs'.take ((n + 1) * 2) = cs.take (i * 2) ++ (vs.drop o).take 2 ++ (cs.drop (i * 2)).take ((n - i) * 2) ∧ (cs.all plain1 = true → vs.all plain1 = true → cs'.all plain1 = true) ∧
   ((tag = .own ∧ c3 * 2 = cs'.length) ∨ (tag = .more 2 ∧ cs'.length = (n + 1) * 2 ∧ c3 = n + 1)) := by
 have hvn : ((vs.drop o).take 2).length = 2 := by simp; omega
 have hvs : ∀ {ps : List Pc} {m' : AMem}, Hp m0 m' ps → srcCells 2 (.slice (some ⟨a, o, none⟩) 1 c2) 1 m' = some ((vs.drop o).take 2) := fun {ps m'} h => by
  have hg : m'.get a = some (.cells vs tv) := (h.ext.same a ha).trans hga
  simp only [srcCells, AMem.loadN, hg]
  rw [if_neg (by decide), Nat.one_mul, if_pos hvn]
 have hv1 : oneCellAll ((vs.drop o).take 2) = true := oneCell_sub honev fun v hv => List.mem_of_mem_drop (List.mem_of_mem_take hv)
 refine call_wk (m0 := m0) (ps := [.obj b (.cells cs .own)]) (N := 95) (rs := [.tmp 6]) rfl Tryd.func82 rfl rfl rfl hm ?_
 refine Wk.seq ?_
 refine Wk.region ?_
 refine Wo.od (o_as rfl) rfl ?_
 refine Wo.nil ?_
 refine At.tn ?_
 refine Wk.seq ?_
 refine Wk.region ?_
 refine Wo.od (o_mv rfl) rfl ?_
 refine Wo.od (o_mv rfl) rfl ?_
 refine Wo.od (o_slo (k := 0) ns23 rfl rfl rfl rfl rfl rfl (bndl hin) rfl) rfl ?_
 refine Wo.nil ?_
 refine At.tn ?_
 refine Wk.seq ?_
 refine Wk.region ?_
 refine Wo.od (o_mv rfl) rfl ?_
 refine Wo.od (o_lnm nu23 rfl ha) rfl ?_
 refine Wo.od (o_as rfl) rfl ?_
 refine Wo.nil ?_
 refine At.tn ?_
 refine Wk.seq ?_
 refine Wk.seq ?_
 refine Wk.region ?_
 refine Wo.od (o_mv rfl) rfl ?_
 refine Wo.od (o_bi rfl rfl (bin_eql _ _ _)) rfl ?_
 refine Wo.nil ?_
 refine At.tn ?_
 refine Wk.condF rfl rfl ?_
 refine Wk.skip ?_
 refine At.tn ?_
 refine Wk.seq ?_
 refine Wk.region ?_
 refine Wo.od (o_mv rfl) rfl ?_
 refine Wo.od (o_ln (k := 0) nu23 rfl rfl (.inl rfl)) rfl ?_
 refine Wo.od (o_as rfl) rfl ?_
 refine Wo.nil ?_
 refine At.tn ?_
 refine Wk.seq ?_
 refine Wk.seq ?_
 refine Wk.region ?_
 refine Wo.od (o_mv rfl) rfl ?_
 refine Wo.od (o_mv rfl) rfl ?_
 refine Wo.od (o_bi rfl rfl (ub_eql _ _)) rfl ?_
 refine Wo.nil ?_
 refine At.tn ?_
 by_cases hie : i = n
 ·refine Wk.condT rfl (decide_eq_true hie) ?_
  subst hie
  refine Wk.seq ?_
  refine Wk.region ?_
  refine Wo.od (o_mv rfl) rfl ?_
  refine Wo.od (o_mv rfl) rfl ?_
  by_cases hfit : i + 1 ≤ c
  ·refine Wo.od (o_api (k := 0) ns23 ⟨_, nu23⟩ rfl rfl (fun m h => hvs h) (by rw [hvn]) hv1 hlim hfit (by rw [hvn]; omega)) rfl ?_
   refine Wo.od (o_as rfl) rfl ?_
   refine Wo.nil ?_
   refine At.tn ?_
   refine Wk.ret ?_
   refine At.tr ?_
   refine At.ret (.tmp rfl .nil) fun m' hm' => ⟨b, c, _, .own, [], rfl, hm', hfit, ?_, fun h h' => plain_splice h (plain_sub h' fun v hv => List.mem_of_mem_drop (List.mem_of_mem_take hv)), .inl ⟨rfl, by rw [length_spliceL]; exact hcl⟩⟩
   rw [tk1 (by rw [hvn]; omega) (by omega), Nat.zero_add, Nat.sub_self, Nat.zero_mul, List.take_zero, List.append_nil]
  ·refine Wo.x (o_apg (k := 0) ns23 rfl rfl (fun m h => by simp only [newCells, Option.bind_some, nu23, nsz26, hvs h, Option.map_some]) (by rw [hvn]) hv1 hlim hfit (by omega)) gn rfl fun b' => ?_
   refine Wo.od (o_as rfl) rfl ?_
   refine Wo.nil ?_
   refine At.tn ?_
   refine Wk.ret ?_
   refine At.tr ?_
   refine At.ret (.tmp rfl .nil) fun m' hm' => ⟨b', i + 1, _, .more 2, _, rfl, hm', Nat.le_refl _, ?_, fun h h' => ?_, .inr ⟨rfl, ?_, rfl⟩⟩
   ·rw [List.take_of_length_le (by rw [List.length_append, hvn]; simp; omega), List.drop_zero, Nat.sub_self, Nat.zero_mul, List.take_zero, List.append_nil]
   ·rw [List.all_append, plain_sub h fun v hv => List.mem_of_mem_drop (List.mem_of_mem_take hv), plain_sub h' fun v hv => List.mem_of_mem_drop (List.mem_of_mem_take hv)]; rfl
   ·rw [List.length_append, hvn]; simp; omega
 ·refine Wk.condF rfl (decide_eq_false hie) ?_
  refine Wk.skip ?_
  refine At.tn ?_
  refine Wk.seq ?_
  refine Wk.seq ?_
  refine Wk.region ?_
  refine Wo.od (o_mv rfl) rfl ?_
  refine Wo.od (o_mv rfl) rfl ?_
  have hl1 : n + 1 ≤ 1073741824 := Nat.le_of_ble_eq_true hlim
  refine Wo.od (o_bi rfl rfl (n_add (a := n) (b := 1) hl1)) rfl ?_
  refine Wo.od (o_mv rfl) rfl ?_
  refine Wo.od (o_cap (k := 0) nu23 rfl rfl rfl) rfl ?_
  refine Wo.od (o_bi rfl rfl (ub_gtr _ _)) rfl ?_
  refine Wo.nil ?_
  refine At.tn ?_
  by_cases hfit : c < n + 1
  ·refine Wk.condT rfl (decide_eq_true hfit) ?_
   refine Wk.seq ?_
   refine Wk.region ?_
   refine Wo.od (o_mv rfl) rfl ?_
   refine Wo.od (o_mv rfl) rfl ?_
   refine Wo.od (o_slo (k := 0) (o' := 0) ns23 rfl rfl rfl rfl rfl rfl (bndh (by omega)) (by split <;> simp)) rfl ?_
   refine Wo.od (o_mv rfl) rfl ?_
   refine Wo.od (o_mv rfl) rfl ?_
   refine Wo.od (o_bi rfl rfl (n_add (a := n) (b := 1) hl1)) rfl ?_
   refine Wo.od (o_mv rfl) rfl ?_
   refine Wo.od (o_bi rfl rfl (n_sub (a := n + 1) (b := i) (by omega) hl1)) rfl ?_
   refine Wo.x (o_apg (k := 0) ns23 rfl rfl (fun m h => nzc (k := n + 1 - i) (by omega)) (by rw [length_repeatL]; rfl) (oneCell_plain (repeatL_plain (by decide) _)) (lim_le hlim (by omega)) (by omega) (by omega)) gn rfl fun b' => ?_
   refine Wo.od (o_as rfl) rfl ?_
   refine Wo.nil ?_
   refine At.tn ?_
   have hl0 : ((cs.drop 0).take ((i - 0) * 2) ++ repeatL [.int .i64 0, .int .i64 0] (n + 1 - i)).length = (n + 1) * 2 := by rw [List.length_append, length_repeatL]; simp; omega
   refine Wk.seq ?_
   refine Wk.region ?_
   refine Wo.od (o_mv rfl) rfl ?_
   refine Wo.od (o_mv rfl) rfl ?_
   refine Wo.od (o_slm (k := 0) ns23 rfl rfl rfl rfl (bndl (by omega)) (by omega)) rfl ?_
   refine Wo.od (o_mv rfl) rfl ?_
   have hmin2 : min 1 (i - 0 + (n + 1 - i) - i) = 1 := by omega
   refine Wo.od (o_cpo (k := 0) ns23 rfl rfl rfl (by omega) (fun m h => by rw [hmin2]; exact hvs h) hv1 (by rw [hvn, hl0]; omega) (by intro e; rw [e] at hvn; cases hvn)) rfl ?_
   refine Wo.nil ?_
   refine At.tn ?_
   refine Wk.seq ?_
   refine Wk.draw (by kernel_rfl) ?_
   refine Wo.od (o_mv rfl) rfl ?_
   refine Wo.od (o_mv rfl) rfl ?_
   refine Wo.od (o_mv rfl) rfl ?_
   refine Wo.od (o_bi rfl rfl (n_add (a := i) (b := 1) (by omega))) rfl ?_
   refine Wo.od (o_slm (k := 0) ns23 rfl rfl rfl rfl (bndl (by omega)) (by omega)) rfl ?_
   refine Wo.od (o_mv rfl) rfl ?_
   refine Wo.od (o_mv rfl) rfl ?_
   refine Wo.od (o_slo (k := 1) (o' := 0 + i * 2) ns23 rfl rfl rfl rfl rfl rfl (bndl (by omega)) (by rw [if_neg (by omega)])) rfl ?_
   have hmin : min (n - i) (i - 0 + (n + 1 - i) - (i + 1)) = n - i := by omega
   have hml : ((cs.drop (0 + i * 2)).take (min (n - i) (i - 0 + (n + 1 - i) - (i + 1)) * 2)).length = (n - i) * 2 := by rw [hmin]; simp; omega
   refine Wo.od (o_cpo (k := 0) ns23 rfl rfl rfl (by omega) (fun m h => src_obj (k := 1) h rfl (by omega) (by omega)) (oneCell_sub hone fun v hv => List.mem_of_mem_drop (List.mem_of_mem_take hv)) (by rw [hml, length_spliceL, hl0]; omega) (by intro e; rw [e] at hml; simp at hml; omega)) rfl ?_
   refine Wo.nil ?_
   refine At.tn ?_
   refine Wk.seq ?_
   refine Wk.region ?_
   refine Wo.od (o_mv rfl) rfl ?_
   refine Wo.od (o_as rfl) rfl ?_
   refine Wo.nil ?_
   refine At.tn ?_
   refine Wk.ret ?_
   refine At.tr ?_
   refine At.ret (.tmp rfl .nil) fun m' hm' => ⟨b', i - 0 + (n + 1 - i), _, .more 2, _, ?_, hm', by omega, ?_, fun h h' => ?_, .inr ⟨rfl, ?_, by omega⟩⟩
   ·rw [show i - 0 + (n + 1 - i) = n + 1 by omega]; rfl
   ·rw [tk3 (by rw [hvn]; omega) (by rw [hml]; omega) (by rw [hl0]; exact Nat.le_refl _), hmin, Nat.zero_add, List.drop_zero, Nat.sub_zero, List.take_append_of_le_length (by rw [List.length_take]; omega), List.take_take, Nat.min_self]
   ·refine plain_splice (plain_splice ?_ (plain_sub h' fun v hv => List.mem_of_mem_drop (List.mem_of_mem_take hv))) (plain_sub h fun v hv => List.mem_of_mem_drop (List.mem_of_mem_take hv))
    rw [List.all_append, plain_sub h fun v hv => List.mem_of_mem_drop (List.mem_of_mem_take hv), repeatL_plain (by decide)]; rfl
   ·rw [length_spliceL, length_spliceL, hl0]
  ·refine Wk.condF rfl (decide_eq_false hfit) ?_
   refine Wk.skip ?_
   refine At.tn ?_
   refine Wk.seq ?_
   refine Wk.region ?_
   refine Wo.od (o_mv rfl) rfl ?_
   refine Wo.od (o_mv rfl) rfl ?_
   refine Wo.od (o_mv rfl) rfl ?_
   refine Wo.od (o_bi rfl rfl (n_add (a := n) (b := 1) hl1)) rfl ?_
   refine Wo.od (o_slo (k := 0) (o' := 0) ns23 rfl rfl rfl rfl rfl rfl (bndh (by omega)) (by split <;> simp)) rfl ?_
   refine Wo.od (o_as rfl) rfl ?_
   refine Wo.nil ?_
   refine At.tn ?_
   refine Wk.seq ?_
   refine Wk.seq ?_
   refine Wk.region ?_
   refine Wo.od (o_mv rfl) rfl ?_
   refine Wo.od (o_mv rfl) rfl ?_
   refine Wo.od (o_mv rfl) rfl ?_
   refine Wo.od (o_mv rfl) rfl ?_
   refine Wo.od (o_bi rfl rfl (n_add (a := i) (b := 1) (by omega))) rfl ?_
   refine Wo.od (o_slo (k := 0) (o' := 0 + (i + 1) * 2) ns23 rfl rfl rfl rfl rfl rfl (bndl (by omega)) (by rw [if_neg (by omega)])) rfl ?_
   refine Wo.x (o_cs (α := Unit) (V := fun _ => .bool false) (N := fun _ => [.obj b (.cells cs .own)]) rfl rfl (fun m' h => ?_)) gn rfl fun _ => ?_
   ·have hgb := (h.get (k := 0) rfl).2.2
    have hlo := (h.get (k := 0) rfl).1
    have hga' : m'.get a = some (.cells vs tv) := (h.ext.same a ha).trans hga
    refine CallA.prim (p := ⟨ovRun⟩) rfl (v := .bool false) (m' := m') ?_ ⟨(), rfl, h⟩
    show ovRun [.slice (some ⟨a, o, none⟩) 1 c2, .slice (some ⟨b, 0 + (i + 1) * 2, none⟩) (n + 1 - 0 - (i + 1)) (c - 0 - (i + 1))] m' = _
    have hne : cs.isEmpty = false := by
     cases cs with
     | nil => simp at hcl; omega
     | cons => rfl
    simp only [ovRun, hga', hgb, htv, hne]
    rw [if_pos]
    simp only [notRo, Bool.true_and, Bool.not_false, Bool.and_true, decide_eq_true_eq]
    omega
   refine Wo.od (o_un rfl rfl) rfl ?_
   refine Wo.nil ?_
   refine At.tn ?_
   refine Wk.condT rfl rfl ?_
   refine Wk.seq ?_
   refine Wk.draw (by kernel_rfl) ?_
   refine Wo.od (o_mv rfl) rfl ?_
   refine Wo.od (o_mv rfl) rfl ?_
   refine Wo.od (o_mv rfl) rfl ?_
   refine Wo.od (o_bi rfl rfl (n_add (a := i) (b := 1) (by omega))) rfl ?_
   refine Wo.od (o_slo (k := 0) (o' := 0 + (i + 1) * 2) ns23 rfl rfl rfl rfl rfl rfl (bndl (by omega)) (by rw [if_neg (by omega)])) rfl ?_
   refine Wo.od (o_mv rfl) rfl ?_
   refine Wo.od (o_mv rfl) rfl ?_
   refine Wo.od (o_slo (k := 0) (o' := 0 + i * 2) ns23 rfl rfl rfl rfl rfl rfl (bndl (by omega)) (by rw [if_neg (by omega)])) rfl ?_
   have hmin : min (n + 1 - 0 - i) (n + 1 - 0 - (i + 1)) = n - i := by omega
   have hml : ((cs.drop (0 + i * 2)).take (min (n + 1 - 0 - i) (n + 1 - 0 - (i + 1)) * 2)).length = (n - i) * 2 := by rw [hmin]; simp; omega
   refine Wo.od (o_cpo (k := 0) ns23 rfl rfl rfl (by omega) (fun m h => src_obj (k := 0) h rfl (by omega) (by omega)) (oneCell_sub hone fun v hv => List.mem_of_mem_drop (List.mem_of_mem_take hv)) (by rw [hml]; omega) (by intro e; rw [e] at hml; simp at hml; omega)) rfl ?_
   refine Wo.nil ?_
   refine At.tn ?_
   refine Wk.seq ?_
   refine Wk.region ?_
   refine Wo.od (o_mv rfl) rfl ?_
   refine Wo.od (o_mv rfl) rfl ?_
   refine Wo.od (o_slo (k := 0) (o' := 0 + i * 2) ns23 rfl rfl rfl rfl rfl rfl (bndl (by omega)) (by rw [if_neg (by omega)])) rfl ?_
   refine Wo.od (o_mv rfl) rfl ?_
   have hmin2 : min 1 (n + 1 - 0 - i) = 1 := by omega
   refine Wo.od (o_cpo (k := 0) ns23 rfl rfl rfl (by omega) (fun m h => by rw [hmin2]; exact hvs h) hv1 (by rw [hvn, length_spliceL]; omega) (by intro e; rw [e] at hvn; cases hvn)) rfl ?_
   refine Wo.nil ?_
   refine At.tn ?_
   refine Wk.seq ?_
   refine Wk.region ?_
   refine Wo.od (o_mv rfl) rfl ?_
   refine Wo.od (o_as rfl) rfl ?_
   refine Wo.nil ?_
   refine At.tn ?_
   refine Wk.ret ?_
   refine At.tr ?_
   refine At.ret (.tmp rfl .nil) fun m' hm' => ⟨b, c, _, .own, [], rfl, hm', by omega, ?_, fun h h' => plain_splice (plain_splice h (plain_sub h fun v hv => List.mem_of_mem_drop (List.mem_of_mem_take hv))) (plain_sub h' fun v hv => List.mem_of_mem_drop (List.mem_of_mem_take hv)), .inl ⟨rfl, by rw [length_spliceL, length_spliceL]; exact hcl⟩⟩
   rw [tk2 (by rw [hvn]; omega) (by rw [hml]; omega) (by omega), Nat.zero_add, hmin]
theorem ins_meets {m : AMem} {b n i a o c2 : Nat} {cs vs : List Value} {tv : Tag} (ha : a < m.next) (hab : a ≠ b) (hga : m.get a = some (.cells vs tv)) (htv : notRo tv = true) (hov : o + 2 ≤ vs.length) (hpv : vs.all plain1 = true)
  (hcl : cs.length = n * 2) (hp : cs.all plain1 = true) (hin : i ≤ n) (hlim : lim (n + 1) = true) :
  MeetsS E18o 82 m b 2 n cs [.int .i64 (i : Int), .slice (some ⟨a, o, none⟩) 1 c2] (n + 1) (cs.take (i * 2) ++ (vs.drop o).take 2 ++ cs.drop (i * 2)) := by
 intro zs c hz hnc hcc
 have hall : (cs ++ zs).all plain1 = true := by rw [List.all_append, hp, hz]; rfl
 have hn0 : ({ m.kill b with wl := m.next } : AMem).next = m.next := by show (m.kill b).next = _; rw [AMem.next_kill]
 have hg0 : ({ m.kill b with wl := m.next } : AMem).get a = some (.cells vs tv) := by
  have : ({ m.kill b with wl := m.next } : AMem).get a = (m.kill b).get a := by unfold AMem.get; rfl
  rw [this, AMem.get_kill, if_neg hab, hga]
 refine (ins_walk (cs := cs ++ zs) shown_hp (by rw [hn0]; exact ha) hg0 htv hov (by rw [List.length_append]; omega) (oneCell_plain hall) (oneCell_plain hpv) hnc hin hlim).mono fun v m3 ⟨b3, c3, cs', tag, ps, h1, h2, h3, h4, h5, h6⟩ => ?_
 have hwl := h2.ext.wl
 rw [hn0] at hwl
 have hwl' : m.next ≤ m3.wl := by rwa [Nat.min_eq_left (Nat.le_refl _)] at hwl
 have hget := (h2.get (k := 0) rfl).2.2
 have hlo := (h2.get (k := 0) rfl).1
 rw [hn0] at hlo
 have hnew : cs.take (i * 2) ++ (vs.drop o).take 2 ++ cs.drop (i * 2) = cs'.take ((n + 1) * 2) := by
  have e2 : (cs.drop (i * 2)).take ((n - i) * 2) = cs.drop (i * 2) := List.take_of_length_le (by rw [List.length_drop]; omega)
  rw [h4, List.take_append_of_le_length (by omega), List.drop_append_of_le_length (by omega), List.take_append_of_le_length (by rw [List.length_drop]; omega), e2]
 refine ⟨hwl', b3, c3, cs'.drop ((n + 1) * 2), tag, h1, hlo, ?_, plain_sub (h5 hall hpv) fun v hv => List.mem_of_mem_drop hv, h3, ?_⟩
 ·rw [hnew, List.take_append_drop]; exact hget
 ·rcases h6 with ⟨h6, h7⟩ | ⟨h6, h7, h8⟩
  ·exact .inl ⟨h6, by rw [hnew, ← List.length_append, List.take_append_drop]; exact h7⟩
  ·exact .inr ⟨h6, List.drop_eq_nil_of_le (by omega), h8⟩
end Go.Proofs.YtpclggcpobakhaaDoor
end

section
namespace Go.Proofs.YtpclggcpobakhaaDoor
open Go Go.Ab
theorem u3 : Tryd.prog.underlying 3 = some (.int .i64) := by kernel_rfl
theorem u5 : Tryd.prog.underlying 5 = some (.int .u8) := by kernel_rfl
theorem u23 : Tryd.prog.underlying 23 = some (.slice 26) := by kernel_rfl
theorem u26 : Tryd.prog.underlying 26 = some (.array 2 3) := by kernel_rfl
theorem u28 : Tryd.prog.underlying 28 = some (.int .u64) := by kernel_rfl
theorem u36 : Tryd.prog.underlying 36 = some (.slice 28) := by kernel_rfl
theorem u39 : Tryd.prog.underlying 39 = some (.slice 3) := by kernel_rfl
theorem u104 : Tryd.prog.underlying 104 = some (.array 64 5) := by kernel_rfl
theorem k3 : known Tryd.prog 3 = true := by kernel_rfl
theorem k5 : known Tryd.prog 5 = true := by kernel_rfl
theorem s3 : sizeA Tryd.prog 3 = 1 := by kernel_rfl
theorem s5 : sizeA Tryd.prog 5 = 1 := by kernel_rfl
theorem s23 : sizeA Tryd.prog 23 = 1 := by kernel_rfl
theorem a3 : isAggA Tryd.prog 3 = false := by kernel_rfl
theorem a5 : isAggA Tryd.prog 5 = false := by kernel_rfl
theorem a26 : isAggA Tryd.prog 26 = true := by kernel_rfl
end Go.Proofs.YtpclggcpobakhaaDoor
end

section
namespace Go.Proofs.YtpclggcpobakhaaDoor
open Go Go.Ab
set_option maxRecDepth 10000
theorem tab_tz : ∀ k : Fin 64, (tabInts.map (Value.int .u8))[(2 ^ k.val * 285870213051353865 % 2 ^ 64) >>> 58]?.map (fun v => match v with | .int .u8 n => decide (n = k.val) | _ => false) = some true := by decide +kernel
theorem tab_at (k : Nat) (hk : k < 64) : (tabInts.map (Value.int .u8))[(2 ^ k * 285870213051353865 % 2 ^ 64) >>> 58]? = some (.int .u8 (k : Int)) := by
 have := tab_tz ⟨k, hk⟩
 cases h : (tabInts.map (Value.int .u8))[(2 ^ k * 285870213051353865 % 2 ^ 64) >>> 58]? with
 | none => rw [h] at this; cases this
 | some v =>
  rw [h] at this
  simp only [Option.map_some, Option.some.injEq] at this
  split at this
  ·rw [of_decide_eq_true this]
  ·cases this
def neg64 (x : Nat) : Nat := 2 ^ 64 - x
def mul64 (x y : Nat) : Nat := x * y % 2 ^ 64
theorem neg_u64 (x : Nat) (h0 : 0 < x) (h1 : x < 2 ^ 64) : unA .neg (.int .u64 (x : Int)) = some (.int .u64 ((neg64 x : Nat) : Int)) := by
 simp only [unA, neg64]
 have : IntKind.u64.wrap (0 - (x : Int)) = ((2 ^ 64 - x : Nat) : Int) := by
  unfold IntKind.wrap IntKind.bits IntKind.signed
  simp only [Bool.false_and, Bool.false_eq_true, if_false]
  omega
 rw [this]
theorem mul_u64 {ty : TypeId} {P : Program} (x : Nat) : binA .mul ty P (.int .u64 (x : Int)) (.int .u64 285870213051353865) = some (.int .u64 ((mul64 x 285870213051353865 : Nat) : Int)) := by
 simp only [binA, if_true, mul64]
 have : IntKind.u64.wrap ((x : Int) * 285870213051353865) = ((x * 285870213051353865 % 2 ^ 64 : Nat) : Int) := by
  unfold IntKind.wrap IntKind.bits IntKind.signed
  simp only [Bool.false_and, Bool.false_eq_true, if_false]
  omega
 rw [this]
theorem shr_u64 {ty : TypeId} {P : Program} (x : Nat) : binA .shr ty P (.int .u64 (x : Int)) (.int .u64 58) = some (.int .u64 ((x >>> 58 : Nat) : Int)) := bin_shr64 x 58 .u64 (by omega)
theorem and_u64 {ty : TypeId} {P : Program} (x : Nat) (h0 : 0 < x) (h1 : x < 2 ^ 64) : binA .and ty P (.int .u64 (x : Int)) (.int .u64 ((neg64 x : Nat) : Int)) = some (.int .u64 ((2 ^ tz x : Nat) : Int)) := by
 rw [bin_and64 x (neg64 x) h1 (by unfold neg64; omega)]
 unfold neg64
 rw [(tz_low h0 h1).2.1]
theorem tab_idx (k : Nat) (hk : k < 64) : indexAddrA Tryd.prog 104 (ptr 0 0) (.int .u64 ((mul64 (2 ^ k) 285870213051353865 >>> 58 : Nat) : Int)) = some (ptr 0 (mul64 (2 ^ k) 285870213051353865 >>> 58)) := by
 have hlt : mul64 (2 ^ k) 285870213051353865 >>> 58 < 64 := by
  rw [Nat.shiftRight_eq_div_pow]
  have : mul64 (2 ^ k) 285870213051353865 < 2 ^ 64 := Nat.mod_lt _ (by omega)
  omega
 rw [idxArr u104 k5 s5 hlt]
 simp
def dbMul (k : Nat) : Nat := mul64 (2 ^ k) 285870213051353865
def dbIdx (k : Nat) : Nat := dbMul k >>> 58
theorem mul_db {ty : TypeId} {P : Program} (k : Nat) : binA .mul ty P (.int .u64 ((2 ^ k : Nat) : Int)) (.int .u64 285870213051353865) = some (.int .u64 ((dbMul k : Nat) : Int)) := mul_u64 _
theorem shr_db {ty : TypeId} {P : Program} (k : Nat) : binA .shr ty P (.int .u64 ((dbMul k : Nat) : Int)) (.int .u64 58) = some (.int .u64 ((dbIdx k : Nat) : Int)) := shr_u64 _
theorem idx_db (k : Nat) (hk : k < 64) : indexAddrA Tryd.prog 104 (ptr 0 0) (.int .u64 ((dbIdx k : Nat) : Int)) = some (ptr 0 (dbIdx k)) := tab_idx k hk
theorem conv_5_3 (n : Nat) (h : n < 2 ^ 63) : convA Tryd.prog 5 3 (.int .u8 (n : Int)) = some (.int .i64 (n : Int)) := by
 simp only [convA, u5, u3]
 rw [wrap_i64 _ (by omega) (by omega)]
theorem load_db (k : Nat) (hk : k < 64) {m : AMem} (hm : m.get 0 = some (.cells (tabInts.map (.int .u8)) .ro)) : loadA Tryd.prog 5 (ptr 0 (dbIdx k)) m = some (.int .u8 (k : Int)) := loadOne k5 a5 hm (tab_at k hk)
end Go.Proofs.YtpclggcpobakhaaDoor
end

section
namespace Go.Proofs.YtpclggcpobakhaaDoor
open Go Go.Ab
set_option maxRecDepth 10000
theorem z26 : zeroA Tryd.prog 26 = some (.agg #[.int .i64 0, .int .i64 0]) := by kernel_rfl
theorem z28 : zeroA Tryd.prog 28 = some (.int .u64 0) := by kernel_rfl
theorem fa25_0 (b o : Nat) : fieldAddrA Tryd.prog 25 (ptr b o) 0 = some (ptr b (o + 0)) := by kernel_rfl
theorem fa25_1 (b o : Nat) : fieldAddrA Tryd.prog 25 (ptr b o) 1 = some (ptr b (o + 1)) := by kernel_rfl
attribute [local irreducible] Tm.at Trie.set Trie.get AMem.get AMem.set AMem.alloc AMem.ww
end Go.Proofs.YtpclggcpobakhaaDoor
end

section
namespace Go.Proofs.YtpclggcpobakhaaDoor
open Go Go.Ab
def eqTab : List Value → List Int → Bool
 | [], [] => true
 | .int .u8 n :: vs, k :: ks => n == k && eqTab vs ks
 | _, _ => false
theorem eqTab_true : ∀ {vs : List Value} {ks : List Int}, eqTab vs ks = true → vs = ks.map (.int .u8)
 | [], [], _ => rfl
 | [], _ :: _, h => by cases h
 | v :: vs, [], h => by simp [eqTab] at h
 | v :: vs, k :: ks, h => by
  unfold eqTab at h
  split at h
  ·rename_i e _; cases e
  ·rename_i n vs' k' ks' e1 e2
   cases e1; cases e2
   simp only [Bool.and_eq_true, beq_iff_eq] at h
   rw [h.1, eqTab_true h.2]; rfl
  ·cases h
def tabAt (m : AMem) : Bool :=
 match m.get 0 with
 | some (.cells cs .ro) => eqTab cs tabInts
 | _ => false
theorem tabAt_true {m : AMem} (h : tabAt m = true) : m.get 0 = some (.cells (tabInts.map (.int .u8)) .ro) := by
 unfold tabAt at h
 split at h
 ·rename_i cs hg; rw [hg, eqTab_true h]
 ·cases h
def pairsL : Nat → List Value → Option (List (Nat × Nat))
 | 0, _ => some []
 | n + 1, .int .i64 (.ofNat a) :: .int .i64 (.ofNat b) :: cs => (pairsL n cs).map fun l => (a, b) :: l
 | _ + 1, _ => none
def edgesOf (m : AMem) (sl : Value) : Option (List (Nat × Nat)) :=
 match sl with
 | .slice none 0 0 => some []
 | .slice (some ⟨b, o, none⟩) len cap => match m.get b with
  | some (.cells cs _) => if Nat.blt b m.next && Nat.ble len cap then pairsL len (cs.drop o) else none
  | _ => none
 | _ => none
end Go.Proofs.YtpclggcpobakhaaDoor
end

section
namespace Go.Ab
open Go
section
variable {E : Env} {j j1 : Inj} {m m1 : AMem} {w w1 : World}
theorem Sim.bornAt (h : MR E j m w) (hold : ∀ c, c < w.heap.size → w1.heap[c]? = w.heap[c]?) (hsize : w.heap.size ≤ w1.heap.size) (hcalm : Calm w w1) {k1 : Blk} (hfresh : w.heap.size ≤ k1.c) (hlt : k1.c < w1.heap.size) {cs : List Value} {tag : Tag} {o' : Obj} (ho : w1.heap[k1.c]? = some o') (hor : OR j1 k1 (.cells cs tag) o') (hp : cs.all plain1 = true) :
  Sim E j m w (j.set m.next k1) (m.alloc (.cells cs tag)) w1 := by
 have hn : j m.next = none := h.next_none
 have ha : MR E j m w1 := ⟨fun b k hb => ⟨(h.lt b k hb).1, Nat.lt_of_lt_of_le (h.lt b k hb).2 hsize⟩, fun b o k ho hb => by
  obtain ⟨o', h1, h2⟩ := h.obj b o k ho hb
  exact ⟨o', (hold k.c (h.lt b k hb).2).trans h1, h2⟩, h.inj, h.glob⟩
 refine ⟨.alloc m _, Inj.le_set k1 hn, ?_, ?_, hsize, ?_, ?_, ?_, fun c hc _ => hold c hc, hcalm⟩
 ·intro b k e e'
  by_cases hbm : b = m.next
  ·omega
  ·rw [Inj.set_ne _ _ hbm, e'] at e; cases e
 ·refine ⟨fun b k e => ?_, fun b o k ho' e => ?_, fun b b' k k' e e' hl hl' hc => ?_, fun gl hgl => ?_⟩
  ·by_cases hbm : b = m.next
   ·subst hbm; rw [Inj.set_eq] at e; cases e
    exact ⟨Nat.lt_succ_self _, hlt⟩
   ·rw [Inj.set_ne _ _ hbm] at e
    exact ⟨Nat.lt_succ_of_lt (h.lt b k e).1, (ha.lt b k e).2⟩
  ·rw [AMem.get_alloc] at ho'
   by_cases hbm : b = m.next
   ·subst hbm; rw [Inj.set_eq] at e; cases e
    rw [if_pos rfl] at ho'; cases ho'
    refine ⟨o', ho, ?_⟩
    cases o' with
    | cells c ty fz =>
     refine ⟨hor.1, fun i v hi => ?_⟩
     obtain ⟨v', h3, h4⟩ := hor.2 i v hi
     have hpv := List.all_eq_true.1 hp v (List.mem_of_getElem? hi)
     have := plain1_eq hpv h4
     subst this
     exact ⟨_, h3, .plain1 hpv⟩
    | _ => exact hor.elim
   ·rw [if_neg hbm] at ho'
    rw [Inj.set_ne _ _ hbm] at e
    obtain ⟨o', h1, h2⟩ := ha.obj b o k ho' e
    exact ⟨o', h1, h2.mono (Inj.le_set k1 hn)⟩
  ·have old : ∀ {b k}, j b = some k → k.c ≠ k1.c := fun {b k} e hc => by
    have := (h.lt b k e).2
    omega
   by_cases hbm : b = m.next
   ·by_cases hbm' : b' = m.next
    ·rw [hbm, hbm']
    ·subst hbm; rw [Inj.set_eq] at e; cases e
     rw [Inj.set_ne _ _ hbm'] at e'
     exact absurd hc.symm (old e')
   ·by_cases hbm' : b' = m.next
    ·subst hbm'; rw [Inj.set_eq] at e'; cases e'
     rw [Inj.set_ne _ _ hbm] at e
     exact absurd hc (old e)
    ·rw [Inj.set_ne _ _ hbm] at e
     rw [Inj.set_ne _ _ hbm'] at e'
     rw [AMem.get_alloc, if_neg hbm] at hl
     rw [AMem.get_alloc, if_neg hbm'] at hl'
     exact h.inj b b' k k' e e' hl hl' hc
  ·have := h.glob gl hgl
   have hlt := (h.lt gl _ this).1
   rw [Inj.set_ne _ _ (by omega)]; exact this
 ·intro b hb1 hb2 _
  have : b = m.next := by simp at hb2; omega
  subst this; exact ⟨k1, Inj.set_eq _ _ _⟩
 ·intro b hb _
  rw [AMem.get_alloc, if_neg (by omega)]
 ·intro b k e e'
  by_cases hbm : b = m.next
  ·subst hbm; rw [Inj.set_eq] at e; cases e
   exact .inl hfresh
  ·rw [Inj.set_ne _ _ hbm, e'] at e; cases e
theorem Sim.same (h : MR E j m w) (hold : ∀ c, c < w.heap.size → w1.heap[c]? = w.heap[c]?) (hsize : w.heap.size ≤ w1.heap.size) (hcalm : Calm w w1) : Sim E j m w j m w1 where
 ext := .refl m
 le := .refl j
 new := fun b k h h' => by simp [h'] at h
 mr := ⟨fun b k hb => ⟨(h.lt b k hb).1, Nat.lt_of_lt_of_le (h.lt b k hb).2 hsize⟩, fun b o k ho hb => by
  obtain ⟨o', h1, h2⟩ := h.obj b o k ho hb
  exact ⟨o', (hold k.c (h.lt b k hb).2).trans h1, h2⟩, h.inj, h.glob⟩
 size := hsize
 full := fun b h h' _ => absurd h (by omega)
 away := fun _ _ _ => rfl
 fresh := fun b k h h' => by simp [h'] at h
 frame := fun c hc _ => hold c hc
 calm := hcalm
def Leads2 (R : Nat → Value) : Prop := ∀ (j1 j2 : Inj) (b1 b2 : Nat) (v' : Value), (∀ k, j1 b1 = some k → j2 b2 = some k) → VR j1 (R b1) v' → VR j2 (R b2) v'
def Leads2L (A : Nat → List Value) : Prop := ∀ (j1 j2 : Inj) (b1 b2 : Nat) (l' : List Value), (∀ k, j1 b1 = some k → j2 b2 = some k) → LR j1 (A b1) l' → LR j2 (A b2) l'
theorem Leads2.slice (o len cap : Nat) : Leads2 fun b => .slice (some ⟨b, o, none⟩) len cap := by
 intro j1 j2 b1 b2 v' hk h
 cases h with
 | slice e hm => exact .slice (hk _ e) hm
 | sliceM e hm a1 a2 hl hc => exact .sliceM (hk _ e) hm a1 a2 hl hc
theorem Leads2.plain {v : Value} (h : plain1 v = true) : Leads2 fun _ => v := by
 intro j1 j2 b1 b2 v' _ hv
 have := plain1_eq h hv
 subst this
 exact .plain1 h
theorem Leads2L.nil : Leads2L fun _ => [] := fun _ _ _ _ _ _ h => by rw [h.nil_inv]; exact .nil _
theorem Leads2L.cons {R : Nat → Value} {A : Nat → List Value} (hR : Leads2 R) (hA : Leads2L A) : Leads2L fun b => R b :: A b := by
 intro j1 j2 b1 b2 l' hk h
 obtain ⟨y, ys, rfl, h1, h2⟩ := h.cons_inv
 exact .cons (hR _ _ _ _ _ hk h1) (hA _ _ _ _ _ hk h2)
end
end Go.Ab
end

section
namespace Go.Proofs.YtpclggcpobakhaaDoor
open Go Go.Ab
set_option maxRecDepth 100000
theorem tab18_plain : ∀ x c, tab18 x = some c → c.all plain1 = true := by
 intro x c h
 unfold tab18 at h
 split at h
 ·cases h
  rw [List.all_map]
  exact List.all_eq_true.2 fun x _ => rfl
 ·cases h
def allW : Nat := 18446744073709551615
end Go.Proofs.YtpclggcpobakhaaDoor
end

section
namespace Go.Ab
open Go
section
variable {E : Env} {j : Inj} {m : AMem} {w : World}
def injMemoG (j : Inj) (g : Nat) : Inj := fun x => if x < g then j x else none
theorem memG_get (n : Nat) (gs : Nat → Option (List Value)) (b : Nat) : (memG n gs).get b = (gs b).map fun cs => .cells cs .ro := by
 simp [AMem.get, memG, Heap.get_nil]
theorem MR.memoG {gs : Nat → Option (List Value)} (h : MR E j m w) (hgs : ∀ x c, x < E.glob → gs x = some c → m.get x = some (.cells c .ro)) (hgp : ∀ x c, gs x = some c → c.all plain1 = true) : MR E (injMemoG j E.glob) (memG E.glob gs) w := by
 have cases1 : ∀ x k, injMemoG j E.glob x = some k → x < E.glob ∧ j x = some k := by
  intro x k hx
  unfold injMemoG at hx
  split at hx
  ·rename_i hlt; exact ⟨hlt, hx⟩
  ·cases hx
 refine ⟨fun x k hx => ?_, fun x o k ho hx => ?_, fun x x' k k' hx hx' hl hl' hc => ?_, fun gl hgl => ?_⟩
 ·obtain ⟨hlt, hj⟩ := cases1 x k hx
  exact ⟨hlt, (h.lt x k hj).2⟩
 ·rw [memG_get] at ho
  obtain ⟨hlt, hj⟩ := cases1 x k hx
  cases hg : gs x with
  | none => rw [hg] at ho; cases ho
  | some c =>
   rw [hg] at ho; cases ho
   have hgx := hgs x c hlt hg
   obtain ⟨o', h1, h2⟩ := h.obj x _ k hgx hj
   refine ⟨o', h1, ?_⟩
   cases o' with
   | cells c' ty fz =>
    refine ⟨h2.1, fun i v hi => ?_⟩
    obtain ⟨v', h3, h4⟩ := h2.2 i v hi
    have hpv := List.all_eq_true.1 (hgp x c hg) v (List.mem_of_getElem? hi)
    have := plain1_eq hpv h4
    subst this
    exact ⟨_, h3, .plain1 hpv⟩
   | _ => exact h2.elim
 ·have live : ∀ y, y < E.glob → ((memG E.glob gs).get y).isSome = true → (m.get y).isSome = true := by
   intro y hy hl
   rw [memG_get] at hl
   cases hg : gs y with
   | none => rw [hg] at hl; cases hl
   | some c => rw [hgs y c hy hg]; rfl
  obtain ⟨hlt, hj⟩ := cases1 x k hx
  obtain ⟨hlt', hj'⟩ := cases1 x' k' hx'
  exact h.inj x x' k k' hj hj' (live x hlt hl) (live x' hlt' hl') hc
 ·unfold injMemoG
  rw [if_pos hgl]
  exact h.glob gl hgl
theorem memoG_callOk (hE : EnvOk E) {f : FuncId} {gs : Nat → Option (List Value)} (hgp : ∀ x c, gs x = some c → c.all plain1 = true) {fuel : Nat} {v : Value} {m0 : AMem}
  (hrun : run E fuel (.call f [] (memG E.glob gs)) = some (.val v m0)) (hwl : E.glob ≤ m0.wl) (hpv : plainV v = true) {args' : List Value} (h : MR E j m w) (hgs : ∀ x c, x < E.glob → gs x = some c → m.get x = some (.cells c .ro)) (hl : LR j [] args') :
  CallOk E.P (E.prim f).isSome f args'.toArray w (ValQ E j m w v m) := by
 have hm0 := h.memoG hgs hgp
 have hl0 : LR (injMemoG j E.glob) [] args' := by
  rw [LR.nil_inv hl]; exact .nil _
 obtain ⟨_, _, e, hs⟩ := sim_run hE fuel _ _ hrun
 cases e
 refine callOk_mono (fun x => x) (hs _ w args' hm0 hl0) ?_
 intro v' w' ⟨j', s, hv'⟩
 have hold : ∀ c, c < w.heap.size → w'.heap[c]? = w.heap[c]? := fun c hc => s.frame c hc fun x k hx _ _ => by
  have : x < E.glob := (hm0.lt x k hx).1
  omega
 exact ⟨j, .same h hold s.size s.calm, VR.plainMove hpv hv'⟩
end
noncomputable def trueK (g : Nat) (v : Value) (m : AMem) : Bool := vBool v (fun b => ifB b (Nat.ble g m.wl) false) false
theorem true_of_fast {E : Env} {F : FuncId → Option PSem} (hF : FOk E F) {n g : Nat} {f : FuncId} {args : List Value} {m : AMem} (h : (hand E F n).call f args m (trueK g) = true) : ∃ fuel m', run E fuel (.call f args m) = some (.val (.bool true) m') ∧ g ≤ m'.wl := yes_of_fast hF h
end Go.Ab
end

section
namespace Go.Proofs.YtpclggcpobakhaaDoor
open Go Go.Ab
set_option maxRecDepth 100000
def noF : FuncId → Option PSem := fun _ => none
theorem noF_ok : FOk E18 noF := fun h => by cases h
set_option maxHeartbeats 0 in
theorem fast_13 : (hand E18 noF 1000).call 13 [] m18 (trueK 1) = true := by decide +kernel
theorem works_run : ∃ fuel m', run E18 fuel (.call 13 [] m18) = some (.val (.bool true) m') ∧ 1 ≤ m'.wl := true_of_fast (E := E18) (F := noF) (n := 1000) (g := 1) noF_ok fast_13
def worksRun (args : List Value) (m : AMem) : Option (Value × AMem) :=
  match args with
  | [] => if tabAt m then some (.bool true, m) else none
  | _ => none
theorem works_callOk {args : List Value} {m m' : AMem} {v : Value} (h : worksRun args m = some (v, m')) {j : Inj} {w : World} {args' : List Value} (hm : MR E18 j m w) (hl : LR j args args') :
    CallOk E18.P (E18.prim 13).isSome 13 args'.toArray w (ValQ E18 j m w v m') := by
  unfold worksRun at h
  split at h
  · split at h
    · rename_i ht
      cases h
      obtain ⟨fuel, m0, h1, h2⟩ := works_run
      refine memoG_callOk (E := E18) (gs := tab18) E18ok tab18_plain h1 h2 rfl hm (fun x c hx hg => ?_) hl
      have hx : x < 1 := hx
      have : x = 0 := by omega
      subst this
      simp only [tab18, if_true, Option.some.injEq] at hg
      rw [← hg]; exact tabAt_true ht
    · cases h
  · cases h
end Go.Proofs.YtpclggcpobakhaaDoor
end

section
namespace Go.Proofs.YtpclggcpobakhaaDoor
open Go Go.Ab Go.Ab.W
set_option maxRecDepth 10000
attribute [local irreducible] Tm.at Trie.set Trie.get AMem.get AMem.set AMem.alloc AMem.ww AMem.kill
def wholeOf (m : AMem) (b n n' : Nat) : Option (List Value) :=
 match m.get b with
 | some (.cells cs .own) => if n = n' ∧ cs.length = n * 2 ∧ cs.all plain1 = true then some cs else none
 | some (.cells cs (.more 2)) => if n = n' ∧ cs.length = n * 2 ∧ cs.all plain1 = true then some cs else none
 | _ => none
theorem wholeOf_some {m : AMem} {b n n' : Nat} {cs : List Value} (h : wholeOf m b n n' = some cs) : ∃ tg, m.get b = some (.cells cs tg) ∧ (tg = .own ∨ tg = .more 2) ∧ n = n' ∧ cs.length = n * 2 ∧ cs.all plain1 = true := by
 unfold wholeOf at h
 split at h
 ·rename_i cs' hg
  split at h
  ·rename_i hc; cases h; exact ⟨_, hg, .inl rfl, hc⟩
  ·cases h
 ·rename_i cs' hg
  split at h
  ·rename_i hc; cases h; exact ⟨_, hg, .inr rfl, hc⟩
  ·cases h
 ·cases h
theorem plain_app {l l2 : List Value} (h : l.all plain1 = true) (h2 : l2.all plain1 = true) : (l ++ l2).all plain1 = true := by rw [List.all_append, h, h2]; rfl
def delRun (args : List Value) (m : AMem) : Option (Value × AMem) :=
 match args with
 | [.slice (some ⟨b, 0, none⟩) n n', .int .i64 i, .int .i64 j] =>
  match wholeOf m b n n' with
  | some cs => if 0 ≤ i ∧ i < j ∧ j ≤ n ∧ lim n = true then
    some (.slice (some ⟨m.next, 0, none⟩) (n - (j.toNat - i.toNat)) (n - (j.toNat - i.toNat)), (m.kill b).alloc (.cells (cs.take (i.toNat * 2) ++ cs.drop (j.toNat * 2)) (.more 2)))
   else none
  | none => none
 | _ => none
theorem del_callOk {args : List Value} {m m' : AMem} {v : Value} (h : delRun args m = some (v, m')) {j : Inj} {w : World} {args' : List Value} (hm : MR E18o j m w) (hl : LR j args args') :
  CallOk E18o.P (E18o.prim 49).isSome 49 args'.toArray w (ValQ E18o j m w v m') := by
 unfold delRun at h
 split at h
 ·rename_i b n n' i jj
  split at h
  ·rename_i cs hcs
   obtain ⟨tg, hg, htg, rfl, hcl, hp⟩ := wholeOf_some hcs
   split at h
   ·rename_i hc
    cases h
    obtain ⟨h1, h2, h3, h4⟩ := hc
    obtain ⟨i, rfl⟩ := Int.eq_ofNat_of_zero_le h1
    obtain ⟨jj, rfl⟩ := Int.eq_ofNat_of_zero_le (show 0 ≤ jj by omega)
    have hij : i < jj := by omega
    have hjn : jj ≤ n := by omega
    simp only [Int.toNat_natCast]
    exact callOk_show E18o_ok hg htg (by decide) hcl hp (by rw [List.length_append, List.length_take, List.length_drop]; omega) (plain_app (plain_sub hp fun v hv => List.mem_of_mem_take hv) (plain_sub hp fun v hv => List.mem_of_mem_drop hv))
     (del_meets hcl hp hij hjn h4) hm hl
   ·cases h
  ·cases h
 ·cases h
def pairOf (m : AMem) (a o : Nat) : Option (List Value) :=
 match m.get a with
 | some (.cells vs tv) => if notRo tv = true ∧ o + 2 ≤ vs.length ∧ vs.all plain1 = true then some ((vs.drop o).take 2) else none
 | _ => none
theorem pairOf_some {m : AMem} {a o : Nat} {e : List Value} (h : pairOf m a o = some e) : ∃ vs tv, m.get a = some (.cells vs tv) ∧ notRo tv = true ∧ o + 2 ≤ vs.length ∧ vs.all plain1 = true ∧ e = (vs.drop o).take 2 := by
 unfold pairOf at h
 split at h
 ·rename_i vs tv hg
  split at h
  ·rename_i hc; cases h; exact ⟨vs, tv, hg, hc.1, hc.2.1, hc.2.2, rfl⟩
  ·cases h
 ·cases h
def insRun (args : List Value) (m : AMem) : Option (Value × AMem) :=
 match args with
 | [.slice (some ⟨b, 0, none⟩) n n', .int .i64 i, .slice (some ⟨a, o, none⟩) 1 _] =>
  match wholeOf m b n n', pairOf m a o with
  | some cs, some e => if 0 ≤ i ∧ i ≤ n ∧ lim (n + 1) = true ∧ a ≠ b ∧ a < m.next then
    some (.slice (some ⟨m.next, 0, none⟩) (n + 1) (n + 1), (m.kill b).alloc (.cells (cs.take (i.toNat * 2) ++ e ++ cs.drop (i.toNat * 2)) (.more 2)))
   else none
  | _, _ => none
 | _ => none
theorem ins_callOk {args : List Value} {m m' : AMem} {v : Value} (h : insRun args m = some (v, m')) {j : Inj} {w : World} {args' : List Value} (hm : MR E18o j m w) (hl : LR j args args') :
  CallOk E18o.P (E18o.prim 82).isSome 82 args'.toArray w (ValQ E18o j m w v m') := by
 unfold insRun at h
 split at h
 ·rename_i b n n' i a o c2
  split at h
  ·rename_i cs e hcs he
   obtain ⟨tg, hg, htg, rfl, hcl, hp⟩ := wholeOf_some hcs
   obtain ⟨vs, tv, hga, htv, hov, hpv, rfl⟩ := pairOf_some he
   split at h
   ·rename_i hc
    cases h
    obtain ⟨h1, h2, h3, h4, h5⟩ := hc
    obtain ⟨i, rfl⟩ := Int.eq_ofNat_of_zero_le h1
    have hin : i ≤ n := by omega
    simp only [Int.toNat_natCast]
    exact callOk_show E18o_ok hg htg (by decide) hcl hp (by simp only [List.length_append, List.length_take, List.length_drop]; omega)
     (plain_app (plain_app (plain_sub hp fun v hv => List.mem_of_mem_take hv) (plain_sub hpv fun v hv => List.mem_of_mem_drop (List.mem_of_mem_take hv))) (plain_sub hp fun v hv => List.mem_of_mem_drop hv))
     (ins_meets h5 h4 hga htv hov hpv hcl hp hin h3) hm hl
   ·cases h
  ·cases h
 ·cases h
def prims18 (f : FuncId) : Option Prim := if f = 95 then some ⟨ovRun⟩ else if f = 49 then some ⟨delRun⟩ else if f = 82 then some ⟨insRun⟩ else if f = 13 then some ⟨worksRun⟩ else none
noncomputable def E18w : Env := { E18 with prim := prims18 }
theorem to18w {f : FuncId} {args' : List Value} {j : Inj} {m m' : AMem} {w : World} {v : Value} (hp : (E18w.prim f).isSome = true) (h : CallOk E18o.P (E18o.prim f).isSome f args'.toArray w (ValQ E18o j m w v m')) :
  CallOk E18w.P (E18w.prim f).isSome f args'.toArray w (ValQ E18w j m w v m') :=
 callOk_mono (P := E18o.P) (fun _ => hp) h fun _ _ ⟨j', s, hv⟩ => ⟨j', Sim.env (E := E18o) (E' := E18w) rfl s, hv⟩
theorem E18w_ok : EnvOk E18w := envOk_of progOk18 fun f p hp args m v m' hrun j w args' hm hl => by
 have hm' : MR E18o j m w := MR.env (E := E18w) (E' := E18o) rfl hm
 have hsome : (E18w.prim f).isSome = true := by rw [hp]; rfl
 have hp' : prims18 f = some p := hp
 unfold prims18 at hp'
 split at hp'
 ·rename_i h; subst h; cases hp'
  refine to18w hsome ?_
  exact E18o_ok.prim 95 ⟨ovRun⟩ rfl args m v m' hrun j w args' hm' hl
 ·split at hp'
  ·rename_i h; subst h; cases hp'
   refine to18w hsome ?_
   exact del_callOk hrun hm' hl
  ·split at hp'
   ·rename_i h; subst h; cases hp'
    refine to18w hsome ?_
    exact ins_callOk hrun hm' hl
   ·split at hp'
    ·rename_i h; subst h; cases hp'
     exact callOk_mono (P := E18.P) (pr := (E18.prim 13).isSome) (fun _ => hsome) (works_callOk hrun (MR.env (E := E18w) (E' := E18) rfl hm) hl) fun _ _ ⟨j', s, hv⟩ => ⟨j', Sim.env (E := E18) (E' := E18w) rfl s, hv⟩
    ·cases hp'
end Go.Proofs.YtpclggcpobakhaaDoor
end

section
namespace Go.Proofs.YtpclggcpobakhaaDoor
open Go Go.Ab Go.Ab.W
set_option maxRecDepth 10000
set_option maxHeartbeats 4000000
attribute [local irreducible] Tm.at Trie.set Trie.get AMem.get AMem.set AMem.alloc AMem.ww AMem.kill
theorem sl_nn {P : Program} {ty e l c l' c' : Nat} (hu : P.underlying ty = some (.slice e)) : binA .eql ty P (.slice none l c) (.slice none l' c') = some (.bool true) := by
 simp only [binA, Op.maxDepth, eqA, hu, Option.map_some, Option.isNone_none]
theorem sl_sn {P : Program} {ty e l c l' c' : Nat} {A : Addr} (hu : P.underlying ty = some (.slice e)) : binA .eql ty P (.slice (some A) l c) (.slice none l' c') = some (.bool false) := by
 simp only [binA, Op.maxDepth, eqA, hu, Option.map_some]
theorem mu23 : E18w.P.underlying 23 = some (.slice 26) := by kernel_rfl
theorem ms23 : SlT E18w.P 23 26 2 := SlT.of (by kernel_rfl)
theorem mz26 : zeroA E18w.P 26 = some (.agg #[.int .i64 0, .int .i64 0]) := by kernel_rfl
theorem Rd.nil_len {m : AMem} {cap w n : Nat} {es : List (List Value)} (h : Rd m none cap w n es) : n = 0 := by
 rcases h.2.2 with ⟨_, h⟩ | ⟨_, _, h, _⟩ | ⟨_, _, h, _⟩
 ·exact h
 ·cases h
 ·cases h
theorem f26_ok (n : Nat) (l : List (Int × Int)) (a : Option Addr) (c : Nat) (r : List (Int × Int)) (hF : F26 n l = some r) (m : AMem) (h : Rd m a c 2 l.length (l.map (eP (eI .i64) (eI .i64)))) : CallA E18w 26 [.slice a l.length c] m (fun v m' => ∃ x : Option Addr × Nat, v = .slice x.1 x.2 x.2 ∧ Hp m m' [.sl x.1 2 x.2 (r.map (eP (eI .i64) (eI .i64)))]) := by
 unfold F26 at hF
 obtain ⟨hl, hF⟩ := gd_some hF
 cases hF
 cases a with
 | none =>
  have h0 := Rd.nil_len h
  have : l = [] := List.length_eq_zero_iff.1 h0
  subst this
  refine call_wk (m0 := m) (ps := []) (N := 8) (rs := [.tmp 2]) rfl Tryd.func26 rfl rfl rfl (Hp.start m) ?_
  refine Wk.seq ?_
  refine Wk.region ?_
  refine Wo.od (o_as rfl) rfl ?_
  refine Wo.nil ?_
  refine At.tn ?_
  refine Wk.seq ?_
  refine Wk.seq ?_
  refine Wk.region ?_
  refine Wo.od (o_mv rfl) rfl ?_
  refine Wo.od (o_bi rfl rfl (sl_nn mu23)) rfl ?_
  refine Wo.nil ?_
  refine At.tn ?_
  refine Wk.condT rfl rfl ?_
  refine Wk.seq ?_
  refine Wk.region ?_
  refine Wo.od (o_as rfl) rfl ?_
  refine Wo.nil ?_
  refine At.tn ?_
  refine Wk.ret ?_
  refine At.tr ?_
  exact At.ret (.tmp rfl .nil) fun m' hm => ⟨(none, 0), rfl, (Turn.nil 2 rfl) m' hm⟩
 | some A =>
  refine call_wk (m0 := m) (ps := [.rd (some A) c 2 l.length (l.map (eP (eI .i64) (eI .i64)))]) (N := 8) (rs := [.tmp 2]) rfl Tryd.func26 rfl rfl rfl ((Hp.start m).inn rfl h) ?_
  refine Wk.seq ?_
  refine Wk.region ?_
  refine Wo.od (o_as rfl) rfl ?_
  refine Wo.nil ?_
  refine At.tn ?_
  refine Wk.seq ?_
  refine Wk.seq ?_
  refine Wk.region ?_
  refine Wo.od (o_mv rfl) rfl ?_
  refine Wo.od (o_bi rfl rfl (sl_sn mu23)) rfl ?_
  refine Wo.nil ?_
  refine At.tn ?_
  refine Wk.condF rfl rfl ?_
  refine Wk.skip ?_
  refine At.tn ?_
  refine Wk.seq ?_
  refine Wk.region ?_
  refine Wo.x (o_bs (es := ([] : List (Int × Int)).map (eP (eI .i64) (eI .i64))) ms23 rfl (bs_c ms23 mz26 rfl rfl) rfl rfl) gn rfl fun b => ?_
  refine Wo.od (o_mv rfl) rfl ?_
  refine Wo.turn (Turn.close (k := 0) rfl) ?_
  refine Wo.x (o_apl (k := 0) (k2 := 1) (xs := ([] : List (Int × Int))) (ys := l) (enP (enI .i64) (enI .i64)) ms23 ⟨_, mu23⟩ rfl rfl rfl (.rd _ _ _ _ _) hl) gn rfl fun a2 => ?_
  refine Wo.od (o_as rfl) rfl ?_
  refine Wo.nil ?_
  refine At.tn ?_
  refine Wk.ret ?_
  exact At.ret (.tmp rfl .nil) fun m' hm => ⟨(a2, l.length), rfl, (Turn.picks [0] rfl rfl) m' hm⟩
end Go.Proofs.YtpclggcpobakhaaDoor
end

section
namespace Go.Proofs.YtpclggcpobakhaaDoor
open Go Go.Ab
set_option maxRecDepth 10000
theorem tz_specW (x : Nat) (hx : x < 2 ^ 64) (m : AMem) (hm : m.get 0 = some (.cells (tabInts.map (.int .u8)) .ro)) : CallA E18w 42 [.int .u64 (x : Int)] m (fun v m' => v = .int .i64 (tz x : Int) ∧ m' = m) := by
 refine CallA.enterM (N := 14) (rs := [.tmp 2]) rfl Tryd.func42 rfl rfl rfl ?_
 simp only [ofList_cons, ofList_nil]
 (repeat refine CodeA.seq ?_); refine CodeA.regionK fun K hK => ?_
 refine st_op rfl (o_assign (ev_int _ _)) (lt_b rfl) ?_
 refine hK _ _ ?_; clear hK K; try simp only [ta_normal]
 (repeat refine CodeA.seq ?_); refine CodeA.regionK fun K hK => ?_
 refine st_op rfl (o_move (ev_at (by repeat first | (apply at_skip; rfl) | exact at_hit _ _ _ | assumption))) (lt_b rfl) ?_
 refine st_op rfl (o_bin (ev_at (by repeat first | (apply at_skip; rfl) | exact at_hit _ _ _ | assumption)) (ev_int _ _) (bin_eql _ _ _)) (lt_b rfl) ?_
 refine hK _ _ ?_; clear hK K; try simp only [ta_normal]
 by_cases h0 : x = 0
 ·refine CodeA.cond (c := true) ((ev_at (by repeat first | (apply at_skip; rfl) | exact at_hit _ _ _ | assumption)).trans (by rw [h0]; rfl)) (fun _ => ?_) (fun h => by cases h)
  (repeat refine CodeA.seq ?_); refine CodeA.regionK fun K hK => ?_
  refine st_op rfl (o_assign (ev_int _ _)) (lt_b rfl) ?_
  refine hK _ _ ?_; clear hK K; try simp only [ta_normal]
  refine CodeA.ret ?_; simp only [ta_ret, ib_ret, em_ret, resultsA, resM_some, tupleA, Option.map_some, at_set, Nat.reduceEqDiff, reduceIte]
  rw [h0]
  exact ⟨by trivial, by trivial⟩
 ·have hp : 0 < x := by omega
  have hk := (tz_low hp hx).1
  refine CodeA.cond (c := false) ((ev_at (by repeat first | (apply at_skip; rfl) | exact at_hit _ _ _ | assumption)).trans (by rw [decide_eq_false (by omega)])) (fun h => by cases h) (fun _ => ?_)
  refine CodeA.skip ?_
  rw [ta_normal]
  (repeat refine CodeA.seq ?_); refine CodeA.regionK fun K hK => ?_
  refine st_op rfl (o_move (ev_at (by repeat first | (apply at_skip; rfl) | exact at_hit _ _ _ | assumption))) (lt_b rfl) ?_
  refine st_op rfl (o_move (ev_at (by repeat first | (apply at_skip; rfl) | exact at_hit _ _ _ | assumption))) (lt_b rfl) ?_
  refine st_op rfl (o_un (ev_at (by repeat first | (apply at_skip; rfl) | exact at_hit _ _ _ | assumption)) (neg_u64 x hp hx)) (lt_b rfl) ?_
  refine st_op rfl (o_bin (ev_at (by repeat first | (apply at_skip; rfl) | exact at_hit _ _ _ | assumption)) (ev_at (by repeat first | (apply at_skip; rfl) | exact at_hit _ _ _ | assumption)) (and_u64 x hp hx)) (lt_b rfl) ?_
  refine st_op rfl (o_bin (ev_at (by repeat first | (apply at_skip; rfl) | exact at_hit _ _ _ | assumption)) (ev_int _ _) (mul_db _)) (lt_b rfl) ?_
  refine st_op rfl (o_bin (ev_at (by repeat first | (apply at_skip; rfl) | exact at_hit _ _ _ | assumption)) (ev_int _ _) (shr_db _)) (lt_b rfl) ?_
  refine st_op rfl (o_indexAddr rfl (ev_at (by repeat first | (apply at_skip; rfl) | exact at_hit _ _ _ | assumption)) (idx_db _ hk)) (lt_b rfl) ?_
  refine st_op rfl (o_load (ev_at (by repeat first | (apply at_skip; rfl) | exact at_hit _ _ _ | assumption)) (load_db _ hk hm)) (lt_b rfl) ?_
  refine st_op rfl (o_conv (ev_at (by repeat first | (apply at_skip; rfl) | exact at_hit _ _ _ | assumption)) (conv_5_3 _ (Nat.lt_trans hk (by decide)))) (lt_b rfl) ?_
  refine st_op rfl (o_assign (ev_at (by repeat first | (apply at_skip; rfl) | exact at_hit _ _ _ | assumption))) (lt_b rfl) ?_
  refine hK _ _ ?_; clear hK K; try simp only [ta_normal]
  refine CodeA.ret ?_; simp only [ta_ret, ib_ret, em_ret, resultsA, resM_some, tupleA, Option.map_some, at_set, Nat.reduceEqDiff, reduceIte]
  exact ⟨by trivial, by trivial⟩
end Go.Proofs.YtpclggcpobakhaaDoor
end

section
namespace Go.Proofs.YtpclggcpobakhaaDoor
open Go Go.Ab Go.Ab.W
set_option maxRecDepth 10000
attribute [local irreducible] Tm.at Trie.set Trie.get AMem.get AMem.set AMem.alloc AMem.ww AMem.kill
def Gl (m : AMem) : Prop := m.get 0 = some (.cells (tabInts.map (.int .u8)) .ro) ∧ 0 < m.next
theorem Gl.ext {m m' : AMem} (h : Gl m) (e : Ext m m') : Gl m' := ⟨by rw [e.same 0 h.2]; exact h.1, Nat.lt_of_lt_of_le h.2 e.next⟩
theorem f42_ok (n x : Nat) (r : Int) (hF : F42 n x = some r) (m : AMem) (hG : Gl m) : CallA E18w 42 [.int .u64 ((x : Nat) : Int)] m (fun v m' => ∃ x : Unit, v = .int .i64 r ∧ Hp m m' []) := by
 unfold F42 at hF
 obtain ⟨hx, hF⟩ := gd_some hF
 cases hF
 exact (tz_specW x (of_decide_eq_true hx) m hG.1).mono fun v m' h => ⟨(), h.1, by rw [h.2]; exact Hp.start m⟩
end Go.Proofs.YtpclggcpobakhaaDoor
end

section
namespace Go.Proofs.YtpclggcpobakhaaDoor
open Go Go.Ab Go.Ab.W
set_option maxRecDepth 10000
attribute [local irreducible] Tm.at Trie.set Trie.get AMem.get AMem.set AMem.alloc AMem.ww AMem.kill
theorem plain_enc {l : List (Int × Int)} : ((l.map (eP (eI .i64) (eI .i64))).flatten).all plain1 = true := by
 induction l with
 | nil => rfl
 | cons x l ih => rw [List.map_cons, List.flatten_cons, List.all_append, ih]; rfl
theorem len_enc {l : List (Int × Int)} : ((l.map (eP (eI .i64) (eI .i64))).flatten).length = l.length * 2 := by
 induction l with
 | nil => rfl
 | cons x l ih => rw [List.map_cons, List.flatten_cons, List.length_append, ih, List.length_cons]; show 2 + _ = _; omega
theorem used {m0 m : AMem} {ps : List Pc} (h : Hp m0 m ps) {k b n n3 : Nat} {es es3 : List (List Value)} (hp : pk ps k = some (.sl (some ⟨b, 0, none⟩) 2 n es)) (hn : es3.length = n3) (hw : ∀ e ∈ es3, e.length = 2) :
  Hp m0 ((m.kill b).alloc (.cells es3.flatten (.more 2))) (pset ps k (.sl (some ⟨m.next, 0, none⟩) 2 n3 es3)) := by
 have hb : m0.next ≤ b := by
  rcases h.get hp with ⟨_, _, h3, _⟩ | ⟨b', tg, h1, h2⟩
  ·cases h3
  ·cases h1; exact h2.1
 have hk : Ext m0 (m.kill b) := ⟨by rw [AMem.next_kill]; exact h.ext.next, fun x hx => by rw [AMem.get_kill, if_neg (by omega)]; exact h.ext.same x hx, by
  rw [AMem.wl_kill]
  have := h.ext.wl; omega⟩
 refine h.renew hp (by rw [AMem.next_alloc, AMem.next_kill]; omega) (hk.alloc _) (.inr ⟨m.next, .more 2, rfl, h.ext.next, by rw [AMem.next_alloc, AMem.next_kill]; omega, by rw [AMem.get_alloc, AMem.next_kill, if_pos rfl], hn, hw, .inr rfl, by decide⟩) (fun b' hb' => ?_) rfl fun b' hb' hlt => ?_
 ·cases hb'; exact Nat.le_refl _
 ·rw [AMem.get_alloc, AMem.next_kill, if_neg (by omega), AMem.get_kill, if_neg (fun e => hb' (by rw [e]; rfl))]
theorem take_enc (l : List (Int × Int)) : ∀ i, ((l.map (eP (eI .i64) (eI .i64))).flatten).take (i * 2) = ((l.take i).map (eP (eI .i64) (eI .i64))).flatten := by
 induction l with
 | nil => intro i; simp
 | cons x l ih =>
  intro i
  cases i with
  | zero => simp
  | succ i =>
   rw [List.take_succ_cons, List.map_cons, List.map_cons, List.flatten_cons, List.flatten_cons, ← ih i, Nat.add_mul]
   show List.take (i * 2 + 2) (_ :: _ :: _) = _ :: _ :: _
   rw [List.take_succ_cons, List.take_succ_cons]; rfl
theorem drop_enc (l : List (Int × Int)) : ∀ i, ((l.map (eP (eI .i64) (eI .i64))).flatten).drop (i * 2) = ((l.drop i).map (eP (eI .i64) (eI .i64))).flatten := by
 induction l with
 | nil => intro i; simp
 | cons x l ih =>
  intro i
  cases i with
  | zero => simp
  | succ i =>
   rw [List.drop_succ_cons, List.map_cons, List.flatten_cons, ← ih i, Nat.add_mul]
   show List.drop (i * 2 + 2) (_ :: _ :: _) = _
   rw [List.drop_succ_cons, List.drop_succ_cons]; rfl
theorem whole_enc {m0 m : AMem} {ps : List Pc} (h : Hp m0 m ps) {k b : Nat} {l : List (Int × Int)} (hp : pk ps k = some (.sl (some ⟨b, 0, none⟩) 2 l.length (l.map (eP (eI .i64) (eI .i64))))) : wholeOf m b l.length l.length = some (l.map (eP (eI .i64) (eI .i64))).flatten := by
 rcases h.get hp with ⟨_, _, h3, _⟩ | ⟨b', tg, h1, h2⟩
 ·cases h3
 ·cases h1
  have hg := h2.2.2.1
  unfold wholeOf
  rcases h2.2.2.2.2.2.1 with rfl | rfl <;> simp only [hg] <;> rw [if_pos ⟨trivial, len_enc, plain_enc⟩]
theorem del_use {m0 m : AMem} {ps : List Pc} (h : Hp m0 m ps) {k b i j : Nat} {l : List (Int × Int)} (hp : pk ps k = some (.sl (some ⟨b, 0, none⟩) 2 l.length (l.map (eP (eI .i64) (eI .i64))))) (hij : i < j) (hj : j ≤ l.length) (hlim : lim l.length = true) :
  CallA E18w 49 [.slice (some ⟨b, 0, none⟩) l.length l.length, .int .i64 (i : Int), .int .i64 (j : Int)] m (fun v m' => ∃ x : Option Addr × Nat, v = .slice x.1 x.2 x.2 ∧ Hp m0 m' (pset ps k (.sl x.1 2 x.2 ((l.take i ++ l.drop j).map (eP (eI .i64) (eI .i64)))))) := by
 refine CallA.prim (p := ⟨delRun⟩) rfl (v := .slice (some ⟨m.next, 0, none⟩) (l.length - (j - i)) (l.length - (j - i))) (m' := (m.kill b).alloc (.cells ((l.take i ++ l.drop j).map (eP (eI .i64) (eI .i64))).flatten (.more 2))) ?_ ⟨(some ⟨m.next, 0, none⟩, l.length - (j - i)), rfl, used h hp (by simp; omega) fun e he => ?_⟩
 ·show delRun [.slice (some ⟨b, 0, none⟩) l.length l.length, .int .i64 (i : Int), .int .i64 (j : Int)] m = _
  simp only [delRun, whole_enc h hp]
  rw [if_pos ⟨by omega, by omega, by omega, hlim⟩]
  simp only [Int.toNat_natCast, take_enc, drop_enc, List.map_append, List.flatten_append]
 ·obtain ⟨x, _, rfl⟩ := List.mem_map.1 he
  rfl
theorem Hp.tail {m0 m : AMem} {p : Pc} {ps : List Pc} (h : Hp m0 m (p :: ps)) : Hp m0 m ps :=
 ⟨h.ext, fun q hq => h.ok q (List.mem_cons_of_mem _ hq), (List.pairwise_cons.1 h.apart).2⟩
theorem call_wkP {E : Env} {m0 : AMem} {ps : List Pc} {f : FuncId} {F : Func} {c : Code} {args : List Value} {rs : List ResultVar} {N : Nat} {R : Value → AMem → Prop} {m : AMem} (hp : primA E f args m = none) (hf : E.P.funcs[f]? = some F) (hb : F.body = some c) (hrs : F.results.toList = rs) (hN : max args.length F.ntmps = N)
  (hm : Hp m0 m ps) (h : Wk E N f none c (endM E rs R) m0 (argFs args 0 []) ps) : CallA E f args m R := by
 subst hN hrs
 refine CallA.enterP hp hf hb ((h _ m (Fr.args args 0 [] _ (Fr.nil _)) hm).mono fun e t' m' hq => ?_)
 cases e with
 | exit id => exact hq.elim
 | normal =>
  refine ⟨fun id h => (by cases h), ?_⟩
  simp only [endM] at hq
  unfold resM at hq
  split at hq
  ·rename_i vs hv; exact ⟨vs, hv, hq⟩
  ·exact hq.elim
 | ret =>
  refine ⟨fun id h => (by cases h), ?_⟩
  simp only [endM] at hq
  unfold resM at hq
  split at hq
  ·rename_i vs hv; exact ⟨vs, hv, hq⟩
  ·exact hq.elim
theorem pair_enc {m0 m : AMem} {ps : List Pc} (h : Hp m0 m ps) {k2 b2 : Nat} {x : Int × Int} {tg : Tag} (hp : pk ps k2 = some (.arr b2 2 1 ([x].map (eP (eI .i64) (eI .i64))) tg)) : pairOf m b2 0 = some (([x].map (eP (eI .i64) (eI .i64))).flatten) ∧ b2 < m.next := by
 have h2 := h.get hp
 refine ⟨?_, h2.2.1⟩
 have hg := h2.2.2.1
 unfold pairOf
 rcases h2.2.2.2.2.2.1 with rfl | rfl <;> simp only [hg] <;> rfl
theorem ins_use {m0 m : AMem} {ps : List Pc} (h : Hp m0 m ps) {k k2 b b2 i : Nat} {l : List (Int × Int)} {x : Int × Int} {tg : Tag} (hp : pk ps k = some (.sl (some ⟨b, 0, none⟩) 2 l.length (l.map (eP (eI .i64) (eI .i64))))) (hp2 : pk ps k2 = some (.arr b2 2 1 ([x].map (eP (eI .i64) (eI .i64))) tg)) (hk : k2 ≠ k) (hi : i ≤ l.length) (hlim : lim (l.length + 1) = true) :
  CallA E18w 82 [.slice (some ⟨b, 0, none⟩) l.length l.length, .int .i64 (i : Int), .slice (some ⟨b2, 0, none⟩) 1 1] m (fun v m' => ∃ y : Option Addr × Nat, v = .slice y.1 y.2 y.2 ∧ Hp m0 m' (pset ps k (.sl y.1 2 y.2 ((l.take i ++ [x] ++ l.drop i).map (eP (eI .i64) (eI .i64)))))) := by
 have hne : b2 ≠ b := fun e => apart_at h.apart hp2 hp hk (.inl rfl) b2 rfl (by rw [e]; rfl)
 obtain ⟨hpr, hlt⟩ := pair_enc h hp2
 refine CallA.prim (p := ⟨insRun⟩) rfl (v := .slice (some ⟨m.next, 0, none⟩) (l.length + 1) (l.length + 1)) (m' := (m.kill b).alloc (.cells ((l.take i ++ [x] ++ l.drop i).map (eP (eI .i64) (eI .i64))).flatten (.more 2))) ?_ ⟨(some ⟨m.next, 0, none⟩, l.length + 1), rfl, used h hp (by simp; omega) fun e he => ?_⟩
 ·show insRun [.slice (some ⟨b, 0, none⟩) l.length l.length, .int .i64 (i : Int), .slice (some ⟨b2, 0, none⟩) 1 1] m = _
  simp only [insRun, whole_enc h hp, hpr]
  rw [if_pos ⟨by omega, by omega, hlim, hne, hlt⟩]
  simp only [Int.toNat_natCast, take_enc, drop_enc, List.map_append, List.flatten_append]
 ·obtain ⟨x, _, rfl⟩ := List.mem_map.1 he
  rfl
theorem ins_nil {m0 m : AMem} {ps : List Pc} (h : Hp m0 m ps) {k k2 b2 : Nat} {x : Int × Int} {tg : Tag} (hp : pk ps k = some (.sl none 2 0 (([] : List (Int × Int)).map (eP (eI .i64) (eI .i64))))) (hp2 : pk ps k2 = some (.arr b2 2 1 ([x].map (eP (eI .i64) (eI .i64))) tg)) :
  CallA E18w 82 [.slice none 0 0, .int .i64 0, .slice (some ⟨b2, 0, none⟩) 1 1] m (fun v m' => ∃ y : Option Addr × Nat, v = .slice y.1 y.2 y.2 ∧ Hp m0 m' (pset ps k (.sl y.1 2 y.2 (([x] : List (Int × Int)).map (eP (eI .i64) (eI .i64)))))) := by
 refine call_wkP (m0 := m0) (ps := ps) (N := 95) (rs := [.tmp 6]) rfl Tryd.func82 rfl rfl rfl h ?_
 refine Wk.seq ?_
 refine Wk.region ?_
 refine Wo.od (o_as rfl) rfl ?_
 refine Wo.nil ?_
 refine At.tn ?_
 refine Wk.seq ?_
 refine Wk.region ?_
 refine Wo.od (o_mv rfl) rfl ?_
 refine Wo.od (o_mv rfl) rfl ?_
 refine Wo.turn (Turn.nilr 2) ?_
 refine Wo.x (o_srl (k := 0) (lo := 0) (hi := ((0 : Nat) : Int)) (xs := ([] : List (Int × Int))) (f := eP (eI .i64) (eI .i64)) ms23 rfl rfl rfl rfl (by decide) (.inr ⟨_, rfl⟩) (.inl ⟨rfl, rfl⟩)) gn rfl ?_
 rintro ⟨a2, c2⟩
 refine Wo.nil ?_
 refine At.tn ?_
 refine Wk.seq ?_
 refine Wk.region ?_
 refine Wo.od (o_mv rfl) rfl ?_
 refine Wo.od (o_ln (k := k2 + 2) mu23 rfl (by rw [pk_succ, pk_succ]; exact hp2) (.inl rfl)) rfl ?_
 refine Wo.od (o_as rfl) rfl ?_
 refine Wo.nil ?_
 refine At.tn ?_
 refine Wk.seq ?_
 refine Wk.seq ?_
 refine Wk.region ?_
 refine Wo.od (o_mv rfl) rfl ?_
 refine Wo.od (o_bi rfl rfl (bin_eql _ _ _)) rfl ?_
 refine Wo.nil ?_
 refine At.tn ?_
 refine Wk.condF rfl rfl ?_
 refine Wk.skip ?_
 refine At.tn ?_
 refine Wk.seq ?_
 refine Wk.region ?_
 refine Wo.od (o_mv rfl) rfl ?_
 refine Wo.od (o_ln0 mu23 rfl) rfl ?_
 refine Wo.od (o_as rfl) rfl ?_
 refine Wo.nil ?_
 refine At.tn ?_
 refine Wk.seq ?_
 refine Wk.seq ?_
 refine Wk.region ?_
 refine Wo.od (o_mv rfl) rfl ?_
 refine Wo.od (o_mv rfl) rfl ?_
 refine Wo.od (o_bi rfl rfl (bin_eql _ _ _)) rfl ?_
 refine Wo.nil ?_
 refine At.tn ?_
 refine Wk.condT rfl rfl ?_
 refine Wk.seq ?_
 refine Wk.region ?_
 refine Wo.od (o_mv rfl) rfl ?_
 refine Wo.od (o_mv rfl) rfl ?_
 refine Wo.x (o_apl (k := k + 2) (k2 := k2 + 2) (xs := ([] : List (Int × Int))) (ys := [x]) (enP (enI .i64) (enI .i64)) ms23 ⟨_, mu23⟩ rfl (by rw [pk_succ, pk_succ]; exact hp) (by rw [pk_succ, pk_succ]; exact hp2) (.arr _ _ _ _ _) rfl) gn rfl fun a3 => ?_
 refine Wo.od (o_as rfl) rfl ?_
 refine Wo.nil ?_
 refine At.tn ?_
 refine Wk.ret ?_
 refine At.tr ?_
 refine At.ret (.tmp rfl .nil) fun m' hm => ⟨(a3, 1), rfl, ?_⟩
 rw [pset_succ, pset_succ] at hm
 exact Hp.tail (Hp.tail hm)
theorem f82_use (n : Nat) {m0 m : AMem} {ps : List Pc} (h : Hp m0 m ps) {k k2 b2 : Nat} {a : Option Addr} {i : Int} {l r : List (Int × Int)} {x : Int × Int} {tg : Tag} (hp : pk ps k = some (.sl a 2 l.length (l.map (eP (eI .i64) (eI .i64))))) (hp2 : pk ps k2 = some (.arr b2 2 1 ([x].map (eP (eI .i64) (eI .i64))) tg)) (hk : Nat.beq k2 k = false) (hF : F82 n l i [x] = some r) :
  CallA E18w 82 [.slice a l.length l.length, .int .i64 i, .slice (some ⟨b2, 0, none⟩) 1 1] m (fun v m' => ∃ y : Option Addr × Nat, v = .slice y.1 y.2 y.2 ∧ Hp m0 m' (pset ps k (.sl y.1 2 y.2 (r.map (eP (eI .i64) (eI .i64)))))) := by
 unfold F82 at hF
 obtain ⟨h1, hF⟩ := gd_some hF
 obtain ⟨h2, hF⟩ := gd_some hF
 cases hF
 obtain ⟨h3, h4, _⟩ := okB_some h1
 obtain ⟨i, rfl⟩ := Int.eq_ofNat_of_zero_le h3
 have hi : i ≤ l.length := by omega
 cases a with
 | none =>
  have hl : l = [] := by
   rcases h.get hp with ⟨_, h0, _⟩ | ⟨b, tg, h0, _⟩
   ·exact List.map_eq_nil_iff.1 h0
   ·cases h0
  subst hl
  obtain rfl : i = 0 := by simpa using hi
  exact ins_nil h hp hp2
 | some A =>
  obtain ⟨b, rfl⟩ : ∃ b, A = ⟨b, 0, none⟩ := by
   rcases h.get hp with ⟨_, _, h0, _⟩ | ⟨b, tg, h0, _⟩
   ·cases h0
   ·cases h0; exact ⟨b, rfl⟩
  exact ins_use h hp hp2 (Nat.ne_of_beq_eq_false hk) hi h2
theorem f49_use (n : Nat) {m0 m : AMem} {ps : List Pc} (h : Hp m0 m ps) {k : Nat} {a : Option Addr} {i j : Int} {l r : List (Int × Int)} (hp : pk ps k = some (.sl a 2 l.length (l.map (eP (eI .i64) (eI .i64))))) (hF : F49 n l i j = some r) :
  CallA E18w 49 [.slice a l.length l.length, .int .i64 i, .int .i64 j] m (fun v m' => ∃ y : Option Addr × Nat, v = .slice y.1 y.2 y.2 ∧ Hp m0 m' (pset ps k (.sl y.1 2 y.2 (r.map (eP (eI .i64) (eI .i64)))))) := by
 unfold F49 at hF
 obtain ⟨h1, hF⟩ := gd_some hF
 obtain ⟨h2, hF⟩ := gd_some hF
 obtain ⟨h5, hF⟩ := gd_some hF
 cases hF
 obtain ⟨h3, h4, h6⟩ := okB_some h1
 have h2 := of_decide_eq_true h2
 obtain ⟨i, rfl⟩ := Int.eq_ofNat_of_zero_le h3
 obtain ⟨j, rfl⟩ := Int.eq_ofNat_of_zero_le (show 0 ≤ j by omega)
 obtain ⟨b, rfl⟩ : ∃ b, a = some ⟨b, 0, none⟩ := by
  rcases h.get hp with ⟨h0, _⟩ | ⟨b, tg, h0, _⟩
  ·omega
  ·exact ⟨b, h0⟩
 exact del_use h hp (by omega) (by omega) h5
theorem f13_ok (n : Nat) (r : Bool) (hF : F13 n = some r) (m : AMem) (hG : Gl m) : CallA E18w 13 [] m (fun v m' => ∃ x : Unit, v = .bool r ∧ Hp m m' []) := by
 cases hF
 refine CallA.prim (p := ⟨worksRun⟩) rfl (v := .bool true) (m' := m) ?_ ⟨(), rfl, Hp.start m⟩
 have ht : tabAt m = true := by
  unfold tabAt
  rw [hG.1]
  exact (by decide +kernel : eqTab (tabInts.map (.int .u8)) tabInts = true)
 show worksRun [] m = _
 simp only [worksRun, ht, if_true]
end Go.Proofs.YtpclggcpobakhaaDoor
end

section
namespace Go.Proofs.YtpclggcpobakhaaDoor
set_option maxRecDepth 100000
open Go Go.ChangeShapes Go.WideShapes Go.ChangeAt Go.WideMaps Go.WideElems Go.RowKit Go.Ab Go.Ab.W
theorem lv55 : lvs Tryd.prog 5 55 = some [.int .u8, .int .u8, .int .u16, .sl 103] := by kernel_rfl
theorem lv54 : lvs Tryd.prog 5 103 = some [.int .u8, .int .u8] := by kernel_rfl
theorem lv58 : lvs Tryd.prog 5 58 = some [.int .u8, .int .u8, .int .i64, .int .i64, .int .i64, .int .u8, .int .u8, .int .i64, .int .i64, .int .i64] := by kernel_rfl
theorem lu3 : Tryd.prog.underlying 3 = some (.int .i64) := by kernel_rfl
theorem lu5 : Tryd.prog.underlying 5 = some (.int .u8) := by kernel_rfl
theorem lu28 : Tryd.prog.underlying 28 = some (.int .u64) := by kernel_rfl
theorem lu58 : Tryd.prog.underlying 58 = some (.array 2 57) := by kernel_rfl
section
variable {H : Type} {enc : TypeId × Value → H} {W : World} {sp : Nat → Bool} {held : Bool} {v : Value} {d : DataW H} {p : List MemPlace} {base : Nat}
theorem dec54 : ∀ (n : Nat) (cs : List Value) (x : DataW H × List MemPlace), DataW.trod enc Tryd.prog W 0 sp held n 103 cs = some x → ∃ p : Nat × Nat, cs = eP (eN .u8) (eN .u8) p ∧ p.1 < 256 ∧ p.2 < 256 := by
 intro n cs x h
 obtain ⟨v1, cs, rfl, h1, h⟩ := all2_cons (lvs_trod 5 103 _ lv54 n _ x h)
 obtain ⟨v2, cs, rfl, h2, h⟩ := all2_cons h
 obtain rfl := all2_nil h
 obtain ⟨a, rfl, ha⟩ := raw_u8 h1
 obtain ⟨b, rfl, hb⟩ := raw_u8 h2
 exact ⟨(a, b), rfl, ha, hb⟩
theorem abs55 (hok : Value.okWide Tryd.prog W .any base 55 v) (hs : 0 < W.heap.size) (h : DataW.Trod enc Tryd.prog W 0 sp held 55 v d p) : ∃ (x1 x2 x3 : Nat) (l : List (Nat × Nat)) (a : Option Addr) (c : Nat),
  VR (injAll W) (.agg #[.int .u8 ((x1 : Nat) : Int), .int .u8 ((x2 : Nat) : Int), .int .u16 ((x3 : Nat) : Int), .slice a l.length c]) v ∧ x1 < 256 ∧ x2 < 256 ∧ x3 < 65536 ∧ (∀ q ∈ l, q.1 < 256 ∧ q.2 < 256) ∧ l.length ≤ maxLen ∧ Rd (memAll W) a c 2 l.length (l.map (eP (eN .u8) (eN .u8))) := by
 obtain ⟨cs, rfl, _⟩ := okWide_struct (t := 55) (fs := Tryd.prog.underlying 55 |>.elim #[] fun u => match u with | .struct fs => fs | _ => #[]) (by kernel_rfl) hok
 obtain ⟨n, h⟩ := h
 obtain ⟨v1, r, hr, h1, h⟩ := all2_cons (agg_leaves lv55 h)
 obtain ⟨v2, r, rfl, h2, h⟩ := all2_cons h
 obtain ⟨v3, r, rfl, h3, h⟩ := all2_cons h
 obtain ⟨v4, r, rfl, h4, h⟩ := all2_cons h
 obtain rfl := all2_nil h
 obtain ⟨x1, rfl, g1⟩ := raw_u8 h1
 obtain ⟨x2, rfl, g2⟩ := raw_u8 h2
 obtain ⟨x3, rfl, g3⟩ := raw_u16 h3
 obtain ⟨a, c, l, e1, e2, e3, e4⟩ := sl_abs (f := eP (eN .u8) (eN .u8)) (w := 2) (by kernel_rfl) (by omega) hs (fun q => rfl) dec54 h4
 refine ⟨x1, x2, x3, l, a, c, ?_, g1, g2, g3, e3, e4, e2⟩
 refine VR_agg (l := [.int .u8 ((x1 : Nat) : Int), .int .u8 ((x2 : Nat) : Int), .int .u16 ((x3 : Nat) : Int), .slice a l.length c]) ?_
 rw [hr]
 exact .cons (.int _ _) (.cons (.int _ _) (.cons (.int _ _) (.cons e1 (.nil _))))
theorem abs58 (hok : Value.okWide Tryd.prog W .any base 58 v) (h : DataW.Trod enc Tryd.prog W 0 sp held 58 v d p) : ∃ (x8 x9 : Nat) (x10 x11 x12 : Int) (x13 x14 : Nat) (x15 x16 x17 : Int),
  VR (injAll W) (.agg #[.int .u8 ((x8 : Nat) : Int), .int .u8 ((x9 : Nat) : Int), .int .i64 x10, .int .i64 x11, .int .i64 x12, .int .u8 ((x13 : Nat) : Int), .int .u8 ((x14 : Nat) : Int), .int .i64 x15, .int .i64 x16, .int .i64 x17]) v ∧ x8 < 256 ∧ x9 < 256 ∧ x13 < 256 ∧ x14 < 256 ∧
  (∀ q ∈ [x10, x11, x12, x15, x16, x17], -9223372036854775808 ≤ q ∧ q ≤ 9223372036854775807) := by
 obtain ⟨cs, rfl, _⟩ := okWide_array lu58 hok
 obtain ⟨n, h⟩ := h
 obtain ⟨v1, r, hr, h1, h⟩ := all2_cons (agg_leaves lv58 h)
 obtain ⟨v2, r, rfl, h2, h⟩ := all2_cons h
 obtain ⟨v3, r, rfl, h3, h⟩ := all2_cons h
 obtain ⟨v4, r, rfl, h4, h⟩ := all2_cons h
 obtain ⟨v5, r, rfl, h5, h⟩ := all2_cons h
 obtain ⟨v6, r, rfl, h6, h⟩ := all2_cons h
 obtain ⟨v7, r, rfl, h7, h⟩ := all2_cons h
 obtain ⟨v8, r, rfl, h8, h⟩ := all2_cons h
 obtain ⟨v9, r, rfl, h9, h⟩ := all2_cons h
 obtain ⟨v10, r, rfl, h10, h⟩ := all2_cons h
 obtain rfl := all2_nil h
 obtain ⟨x8, rfl, g8⟩ := raw_u8 h1
 obtain ⟨x9, rfl, g9⟩ := raw_u8 h2
 obtain ⟨x10, rfl, g10⟩ := raw_i64 h3
 obtain ⟨x11, rfl, g11⟩ := raw_i64 h4
 obtain ⟨x12, rfl, g12⟩ := raw_i64 h5
 obtain ⟨x13, rfl, g13⟩ := raw_u8 h6
 obtain ⟨x14, rfl, g14⟩ := raw_u8 h7
 obtain ⟨x15, rfl, g15⟩ := raw_i64 h8
 obtain ⟨x16, rfl, g16⟩ := raw_i64 h9
 obtain ⟨x17, rfl, g17⟩ := raw_i64 h10
 refine ⟨x8, x9, x10, x11, x12, x13, x14, x15, x16, x17, ?_, g8, g9, g13, g14, fun q hq => ?_⟩
 ·refine VR_agg (l := [.int .u8 ((x8 : Nat) : Int), .int .u8 ((x9 : Nat) : Int), .int .i64 x10, .int .i64 x11, .int .i64 x12, .int .u8 ((x13 : Nat) : Int), .int .u8 ((x14 : Nat) : Int), .int .i64 x15, .int .i64 x16, .int .i64 x17]) ?_
  rw [hr]
  exact LR.plain rfl
 ·simp only [List.mem_cons, List.not_mem_nil, or_false] at hq
  rcases hq with rfl | rfl | rfl | rfl | rfl | rfl <;> assumption
theorem abs28 (hok : Value.okWide Tryd.prog W .any base 28 v) (h : DataW.Trod enc Tryd.prog W 0 sp held 28 v d p) : ∃ n : Nat, v = .int .u64 ((n : Nat) : Int) ∧ n < 2 ^ 64 := by
 obtain ⟨k, rfl⟩ := okWide_int lu28 hok
 obtain ⟨n, h⟩ := h
 obtain ⟨m, e, _, hw⟩ := DataW.trod_int lu28 h
 exact raw_u64 (enc := enc) (P := Tryd.prog) (W := W) (base := 0) (sp := sp) (held := held) ⟨m, by cases e; rfl, hw⟩
theorem abs3 (hok : Value.okWide Tryd.prog W .any base 3 v) (h : DataW.Trod enc Tryd.prog W 0 sp held 3 v d p) : ∃ n : Int, v = .int .i64 n ∧ -9223372036854775808 ≤ n ∧ n ≤ 9223372036854775807 := by
 obtain ⟨k, rfl⟩ := okWide_int lu3 hok
 obtain ⟨n, h⟩ := h
 obtain ⟨m, e, _, hw⟩ := DataW.trod_int lu3 h
 exact raw_i64 (enc := enc) (P := Tryd.prog) (W := W) (base := 0) (sp := sp) (held := held) ⟨m, by cases e; rfl, hw⟩
theorem abs5 (hok : Value.okWide Tryd.prog W .any base 5 v) (h : DataW.Trod enc Tryd.prog W 0 sp held 5 v d p) : ∃ n : Nat, v = .int .u8 ((n : Nat) : Int) ∧ n < 256 := by
 obtain ⟨k, rfl⟩ := okWide_int lu5 hok
 obtain ⟨n, h⟩ := h
 obtain ⟨m, e, _, hw⟩ := DataW.trod_int lu5 h
 exact raw_u8 (enc := enc) (P := Tryd.prog) (W := W) (base := 0) (sp := sp) (held := held) ⟨m, by cases e; rfl, hw⟩
end
theorem lay18 : laidOutB Tryd.prog = true := by kernel_rfl
theorem rowed18 : mapsRowed Tryd.prog = true := by kernel_rfl
theorem sized18 : sizedB Tryd.prog = true := by kernel_rfl
theorem gl_all {W : World} (h : laidMetH Tryd.prog laid18 W) : Gl (memAll W) ∧ 0 < W.heap.size := by
 rw [MakeChecks.laidMetH_plain _ _ _ (by kernel_rfl)] at h
 obtain ⟨ps, hL, _⟩ := h
 have ht : (Tryd.prog.globals[0]?).map (·.type) = some 104 := by kernel_rfl
 obtain ⟨c, ty, fz, h1, h2⟩ := laid_ints (L := tabInts) (k := .u8) (N := 64) (t := 104) (e := 5) gTab ht (by kernel_rfl) (by kernel_rfl) (by kernel_rfl) (by kernel_rfl) rfl hL
 have hs : 0 < W.heap.size := (Array.getElem?_eq_some_iff.1 h1).1
 refine ⟨⟨?_, hs⟩, hs⟩
 rw [memAll_cells h1, h2, List.map_map]
 congr 2
theorem law_calls {H : Type} {enc : TypeId × Value → H} {f : FuncId} {fn : Func} {s : ChangeSpec} {W : World} {args : Array Value} {ds : List (DataW H)} {before : List MemPlace} {tb : TypeId} {fresh handsOn : Bool} {absArgs : List Value} (hpr : E18w.prim f = none)
  (hvars : s.vars = []) (hres : fn.resultTypes.toList = [tb]) (hrs : fn.resultTypes.size = 1) (htb : Tryd.prog.underlying tb = some .bool) (hpt : ∀ t ∈ fn.params.toList, t < Tryd.prog.types.size) (hfn : s.fn H ds = { results := [.lit (.bool true)], args := ds, vars := [] })
  (hW : DataW.Whole enc Tryd.prog fn.params.toList s.vars false W args.toList ds [] before) (hs : 0 < W.heap.size)
  (hl : LR (injAll W) absArgs args.toList) (hc : CallA E18w f absArgs (memAll W) (fun v m' => ∃ x : Unit, v = .bool true ∧ Hp (memAll W) m' [])) :
  Calls Tryd.prog f args W fun e W' => ∃ v, e = .returned v ∧ s.post enc Tryd.prog fn false fresh handsOn false W args v W' := by
 obtain ⟨v, m', ⟨fuel, hrun⟩, _, rfl, hm'⟩ := hc
 have hm : MR E18w (injAll W) (memAll W) W := mr_all hs
 have hcall := callsIn_wide.1 (calls_of_run E18w_ok hrun hpr hm hl)
 refine hcall.mono fun e W' ⟨v', he, j', sm, hv⟩ => ?_
 have hv' : v' = .bool true := plain1_eq rfl hv
 subst hv'
 have hwl : (memAll W).next ≤ m'.wl := by
  have h1 := hm'.ext.wl
  have h2 : min (memAll W).wl (memAll W).next = (memAll W).next := Nat.min_self _
  omega
 exact ⟨_, he, law_post lay18 rowed18 sized18 hvars hres hrs htb hpt hfn hW sm.calm (sm.grown hm hwl)⟩
end Go.Proofs.YtpclggcpobakhaaDoor
end

section
namespace Go.Proofs.YtpclggcpobakhaaDoor
open Go Go.Ab Go.Ab.W
def F60r (n : Nat) (l : List Int) (k : Int) : Option (List Int) :=
 match l with
 | [x] => gd (decide (1 ≤ k)) (gd (lim k.toNat) (some (List.replicate k.toNat x)))
 | _ => none
def F84 (n : Nat) (x1 : Nat) (x2 : Nat) : Option (Nat × Nat) :=
ob (some (uw .u64 ((uw .u64 (uw .u64 x1 &&& uw .u64 4294967295)) * (uw .u64 (uw .u64 x2 &&& uw .u64 4294967295))))) fun y3 =>
ob (some (uw .u64 ((ushr .u64 x1 32) * (uw .u64 (uw .u64 x2 &&& uw .u64 4294967295))))) fun y5 =>
ob (some (uw .u64 (uw .u64 (uw .u64 (y5 + (ushr .u64 y3 32))) &&& uw .u64 4294967295))) fun y7 =>
ob (some (uw .u64 ((uw .u64 (uw .u64 x1 &&& uw .u64 4294967295)) * (ushr .u64 x2 32)))) fun y9 =>
ob (some (uw .u64 ((uw .u64 ((ushr .u64 x1 32) * (ushr .u64 x2 32))) + (ushr .u64 (uw .u64 (y5 + (ushr .u64 y3 32))) 32)))) fun y11 =>
some (uw .u64 (y11 + (ushr .u64 (uw .u64 (y7 + y9)) 32)), uw .u64 (x1 * x2))
def F77 (n : Nat) (x1 : Nat) (x2 : Nat) : Option (Nat × Nat) :=
ob (F84 n x1 x2) fun (r4, r5) =>
some (r4, r5)
def L20_1 (n : Nat) (l38 : List Int) (v196 : Int) : (Nat × List (Int)) → Option ((Nat × List (Int)) ⊕ (List (Int))) := fun (v442, l443) =>
br (!decide (v442 = 0)) (
ob (F42 n v442) fun r468 =>
ob (
gd (inB r468 l38.length) (
ob (l443[r468.toNat]?) fun x480 =>
some ())) fun _ =>
some (.inl (uw .u64 (uw .u64 v442 &&& uw .u64 (usub .u64 v442 1)), (l443.set r468.toNat v196)))) (
some (.inr l443))
def L20_2 (n : Nat) (l38 : List Int) (x1 : Int) (l2 : List (Int × Int)) (x6 : Nat) : (List (Int) × Nat × Int × Nat) → Option ((List (Int) × Nat × Int × Nat) ⊕ (List (Int))) := fun (l193, v194, v196, v197) =>
br (!decide (v197 = 0)) (
ob (
some ()) fun _ =>
ob (
ob (
lpN (L20_1 n l38 v196) n (v197, l193)) fun l465 =>
some l465) fun l423 =>
ob (F56 n x1 l2 v194) fun r490 =>
ob (some (uw .u64 (uw .u64 v194 ||| uw .u64 (uw .u64 (uw .u64 r490 &&& uw .u64 x6))))) fun y491 =>
some (.inl (l423, y491, IntKind.wrap .i64 (v196 + 1), uw .u64 (uw .u64 r490 &&& uw .u64 x6)))) (
some (.inr l193))
def F20 (n : Nat) (x1 : Int) (l2 : List (Int × Int)) (x6 : Nat) (x7 : Int) : Option (List Int × Int) :=
ob (F55 n x1 l2 x6) fun r10 =>
br (!decide (r10 = 0)) (
some ([], r10)) (
ob (
br (decide (x7 < 0)) (
some true) (
br (decide (x1 ≤ x7)) (
some true) (
ob (F57 n x6 x7) fun r32 =>
some (!r32)))) fun v28 =>
br (v28) (
some ([], 2)) (
ob (F60r n ([-1]) x1) fun l38 =>
gd (decide (0 ≤ x7)) (
ob (
lpN (L20_2 n l38 x1 l2 x6) n (l38, ushl .u64 1 x7.toNat, 0, ushl .u64 1 x7.toNat)) fun l348 =>
some (l348, 0))))
end Go.Proofs.YtpclggcpobakhaaDoor
end

section
namespace Go.Ab.W
open Go Go.Ab
attribute [local irreducible] Tm.at Trie.set Trie.get AMem.get AMem.set AMem.alloc AMem.ww AMem.kill
def Gs (m : AMem) (a : Option Addr) (cap n : Nat) (gs : List (Int × List (Int × Int))) : Prop :=
 gs.length = n ∧ n ≤ cap ∧ ((a = none ∧ n = 0) ∨ ∃ b o, a = some ⟨b, o, none⟩ ∧ b < m.next ∧ ∃ all tg, m.get b = some (.cells all tg) ∧ (∀ sz, tg = .more sz → sz = 2) ∧
  ∀ i g, gs[i]? = some g → ∃ (ai : Option Addr) (ci : Nat), (all.drop (o + i * 2)).take 2 = [.int .i64 g.1, .slice ai g.2.length ci] ∧ Rd m ai ci 2 g.2.length (g.2.map (eP (eI .i64) (eI .i64))))
section
variable {E : Env} {n : Nat} {m0 m1 m m' : AMem} {fs : Fs} {ps : List Pc} {ops : Array Oper} {os : List Oper} {K : Tm → AMem → Prop} {x y : Operand} {ty : TypeId}
theorem Rd.ext {m m' : AMem} {a : Option Addr} {cap w n : Nat} {es : List (List Value)} (h : Rd m a cap w n es) (e : Ext m m') : Rd m' a cap w n es := h.of_get e.next fun b _ hb => e.same b hb
theorem Hp.base {m' : AMem} (hx : Ext m0 m1) (h : Hp m1 m' []) : Hp m0 m' [] := ⟨hx.trans h.ext, fun p hp => (by cases hp), .nil⟩
theorem Wo.gs {ty : TypeId} {p : String} {af : Array Edge} {d : Nat} {f : Operand} {g : FuncId} {ars : Array Operand} {ts : Array TypeId} {args : List Value} {l : List (Int × List (Int × Int))} (hf : ev E fs f = some (.func (.func g) #[] #[])) (ha : evs E fs ars.toList = some args)
  (hc : ∀ m, Hp m0 m ps → CallA E g args m (fun v m' => ∃ a : Option Addr, v = .slice a l.length l.length ∧ Ext m m' ∧ Gs m' a l.length l.length l)) (hd : Nat.blt d n = true)
  (k : ∀ m1 a, Ext m0 m1 → Gs m1 a l.length l.length l → Wo false E n ops K os m1 ((d, .slice a l.length l.length) :: fs) []) : Wo false E n ops K (⟨some d, .call ⟨.value f, ars, ts⟩, ty, p, af, none⟩ :: os) m0 fs ps := by
 have hd' : d < n := by rwa [Nat.blt_eq] at hd
 intro t m hfr hm
 have hw : wantedA ops ⟨some d, .call ⟨.value f, ars, ts⟩, ty, p, af, none⟩ t = true := rfl
 simp only [OpsM, hw, if_true]
 have hev : evalA E t f = some (.func (.func g) #[] #[]) := hfr.ev hf
 show callM E (evalA E t f) (evalAll E t ars.toList) m _
 rw [hev, hfr.evs ha, callM_func]
 refine (hc m hm).mono fun v m' ⟨a, e, h1, h2⟩ => ?_
 subst e
 rw [putT_some, if_pos hd']
 exact k m' a (hm.ext.trans h1) h2 _ m' hfr.set (Hp.start m')
end
end Go.Ab.W
end

section
namespace Go.Ab.W
open Go Go.Ab
attribute [local irreducible] Tm.at Trie.set Trie.get AMem.get AMem.set AMem.alloc AMem.ww AMem.kill
section
variable {α β : Type} [DecidableEq α]
def mfind (k : α) : List (α × β) → Nat → Option (Nat × β)
 | [], _ => none
 | e :: es, i => if k = e.1 then some (i, e.2) else mfind k es (i + 1)
def mget (xs : List (α × β)) (k : α) : Option β := (mfind k xs 0).map (·.2)
def mput (xs : List (α × β)) (k : α) (v : β) : List (α × β) :=
 match mfind k xs 0 with
 | some p => xs.set p.1 (k, v)
 | none => xs ++ [(k, v)]
def eM (kE : α → Value) (vE : β → Value) (p : α × β) : Value × Value := (kE p.1, vE p.2)
structure KeyE (P : Program) (kt : TypeId) (kE : α → Value) : Prop where
 eq : ∀ a b, eqA P Op.maxDepth kt (kE a) (kE b) = some (decide (a = b))
 ok : ∀ a, keyOk P kt (kE a) = true
 plain : ∀ a, plainV (kE a) = true
 same : ∀ a, Instr.sameBits 10000 (kE a) (kE a) = true
theorem findA_enc {P : Program} {kt : TypeId} {kE : α → Value} {vE : β → Value} (hk : KeyE P kt kE) (k : α) : ∀ (xs : List (α × β)) (i : Nat), findA P kt (kE k) (xs.map (eM kE vE)) i = some ((mfind k xs i).map fun p => (p.1, vE p.2))
 | [], _ => rfl
 | e :: es, i => by
  simp only [List.map_cons, findA, eM, hk.eq, mfind]
  by_cases h : k = e.1
  ·rw [decide_eq_true h, if_pos h]; rfl
  ·rw [decide_eq_false h, if_neg h]
   exact findA_enc hk k es (i + 1)
omit [DecidableEq α] in
theorem mapPut_enc {kE : α → Value} {vE : β → Value} (k : α) (v : β) : ∀ (xs : List (α × β)) (i : Nat), i < xs.length → mapPut (xs.map (eM kE vE)) i (kE k) (vE v) = (xs.set i (k, v)).map (eM kE vE)
 | [], i, h => by cases h
 | e :: es, 0, _ => rfl
 | e :: es, i + 1, h => by
  simp only [List.map_cons, mapPut, List.set_cons_succ]
  rw [mapPut_enc k v es i (by simpa using h)]
theorem mfind_lt (k : α) : ∀ (xs : List (α × β)) (i : Nat) (p : Nat × β), mfind k xs i = some p → i ≤ p.1 ∧ p.1 < i + xs.length ∧ xs[p.1 - i]? = some (k, p.2)
 | [], _, _, h => by cases h
 | e :: es, i, p, h => by
  unfold mfind at h
  split at h
  ·rename_i hk; cases h; subst hk; simp
  ·obtain ⟨h1, h2, h3⟩ := mfind_lt k es (i + 1) p h
   refine ⟨by omega, by simp; omega, ?_⟩
   obtain ⟨d, hd⟩ : ∃ d, p.1 - i = d + 1 := ⟨p.1 - i - 1, by omega⟩
   rw [hd, List.getElem?_cons_succ, ← h3]
   congr 1; omega
end
section
variable {E : Env} {n : Nat} {m0 m : AMem} {fs : Fs} {ps : List Pc} {x y z : Operand} {ty : TypeId}
variable {α β : Type} [DecidableEq α]
theorem look_enc {P : Program} {kt et b : Nat} {kE : α → Value} {vE : β → Value} {z0 : β} {xs : List (α × β)} {k : α} {c : Bool} (hu : P.underlying ty = some (.map kt et)) (hk : KeyE P kt kE) (hz : zeroA P et = some (vE z0)) (hzp : plainV (vE z0) = true) (hg : m.get b = some (.map (xs.map (eM kE vE)))) :
  lookupA P ty (.map (some b)) (kE k) c m = some (if c then .tuple #[vE ((mget xs k).getD z0), .bool (mget xs k).isSome] else vE ((mget xs k).getD z0)) := by
 simp only [lookupA, hu, mapOf, hg, hz, hk.ok, if_true, findA_enc hk, mget]
 cases mfind k xs 0 with
 | none => simp only [Option.map_none, hzp, if_true, Option.getD_none, Option.isSome_none]
 | some p => simp only [Option.map_some, Option.getD_some, Option.isSome_some]
theorem o_lk {kt et b q : Nat} {kE : α → Value} {vE : β → Value} {z0 : β} {xs : List (α × β)} {k : α} (hu : E.P.underlying ty = some (.map kt et)) (hk : KeyE E.P kt kE) (hz : zeroA E.P et = some (vE z0)) (hzp : plainV (vE z0) = true) (hx : ev E fs x = some (.map (some b))) (hy : ev E fs y = some (kE k)) (hp : pk ps q = some (.obj b (.map (xs.map (eM kE vE))))) :
  Od E m0 fs ps (.lookup ty x y false) (vE ((mget xs k).getD z0)) ps :=
 fun t m hf h => ⟨fun b' hb' => by
  simp only [readsAt, hf.ev hx] at hb'
  cases hb'; exact (h.get hp).2.1, fun K hK => by
  have := look_enc (c := false) (k := k) hu hk hz hzp (h.get hp).2.2
  unfold OperM
  simp only [isCall, opA, hf.ev hx, hf.ev hy, this, Option.map_some]
  exact hK m h⟩
theorem o_lkv {kt et b q : Nat} {kE : α → Value} {vE : β → Value} {z0 v : β} {xs : List (α × β)} {k : α} (hu : E.P.underlying ty = some (.map kt et)) (hk : KeyE E.P kt kE) (hz : zeroA E.P et = some (vE z0)) (hzp : plainV (vE z0) = true) (hx : ev E fs x = some (.map (some b))) (hy : ev E fs y = some (kE k)) (hp : pk ps q = some (.obj b (.map (xs.map (eM kE vE))))) (hv : some ((mget xs k).getD z0) = some v) :
  Od E m0 fs ps (.lookup ty x y false) (vE v) ps := by
 cases hv
 exact o_lk hu hk hz hzp hx hy hp
theorem o_mu {kt et b q : Nat} {kE : α → Value} {vE : β → Value} {xs : List (α × β)} {k : α} {v : β} (hu : E.P.underlying ty = some (.map kt et)) (hk : KeyE E.P kt kE) (hx : ev E fs x = some (.map (some b))) (hy : ev E fs y = some (kE k)) (hz : ev E fs z = some (vE v)) (hp : pk ps q = some (.obj b (.map (xs.map (eM kE vE))))) :
  Od E m0 fs ps (.mapUpdate ty x y z) undef (pset ps q (.obj b (.map ((mput xs k v).map (eM kE vE))))) :=
 fun t m hf h => ⟨fun b' hb' => by simp [readsAt] at hb', fun K hK => by
  have hg := (h.get hp).2.2
  have hup : mapUpdateA E.P ty (.map (some b)) (kE k) (vE v) m = some (m.set b (.map ((mput xs k v).map (eM kE vE)))) := by
   simp only [mapUpdateA, hu, hg, hk.ok, if_true, findA_enc hk, mput]
   cases hfd : mfind k xs 0 with
   | none => simp only [Option.map_none, List.map_append, List.map_cons, List.map_nil]; rfl
   | some p =>
    obtain ⟨h1, h2, h3⟩ := mfind_lt k xs 0 p hfd
    simp only [Nat.sub_zero] at h3
    have hst : staysOk (xs.map (eM kE vE)) p.1 (kE k) = true := by
     simp only [staysOk, List.getElem?_map, h3, Option.map_some, eM, hk.plain, hk.same, Bool.and_self]
    simp only [Option.map_some, hst, if_true]
    rw [mapPut_enc k v xs p.1 (by omega)]
  unfold OperM
  simp only [isCall, opA, hf.ev hx, hf.ev hy, hf.ev hz, hup, Option.map_some]
  exact hK _ (h.write hp rfl rfl rfl rfl ⟨(h.get hp).1, by rw [AMem.next_set]; exact (h.get hp).2.1, by rw [AMem.get_set, if_pos rfl]⟩)⟩
theorem Wk.label {fn : FuncId} {ro : Option Nat} {Q : AExit → Tm → AMem → Prop} {l : Nat} (h : At Q .normal m0 fs ps) : Wk E n fn ro (.label l) Q m0 fs ps := fun t m hf hm => .label (h t m hf hm)
theorem keyI {P : Program} {kt : TypeId} {k : IntKind} (hu : P.underlying kt = some (.int k)) : KeyE P kt (fun n : Int => .int k n) where
 eq := fun a b => by
  simp only [Op.maxDepth, eqA, hu, if_true]
  by_cases h : a = b
  ·subst h; simp
  ·simp [h]
 ok := fun a => by simp only [keyOk, hu]
 plain := fun a => rfl
 same := fun a => by simp [Instr.sameBits]
end
end Go.Ab.W
end

section
namespace Go.Proofs.YtpclggcpobakhaaDoor
open Go Go.Ab Go.Ab.W
end Go.Proofs.YtpclggcpobakhaaDoor
end

section
namespace Go.Proofs.YtpclggcpobakhaaDoor
open Go Go.Ab Go.Ab.W
def L39_1 (n : Nat) (l1 : List (Int)) (l5 : List (Int)) : Int → Option ((Int) ⊕ ((Unit) ⊕ (Unit))) := fun v11 =>
br (decide (v11 < (l1.length : Int))) (
gd (inB v11 l1.length) (
ob (l1[v11.toNat]?) fun x29 =>
gd (inB v11 l5.length) (
ob (l5[v11.toNat]?) fun x34 =>
br (!decide (x29 = x34)) (
some (.inr (.inl ()))) (
some (.inl (IntKind.wrap .i64 (v11 + 1))))))) (
some (.inr (.inr ())))
def F39 (n : Nat) (l1 : List (Int)) (l5 : List (Int)) : Option (Bool) :=
br (!decide ((l1.length : Int) = (l5.length : Int))) (
some false) (
ob (α := (Unit) ⊕ (Unit)) (
lpN (L39_1 n l1 l5) n 0) fun r38 => match r38 with
| .inl _ =>
some false
| .inr _ =>
some true)
end Go.Proofs.YtpclggcpobakhaaDoor
end

section
namespace Go.Proofs.YtpclggcpobakhaaDoor
open Go Go.Ab Go.Ab.W
end Go.Proofs.YtpclggcpobakhaaDoor
end

section
namespace Go.Ab.W
open Go Go.Ab
attribute [local irreducible] Tm.at Trie.set Trie.get AMem.get AMem.set AMem.alloc AMem.ww AMem.kill
def picksR (ps : List Pc) (j : Nat) (ks : List Nat) : Option (List Pc) :=
 match picks ps ks with
 | some qs => some (qs ++ ps.drop j)
 | none => none
theorem pk_drop : ∀ {ps : List Pc} {j : Nat} {r : Pc}, r ∈ ps.drop j → ∃ k, j ≤ k ∧ pk ps k = some r := by
 intro ps j r h
 obtain ⟨k, hk⟩ := mem_pk h
 refine ⟨j + k, by omega, ?_⟩
 have key : ∀ (ps : List Pc) (j k : Nat), pk (ps.drop j) k = pk ps (j + k) := by
  intro ps
  induction ps with
  | nil => intro j k; rw [List.drop_nil]; cases (j + k) <;> rfl
  | cons p l ih =>
   intro j k
   cases j with
   | zero => rw [List.drop_zero, Nat.zero_add]
   | succ j => rw [List.drop_succ_cons, ih, Nat.succ_add]; rfl
 rw [← key]; exact hk
section
variable {E : Env} {n : Nat} {m0 m : AMem} {fs : Fs} {ps ps' : List Pc} {x y z : Operand} {ty : TypeId}
theorem Turn.picksR (j : Nat) (ks : List Nat) (hnd : nodupN ks = true) (hlt : ks.all (fun k => Nat.blt k j) = true) (e : W.picksR ps j ks = some ps') : Turn m0 ps ps' := by
 intro m h
 unfold W.picksR at e
 split at e
 ·rename_i qs hq
  have e := Option.some.inj e
  subst e
  have h1 := h.picks ks hnd hq
  refine ⟨h.ext, fun p hp => ?_, List.pairwise_append.2 ⟨h1.apart, h.apart.sublist (List.drop_sublist _ _), fun p hp q hq' => ?_⟩⟩
  ·rcases List.mem_append.1 hp with hp | hp
   ·exact h1.ok p hp
   ·exact h.ok p (List.mem_of_mem_drop hp)
  ·obtain ⟨k, hk, hk2⟩ := picks_mem hq p hp
   obtain ⟨k', hk', hk2'⟩ := pk_drop hq'
   have := List.all_eq_true.1 hlt k hk
   rw [Nat.blt_eq] at this
   exact apart_at h.apart hk2 hk2' (by omega)
 ·cases e
theorem o_lnm {b q : Nat} {kt et : TypeId} {es : List (Value × Value)} {ars : Array Operand} (hu : E.P.underlying ty = some (.map kt et)) (ha : evs E fs ars.toList = some [.map (some b)]) (hp : pk ps q = some (.obj b (.map es))) :
  Od E m0 fs ps (.call ⟨.builtin .len, ars, #[ty]⟩) (.int .i64 (es.length : Int)) ps :=
 fun t m hf h => ⟨fun b' hb' => by
  simp only [readsAt, hf.evs ha] at hb'
  cases hb'; exact (h.get hp).2.1, fun K hK => by
  have : builtinA E.P .len #[ty] [.map (some b)] m = some (.int .i64 (es.length : Int), m) := by
   have ht : (#[ty] : Array TypeId)[0]? = some ty := rfl
   simp only [builtinA, ht, Option.bind_some, hu, mapOf, (h.get hp).2.2, Option.map_some]
  rw [Go.Ab.o_builtin (hf.evs ha) this]; exact hK m h⟩
theorem o_lnme {α : Type} {b q l : Nat} {kt et : TypeId} {xs : List α} {f : α → Value × Value} {ars : Array Operand} (hu : E.P.underlying ty = some (.map kt et)) (ha : evs E fs ars.toList = some [.map (some b)]) (hp : pk ps q = some (.obj b (.map (xs.map f)))) (hl : xs.length = l) :
  Od E m0 fs ps (.call ⟨.builtin .len, ars, #[ty]⟩) (.int .i64 (l : Int)) ps := by
 have := o_lnm (m0 := m0) hu ha hp
 rw [List.length_map, hl] at this
 exact this
theorem keyP {P : Program} {kt el : TypeId} {k : IntKind} (hu : P.underlying kt = some (.array 2 el)) (hk : known P el = true) (hs : sizeA P el = 1) (ha : isAggA P el = false) (he : P.underlying el = some (.int k)) : KeyE P kt (fun p : Int × Int => .agg #[.int k p.1, .int k p.2]) where
 eq := fun a b => by
  rw [eq_i2 hu hk hs ha he]
  congr 1
  by_cases h : a = b
  ·subst h; simp
  ·have : ¬ (a.1 = b.1 ∧ a.2 = b.2) := fun ⟨h1, h2⟩ => h (Prod.ext h1 h2)
   rw [decide_eq_false h, ← Bool.decide_and, decide_eq_false this]
 ok := fun a => by
  have hkk : keyKind P el = true := by simp only [keyKind, he]
  simp only [keyOk, hu, hkk, hk, hs, Bool.true_and]
  rfl
 plain := fun a => rfl
 same := fun a => by simp [Instr.sameBits]
end
end Go.Ab.W
end

section
namespace Go.Proofs.YtpclggcpobakhaaDoor
open Go Go.Ab Go.Ab.W
def L76_1 (n : Nat) (x1329 : Int) (x1328 : Int) (rec0 : (List (Int × Int) × List (Int × Int) × List ((Int × Int) × Bool) × Nat) → (Int × Int) → Option (List (Int × Int) × List (Int × Int) × List ((Int × Int) × Bool) × Nat)) : (Nat × List (Int × Int) × List (Int × Int) × List ((Int × Int) × Bool) × Nat × Int) → Option ((Nat × List (Int × Int) × List (Int × Int) × List ((Int × Int) × Bool) × Nat × Int) ⊕ (List (Int × Int) × List (Int × Int) × List ((Int × Int) × Bool) × Nat × Int)) := fun (v1785, l1786, l1787, l1788, v1789, v1790) =>
br (!decide (v1785 = 0)) (
ob (F42 n v1785) fun r1904 =>
ob (
br (decide (r1904 = x1329)) (
some (l1786, l1787, l1788, v1789, v1790)) (
ob (some ((mget l1786 r1904).getD (0 : Int))) fun y1956 =>
br (decide (0 < y1956)) (
ob (some ((mget l1787 x1328).getD (0 : Int))) fun y1959 =>
ob (some ((mget l1786 r1904).getD (0 : Int))) fun y1961 =>
some (l1786, (mput l1787 x1328 (mi y1959 y1961)), l1788, v1789, v1790)) (
ob (rec0 (l1786, l1787, l1788, v1789) (r1904, x1328)) fun (l1963, l1964, l1965, v1966) =>
ob (some ((mget l1964 x1328).getD (0 : Int))) fun y1968 =>
ob (some ((mget l1964 r1904).getD (0 : Int))) fun y1970 =>
ob (
ob (some ((mget (mput l1964 x1328 (mi y1968 y1970)) r1904).getD (0 : Int))) fun y1978 =>
ob (some ((mget l1963 x1328).getD (0 : Int))) fun y1980 =>
br (decide (y1980 < y1978)) (
some (mput l1965 (mi x1328 r1904, ma x1328 r1904) true)) (
some l1965)) fun l1977 =>
ob (
br (decide (0 ≤ x1329)) (
ob (some ((mget (mput l1964 x1328 (mi y1968 y1970)) r1904).getD (0 : Int))) fun y1992 =>
ob (some ((mget l1963 x1328).getD (0 : Int))) fun y1994 =>
some (decide (y1994 ≤ y1992))) (
some false)) fun v1990 =>
br (v1990) (
gd (decide (0 ≤ x1328)) (
some (l1963, (mput l1964 x1328 (mi y1968 y1970)), l1977, uw .u64 (uw .u64 v1966 ||| uw .u64 (ushl .u64 1 x1328.toNat)), IntKind.wrap .i64 (v1790 + 1)))) (
some (l1963, (mput l1964 x1328 (mi y1968 y1970)), l1977, v1966, IntKind.wrap .i64 (v1790 + 1)))))) fun (l1950, l1951, l1952, v1953, v1954) =>
some (.inl (uw .u64 (uw .u64 v1785 &&& uw .u64 (usub .u64 v1785 1)), l1950, l1951, l1952, v1953, v1954))) (
some (.inr (l1786, l1787, l1788, v1789, v1790)))
def R76b (n : Nat) (rec0 : (List (Int × Int) × List (Int × Int) × List ((Int × Int) × Bool) × Nat) → (Int × Int) → Option (List (Int × Int) × List (Int × Int) × List ((Int × Int) × Bool) × Nat)) (l16 : List Nat) (x6 : Nat) : (List (Int × Int) × List (Int × Int) × List ((Int × Int) × Bool) × Nat) → (Int × Int) → Option (List (Int × Int) × List (Int × Int) × List ((Int × Int) × Bool) × Nat) := fun (l651, l652, l653, v654) (x1328, x1329) =>
ob (some (l651.length)) fun y1336 =>
ob (some ((mget (mput l651 x1328 (IntKind.wrap .i64 ((y1336 : Int) + 1))) x1328).getD (0 : Int))) fun y1338 =>
gd (inB x1328 l16.length) (
ob (l16[x1328.toNat]?) fun x1345 =>
ob (
some ()) fun _ =>
ob (
ob (
lpN (L76_1 n x1329 x1328 rec0) n (uw .u64 (uw .u64 x1345 &&& uw .u64 x6), (mput l651 x1328 (IntKind.wrap .i64 ((y1336 : Int) + 1))), (mput l652 x1328 y1338), l653, v654, 0)) fun (l1897, l1898, l1899, v1900, v1901) =>
some (l1897, l1898, l1899, v1900, v1901)) fun (l1678, l1679, l1680, v1681, v1682) =>
ob (
br (decide (x1329 < 0)) (
some (decide (1 < v1682))) (
some false)) fun v2007 =>
br (v2007) (
gd (decide (0 ≤ x1328)) (
some (l1678, l1679, l1680, uw .u64 (uw .u64 v1681 ||| uw .u64 (ushl .u64 1 x1328.toNat))))) (
some (l1678, l1679, l1680, v1681)))
def R76 (n : Nat) (l16 : List Nat) (x6 : Nat) : Nat → (List (Int × Int) × List (Int × Int) × List ((Int × Int) × Bool) × Nat) → (Int × Int) → Option (List (Int × Int) × List (Int × Int) × List ((Int × Int) × Bool) × Nat)
 | 0 => fun _ _ => none
 | k + 1 => R76b n (R76 n l16 x6 k) l16 x6
def L18_1 (n : Nat) (l2203 : List Nat) (x6 : Nat) : (Nat × List ((Int × Int) × Bool) × Nat × List (Int × Int) × List (Int × Int)) → Option ((Nat × List ((Int × Int) × Bool) × Nat × List (Int × Int) × List (Int × Int)) ⊕ (List ((Int × Int) × Bool) × Nat × List (Int × Int) × List (Int × Int))) := fun (v2346, l2347, v2348, l2349, l2350) =>
br (!decide (v2346 = 0)) (
ob (F42 n v2346) fun r2387 =>
ob (
ob (some ((mget l2349 r2387).getD (0 : Int))) fun y2400 =>
br (decide (y2400 = 0)) (
ob (R76 n l2203 x6 n (l2349, l2350, l2347, v2348) (r2387, -1)) fun (l2403, l2404, l2405, v2406) =>
some (l2405, v2406, l2403, l2404)) (
some (l2347, v2348, l2349, l2350))) fun (l2396, v2397, l2398, l2399) =>
some (.inl (uw .u64 (uw .u64 v2346 &&& uw .u64 (usub .u64 v2346 1)), l2396, v2397, l2398, l2399))) (
some (.inr (l2347, v2348, l2349, l2350)))
def L18_2 (n : Nat) (l2 : List (Int × Int)) (l2196 : List ((Int × Int) × Bool)) : (List (Int × Int) × Int) → Option ((List (Int × Int) × Int) ⊕ (List (Int × Int))) := fun (l2449, v2451) =>
br (decide (v2451 < (l2.length : Int))) (
ob (
gd (inB v2451 l2.length) (
ob (l2[v2451.toNat]?) fun (x2507, x2508) =>
ob (some ((mget l2196 (x2507, x2508)).getD false)) fun y2511 =>
br (y2511) (
gd (lim (l2449 ++ [(x2507, x2508)]).length) (
some (l2449 ++ [(x2507, x2508)]))) (
some l2449))) fun l2502 =>
some (.inl (l2502, IntKind.wrap .i64 (v2451 + 1)))) (
some (.inr l2449))
def F18 (n : Nat) (x1 : Int) (l2 : List (Int × Int)) (x6 : Nat) : Option (List (Int × Int) × Int) :=
ob (F55 n x1 l2 x6) fun r9 =>
br (!decide (r9 = 0)) (
some ([], r9)) (
ob (
ob (F75 n x1 l2) fun l2203 =>
ob (
some (([] : List ((Int × Int) × Bool)), ([] : List (Int × Int)), ([] : List (Int × Int)))) fun (l2215, l2216, l2217) =>
ob (
ob (
lpN (L18_1 n l2203 x6) n (x6, l2215, 0, l2216, l2217)) fun (l2381, v2382, l2383, l2384) =>
some (l2381, v2382, l2383, l2384)) fun (l2317, v2318, l2319, l2320) =>
some (l2317, v2318)) fun (l2196, v2197) =>
ob (
lpN (L18_2 n l2 l2196) n (([] : List (Int × Int)), 0)) fun l2486 =>
some (l2486, 0))
def L36_1 (n : Nat) (l2 : List (Int × Int)) (x6 : Nat) (x1 : Int) : (List (Int × Int) × Int) → Option ((List (Int × Int) × Int) ⊕ (List (Int × Int))) := fun (l88, v90) =>
br (decide (v90 < (l2.length : Int))) (
ob (
gd (inB v90 l2.length) (
ob (l2[v90.toNat]?) fun (x212, x213) =>
gd (inB v90 l2.length) (
ob (
ob (F67 n x6 x212) fun r228 =>
br (r228) (
ob (F67 n x6 x213) fun r231 =>
br (r231) (
ob (F71 n x1 l2 x6 x212 v90) fun r234 =>
ob (F67 n r234 x213) fun r236 =>
some (!r236)) (
some false)) (
some false)) fun v226 =>
br (v226) (
gd (inB v90 l2.length) (
gd (lim (l88 ++ [(x212, x213)]).length) (
some (l88 ++ [(x212, x213)])))) (
some l88)))) fun l207 =>
some (.inl (l207, IntKind.wrap .i64 (v90 + 1)))) (
some (.inr l88))
def F36 (n : Nat) (x1 : Int) (l2 : List (Int × Int)) (x6 : Nat) : Option (List (Int × Int) × Int) :=
ob (F66 n x1 l2 x6) fun r9 =>
br (!decide (r9 = 0)) (
some ([], r9)) (
ob (
lpN (L36_1 n l2 x6 x1) n (([] : List (Int × Int)), 0)) fun l169 =>
some (l169, 0))
def L19_1 (n : Nat) (l235 : List Nat) (x6 : Nat) : (Nat × List ((Int × Int) × Bool) × Nat × List (Int × Int) × List (Int × Int)) → Option ((Nat × List ((Int × Int) × Bool) × Nat × List (Int × Int) × List (Int × Int)) ⊕ (List ((Int × Int) × Bool) × Nat × List (Int × Int) × List (Int × Int))) := fun (v378, l379, v380, l381, l382) =>
br (!decide (v378 = 0)) (
ob (F42 n v378) fun r419 =>
ob (
ob (some ((mget l381 r419).getD (0 : Int))) fun y432 =>
br (decide (y432 = 0)) (
ob (R76 n l235 x6 n (l381, l382, l379, v380) (r419, -1)) fun (l435, l436, l437, v438) =>
some (l437, v438, l435, l436)) (
some (l379, v380, l381, l382))) fun (l428, v429, l430, l431) =>
some (.inl (uw .u64 (uw .u64 v378 &&& uw .u64 (usub .u64 v378 1)), l428, v429, l430, l431))) (
some (.inr (l379, v380, l381, l382)))
def F19 (n : Nat) (x1 : Int) (l2 : List (Int × Int)) (x6 : Nat) : Option (Nat × Int) :=
ob (F55 n x1 l2 x6) fun r9 =>
br (!decide (r9 = 0)) (
some (0, r9)) (
ob (
ob (F75 n x1 l2) fun l235 =>
ob (
some (([] : List ((Int × Int) × Bool)), ([] : List (Int × Int)), ([] : List (Int × Int)))) fun (l247, l248, l249) =>
ob (
ob (
lpN (L19_1 n l235 x6) n (x6, l247, 0, l248, l249)) fun (l413, v414, l415, l416) =>
some (l413, v414, l415, l416)) fun (l349, v350, l351, l352) =>
some (l349, v350)) fun (l228, v229) =>
some (v229, 0))
def L37_1 (n : Nat) (x1 : Int) (x6 : Nat) (l2 : List (Int × Int)) (l12 : List Nat) : (Nat × Int) → Option ((Nat × Int) ⊕ (Nat)) := fun (v17, v18) =>
br (decide (v18 < x1)) (
ob (
ob (
ob (F67 n x6 v18) fun r111 =>
br (r111) (
ob (F68 n v18) fun r114 =>
ob (F70 n x1 l2 (uandn .u64 x6 r114)) fun l116 =>
some (decide ((l12.length : Int) < (l116.length : Int)))) (
some false)) fun v109 =>
br (v109) (
ob (F68 n v18) fun r123 =>
some (uw .u64 (uw .u64 v17 ||| uw .u64 r123))) (
some v17)) fun v99 =>
some (.inl (v99, IntKind.wrap .i64 (v18 + 1)))) (
some (.inr v17))
def F37 (n : Nat) (x1 : Int) (l2 : List (Int × Int)) (x6 : Nat) : Option (Nat × Int) :=
ob (F66 n x1 l2 x6) fun r9 =>
br (!decide (r9 = 0)) (
some (0, r9)) (
ob (F70 n x1 l2 x6) fun l12 =>
ob (
lpN (L37_1 n x1 x6 l2 l12) n (0, 0)) fun v73 =>
some (v73, 0))
def L38_1 (n : Nat) (x1 : Int) : (List (Int) × Int) → Option ((List (Int) × Int) ⊕ (List (Int))) := fun (l42, v44) =>
br (decide (v44 < x1)) (
gd (lim (l42 ++ [-1]).length) (
some (.inl ((l42 ++ [-1]), IntKind.wrap .i64 (v44 + 1))))) (
some (.inr l42))
def L38_2 (n : Nat) (l2 : List (Int × Int)) (x6 : Nat) (l52 : List (Int)) (v716 : Int) : (List (Int) × Int) → Option ((List (Int) × Int) ⊕ (List (Int))) := fun (l1581, v1582) =>
br (decide (v1582 < (l2.length : Int))) (
ob (
gd (inB v1582 l2.length) (
ob (l2[v1582.toNat]?) fun (x1907, x1908) =>
gd (inB v1582 l2.length) (
ob (
ob (F67 n x6 x1907) fun r1932 =>
br (!r1932) (
some true) (
ob (F67 n x6 x1908) fun r1935 =>
some (!r1935))) fun v1930 =>
br (v1930) (
some l1581) (
ob (
ob (
gd (inB x1907 l52.length) (
ob (l1581[x1907.toNat]?) fun x1971 =>
br (decide (x1971 = v716)) (
gd (inB x1908 l52.length) (
ob (l1581[x1908.toNat]?) fun x1975 =>
some (decide (x1975 < 0)))) (
some false))) fun v1969 =>
br (v1969) (
gd (inB x1908 l52.length) (
ob (l1581[x1908.toNat]?) fun x1981 =>
some (l1581.set x1908.toNat (IntKind.wrap .i64 (v716 + 1))))) (
some l1581)) fun l1961 =>
ob (
gd (inB x1908 l52.length) (
ob (l1961[x1908.toNat]?) fun x1995 =>
br (decide (x1995 = v716)) (
gd (inB x1907 l52.length) (
ob (l1961[x1907.toNat]?) fun x1999 =>
some (decide (x1999 < 0)))) (
some false))) fun v1993 =>
br (v1993) (
gd (inB x1907 l52.length) (
ob (l1961[x1907.toNat]?) fun x2005 =>
some (l1961.set x1907.toNat (IntKind.wrap .i64 (v716 + 1))))) (
some l1961))))) fun l1903 =>
some (.inl (l1903, IntKind.wrap .i64 (v1582 + 1)))) (
some (.inr l1581))
def L38_3 (n : Nat) (x1 : Int) (l2 : List (Int × Int)) (x6 : Nat) (l52 : List (Int)) : (List (Int) × Int) → Option ((List (Int) × Int) ⊕ (List (Int))) := fun (l715, v716) =>
br (decide (v716 < x1)) (
ob (
lpN (L38_2 n l2 x6 l52 v716) n (l715, 0)) fun l1797 =>
some (.inl (l1797, IntKind.wrap .i64 (v716 + 1)))) (
some (.inr l715))
def F38 (n : Nat) (x1 : Int) (l2 : List (Int × Int)) (x6 : Nat) (x7 : Int) : Option (List Int × Int) :=
ob (F66 n x1 l2 x6) fun r10 =>
br (!decide (r10 = 0)) (
some ([], r10)) (
ob (
br (decide (x7 < 0)) (
some true) (
br (decide (x1 ≤ x7)) (
some true) (
ob (F67 n x6 x7) fun r32 =>
some (!r32)))) fun v28 =>
br (v28) (
some ([], 2)) (
ob (
lpN (L38_1 n x1) n (([] : List (Int)), 0)) fun l52 =>
gd (inB x7 l52.length) (
ob (l52[x7.toNat]?) fun x64 =>
ob (
lpN (L38_3 n x1 l2 x6 l52) n ((l52.set x7.toNat 0), 0)) fun l1365 =>
some (l1365, 0))))
def L5_1 (n : Nat) (x19 : Int) (y1779 : Int) (x1269 : Int) (l1270 : List (Int × Int)) (x1731 : Nat) : Int → Option ((Int) ⊕ ((Unit) ⊕ (Unit))) := fun v1782 =>
br (decide (v1782 < 2)) (
gd (inB v1782 2) (
ob ([x19, y1779][v1782.toNat]?) fun x1855 =>
ob (F20 n x1269 l1270 x1731 x1855) fun (l1859, r1862) =>
ob (F38 n x1269 l1270 x1731 x1855) fun (l1864, r1867) =>
ob (
br (!decide (r1862 = r1867)) (
some true) (
ob (F39 n l1859 l1864) fun r1874 =>
some (!r1874))) fun v1871 =>
br (v1871) (
some (.inr (.inl ()))) (
some (.inl (IntKind.wrap .i64 (v1782 + 1)))))) (
some (.inr (.inr ())))
def L5_2 (n : Nat) (r1277 : Nat) (r1278 : Nat) (x1269 : Int) (l1270 : List (Int × Int)) (x20 : Nat) (x19 : Int) : Int → Option ((Int) ⊕ ((Unit) ⊕ (Unit))) := fun v1280 =>
br (decide (v1280 < 2)) (
gd (inB v1280 2) (
ob ([r1277, r1278][v1280.toNat]?) fun x1731 =>
ob (F18 n x1269 l1270 x1731) fun (l1735, r1738) =>
ob (F36 n x1269 l1270 x1731) fun (l1740, r1743) =>
ob (F19 n x1269 l1270 x1731) fun (r1745, r1746) =>
ob (F37 n x1269 l1270 x1731) fun (r1748, r1749) =>
ob (
br (!decide (r1738 = r1743)) (
some true) (
ob (F34 n l1735 l1740) fun r1772 =>
br (!r1772) (
some true) (
br (!decide (r1745 = r1748)) (
some true) (
some (!decide (r1746 = r1749)))))) fun v1769 =>
br (v1769) (
some (.inr (.inl ()))) (
gd (decide (ma (mi x1269 (64 : Int)) (1 : Int) ≠ 0)) (
ob (some (Int.tmod (IntKind.wrap .i64 ((x20 : Nat) : Int)) (ma (mi x1269 (64 : Int)) (1 : Int)))) fun y1779 =>
ob (α := (Unit) ⊕ (Unit)) (
lpN (L5_1 n x19 y1779 x1269 l1270 x1731) n 0) fun r1879 => match r1879 with
| .inl _ =>
some (.inr (.inl ()))
| .inr _ =>
some (.inl (IntKind.wrap .i64 (v1280 + 1))))))) (
some (.inr (.inr ())))
def L5_3 (n : Nat) (r24 : Int) (l25 : List (Int × Int)) (r28 : Int) (l29 : List (Int × Int)) (r32 : Int) (l33 : List (Int × Int)) (x18 : Nat) (x20 : Nat) (x19 : Int) : Int → Option ((Int) ⊕ ((Unit) ⊕ (Unit))) := fun v652 =>
br (decide (v652 < 3)) (
gd (inB v652 3) (
ob ([(r24, l25), (r28, l29), (r32, l33)][v652.toNat]?) fun (x1269, l1270) =>
ob (F29 n x1269 l1270 x18) fun (r1277, r1278) =>
ob (α := (Unit) ⊕ (Unit)) (
lpN (L5_2 n r1277 r1278 x1269 l1270 x20 x19) n 0) fun r1881 => match r1881 with
| .inl _ =>
some (.inr (.inl ()))
| .inr _ =>
some (.inl (IntKind.wrap .i64 (v652 + 1))))) (
some (.inr (.inr ())))
def F5 (n : Nat) (x1 : Nat) (x2 : Nat) (x3 : Nat) (l4 : List (Nat × Nat)) (x8 : Nat) (x9 : Nat) (x10 : Int) (x11 : Int) (x12 : Int) (x13 : Nat) (x14 : Nat) (x15 : Int) (x16 : Int) (x17 : Int) (x18 : Nat) (x19 : Int) (x20 : Nat) : Option (Bool) :=
ob (F28 n x1 x2 x3 l4 x8 x9 x10 x11 x12 x13 x14 x15 x16 x17) fun (r24, l25, r28, l29, r32, l33) =>
ob (α := (Unit) ⊕ (Unit)) (
lpN (L5_3 n r24 l25 r28 l29 r32 l33 x18 x20 x19) n 0) fun r1883 => match r1883 with
| .inl _ =>
some false
| .inr _ =>
ob (F13 n ) fun r1885 =>
some r1885
end Go.Proofs.YtpclggcpobakhaaDoor
end

section
namespace Go.Proofs.YtpclggcpobakhaaDoor.W0
open Go Go.Ab Go.Ab.W Go.Proofs.YtpclggcpobakhaaDoor
set_option maxRecDepth 10000
set_option maxHeartbeats 4000000
attribute [local irreducible] Tm.at Trie.set Trie.get AMem.get AMem.set AMem.alloc AMem.ww AMem.kill
theorem z59 : zeroA E18w.P 59 = some (.agg #[.int .i64 0, .slice none 0 0, .int .i64 0, .slice none 0 0, .int .i64 0, .slice none 0 0]) := by kernel_rfl
theorem t55 : TyI E18w.P 55 true 4 := ⟨by kernel_rfl, by kernel_rfl, by kernel_rfl⟩
theorem z25 : zeroA E18w.P 25 = some (.agg #[.int .i64 0, .slice none 0 0]) := by kernel_rfl
theorem fa55_0 : ∀ b o, fieldAddrA E18w.P 55 (ptr b o) 0 = some (ptr b (o + 0)) := fun _ _ => by kernel_rfl
theorem t5 : TyI E18w.P 5 false 1 := ⟨by kernel_rfl, by kernel_rfl, by kernel_rfl⟩
theorem u5 : E18w.P.underlying 5 = some (.int .u8) := by kernel_rfl
theorem u3 : E18w.P.underlying 3 = some (.int .i64) := by kernel_rfl
theorem fa55_1 : ∀ b o, fieldAddrA E18w.P 55 (ptr b o) 1 = some (ptr b (o + 1)) := fun _ _ => by kernel_rfl
theorem bs25 : BdT E18w.P 25 (.agg #[.int .i64 0, .slice none 0 0]) [(0, 1), (1, 1)] := .mk' (by kernel_rfl) (by kernel_rfl)
theorem t25 : TyI E18w.P 25 true 2 := ⟨by kernel_rfl, by kernel_rfl, by kernel_rfl⟩
theorem fa25_0 : ∀ b o, fieldAddrA E18w.P 25 (ptr b o) 0 = some (ptr b (o + 0)) := fun _ _ => by kernel_rfl
theorem t3 : TyI E18w.P 3 false 1 := ⟨by kernel_rfl, by kernel_rfl, by kernel_rfl⟩
theorem fa55_2 : ∀ b o, fieldAddrA E18w.P 55 (ptr b o) 2 = some (ptr b (o + 2)) := fun _ _ => by kernel_rfl
theorem t52 : TyI E18w.P 52 false 1 := ⟨by kernel_rfl, by kernel_rfl, by kernel_rfl⟩
theorem u102 : E18w.P.underlying 102 = some (.int .u64) := by kernel_rfl
theorem fa55_3 : ∀ b o, fieldAddrA E18w.P 55 (ptr b o) 3 = some (ptr b (o + 3)) := fun _ _ => by kernel_rfl
theorem t53 : TyI E18w.P 53 false 1 := ⟨by kernel_rfl, by kernel_rfl, by kernel_rfl⟩
theorem u53 : E18w.P.underlying 53 = some (.slice 103) := by kernel_rfl
theorem s53 : SlT E18w.P 53 103 2 := SlT.of (by kernel_rfl)
theorem ar103 : ArT E18w.P 103 5 2 1 := ⟨by kernel_rfl, by kernel_rfl, by kernel_rfl⟩
theorem fa25_1 : ∀ b o, fieldAddrA E18w.P 25 (ptr b o) 1 = some (ptr b (o + 1)) := fun _ _ => by kernel_rfl
theorem t23 : TyI E18w.P 23 false 1 := ⟨by kernel_rfl, by kernel_rfl, by kernel_rfl⟩
theorem z26 : zeroA E18w.P 26 = some (.agg #[.int .i64 0, .int .i64 0]) := by kernel_rfl
theorem bs26 : BdT E18w.P 26 (.agg #[.int .i64 0, .int .i64 0]) [(0, 1), (1, 1)] := .mk' (by kernel_rfl) (by kernel_rfl)
theorem u23 : E18w.P.underlying 23 = some (.slice 26) := by kernel_rfl
theorem s23 : SlT E18w.P 23 26 2 := SlT.of (by kernel_rfl)
theorem ar58 : ArT E18w.P 58 57 2 5 := ⟨by kernel_rfl, by kernel_rfl, by kernel_rfl⟩
theorem t57 : TyI E18w.P 57 true 5 := ⟨by kernel_rfl, by kernel_rfl, by kernel_rfl⟩
theorem fa57_1 : ∀ b o, fieldAddrA E18w.P 57 (ptr b o) 1 = some (ptr b (o + 1)) := fun _ _ => by kernel_rfl
theorem fa57_0 : ∀ b o, fieldAddrA E18w.P 57 (ptr b o) 0 = some (ptr b (o + 0)) := fun _ _ => by kernel_rfl
theorem fa57_2 : ∀ b o, fieldAddrA E18w.P 57 (ptr b o) 2 = some (ptr b (o + 2)) := fun _ _ => by kernel_rfl
theorem fa57_3 : ∀ b o, fieldAddrA E18w.P 57 (ptr b o) 3 = some (ptr b (o + 3)) := fun _ _ => by kernel_rfl
theorem t26 : TyI E18w.P 26 true 2 := ⟨by kernel_rfl, by kernel_rfl, by kernel_rfl⟩
theorem ar26 : ArT E18w.P 26 3 2 1 := ⟨by kernel_rfl, by kernel_rfl, by kernel_rfl⟩
theorem bs59 : BdT E18w.P 59 (.agg #[.int .i64 0, .slice none 0 0, .int .i64 0, .slice none 0 0, .int .i64 0, .slice none 0 0]) [(0, 2), (2, 2), (4, 2)] := .mk' (by kernel_rfl) (by kernel_rfl)
theorem t59 : TyI E18w.P 59 true 6 := ⟨by kernel_rfl, by kernel_rfl, by kernel_rfl⟩
theorem u39 : E18w.P.underlying 39 = some (.slice 3) := by kernel_rfl
theorem s39 : SlT E18w.P 39 3 1 := SlT.of (by kernel_rfl)
theorem f40_ok (n : Nat) (x1 : Nat) (x2 : Nat) (x3 : Nat) (l4 : List (Nat × Nat)) (a5 : Option Addr) (c6 : Nat) (r : Int × List (Int × Int)) (hF : F40 n x1 x2 x3 l4 = some r) (m : AMem) (h7 : Rd m a5 c6 2 l4.length (l4.map (eP (eN .u8) (eN .u8)))) :
  CallA E18w 40 [.agg #[.int .u8 ((x1 : Nat) : Int), .int .u8 ((x2 : Nat) : Int), .int .u16 ((x3 : Nat) : Int), .slice a5 l4.length c6]] m (fun v m' => ∃ x : Option Addr × Nat, v = .agg #[.int .i64 r.1, .slice x.1 x.2 x.2] ∧ Hp m m' [.sl x.1 2 x.2 (r.2.map (eP (eI .i64) (eI .i64)))]) := by
 unfold F40 at hF
 refine call_wk (m0 := m) (ps := [.rd a5 c6 2 l4.length (l4.map (eP (eN .u8) (eN .u8)))]) (N := 137) (rs := [.cell 2 25]) rfl Tryd.func40 rfl rfl rfl ((Hp.start m).inn rfl h7) <| Wk.seq <| Wk.region <| Wo.x (o_bx rfl) gn rfl fun b8 => ?_
 refine Wo.x (o_al z25 rfl) gn rfl fun b9 => ?_
 refine Wo.nil <| At.tn <| Wk.seq <| Wk.draw (by kernel_rfl) <| Wo.od (o_fa (r := ptr b8 0) rfl (fa55_0 _ _)) rfl <| Wo.od (o_ld (k := 1) t5 rfl rfl rfl) rfl <| Wo.od (o_bi rfl rfl (ub_rem _ _ (by decide))) rfl <| Wo.od (o_cv rfl (cv_i (by rw [u5]; rfl) u3)) rfl <| Wo.od (o_bi rfl rfl (bin_add _ _ _)) rfl <| Wo.od (o_fa (r := ptr b8 1) rfl (fa55_1 _ _)) rfl <| Wo.od (o_ld (k := 1) t5 rfl rfl rfl) rfl <| Wo.od (o_bi rfl rfl (ub_rem _ _ (by decide))) rfl <| Wo.od (o_cv rfl (cv_i (by rw [u5]; rfl) u3)) rfl ?_
 refine Wo.od (o_bi rfl rfl (bin_add _ _ _)) rfl <| Wo.od (o_as rfl) rfl <| Wo.od (o_as rfl) rfl <| Wo.nil <| At.tn <| Wk.seq <| Wk.region <| Wo.od (o_mv rfl) rfl <| Wo.od (o_mv rfl) rfl ?_
 obtain ⟨y10, h11, hF⟩ := ob_some hF
 refine Wo.od (o_bi rfl rfl ((bin_mul _ _ _).trans (cI h11))) rfl <| Wo.od (o_bd rfl z25 rfl (bd_s bs25 rfl rfl rfl)) rfl <| Wo.x (o_al z25 rfl) gn rfl fun b12 => ?_
 refine Wo.o0 (o_st (k := 0) t25 rfl rfl rfl rfl rfl) <| Wo.nil <| At.tn <| Wk.seq <| Wk.region <| Wo.od (o_as rfl) rfl <| Wo.nil <| At.tn <| Wk.seq <| Wk.seq <| Wk.region <| Wo.od (o_as rfl) rfl <| Wo.nil <| At.tn <| Wk.block ?_
 obtain ⟨l2020, h3018, hF⟩ := ob_some hF
 refine Wk.cut (G := (fun (r : List (Int × Int)) (g : Option Addr) => match r, g with | l2020, a2021 => ⟨(.exit 0), [(2, ptr b9 0), (5, ptr b12 0)], [.obj b9 (.cells [.int .i64 0, .slice none 0 0] .own), .obj b12 (.cells [.int .i64 y10, .slice a2021 l2020.length l2020.length] .own), .sl a2021 2 l2020.length (l2020.map (eP (eI .i64) (eI .i64)))]⟩) l2020) ?_ ?_
 ·refine Wk.weak (fs' := [(1, ptr b8 0), (2, ptr b9 0), (3, .int .i64 (IntKind.wrap .i64 (1 + (IntKind.wrap .i64 ((x1 % 4 : Nat) : Int))))), (5, ptr b12 0), (6, .int .i64 0), (7, .int .i64 0)]) (ps' := [.obj b8 (.cells [.int .u8 ((x1 : Nat) : Int), .int .u8 ((x2 : Nat) : Int), .int .u16 ((x3 : Nat) : Int), .slice a5 l4.length c6] .own), .rd a5 c6 2 l4.length (l4.map (eP (eN .u8) (eN .u8))), .obj b9 (.cells [.int .i64 0, .slice none 0 0] .own), .obj b12 (.cells [.int .i64 y10, .slice none ([] : List (Int × Int)).length ([] : List (Int × Int)).length] .own), .sl none 2 ([] : List (Int × Int)).length (([] : List (Int × Int)).map (eP (eI .i64) (eI .i64)))]) (sc rfl (sc rfl (sc rfl (sc rfl (sc rfl (sc rfl sn)))))) (Turn.trans (Turn.nil 2 rfl) (Turn.picks [3, 4, 2, 1, 0] rfl rfl)) ?_
  refine Wk.loop (σ := Int × List (Int × Int) × Int × Int) (ρ := List (Int × Int)) (γ := Option Addr) (δ := fun _ => Option Addr) _ (fun (s : Int × List (Int × Int) × Int × Int) (g : Option Addr) => match s, g with | (v1014, l1015, v1017, v1018), a1016 => ⟨.normal, [(1, ptr b8 0), (2, ptr b9 0), (3, .int .i64 v1014), (5, ptr b12 0), (6, .int .i64 v1017), (7, .int .i64 v1018)], [.obj b8 (.cells [.int .u8 ((x1 : Nat) : Int), .int .u8 ((x2 : Nat) : Int), .int .u16 ((x3 : Nat) : Int), .slice a5 l4.length c6] .own), .rd a5 c6 2 l4.length (l4.map (eP (eN .u8) (eN .u8))), .obj b9 (.cells [.int .i64 0, .slice none 0 0] .own), .obj b12 (.cells [.int .i64 y10, .slice a1016 l1015.length l1015.length] .own), .sl a1016 2 l1015.length (l1015.map (eP (eI .i64) (eI .i64)))]⟩) (fun (r : List (Int × Int)) (g : Option Addr) => match r, g with | l2020, a2021 => ⟨(.exit 0), [(2, ptr b9 0), (5, ptr b12 0)], [.obj b9 (.cells [.int .i64 0, .slice none 0 0] .own), .obj b12 (.cells [.int .i64 y10, .slice a2021 l2020.length l2020.length] .own), .sl a2021 2 l2020.length (l2020.map (eP (eI .i64) (eI .i64)))]⟩) ?_ (fun _ _ => rfl) (fun r d => by intro e; cases e) _ _ _ h3018 none
  clear hF h3018
  rintro ⟨v1014, l1015, v1017, v1018⟩ a1016 r hF
  unfold L40_3 at hF
  refine Wk.seq <| Wk.seq <| Wk.region <| Wo.od (o_mv rfl) rfl <| Wo.od (o_fa (r := ptr b12 0) rfl (fa25_0 _ _)) rfl <| Wo.od (o_ld (k := 3) t3 rfl rfl rfl) rfl <| Wo.od (o_bi rfl rfl (bin_lss _ _ _)) rfl <| Wo.nil <| At.tn ?_
  rcases br_some hF with ⟨h2022, hF⟩ | ⟨h2022, hF⟩
  ·refine Wk.condT rfl h2022 <| Wk.skip <| At.tn <| Wk.seq <| Wk.block <| Wk.seq <| Wk.region <| Wo.od (o_mv rfl) rfl <| Wo.od (o_bi rfl rfl (bin_add _ _ _)) rfl <| Wo.od (o_as rfl) rfl <| Wo.nil <| At.tn <| Wk.block ?_
   obtain ⟨r3017, h3016, hF⟩ := ob_some hF
   refine Wk.cut (G := (fun (r : List (Int × Int) × Int) (g : Option Addr) => match r, g with | (l2687, v2689), a2688 => ⟨(.exit 2), [(1, ptr b8 0), (2, ptr b9 0), (3, .int .i64 v1014), (5, ptr b12 0), (6, .int .i64 v2689), (7, .int .i64 v1018)], [.obj b8 (.cells [.int .u8 ((x1 : Nat) : Int), .int .u8 ((x2 : Nat) : Int), .int .u16 ((x3 : Nat) : Int), .slice a5 l4.length c6] .own), .rd a5 c6 2 l4.length (l4.map (eP (eN .u8) (eN .u8))), .obj b9 (.cells [.int .i64 0, .slice none 0 0] .own), .obj b12 (.cells [.int .i64 y10, .slice a2688 l2687.length l2687.length] .own), .sl a2688 2 l2687.length (l2687.map (eP (eI .i64) (eI .i64)))]⟩) r3017) ?_ ?_
   ·refine Wk.weak (fs' := [(1, ptr b8 0), (2, ptr b9 0), (3, .int .i64 v1014), (5, ptr b12 0), (6, .int .i64 v1017), (7, .int .i64 v1018), (8, .int .i64 (IntKind.wrap .i64 (v1018 + 1)))]) (ps' := [.obj b8 (.cells [.int .u8 ((x1 : Nat) : Int), .int .u8 ((x2 : Nat) : Int), .int .u16 ((x3 : Nat) : Int), .slice a5 l4.length c6] .own), .rd a5 c6 2 l4.length (l4.map (eP (eN .u8) (eN .u8))), .obj b9 (.cells [.int .i64 0, .slice none 0 0] .own), .obj b12 (.cells [.int .i64 y10, .slice a1016 l1015.length l1015.length] .own), .sl a1016 2 l1015.length (l1015.map (eP (eI .i64) (eI .i64)))]) (sc rfl (sc rfl (sc rfl (sc rfl (sc rfl (sc rfl (sc rfl sn))))))) (Turn.picks [0, 1, 2, 3, 4] rfl rfl) ?_
    refine Wk.loop (σ := List (Int × Int) × Int × Int) (ρ := List (Int × Int) × Int) (γ := Option Addr) (δ := fun _ => Option Addr) _ (fun (s : List (Int × Int) × Int × Int) (g : Option Addr) => match s, g with | (l2353, v2355, v2356), a2354 => ⟨.normal, [(1, ptr b8 0), (2, ptr b9 0), (3, .int .i64 v1014), (5, ptr b12 0), (6, .int .i64 v2355), (7, .int .i64 v1018), (8, .int .i64 v2356)], [.obj b8 (.cells [.int .u8 ((x1 : Nat) : Int), .int .u8 ((x2 : Nat) : Int), .int .u16 ((x3 : Nat) : Int), .slice a5 l4.length c6] .own), .rd a5 c6 2 l4.length (l4.map (eP (eN .u8) (eN .u8))), .obj b9 (.cells [.int .i64 0, .slice none 0 0] .own), .obj b12 (.cells [.int .i64 y10, .slice a2354 l2353.length l2353.length] .own), .sl a2354 2 l2353.length (l2353.map (eP (eI .i64) (eI .i64)))]⟩) (fun (r : List (Int × Int) × Int) (g : Option Addr) => match r, g with | (l2687, v2689), a2688 => ⟨(.exit 2), [(1, ptr b8 0), (2, ptr b9 0), (3, .int .i64 v1014), (5, ptr b12 0), (6, .int .i64 v2689), (7, .int .i64 v1018)], [.obj b8 (.cells [.int .u8 ((x1 : Nat) : Int), .int .u8 ((x2 : Nat) : Int), .int .u16 ((x3 : Nat) : Int), .slice a5 l4.length c6] .own), .rd a5 c6 2 l4.length (l4.map (eP (eN .u8) (eN .u8))), .obj b9 (.cells [.int .i64 0, .slice none 0 0] .own), .obj b12 (.cells [.int .i64 y10, .slice a2688 l2687.length l2687.length] .own), .sl a2688 2 l2687.length (l2687.map (eP (eI .i64) (eI .i64)))]⟩) ?_ (fun _ _ => rfl) (fun r d => by intro e; cases e) _ _ _ h3016 a1016
    clear hF h3016
    rintro ⟨l2353, v2355, v2356⟩ a2354 r hF
    unfold L40_2 at hF
    refine Wk.seq <| Wk.seq <| Wk.region <| Wo.od (o_mv rfl) rfl <| Wo.od (o_fa (r := ptr b12 0) rfl (fa25_0 _ _)) rfl <| Wo.od (o_ld (k := 3) t3 rfl rfl rfl) rfl <| Wo.od (o_bi rfl rfl (bin_lss _ _ _)) rfl <| Wo.nil <| At.tn ?_
    rcases br_some hF with ⟨h2690, hF⟩ | ⟨h2690, hF⟩
    ·refine Wk.condT rfl h2690 <| Wk.skip <| At.tn <| Wk.seq ?_
     obtain ⟨r3015, h3014, hF⟩ := ob_some hF
     refine Wk.cut (G := (fun (r : List (Int × Int) × Int) (g : Option Addr) => match r, g with | (l2851, v2853), a2852 => ⟨.normal, [(1, ptr b8 0), (2, ptr b9 0), (3, .int .i64 v1014), (5, ptr b12 0), (6, .int .i64 v2853), (7, .int .i64 v1018), (8, .int .i64 v2356)], [.obj b8 (.cells [.int .u8 ((x1 : Nat) : Int), .int .u8 ((x2 : Nat) : Int), .int .u16 ((x3 : Nat) : Int), .slice a5 l4.length c6] .own), .rd a5 c6 2 l4.length (l4.map (eP (eN .u8) (eN .u8))), .obj b9 (.cells [.int .i64 0, .slice none 0 0] .own), .obj b12 (.cells [.int .i64 y10, .slice a2852 l2851.length l2851.length] .own), .sl a2852 2 l2851.length (l2851.map (eP (eI .i64) (eI .i64)))]⟩) r3015) ?_ ?_
     ·clear hF
      revert r3015
      intro r hF
      refine Wk.block <| Wk.seq ?_
      obtain ⟨v2857, h2861, hF⟩ := ob_some hF
      refine Wk.cut (G := (fun (r : Bool) (g : Unit) => match r, g with | v2857, _ => ⟨.normal, [(1, ptr b8 0), (2, ptr b9 0), (3, .int .i64 v1014), (5, ptr b12 0), (6, .int .i64 v2355), (7, .int .i64 v1018), (8, .int .i64 v2356), (9, .bool v2857)], [.obj b8 (.cells [.int .u8 ((x1 : Nat) : Int), .int .u8 ((x2 : Nat) : Int), .int .u16 ((x3 : Nat) : Int), .slice a5 l4.length c6] .own), .rd a5 c6 2 l4.length (l4.map (eP (eN .u8) (eN .u8))), .obj b9 (.cells [.int .i64 0, .slice none 0 0] .own), .obj b12 (.cells [.int .i64 y10, .slice a2354 l2353.length l2353.length] .own), .sl a2354 2 l2353.length (l2353.map (eP (eI .i64) (eI .i64)))]⟩) v2857) ?_ ?_
      ·clear hF
       revert v2857
       intro r hF
       refine Wk.region <| Wo.od (o_mv rfl) rfl <| Wo.od (o_mv rfl) rfl <| Wo.od (o_mv rfl) rfl <| Wo.od (o_bi rfl rfl (bin_add _ _ _)) rfl <| Wo.od (o_bi rfl rfl (bin_eql _ _ _)) rfl <| Wo.od (o_mv rfl) rfl ?_
       rcases br_some hF with ⟨h2858, hF⟩ | ⟨h2858, hF⟩
       ·refine Wo.s (gg rfl rfl (eTF h2858)) rfl <| Wo.s (gg rfl rfl (eTF h2858)) rfl <| Wo.s (gg rfl rfl (eTF h2858)) rfl <| Wo.s (gg rfl rfl (eTF h2858)) rfl <| Wo.s (gg rfl rfl (eTF h2858)) rfl <| Wo.s (gu rfl rfl) rfl <| Wo.s (gu rfl rfl) rfl <| Wo.s (gu rfl rfl) rfl <| Wo.s (gu rfl rfl) rfl <| Wo.s (gg rfl rfl (eTF h2858)) rfl ?_
        refine Wo.od (o_pt rfl h2858 rfl) rfl <| Wo.od (o_as rfl) rfl <| Wo.nil ?_
        cases hF
        exact At.en () rfl (sc rfl (sc rfl (sc rfl (sc rfl (sc rfl (sc rfl (sc rfl (sc rfl sn)))))))) (Turn.picks [0, 1, 2, 3, 4] rfl rfl)
       ·refine Wo.og (o_mv rfl) (gg rfl rfl (eFF h2858)) rfl <| Wo.og (o_mv rfl) (gg rfl rfl (eFF h2858)) rfl <| Wo.og (o_bi rfl rfl (bin_add _ _ _)) (gg rfl rfl (eFF h2858)) rfl <| Wo.og (o_bi rfl rfl (bin_eql _ _ _)) (gg rfl rfl (eFF h2858)) rfl <| Wo.og (o_mv rfl) (gg rfl rfl (eFF h2858)) rfl ?_
        rcases br_some hF with ⟨h2859, hF⟩ | ⟨h2859, hF⟩
        ·refine Wo.og (o_mv rfl) (gg rfl rfl (eTT h2859)) rfl <| Wo.og (o_mv rfl) (gg rfl rfl (eTT h2859)) rfl ?_
         obtain ⟨h2860, hF⟩ := gd_some hF
         refine Wo.og (o_bi rfl rfl (ib_rem _ _ h2860)) (gg rfl rfl (eTT h2859)) rfl <| Wo.og (o_bi rfl rfl (ib_neq _ _)) (gg rfl rfl (eTT h2859)) rfl <| Wo.og (o_pt rfl h2859 rfl) (gg rfl rfl (eFF h2858)) rfl <| Wo.od (o_pf rfl h2858 rfl) rfl <| Wo.od (o_as rfl) rfl <| Wo.nil ?_
         cases hF
         exact At.en () rfl (sc rfl (sc rfl (sc rfl (sc rfl (sc rfl (sc rfl (sc rfl (sc rfl sn)))))))) (Turn.picks [0, 1, 2, 3, 4] rfl rfl)
        ·refine Wo.s (gg rfl rfl (eFT h2859)) rfl <| Wo.s (gg rfl rfl (eFT h2859)) rfl <| Wo.s (gg rfl rfl (eFT h2859)) rfl <| Wo.s (gg rfl rfl (eFT h2859)) rfl <| Wo.og (o_pf rfl h2859 rfl) (gg rfl rfl (eFF h2858)) rfl <| Wo.od (o_pf rfl h2858 rfl) rfl <| Wo.od (o_as rfl) rfl <| Wo.nil ?_
         cases hF
         exact At.en () rfl (sc rfl (sc rfl (sc rfl (sc rfl (sc rfl (sc rfl (sc rfl (sc rfl sn)))))))) (Turn.picks [0, 1, 2, 3, 4] rfl rfl)
      ·clear h2861
       rintro ⟨⟩
       refine At.tn <| Wk.seq ?_
       obtain ⟨r2914, h2913, hF⟩ := ob_some hF
       refine Wk.cut (G := (fun (r : Int × Bool) (g : Unit) => match r, g with | (v2887, v2888), _ => ⟨.normal, [(1, ptr b8 0), (2, ptr b9 0), (3, .int .i64 v1014), (5, ptr b12 0), (6, .int .i64 v2887), (7, .int .i64 v1018), (8, .int .i64 v2356), (9, .bool v2888)], [.obj b8 (.cells [.int .u8 ((x1 : Nat) : Int), .int .u8 ((x2 : Nat) : Int), .int .u16 ((x3 : Nat) : Int), .slice a5 l4.length c6] .own), .rd a5 c6 2 l4.length (l4.map (eP (eN .u8) (eN .u8))), .obj b9 (.cells [.int .i64 0, .slice none 0 0] .own), .obj b12 (.cells [.int .i64 y10, .slice a2354 l2353.length l2353.length] .own), .sl a2354 2 l2353.length (l2353.map (eP (eI .i64) (eI .i64)))]⟩) r2914) ?_ ?_
       ·clear hF
        revert r2914
        intro r hF
        refine Wk.seq <| Wk.region <| Wo.od (o_mv rfl) rfl <| Wo.nil <| At.tn ?_
        rcases br_some hF with ⟨h2889, hF⟩ | ⟨h2889, hF⟩
        ·refine Wk.condT rfl h2889 <| Wk.seq ?_
         obtain ⟨v2900, h2911, hF⟩ := ob_some hF
         refine Wk.cut (G := (fun (r : Bool) (g : Unit) => match r, g with | v2900, _ => ⟨.normal, [(1, ptr b8 0), (2, ptr b9 0), (3, .int .i64 v1014), (5, ptr b12 0), (6, .int .i64 v2355), (7, .int .i64 v1018), (8, .int .i64 v2356), (9, .bool v2900)], [.obj b8 (.cells [.int .u8 ((x1 : Nat) : Int), .int .u8 ((x2 : Nat) : Int), .int .u16 ((x3 : Nat) : Int), .slice a5 l4.length c6] .own), .rd a5 c6 2 l4.length (l4.map (eP (eN .u8) (eN .u8))), .obj b9 (.cells [.int .i64 0, .slice none 0 0] .own), .obj b12 (.cells [.int .i64 y10, .slice a2354 l2353.length l2353.length] .own), .sl a2354 2 l2353.length (l2353.map (eP (eI .i64) (eI .i64)))]⟩) v2900) ?_ ?_
         ·clear hF
          revert v2900
          intro r hF
          refine Wk.seq ?_
          obtain ⟨v2904, h2908, hF⟩ := ob_some hF
          refine Wk.cut (G := (fun (r : Bool) (g : Unit) => match r, g with | v2904, _ => ⟨.normal, [(1, ptr b8 0), (2, ptr b9 0), (3, .int .i64 v1014), (5, ptr b12 0), (6, .int .i64 v2355), (7, .int .i64 v1018), (8, .int .i64 v2356), (9, .bool v2857), (72, .bool v2904)], [.obj b8 (.cells [.int .u8 ((x1 : Nat) : Int), .int .u8 ((x2 : Nat) : Int), .int .u16 ((x3 : Nat) : Int), .slice a5 l4.length c6] .own), .rd a5 c6 2 l4.length (l4.map (eP (eN .u8) (eN .u8))), .obj b9 (.cells [.int .i64 0, .slice none 0 0] .own), .obj b12 (.cells [.int .i64 y10, .slice a2354 l2353.length l2353.length] .own), .sl a2354 2 l2353.length (l2353.map (eP (eI .i64) (eI .i64)))]⟩) v2904) ?_ ?_
          ·clear hF
           revert v2904
           intro r hF
           refine Wk.region <| Wo.od (o_mv rfl) rfl <| Wo.od (o_bi rfl rfl (ib_rem _ _ (by decide))) rfl <| Wo.od (o_bi rfl rfl (bin_eql _ _ _)) rfl <| Wo.od (o_mv rfl) rfl ?_
           rcases br_some hF with ⟨h2905, hF⟩ | ⟨h2905, hF⟩
           ·refine Wo.og (o_fa (r := ptr b8 2) rfl (fa55_2 _ _)) (gg rfl rfl (eTT h2905)) rfl <| Wo.og (o_ld (k := 0) t52 rfl rfl rfl) (gg rfl rfl (eTT h2905)) rfl <| Wo.og (o_mv rfl) (gg rfl rfl (eTT h2905)) rfl <| Wo.og (o_bi rfl rfl (ib_quo _ _ (by decide))) (gg rfl rfl (eTT h2905)) rfl <| Wo.og (o_bi rfl rfl (ib_rem _ _ (by decide))) (gg rfl rfl (eTT h2905)) rfl <| Wo.og (o_cv rfl (cv_u (by rw [u3]; rfl) u102 rfl)) (gg rfl rfl (eTT h2905)) rfl ?_
            obtain ⟨y2906, h2907, hF⟩ := ob_some hF
            refine Wo.og (o_bi rfl rfl ((ub_shr _ _ (nn _)).trans (cN h2907))) (gg rfl rfl (eTT h2905)) rfl <| Wo.og (o_bi rfl rfl (ub_and rfl _ _)) (gg rfl rfl (eTT h2905)) rfl <| Wo.og (o_bi rfl rfl (ub_eql _ _)) (gg rfl rfl (eTT h2905)) rfl <| Wo.od (o_pt rfl h2905 rfl) rfl <| Wo.nil ?_
            cases hF
            exact At.en () rfl (sc rfl (sc rfl (sc rfl (sc rfl (sc rfl (sc rfl (sc rfl (sc rfl (sc rfl sn))))))))) (Turn.picks [0, 1, 2, 3, 4] rfl rfl)
           ·refine Wo.s (gg rfl rfl (eFT h2905)) rfl <| Wo.s (gg rfl rfl (eFT h2905)) rfl <| Wo.s (gg rfl rfl (eFT h2905)) rfl <| Wo.s (gg rfl rfl (eFT h2905)) rfl <| Wo.s (gg rfl rfl (eFT h2905)) rfl <| Wo.s (gg rfl rfl (eFT h2905)) rfl <| Wo.s (gg rfl rfl (eFT h2905)) rfl <| Wo.s (gg rfl rfl (eFT h2905)) rfl <| Wo.s (gg rfl rfl (eFT h2905)) rfl <| Wo.od (o_pf rfl h2905 rfl) rfl ?_
            refine Wo.nil ?_
            cases hF
            exact At.en () rfl (sc rfl (sc rfl (sc rfl (sc rfl (sc rfl (sc rfl (sc rfl (sc rfl (sc rfl sn))))))))) (Turn.picks [0, 1, 2, 3, 4] rfl rfl)
          ·clear h2908
           rintro ⟨⟩
           refine At.tn ?_
           rcases br_some hF with ⟨h2910, hF⟩ | ⟨h2910, hF⟩
           ·refine Wk.condT rfl h2910 <| Wk.region <| Wo.od (o_as rfl) rfl <| Wo.nil ?_
            cases hF
            exact At.en () rfl (sc rfl (sc rfl (sc rfl (sc rfl (sc rfl (sc rfl (sc rfl (sc rfl sn)))))))) (Turn.picks [0, 1, 2, 3, 4] rfl rfl)
           ·refine Wk.condF rfl h2910 <| Wk.skip ?_
            have hr := Option.some.inj hF
            subst r
            exact At.en () rfl (sc rfl (sc rfl (sc rfl (sc rfl (sc rfl (sc rfl (sc rfl (sc rfl sn)))))))) (Turn.picks [0, 1, 2, 3, 4] rfl rfl)
         ·clear h2911
          rintro ⟨⟩
          refine At.tn <| Wk.region <| Wo.od (o_mv rfl) rfl <| Wo.od (o_bi rfl rfl (bin_add _ _ _)) rfl <| Wo.od (o_as rfl) rfl <| Wo.nil ?_
          cases hF
          exact At.en () rfl (sc rfl (sc rfl (sc rfl (sc rfl (sc rfl (sc rfl (sc rfl (sc rfl sn)))))))) (Turn.picks [0, 1, 2, 3, 4] rfl rfl)
        ·refine Wk.condF rfl h2889 <| Wk.skip ?_
         cases hF
         exact At.en () rfl (sc rfl (sc rfl (sc rfl (sc rfl (sc rfl (sc rfl (sc rfl (sc rfl sn)))))))) (Turn.picks [0, 1, 2, 3, 4] rfl rfl)
       ·clear h2913
        obtain ⟨v2887, v2888⟩ := r2914
        rintro ⟨⟩
        refine At.tn <| Wk.seq <| Wk.seq <| Wk.region <| Wo.od (o_as rfl) rfl <| Wo.nil <| At.tn <| Wk.block ?_
        obtain ⟨v2964, h3008, hF⟩ := ob_some hF
        refine Wk.cut (G := (fun (r : Bool) (g : Unit) => match r, g with | v2964, _ => ⟨(.exit 4), [(1, ptr b8 0), (2, ptr b9 0), (3, .int .i64 v1014), (5, ptr b12 0), (6, .int .i64 v2887), (7, .int .i64 v1018), (8, .int .i64 v2356), (9, .bool v2964)], [.obj b8 (.cells [.int .u8 ((x1 : Nat) : Int), .int .u8 ((x2 : Nat) : Int), .int .u16 ((x3 : Nat) : Int), .slice a5 l4.length c6] .own), .rd a5 c6 2 l4.length (l4.map (eP (eN .u8) (eN .u8))), .obj b9 (.cells [.int .i64 0, .slice none 0 0] .own), .obj b12 (.cells [.int .i64 y10, .slice a2354 l2353.length l2353.length] .own), .sl a2354 2 l2353.length (l2353.map (eP (eI .i64) (eI .i64)))]⟩) v2964) ?_ ?_
        ·refine Wk.weak (fs' := [(1, ptr b8 0), (2, ptr b9 0), (3, .int .i64 v1014), (5, ptr b12 0), (6, .int .i64 v2887), (7, .int .i64 v1018), (8, .int .i64 v2356), (9, .bool v2888), (10, .int .i64 0)]) (ps' := [.obj b8 (.cells [.int .u8 ((x1 : Nat) : Int), .int .u8 ((x2 : Nat) : Int), .int .u16 ((x3 : Nat) : Int), .slice a5 l4.length c6] .own), .rd a5 c6 2 l4.length (l4.map (eP (eN .u8) (eN .u8))), .obj b9 (.cells [.int .i64 0, .slice none 0 0] .own), .obj b12 (.cells [.int .i64 y10, .slice a2354 l2353.length l2353.length] .own), .sl a2354 2 l2353.length (l2353.map (eP (eI .i64) (eI .i64)))]) (sc rfl (sc rfl (sc rfl (sc rfl (sc rfl (sc rfl (sc rfl (sc rfl (sc rfl sn))))))))) (Turn.picks [0, 1, 2, 3, 4] rfl rfl) ?_
         refine Wk.loop (σ := Bool × Int) (ρ := Bool) (γ := Unit) (δ := fun _ => Unit) _ (fun (s : Bool × Int) (g : Unit) => match s, g with | (v2917, v2918), _ => ⟨.normal, [(1, ptr b8 0), (2, ptr b9 0), (3, .int .i64 v1014), (5, ptr b12 0), (6, .int .i64 v2887), (7, .int .i64 v1018), (8, .int .i64 v2356), (9, .bool v2917), (10, .int .i64 v2918)], [.obj b8 (.cells [.int .u8 ((x1 : Nat) : Int), .int .u8 ((x2 : Nat) : Int), .int .u16 ((x3 : Nat) : Int), .slice a5 l4.length c6] .own), .rd a5 c6 2 l4.length (l4.map (eP (eN .u8) (eN .u8))), .obj b9 (.cells [.int .i64 0, .slice none 0 0] .own), .obj b12 (.cells [.int .i64 y10, .slice a2354 l2353.length l2353.length] .own), .sl a2354 2 l2353.length (l2353.map (eP (eI .i64) (eI .i64)))]⟩) (fun (r : Bool) (g : Unit) => match r, g with | v2964, _ => ⟨(.exit 4), [(1, ptr b8 0), (2, ptr b9 0), (3, .int .i64 v1014), (5, ptr b12 0), (6, .int .i64 v2887), (7, .int .i64 v1018), (8, .int .i64 v2356), (9, .bool v2964)], [.obj b8 (.cells [.int .u8 ((x1 : Nat) : Int), .int .u8 ((x2 : Nat) : Int), .int .u16 ((x3 : Nat) : Int), .slice a5 l4.length c6] .own), .rd a5 c6 2 l4.length (l4.map (eP (eN .u8) (eN .u8))), .obj b9 (.cells [.int .i64 0, .slice none 0 0] .own), .obj b12 (.cells [.int .i64 y10, .slice a2354 l2353.length l2353.length] .own), .sl a2354 2 l2353.length (l2353.map (eP (eI .i64) (eI .i64)))]⟩) ?_ (fun _ _ => rfl) (fun r d => by intro e; cases e) _ _ _ h3008 ()
         clear hF h3008
         rintro ⟨v2917, v2918⟩ ⟨⟩ r hF
         unfold L40_1 at hF
         refine Wk.seq <| Wk.seq ?_
         obtain ⟨v2972, h2974, hF⟩ := ob_some hF
         refine Wk.cut (G := (fun (r : Bool) (g : Unit) => match r, g with | v2972, _ => ⟨.normal, [(1, ptr b8 0), (2, ptr b9 0), (3, .int .i64 v1014), (5, ptr b12 0), (6, .int .i64 v2887), (7, .int .i64 v1018), (8, .int .i64 v2356), (9, .bool v2917), (10, .int .i64 v2918), (83, .bool v2972)], [.obj b8 (.cells [.int .u8 ((x1 : Nat) : Int), .int .u8 ((x2 : Nat) : Int), .int .u16 ((x3 : Nat) : Int), .slice a5 l4.length c6] .own), .rd a5 c6 2 l4.length (l4.map (eP (eN .u8) (eN .u8))), .obj b9 (.cells [.int .i64 0, .slice none 0 0] .own), .obj b12 (.cells [.int .i64 y10, .slice a2354 l2353.length l2353.length] .own), .sl a2354 2 l2353.length (l2353.map (eP (eI .i64) (eI .i64)))]⟩) v2972) ?_ ?_
         ·clear hF
          revert v2972
          intro r hF
          refine Wk.region <| Wo.od (o_mv rfl) rfl <| Wo.od (o_fa (r := ptr b8 3) rfl (fa55_3 _ _)) rfl <| Wo.od (o_ld (k := 0) t53 rfl rfl rfl) rfl <| Wo.od (o_ln (k := 1) u53 rfl rfl (.inl rfl)) rfl <| Wo.od (o_bi rfl rfl (bin_lss _ _ _)) rfl <| Wo.od (o_mv rfl) rfl ?_
          rcases br_some hF with ⟨h2973, hF⟩ | ⟨h2973, hF⟩
          ·refine Wo.og (o_mv rfl) (gg rfl rfl (eTT h2973)) rfl <| Wo.og (o_bi rfl rfl (bin_lss _ _ _)) (gg rfl rfl (eTT h2973)) rfl <| Wo.od (o_pt rfl h2973 rfl) rfl <| Wo.nil ?_
           cases hF
           exact At.en () rfl (sc rfl (sc rfl (sc rfl (sc rfl (sc rfl (sc rfl (sc rfl (sc rfl (sc rfl (sc rfl sn)))))))))) (Turn.picks [0, 1, 2, 3, 4] rfl rfl)
          ·refine Wo.s (gg rfl rfl (eFT h2973)) rfl <| Wo.s (gg rfl rfl (eFT h2973)) rfl <| Wo.od (o_pf rfl h2973 rfl) rfl <| Wo.nil ?_
           cases hF
           exact At.en () rfl (sc rfl (sc rfl (sc rfl (sc rfl (sc rfl (sc rfl (sc rfl (sc rfl (sc rfl (sc rfl sn)))))))))) (Turn.picks [0, 1, 2, 3, 4] rfl rfl)
         ·clear h2974
          rintro ⟨⟩
          refine At.tn ?_
          rcases br_some hF with ⟨h2976, hF⟩ | ⟨h2976, hF⟩
          ·refine Wk.condT rfl h2976 <| Wk.skip <| At.tn <| Wk.seq ?_
           obtain ⟨v2991, h3006, hF⟩ := ob_some hF
           refine Wk.cut (G := (fun (r : Bool) (g : Unit) => match r, g with | v2991, _ => ⟨.normal, [(1, ptr b8 0), (2, ptr b9 0), (3, .int .i64 v1014), (5, ptr b12 0), (6, .int .i64 v2887), (7, .int .i64 v1018), (8, .int .i64 v2356), (9, .bool v2991), (10, .int .i64 v2918)], [.obj b8 (.cells [.int .u8 ((x1 : Nat) : Int), .int .u8 ((x2 : Nat) : Int), .int .u16 ((x3 : Nat) : Int), .slice a5 l4.length c6] .own), .rd a5 c6 2 l4.length (l4.map (eP (eN .u8) (eN .u8))), .obj b9 (.cells [.int .i64 0, .slice none 0 0] .own), .obj b12 (.cells [.int .i64 y10, .slice a2354 l2353.length l2353.length] .own), .sl a2354 2 l2353.length (l2353.map (eP (eI .i64) (eI .i64)))]⟩) v2991) ?_ ?_
           ·clear hF
            revert v2991
            intro r hF
            refine Wk.block <| Wk.seq <| Wk.draw (by kernel_rfl) <| Wo.od (o_fa (r := ptr b8 3) rfl (fa55_3 _ _)) rfl <| Wo.od (o_ld (k := 0) t53 rfl rfl rfl) rfl <| Wo.od (o_mv rfl) rfl ?_
            obtain ⟨h2992, hF⟩ := gd_some hF
            replace h2992 := inB_some h2992
            refine Wo.openr (k := 1) rfl (pos_of h2992) ?_
            rintro b2993 o2994 rfl
            refine Wo.og (o_ixs s53 rfl rfl h2992) gn rfl <| Wo.od (o_ia (r := ptr b2993 (o2994 + v2918.toNat * 2 + 0)) rfl rfl (ia_c ar103 (i := 0) (by decide))) rfl ?_
            obtain ⟨⟨x2995, x2996⟩, h2997, hF⟩ := ob_some hF
            refine Wo.od (o_ldr (k := 0) t5 rfl rfl (map_at h2997) rfl rfl) rfl <| Wo.od (o_cv rfl (cv_i (by rw [u5]; rfl) u3)) rfl <| Wo.od (o_fa (r := ptr b12 0) rfl (fa25_0 _ _)) rfl <| Wo.od (o_ld (k := 4) t3 rfl rfl rfl) rfl ?_
            obtain ⟨h2998, hF⟩ := gd_some hF
            refine Wo.od (o_bi rfl rfl (ib_rem _ _ h2998)) rfl <| Wo.od (o_fa (r := ptr b8 3) rfl (fa55_3 _ _)) rfl <| Wo.od (o_ld (k := 1) t53 rfl rfl rfl) rfl <| Wo.od (o_mv rfl) rfl ?_
            obtain ⟨h2999, hF⟩ := gd_some hF
            replace h2999 := inB_some h2999
            refine Wo.og (o_ixs s53 rfl rfl h2999) gn rfl <| Wo.od (o_ia (r := ptr b2993 (o2994 + v2918.toNat * 2 + 1)) rfl rfl (ia_c ar103 (i := 1) (by decide))) rfl <| Wo.od (o_ldr (k := 0) t5 rfl rfl (map_at h2997) rfl rfl) rfl <| Wo.od (o_cv rfl (cv_i (by rw [u5]; rfl) u3)) rfl <| Wo.od (o_fa (r := ptr b12 0) rfl (fa25_0 _ _)) rfl <| Wo.od (o_ld (k := 4) t3 rfl rfl rfl) rfl ?_
            obtain ⟨h3000, hF⟩ := gd_some hF
            refine Wo.od (o_bi rfl rfl (ib_rem _ _ h3000)) rfl <| Wo.od (o_as rfl) rfl <| Wo.od (o_as rfl) rfl <| Wo.nil <| At.tn <| Wk.region <| Wo.od (o_mv rfl) rfl <| Wo.od (o_mv rfl) rfl ?_
            rcases br_some hF with ⟨h3001, hF⟩ | ⟨h3001, hF⟩
            ·refine Wo.s (gg rfl rfl (eTF h3001)) rfl <| Wo.s (gg rfl rfl (eTF h3001)) rfl <| Wo.s (gg rfl rfl (eTF h3001)) rfl <| Wo.s (gg rfl rfl (eTF h3001)) rfl <| Wo.s (gu rfl rfl) rfl <| Wo.s (gu rfl rfl) rfl <| Wo.s (gu rfl rfl) rfl <| Wo.s (gg rfl rfl (eTF h3001)) rfl <| Wo.od (o_pt rfl h3001 rfl) rfl <| Wo.od (o_mv rfl) rfl ?_
             refine Wo.s (gg rfl rfl rfl) rfl <| Wo.s (gg rfl rfl rfl) rfl <| Wo.s (gg rfl rfl rfl) rfl <| Wo.s (gg rfl rfl rfl) rfl <| Wo.s (gu rfl rfl) rfl <| Wo.s (gu rfl rfl) rfl <| Wo.s (gu rfl rfl) rfl <| Wo.s (gg rfl rfl rfl) rfl <| Wo.od (o_pT rfl rfl) rfl <| Wo.od (o_as rfl) rfl ?_
             refine Wo.nil <| At.bn ?_
             cases hF
             exact At.en () rfl (sc rfl (sc rfl (sc rfl (sc rfl (sc rfl (sc rfl (sc rfl (sc rfl (sc rfl sn))))))))) (Turn.picks [1, 2, 3, 4, 5] rfl rfl)
            ·refine Wo.og (o_mv rfl) (gg rfl rfl (eFF h3001)) rfl <| Wo.og (o_mv rfl) (gg rfl rfl (eFF h3001)) rfl <| Wo.og (o_bi rfl rfl (bin_eql _ _ _)) (gg rfl rfl (eFF h3001)) rfl <| Wo.og (o_mv rfl) (gg rfl rfl (eFF h3001)) rfl ?_
             rcases br_some hF with ⟨h3002, hF⟩ | ⟨h3002, hF⟩
             ·refine Wo.og (o_mv rfl) (gg rfl rfl (eTT h3002)) rfl <| Wo.og (o_mv rfl) (gg rfl rfl (eTT h3002)) rfl <| Wo.og (o_bi rfl rfl (bin_eql _ _ _)) (gg rfl rfl (eTT h3002)) rfl <| Wo.og (o_pt rfl h3002 rfl) (gg rfl rfl (eFF h3001)) rfl <| Wo.od (o_pf rfl h3001 rfl) rfl <| Wo.od (o_mv rfl) rfl ?_
              rcases br_some hF with ⟨h3003, hF⟩ | ⟨h3003, hF⟩
              ·refine Wo.s (gg rfl rfl (eTF h3003)) rfl <| Wo.s (gg rfl rfl (eTF h3003)) rfl <| Wo.s (gg rfl rfl (eTF h3003)) rfl <| Wo.s (gg rfl rfl (eTF h3003)) rfl <| Wo.s (gu rfl rfl) rfl <| Wo.s (gu rfl rfl) rfl <| Wo.s (gu rfl rfl) rfl <| Wo.s (gg rfl rfl (eTF h3003)) rfl <| Wo.od (o_pt rfl h3003 rfl) rfl <| Wo.od (o_as rfl) rfl ?_
               refine Wo.nil <| At.bn ?_
               cases hF
               exact At.en () rfl (sc rfl (sc rfl (sc rfl (sc rfl (sc rfl (sc rfl (sc rfl (sc rfl (sc rfl sn))))))))) (Turn.picks [1, 2, 3, 4, 5] rfl rfl)
              ·refine Wo.og (o_mv rfl) (gg rfl rfl (eFF h3003)) rfl <| Wo.og (o_mv rfl) (gg rfl rfl (eFF h3003)) rfl <| Wo.og (o_bi rfl rfl (bin_eql _ _ _)) (gg rfl rfl (eFF h3003)) rfl <| Wo.og (o_mv rfl) (gg rfl rfl (eFF h3003)) rfl ?_
               rcases br_some hF with ⟨h3004, hF⟩ | ⟨h3004, hF⟩
               ·refine Wo.og (o_mv rfl) (gg rfl rfl (eTT h3004)) rfl <| Wo.og (o_mv rfl) (gg rfl rfl (eTT h3004)) rfl <| Wo.og (o_bi rfl rfl (bin_eql _ _ _)) (gg rfl rfl (eTT h3004)) rfl <| Wo.og (o_pt rfl h3004 rfl) (gg rfl rfl (eFF h3003)) rfl <| Wo.od (o_pf rfl h3003 rfl) rfl <| Wo.od (o_as rfl) rfl <| Wo.nil <| At.bn ?_
                cases hF
                exact At.en () rfl (sc rfl (sc rfl (sc rfl (sc rfl (sc rfl (sc rfl (sc rfl (sc rfl (sc rfl sn))))))))) (Turn.picks [1, 2, 3, 4, 5] rfl rfl)
               ·refine Wo.s (gg rfl rfl (eFT h3004)) rfl <| Wo.s (gg rfl rfl (eFT h3004)) rfl <| Wo.s (gg rfl rfl (eFT h3004)) rfl <| Wo.og (o_pf rfl h3004 rfl) (gg rfl rfl (eFF h3003)) rfl <| Wo.od (o_pf rfl h3003 rfl) rfl <| Wo.od (o_as rfl) rfl <| Wo.nil <| At.bn ?_
                cases hF
                exact At.en () rfl (sc rfl (sc rfl (sc rfl (sc rfl (sc rfl (sc rfl (sc rfl (sc rfl (sc rfl sn))))))))) (Turn.picks [1, 2, 3, 4, 5] rfl rfl)
             ·refine Wo.s (gg rfl rfl (eFT h3002)) rfl <| Wo.s (gg rfl rfl (eFT h3002)) rfl <| Wo.s (gg rfl rfl (eFT h3002)) rfl <| Wo.og (o_pf rfl h3002 rfl) (gg rfl rfl (eFF h3001)) rfl <| Wo.od (o_pf rfl h3001 rfl) rfl <| Wo.od (o_mv rfl) rfl <| Wo.og (o_mv rfl) (gg rfl rfl rfl) rfl <| Wo.og (o_mv rfl) (gg rfl rfl rfl) rfl <| Wo.og (o_bi rfl rfl (bin_eql _ _ _)) (gg rfl rfl rfl) rfl <| Wo.og (o_mv rfl) (gg rfl rfl rfl) rfl ?_
              rcases br_some hF with ⟨h3005, hF⟩ | ⟨h3005, hF⟩
              ·refine Wo.og (o_mv rfl) (gg rfl rfl (eTT h3005)) rfl <| Wo.og (o_mv rfl) (gg rfl rfl (eTT h3005)) rfl <| Wo.og (o_bi rfl rfl (bin_eql _ _ _)) (gg rfl rfl (eTT h3005)) rfl <| Wo.og (o_pt rfl h3005 rfl) (gg rfl rfl rfl) rfl <| Wo.od (o_pF rfl rfl) rfl <| Wo.od (o_as rfl) rfl <| Wo.nil <| At.bn ?_
               cases hF
               exact At.en () rfl (sc rfl (sc rfl (sc rfl (sc rfl (sc rfl (sc rfl (sc rfl (sc rfl (sc rfl sn))))))))) (Turn.picks [1, 2, 3, 4, 5] rfl rfl)
              ·refine Wo.s (gg rfl rfl (eFT h3005)) rfl <| Wo.s (gg rfl rfl (eFT h3005)) rfl <| Wo.s (gg rfl rfl (eFT h3005)) rfl <| Wo.og (o_pf rfl h3005 rfl) (gg rfl rfl rfl) rfl <| Wo.od (o_pF rfl rfl) rfl <| Wo.od (o_as rfl) rfl <| Wo.nil <| At.bn ?_
               cases hF
               exact At.en () rfl (sc rfl (sc rfl (sc rfl (sc rfl (sc rfl (sc rfl (sc rfl (sc rfl (sc rfl sn))))))))) (Turn.picks [1, 2, 3, 4, 5] rfl rfl)
           ·clear h3006
            rintro ⟨⟩
            refine At.tn <| Wk.region <| Wo.od (o_mv rfl) rfl <| Wo.od (o_bi rfl rfl (bin_add _ _ _)) rfl <| Wo.od (o_as rfl) rfl <| Wo.nil ?_
            cases hF
            exact At.en () rfl (sc rfl (sc rfl (sc rfl (sc rfl (sc rfl (sc rfl (sc rfl (sc rfl (sc rfl sn))))))))) (Turn.picks [0, 1, 2, 3, 4] rfl rfl)
          ·refine Wk.condF rfl h2976 <| Wk.exit <| At.te ?_
           cases hF
           exact At.en () rfl (sc rfl (sc rfl (sc rfl (sc rfl (sc rfl (sc rfl (sc rfl (sc rfl sn)))))))) (Turn.picks [0, 1, 2, 3, 4] rfl rfl)
        ·clear h3008
         rintro ⟨⟩
         refine At.be <| At.tn <| Wk.seq <| Wk.region <| Wo.od (o_mv rfl) rfl <| Wo.nil <| At.tn ?_
         rcases br_some hF with ⟨h3010, hF⟩ | ⟨h3010, hF⟩
         ·refine Wk.condT rfl h3010 <| Wk.region <| Wo.od (o_fa (r := ptr b12 1) rfl (fa25_1 _ _)) rfl <| Wo.od (o_ld (k := 3) t23 rfl rfl rfl) rfl <| Wo.od (o_mv rfl) rfl <| Wo.od (o_mv rfl) rfl <| Wo.od (o_bd rfl z26 rfl (bd_s bs26 rfl rfl rfl)) rfl <| Wo.x (o_bs (es := ([(v1018, v2356)] : List (Int × Int)).map (eP (eI .i64) (eI .i64))) s23 rfl (bs_c s23 z26 rfl rfl) rfl rfl) gn rfl fun b3011 => ?_
          obtain ⟨h3012, hF⟩ := gd_some hF
          refine Wo.x (o_apl (k := 5) (k2 := 0) (xs := (l2353 : List (Int × Int))) (ys := ([(v1018, v2356)] : List (Int × Int))) (enP (enI .i64) (enI .i64)) s23 ⟨_, u23⟩ rfl rfl rfl (.arr _ _ _ _ _) h3012) gn rfl fun a3013 => ?_
          refine Wo.od (o_fa (r := ptr b12 1) rfl (fa25_1 _ _)) rfl <| Wo.o0 (o_st (k := 4) t23 rfl rfl rfl rfl rfl) <| Wo.nil <| At.bn ?_
          cases hF
          exact At.en a3013 rfl (sc rfl (sc rfl (sc rfl (sc rfl (sc rfl (sc rfl (sc rfl sn))))))) (Turn.picks [1, 2, 3, 4, 5] rfl rfl)
         ·refine Wk.condF rfl h3010 <| Wk.skip <| At.bn ?_
          cases hF
          exact At.en a2354 rfl (sc rfl (sc rfl (sc rfl (sc rfl (sc rfl (sc rfl (sc rfl sn))))))) (Turn.picks [0, 1, 2, 3, 4] rfl rfl)
     ·clear h3014
      obtain ⟨l2851, v2853⟩ := r3015
      rintro a2852
      refine At.tn <| Wk.region <| Wo.od (o_mv rfl) rfl <| Wo.od (o_bi rfl rfl (bin_add _ _ _)) rfl <| Wo.od (o_as rfl) rfl <| Wo.nil ?_
      cases hF
      exact At.en a2852 rfl (sc rfl (sc rfl (sc rfl (sc rfl (sc rfl (sc rfl (sc rfl sn))))))) (Turn.picks [0, 1, 2, 3, 4] rfl rfl)
    ·refine Wk.condF rfl h2690 <| Wk.exit <| At.te ?_
     cases hF
     exact At.en a2354 rfl (sc rfl (sc rfl (sc rfl (sc rfl (sc rfl (sc rfl sn)))))) (Turn.picks [0, 1, 2, 3, 4] rfl rfl)
   ·clear h3016
    obtain ⟨l2687, v2689⟩ := r3017
    rintro a2688
    refine At.be <| At.bn <| At.tn <| Wk.region <| Wo.od (o_mv rfl) rfl <| Wo.od (o_bi rfl rfl (bin_add _ _ _)) rfl <| Wo.od (o_as rfl) rfl <| Wo.nil ?_
    cases hF
    exact At.en a2688 rfl (sc rfl (sc rfl (sc rfl (sc rfl (sc rfl (sc rfl sn)))))) (Turn.picks [0, 1, 2, 3, 4] rfl rfl)
  ·refine Wk.condF rfl h2022 <| Wk.exit <| At.te ?_
   cases hF
   exact At.en a1016 rfl (sc rfl (sc rfl sn)) (Turn.picks [2, 3, 4] rfl rfl)
 ·clear h3018
  rintro a2021
  refine At.be <| At.tn <| Wk.seq <| Wk.region <| Wo.od (o_ld (k := 1) t25 rfl rfl rfl) rfl <| Wo.o0 (o_st (k := 0) t25 rfl rfl rfl rfl rfl) <| Wo.nil <| At.tn <| Wk.ret ?_
  cases hF
  exact At.ret (.cell (k := 0) t25 rfl rfl rfl .nil) fun m' hm => ⟨(a2021, l2020.length), rfl, (Turn.picks [2] rfl rfl) m' hm⟩
theorem f65_ok (n : Nat) (x1 : Nat) (x2 : Nat) (x3 : Int) (x4 : Int) (x5 : Int) (x6 : Int) (l7 : List (Int × Int)) (a8 : Option Addr) (c9 : Nat) (r : Int × List (Int × Int)) (hF : F65 n x1 x2 x3 x4 x5 x6 l7 = some r) (m : AMem) (h10 : Rd m a8 c9 2 l7.length (l7.map (eP (eI .i64) (eI .i64)))) :
  CallA E18w 65 [.agg #[.int .u8 ((x1 : Nat) : Int), .int .u8 ((x2 : Nat) : Int), .int .i64 x3, .int .i64 x4, .int .i64 x5], .agg #[.int .i64 x6, .slice a8 l7.length c9]] m (fun v m' => ∃ x : Option Addr × Nat, v = .agg #[.int .i64 r.1, .slice x.1 x.2 x.2] ∧ Hp m m' [.sl x.1 2 x.2 (r.2.map (eP (eI .i64) (eI .i64)))]) := by
 unfold F65 at hF
 refine call_wk (m0 := m) (ps := [.rd a8 c9 2 l7.length (l7.map (eP (eI .i64) (eI .i64)))]) (N := 145) (rs := [.cell 4 25]) rfl Tryd.func65 rfl rfl rfl ((Hp.start m).inn rfl h10) <| Wk.seq <| Wk.region <| Wo.x (o_bx rfl) gn rfl fun b11 => ?_
 refine Wo.x (o_bx rfl) gn rfl fun b12 => ?_
 refine Wo.x (o_al z25 rfl) gn rfl fun b13 => ?_
 refine Wo.nil <| At.tn <| Wk.seq <| Wk.region <| Wo.od (o_fa (r := ptr b12 1) rfl (fa25_1 _ _)) rfl <| Wo.od (o_ld (k := 1) t23 rfl rfl rfl) rfl <| Wo.od (o_fa (r := ptr b12 1) rfl (fa25_1 _ _)) rfl <| Wo.od (o_ld (k := 1) t23 rfl rfl rfl) rfl <| Wo.od (o_ln (k := 3) u23 rfl rfl (.inl rfl)) rfl <| Wo.od (o_bu rfl rfl (bu_mi _ _)) rfl ?_
 obtain ⟨h14, hF⟩ := gd_some hF
 refine Wo.x (o_srl (k := 3) (lo := 0) (hi := mi (l7.length : Int) (210 : Int)) s23 rfl rfl rfl rfl h14 (.inl ⟨rfl, rfl⟩) (.inr ⟨_, rfl⟩)) gn rfl ?_
 rintro ⟨a15, c16⟩
 obtain ⟨l18, h17, hF⟩ := ob_some hF
 refine Wo.x (o_cl rfl rfl (fun m hm => f26_ok n ((l7.drop (0 : Int).toNat).take ((mi (l7.length : Int) (210 : Int) : Int).toNat - (0 : Int).toNat)) a15 c16 _ h17 m (hm.rd (k := 0) rfl (.rd _ _ _ _ _))) fun _ => rfl) gn rfl ?_
 rintro ⟨a19, n20⟩
 refine Wo.len (k := 0) (xs := l18) rfl ?_
 rintro rfl
 refine Wo.od (o_fa (r := ptr b12 1) rfl (fa25_1 _ _)) rfl <| Wo.o0 (o_st (k := 3) t23 rfl rfl rfl rfl rfl) <| Wo.nil <| At.tn <| Wk.seq <| Wk.region <| Wo.od (o_fa (r := ptr b12 1) rfl (fa25_1 _ _)) rfl <| Wo.od (o_ld (k := 3) t23 rfl rfl rfl) rfl <| Wo.od (o_ln (k := 0) u23 rfl rfl (.inl rfl)) rfl <| Wo.od (o_as rfl) rfl <| Wo.nil <| At.tn <| Wk.seq <| Wk.region <| Wo.od (o_fa (r := ptr b11 1) rfl (fa57_1 _ _)) rfl <| Wo.od (o_ld (k := 4) t5 rfl rfl rfl) rfl <| Wo.od (o_cv rfl (cv_i (by rw [u5]; rfl) u3)) rfl <| Wo.od (o_mv rfl) rfl ?_
 refine Wo.od (o_bi rfl rfl (bin_add _ _ _)) rfl ?_
 obtain ⟨h21, hF⟩ := gd_some hF
 obtain ⟨y22, h23, hF⟩ := ob_some hF
 refine Wo.od (o_bi rfl rfl ((ib_rem _ _ h21).trans (cI h23))) rfl <| Wo.od (o_as rfl) rfl <| Wo.nil <| At.tn <| Wk.seq ?_
 obtain ⟨r493, h492, hF⟩ := ob_some hF
 refine Wk.cut (G := (fun (r : Int × List (Int × Int) × Nat) (g : Option Addr) => match r, g with | (v256, l257, n259), a258 => ⟨.normal, [(3, ptr b12 0), (4, ptr b13 0)], [.obj b12 (.cells [.int .i64 v256, .slice a258 n259 n259] .own), .sl a258 2 n259 (l257.map (eP (eI .i64) (eI .i64))), .obj b13 (.cells [.int .i64 0, .slice none 0 0] .own)]⟩) r493) ?_ ?_
 ·clear hF
  revert r493
  intro r hF
  refine Wk.seq <| Wk.region <| Wo.od (o_fa (r := ptr b11 0) rfl (fa57_0 _ _)) rfl <| Wo.od (o_ld (k := 4) t5 rfl rfl rfl) rfl <| Wo.od (o_bi rfl rfl (ub_rem _ _ (by decide))) rfl <| Wo.nil <| At.tn <| Wk.block <| Wk.seq <| Wk.region <| Wo.od (o_bi rfl rfl (ub_eql _ _)) rfl <| Wo.od (o_as rfl) rfl <| Wo.nil <| At.tn ?_
  rcases br_some hF with ⟨h260, hF⟩ | ⟨h260, hF⟩
  ·refine Wk.condT rfl h260 <| Wk.region <| Wo.od (o_fa (r := ptr b11 2) rfl (fa57_2 _ _)) rfl <| Wo.od (o_ld (k := 4) t3 rfl rfl rfl) rfl <| Wo.od (o_fa (r := ptr b12 0) rfl (fa25_0 _ _)) rfl <| Wo.o0 (o_st (k := 3) t3 rfl rfl rfl rfl rfl) <| Wo.nil <| At.bn ?_
   cases hF
   exact At.en a19 rfl (sc rfl (sc rfl sn)) (Turn.picks [3, 0, 2] rfl rfl)
  ·refine Wk.condF rfl h260 <| Wk.seq <| Wk.region <| Wo.od (o_bi rfl rfl (ub_eql _ _)) rfl <| Wo.od (o_as rfl) rfl <| Wo.nil <| At.tn ?_
   rcases br_some hF with ⟨h261, hF⟩ | ⟨h261, hF⟩
   ·refine Wk.condT rfl h261 <| Wk.region <| Wo.od (o_fa (r := ptr b12 1) rfl (fa25_1 _ _)) rfl <| Wo.od (o_ld (k := 3) t23 rfl rfl rfl) rfl <| Wo.od (o_mv rfl) rfl <| Wo.od (o_fa (r := ptr b11 3) rfl (fa57_3 _ _)) rfl <| Wo.od (o_ld (k := 4) t26 rfl rfl rfl) rfl <| Wo.x (o_bs (es := ([(x4, x5)] : List (Int × Int)).map (eP (eI .i64) (eI .i64))) s23 rfl (bs_c s23 z26 rfl rfl) rfl rfl) gn rfl fun b262 => ?_
    obtain ⟨l263, h264, hF⟩ := ob_some hF
    refine Wo.x (o_cs (α := Option Addr × Nat) (V := fun y => .slice y.1 y.2 y.2) (N := fun y => pset [.arr b262 2 1 (([(x4, x5)]).map (eP (eI .i64) (eI .i64))) .own, .sl a19 2 l18.length (l18.map (eP (eI .i64) (eI .i64))), .rd a15 c16 2 (((l7.drop (0 : Int).toNat).take ((mi (l7.length : Int) (210 : Int) : Int).toNat - (0 : Int).toNat)).length) (((l7.drop (0 : Int).toNat).take ((mi (l7.length : Int) (210 : Int) : Int).toNat - (0 : Int).toNat)).map (eP (eI .i64) (eI .i64))), .obj b13 (.cells [.int .i64 0, .slice none 0 0] .own), .obj b12 (.cells [.int .i64 x6, .slice a19 l18.length l18.length] .own), .obj b11 (.cells [.int .u8 ((x1 : Nat) : Int), .int .u8 ((x2 : Nat) : Int), .int .i64 x3, .int .i64 x4, .int .i64 x5] .own), .rd a8 c9 2 l7.length (l7.map (eP (eI .i64) (eI .i64)))] 1 (.sl y.1 2 y.2 (l263.map (eP (eI .i64) (eI .i64))))) rfl rfl (fun m hm => f82_use n hm (k := 1) rfl (k2 := 0) rfl rfl h264)) gn rfl ?_
    rintro ⟨a265, n266⟩
    refine Wo.len (k := 1) (xs := l263) rfl ?_
    rintro rfl
    refine Wo.od (o_fa (r := ptr b12 1) rfl (fa25_1 _ _)) rfl <| Wo.o0 (o_st (k := 4) t23 rfl rfl rfl rfl rfl) <| Wo.nil <| At.bn ?_
    cases hF
    exact At.en a265 rfl (sc rfl (sc rfl sn)) (Turn.picks [4, 1, 3] rfl rfl)
   ·refine Wk.condF rfl h261 <| Wk.seq <| Wk.region <| Wo.od (o_bi rfl rfl (ub_eql _ _)) rfl <| Wo.od (o_as rfl) rfl <| Wo.nil <| At.tn ?_
    rcases br_some hF with ⟨h267, hF⟩ | ⟨h267, hF⟩
    ·refine Wk.condT rfl h267 <| Wk.seq <| Wk.region <| Wo.od (o_mv rfl) rfl <| Wo.od (o_mv rfl) rfl <| Wo.od (o_bi rfl rfl (bin_lss _ _ _)) rfl <| Wo.nil <| At.tn ?_
     rcases br_some hF with ⟨h268, hF⟩ | ⟨h268, hF⟩
     ·refine Wk.condT rfl h268 <| Wk.region <| Wo.od (o_fa (r := ptr b12 1) rfl (fa25_1 _ _)) rfl <| Wo.od (o_ld (k := 3) t23 rfl rfl rfl) rfl <| Wo.od (o_mv rfl) rfl <| Wo.od (o_mv rfl) rfl <| Wo.od (o_bi rfl rfl (bin_add _ _ _)) rfl ?_
      obtain ⟨l269, h270, hF⟩ := ob_some hF
      refine Wo.x (o_cs (α := Option Addr × Nat) (V := fun y => .slice y.1 y.2 y.2) (N := fun y => pset [.sl a19 2 l18.length (l18.map (eP (eI .i64) (eI .i64))), .rd a15 c16 2 (((l7.drop (0 : Int).toNat).take ((mi (l7.length : Int) (210 : Int) : Int).toNat - (0 : Int).toNat)).length) (((l7.drop (0 : Int).toNat).take ((mi (l7.length : Int) (210 : Int) : Int).toNat - (0 : Int).toNat)).map (eP (eI .i64) (eI .i64))), .obj b13 (.cells [.int .i64 0, .slice none 0 0] .own), .obj b12 (.cells [.int .i64 x6, .slice a19 l18.length l18.length] .own), .obj b11 (.cells [.int .u8 ((x1 : Nat) : Int), .int .u8 ((x2 : Nat) : Int), .int .i64 x3, .int .i64 x4, .int .i64 x5] .own), .rd a8 c9 2 l7.length (l7.map (eP (eI .i64) (eI .i64)))] 0 (.sl y.1 2 y.2 (l269.map (eP (eI .i64) (eI .i64))))) rfl rfl (fun m hm => f49_use n hm (k := 0) rfl h270)) gn rfl ?_
      rintro ⟨a271, n272⟩
      refine Wo.len (k := 0) (xs := l269) rfl ?_
      rintro rfl
      refine Wo.od (o_fa (r := ptr b12 1) rfl (fa25_1 _ _)) rfl <| Wo.o0 (o_st (k := 3) t23 rfl rfl rfl rfl rfl) <| Wo.nil <| At.bn ?_
      cases hF
      exact At.en a271 rfl (sc rfl (sc rfl sn)) (Turn.picks [3, 0, 2] rfl rfl)
     ·refine Wk.condF rfl h268 <| Wk.skip <| At.bn ?_
      cases hF
      exact At.en a19 rfl (sc rfl (sc rfl sn)) (Turn.picks [3, 0, 2] rfl rfl)
    ·refine Wk.condF rfl h267 <| Wk.seq <| Wk.region <| Wo.od (o_bi rfl rfl (ub_eql _ _)) rfl <| Wo.od (o_as rfl) rfl <| Wo.nil <| At.tn ?_
     rcases br_some hF with ⟨h273, hF⟩ | ⟨h273, hF⟩
     ·refine Wk.condT rfl h273 <| Wk.seq <| Wk.region <| Wo.od (o_mv rfl) rfl <| Wo.od (o_mv rfl) rfl <| Wo.od (o_bi rfl rfl (bin_lss _ _ _)) rfl <| Wo.nil <| At.tn ?_
      rcases br_some hF with ⟨h274, hF⟩ | ⟨h274, hF⟩
      ·refine Wk.condT rfl h274 <| Wk.drawc (prs := [(4, 20)]) (by kernel_rfl) <| Wn.od (o_fa (r := ptr b12 1) rfl (fa25_1 _ _)) rfl <| Wn.od (o_ld (k := 3) t23 rfl rfl rfl) rfl <| Wn.od (o_mv rfl) rfl <| Wn.od (o_fa (r := ptr b12 1) rfl (fa25_1 _ _)) rfl <| Wn.odr rfl (o_ld (k := 3) t23 rfl rfl rfl) rfl <| Wn.od (o_mv rfl) rfl <| Wn.od (o_fa (r := ptr b12 1) rfl (fa25_1 _ _)) rfl <| Wn.od (o_ld (k := 3) t23 rfl rfl rfl) rfl ?_
       refine Wn.od (o_mv rfl) rfl ?_
       obtain ⟨h275, hF⟩ := gd_some hF
       replace h275 := inB_some h275
       refine Wn.open (k := 0) rfl (pos_of h275) ?_
       rintro b276 tg277 rfl h278
       refine Wn.og (o_ixa s23 rfl rfl h275) gn rfl <| Wn.od (o_ia (r := ptr b276 (y22.toNat * 2 + 1)) rfl rfl (ia_c ar26 (i := 1) (by decide))) rfl ?_
       obtain ⟨⟨x279, x280⟩, h281, hF⟩ := ob_some hF
       refine Wn.od (o_lda (k := 0) t3 rfl rfl (map_at h281) rfl rfl) rfl <| Wn.od (o_fa (r := ptr b12 1) rfl (fa25_1 _ _)) rfl <| Wn.od (o_ld (k := 3) t23 rfl rfl rfl) rfl <| Wn.od (o_mv rfl) rfl ?_
       obtain ⟨h282, hF⟩ := gd_some hF
       replace h282 := inB_some h282
       refine Wn.og (o_ixa s23 rfl rfl h282) gn rfl <| Wn.od (o_ia (r := ptr b276 (y22.toNat * 2 + 0)) rfl rfl (ia_c ar26 (i := 0) (by decide))) rfl <| Wn.od (o_lda (k := 0) t3 rfl rfl (map_at h281) rfl rfl) rfl ?_
       obtain ⟨h283, hF⟩ := gd_some hF
       replace h283 := inB_some h283
       refine Wn.og (o_ixa s23 rfl rfl h283) gn rfl <| Wn.od (o_ia (r := ptr b276 (y22.toNat * 2 + 0)) rfl rfl (ia_c ar26 (i := 0) (by decide))) rfl <| Wn.o0w rfl (o_stl (k := 0) (x1 := (x279, x280)) (x2 := (x280, x280)) t3 rfl rfl rfl h281 rfl) ?_
       obtain ⟨h285, hF⟩ := gd_some hF
       replace h285 := inB_some h285
       refine Wn.og (o_ixa s23 rfl rfl h285) gn rfl <| Wn.od (o_ia (r := ptr b276 (y22.toNat * 2 + 1)) rfl rfl (ia_c ar26 (i := 1) (by decide))) rfl ?_
       obtain ⟨⟨x286, x287⟩, h288, hF⟩ := ob_some hF
       refine Wn.o0 (o_stl (k := 0) (x1 := (x286, x287)) (x2 := (x286, x279)) t3 rfl rfl rfl h288 rfl) <| Wn.nil (fun m hm => (OkP.rw rfl rfl rfl (hm.ne (i := 3) (j := 0) rfl rfl rfl rfl (by decide) rfl) OkP.nil)) <| At.bn ?_
       cases hF
       exact At.en (some ⟨b276, 0, none⟩) rfl (sc rfl (sc rfl sn)) (Turn.trans (Turn.close (k := 0) rfl) (Turn.picks [3, 0, 2] rfl rfl))
      ·refine Wk.condF rfl h274 <| Wk.skip <| At.bn ?_
       cases hF
       exact At.en a19 rfl (sc rfl (sc rfl sn)) (Turn.picks [3, 0, 2] rfl rfl)
     ·refine Wk.condF rfl h273 <| Wk.seq <| Wk.region <| Wo.od (o_bi rfl rfl (ub_eql _ _)) rfl <| Wo.od (o_as rfl) rfl <| Wo.nil <| At.tn ?_
      rcases br_some hF with ⟨h290, hF⟩ | ⟨h290, hF⟩
      ·refine Wk.condT rfl h290 <| Wk.seq <| Wk.region <| Wo.od (o_mv rfl) rfl <| Wo.od (o_mv rfl) rfl <| Wo.od (o_bi rfl rfl (bin_lss _ _ _)) rfl <| Wo.nil <| At.tn ?_
       rcases br_some hF with ⟨h291, hF⟩ | ⟨h291, hF⟩
       ·refine Wk.condT rfl h291 <| Wk.draw (by kernel_rfl) <| Wo.od (o_fa (r := ptr b12 1) rfl (fa25_1 _ _)) rfl <| Wo.od (o_ld (k := 3) t23 rfl rfl rfl) rfl <| Wo.od (o_mv rfl) rfl <| Wo.od (o_fa (r := ptr b12 1) rfl (fa25_1 _ _)) rfl <| Wo.od (o_ld (k := 3) t23 rfl rfl rfl) rfl <| Wo.od (o_mv rfl) rfl ?_
        obtain ⟨h292, hF⟩ := gd_some hF
        replace h292 := inB_some h292
        refine Wo.open (k := 0) rfl (pos_of h292) ?_
        rintro b293 tg294 rfl h295
        refine Wo.og (o_ixa s23 rfl rfl h292) gn rfl ?_
        obtain ⟨⟨x296, x297⟩, h298, hF⟩ := ob_some hF
        refine Wo.od (o_lda (k := 0) t26 rfl rfl (map_at h298) rfl rfl) rfl <| Wo.x (o_bs (es := ([(x296, x297)] : List (Int × Int)).map (eP (eI .i64) (eI .i64))) s23 rfl (bs_c s23 z26 rfl rfl) rfl rfl) gn rfl fun b299 => ?_
        obtain ⟨l300, h301, hF⟩ := ob_some hF
        refine Wo.turn (Turn.close (k := 1) rfl) ?_
        refine Wo.x (o_cs (α := Option Addr × Nat) (V := fun y => .slice y.1 y.2 y.2) (N := fun y => pset [.arr b299 2 1 (([(x296, x297)]).map (eP (eI .i64) (eI .i64))) .own, .sl (some ⟨b293, 0, none⟩) 2 l18.length (l18.map (eP (eI .i64) (eI .i64))), .rd a15 c16 2 (((l7.drop (0 : Int).toNat).take ((mi (l7.length : Int) (210 : Int) : Int).toNat - (0 : Int).toNat)).length) (((l7.drop (0 : Int).toNat).take ((mi (l7.length : Int) (210 : Int) : Int).toNat - (0 : Int).toNat)).map (eP (eI .i64) (eI .i64))), .obj b13 (.cells [.int .i64 0, .slice none 0 0] .own), .obj b12 (.cells [.int .i64 x6, .slice (some ⟨b293, 0, none⟩) l18.length l18.length] .own), .obj b11 (.cells [.int .u8 ((x1 : Nat) : Int), .int .u8 ((x2 : Nat) : Int), .int .i64 x3, .int .i64 x4, .int .i64 x5] .own), .rd a8 c9 2 l7.length (l7.map (eP (eI .i64) (eI .i64)))] 1 (.sl y.1 2 y.2 (l300.map (eP (eI .i64) (eI .i64))))) rfl rfl (fun m hm => f82_use n hm (k := 1) rfl (k2 := 0) rfl rfl h301)) gn rfl ?_
        rintro ⟨a302, n303⟩
        refine Wo.len (k := 1) (xs := l300) rfl ?_
        rintro rfl
        refine Wo.od (o_fa (r := ptr b12 1) rfl (fa25_1 _ _)) rfl <| Wo.o0 (o_st (k := 4) t23 rfl rfl rfl rfl rfl) <| Wo.nil <| At.bn ?_
        cases hF
        exact At.en a302 rfl (sc rfl (sc rfl sn)) (Turn.picks [4, 1, 3] rfl rfl)
       ·refine Wk.condF rfl h291 <| Wk.skip <| At.bn ?_
        cases hF
        exact At.en a19 rfl (sc rfl (sc rfl sn)) (Turn.picks [3, 0, 2] rfl rfl)
      ·refine Wk.condF rfl h290 <| Wk.seq <| Wk.region <| Wo.od (o_bi rfl rfl (ub_eql _ _)) rfl <| Wo.od (o_as rfl) rfl <| Wo.nil <| At.tn ?_
       rcases br_some hF with ⟨h304, hF⟩ | ⟨h304, hF⟩
       ·refine Wk.condT rfl h304 <| Wk.region <| Wo.od (o_fa (r := ptr b12 0) rfl (fa25_0 _ _)) rfl <| Wo.od (o_ld (k := 3) t3 rfl rfl rfl) rfl <| Wo.od (o_bu rfl rfl (bu_ma _ _)) rfl <| Wo.od (o_bi rfl rfl (ib_rem _ _ (by decide))) rfl <| Wo.od (o_bi rfl rfl (bin_add _ _ _)) rfl <| Wo.od (o_fa (r := ptr b12 0) rfl (fa25_0 _ _)) rfl <| Wo.o0 (o_st (k := 3) t3 rfl rfl rfl rfl rfl) <| Wo.nil <| At.bn ?_
        cases hF
        exact At.en a19 rfl (sc rfl (sc rfl sn)) (Turn.picks [3, 0, 2] rfl rfl)
       ·refine Wk.condF rfl h304 <| Wk.seq <| Wk.region <| Wo.od (o_bi rfl rfl (ub_eql _ _)) rfl <| Wo.od (o_as rfl) rfl <| Wo.nil <| At.tn ?_
        rcases br_some hF with ⟨h305, hF⟩ | ⟨h305, hF⟩
        ·refine Wk.condT rfl h305 <| Wk.seq <| Wk.region <| Wo.od (o_fa (r := ptr b12 0) rfl (fa25_0 _ _)) rfl <| Wo.o0 (o_st (k := 3) t3 rfl rfl rfl rfl rfl) <| Wo.od (o_fa (r := ptr b12 1) rfl (fa25_1 _ _)) rfl <| Wo.o0 (o_st (k := 3) t23 rfl rfl rfl rfl rfl) <| Wo.nil <| At.tn <| Wk.seq <| Wk.region <| Wo.od (o_mv rfl) rfl <| Wo.nil <| At.tn <| Wk.block ?_
         obtain ⟨l430, h490, hF⟩ := ob_some hF
         refine Wk.cut (G := (fun (r : List (Int × Int)) (g : Option Addr) => match r, g with | l430, a431 => ⟨(.exit 1), [(3, ptr b12 0), (4, ptr b13 0)], [.obj b12 (.cells [.int .i64 64, .slice a431 l430.length l430.length] .own), .sl a431 2 l430.length (l430.map (eP (eI .i64) (eI .i64))), .obj b13 (.cells [.int .i64 0, .slice none 0 0] .own)]⟩) l430) ?_ ?_
         ·refine Wk.weak (fs' := [(2, ptr b11 0), (3, ptr b12 0), (4, ptr b13 0), (112, .int .i64 0)]) (ps' := [.obj b11 (.cells [.int .u8 ((x1 : Nat) : Int), .int .u8 ((x2 : Nat) : Int), .int .i64 x3, .int .i64 x4, .int .i64 x5] .own), .obj b12 (.cells [.int .i64 64, .slice none ([] : List (Int × Int)).length ([] : List (Int × Int)).length] .own), .sl none 2 ([] : List (Int × Int)).length (([] : List (Int × Int)).map (eP (eI .i64) (eI .i64))), .obj b13 (.cells [.int .i64 0, .slice none 0 0] .own)]) (sc rfl (sc rfl (sc rfl (sc rfl sn)))) (Turn.trans (Turn.nil 2 rfl) (Turn.picks [5, 4, 0, 3] rfl rfl)) ?_
          refine Wk.loop (σ := List (Int × Int) × Int) (ρ := List (Int × Int)) (γ := Option Addr) (δ := fun _ => Option Addr) _ (fun (s : List (Int × Int) × Int) (g : Option Addr) => match s, g with | (l366, v368), a367 => ⟨.normal, [(2, ptr b11 0), (3, ptr b12 0), (4, ptr b13 0), (112, .int .i64 v368)], [.obj b11 (.cells [.int .u8 ((x1 : Nat) : Int), .int .u8 ((x2 : Nat) : Int), .int .i64 x3, .int .i64 x4, .int .i64 x5] .own), .obj b12 (.cells [.int .i64 64, .slice a367 l366.length l366.length] .own), .sl a367 2 l366.length (l366.map (eP (eI .i64) (eI .i64))), .obj b13 (.cells [.int .i64 0, .slice none 0 0] .own)]⟩) (fun (r : List (Int × Int)) (g : Option Addr) => match r, g with | l430, a431 => ⟨(.exit 1), [(3, ptr b12 0), (4, ptr b13 0)], [.obj b12 (.cells [.int .i64 64, .slice a431 l430.length l430.length] .own), .sl a431 2 l430.length (l430.map (eP (eI .i64) (eI .i64))), .obj b13 (.cells [.int .i64 0, .slice none 0 0] .own)]⟩) ?_ (fun _ _ => rfl) (fun r d => by intro e; cases e) _ _ _ h490 none
          clear hF h490
          rintro ⟨l366, v368⟩ a367 r hF
          unfold L65_2 at hF
          refine Wk.seq <| Wk.region <| Wo.od (o_bi rfl rfl (bin_lss _ _ _)) rfl <| Wo.nil <| At.tn <| Wk.seq ?_
          rcases br_some hF with ⟨h432, hF⟩ | ⟨h432, hF⟩
          ·refine Wk.condT rfl h432 <| Wk.skip <| At.tn <| Wk.seq <| Wk.block <| Wk.seq <| Wk.region <| Wo.od (o_mv rfl) rfl <| Wo.od (o_as rfl) rfl <| Wo.nil <| At.tn <| Wk.seq <| Wk.region <| Wo.od (o_mv rfl) rfl <| Wo.od (o_bi rfl rfl (bin_add _ _ _)) rfl <| Wo.od (o_as rfl) rfl <| Wo.nil <| At.tn <| Wk.block ?_
           obtain ⟨l471, h488, hF⟩ := ob_some hF
           refine Wk.cut (G := (fun (r : List (Int × Int)) (g : Option Addr) => match r, g with | l471, a472 => ⟨(.exit 3), [(2, ptr b11 0), (3, ptr b12 0), (4, ptr b13 0), (112, .int .i64 v368)], [.obj b11 (.cells [.int .u8 ((x1 : Nat) : Int), .int .u8 ((x2 : Nat) : Int), .int .i64 x3, .int .i64 x4, .int .i64 x5] .own), .obj b12 (.cells [.int .i64 64, .slice a472 l471.length l471.length] .own), .sl a472 2 l471.length (l471.map (eP (eI .i64) (eI .i64))), .obj b13 (.cells [.int .i64 0, .slice none 0 0] .own)]⟩) l471) ?_ ?_
           ·refine Wk.weak (fs' := [(2, ptr b11 0), (3, ptr b12 0), (4, ptr b13 0), (7, .int .i64 v368), (8, .int .i64 (IntKind.wrap .i64 (v368 + 1))), (112, .int .i64 v368)]) (ps' := [.obj b11 (.cells [.int .u8 ((x1 : Nat) : Int), .int .u8 ((x2 : Nat) : Int), .int .i64 x3, .int .i64 x4, .int .i64 x5] .own), .obj b12 (.cells [.int .i64 64, .slice a367 l366.length l366.length] .own), .sl a367 2 l366.length (l366.map (eP (eI .i64) (eI .i64))), .obj b13 (.cells [.int .i64 0, .slice none 0 0] .own)]) (sc rfl (sc rfl (sc rfl (sc rfl (sc rfl (sc rfl sn)))))) (Turn.picks [0, 1, 2, 3] rfl rfl) ?_
            refine Wk.loop (σ := List (Int × Int) × Int) (ρ := List (Int × Int)) (γ := Option Addr) (δ := fun _ => Option Addr) _ (fun (s : List (Int × Int) × Int) (g : Option Addr) => match s, g with | (l450, v452), a451 => ⟨.normal, [(2, ptr b11 0), (3, ptr b12 0), (4, ptr b13 0), (7, .int .i64 v368), (8, .int .i64 v452), (112, .int .i64 v368)], [.obj b11 (.cells [.int .u8 ((x1 : Nat) : Int), .int .u8 ((x2 : Nat) : Int), .int .i64 x3, .int .i64 x4, .int .i64 x5] .own), .obj b12 (.cells [.int .i64 64, .slice a451 l450.length l450.length] .own), .sl a451 2 l450.length (l450.map (eP (eI .i64) (eI .i64))), .obj b13 (.cells [.int .i64 0, .slice none 0 0] .own)]⟩) (fun (r : List (Int × Int)) (g : Option Addr) => match r, g with | l471, a472 => ⟨(.exit 3), [(2, ptr b11 0), (3, ptr b12 0), (4, ptr b13 0), (112, .int .i64 v368)], [.obj b11 (.cells [.int .u8 ((x1 : Nat) : Int), .int .u8 ((x2 : Nat) : Int), .int .i64 x3, .int .i64 x4, .int .i64 x5] .own), .obj b12 (.cells [.int .i64 64, .slice a472 l471.length l471.length] .own), .sl a472 2 l471.length (l471.map (eP (eI .i64) (eI .i64))), .obj b13 (.cells [.int .i64 0, .slice none 0 0] .own)]⟩) ?_ (fun _ _ => rfl) (fun r d => by intro e; cases e) _ _ _ h488 a367
            clear hF h488
            rintro ⟨l450, v452⟩ a451 r hF
            unfold L65_1 at hF
            refine Wk.seq <| Wk.seq ?_
            obtain ⟨v480, h482, hF⟩ := ob_some hF
            refine Wk.cut (G := (fun (r : Bool) (g : Unit) => match r, g with | v480, _ => ⟨.normal, [(2, ptr b11 0), (3, ptr b12 0), (4, ptr b13 0), (7, .int .i64 v368), (8, .int .i64 v452), (112, .int .i64 v368), (132, .bool v480)], [.obj b11 (.cells [.int .u8 ((x1 : Nat) : Int), .int .u8 ((x2 : Nat) : Int), .int .i64 x3, .int .i64 x4, .int .i64 x5] .own), .obj b12 (.cells [.int .i64 64, .slice a451 l450.length l450.length] .own), .sl a451 2 l450.length (l450.map (eP (eI .i64) (eI .i64))), .obj b13 (.cells [.int .i64 0, .slice none 0 0] .own)]⟩) v480) ?_ ?_
            ·clear hF
             revert v480
             intro r hF
             refine Wk.region <| Wo.od (o_mv rfl) rfl <| Wo.od (o_mv rfl) rfl <| Wo.od (o_bi rfl rfl (bin_add _ _ _)) rfl <| Wo.od (o_bu rfl rfl (bu_mi _ _)) rfl <| Wo.od (o_bi rfl rfl (bin_lss _ _ _)) rfl <| Wo.od (o_mv rfl) rfl ?_
             rcases br_some hF with ⟨h481, hF⟩ | ⟨h481, hF⟩
             ·refine Wo.og (o_fa (r := ptr b12 1) rfl (fa25_1 _ _)) (gg rfl rfl (eTT h481)) rfl <| Wo.og (o_ld (k := 1) t23 rfl rfl rfl) (gg rfl rfl (eTT h481)) rfl <| Wo.og (o_ln (k := 2) u23 rfl rfl (.inl rfl)) (gg rfl rfl (eTT h481)) rfl <| Wo.og (o_fa (r := ptr b11 1) rfl (fa57_1 _ _)) (gg rfl rfl (eTT h481)) rfl <| Wo.og (o_ld (k := 0) t5 rfl rfl rfl) (gg rfl rfl (eTT h481)) rfl <| Wo.og (o_bi rfl rfl (ub_rem _ _ (by decide))) (gg rfl rfl (eTT h481)) rfl <| Wo.og (o_cv rfl (cv_i (by rw [u5]; rfl) u3)) (gg rfl rfl (eTT h481)) rfl <| Wo.og (o_bi rfl rfl (bin_add _ _ _)) (gg rfl rfl (eTT h481)) rfl <| Wo.og (o_bi rfl rfl (bin_lss _ _ _)) (gg rfl rfl (eTT h481)) rfl <| Wo.od (o_pt rfl h481 rfl) rfl ?_
              refine Wo.nil ?_
              cases hF
              exact At.en () rfl (sc rfl (sc rfl (sc rfl (sc rfl (sc rfl (sc rfl (sc rfl sn))))))) (Turn.picks [0, 1, 2, 3] rfl rfl)
             ·refine Wo.s (gg rfl rfl (eFT h481)) rfl <| Wo.s (gg rfl rfl (eFT h481)) rfl <| Wo.s (gg rfl rfl (eFT h481)) rfl <| Wo.s (gg rfl rfl (eFT h481)) rfl <| Wo.s (gg rfl rfl (eFT h481)) rfl <| Wo.s (gg rfl rfl (eFT h481)) rfl <| Wo.s (gg rfl rfl (eFT h481)) rfl <| Wo.s (gg rfl rfl (eFT h481)) rfl <| Wo.s (gg rfl rfl (eFT h481)) rfl <| Wo.od (o_pf rfl h481 rfl) rfl ?_
              refine Wo.nil ?_
              cases hF
              exact At.en () rfl (sc rfl (sc rfl (sc rfl (sc rfl (sc rfl (sc rfl (sc rfl sn))))))) (Turn.picks [0, 1, 2, 3] rfl rfl)
            ·clear h482
             rintro ⟨⟩
             refine At.tn ?_
             rcases br_some hF with ⟨h484, hF⟩ | ⟨h484, hF⟩
             ·refine Wk.condT rfl h484 <| Wk.skip <| At.tn <| Wk.seq <| Wk.block <| Wk.region <| Wo.od (o_fa (r := ptr b12 1) rfl (fa25_1 _ _)) rfl <| Wo.od (o_ld (k := 1) t23 rfl rfl rfl) rfl <| Wo.od (o_mv rfl) rfl <| Wo.od (o_mv rfl) rfl <| Wo.od (o_bd rfl z26 rfl (bd_s bs26 rfl rfl rfl)) rfl <| Wo.x (o_bs (es := ([(v368, v452)] : List (Int × Int)).map (eP (eI .i64) (eI .i64))) s23 rfl (bs_c s23 z26 rfl rfl) rfl rfl) gn rfl fun b485 => ?_
              obtain ⟨h486, hF⟩ := gd_some hF
              refine Wo.x (o_apl (k := 3) (k2 := 0) (xs := (l450 : List (Int × Int))) (ys := ([(v368, v452)] : List (Int × Int))) (enP (enI .i64) (enI .i64)) s23 ⟨_, u23⟩ rfl rfl rfl (.arr _ _ _ _ _) h486) gn rfl fun a487 => ?_
              refine Wo.od (o_fa (r := ptr b12 1) rfl (fa25_1 _ _)) rfl <| Wo.o0 (o_st (k := 2) t23 rfl rfl rfl rfl rfl) <| Wo.nil <| At.bn <| At.tn <| Wk.region <| Wo.od (o_mv rfl) rfl <| Wo.od (o_bi rfl rfl (bin_add _ _ _)) rfl <| Wo.od (o_as rfl) rfl <| Wo.nil ?_
              cases hF
              exact At.en a487 rfl (sc rfl (sc rfl (sc rfl (sc rfl (sc rfl (sc rfl sn)))))) (Turn.picks [1, 2, 3, 4] rfl rfl)
             ·refine Wk.condF rfl h484 <| Wk.exit <| At.te ?_
              cases hF
              exact At.en a451 rfl (sc rfl (sc rfl (sc rfl (sc rfl sn)))) (Turn.picks [0, 1, 2, 3] rfl rfl)
           ·clear h488
            rintro a472
            refine At.be <| At.bn <| At.tn <| Wk.region <| Wo.od (o_bi rfl rfl (bin_add _ _ _)) rfl <| Wo.od (o_mv rfl) rfl <| Wo.nil ?_
            cases hF
            exact At.en a472 rfl (sc rfl (sc rfl (sc rfl (sc rfl sn)))) (Turn.picks [0, 1, 2, 3] rfl rfl)
          ·refine Wk.condF rfl h432 <| Wk.exit <| At.te ?_
           cases hF
           exact At.en a367 rfl (sc rfl (sc rfl sn)) (Turn.picks [1, 2, 3] rfl rfl)
         ·clear h490
          rintro a431
          refine At.be <| At.bn ?_
          cases hF
          exact At.en a431 rfl (sc rfl (sc rfl sn)) (Turn.picks [0, 1, 2] rfl rfl)
        ·refine Wk.condF rfl h305 <| Wk.skip <| At.bn ?_
         cases hF
         exact At.en a19 rfl (sc rfl (sc rfl sn)) (Turn.picks [3, 0, 2] rfl rfl)
 ·clear h492
  obtain ⟨v256, l257, n259⟩ := r493
  rintro a258
  refine At.tn <| Wk.seq <| Wk.region <| Wo.od (o_ld (k := 0) t25 rfl rfl rfl) rfl <| Wo.o0 (o_st (k := 2) t25 rfl rfl rfl rfl rfl) <| Wo.nil <| At.tn <| Wk.ret ?_
  cases hF
  exact At.ret (.cell (k := 2) t25 rfl rfl rfl .nil) fun m' hm => ⟨(a258, n259), rfl, (Turn.picks [1] rfl rfl) m' hm⟩
theorem f28_ok (n : Nat) (x1 : Nat) (x2 : Nat) (x3 : Nat) (l4 : List (Nat × Nat)) (x8 : Nat) (x9 : Nat) (x10 : Int) (x11 : Int) (x12 : Int) (x13 : Nat) (x14 : Nat) (x15 : Int) (x16 : Int) (x17 : Int) (a5 : Option Addr) (c6 : Nat) (r : Int × List (Int × Int) × Int × List (Int × Int) × Int × List (Int × Int)) (hF : F28 n x1 x2 x3 l4 x8 x9 x10 x11 x12 x13 x14 x15 x16 x17 = some r) (m : AMem) (h7 : Rd m a5 c6 2 l4.length (l4.map (eP (eN .u8) (eN .u8)))) :
  CallA E18w 28 [.agg #[.int .u8 ((x1 : Nat) : Int), .int .u8 ((x2 : Nat) : Int), .int .u16 ((x3 : Nat) : Int), .slice a5 l4.length c6], .agg #[.int .u8 ((x8 : Nat) : Int), .int .u8 ((x9 : Nat) : Int), .int .i64 x10, .int .i64 x11, .int .i64 x12, .int .u8 ((x13 : Nat) : Int), .int .u8 ((x14 : Nat) : Int), .int .i64 x15, .int .i64 x16, .int .i64 x17]] m (fun v m' => ∃ x : Option Addr × Nat × Option Addr × Nat × Option Addr × Nat, v = .agg #[.int .i64 r.1, .slice x.1 x.2.1 x.2.1, .int .i64 r.2.2.1, .slice x.2.2.1 x.2.2.2.1 x.2.2.2.1, .int .i64 r.2.2.2.2.1, .slice x.2.2.2.2.1 x.2.2.2.2.2 x.2.2.2.2.2] ∧ Hp m m' [.sl x.1 2 x.2.1 (r.2.1.map (eP (eI .i64) (eI .i64))), .sl x.2.2.1 2 x.2.2.2.1 (r.2.2.2.1.map (eP (eI .i64) (eI .i64))), .sl x.2.2.2.2.1 2 x.2.2.2.2.2 (r.2.2.2.2.2.map (eP (eI .i64) (eI .i64)))]) := by
 unfold F28 at hF
 refine call_wk (m0 := m) (ps := [.rd a5 c6 2 l4.length (l4.map (eP (eN .u8) (eN .u8)))]) (N := 20) (rs := [.cell 4 59]) rfl Tryd.func28 rfl rfl rfl ((Hp.start m).inn rfl h7) <| Wk.seq <| Wk.region <| Wo.x (o_bx rfl) gn rfl fun b18 => ?_
 refine Wo.x (o_bx rfl) gn rfl fun b19 => ?_
 refine Wo.x (o_al z59 rfl) gn rfl fun b20 => ?_
 refine Wo.nil <| At.tn <| Wk.seq <| Wk.region <| Wo.od (o_ld (k := 2) t55 rfl rfl rfl) rfl ?_
 obtain ⟨⟨r22, l23⟩, h21, hF⟩ := ob_some hF
 refine Wo.x (o_cl rfl rfl (fun m hm => f40_ok n x1 x2 x3 l4 a5 c6 _ h21 m (hm.rd (k := 3) rfl (.rd _ _ _ _ _))) fun _ => rfl) gn rfl ?_
 rintro ⟨a24, n25⟩
 refine Wo.len (k := 0) (xs := l23) rfl ?_
 rintro rfl
 refine Wo.x (o_al z25 rfl) gn rfl fun b26 => ?_
 refine Wo.o0 (o_st (k := 0) t25 rfl rfl rfl rfl rfl) <| Wo.nil <| At.tn <| Wk.seq <| Wk.region <| Wo.od (o_ia (r := ptr b19 0) rfl rfl (ia_c ar58 (i := 0) (by decide))) rfl <| Wo.od (o_ld (k := 3) t57 rfl rfl rfl) rfl <| Wo.od (o_ld (k := 0) t25 rfl rfl rfl) rfl ?_
 obtain ⟨⟨r28, l29⟩, h27, hF⟩ := ob_some hF
 refine Wo.x (o_cl rfl rfl (fun m hm => f65_ok n x8 x9 x10 x11 x12 r22 l23 a24 l23.length _ h27 m (hm.rd (k := 1) rfl (.sl _ _ _ _))) fun _ => rfl) gn rfl ?_
 rintro ⟨a30, n31⟩
 refine Wo.len (k := 0) (xs := l29) rfl ?_
 rintro rfl
 refine Wo.x (o_al z25 rfl) gn rfl fun b32 => ?_
 refine Wo.o0 (o_st (k := 0) t25 rfl rfl rfl rfl rfl) <| Wo.nil <| At.tn <| Wk.seq <| Wk.drawc (prs := [(0, 5), (1, 5)]) (by kernel_rfl) <| Wn.od (o_ld (k := 2) t25 rfl rfl rfl) rfl <| Wn.od (o_ld (k := 0) t25 rfl rfl rfl) rfl <| Wn.od (o_ia (r := ptr b19 5) rfl rfl (ia_c ar58 (i := 1) (by decide))) rfl <| Wn.od (o_ld (k := 5) t57 rfl rfl rfl) rfl <| Wn.od (o_ld (k := 0) t25 rfl rfl rfl) rfl ?_
 obtain ⟨⟨r34, l35⟩, h33, hF⟩ := ob_some hF
 refine Wn.c (o_ce rfl rfl (fun m hm => f65_ok n x13 x14 x15 x16 x17 r28 l29 a30 l29.length _ h33 m (hm.rd (k := 1) rfl (.sl _ _ _ _))) fun _ => rfl) gn rfl ?_
 rintro ⟨a36, n37⟩
 refine Wn.len (k := 0) (xs := l35) rfl ?_
 rintro rfl
 refine Wn.od (o_bd rfl z59 rfl (bd_s bs59 rfl rfl rfl)) rfl <| Wn.o0 (o_st (k := 5) t59 rfl rfl rfl rfl rfl) <| Wn.nil (fun m hm => OkP.all rfl) <| At.tn <| Wk.ret ?_
 cases hF
 exact At.ret (.cell (k := 5) t59 rfl rfl rfl .nil) fun m' hm => ⟨(a24, l23.length, a30, l29.length, a36, l35.length), rfl, (Turn.picks [4, 2, 0] rfl rfl) m' hm⟩
theorem f94_ok (n : Nat) (x1 : Int)  (r : Bool) (hF : F94 n x1 = some r) (m : AMem)  :
  CallA E18w 94 [.int .i64 x1] m (fun v m' => ∃ x : Unit, v = .bool r ∧ Hp m m' []) := by
 unfold F94 at hF
 refine call_wk (m0 := m) (ps := []) (N := 6) (rs := [.tmp 2]) rfl Tryd.func94 rfl rfl rfl (Hp.start m) <| Wk.seq <| Wk.region <| Wo.od (o_as rfl) rfl <| Wo.nil <| At.tn <| Wk.seq <| Wk.region <| Wo.od (o_mv rfl) rfl <| Wo.od (o_mv rfl) rfl <| Wo.od (o_bi rfl rfl (ib_neq _ _)) rfl <| Wo.od (o_as rfl) rfl <| Wo.nil <| At.tn <| Wk.ret ?_
 cases hF
 exact At.ret (.tmp rfl .nil) fun m' hm => ⟨(), rfl, (Turn.picks [] rfl rfl) m' hm⟩
theorem f81_ok (n : Nat) (x1 : Int) (x2 : Int)  (r : Int) (hF : F81 n x1 x2 = some r) (m : AMem)  :
  CallA E18w 81 [.int .i64 x1, .int .i64 x2] m (fun v m' => ∃ x : Unit, v = .int .i64 r ∧ Hp m m' []) := by
 unfold F81 at hF
 refine call_wk (m0 := m) (ps := []) (N := 20) (rs := [.tmp 4]) rfl Tryd.func81 rfl rfl rfl (Hp.start m) <| Wk.seq <| Wk.region <| Wo.od (o_as rfl) rfl <| Wo.nil <| At.tn <| Wk.seq <| Wk.region <| Wo.od (o_mv rfl) rfl ?_
 obtain ⟨r4, h3, hF⟩ := ob_some hF
 refine Wo.x (o_cl rfl rfl (fun m hm => f94_ok n x1  _ h3 m ) fun _ => rfl) gn rfl ?_
 rintro ⟨⟩
 refine Wo.od (o_as rfl) rfl <| Wo.nil <| At.tn <| Wk.seq <| Wk.region <| Wo.od (o_mv rfl) rfl ?_
 obtain ⟨r6, h5, hF⟩ := ob_some hF
 refine Wo.x (o_cl rfl rfl (fun m hm => f94_ok n x2  _ h5 m ) fun _ => rfl) gn rfl ?_
 rintro ⟨⟩
 refine Wo.od (o_as rfl) rfl <| Wo.nil <| At.tn <| Wk.seq <| Wk.seq <| Wk.region <| Wo.od (o_mv rfl) rfl <| Wo.nil <| At.tn ?_
 rcases br_some hF with ⟨h7, hF⟩ | ⟨h7, hF⟩
 ·refine Wk.condT rfl h7 <| Wk.seq <| Wk.seq <| Wk.region <| Wo.od (o_mv rfl) rfl <| Wo.nil <| At.tn ?_
  rcases br_some hF with ⟨h8, hF⟩ | ⟨h8, hF⟩
  ·refine Wk.condT rfl h8 <| Wk.seq <| Wk.region <| Wo.od (o_as rfl) rfl <| Wo.nil <| At.tn <| Wk.ret <| At.tr <| At.tr ?_
   cases hF
   exact At.ret (.tmp rfl .nil) fun m' hm => ⟨(), rfl, (Turn.picks [] rfl rfl) m' hm⟩
  ·refine Wk.condF rfl h8 <| Wk.skip <| At.tn <| Wk.seq <| Wk.region <| Wo.od (o_as rfl) rfl <| Wo.nil <| At.tn <| Wk.ret <| At.tr ?_
   cases hF
   exact At.ret (.tmp rfl .nil) fun m' hm => ⟨(), rfl, (Turn.picks [] rfl rfl) m' hm⟩
 ·refine Wk.condF rfl h7 <| Wk.skip <| At.tn <| Wk.seq <| Wk.seq <| Wk.region <| Wo.od (o_mv rfl) rfl <| Wo.nil <| At.tn ?_
  rcases br_some hF with ⟨h9, hF⟩ | ⟨h9, hF⟩
  ·refine Wk.condT rfl h9 <| Wk.seq <| Wk.region <| Wo.od (o_as rfl) rfl <| Wo.nil <| At.tn <| Wk.ret <| At.tr ?_
   cases hF
   exact At.ret (.tmp rfl .nil) fun m' hm => ⟨(), rfl, (Turn.picks [] rfl rfl) m' hm⟩
  ·refine Wk.condF rfl h9 <| Wk.skip <| At.tn <| Wk.seq <| Wk.seq <| Wk.region <| Wo.od (o_mv rfl) rfl <| Wo.od (o_mv rfl) rfl <| Wo.od (o_bi rfl rfl (bin_lss _ _ _)) rfl <| Wo.nil <| At.tn ?_
   rcases br_some hF with ⟨h10, hF⟩ | ⟨h10, hF⟩
   ·refine Wk.condT rfl h10 <| Wk.seq <| Wk.region <| Wo.od (o_as rfl) rfl <| Wo.nil <| At.tn <| Wk.ret <| At.tr ?_
    cases hF
    exact At.ret (.tmp rfl .nil) fun m' hm => ⟨(), rfl, (Turn.picks [] rfl rfl) m' hm⟩
   ·refine Wk.condF rfl h10 <| Wk.skip <| At.tn <| Wk.seq <| Wk.seq <| Wk.region <| Wo.od (o_mv rfl) rfl <| Wo.od (o_mv rfl) rfl <| Wo.od (o_bi rfl rfl (bin_gtr _ _ _)) rfl <| Wo.nil <| At.tn ?_
    rcases br_some hF with ⟨h11, hF⟩ | ⟨h11, hF⟩
    ·refine Wk.condT rfl h11 <| Wk.seq <| Wk.region <| Wo.od (o_as rfl) rfl <| Wo.nil <| At.tn <| Wk.ret <| At.tr ?_
     cases hF
     exact At.ret (.tmp rfl .nil) fun m' hm => ⟨(), rfl, (Turn.picks [] rfl rfl) m' hm⟩
    ·refine Wk.condF rfl h11 <| Wk.skip <| At.tn <| Wk.seq <| Wk.region <| Wo.od (o_as rfl) rfl <| Wo.nil <| At.tn <| Wk.ret ?_
     cases hF
     exact At.ret (.tmp rfl .nil) fun m' hm => ⟨(), rfl, (Turn.picks [] rfl rfl) m' hm⟩
theorem f64_ok (n : Nat) (l1 : List (Int)) (l5 : List (Int)) (a2 : Option Addr) (c3 : Nat) (a6 : Option Addr) (c7 : Nat) (r : Int) (hF : F64 n l1 l5 = some r) (m : AMem) (h4 : Rd m a2 c3 1 l1.length (l1.map (eI .i64))) (h8 : Rd m a6 c7 1 l5.length (l5.map (eI .i64))) :
  CallA E18w 64 [.slice a2 l1.length c3, .slice a6 l5.length c7] m (fun v m' => ∃ x : Unit, v = .int .i64 r ∧ Hp m m' []) := by
 unfold F64 at hF
 refine call_wk (m0 := m) (ps := [.rd a6 c7 1 l5.length (l5.map (eI .i64)), .rd a2 c3 1 l1.length (l1.map (eI .i64))]) (N := 36) (rs := [.tmp 4]) rfl Tryd.func64 rfl rfl rfl (((Hp.start m).inn rfl h4).inn rfl h8) <| Wk.seq <| Wk.region <| Wo.od (o_as rfl) rfl <| Wo.nil <| At.tn <| Wk.seq <| Wk.seq <| Wk.region <| Wo.od (o_mv rfl) rfl <| Wo.od (o_ln (k := 1) u39 rfl rfl (.inl rfl)) rfl <| Wo.od (o_mv rfl) rfl <| Wo.nil <| At.tn <| Wk.block ?_
 obtain ⟨r44, h43, hF⟩ := ob_some hF
 refine Wk.cut (G := (fun (r : (Int) ⊕ (Unit)) (g : Unit) => match r, g with | .inl v27, _ => ⟨.ret, [(4, .int .i64 v27)], []⟩ | .inr _, _ => ⟨(.exit 0), [(0, .slice a2 l1.length c3), (1, .slice a6 l5.length c7)], [.rd a2 c3 1 l1.length (l1.map (eI .i64)), .rd a6 c7 1 l5.length (l5.map (eI .i64))]⟩) r44) ?_ ?_
 ·refine Wk.weak (fs' := [(0, .slice a2 l1.length c3), (1, .slice a6 l5.length c7), (9, .slice a2 l1.length c3), (10, .int .i64 (l1.length : Int)), (11, .int .i64 0)]) (ps' := [.rd a2 c3 1 l1.length (l1.map (eI .i64)), .rd a6 c7 1 l5.length (l5.map (eI .i64))]) (sc rfl (sc rfl (sc rfl (sc rfl (sc rfl sn))))) (Turn.picks [1, 0] rfl rfl) ?_
  refine Wk.loop (σ := Int) (ρ := (Int) ⊕ (Unit)) (γ := Unit) (δ := fun _ => Unit) _ (fun (s : Int) (g : Unit) => match s, g with | v10, _ => ⟨.normal, [(0, .slice a2 l1.length c3), (1, .slice a6 l5.length c7), (9, .slice a2 l1.length c3), (10, .int .i64 (l1.length : Int)), (11, .int .i64 v10)], [.rd a2 c3 1 l1.length (l1.map (eI .i64)), .rd a6 c7 1 l5.length (l5.map (eI .i64))]⟩) (fun (r : (Int) ⊕ (Unit)) (g : Unit) => match r, g with | .inl v27, _ => ⟨.ret, [(4, .int .i64 v27)], []⟩ | .inr _, _ => ⟨(.exit 0), [(0, .slice a2 l1.length c3), (1, .slice a6 l5.length c7)], [.rd a2 c3 1 l1.length (l1.map (eI .i64)), .rd a6 c7 1 l5.length (l5.map (eI .i64))]⟩) ?_ (fun _ _ => rfl) (fun r d => by rcases r with _ | _ <;> (intro e; cases e)) _ _ _ h43 ()
  clear hF h43
  rintro v10 ⟨⟩ r hF
  unfold L64_1 at hF
  refine Wk.seq <| Wk.region <| Wo.od (o_bi rfl rfl (bin_lss _ _ _)) rfl <| Wo.nil <| At.tn <| Wk.seq ?_
  rcases br_some hF with ⟨h28, hF⟩ | ⟨h28, hF⟩
  ·refine Wk.condT rfl h28 <| Wk.skip <| At.tn <| Wk.seq <| Wk.block <| Wk.seq <| Wk.region <| Wo.od (o_mv rfl) rfl ?_
   obtain ⟨h29, hF⟩ := gd_some hF
   replace h29 := inB_some h29
   refine Wo.openr (k := 0) rfl (pos_of h29) ?_
   rintro b30 o31 rfl
   refine Wo.og (o_ixs s39 rfl rfl h29) gn rfl ?_
   obtain ⟨x32, h33, hF⟩ := ob_some hF
   refine Wo.od (o_ldr (k := 0) t3 rfl rfl (map_at h33) rfl rfl) rfl <| Wo.od (o_as rfl) rfl <| Wo.od (o_as rfl) rfl <| Wo.nil <| At.tn <| Wk.seq <| Wk.seq <| Wk.region <| Wo.od (o_mv rfl) rfl <| Wo.od (o_mv rfl) rfl <| Wo.od (o_ln (k := 2) u39 rfl rfl (.inl rfl)) rfl <| Wo.od (o_bi rfl rfl (bin_geq _ _ _)) rfl <| Wo.nil <| At.tn ?_
   rcases br_some hF with ⟨h34, hF⟩ | ⟨h34, hF⟩
   ·refine Wk.condT rfl h34 <| Wk.seq <| Wk.region <| Wo.od (o_as rfl) rfl <| Wo.nil <| At.tn <| Wk.ret <| At.tr <| At.br <| At.tr ?_
    cases hF
    exact At.en () rfl (sc rfl sn) (Turn.picks [] rfl rfl)
   ·refine Wk.condF rfl h34 <| Wk.skip <| At.tn <| Wk.seq <| Wk.region <| Wo.od (o_mv rfl) rfl <| Wo.od (o_mv rfl) rfl ?_
    obtain ⟨h35, hF⟩ := gd_some hF
    replace h35 := inB_some h35
    refine Wo.openr (k := 2) rfl (pos_of h35) ?_
    rintro b36 o37 rfl
    refine Wo.og (o_ixs s39 rfl rfl h35) gn rfl ?_
    obtain ⟨x38, h39, hF⟩ := ob_some hF
    refine Wo.od (o_ldr (k := 0) t3 rfl rfl (map_at h39) rfl rfl) rfl <| Wo.od (o_as rfl) rfl <| Wo.nil <| At.tn <| Wk.seq <| Wk.region <| Wo.od (o_mv rfl) rfl <| Wo.od (o_mv rfl) rfl ?_
    obtain ⟨r41, h40, hF⟩ := ob_some hF
    refine Wo.x (o_cl rfl rfl (fun m hm => f81_ok n x32 x38  _ h40 m ) fun _ => rfl) gn rfl ?_
    rintro ⟨⟩
    refine Wo.od (o_as rfl) rfl <| Wo.nil <| At.tn <| Wk.seq <| Wk.region <| Wo.od (o_mv rfl) rfl <| Wo.od (o_bi rfl rfl (ib_neq _ _)) rfl <| Wo.nil <| At.tn ?_
    rcases br_some hF with ⟨h42, hF⟩ | ⟨h42, hF⟩
    ·refine Wk.condT rfl h42 <| Wk.seq <| Wk.region <| Wo.od (o_mv rfl) rfl <| Wo.od (o_as rfl) rfl <| Wo.nil <| At.tn <| Wk.ret <| At.br <| At.tr ?_
     cases hF
     exact At.en () rfl (sc rfl sn) (Turn.picks [] rfl rfl)
    ·refine Wk.condF rfl h42 <| Wk.skip <| At.bn <| At.tn <| Wk.region <| Wo.od (o_bi rfl rfl (bin_add _ _ _)) rfl <| Wo.od (o_mv rfl) rfl <| Wo.nil ?_
     cases hF
     exact At.en () rfl (sc rfl (sc rfl (sc rfl (sc rfl (sc rfl sn))))) (Turn.picks [2, 3] rfl rfl)
  ·refine Wk.condF rfl h28 <| Wk.exit <| At.te ?_
   cases hF
   exact At.en () rfl (sc rfl (sc rfl sn)) (Turn.picks [0, 1] rfl rfl)
 ·clear h43
  rcases r44 with v27 | _
  ·rintro ⟨⟩
   refine At.br <| At.tr ?_
   have hr := Option.some.inj hF
   subst r
   exact At.ret (.tmp rfl .nil) fun m' hm => ⟨(), rfl, (Turn.picks [] rfl rfl) m' hm⟩
  ·rintro ⟨⟩
   refine At.be <| At.tn <| Wk.seq <| Wk.seq <| Wk.region <| Wo.od (o_mv rfl) rfl <| Wo.od (o_ln (k := 0) u39 rfl rfl (.inl rfl)) rfl <| Wo.od (o_mv rfl) rfl <| Wo.od (o_ln (k := 1) u39 rfl rfl (.inl rfl)) rfl <| Wo.od (o_bi rfl rfl (bin_lss _ _ _)) rfl <| Wo.nil <| At.tn ?_
   rcases br_some hF with ⟨h45, hF⟩ | ⟨h45, hF⟩
   ·refine Wk.condT rfl h45 <| Wk.seq <| Wk.region <| Wo.od (o_as rfl) rfl <| Wo.nil <| At.tn <| Wk.ret <| At.tr ?_
    cases hF
    exact At.ret (.tmp rfl .nil) fun m' hm => ⟨(), rfl, (Turn.picks [] rfl rfl) m' hm⟩
   ·refine Wk.condF rfl h45 <| Wk.skip <| At.tn <| Wk.seq <| Wk.region <| Wo.od (o_as rfl) rfl <| Wo.nil <| At.tn <| Wk.ret ?_
    cases hF
    exact At.ret (.tmp rfl .nil) fun m' hm => ⟨(), rfl, (Turn.picks [] rfl rfl) m' hm⟩
theorem f23_ok (n : Nat) (x1 : Int) (l2 : List (Int × Int)) (a3 : Option Addr) (c4 : Nat) (r : Int) (hF : F23 n x1 l2 = some r) (m : AMem) (h5 : Rd m a3 c4 2 l2.length (l2.map (eP (eI .i64) (eI .i64)))) :
  CallA E18w 23 [.agg #[.int .i64 x1, .slice a3 l2.length c4]] m (fun v m' => ∃ x : Unit, v = .int .i64 r ∧ Hp m m' []) := by
 unfold F23 at hF
 refine call_wk (m0 := m) (ps := [.rd a3 c4 2 l2.length (l2.map (eP (eI .i64) (eI .i64)))]) (N := 53) (rs := [.tmp 2]) rfl Tryd.func23 rfl rfl rfl ((Hp.start m).inn rfl h5) <| Wk.seq <| Wk.region <| Wo.x (o_bx rfl) gn rfl fun b6 => ?_
 refine Wo.od (o_as rfl) rfl <| Wo.nil <| At.tn <| Wk.seq <| Wk.seq ?_
 obtain ⟨v17, h20, hF⟩ := ob_some hF
 refine Wk.cut (G := (fun (r : Bool) (g : Unit) => match r, g with | v17, _ => ⟨.normal, [(1, ptr b6 0), (19, .bool v17)], [.obj b6 (.cells [.int .i64 x1, .slice a3 l2.length c4] .own), .rd a3 c4 2 l2.length (l2.map (eP (eI .i64) (eI .i64)))]⟩) v17) ?_ ?_
 ·clear hF
  revert v17
  intro r hF
  refine Wk.region <| Wo.od (o_fa (r := ptr b6 0) rfl (fa25_0 _ _)) rfl <| Wo.od (o_ld (k := 0) t3 rfl rfl rfl) rfl <| Wo.od (o_bi rfl rfl (bin_lss _ _ _)) rfl <| Wo.od (o_mv rfl) rfl ?_
  rcases br_some hF with ⟨h18, hF⟩ | ⟨h18, hF⟩
  ·refine Wo.s (gg rfl rfl (eTF h18)) rfl <| Wo.s (gg rfl rfl (eTF h18)) rfl <| Wo.s (gg rfl rfl (eTF h18)) rfl <| Wo.od (o_pt rfl h18 rfl) rfl <| Wo.od (o_mv rfl) rfl <| Wo.s (gg rfl rfl rfl) rfl <| Wo.s (gg rfl rfl rfl) rfl <| Wo.s (gg rfl rfl rfl) rfl <| Wo.s (gg rfl rfl rfl) rfl <| Wo.od (o_pT rfl rfl) rfl ?_
   refine Wo.nil ?_
   cases hF
   exact At.en () rfl (sc rfl (sc rfl sn)) (Turn.picks [0, 1] rfl rfl)
  ·refine Wo.og (o_fa (r := ptr b6 0) rfl (fa25_0 _ _)) (gg rfl rfl (eFF h18)) rfl <| Wo.og (o_ld (k := 0) t3 rfl rfl rfl) (gg rfl rfl (eFF h18)) rfl <| Wo.og (o_bi rfl rfl (bin_gtr _ _ _)) (gg rfl rfl (eFF h18)) rfl <| Wo.od (o_pf rfl h18 rfl) rfl <| Wo.od (o_mv rfl) rfl ?_
   rcases br_some hF with ⟨h19, hF⟩ | ⟨h19, hF⟩
   ·refine Wo.s (gg rfl rfl (eTF h19)) rfl <| Wo.s (gg rfl rfl (eTF h19)) rfl <| Wo.s (gg rfl rfl (eTF h19)) rfl <| Wo.s (gg rfl rfl (eTF h19)) rfl <| Wo.od (o_pt rfl h19 rfl) rfl <| Wo.nil ?_
    cases hF
    exact At.en () rfl (sc rfl (sc rfl sn)) (Turn.picks [0, 1] rfl rfl)
   ·refine Wo.og (o_fa (r := ptr b6 1) rfl (fa25_1 _ _)) (gg rfl rfl (eFF h19)) rfl <| Wo.og (o_ld (k := 0) t23 rfl rfl rfl) (gg rfl rfl (eFF h19)) rfl <| Wo.og (o_ln (k := 1) u23 rfl rfl (.inl rfl)) (gg rfl rfl (eFF h19)) rfl <| Wo.og (o_bi rfl rfl (bin_gtr _ _ _)) (gg rfl rfl (eFF h19)) rfl <| Wo.od (o_pf rfl h19 rfl) rfl <| Wo.nil ?_
    cases hF
    exact At.en () rfl (sc rfl (sc rfl sn)) (Turn.picks [0, 1] rfl rfl)
 ·clear h20
  rintro ⟨⟩
  refine At.tn ?_
  rcases br_some hF with ⟨h22, hF⟩ | ⟨h22, hF⟩
  ·refine Wk.condT rfl h22 <| Wk.seq <| Wk.region <| Wo.od (o_as rfl) rfl <| Wo.nil <| At.tn <| Wk.ret <| At.tr ?_
   cases hF
   exact At.ret (.tmp rfl .nil) fun m' hm => ⟨(), rfl, (Turn.picks [] rfl rfl) m' hm⟩
  ·refine Wk.condF rfl h22 <| Wk.skip <| At.tn <| Wk.seq <| Wk.region <| Wo.od (o_bd rfl z26 rfl (bd_s bs26 rfl rfl rfl)) rfl <| Wo.x (o_al z26 rfl) gn rfl fun b23 => ?_
   refine Wo.o0 (o_st (k := 0) t26 rfl rfl rfl rfl rfl) <| Wo.nil <| At.tn <| Wk.seq <| Wk.seq <| Wk.region <| Wo.od (o_fa (r := ptr b6 1) rfl (fa25_1 _ _)) rfl <| Wo.od (o_ld (k := 1) t23 rfl rfl rfl) rfl <| Wo.od (o_ln (k := 2) u23 rfl rfl (.inl rfl)) rfl <| Wo.od (o_mv rfl) rfl <| Wo.nil <| At.tn <| Wk.block ?_
   obtain ⟨r246, h245, hF⟩ := ob_some hF
   refine Wk.cut (G := (fun (r : (Unit) ⊕ (Unit)) (g : Unit) => match r, g with | .inl _, _ => ⟨.ret, [(2, .int .i64 180)], []⟩ | .inr _, _ => ⟨(.exit 0), [], []⟩) r246) ?_ ?_
   ·refine Wk.weak (fs' := [(1, ptr b6 0), (3, ptr b23 0), (22, .slice a3 l2.length c4), (23, .int .i64 (l2.length : Int)), (24, .int .i64 0)]) (ps' := [.obj b6 (.cells [.int .i64 x1, .slice a3 l2.length c4] .own), .rd a3 c4 2 l2.length (l2.map (eP (eI .i64) (eI .i64))), .obj b23 (.cells [.int .i64 (-1), .int .i64 (-1)] .own)]) (sc rfl (sc rfl (sc rfl (sc rfl (sc rfl sn))))) (Turn.picks [1, 2, 0] rfl rfl) ?_
    refine Wk.loop (σ := Int × Int × Int) (ρ := (Unit) ⊕ (Unit)) (γ := Unit) (δ := fun _ => Unit) _ (fun (s : Int × Int × Int) (g : Unit) => match s, g with | (v97, v98, v99), _ => ⟨.normal, [(1, ptr b6 0), (3, ptr b23 0), (22, .slice a3 l2.length c4), (23, .int .i64 (l2.length : Int)), (24, .int .i64 v99)], [.obj b6 (.cells [.int .i64 x1, .slice a3 l2.length c4] .own), .rd a3 c4 2 l2.length (l2.map (eP (eI .i64) (eI .i64))), .obj b23 (.cells [.int .i64 v97, .int .i64 v98] .own)]⟩) (fun (r : (Unit) ⊕ (Unit)) (g : Unit) => match r, g with | .inl _, _ => ⟨.ret, [(2, .int .i64 180)], []⟩ | .inr _, _ => ⟨(.exit 0), [], []⟩) ?_ (fun _ _ => rfl) (fun r d => by rcases r with _ | _ <;> (intro e; cases e)) _ _ _ h245 ()
    clear hF h245
    rintro ⟨v97, v98, v99⟩ ⟨⟩ r hF
    unfold L23_1 at hF
    refine Wk.seq <| Wk.region <| Wo.od (o_bi rfl rfl (bin_lss _ _ _)) rfl <| Wo.nil <| At.tn <| Wk.seq ?_
    rcases br_some hF with ⟨h174, hF⟩ | ⟨h174, hF⟩
    ·refine Wk.condT rfl h174 <| Wk.skip <| At.tn <| Wk.seq <| Wk.block <| Wk.seq <| Wk.region ?_
     obtain ⟨h210, hF⟩ := gd_some hF
     replace h210 := inB_some h210
     refine Wo.openr (k := 1) rfl (pos_of h210) ?_
     rintro b211 o212 rfl
     refine Wo.og (o_ixs s23 rfl rfl h210) gn rfl ?_
     obtain ⟨⟨x213, x214⟩, h215, hF⟩ := ob_some hF
     refine Wo.od (o_ldr (k := 0) t26 rfl rfl (map_at h215) rfl rfl) rfl <| Wo.x (o_al z26 rfl) gn rfl fun b216 => ?_
     refine Wo.o0 (o_st (k := 0) t26 rfl rfl rfl rfl rfl) <| Wo.nil <| At.tn <| Wk.seq <| Wk.seq ?_
     obtain ⟨v236, h242, hF⟩ := ob_some hF
     refine Wk.cut (G := (fun (r : Bool) (g : Unit) => match r, g with | v236, _ => ⟨.normal, [(1, ptr b6 0), (3, ptr b23 0), (5, ptr b216 0), (22, .slice (some ⟨b211, o212, none⟩) l2.length c4), (23, .int .i64 (l2.length : Int)), (24, .int .i64 v99), (50, .bool v236)], [.obj b6 (.cells [.int .i64 x1, .slice (some ⟨b211, o212, none⟩) l2.length c4] .own), .ro b211 o212 2 l2.length (l2.map (eP (eI .i64) (eI .i64))), .rd (some ⟨b211, o212, none⟩) c4 2 l2.length (l2.map (eP (eI .i64) (eI .i64))), .obj b23 (.cells [.int .i64 v97, .int .i64 v98] .own), .obj b216 (.cells [.int .i64 x213, .int .i64 x214] .own)]⟩) v236) ?_ ?_
     ·clear hF
      revert v236
      intro r hF
      refine Wk.draw (by kernel_rfl) <| Wo.od (o_ia (r := ptr b216 0) rfl rfl (ia_c ar26 (i := 0) (by decide))) rfl <| Wo.od (o_ld (k := 0) t3 rfl rfl rfl) rfl <| Wo.od (o_bi rfl rfl (bin_lss _ _ _)) rfl <| Wo.od (o_mv rfl) rfl ?_
      rcases br_some hF with ⟨h237, hF⟩ | ⟨h237, hF⟩
      ·refine Wo.s (gg rfl rfl (eTF h237)) rfl <| Wo.s (gg rfl rfl (eTF h237)) rfl <| Wo.s (gg rfl rfl (eTF h237)) rfl <| Wo.s (gg rfl rfl (eTF h237)) rfl <| Wo.s (gg rfl rfl (eTF h237)) rfl <| Wo.od (o_pt rfl h237 rfl) rfl <| Wo.od (o_mv rfl) rfl <| Wo.s (gg rfl rfl rfl) rfl <| Wo.s (gg rfl rfl rfl) rfl <| Wo.s (gg rfl rfl rfl) rfl ?_
       refine Wo.s (gg rfl rfl rfl) rfl <| Wo.s (gg rfl rfl rfl) rfl <| Wo.od (o_pT rfl rfl) rfl <| Wo.od (o_mv rfl) rfl <| Wo.s (gg rfl rfl rfl) rfl <| Wo.s (gg rfl rfl rfl) rfl <| Wo.s (gg rfl rfl rfl) rfl <| Wo.s (gg rfl rfl rfl) rfl <| Wo.od (o_pT rfl rfl) rfl <| Wo.nil ?_
       cases hF
       exact At.en () rfl (sc rfl (sc rfl (sc rfl (sc rfl (sc rfl (sc rfl (sc rfl sn))))))) (Turn.picks [2, 1, 3, 4, 0] rfl rfl)
      ·refine Wo.og (o_ia (r := ptr b216 0) rfl rfl (ia_c ar26 (i := 0) (by decide))) (gg rfl rfl (eFF h237)) rfl <| Wo.og (o_ld (k := 0) t3 rfl rfl rfl) (gg rfl rfl (eFF h237)) rfl <| Wo.og (o_ia (r := ptr b216 1) rfl rfl (ia_c ar26 (i := 1) (by decide))) (gg rfl rfl (eFF h237)) rfl <| Wo.og (o_ld (k := 0) t3 rfl rfl rfl) (gg rfl rfl (eFF h237)) rfl <| Wo.og (o_bi rfl rfl (bin_geq _ _ _)) (gg rfl rfl (eFF h237)) rfl <| Wo.od (o_pf rfl h237 rfl) rfl <| Wo.od (o_mv rfl) rfl ?_
       rcases br_some hF with ⟨h238, hF⟩ | ⟨h238, hF⟩
       ·refine Wo.s (gg rfl rfl (eTF h238)) rfl <| Wo.s (gg rfl rfl (eTF h238)) rfl <| Wo.s (gg rfl rfl (eTF h238)) rfl <| Wo.s (gg rfl rfl (eTF h238)) rfl <| Wo.s (gg rfl rfl (eTF h238)) rfl <| Wo.od (o_pt rfl h238 rfl) rfl <| Wo.od (o_mv rfl) rfl <| Wo.s (gg rfl rfl rfl) rfl <| Wo.s (gg rfl rfl rfl) rfl <| Wo.s (gg rfl rfl rfl) rfl ?_
        refine Wo.s (gg rfl rfl rfl) rfl <| Wo.od (o_pT rfl rfl) rfl <| Wo.nil ?_
        cases hF
        exact At.en () rfl (sc rfl (sc rfl (sc rfl (sc rfl (sc rfl (sc rfl (sc rfl sn))))))) (Turn.picks [2, 1, 3, 4, 0] rfl rfl)
       ·refine Wo.og (o_ia (r := ptr b216 1) rfl rfl (ia_c ar26 (i := 1) (by decide))) (gg rfl rfl (eFF h238)) rfl <| Wo.og (o_ld (k := 0) t3 rfl rfl rfl) (gg rfl rfl (eFF h238)) rfl <| Wo.og (o_fa (r := ptr b6 0) rfl (fa25_0 _ _)) (gg rfl rfl (eFF h238)) rfl <| Wo.og (o_ld (k := 2) t3 rfl rfl rfl) (gg rfl rfl (eFF h238)) rfl <| Wo.og (o_bi rfl rfl (bin_geq _ _ _)) (gg rfl rfl (eFF h238)) rfl <| Wo.od (o_pf rfl h238 rfl) rfl <| Wo.od (o_mv rfl) rfl ?_
        rcases br_some hF with ⟨h239, hF⟩ | ⟨h239, hF⟩
        ·refine Wo.s (gg rfl rfl (eTF h239)) rfl <| Wo.s (gg rfl rfl (eTF h239)) rfl <| Wo.s (gg rfl rfl (eTF h239)) rfl <| Wo.s (gg rfl rfl (eTF h239)) rfl <| Wo.od (o_pt rfl h239 rfl) rfl <| Wo.nil ?_
         cases hF
         exact At.en () rfl (sc rfl (sc rfl (sc rfl (sc rfl (sc rfl (sc rfl (sc rfl sn))))))) (Turn.picks [2, 1, 3, 4, 0] rfl rfl)
        ·refine Wo.og (o_sa (k := 4) ar26 rfl rfl rfl rfl) (gg rfl rfl (eFF h239)) rfl <| Wo.og (o_sa (k := 0) ar26 rfl rfl rfl rfl) (gg rfl rfl (eFF h239)) rfl ?_
         obtain ⟨r241, h240, hF⟩ := ob_some hF
         refine Wo.x (o_cl rfl rfl (fun m hm => f64_ok n [v97, v98] [x213, x214] (some ⟨b23, 0, none⟩) 2 (some ⟨b216, 0, none⟩) 2 _ h240 m (hm.rdo (k := 4) (xs := [v97, v98]) (f := eI .i64) rfl rfl rfl rfl (enI .i64)) (hm.rdo (k := 0) (xs := [x213, x214]) (f := eI .i64) rfl rfl rfl rfl (enI .i64))) fun _ => rfl) (gg rfl rfl (eFF h239)) rfl ?_
         rintro ⟨⟩
         refine Wo.og (o_bi rfl rfl (bin_geq _ _ _)) (gg rfl rfl (eFF h239)) rfl <| Wo.od (o_pf rfl h239 rfl) rfl <| Wo.nil ?_
         cases hF
         exact At.en () rfl (sc rfl (sc rfl (sc rfl (sc rfl (sc rfl (sc rfl (sc rfl sn))))))) (Turn.picks [2, 1, 3, 4, 0] rfl rfl)
     ·clear h242
      rintro ⟨⟩
      refine At.tn ?_
      rcases br_some hF with ⟨h244, hF⟩ | ⟨h244, hF⟩
      ·refine Wk.condT rfl h244 <| Wk.seq <| Wk.region <| Wo.od (o_as rfl) rfl <| Wo.nil <| At.tn <| Wk.ret <| At.tr <| At.br <| At.tr ?_
       cases hF
       exact At.en () rfl (sc rfl sn) (Turn.picks [] rfl rfl)
      ·refine Wk.condF rfl h244 <| Wk.skip <| At.tn <| Wk.region <| Wo.od (o_ld (k := 4) t26 rfl rfl rfl) rfl <| Wo.o0 (o_st (k := 3) t26 rfl rfl rfl rfl rfl) <| Wo.nil <| At.bn <| At.tn <| Wk.region <| Wo.od (o_bi rfl rfl (bin_add _ _ _)) rfl <| Wo.od (o_mv rfl) rfl <| Wo.nil ?_
       cases hF
       exact At.en () rfl (sc rfl (sc rfl (sc rfl (sc rfl (sc rfl sn))))) (Turn.picks [0, 2, 3] rfl rfl)
    ·refine Wk.condF rfl h174 <| Wk.exit <| At.te ?_
     cases hF
     exact At.en () rfl sn (Turn.picks [] rfl rfl)
   ·clear h245
    rcases r246 with _ | _
    ·rintro ⟨⟩
     refine At.br <| At.tr ?_
     cases hF
     exact At.ret (.tmp rfl .nil) fun m' hm => ⟨(), rfl, (Turn.picks [] rfl rfl) m' hm⟩
    ·rintro ⟨⟩
     refine At.be <| At.tn <| Wk.seq <| Wk.region <| Wo.od (o_as rfl) rfl <| Wo.nil <| At.tn <| Wk.ret ?_
     cases hF
     exact At.ret (.tmp rfl .nil) fun m' hm => ⟨(), rfl, (Turn.picks [] rfl rfl) m' hm⟩
end Go.Proofs.YtpclggcpobakhaaDoor.W0
end
