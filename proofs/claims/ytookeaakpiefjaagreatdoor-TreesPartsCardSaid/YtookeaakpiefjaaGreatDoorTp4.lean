/- Texts of the abstract machine and of the walks, joined: AbsW14 AbsW15 T30Env T30Lift T30Man AbsTz T30Tz T30Man2 T30F. -/
import Derived.Test.YtookeaakpiefjaaGreatDoorTp3
section
namespace Go.Ab.W
open Go Go.Ab
section
variable {α : Type}
def LLat (m : AMem) (R : Nat → Prop) (w : Nat) (f : α → List Value) (cs : List Value) (L : List (List α)) : Prop :=
 cs.length = L.length ∧ ∀ (i : Nat) (l : List α), L[i]? = some l → ∃ a c, cs[i]? = some (.slice a l.length c) ∧ Rd m a c w l.length (l.map f) ∧ ∀ b, abk a = some b → R b
theorem LLat.of_get {m m' : AMem} {R : Nat → Prop} {w : Nat} {f : α → List Value} {cs : List Value} {L : List (List α)} (h : LLat m R w f cs L) (hn : m.next ≤ m'.next) (hg : ∀ b, R b → b < m.next → m'.get b = m.get b) : LLat m' R w f cs L :=
 ⟨h.1, fun i l hi => by
  obtain ⟨a, c, h1, h2, h3⟩ := h.2 i l hi
  exact ⟨a, c, h1, h2.of_get hn fun b hb hlt => hg b (h3 b hb) hlt, h3⟩⟩
def llG (a : Option Addr) (n : Nat) (R : Nat → Prop) (w : Nat) (f : α → List Value) (L : List (List α)) : GPc where
 ow b := abk a = some b ∨ R b
 rd _ := False
 P m := ((n = 0 ∧ a = none ∧ L = []) ∨ ∃ b cs tg, a = some ⟨b, 0, none⟩ ∧ b < m.next ∧ m.get b = some (.cells cs tg) ∧ (tg = .own ∨ tg = .more 1) ∧ n = L.length ∧ LLat m R w f cs L) ∧ (∀ b, R b → b < m.next) ∧ ∀ b, R b → abk a ≠ some b
 st m m' h hn hg := by
  refine ⟨?_, fun b hb => Nat.lt_of_lt_of_le (h.2.1 b hb) hn, h.2.2⟩
  rcases h.1 with h1 | ⟨b, cs, tg, rfl, h2, h3, h4, h5, h6⟩
  ·exact .inl h1
  ·refine .inr ⟨b, cs, tg, rfl, Nat.lt_of_lt_of_le h2 hn, ?_, h4, h5, h6.of_get hn fun b' hb' hlt => hg b' (.inl (.inr hb')) hlt⟩
   rw [hg b (.inl (.inl rfl)) h2]; exact h3
 lt m b h hb := by
  rcases hb with (hb | hb) | hb
  ·rcases h.1 with ⟨_, rfl, _⟩ | ⟨b', cs, tg, rfl, h2, _⟩
   ·cases hb
   ·cases hb; exact h2
  ·exact h.2.1 b hb
  ·exact hb.elim
def lrG (a : Option Addr) (n cap : Nat) (R : Nat → Prop) (w : Nat) (f : α → List Value) (L : List (List α)) : GPc where
 ow _ := False
 rd b := abk a = some b ∨ R b
 P m := ((n = 0 ∧ a = none ∧ L = []) ∨ ∃ b cs tg, a = some ⟨b, 0, none⟩ ∧ b < m.next ∧ m.get b = some (.cells cs tg) ∧ n = L.length ∧ LLat m R w f cs L) ∧ ∀ b, R b → b < m.next
 st m m' h hn hg := by
  refine ⟨?_, fun b hb => Nat.lt_of_lt_of_le (h.2 b hb) hn⟩
  rcases h.1 with h1 | ⟨b, cs, tg, rfl, h2, h3, h5, h6⟩
  ·exact .inl h1
  ·refine .inr ⟨b, cs, tg, rfl, Nat.lt_of_lt_of_le h2 hn, ?_, h5, h6.of_get hn fun b' hb' hlt => hg b' (.inr (.inr hb')) hlt⟩
   rw [hg b (.inr (.inl rfl)) h2]; exact h3
 lt m b h hb := by
  rcases hb with hb | hb | hb
  ·exact hb.elim
  ·rcases h.1 with ⟨_, rfl, _⟩ | ⟨b', cs, tg, rfl, h2, _⟩
   ·cases hb
   ·cases hb; exact h2
  ·exact h.2 b hb
end
section
variable {α : Type} {E : Env} {m0 m : AMem} {fs : Fs} {ps : List Pc} {f : α → List Value} {w : Nat}
theorem Turn.nilLL : Turn m0 ps (.gen (llG none 0 (fun _ => False) w f ([] : List (List α))) :: ps) := fun m h =>
 ⟨h.ext, fun p hp => by
  rcases List.mem_cons.1 hp with rfl | hp
  ·exact ⟨⟨.inl ⟨rfl, rfl, rfl⟩, fun _ h => h.elim, fun _ h => h.elim⟩, fun _ b hb => hb.elim (fun h => by cases h) fun h => h.elim⟩
  ·exact h.ok p hp, List.pairwise_cons.2 ⟨fun q _ => ⟨fun b h1 _ => h1.elim (fun h => by cases h.1) fun h => h.elim (fun h => by cases h) fun h => h.elim, fun b _ h2 => h2.elim (fun h => by cases h) fun h => h.elim (fun h => h.elim (fun h => by cases h) fun h => h.elim) fun h => h.elim⟩, h.apart⟩⟩
theorem Turn.freezeLL {k n : Nat} {a : Option Addr} {R : Nat → Prop} {L : List (List α)} (hp : pk ps k = some (.gen (llG a n R w f L))) : Turn m0 ps (pset ps k (.gen (lrG a n n R w f L))) := fun m h => by
 have hP := (h.get hp).1
 refine h.chg hp (fun b hb => hb.elim (fun h => by cases h.1) fun h => h.elim) (fun b hb => .inl (hb.elim (fun h => by cases h) fun h => h.elim (fun h => h.elim) fun h => .inr (.inl h))) (Nat.le_refl _) h.ext ⟨⟨?_, hP.2.1⟩, fun _ b hb => hb.elim⟩ (fun _ _ _ => rfl)
 rcases hP.1 with h1 | ⟨b, cs, tg, h1, h2, h3, _, h5, h6⟩
 ·exact .inl h1
 ·exact .inr ⟨b, cs, tg, h1, h2, h3, h5, h6⟩
theorem ll_len {k n : Nat} {a : Option Addr} {R : Nat → Prop} {L : List (List α)} (h : Hp m0 m ps) (hp : pk ps k = some (.gen (llG a n R w f L))) : n = L.length := by
 rcases (h.get hp).1.1 with ⟨rfl, _, rfl⟩ | ⟨_, _, _, _, _, _, _, h5, _⟩
 ·rfl
 ·exact h5
variable {x : Operand} {ty : TypeId}
theorem o_ldl {k n cap i b off : Nat} {R : Nat → Prop} {L : List (List α)} {l : List α} (ht : TyI E.P ty false 1) (hx : ev E fs x = some (ptr b off)) (ho : off = i) (hp : pk ps k = some (.gen (lrG (some ⟨b, 0, none⟩) n cap R w f L))) (hl : L[i]? = some l) :
  Ox E m0 fs ps (.load ty x) (fun r : Option Addr × Nat => .slice r.1 l.length r.2) (fun r => .rd r.1 r.2 w l.length (l.map f) :: ps) := by
 intro t m hf hm
 subst ho
 have hP := (hm.get hp).1
 rcases hP.1 with ⟨_, h1, _⟩ | ⟨b', cs, tg, h1, h2, h3, h5, h6⟩
 ·cases h1
 ·cases h1
  obtain ⟨a, c, h7, h8, h9⟩ := h6.2 off l hl
  have hx' : evalA E t x = some (ptr b off) := hf.ev hx
  refine ⟨fun b' hb' => ?_, fun K hK => ?_⟩
  ·simp only [readsAt, hx', Option.bind_some] at hb'
   cases hb'; exact h2
  ·have hld : loadA E.P ty (ptr b off) m = some (.slice a l.length c) := loadOne ht.known ht.agg h3 h7
   rw [Go.Ab.o_load hx' hld]
   refine hK (a, c) m (hm.moreG hp (fun b hb => hb.elim (fun h => by cases h.1) fun h => h.elim) h8 (fun b hb => hb.elim (fun h => by cases h.1) fun h => h.elim) fun b hb => ?_)
   rcases hb with hb | hb
   ·exact .inr (.inr (.inr (h9 b hb)))
   ·exact hb.elim
theorem Turn.mkLL1 {k b : Nat} {a : Option Addr} {l : List α} (hp : pk ps k = some (.sl a w l.length (l.map f))) : Turn m0 (.arr b 1 1 [[.slice a l.length l.length]] .own :: ps) (pset ps k (.gen (llG (some ⟨b, 0, none⟩) 1 (fun b' => abk a = some b') w f [l]))) := fun m h => by
 have h0 := h.ok _ (List.mem_cons_self ..)
 have hk : Pc.ok m0.next m (.sl a w l.length (l.map f)) := h.ok _ (List.mem_cons_of_mem _ (pk_mem hp))
 have ha := (List.pairwise_cons.1 h.apart).1
 have hrd : Rd m a l.length w l.length (l.map f) := Pc.toRd hk (.sl ..)
 have how : ∀ b', Pc.ow (.gen (llG (some ⟨b, 0, none⟩) 1 (fun b' => abk a = some b') w f [l])) b' → b' = b ∨ abk a = some b' := fun b' hb => hb.elim (fun h => by cases h.1) fun h => h.elim (fun h => by cases h; exact .inl rfl) .inr
 have hany : ∀ b', Pc.any (.gen (llG (some ⟨b, 0, none⟩) 1 (fun b' => abk a = some b') w f [l])) b' → b' = b ∨ abk a = some b' := fun b' hb => hb.elim (fun h => by cases h) fun h => h.elim (fun h => h.elim (fun h => by cases h; exact .inl rfl) .inr) fun h => h.elim
 refine ⟨h.ext, fun p hpm => ?_, pairwise_psetG hp (fun r hr hap => ⟨fun b' h1 h2 => ?_, fun b' h1 h2 => ?_⟩) (List.pairwise_cons.1 h.apart).2⟩
 ·rcases mem_pset' hpm with hpm | rfl
  ·exact h.ok p (List.mem_cons_of_mem _ hpm)
  ·refine ⟨⟨.inr ⟨b, _, .own, rfl, h0.2.1, h0.2.2.1, .inl rfl, rfl, rfl, fun i x hi => ?_⟩, fun b' hb => Pc.any_lt hk (.inl hb), fun b' hb e => ?_⟩, fun _ b' hb => ?_⟩
   ·cases i with
    | zero => cases hi; exact ⟨a, l.length, rfl, hrd, fun _ h => h⟩
    | succ i => simp at hi
   ·cases e
    exact (ha _ (pk_mem hp)).1 b (.inl ⟨rfl, rfl⟩) (.inl hb)
   ·rcases how b' (.inr hb) with rfl | hb
    ·exact h0.1
    ·exact Pc.ow_le hk rfl (.inl ⟨rfl, hb⟩)
 ·rcases how b' h1 with rfl | h1
  ·exact (ha r hr).1 b' (.inl ⟨rfl, rfl⟩) h2
  ·exact hap.1 b' (.inl ⟨rfl, h1⟩) h2
 ·rcases hany b' h2 with rfl | h2
  ·exact (ha r hr).2 b' h1 (.inl rfl)
  ·exact hap.2 b' h1 (.inl h2)
theorem o_lnl {k n cap : Nat} {a : Option Addr} {ars : Array Operand} {p : Pc} {elem : TypeId} (hu : E.P.underlying ty = some (.slice elem)) (ha : evs E fs ars.toList = some [.slice a n cap]) (hp : pk ps k = some p) (hb : ∀ b, abk a = some b → p.any b) :
  Od E m0 fs ps (.call ⟨.builtin .len, ars, #[ty]⟩) (.int .i64 (n : Int)) ps :=
 fun t m hf h => ⟨fun b hb' => by
  simp only [readsAt, hf.evs ha] at hb'
  have hab : blockOf (.slice a n cap) = abk a := by cases a <;> rfl
  rw [hab] at hb'
  exact Pc.any_lt (h.get hp) (hb b hb'), fun K hK => by
  have : builtinA E.P .len #[ty] [.slice a n cap] m = some (.int .i64 (n : Int), m) := by
   have ht : (#[ty] : Array TypeId)[0]? = some ty := rfl
   simp only [builtinA, ht, Option.bind_some, hu]
  rw [Go.Ab.o_builtin (hf.evs ha) this]; exact hK m h⟩
theorem ll_any {a : Option Addr} {n : Nat} {R : Nat → Prop} {L : List (List α)} : ∀ b, abk a = some b → Pc.any (.gen (llG a n R w f L)) b := fun _ h => .inr (.inl (.inl h))
theorem lr_some {k n cap : Nat} {a : Option Addr} {R : Nat → Prop} {L : List (List α)} (h : Hp m0 m ps) (hp : pk ps k = some (.gen (lrG a n cap R w f L))) (h0 : 0 < n) : ∃ b, a = some ⟨b, 0, none⟩ := by
 rcases (h.get hp).1.1 with ⟨h1, _⟩ | ⟨b, _, _, h1, _⟩
 ·omega
 ·exact ⟨b, h1⟩
variable {N : Nat} {ops : Array Oper} {os : List Oper} {dr : Bool}
theorem Wo.openlr {K : Tm → AMem → Prop} {k n cap : Nat} {a : Option Addr} {R : Nat → Prop} {L : List (List α)} (hp : pk ps k = some (.gen (lrG a n cap R w f L))) (h0 : 0 < n) (h : ∀ b, a = some ⟨b, 0, none⟩ → Wo dr E N ops K os m0 fs ps) : Wo dr E N ops K os m0 fs ps := by
 cases dr with
 | false => exact fun t m hf hm => (lr_some hm hp h0).elim fun b e => h b e t m hf hm
 | true => exact fun t m w hf hm hw => (lr_some hm hp h0).elim fun b e => h b e t m w hf hm hw
theorem Wo.lenll {K : Tm → AMem → Prop} {k n : Nat} {a : Option Addr} {R : Nat → Prop} {L : List (List α)} (hp : pk ps k = some (.gen (llG a n R w f L))) (h : n = L.length → Wo dr E N ops K os m0 fs ps) : Wo dr E N ops K os m0 fs ps := by
 cases dr with
 | false => exact fun t m hf hm => h (ll_len hm hp) t m hf hm
 | true => exact fun t m w hf hm hw => h (ll_len hm hp) t m w hf hm hw
def innG (R : Nat → Prop) (w : Nat) (f : α → List Value) (cs : List Value) (L : List (List α)) : GPc where
 ow b := R b
 rd _ := False
 P m := LLat m R w f cs L ∧ ∀ b, R b → b < m.next
 st m m' h hn hg := ⟨h.1.of_get hn fun b hb hlt => hg b (.inl hb) hlt, fun b hb => Nat.lt_of_lt_of_le (h.2 b hb) hn⟩
 lt m b h hb := hb.elim (h.2 b) fun h => h.elim
theorem flat_one : ∀ (cs : List Value), (cs.map fun c => [c]).flatten = cs
 | [] => rfl
 | c :: cs => by rw [List.map_cons, List.flatten_cons, flat_one cs]; rfl
theorem Hp.joinLL {k n : Nat} {a : Option Addr} {R : Nat → Prop} {cs : List Value} {L : List (List α)} (h : Hp m0 m (.gen (innG R w f cs L) :: ps)) (hp : pk ps k = some (.sl a 1 n (cs.map fun c => [c]))) : Hp m0 m (pset ps k (.gen (llG a n R w f L))) := by
 have h0 := h.ok _ (List.mem_cons_self ..)
 have hk : Pc.ok m0.next m (.sl a 1 n (cs.map fun c => [c])) := h.ok _ (List.mem_cons_of_mem _ (pk_mem hp))
 have ha := (List.pairwise_cons.1 h.apart).1
 have how : ∀ b', Pc.ow (.gen (llG a n R w f L)) b' → abk a = some b' ∨ R b' := fun b' hb => hb.elim (fun h => by cases h.1) id
 have hany : ∀ b', Pc.any (.gen (llG a n R w f L)) b' → abk a = some b' ∨ R b' := fun b' hb => hb.elim (fun h => by cases h) fun h => h.elim id fun h => h.elim
 refine ⟨h.ext, fun p hpm => ?_, pairwise_psetG hp (fun r hr hap => ⟨fun b' h1 h2 => ?_, fun b' h1 h2 => ?_⟩) (List.pairwise_cons.1 h.apart).2⟩
 ·rcases mem_pset' hpm with hpm | rfl
  ·exact h.ok p (List.mem_cons_of_mem _ hpm)
  ·refine ⟨⟨?_, h0.1.2, fun b' hb e => (ha _ (pk_mem hp)).1 b' (.inr hb) (.inl e)⟩, fun _ b' hb => ?_⟩
   ·rcases hk with ⟨h1, h2, h3, _⟩ | ⟨b, tg, rfl, h1⟩
    ·have hc : cs = [] := List.map_eq_nil_iff.1 h2
     refine .inl ⟨h1, h3, ?_⟩
     have := h0.1.1.1
     rw [hc] at this
     exact List.length_eq_zero_iff.1 this.symm
    ·refine .inr ⟨b, cs, tg, rfl, h1.2.1, ?_, h1.2.2.2.2.2.1, ?_, h0.1.1⟩
     ·rw [h1.2.2.1, flat_one]
     ·have := h1.2.2.2.1
      rw [List.length_map, h0.1.1.1] at this
      exact this.symm
   ·rcases how b' (.inr hb) with hb | hb
    ·exact Pc.ow_le hk rfl (.inl ⟨rfl, hb⟩)
    ·exact h0.2 rfl b' hb
 ·rcases how b' h1 with h1 | h1
  ·exact hap.1 b' (.inl ⟨rfl, h1⟩) h2
  ·exact (ha r hr).1 b' (.inr h1) h2
 ·rcases hany b' h2 with h2 | h2
  ·exact hap.2 b' h1 (.inl h2)
  ·exact (ha r hr).2 b' h1 (.inr (.inl h2))
theorem Hp.splitLL {k n : Nat} {a : Option Addr} {R : Nat → Prop} {L : List (List α)} (h : Hp m0 m ps) (hp : pk ps k = some (.gen (llG a n R w f L))) : ∃ cs : List Value, Hp m0 m (.gen (innG R w f cs L) :: pset ps k (.sl a 1 n (cs.map fun c => [c]))) := by
 have hk := h.get hp
 have key : ∃ cs : List Value, LLat m R w f cs L ∧ Pc.ok m0.next m (.sl a 1 n (cs.map fun c => [c])) := by
  rcases hk.1.1 with ⟨h1, h2, h3⟩ | ⟨b, cs, tg, h1, h2, h3, h4, h5, h6⟩
  ·exact ⟨[], ⟨by rw [h3]; rfl, fun i l hi => by rw [h3] at hi; simp at hi⟩, .inl ⟨h1, rfl, h2, by decide⟩⟩
  ·exact ⟨cs, h6, .inr ⟨b, tg, h1, hk.2 rfl b (.inl (by rw [h1]; rfl)), h2, by rw [flat_one]; exact h3, by rw [List.length_map, h6.1, h5], fun e he => by obtain ⟨c, _, rfl⟩ := List.mem_map.1 he; rfl, h4, by decide⟩⟩
 obtain ⟨cs, h1, h2⟩ := key
 refine ⟨cs, h.ext, fun p hpm => ?_, List.pairwise_cons.2 ⟨fun r hr => ?_, pairwise_psetG hp (fun r _ hap => ⟨fun b' e1 e2 => ?_, fun b' e1 e2 => ?_⟩) h.apart⟩⟩
 ·rcases List.mem_cons.1 hpm with rfl | hpm
  ·exact ⟨⟨h1, hk.1.2.1⟩, fun _ b hb => hk.2 rfl b (.inr hb)⟩
  ·rcases mem_pset' hpm with hpm | rfl
   ·exact h.ok p hpm
   ·exact h2
 ·rcases mem_pset hp h.apart hr with rfl | ⟨_, hap⟩
  ·exact ⟨fun b e1 e2 => hk.1.2.2 b (e1.elim (fun e => by cases e.1) id) (e2.elim id fun e => e.elim), fun b e1 e2 => hk.1.2.2 b (e2.elim (fun e => by cases e) fun e => e.elim id fun e => e.elim) (e1.elim (fun e => e.2) fun e => e.elim)⟩
  ·exact ⟨fun b e1 e2 => hap.2 b (.inr (.inr (e1.elim (fun e => by cases e.1) id))) e2, fun b e1 e2 => hap.1 b e1 (.inr (.inl (.inr (e2.elim (fun e => by cases e) fun e => e.elim id fun e => e.elim))))⟩
 ·exact hap.1 b' (e1.elim (fun e => .inr (.inl e.2)) fun e => e.elim) e2
 ·exact hap.2 b' e1 (e2.elim (fun e => .inr (.inl (.inl e))) fun e => e.elim)
end
end Go.Ab.W
end

section
namespace Go.Ab.W
open Go Go.Ab
attribute [local irreducible] Tm.at Trie.set Trie.get AMem.get AMem.set AMem.alloc AMem.ww AMem.kill
theorem pset_pset : ∀ (l : List Pc) (k : Nat) (p q : Pc), pset (pset l k p) k q = pset l k q := by
 intro l
 induction l with
 | nil => intro k p q; rfl
 | cons a l ih =>
  intro k p q
  cases k with
  | zero => rfl
  | succ k => rw [pset_succ, pset_succ, pset_succ, ih]
theorem pk_pset : ∀ {l : List Pc} {k : Nat} {p : Pc} (q : Pc), pk l k = some p → pk (pset l k q) k = some q := by
 intro l
 induction l with
 | nil => intro k p q h; simp [pk] at h
 | cons a l ih =>
  intro k p q h
  cases k with
  | zero => rfl
  | succ k => rw [pset_succ, pk_succ]; rw [pk_succ] at h; exact ih q h
section
variable {α : Type} {E : Env} {m0 m : AMem} {fs : Fs} {ps : List Pc} {f : α → List Value} {w : Nat} {ty : TypeId}
theorem Hp.drop3 {a b c : Pc} (h : Hp m0 m (a :: b :: c :: ps)) : Hp m0 m (a :: b :: ps) :=
 ⟨h.ext, fun p hp => h.ok p (by rcases List.mem_cons.1 hp with rfl | hp; exact List.mem_cons_self .. ; rcases List.mem_cons.1 hp with rfl | hp; exact List.mem_cons_of_mem _ (List.mem_cons_self ..); exact List.mem_cons_of_mem _ (List.mem_cons_of_mem _ (List.mem_cons_of_mem _ hp))), h.apart.sublist (.cons_cons _ (.cons_cons _ (.cons _ (List.Sublist.refl _))))⟩
theorem Hp.mergeInn {R1 R2 : Nat → Prop} {cs1 cs2 : List Value} {L1 L2 : List (List α)} (h : Hp m0 m (.gen (innG R1 w f cs1 L1) :: .gen (innG R2 w f cs2 L2) :: ps)) : Hp m0 m (.gen (innG (fun b => R1 b ∨ R2 b) w f (cs1 ++ cs2) (L1 ++ L2)) :: ps) := by
 have h1 := h.ok _ (List.mem_cons_self ..)
 have h2 := h.ok _ (List.mem_cons_of_mem _ (List.mem_cons_self ..))
 have ha := List.pairwise_cons.1 h.apart
 have hb := List.pairwise_cons.1 ha.2
 refine ⟨h.ext, fun p hp => ?_, List.pairwise_cons.2 ⟨fun r hr => ⟨fun b e1 e2 => ?_, fun b e1 e2 => ?_⟩, hb.2⟩⟩
 ·rcases List.mem_cons.1 hp with rfl | hp
  ·refine ⟨⟨⟨by rw [List.length_append, List.length_append, h1.1.1.1, h2.1.1.1], fun i l hi => ?_⟩, fun b hb => hb.elim (h1.1.2 b) (h2.1.2 b)⟩, fun hf b hb => hb.elim (h1.2 hf b) (h2.2 hf b)⟩
   by_cases hlt : i < L1.length
   ·rw [List.getElem?_append_left hlt] at hi
    obtain ⟨a, c, e1, e2, e3⟩ := h1.1.1.2 i l hi
    exact ⟨a, c, by rw [List.getElem?_append_left (by rw [h1.1.1.1]; exact hlt)]; exact e1, e2, fun b hb => .inl (e3 b hb)⟩
   ·rw [List.getElem?_append_right (by omega)] at hi
    obtain ⟨a, c, e1, e2, e3⟩ := h2.1.1.2 _ l hi
    exact ⟨a, c, by rw [List.getElem?_append_right (by rw [h1.1.1.1]; omega), h1.1.1.1]; exact e1, e2, fun b hb => .inr (e3 b hb)⟩
  ·exact h.ok p (List.mem_cons_of_mem _ (List.mem_cons_of_mem _ hp))
 ·rcases e1 with e1 | e1
  ·cases e1.1
  ·rcases e1 with e1 | e1
   ·exact (ha.1 r (List.mem_cons_of_mem _ hr)).1 b (.inr e1) e2
   ·exact (hb.1 r hr).1 b (.inr e1) e2
 ·rcases e2 with e2 | e2 | e2
  ·cases e2
  ·rcases e2 with e2 | e2
   ·exact (ha.1 r (List.mem_cons_of_mem _ hr)).2 b e1 (.inr (.inl e2))
   ·exact (hb.1 r hr).2 b e1 (.inr (.inl e2))
  ·exact e2.elim
theorem LLat.one {R : Nat → Prop} {cs : List Value} {L : List (List α)} (h : LLat m R w f cs L) : oneAll (cs.map fun c => [c]) := fun e he => by
 obtain ⟨c, hc, rfl⟩ := List.mem_map.1 he
 obtain ⟨i, hi, rfl⟩ := List.mem_iff_getElem.1 hc
 obtain ⟨a, cap, h1, _⟩ := h.2 i (L[i]'(by rw [← h.1]; exact hi)) (by simp)
 rw [List.getElem?_eq_getElem hi] at h1
 rw [Option.some.inj h1]; rfl
theorem o_apll {elem ty2 : TypeId} {k n1 n2 : Nat} {a1 a2 : Option Addr} {R1 R2 : Nat → Prop} {L1 L2 : List (List α)} {ars : Array Operand} (ht : SlT E.P ty elem 1) (ht2 : ∃ e2, E.P.underlying ty2 = some (.slice e2)) (ha : evs E fs ars.toList = some [.slice a1 n1 n1, .slice a2 n2 n2]) (hp : pk ps k = some (.gen (llG a1 n1 R1 w f L1))) (hl : lim (L1 ++ L2).length = true) :
  Ox E m0 fs (.gen (llG a2 n2 R2 w f L2) :: ps) (.call ⟨.builtin .append, ars, #[ty, ty2]⟩) (fun r : Option Addr × (Nat → Prop) => .slice r.1 (L1 ++ L2).length (L1 ++ L2).length) (fun r => pset ps k (.gen (llG r.1 (L1 ++ L2).length r.2 w f (L1 ++ L2)))) := fun t m hf hm => ⟨fun b hb => (by simp [readsAt] at hb), fun K hK => by
 have e2 := ll_len hm (k := 0) rfl
 have e1 := ll_len hm (k := k + 1) hp
 obtain ⟨cs2, h2⟩ := hm.splitLL (k := 0) rfl
 obtain ⟨cs1, h1⟩ := h2.splitLL (k := k + 2) hp
 have hsl := h1.ok _ (List.mem_cons_of_mem _ (List.mem_cons_of_mem _ (List.mem_cons_self ..)))
 have hin := h1.ok _ (List.mem_cons_of_mem _ (List.mem_cons_self ..))
 have hrd : Rd m a2 n2 1 n2 (cs2.map fun c => [c]) := Pc.toRd hsl (.sl ..)
 obtain ⟨a', m', q1, q2⟩ := append_of (n := n1) (k := k + 3) ht ht2 h1 (pk_pset (l := ps) _ hp) hrd (fun e he => by obtain ⟨c, _, rfl⟩ := List.mem_map.1 he; rfl) hin.1.1.one (by rw [e1, e2, ← List.length_append]; exact hl)
 have hb : builtinA E.P .append #[ty, ty2] [.slice a1 n1 n1, .slice a2 n2 n2] m = some (.slice a' (n1 + n2) (n1 + n2), m') := q1
 rw [Go.Ab.o_builtin (hf.evs ha) hb]
 have hn : n1 + n2 = (L1 ++ L2).length := by rw [e1, e2, List.length_append]
 have q3 : Hp m0 m' (.gen (innG R1 w f cs1 L1) :: .gen (innG R2 w f cs2 L2) :: .sl a2 1 n2 (cs2.map fun c => [c]) :: pset ps k (.sl a' 1 (n1 + n2) ((cs1.map fun c => [c]) ++ cs2.map fun c => [c]))) := by
  have q2' : Hp m0 m' (.gen (innG R1 w f cs1 L1) :: .gen (innG R2 w f cs2 L2) :: .sl a2 1 n2 (cs2.map fun c => [c]) :: pset (pset ps k (.sl a1 1 n1 (cs1.map fun c => [c]))) k (.sl a' 1 (n1 + n2) ((cs1.map fun c => [c]) ++ cs2.map fun c => [c]))) := q2
  rwa [pset_pset] at q2'
 have q4 := (q3.drop3.mergeInn).joinLL (k := k) (a := a') (n := n1 + n2) (by rw [List.map_append]; exact pk_pset _ hp)
 rw [pset_pset, hn] at q4
 rw [hn]
 exact hK (a', _) m' q4⟩
theorem o_clg {β : Type} {V : β → Value} {N : β → List Pc} {fo : Operand} {g : FuncId} {ars : Array Operand} {ts : Array TypeId} {args : List Value} (hf : ev E fs fo = some (.func (.func g) #[] #[])) (ha : evs E fs ars.toList = some args) (hc : ∀ m, Hp m0 m ps → CallA E g args m (fun v m' => ∃ x, v = V x ∧ Hp m m' (N x))) (ho : ∀ x, ∀ p ∈ N x, p.bound = true ∧ ∀ b, p.any b → p.ow b) : Ox E m0 fs ps (.call ⟨.value fo, ars, ts⟩) V (fun x => N x ++ ps) :=
 o_cs hf ha fun m hm => by
  simp only [List.nil_append, List.append_nil]
  exact (hc m hm).mono fun v m' ⟨x, e, h⟩ => ⟨x, e, hm.afterG h (fun p hp => (ho x p hp).1) fun p hp b hb => .inl (Pc.ow_le (h.ok p hp) (ho x p hp).1 ((ho x p hp).2 b hb))⟩
theorem o_ceg {β : Type} {V : β → Value} {N : β → List Pc} {fo : Operand} {g : FuncId} {ars : Array Operand} {ts : Array TypeId} {args : List Value} (hf : ev E fs fo = some (.func (.func g) #[] #[])) (ha : evs E fs ars.toList = some args) (hc : ∀ m, Hp m0 m ps → CallA E g args m (fun v m' => ∃ x, v = V x ∧ Hp m m' (N x))) (ho : ∀ x, ∀ p ∈ N x, p.bound = true ∧ ∀ b, p.any b → p.ow b) : Oc E m0 fs ps (.call ⟨.value fo, ars, ts⟩) V (fun x => N x ++ ps) :=
 fun t m hfr hm hwl => ⟨fun b hb => (by simp [readsAt] at hb), fun K hK => by
  show callM E (evalA E t fo) (evalAll E t ars.toList) m _
  rw [hfr.ev hf, hfr.evs ha, callM_func]
  refine (hc m hm).mono fun v m' ⟨x, e, h⟩ => ?_
  rw [e]
  refine hK x m' (hm.afterG h (fun p hp => (ho x p hp).1) fun p hp b hb => .inl (Pc.ow_le (h.ok p hp) (ho x p hp).1 ((ho x p hp).2 b hb))) ?_
  have := h.ext.wl
  omega⟩
theorem ll_bound {a : Option Addr} {n : Nat} {R : Nat → Prop} {L : List (List α)} : ∀ p ∈ [Pc.gen (llG a n R w f L)], p.bound = true ∧ ∀ b, p.any b → p.ow b := fun p hp => by
 rw [List.mem_singleton.1 hp]
 exact ⟨rfl, fun b hb => hb.elim (fun h => by cases h) fun h => .inr (h.elim id fun h => h.elim)⟩
theorem o_ldsel {β : Type} {V : β → Value} {N : β → List Pc} {x : Operand} {b off : Nat} (hx : ev E fs x = some (ptr b off)) (hb : ∀ m, Hp m0 m ps → b < m.next) (h : ∀ m, Hp m0 m ps → ∃ z, loadA E.P ty (ptr b off) m = some (V z) ∧ Hp m0 m (N z)) : Ox E m0 fs ps (.load ty x) V N :=
 fun t m hf hm => ⟨fun b' hb' => by
  have hx' : evalA E t x = some (ptr b off) := hf.ev hx
  simp only [readsAt, hx', Option.bind_some] at hb'
  cases hb'; exact hb m hm, fun K hK => by
  obtain ⟨z, h1, h2⟩ := h m hm
  rw [Go.Ab.o_load (hf.ev hx) h1]; exact hK z m h2⟩
theorem o_bsx {elem : TypeId} {len : Nat} {parts : Array (Nat × Operand)} {vs : List (Nat × Value)} {es : List (List Value)} (ht : SlT E.P ty elem w) (h : evp E fs parts.toList = some vs) (hf : bsC E.P elem w len vs = some es.flatten) (hl : Nat.beq es.length len = true) (hw : allW w es = true) :
  Ox E m0 fs ps (.buildSlice ty len parts) (fun b => .slice (some ⟨b, 0, none⟩) len len) (fun b => .obj b (.cells es.flatten .own) :: ps) := fun t m hfr hm => ⟨(o_bs ht h hf hl hw t m hfr hm).1, fun K hK => (o_bs ht h hf hl hw t m hfr hm).2 K fun b m' hm' => hK b m' ⟨hm'.ext, fun p hp => by
  have h0 := hm'.ok _ (List.mem_cons_self ..)
  rcases List.mem_cons.1 hp with rfl | hp
  ·exact ⟨h0.1, h0.2.1, h0.2.2.1⟩
  ·exact hm'.ok p (List.mem_cons_of_mem _ hp), List.pairwise_cons.2 ⟨fun r hr => (List.pairwise_cons.1 hm'.apart).1 r hr, (List.pairwise_cons.1 hm'.apart).2⟩⟩⟩
theorem Turn.asX {k b n : Nat} {cs : List Value} {es : List (List Value)} (hp : pk ps k = some (.obj b (.cells cs .own))) (hcs : es.flatten = cs) (hn : Nat.beq es.length n = true) (hw : allW w es = true) (h0 : Nat.blt 0 w = true) : Turn m0 ps (pset ps k (.sl (some ⟨b, 0, none⟩) w n es)) := fun m h => by
 have hk := h.get hp
 exact h.put hp rfl rfl rfl (Nat.le_refl _) h.ext (.inr ⟨b, .own, rfl, hk.1, hk.2.1, by rw [hcs]; exact hk.2.2, Nat.eq_of_beq_eq_true hn, allW_of hw, .inl rfl, by rwa [Nat.blt_eq] at h0⟩) fun _ _ _ => rfl
theorem o_apx {elem ty2 : TypeId} {k k2 n n2 n3 : Nat} {a a2 : Option Addr} {es es2 es3 : List (List Value)} {ars : Array Operand} (ht : SlT E.P ty elem w) (ht2 : ∃ e2, E.P.underlying ty2 = some (.slice e2)) (ha : evs E fs ars.toList = some [.slice a n n, .slice a2 n2 n2]) (hp : pk ps k = some (.sl a w n es)) (hp2 : pk ps k2 = some (.sl a2 w n2 es2)) (hw2 : allW w es2 = true) (ho : (es2.all fun e => e.all oneC) = true) (h3 : es ++ es2 = es3) (hn : n + n2 = n3) (hl : lim n3 = true) :
  Ox E m0 fs ps (.call ⟨.builtin .append, ars, #[ty, ty2]⟩) (fun a' : Option Addr => .slice a' n3 n3) (fun a' => pset ps k (.sl a' w n3 es3)) := by
 subst h3 hn
 exact o_ap ht ht2 ha hp hp2 (.sl ..) (allW_of hw2) (fun e he => List.all_eq_true.1 ho e he) hl
theorem ldx {P : Program} {sz b n j k : Nat} {es : List (List Value)} {tg : Tag} {e : List Value} {v : Value} (hm : Hp m0 m ps) (ht : TyI P ty true sz) (hp : pk ps k = some (.arr b w n es tg)) (he : es[j]? = some e) (hv : ldC true sz e 0 = some v) (hs : szOk true sz 0 w = true) : loadA P ty (ptr b (j * w + 0)) m = some v := by
 have hs := szOk_of hs
 have := load_lies (P := P) ht (Own.lies (hm.get hp)) he hv hs.1 hs.2
 rwa [Nat.zero_add] at this
end
section
variable {α : Type} {E : Env} {n : Nat} {m0 m : AMem} {fs : Fs} {ps : List Pc} {f : α → List Value} {w : Nat} {ops : Array Oper} {os : List Oper} {prs : List (Nat × Nat)} {K : Tm → AMem → Prop} {ss : List Nk}
theorem Wn.lenll {k l : Nat} {a : Option Addr} {R : Nat → Prop} {L : List (List α)} (hp : pk ps k = some (.gen (llG a l R w f L))) (h : l = L.length → Wn E n ops prs K os ss m0 fs ps) : Wn E n ops prs K os ss m0 fs ps :=
 fun t m ns hf hm hn => h (ll_len hm hp) t m ns hf hm hn
theorem Wn.openlr {k l cap : Nat} {a : Option Addr} {R : Nat → Prop} {L : List (List α)} (hp : pk ps k = some (.gen (lrG a l cap R w f L))) (h0 : 0 < l) (h : ∀ b, a = some ⟨b, 0, none⟩ → Wn E n ops prs K os ss m0 fs ps) : Wn E n ops prs K os ss m0 fs ps :=
 fun t m ns hf hm hn => (lr_some hm hp h0).elim fun b e => h b e t m ns hf hm hn
end
end Go.Ab.W
end

section
namespace Go.Proofs.YtookeaakpiefjaaGreatDoor
open Go Go.Ab Go.Ab.W
def eqTab : List Value → List Int → Bool
 | [], [] => true
 | .int .u8 n :: vs, k :: ks => n == k && eqTab vs ks
 | _, _ => false
theorem eqTab_true : ∀ {vs : List Value} {ks : List Int}, eqTab vs ks = true → vs = ks.map (.int .u8)
 | [], [], _ => rfl
 | [], _ :: _, h => by cases h
 | v :: vs, [], h => by simp [eqTab] at h
 | v :: vs, k :: ks, h => by
  unfold eqTab at h
  split at h
  ·rename_i e _; cases e
  ·rename_i n vs' k' ks' e1 e2
   cases e1; cases e2
   simp only [Bool.and_eq_true, beq_iff_eq] at h
   rw [h.1, eqTab_true h.2]; rfl
  ·cases h
def tabAt (m : AMem) : Bool :=
 match m.get 0 with
 | some (.cells cs .ro) => eqTab cs tabInts
 | _ => false
theorem tabAt_true {m : AMem} (h : tabAt m = true) : m.get 0 = some (.cells (tabInts.map (.int .u8)) .ro) := by
 unfold tabAt at h
 split at h
 ·rename_i cs hg; rw [hg, eqTab_true h]
 ·cases h
theorem tab30_plain : ∀ x c, tab30 x = some c → c.all plain1 = true := by
 intro x c h
 unfold tab30 at h
 split at h
 ·cases h
  rw [List.all_map]
  exact List.all_eq_true.2 fun x _ => rfl
 ·cases h
theorem works_run : ∃ fuel m', run E30 fuel (.call 8 [] m30) = some (.val (.bool true) m') ∧ 1 ≤ m'.wl := yes_of_fast (E := E30) (F := fast30) (n := 1000) (g := 1) fast30_ok works_fast
def worksRun (args : List Value) (m : AMem) : Option (Value × AMem) :=
 match args with
 | [] => if tabAt m then some (.bool true, m) else none
 | _ => none
theorem works_callOk {args : List Value} {m m' : AMem} {v : Value} (h : worksRun args m = some (v, m')) {j : Inj} {w : World} {args' : List Value} (hm : MR E30 j m w) (hl : LR j args args') :
  CallOk E30.P (E30.prim 8).isSome 8 args'.toArray w (ValQ E30 j m w v m') := by
 unfold worksRun at h
 split at h
 ·split at h
  ·rename_i ht
   cases h
   obtain ⟨fuel, m0, h1, h2⟩ := works_run
   refine memoG_callOk (E := E30) (gs := tab30) E30ok tab30_plain h1 h2 rfl hm (fun x c hx hg => ?_) hl
   have hx : x < 1 := hx
   have : x = 0 := by omega
   subst this
   simp only [tab30, if_true, Option.some.injEq] at hg
   rw [← hg]; exact tabAt_true ht
  ·cases h
 ·cases h
def pr30w (f : FuncId) : Option Prim := if f = 8 then some ⟨worksRun⟩ else pr30 f
noncomputable def E30w : Env := { P := Tryz.prog, glob := 1, prim := pr30w }
theorem E30w_ok : EnvOk E30w := envOk_more (E := E30) E30ok (pr := pr30w) fun f p hp => by
 unfold pr30w at hp
 split at hp
 ·rename_i e
  cases hp
  subst e
  exact .inr fun args m v m' h j w args' hm hl => works_callOk h hm hl
 ·exact .inl hp
def Gl (m : AMem) : Prop := m.get 0 = some (.cells (tabInts.map (.int .u8)) .ro) ∧ 0 < m.next
theorem Gl.ext {m m' : AMem} (h : Gl m) (e : Ext m m') : Gl m' := ⟨by rw [e.same 0 h.2]; exact h.1, Nat.lt_of_lt_of_le h.2 e.next⟩
def F8 (_ : Nat) : Option Bool := some true
theorem f8_ok (n : Nat) (r : Bool) (hF : F8 n = some r) (m : AMem) (hG : Gl m) : CallA E30w 8 [] m (fun v m' => ∃ x : Unit, v = .bool r ∧ Hp m m' []) := by
 cases hF
 refine CallA.prim (p := ⟨worksRun⟩) rfl (v := .bool true) (m' := m) ?_ ⟨(), rfl, Hp.start m⟩
 have ht : tabAt m = true := by
  unfold tabAt
  rw [hG.1]
  exact (by decide +kernel : eqTab (tabInts.map (.int .u8)) tabInts = true)
 show worksRun [] m = _
 simp only [worksRun, ht, if_true]
end Go.Proofs.YtookeaakpiefjaaGreatDoor
end

section
namespace Go.Proofs.YtookeaakpiefjaaGreatDoor
set_option maxRecDepth 100000
open Go Go.ChangeShapes Go.WideShapes Go.ChangeAt Go.WideMaps Go.WideElems Go.RowKit Go.Ab Go.Ab.W
theorem lv25 : lvs Tryz.prog 5 25 = some [.int .u8, .int .u8, .int .u16, .sl 141] := by kernel_rfl
theorem lv141 : lvs Tryz.prog 5 141 = some [.int .u8, .int .u8] := by kernel_rfl
theorem lv28 : lvs Tryz.prog 5 28 = some [.int .u8, .int .i64, .int .u64] := by kernel_rfl
theorem lv3 : lvs Tryz.prog 5 3 = some [.int .i64] := by kernel_rfl
theorem lu3 : Tryz.prog.underlying 3 = some (.int .i64) := by kernel_rfl
theorem lu22 : Tryz.prog.underlying 22 = some (.int .u16) := by kernel_rfl
theorem lu26 : Tryz.prog.underlying 26 = some (.int .u64) := by kernel_rfl
theorem lu49 : Tryz.prog.underlying 49 = some (.slice 3) := by kernel_rfl
section
variable {H : Type} {enc : TypeId × Value → H} {W : World} {sp : Nat → Bool} {held : Bool} {v : Value} {d : DataW H} {p : List MemPlace} {base : Nat}
theorem trodAll_n8 {P : Program} {t1 t2 t3 t4 t5 t6 t7 t8 : TypeId} {args : Array Value} {ds : List (DataW H)} {ps : List MemPlace} (h : DataW.TrodAll enc P W base sp held [t1, t2, t3, t4, t5, t6, t7, t8] args.toList ds ps) :
  ∃ v1 v2 v3 v4 v5 v6 v7 v8 d1 d2 d3 d4 d5 d6 d7 d8 p1 p2 p3 p4 p5 p6 p7 p8, args = #[v1, v2, v3, v4, v5, v6, v7, v8] ∧ ds = [d1, d2, d3, d4, d5, d6, d7, d8] ∧ ps = p1 ++ p2 ++ p3 ++ p4 ++ p5 ++ p6 ++ p7 ++ p8 ∧ DataW.Trod enc P W base sp held t1 v1 d1 p1 ∧ DataW.Trod enc P W base sp held t2 v2 d2 p2 ∧ DataW.Trod enc P W base sp held t3 v3 d3 p3 ∧ DataW.Trod enc P W base sp held t4 v4 d4 p4 ∧ DataW.Trod enc P W base sp held t5 v5 d5 p5 ∧ DataW.Trod enc P W base sp held t6 v6 d6 p6 ∧ DataW.Trod enc P W base sp held t7 v7 d7 p7 ∧ DataW.Trod enc P W base sp held t8 v8 d8 p8 := by
 obtain ⟨v1, w1, d1, e1, p1, q1, hargs, rfl, rfl, h1, g1⟩ := trodAll_cons h
 obtain ⟨v2, w2, d2, e2, p2, q2, rfl, rfl, rfl, h2, g2⟩ := trodAll_cons g1
 obtain ⟨v3, w3, d3, e3, p3, q3, rfl, rfl, rfl, h3, g3⟩ := trodAll_cons g2
 obtain ⟨v4, w4, d4, e4, p4, q4, rfl, rfl, rfl, h4, g4⟩ := trodAll_cons g3
 obtain ⟨v5, w5, d5, e5, p5, q5, rfl, rfl, rfl, h5, g5⟩ := trodAll_cons g4
 obtain ⟨v6, w6, d6, e6, p6, q6, rfl, rfl, rfl, h6, g6⟩ := trodAll_cons g5
 obtain ⟨v7, w7, d7, e7, p7, q7, rfl, rfl, rfl, h7, g7⟩ := trodAll_cons g6
 obtain ⟨v8, w8, d8, e8, p8, q8, rfl, rfl, rfl, h8, g8⟩ := trodAll_cons g7
 obtain ⟨rfl, rfl, rfl⟩ := trodAll_nil g8
 exact ⟨v1, v2, v3, v4, v5, v6, v7, v8, d1, d2, d3, d4, d5, d6, d7, d8, p1, p2, p3, p4, p5, p6, p7, p8, by cases args; simp_all, rfl, by simp, h1, h2, h3, h4, h5, h6, h7, h8⟩
theorem dec141 : ∀ (n : Nat) (cs : List Value) (x : DataW H × List MemPlace), DataW.trod enc Tryz.prog W 0 sp held n 141 cs = some x → ∃ p : Nat × Nat, cs = eP (eN .u8) (eN .u8) p ∧ p.1 < 256 ∧ p.2 < 256 := by
 intro n cs x h
 obtain ⟨v1, cs, rfl, h1, h⟩ := all2_cons (lvs_trod 5 141 _ lv141 n _ x h)
 obtain ⟨v2, cs, rfl, h2, h⟩ := all2_cons h
 obtain rfl := all2_nil h
 obtain ⟨a, rfl, ha⟩ := raw_u8 h1
 obtain ⟨b, rfl, hb⟩ := raw_u8 h2
 exact ⟨(a, b), rfl, ha, hb⟩
theorem dec3 : ∀ (n : Nat) (cs : List Value) (x : DataW H × List MemPlace), DataW.trod enc Tryz.prog W 0 sp held n 3 cs = some x → ∃ p : Int, cs = eI .i64 p ∧ (-9223372036854775808 ≤ p ∧ p ≤ 9223372036854775807) := by
 intro n cs x h
 obtain ⟨v1, cs, rfl, h1, h⟩ := all2_cons (lvs_trod 5 3 _ lv3 n _ x h)
 obtain rfl := all2_nil h
 obtain ⟨a, rfl, ha⟩ := raw_i64 h1
 exact ⟨a, rfl, ha⟩
theorem abs25 (hok : Value.okWide Tryz.prog W .any base 25 v) (hs : 0 < W.heap.size) (h : DataW.Trod enc Tryz.prog W 0 sp held 25 v d p) : ∃ (x1 x2 x3 : Nat) (l : List (Nat × Nat)) (a : Option Addr) (c : Nat),
  VR (injAll W) (.agg #[.int .u8 ((x1 : Nat) : Int), .int .u8 ((x2 : Nat) : Int), .int .u16 ((x3 : Nat) : Int), .slice a l.length c]) v ∧ x1 < 256 ∧ x2 < 256 ∧ x3 < 65536 ∧ (∀ q ∈ l, q.1 < 256 ∧ q.2 < 256) ∧ l.length ≤ maxLen ∧ Rd (memAll W) a c 2 l.length (l.map (eP (eN .u8) (eN .u8))) := by
 obtain ⟨cs, rfl, _⟩ := okWide_struct (t := 25) (fs := Tryz.prog.underlying 25 |>.elim #[] fun u => match u with | .struct fs => fs | _ => #[]) (by kernel_rfl) hok
 obtain ⟨n, h⟩ := h
 obtain ⟨v1, r, hr, h1, h⟩ := all2_cons (agg_leaves lv25 h)
 obtain ⟨v2, r, rfl, h2, h⟩ := all2_cons h
 obtain ⟨v3, r, rfl, h3, h⟩ := all2_cons h
 obtain ⟨v4, r, rfl, h4, h⟩ := all2_cons h
 obtain rfl := all2_nil h
 obtain ⟨x1, rfl, g1⟩ := raw_u8 h1
 obtain ⟨x2, rfl, g2⟩ := raw_u8 h2
 obtain ⟨x3, rfl, g3⟩ := raw_u16 h3
 obtain ⟨a, c, l, e1, e2, e3, e4⟩ := sl_abs (f := eP (eN .u8) (eN .u8)) (w := 2) (by kernel_rfl) (by omega) hs (fun q => rfl) dec141 h4
 refine ⟨x1, x2, x3, l, a, c, ?_, g1, g2, g3, e3, e4, e2⟩
 refine VR_agg (l := [.int .u8 ((x1 : Nat) : Int), .int .u8 ((x2 : Nat) : Int), .int .u16 ((x3 : Nat) : Int), .slice a l.length c]) ?_
 rw [hr]
 exact .cons (.int _ _) (.cons (.int _ _) (.cons (.int _ _) (.cons e1 (.nil _))))
theorem abs28 (hok : Value.okWide Tryz.prog W .any base 28 v) (h : DataW.Trod enc Tryz.prog W 0 sp held 28 v d p) : ∃ (x9 : Nat) (x10 : Int) (x11 : Nat),
  VR (injAll W) (.agg #[.int .u8 ((x9 : Nat) : Int), .int .i64 x10, .int .u64 ((x11 : Nat) : Int)]) v ∧ x9 < 256 ∧ (-9223372036854775808 ≤ x10 ∧ x10 ≤ 9223372036854775807) ∧ x11 < 2 ^ 64 := by
 obtain ⟨cs, rfl, _⟩ := okWide_struct (t := 28) (fs := Tryz.prog.underlying 28 |>.elim #[] fun u => match u with | .struct fs => fs | _ => #[]) (by kernel_rfl) hok
 obtain ⟨n, h⟩ := h
 obtain ⟨v1, r, hr, h1, h⟩ := all2_cons (agg_leaves lv28 h)
 obtain ⟨v2, r, rfl, h2, h⟩ := all2_cons h
 obtain ⟨v3, r, rfl, h3, h⟩ := all2_cons h
 obtain rfl := all2_nil h
 obtain ⟨x9, rfl, g1⟩ := raw_u8 h1
 obtain ⟨x10, rfl, g2⟩ := raw_i64 h2
 obtain ⟨x11, rfl, g3⟩ := raw_u64 h3
 refine ⟨x9, x10, x11, ?_, g1, g2, g3⟩
 refine VR_agg (l := [.int .u8 ((x9 : Nat) : Int), .int .i64 x10, .int .u64 ((x11 : Nat) : Int)]) ?_
 rw [hr]
 exact LR.plain rfl
theorem abs26 (hok : Value.okWide Tryz.prog W .any base 26 v) (h : DataW.Trod enc Tryz.prog W 0 sp held 26 v d p) : ∃ n : Nat, v = .int .u64 ((n : Nat) : Int) ∧ n < 2 ^ 64 := by
 obtain ⟨k, rfl⟩ := okWide_int lu26 hok
 obtain ⟨n, h⟩ := h
 obtain ⟨m, e, _, hw⟩ := DataW.trod_int lu26 h
 exact raw_u64 (enc := enc) (P := Tryz.prog) (W := W) (base := 0) (sp := sp) (held := held) ⟨m, by cases e; rfl, hw⟩
theorem abs22 (hok : Value.okWide Tryz.prog W .any base 22 v) (h : DataW.Trod enc Tryz.prog W 0 sp held 22 v d p) : ∃ n : Nat, v = .int .u16 ((n : Nat) : Int) ∧ n < 65536 := by
 obtain ⟨k, rfl⟩ := okWide_int lu22 hok
 obtain ⟨n, h⟩ := h
 obtain ⟨m, e, _, hw⟩ := DataW.trod_int lu22 h
 exact raw_u16 (enc := enc) (P := Tryz.prog) (W := W) (base := 0) (sp := sp) (held := held) ⟨m, by cases e; rfl, hw⟩
theorem abs3 (hok : Value.okWide Tryz.prog W .any base 3 v) (h : DataW.Trod enc Tryz.prog W 0 sp held 3 v d p) : ∃ n : Int, v = .int .i64 n ∧ -9223372036854775808 ≤ n ∧ n ≤ 9223372036854775807 := by
 obtain ⟨k, rfl⟩ := okWide_int lu3 hok
 obtain ⟨n, h⟩ := h
 obtain ⟨m, e, _, hw⟩ := DataW.trod_int lu3 h
 exact raw_i64 (enc := enc) (P := Tryz.prog) (W := W) (base := 0) (sp := sp) (held := held) ⟨m, by cases e; rfl, hw⟩
theorem abs49 (hok : Value.okWide Tryz.prog W .any base 49 v) (hs : 0 < W.heap.size) (h : DataW.Trod enc Tryz.prog W 0 sp held 49 v d p) : ∃ (l : List Int) (a : Option Addr) (c : Nat),
  VR (injAll W) (.slice a l.length c) v ∧ (∀ q ∈ l, -9223372036854775808 ≤ q ∧ q ≤ 9223372036854775807) ∧ l.length ≤ maxLen ∧ Rd (memAll W) a c 1 l.length (l.map (eI .i64)) := by
 obtain ⟨a0, n0, c0, rfl⟩ := okWide_slice lu49 hok
 obtain ⟨n, h⟩ := h
 have h1 := lvs_trod 5 49 [.sl 3] (by kernel_rfl) n _ _ h
 obtain ⟨v1, r, hr, h1, _⟩ := all2_cons h1
 cases hr
 obtain ⟨a, c, l, e1, e2, e3, e4⟩ := sl_abs (f := eI .i64) (w := 1) (by kernel_rfl) (by omega) hs (fun q => rfl) dec3 h1
 exact ⟨l, a, c, e1, e3, e4, e2⟩
end
theorem lay30 : laidOutB Tryz.prog = true := by kernel_rfl
theorem rowed30 : mapsRowed Tryz.prog = true := by kernel_rfl
theorem sized30 : sizedB Tryz.prog = true := by kernel_rfl
theorem gl_all {W : World} (h : laidMetH Tryz.prog laid30 W) : Gl (memAll W) ∧ 0 < W.heap.size := by
 rw [MakeChecks.laidMetH_plain _ _ _ (by kernel_rfl)] at h
 obtain ⟨ps, hL, _⟩ := h
 have ht : (Tryz.prog.globals[0]?).map (·.type) = some 182 := by kernel_rfl
 obtain ⟨c, ty, fz, h1, h2⟩ := laid_ints (L := tabInts) (k := .u8) (N := 64) (t := 182) (e := 5) gTab ht (by kernel_rfl) (by kernel_rfl) (by kernel_rfl) (by kernel_rfl) rfl hL
 have hs : 0 < W.heap.size := (Array.getElem?_eq_some_iff.1 h1).1
 refine ⟨⟨?_, hs⟩, hs⟩
 rw [memAll_cells h1, h2, List.map_map]
 congr 2
theorem law_calls {H : Type} {enc : TypeId × Value → H} {f : FuncId} {fn : Func} {s : ChangeSpec} {W : World} {args : Array Value} {ds : List (DataW H)} {before : List MemPlace} {tb : TypeId} {fresh handsOn : Bool} {absArgs : List Value} (hpr : E30w.prim f = none)
  (hvars : s.vars = []) (hres : fn.resultTypes.toList = [tb]) (hrs : fn.resultTypes.size = 1) (htb : Tryz.prog.underlying tb = some .bool) (hpt : ∀ t ∈ fn.params.toList, t < Tryz.prog.types.size) (hfn : s.fn H ds = { results := [.lit (.bool true)], args := ds, vars := [] })
  (hW : DataW.Whole enc Tryz.prog fn.params.toList s.vars false W args.toList ds [] before) (hs : 0 < W.heap.size)
  (hl : LR (injAll W) absArgs args.toList) (hc : CallA E30w f absArgs (memAll W) (fun v m' => ∃ x : Unit, v = .bool true ∧ Hp (memAll W) m' [])) :
  Calls Tryz.prog f args W fun e W' => ∃ v, e = .returned v ∧ s.post enc Tryz.prog fn false fresh handsOn false W args v W' := by
 obtain ⟨v, m', ⟨fuel, hrun⟩, _, rfl, hm'⟩ := hc
 have hm : MR E30w (injAll W) (memAll W) W := mr_all hs
 have hcall := callsIn_wide.1 (calls_of_run E30w_ok hrun hpr hm hl)
 refine hcall.mono fun e W' ⟨v', he, j', sm, hv⟩ => ?_
 have hv' : v' = .bool true := plain1_eq rfl hv
 subst hv'
 have hwl : (memAll W).next ≤ m'.wl := by
  have h1 := hm'.ext.wl
  have h2 : min (memAll W).wl (memAll W).next = (memAll W).next := Nat.min_self _
  omega
 exact ⟨_, he, law_post lay30 rowed30 sized30 hvars hres hrs htb hpt hfn hW sm.calm (sm.grown hm hwl)⟩
end Go.Proofs.YtookeaakpiefjaaGreatDoor
end

section
namespace Go.Proofs.YtookeaakpiefjaaGreatDoor
open Go Go.Ab Go.Ab.W
end Go.Proofs.YtookeaakpiefjaaGreatDoor
end

section
namespace Go.Ab
open Go
theorem and_low (y w : Nat) : ∀ x, x < 2 ^ w → y = 2 ^ w - 1 - x → x &&& y = 0 := by
 intro x hx hy
 apply Nat.eq_of_testBit_eq
 intro i
 rw [Nat.testBit_and, hy, show 2 ^ w - 1 - x = 2 ^ w - (x + 1) by omega, Nat.testBit_two_pow_sub_succ hx, Nat.zero_testBit]
 by_cases hi : i < w
 ·simp [hi]
 ·simp [hi]
theorem two_and (a b : Nat) : (2 * a) &&& (2 * b) = 2 * (a &&& b) := by
 apply Nat.eq_of_testBit_eq
 intro i
 rw [Nat.testBit_and]
 cases i with
 | zero => simp
 | succ i => rw [Nat.testBit_succ, Nat.testBit_succ, Nat.testBit_succ, show 2 * a / 2 = a by omega, show 2 * b / 2 = b by omega, show 2 * (a &&& b) / 2 = a &&& b by omega, Nat.testBit_and]
theorem odd_and (a b : Nat) : (2 * a + 1) &&& (2 * b + 1) = 2 * (a &&& b) + 1 := by
 apply Nat.eq_of_testBit_eq
 intro i
 rw [Nat.testBit_and]
 cases i with
 | zero => simp
 | succ i => rw [Nat.testBit_succ, Nat.testBit_succ, Nat.testBit_succ, show (2 * a + 1) / 2 = a by omega, show (2 * b + 1) / 2 = b by omega, show (2 * (a &&& b) + 1) / 2 = a &&& b by omega, Nat.testBit_and]
theorem low_bit : ∀ (w x : Nat), 0 < x → x < 2 ^ w → ∃ k, k < w ∧ x &&& (2 ^ w - x) = 2 ^ k ∧ ∃ q, x = 2 ^ k * (2 * q + 1)
 | 0, x, h0, h1 => by simp at h1; omega
 | w + 1, x, h0, h1 => by
  rw [Nat.pow_succ] at h1 ⊢
  rcases Nat.mod_two_eq_zero_or_one x with h | h
  ·obtain ⟨y, rfl⟩ : ∃ y, x = 2 * y := ⟨x / 2, by omega⟩
   obtain ⟨k, hk, h2, q, h3⟩ := low_bit w y (by omega) (by omega)
   refine ⟨k + 1, by omega, ?_, q, ?_⟩
   ·rw [show 2 ^ w * 2 - 2 * y = 2 * (2 ^ w - y) by omega, two_and, h2, Nat.pow_succ]; omega
   ·rw [h3, Nat.pow_succ, Nat.mul_comm (2 ^ k) 2, Nat.mul_assoc]
  ·obtain ⟨y, rfl⟩ : ∃ y, x = 2 * y + 1 := ⟨x / 2, by omega⟩
   refine ⟨0, by omega, ?_, y, by simp⟩
   rw [show 2 ^ w * 2 - (2 * y + 1) = 2 * (2 ^ w - 1 - y) + 1 by omega, odd_and, and_low _ w y (by omega) rfl]
def tz (x : Nat) : Nat := if x = 0 then 64 else Nat.log2 (x &&& (2 ^ 64 - x))
theorem tz_low {x : Nat} (h0 : 0 < x) (h1 : x < 2 ^ 64) : tz x < 64 ∧ x &&& (2 ^ 64 - x) = 2 ^ tz x ∧ ∃ q, x = 2 ^ tz x * (2 * q + 1) := by
 obtain ⟨k, hk, h2, h3⟩ := low_bit 64 x h0 h1
 have : tz x = k := by unfold tz; rw [if_neg (by omega), h2, Nat.log2_two_pow]
 rw [this]; exact ⟨hk, h2, h3⟩
end Go.Ab
end

section
namespace Go.Proofs.YtookeaakpiefjaaGreatDoor
open Go Go.Ab
set_option maxRecDepth 10000
theorem tu3 : Tryz.prog.underlying 3 = some (.int .i64) := by kernel_rfl
theorem tu5 : Tryz.prog.underlying 5 = some (.int .u8) := by kernel_rfl
theorem tu182 : Tryz.prog.underlying 182 = some (.array 64 5) := by kernel_rfl
theorem tk5 : known Tryz.prog 5 = true := by kernel_rfl
theorem ts5 : sizeA Tryz.prog 5 = 1 := by kernel_rfl
theorem ta5 : isAggA Tryz.prog 5 = false := by kernel_rfl
theorem tab_tz : ∀ k : Fin 64, (tabInts.map (Value.int .u8))[(2 ^ k.val * 285870213051353865 % 2 ^ 64) >>> 58]?.map (fun v => match v with | .int .u8 n => decide (n = k.val) | _ => false) = some true := by decide +kernel
theorem tab_at (k : Nat) (hk : k < 64) : (tabInts.map (Value.int .u8))[(2 ^ k * 285870213051353865 % 2 ^ 64) >>> 58]? = some (.int .u8 (k : Int)) := by
 have := tab_tz ⟨k, hk⟩
 cases h : (tabInts.map (Value.int .u8))[(2 ^ k * 285870213051353865 % 2 ^ 64) >>> 58]? with
 | none => rw [h] at this; cases this
 | some v =>
  rw [h] at this
  simp only [Option.map_some, Option.some.injEq] at this
  split at this
  ·rw [of_decide_eq_true this]
  ·cases this
def neg64 (x : Nat) : Nat := 2 ^ 64 - x
def mul64 (x y : Nat) : Nat := x * y % 2 ^ 64
theorem neg_u64 (x : Nat) (h0 : 0 < x) (h1 : x < 2 ^ 64) : unA .neg (.int .u64 (x : Int)) = some (.int .u64 ((neg64 x : Nat) : Int)) := by
 simp only [unA, neg64]
 have : IntKind.u64.wrap (0 - (x : Int)) = ((2 ^ 64 - x : Nat) : Int) := by
  unfold IntKind.wrap IntKind.bits IntKind.signed
  simp only [Bool.false_and, Bool.false_eq_true, if_false]
  omega
 rw [this]
theorem mul_u64 {ty : TypeId} {P : Program} (x : Nat) : binA .mul ty P (.int .u64 (x : Int)) (.int .u64 285870213051353865) = some (.int .u64 ((mul64 x 285870213051353865 : Nat) : Int)) := by
 simp only [binA, if_true, mul64]
 have : IntKind.u64.wrap ((x : Int) * 285870213051353865) = ((x * 285870213051353865 % 2 ^ 64 : Nat) : Int) := by
  unfold IntKind.wrap IntKind.bits IntKind.signed
  simp only [Bool.false_and, Bool.false_eq_true, if_false]
  omega
 rw [this]
theorem shr_u64 {ty : TypeId} {P : Program} (x : Nat) : binA .shr ty P (.int .u64 (x : Int)) (.int .u64 58) = some (.int .u64 ((x >>> 58 : Nat) : Int)) := bin_shr64 x 58 .u64 (by omega)
theorem and_u64 {ty : TypeId} {P : Program} (x : Nat) (h0 : 0 < x) (h1 : x < 2 ^ 64) : binA .and ty P (.int .u64 (x : Int)) (.int .u64 ((neg64 x : Nat) : Int)) = some (.int .u64 ((2 ^ tz x : Nat) : Int)) := by
 rw [bin_and64 x (neg64 x) h1 (by unfold neg64; omega)]
 unfold neg64
 rw [(tz_low h0 h1).2.1]
theorem tab_idx (k : Nat) (hk : k < 64) : indexAddrA Tryz.prog 182 (ptr 0 0) (.int .u64 ((mul64 (2 ^ k) 285870213051353865 >>> 58 : Nat) : Int)) = some (ptr 0 (mul64 (2 ^ k) 285870213051353865 >>> 58)) := by
 have hlt : mul64 (2 ^ k) 285870213051353865 >>> 58 < 64 := by
  rw [Nat.shiftRight_eq_div_pow]
  have : mul64 (2 ^ k) 285870213051353865 < 2 ^ 64 := Nat.mod_lt _ (by omega)
  omega
 rw [idxArr tu182 tk5 ts5 hlt]
 simp
def dbMul (k : Nat) : Nat := mul64 (2 ^ k) 285870213051353865
def dbIdx (k : Nat) : Nat := dbMul k >>> 58
theorem mul_db {ty : TypeId} {P : Program} (k : Nat) : binA .mul ty P (.int .u64 ((2 ^ k : Nat) : Int)) (.int .u64 285870213051353865) = some (.int .u64 ((dbMul k : Nat) : Int)) := mul_u64 _
theorem shr_db {ty : TypeId} {P : Program} (k : Nat) : binA .shr ty P (.int .u64 ((dbMul k : Nat) : Int)) (.int .u64 58) = some (.int .u64 ((dbIdx k : Nat) : Int)) := shr_u64 _
theorem idx_db (k : Nat) (hk : k < 64) : indexAddrA Tryz.prog 182 (ptr 0 0) (.int .u64 ((dbIdx k : Nat) : Int)) = some (ptr 0 (dbIdx k)) := tab_idx k hk
theorem conv_5_3 (n : Nat) (h : n < 2 ^ 63) : convA Tryz.prog 5 3 (.int .u8 (n : Int)) = some (.int .i64 (n : Int)) := by
 simp only [convA, tu5, tu3]
 rw [wrap_i64 _ (by omega) (by omega)]
theorem load_db (k : Nat) (hk : k < 64) {m : AMem} (hm : m.get 0 = some (.cells (tabInts.map (.int .u8)) .ro)) : loadA Tryz.prog 5 (ptr 0 (dbIdx k)) m = some (.int .u8 (k : Int)) := loadOne tk5 ta5 hm (tab_at k hk)
theorem tz_specW (x : Nat) (hx : x < 2 ^ 64) (m : AMem) (hm : m.get 0 = some (.cells (tabInts.map (.int .u8)) .ro)) : CallA E30w 82 [.int .u64 (x : Int)] m (fun v m' => v = .int .i64 (tz x : Int) ∧ m' = m) := by
 refine CallA.enterM (N := 14) (rs := [.tmp 2]) rfl Tryz.func82 rfl rfl rfl ?_
 simp only [ofList_cons, ofList_nil]
 (repeat refine CodeA.seq ?_); refine CodeA.regionK fun K hK => ?_
 refine st_op rfl (o_assign (ev_int _ _)) (lt_b rfl) ?_
 refine hK _ _ ?_; clear hK K; try simp only [ta_normal]
 (repeat refine CodeA.seq ?_); refine CodeA.regionK fun K hK => ?_
 refine st_op rfl (o_move (ev_at (by repeat first | (apply at_skip; rfl) | exact at_hit _ _ _ | assumption))) (lt_b rfl) ?_
 refine st_op rfl (o_bin (ev_at (by repeat first | (apply at_skip; rfl) | exact at_hit _ _ _ | assumption)) (ev_int _ _) (bin_eql _ _ _)) (lt_b rfl) ?_
 refine hK _ _ ?_; clear hK K; try simp only [ta_normal]
 by_cases h0 : x = 0
 ·refine CodeA.cond (c := true) ((ev_at (by repeat first | (apply at_skip; rfl) | exact at_hit _ _ _ | assumption)).trans (by rw [h0]; rfl)) (fun _ => ?_) (fun h => by cases h)
  (repeat refine CodeA.seq ?_); refine CodeA.regionK fun K hK => ?_
  refine st_op rfl (o_assign (ev_int _ _)) (lt_b rfl) ?_
  refine hK _ _ ?_; clear hK K; try simp only [ta_normal]
  refine CodeA.ret ?_; simp only [ta_ret, ib_ret, em_ret, resultsA, resM_some, tupleA, Option.map_some, at_set, Nat.reduceEqDiff, reduceIte]
  rw [h0]
  exact ⟨by trivial, by trivial⟩
 ·have hp : 0 < x := by omega
  have hk := (tz_low hp hx).1
  refine CodeA.cond (c := false) ((ev_at (by repeat first | (apply at_skip; rfl) | exact at_hit _ _ _ | assumption)).trans (by rw [decide_eq_false (by omega)])) (fun h => by cases h) (fun _ => ?_)
  refine CodeA.skip ?_
  rw [ta_normal]
  (repeat refine CodeA.seq ?_); refine CodeA.regionK fun K hK => ?_
  refine st_op rfl (o_move (ev_at (by repeat first | (apply at_skip; rfl) | exact at_hit _ _ _ | assumption))) (lt_b rfl) ?_
  refine st_op rfl (o_move (ev_at (by repeat first | (apply at_skip; rfl) | exact at_hit _ _ _ | assumption))) (lt_b rfl) ?_
  refine st_op rfl (o_un (ev_at (by repeat first | (apply at_skip; rfl) | exact at_hit _ _ _ | assumption)) (neg_u64 x hp hx)) (lt_b rfl) ?_
  refine st_op rfl (o_bin (ev_at (by repeat first | (apply at_skip; rfl) | exact at_hit _ _ _ | assumption)) (ev_at (by repeat first | (apply at_skip; rfl) | exact at_hit _ _ _ | assumption)) (and_u64 x hp hx)) (lt_b rfl) ?_
  refine st_op rfl (o_bin (ev_at (by repeat first | (apply at_skip; rfl) | exact at_hit _ _ _ | assumption)) (ev_int _ _) (mul_db _)) (lt_b rfl) ?_
  refine st_op rfl (o_bin (ev_at (by repeat first | (apply at_skip; rfl) | exact at_hit _ _ _ | assumption)) (ev_int _ _) (shr_db _)) (lt_b rfl) ?_
  refine st_op rfl (o_indexAddr rfl (ev_at (by repeat first | (apply at_skip; rfl) | exact at_hit _ _ _ | assumption)) (idx_db _ hk)) (lt_b rfl) ?_
  refine st_op rfl (o_load (ev_at (by repeat first | (apply at_skip; rfl) | exact at_hit _ _ _ | assumption)) (load_db _ hk hm)) (lt_b rfl) ?_
  refine st_op rfl (o_conv (ev_at (by repeat first | (apply at_skip; rfl) | exact at_hit _ _ _ | assumption)) (conv_5_3 _ (Nat.lt_trans hk (by decide)))) (lt_b rfl) ?_
  refine st_op rfl (o_assign (ev_at (by repeat first | (apply at_skip; rfl) | exact at_hit _ _ _ | assumption))) (lt_b rfl) ?_
  refine hK _ _ ?_; clear hK K; try simp only [ta_normal]
  refine CodeA.ret ?_; simp only [ta_ret, ib_ret, em_ret, resultsA, resM_some, tupleA, Option.map_some, at_set, Nat.reduceEqDiff, reduceIte]
  exact ⟨by trivial, by trivial⟩
end Go.Proofs.YtookeaakpiefjaaGreatDoor
end

section
namespace Go.Proofs.YtookeaakpiefjaaGreatDoor
open Go Go.Ab Go.Ab.W
set_option maxRecDepth 10000
set_option maxHeartbeats 4000000
attribute [local irreducible] Tm.at Trie.set Trie.get AMem.get AMem.set AMem.alloc AMem.ww AMem.kill
def F82 (n : Nat) (x : Nat) : Option Int := gd (decide (x < 2 ^ 64)) (some (tz x : Int))
def F31 (n : Nat) (l : List (Int × Int)) : Option (List (Int × Int)) := gd (lim l.length) (some l)
theorem sl_nn {P : Program} {ty e l c l' c' : Nat} (hu : P.underlying ty = some (.slice e)) : binA .eql ty P (.slice none l c) (.slice none l' c') = some (.bool true) := by
 simp only [binA, Op.maxDepth, eqA, hu, Option.map_some, Option.isNone_none]
theorem sl_sn {P : Program} {ty e l c l' c' : Nat} {A : Addr} (hu : P.underlying ty = some (.slice e)) : binA .eql ty P (.slice (some A) l c) (.slice none l' c') = some (.bool false) := by
 simp only [binA, Op.maxDepth, eqA, hu, Option.map_some]
theorem mu32 : E30w.P.underlying 32 = some (.slice 43) := by kernel_rfl
theorem ms32 : SlT E30w.P 32 43 2 := SlT.of (by kernel_rfl)
theorem mz43 : zeroA E30w.P 43 = some (.agg #[.int .i64 0, .int .i64 0]) := by kernel_rfl
theorem Rd.nil_len {m : AMem} {cap w n : Nat} {es : List (List Value)} (h : Rd m none cap w n es) : n = 0 := by
 rcases h.2.2 with ⟨_, h⟩ | ⟨_, _, h, _⟩ | ⟨_, _, h, _⟩
 ·exact h
 ·cases h
 ·cases h
theorem f31_ok (n : Nat) (l : List (Int × Int)) (a : Option Addr) (c : Nat) (r : List (Int × Int)) (hF : F31 n l = some r) (m : AMem) (h : Rd m a c 2 l.length (l.map (eP (eI .i64) (eI .i64)))) : CallA E30w 31 [.slice a l.length c] m (fun v m' => ∃ x : Option Addr × Nat, v = .slice x.1 x.2 x.2 ∧ Hp m m' [.sl x.1 2 x.2 (r.map (eP (eI .i64) (eI .i64)))]) := by
 unfold F31 at hF
 obtain ⟨hl, hF⟩ := gd_some hF
 cases hF
 cases a with
 | none =>
  have h0 := Rd.nil_len h
  have : l = [] := List.length_eq_zero_iff.1 h0
  subst this
  refine call_wk (m0 := m) (ps := []) (N := 8) (rs := [.tmp 2]) rfl Tryz.func31 rfl rfl rfl (Hp.start m) ?_
  refine Wk.seq ?_
  refine Wk.region ?_
  refine Wo.od (o_as rfl) rfl ?_
  refine Wo.nil ?_
  refine At.tn ?_
  refine Wk.seq ?_
  refine Wk.seq ?_
  refine Wk.region ?_
  refine Wo.od (o_mv rfl) rfl ?_
  refine Wo.od (o_bi rfl rfl (sl_nn mu32)) rfl ?_
  refine Wo.nil ?_
  refine At.tn ?_
  refine Wk.condT rfl rfl ?_
  refine Wk.seq ?_
  refine Wk.region ?_
  refine Wo.od (o_as rfl) rfl ?_
  refine Wo.nil ?_
  refine At.tn ?_
  refine Wk.ret ?_
  refine At.tr ?_
  exact At.ret (.tmp rfl .nil) fun m' hm => ⟨(none, 0), rfl, (Turn.nil 2 rfl) m' hm⟩
 | some A =>
  refine call_wk (m0 := m) (ps := [.rd (some A) c 2 l.length (l.map (eP (eI .i64) (eI .i64)))]) (N := 8) (rs := [.tmp 2]) rfl Tryz.func31 rfl rfl rfl ((Hp.start m).inn rfl h) ?_
  refine Wk.seq ?_
  refine Wk.region ?_
  refine Wo.od (o_as rfl) rfl ?_
  refine Wo.nil ?_
  refine At.tn ?_
  refine Wk.seq ?_
  refine Wk.seq ?_
  refine Wk.region ?_
  refine Wo.od (o_mv rfl) rfl ?_
  refine Wo.od (o_bi rfl rfl (sl_sn mu32)) rfl ?_
  refine Wo.nil ?_
  refine At.tn ?_
  refine Wk.condF rfl rfl ?_
  refine Wk.skip ?_
  refine At.tn ?_
  refine Wk.seq ?_
  refine Wk.region ?_
  refine Wo.x (o_bs (es := ([] : List (Int × Int)).map (eP (eI .i64) (eI .i64))) ms32 rfl (bs_c ms32 mz43 rfl rfl) rfl rfl) gn rfl fun b => ?_
  refine Wo.od (o_mv rfl) rfl ?_
  refine Wo.turn (Turn.close (k := 0) rfl) ?_
  refine Wo.x (o_apl (k := 0) (k2 := 1) (xs := ([] : List (Int × Int))) (ys := l) (enP (enI .i64) (enI .i64)) ms32 ⟨_, mu32⟩ rfl rfl rfl (.rd _ _ _ _ _) hl) gn rfl fun a2 => ?_
  refine Wo.od (o_as rfl) rfl ?_
  refine Wo.nil ?_
  refine At.tn ?_
  refine Wk.ret ?_
  exact At.ret (.tmp rfl .nil) fun m' hm => ⟨(a2, l.length), rfl, (Turn.picks [0] rfl rfl) m' hm⟩
theorem f82_ok (n x : Nat) (r : Int) (hF : F82 n x = some r) (m : AMem) (hG : Gl m) : CallA E30w 82 [.int .u64 ((x : Nat) : Int)] m (fun v m' => ∃ x : Unit, v = .int .i64 r ∧ Hp m m' []) := by
 unfold F82 at hF
 obtain ⟨hx, hF⟩ := gd_some hF
 cases hF
 exact (tz_specW x (of_decide_eq_true hx) m hG.1).mono fun v m' h => ⟨(), h.1, by rw [h.2]; exact Hp.start m⟩
end Go.Proofs.YtookeaakpiefjaaGreatDoor
end

section
namespace Go.Proofs.YtookeaakpiefjaaGreatDoor
open Go Go.Ab Go.Ab.W
set_option maxRecDepth 10000
def tab256_482390 : List Nat := [0, 1, 2, 2, 3, 3, 3, 3, 4, 4, 4, 4, 4, 4, 4, 4, 5, 5, 5, 5, 5, 5, 5, 5, 5, 5, 5, 5, 5, 5, 5, 5, 6, 6, 6, 6, 6, 6, 6, 6, 6, 6, 6, 6, 6, 6, 6, 6, 6, 6, 6, 6, 6, 6, 6, 6, 6, 6, 6, 6, 6, 6, 6, 6, 7, 7, 7, 7, 7, 7, 7, 7, 7, 7, 7, 7, 7, 7, 7, 7, 7, 7, 7, 7, 7, 7, 7, 7, 7, 7, 7, 7, 7, 7, 7, 7, 7, 7, 7, 7, 7, 7, 7, 7, 7, 7, 7, 7, 7, 7, 7, 7, 7, 7, 7, 7, 7, 7, 7, 7, 7, 7, 7, 7, 7, 7, 7, 7, 8, 8, 8, 8, 8, 8, 8, 8, 8, 8, 8, 8, 8, 8, 8, 8, 8, 8, 8, 8, 8, 8, 8, 8, 8, 8, 8, 8, 8, 8, 8, 8, 8, 8, 8, 8, 8, 8, 8, 8, 8, 8, 8, 8, 8, 8, 8, 8, 8, 8, 8, 8, 8, 8, 8, 8, 8, 8, 8, 8, 8, 8, 8, 8, 8, 8, 8, 8, 8, 8, 8, 8, 8, 8, 8, 8, 8, 8, 8, 8, 8, 8, 8, 8, 8, 8, 8, 8, 8, 8, 8, 8, 8, 8, 8, 8, 8, 8, 8, 8, 8, 8, 8, 8, 8, 8, 8, 8, 8, 8, 8, 8, 8, 8, 8, 8, 8, 8, 8, 8, 8, 8, 8, 8, 8, 8, 8, 8]
def L28_1 (n : Nat) (l4 : List (Nat × Nat)) (y10 : Int) (v1018 : Int) (v2356 : Int) : (Bool × Int) → Option ((Bool × Int) ⊕ (Bool)) := fun (v2917, v2918) =>
ob (
br (decide (v2918 < (l4.length : Int))) (
some (decide (v2918 < 3))) (
some false)) fun v2972 =>
br (v2972) (
ob (
gd (inB v2918 l4.length) (
ob (l4[v2918.toNat]?) fun (x2995, x2996) =>
gd (decide (y10 ≠ 0)) (
gd (inB v2918 l4.length) (
gd (decide (y10 ≠ 0)) (
br (v2917) (
some true) (
br (decide (Int.tmod (IntKind.wrap .i64 ((x2995 : Nat) : Int)) y10 = v1018)) (
br (decide (Int.tmod (IntKind.wrap .i64 ((x2996 : Nat) : Int)) y10 = v2356)) (
some true) (
br (decide (Int.tmod (IntKind.wrap .i64 ((x2995 : Nat) : Int)) y10 = v2356)) (
some (decide (Int.tmod (IntKind.wrap .i64 ((x2996 : Nat) : Int)) y10 = v1018))) (
some false))) (
br (decide (Int.tmod (IntKind.wrap .i64 ((x2995 : Nat) : Int)) y10 = v2356)) (
some (decide (Int.tmod (IntKind.wrap .i64 ((x2996 : Nat) : Int)) y10 = v1018))) (
some false)))))))) fun v2991 =>
some (.inl (v2991, IntKind.wrap .i64 (v2918 + 1)))) (
some (.inr v2917))
def L28_2 (n : Nat) (y10 : Int) (v1018 : Int) (v1014 : Int) (x3 : Nat) (l4 : List (Nat × Nat)) : (List (Int × Int) × Int × Int) → Option ((List (Int × Int) × Int × Int) ⊕ (List (Int × Int) × Int)) := fun (l2353, v2355, v2356) =>
br (decide (v2356 < y10)) (
ob (
ob (
br (decide (v2356 = IntKind.wrap .i64 (v1018 + v1014))) (
some true) (
br (decide (v2356 = IntKind.wrap .i64 (v1018 + 1))) (
gd (decide (v1014 ≠ 0)) (
some (!decide (Int.tmod v2356 v1014 = 0)))) (
some false))) fun v2857 =>
ob (
br (v2857) (
ob (
ob (
br (decide (Int.tmod v2355 2 = 1)) (
ob (some (ushr .u16 x3 (ui .u64 (Int.tmod (IntKind.wrap .i64 (Int.tdiv v2355 2)) 16)))) fun y2906 =>
some (decide (uw .u16 (uw .u16 y2906 &&& uw .u16 1) = 1))) (
some false)) fun v2904 =>
br (v2904) (
some false) (
some v2857)) fun v2900 =>
some (IntKind.wrap .i64 (v2355 + 1), v2900)) (
some (v2355, v2857))) fun (v2887, v2888) =>
ob (
lpN (L28_1 n l4 y10 v1018 v2356) n (v2888, 0)) fun v2964 =>
br (v2964) (
gd (lim (l2353 ++ [(v1018, v2356)]).length) (
some ((l2353 ++ [(v1018, v2356)]), v2887))) (
some (l2353, v2887))) fun (l2851, v2853) =>
some (.inl (l2851, v2853, IntKind.wrap .i64 (v2356 + 1)))) (
some (.inr (l2353, v2355)))
def L28_3 (n : Nat) (y10 : Int) (x3 : Nat) (l4 : List (Nat × Nat)) : (Int × List (Int × Int) × Int × Int) → Option ((Int × List (Int × Int) × Int × Int) ⊕ (List (Int × Int))) := fun (v1014, l1015, v1017, v1018) =>
br (decide (v1018 < y10)) (
ob (
lpN (L28_2 n y10 v1018 v1014 x3 l4) n (l1015, v1017, IntKind.wrap .i64 (v1018 + 1))) fun (l2687, v2689) =>
some (.inl (v1014, l2687, v2689, IntKind.wrap .i64 (v1018 + 1)))) (
some (.inr l1015))
def F28 (n : Nat) (x1 : Nat) (x2 : Nat) (x3 : Nat) (l4 : List (Nat × Nat)) : Option (Int × List (Int × Int)) :=
ob (some (IntKind.wrap .i64 ((IntKind.wrap .i64 (1 + (IntKind.wrap .i64 ((x1 % 4 : Nat) : Int)))) * (IntKind.wrap .i64 (1 + (IntKind.wrap .i64 ((x2 % 3 : Nat) : Int))))))) fun y10 =>
ob (
lpN (L28_3 n y10 x3 l4) n (IntKind.wrap .i64 (1 + (IntKind.wrap .i64 ((x1 % 4 : Nat) : Int))), ([] : List (Int × Int)), 0, 0)) fun l2020 =>
some (y10, l2020)
def F86 (n : Nat) (x1 : Nat) (x2 : Int) : Option (Bool) :=
some (decide (uw .u64 (uw .u64 (ushr .u64 x1 (ui .u64 x2)) &&& uw .u64 1) = 1))
def L53_1 (n : Nat) (x1 : Nat) : (Int × Int) → Option ((Int × Int) ⊕ (Int)) := fun (v4, v5) =>
br (decide (v5 < 64)) (
ob (
ob (F86 n x1 v5) fun r25 =>
br (r25) (
some (IntKind.wrap .i64 (v4 + 1))) (
some v4)) fun v23 =>
some (.inl (v23, IntKind.wrap .i64 (v5 + 1)))) (
some (.inr v4))
def F53 (n : Nat) (x1 : Nat) : Option (Int) :=
ob (
lpN (L53_1 n x1) n (0, 0)) fun v18 =>
some v18
def F106 (n : Nat) (x1 : Int) : Option (Nat) :=
some (ushl .u64 1 (ui .u64 x1))
def L50_1 (n : Nat) (x1 : Int) (x6 : Nat) : (Nat × Int) → Option ((Nat × Int) ⊕ (Nat)) := fun (v10, v11) =>
ob (
br (decide (v11 < x1)) (
ob (F53 n v10) fun r64 =>
some (decide (r64 < 9))) (
some false)) fun v61 =>
br (v61) (
ob (
ob (F86 n x6 v11) fun r75 =>
br (r75) (
ob (F106 n v11) fun r78 =>
some (uw .u64 (uw .u64 v10 ||| uw .u64 r78))) (
some v10)) fun v73 =>
some (.inl (v73, IntKind.wrap .i64 (v11 + 1)))) (
some (.inr v10))
def F50 (n : Nat) (x1 : Int) (l2 : List (Int × Int)) (x6 : Nat) : Option (Nat) :=
ob (
lpN (L50_1 n x1 x6) n (0, 0)) fun v47 =>
some v47
def F51 (n : Nat) (x1 : Nat) (x2 : Int) (x3 : Nat) (x4 : Int) (l5 : List (Int × Int)) (x9 : Nat) : Option (Int × List (Int × Int) × Nat) :=
ob (F31 n l5) fun l14 =>
ob (
br (decide (x1 % 6 = 0)) (
some (x9, x2, l14)) (
br (decide (x1 % 6 = 1)) (
br (decide (0 < (l14.length : Int))) (
gd (decide (0 < ui .u64 (l14.length : Int))) (
ob (some (IntKind.wrap .i64 (((ui .u64 x2) % (ui .u64 (l14.length : Int)) : Nat) : Int))) fun y47 =>
gd (inB y47 l14.length) (
ob (l14[y47.toNat]?) fun (x53, x54) =>
gd (inB y47 l14.length) (
gd (inB y47 l14.length) (
gd (inB y47 l14.length) (
ob ((l14.set y47.toNat (x54, x54))[y47.toNat]?) fun (x60, x61) =>
some (x9, x4, ((l14.set y47.toNat (x54, x54)).set y47.toNat (x60, x53))))))))) (
some (x9, x4, l14))) (
br (decide (x1 % 6 = 2)) (
some (uw .u64 (uw .u64 x9 ||| uw .u64 x3), x4, l14)) (
br (decide (x1 % 6 = 3)) (
some (0, x4, l14)) (
some (x9, x4, l14)))))) fun (v40, v41, l42) =>
some (v41, l42, v40)
def L52_1 (n : Nat) (l2 : List (Int × Int)) (x1 : Int) : Int → Option ((Int) ⊕ ((Unit) ⊕ (Unit))) := fun v24 =>
br (decide (v24 < (l2.length : Int))) (
gd (inB v24 l2.length) (
ob (l2[v24.toNat]?) fun (x166, x167) =>
gd (inB v24 l2.length) (
ob (
br (decide (x166 < 0)) (
some true) (
br (decide (x167 ≤ x166)) (
some true) (
some (decide (x1 ≤ x167))))) fun v180 =>
br (v180) (
some (.inr (.inl ()))) (
ob (
br (decide (0 < v24)) (
gd (inB (IntKind.wrap .i64 (v24 - 1)) l2.length) (
ob (l2[(IntKind.wrap .i64 (v24 - 1)).toNat]?) fun (x198, x199) =>
br (decide (x166 < x198)) (
some true) (
gd (inB (IntKind.wrap .i64 (v24 - 1)) l2.length) (
br (decide (x198 = x166)) (
gd (inB (IntKind.wrap .i64 (v24 - 1)) l2.length) (
some (decide (x167 ≤ x199)))) (
some false))))) (
some false)) fun v195 =>
br (v195) (
some (.inr (.inl ()))) (
some (.inl (IntKind.wrap .i64 (v24 + 1)))))))) (
some (.inr (.inr ())))
def F52 (n : Nat) (x1 : Int) (l2 : List (Int × Int)) : Option (Int) :=
ob (
br (decide (x1 < 1)) (
some true) (
br (decide (64 < x1)) (
some true) (
some (decide (200 < (l2.length : Int)))))) fun v17 =>
br (v17) (
some 180) (
ob (α := (Unit) ⊕ (Unit)) (
lpN (L52_1 n l2 x1) n 0) fun r209 => match r209 with
| .inl _ =>
some 180
| .inr _ =>
some 0)
def F114 (n : Nat) (x1 : Int) (l2 : List (Int × Int)) (x6 : Nat) : Option (Int) :=
ob (F52 n x1 l2) fun r9 =>
br (!decide (r9 = 0)) (
some r9) (
ob (
br (decide (x1 < 64)) (
some (!decide (ushr .u64 x6 (ui .u64 x1) = 0))) (
some false)) fun v18 =>
br (v18) (
some 2) (
some 0))
def F57 (n : Nat) (x1 : Int) (l2 : List (Int × Int)) (x6 : Nat) : Option (Int) :=
ob (F52 n x1 l2) fun r9 =>
br (!decide (r9 = 0)) (
some r9) (
br (decide (x6 = 0)) (
some 2) (
ob (F114 n x1 l2 x6) fun r13 =>
some r13))
def F63 (n : Nat) (x1 : Int) (l2 : List (Int × Int)) (x6 : Nat) (x7 : Int) : Option (Bool) :=
br (decide (0 ≤ x7)) (
br (decide (x7 < (l2.length : Int))) (
gd (inB x7 l2.length) (
ob (l2[x7.toNat]?) fun (x14, x15) =>
ob (F86 n x6 x14) fun r18 =>
br (r18) (
gd (inB x7 l2.length) (
ob (F86 n x6 x15) fun r22 =>
some r22)) (
some false))) (
some false)) (
some false)
def L84_1 (n : Nat) (l6 : List (Int)) (l2 : List (Int × Int)) : (Nat × Int) → Option ((Nat × Int) ⊕ (Nat)) := fun (v174, v175) =>
br (decide (v175 < (l6.length : Int))) (
ob (
gd (inB v175 l6.length) (
ob (l6[v175.toNat]?) fun x287 =>
gd (inB x287 l2.length) (
ob (l2[x287.toNat]?) fun (x292, x293) =>
gd (inB v175 l6.length) (
gd (inB x287 l2.length) (
ob (
ob (F86 n v174 x292) fun r304 =>
br (r304) (
some true) (
ob (F86 n v174 x293) fun r307 =>
some r307)) fun v302 =>
br (v302) (
ob (F106 n x292) fun r312 =>
ob (F106 n x293) fun r314 =>
ob (some (uw .u64 (uw .u64 (uw .u64 (uw .u64 v174 ||| uw .u64 r312)) ||| uw .u64 r314))) fun y315 =>
some y315) (
some v174)))))) fun v283 =>
some (.inl (v283, IntKind.wrap .i64 (v175 + 1)))) (
some (.inr v174))
def L84_2 (n : Nat) (l6 : List (Int)) (l2 : List (Int × Int)) : (Nat × Int) → Option ((Nat × Int) ⊕ (Nat)) := fun (v16, v17) =>
br (decide (v17 < 64)) (
ob (
lpN (L84_1 n l6 l2) n (v16, 0)) fun v248 =>
some (.inl (v248, IntKind.wrap .i64 (v17 + 1)))) (
some (.inr v16))
def F84 (n : Nat) (x1 : Int) (l2 : List (Int × Int)) (l6 : List (Int)) (x10 : Int) : Option (Nat) :=
ob (F106 n x10) fun r13 =>
ob (
lpN (L84_2 n l6 l2) n (r13, 0)) fun v170 =>
some v170
def L115_1 (n : Nat) (l2 : List (Int × Int)) (x1 : Int) (x6 : Nat) (l7 : List (Int)) (rec0 : Int → (List (Int × Int)) → Nat → (List Int) → Option (List (List Int))) : (List (List (Int)) × Int) → Option ((List (List (Int)) × Int) ⊕ (List (List (Int)))) := fun (l199, v202) =>
br (decide (v202 < (l2.length : Int))) (
ob (
ob (
ob (F63 n x1 l2 x6 v202) fun r502 =>
br (!r502) (
some true) (
gd (inB v202 l2.length) (
ob (l2[v202.toNat]?) fun (x507, x508) =>
ob (F84 n x1 l2 l7 x507) fun r511 =>
gd (inB v202 l2.length) (
ob (F86 n r511 x508) fun r514 =>
some r514)))) fun v500 =>
br (v500) (
some l199) (
gd (lim (([] : List (Int)) ++ l7).length) (
gd (lim ((([] : List (Int)) ++ l7) ++ [v202]).length) (
ob (rec0 x1 l2 x6 ((([] : List (Int)) ++ l7) ++ [v202])) fun l525 =>
gd (lim (l199 ++ l525).length) (
some (l199 ++ l525)))))) fun l451 =>
some (.inl (l451, IntKind.wrap .i64 (v202 + 1)))) (
some (.inr l199))
def F115b (n : Nat) (rec0 : Int → (List (Int × Int)) → Nat → (List (Int)) → Option (List (List Int))) (x1 : Int) (l2 : List (Int × Int)) (x6 : Nat) (l7 : List (Int)) : Option (List (List Int)) :=
ob (F53 n x6) fun r13 =>
br (decide ((l7.length : Int) = IntKind.wrap .i64 (r13 - 1))) (
gd (lim (([] : List (Int)) ++ l7).length) (
some ([(([] : List (Int)) ++ l7)]))) (
ob (
br (decide (0 < (l7.length : Int))) (
gd (inB (IntKind.wrap .i64 ((l7.length : Int) - 1)) l7.length) (
ob (l7[(IntKind.wrap .i64 ((l7.length : Int) - 1)).toNat]?) fun x31 =>
some (IntKind.wrap .i64 (x31 + 1)))) (
some 0)) fun v26 =>
ob (
lpN (L115_1 n l2 x1 x6 l7 rec0) n (([] : List (List (Int))), v26)) fun l369 =>
some l369)
def R115 (n : Nat) : Nat → Int → (List (Int × Int)) → Nat → (List (Int)) → Option (List (List Int))
 | 0 => fun _ _ _ _ => none
 | k + 1 => F115b n (R115 n k)
def F115 (n : Nat) : Int → (List (Int × Int)) → Nat → (List (Int)) → Option (List (List Int)) := R115 n n
def F58 (n : Nat) (x1 : Int) (l2 : List (Int × Int)) (x6 : Nat) : Option (List (List Int)) :=
ob (F115 n x1 l2 x6 []) fun l9 =>
some l9
def L125_1 (n : Nat) (l1 : List (Int)) : Int → Option ((Int) ⊕ (Int)) := fun v7 =>
ob (
br (decide (0 < v7)) (
gd (inB (IntKind.wrap .i64 (v7 - 1)) l1.length) (
ob (l1[(IntKind.wrap .i64 (v7 - 1)).toNat]?) fun x69 =>
some (decide (x69 = 0)))) (
some false)) fun v64 =>
br (v64) (
some (.inl (IntKind.wrap .i64 (v7 - 1)))) (
some (.inr v7))
def F125 (n : Nat) (l1 : List (Int)) : Option (List Int) :=
ob (
lpN (L125_1 n l1) n (l1.length : Int)) fun v41 =>
gd (okB 0 v41 l1.length) (
some ((l1.drop (0 : Int).toNat).take ((v41 : Int).toNat - (0 : Int).toNat)))
def F123 (n : Nat) (x1 : Bool) (l2 : List (Int)) : Option (Bool × List Int) :=
ob (F125 n l2) fun l9 =>
br (x1) (
some (decide (0 < (l9.length : Int)), l9)) (
some (false, l9))
def F72 (n : Nat) (x1 : Int) : Option (Bool × List Int) :=
ob (
br (decide (x1 < 0)) (
some (uneg .u64 (ui .u64 x1))) (
some (ui .u64 x1))) fun v4 =>
ob (F123 n (decide (x1 < 0)) ([IntKind.wrap .i64 ((v4 % 4294967296 : Nat) : Int), IntKind.wrap .i64 ((uw .u64 (v4 / 4294967296) : Nat) : Int)])) fun (r10, l11) =>
some (r10, l11)
def L128_1 (n : Nat) (l1 : List (Int)) (l5 : List (Int)) : Int → Option ((Int) ⊕ ((Int) ⊕ (Unit))) := fun v11 =>
br (decide (0 ≤ v11)) (
gd (inB v11 l1.length) (
ob (l1[v11.toNat]?) fun x32 =>
gd (inB v11 l5.length) (
ob (l5[v11.toNat]?) fun x37 =>
br (!decide (x32 = x37)) (
gd (inB v11 l1.length) (
gd (inB v11 l5.length) (
some (.inr (.inl (IntKind.wrap .i64 (x32 - x37))))))) (
some (.inl (IntKind.wrap .i64 (v11 - 1))))))) (
some (.inr (.inr ())))
def F128 (n : Nat) (l1 : List (Int)) (l5 : List (Int)) : Option (Int) :=
br (!decide ((l1.length : Int) = (l5.length : Int))) (
some (IntKind.wrap .i64 ((l1.length : Int) - (l5.length : Int)))) (
ob (α := (Int) ⊕ (Unit)) (
lpN (L128_1 n l1 l5) n (IntKind.wrap .i64 ((l1.length : Int) - 1))) fun r43 => match r43 with
| .inl v27 =>
some v27
| .inr _ =>
some 0)
def L124_1 (n : Nat) (l1 : List (Int)) (l6 : List (Int)) : (List (Int) × Int × Int) → Option ((List (Int) × Int × Int) ⊕ (List (Int))) := fun (l74, v76, v77) =>
br (decide (v77 < (l1.length : Int))) (
gd (inB v77 l1.length) (
ob (l1[v77.toNat]?) fun x176 =>
ob (
br (decide (v77 < (l6.length : Int))) (
gd (inB v77 l6.length) (
ob (l6[v77.toNat]?) fun x189 =>
some (IntKind.wrap .i64 ((IntKind.wrap .i64 (x176 - v76)) - x189)))) (
some (IntKind.wrap .i64 (x176 - v76)))) fun v184 =>
ob (
br (decide (v184 < 0)) (
some (1, IntKind.wrap .i64 (v184 + 4294967296))) (
some (0, v184))) fun (v194, v195) =>
gd (lim (l74 ++ [v195]).length) (
some (.inl ((l74 ++ [v195]), v194, IntKind.wrap .i64 (v77 + 1)))))) (
some (.inr l74))
def F124 (n : Nat) (l1 : List (Int)) (l6 : List (Int)) : Option (List Int) :=
ob (
lpN (L124_1 n l1 l6) n (([] : List (Int)), 0, 0)) fun l141 =>
ob (F125 n l141) fun l205 =>
some l205
def L71_1 (n : Nat) (l46 : List (Int)) : (List (Nat) × Int) → Option ((List (Nat) × Int) ⊕ (List (Nat))) := fun (l81, v82) =>
br (decide (v82 < (l46.length : Int))) (
gd (inB (IntKind.wrap .i64 (Int.tdiv v82 2)) 8) (
ob (l81[(IntKind.wrap .i64 (Int.tdiv v82 2)).toNat]?) fun x102 =>
gd (inB v82 l46.length) (
ob (l46[v82.toNat]?) fun x107 =>
gd (decide (0 ≤ IntKind.wrap .i64 (32 * (Int.tmod v82 2)))) (
ob (some (ushl .u64 (ui .u64 x107) (IntKind.wrap .i64 (32 * (Int.tmod v82 2))).toNat)) fun y110 =>
gd (inB (IntKind.wrap .i64 (Int.tdiv v82 2)) 8) (
some (.inl ((l81.set ((IntKind.wrap .i64 (Int.tdiv v82 2)).toNat) (uw .u64 (x102 + y110))), IntKind.wrap .i64 (v82 + 1)))))))) (
some (.inr l81))
def F71 (n : Nat) (x1 : Bool) (l2 : List (Int)) : Option (Nat × Nat × Nat × Nat × Nat × Nat × Nat × Nat × Int) :=
gd (decide ((0 : Int) ≤ 16)) (gd (lim ((16 : Int).toNat)) (
gd (inB 15 ((16 : Int).toNat)) (
ob ((List.replicate (16 : Int).toNat (0 : Int))[(15 : Int).toNat]?) fun x12 =>
ob (F128 n l2 ((List.replicate (16 : Int).toNat (0 : Int)).set ((15 : Int).toNat) 2147483648)) fun r16 =>
ob (
br (decide (0 < r16)) (
some true) (
br (decide (r16 = 0)) (
some (!x1)) (
some false))) fun v27 =>
br (v27) (
some (0, 0, 0, 0, 0, 0, 0, 0, 6)) (
ob (
br (x1) (
gd (decide ((0 : Int) ≤ 17)) (gd (lim ((17 : Int).toNat)) (
gd (inB 16 ((17 : Int).toNat)) (
ob ((List.replicate (17 : Int).toNat (0 : Int))[(16 : Int).toNat]?) fun x54 =>
ob (F124 n ((List.replicate (17 : Int).toNat (0 : Int)).set ((16 : Int).toNat) 1) l2) fun l58 =>
some l58)))) (
some l2)) fun l46 =>
ob (
lpN (L71_1 n l46) n (([0, 0, 0, 0, 0, 0, 0, 0] : List (Nat)), 0)) fun l99 =>
ob (ls8 l99) fun (x116, x117, x118, x119, x120, x121, x122, x123) =>
some (x116, x117, x118, x119, x120, x121, x122, x123, 0)))))
def F16 (n : Nat) (x1 : Int) : Option (Nat × Nat × Nat × Nat × Nat × Nat × Nat × Nat) :=
ob (F72 n x1) fun (r4, l5) =>
ob (F71 n r4 l5) fun (r10, r11, r12, r13, r14, r15, r16, r17, r18) =>
some (r10, r11, r12, r13, r14, r15, r16, r17)
def F11 (n : Nat) (x1 : Int) (l2 : List (Int × Int)) (x6 : Nat) : Option (Nat × Nat × Nat × Nat × Nat × Nat × Nat × Nat × Int) :=
ob (F57 n x1 l2 x6) fun r10 =>
br (!decide (r10 = 0)) (
some (0, 0, 0, 0, 0, 0, 0, 0, r10)) (
ob (F58 n x1 l2 x6) fun l13 =>
ob (F16 n (l13.length : Int)) fun (r18, r19, r20, r21, r22, r23, r24, r25) =>
some (r18, r19, r20, r21, r22, r23, r24, r25, 0))
def L122_1 (n : Nat)  : (List (Nat) × List (Int) × Int) → Option ((List (Nat) × List (Int) × Int) ⊕ (List (Int))) := fun (l20, l21, v23) =>
br (decide (v23 < 8)) (
gd (inB v23 8) (
ob (l20[v23.toNat]?) fun x40 =>
gd (inB v23 8) (
gd (lim (l21 ++ [IntKind.wrap .i64 ((x40 % 4294967296 : Nat) : Int), IntKind.wrap .i64 ((uw .u64 (x40 / 4294967296) : Nat) : Int)]).length) (
some (.inl (l20, (l21 ++ [IntKind.wrap .i64 ((x40 % 4294967296 : Nat) : Int), IntKind.wrap .i64 ((uw .u64 (x40 / 4294967296) : Nat) : Int)]), IntKind.wrap .i64 (v23 + 1))))))) (
some (.inr l21))
def F122 (n : Nat) (x1 : Nat) (x2 : Nat) (x3 : Nat) (x4 : Nat) (x5 : Nat) (x6 : Nat) (x7 : Nat) (x8 : Nat) : Option (List Int) :=
ob (
lpN (L122_1 n) n (([x1, x2, x3, x4, x5, x6, x7, x8] : List (Nat)), ([] : List (Int)), 0)) fun l36 =>
some l36
def F66 (n : Nat) (x1 : Nat) (x2 : Nat) (x3 : Nat) (x4 : Nat) (x5 : Nat) (x6 : Nat) (x7 : Nat) (x8 : Nat) : Option (Bool × List Int) :=
ob (F122 n x1 x2 x3 x4 x5 x6 x7 x8) fun l12 =>
br (decide (x8 < 9223372036854775808)) (
ob (F123 n false l12) fun (r17, l18) =>
some (r17, l18)) (
gd (decide ((0 : Int) ≤ 17)) (gd (lim ((17 : Int).toNat)) (
gd (inB 16 ((17 : Int).toNat)) (
ob ((List.replicate (17 : Int).toNat (0 : Int))[(16 : Int).toNat]?) fun x26 =>
ob (F125 n l12) fun l30 =>
ob (F124 n ((List.replicate (17 : Int).toNat (0 : Int)).set ((16 : Int).toNat) 1) l30) fun l35 =>
ob (F123 n true l35) fun (r40, l41) =>
some (r40, l41)))))
def F160 (n : Nat) (x1 : Bool) (l2 : List (Int)) : Option (Bool × List Int) :=
ob (F123 n (!x1) l2) fun (r10, l11) =>
some (r10, l11)
def L171_1 (n : Nat) (l1 : List (Int)) (l5 : List (Int)) : (List (Int) × Int × Int) → Option ((List (Int) × Int × Int) ⊕ (List (Int))) := fun (l95, v97, v98) =>
ob (
br (decide (v98 < (l1.length : Int))) (
some true) (
br (decide (v98 < (l5.length : Int))) (
some true) (
some (decide (0 < v97))))) fun v197 =>
br (v197) (
ob (
br (decide (v98 < (l1.length : Int))) (
gd (inB v98 l1.length) (
ob (l1[v98.toNat]?) fun x247 =>
some (IntKind.wrap .i64 (v97 + x247)))) (
some v97)) fun v242 =>
ob (
br (decide (v98 < (l5.length : Int))) (
gd (inB v98 l5.length) (
ob (l5[v98.toNat]?) fun x262 =>
some (IntKind.wrap .i64 (v242 + x262)))) (
some v242)) fun v257 =>
gd (lim (l95 ++ [Int.tmod v257 4294967296]).length) (
some (.inl ((l95 ++ [Int.tmod v257 4294967296]), IntKind.wrap .i64 (Int.tdiv v257 4294967296), IntKind.wrap .i64 (v98 + 1))))) (
some (.inr l95))
def F171 (n : Nat) (l1 : List (Int)) (l5 : List (Int)) : Option (List Int) :=
ob (
lpN (L171_1 n l1 l5) n (([] : List (Int)), 0, 0)) fun l185 =>
some l185
def F162 (n : Nat) (x1 : Bool) (l2 : List (Int)) (x7 : Bool) (l8 : List (Int)) : Option (Bool × List Int) :=
br ((x1 == x7)) (
ob (F171 n l2 l8) fun l18 =>
ob (F123 n x1 l18) fun (r22, l23) =>
some (r22, l23)) (
ob (F128 n l2 l8) fun r28 =>
br (decide (0 ≤ r28)) (
ob (F124 n l2 l8) fun l31 =>
ob (F123 n x1 l31) fun (r36, l37) =>
some (r36, l37)) (
ob (F124 n l8 l2) fun l42 =>
ob (F123 n x7 l42) fun (r47, l48) =>
some (r47, l48)))
def F147 (n : Nat) (x1 : Bool) (l2 : List (Int)) (x7 : Bool) (l8 : List (Int)) : Option (Bool × List Int) :=
ob (F160 n x7 l8) fun (r17, l18) =>
ob (F162 n x1 l2 r17 l18) fun (r23, l24) =>
some (r23, l24)
def F121 (n : Nat) (x1 : Bool) (l2 : List (Int)) (x6 : Bool) (l7 : List (Int)) : Option (Int) :=
ob (F147 n x1 l2 x6 l7) fun (r14, l15) =>
br (r14) (
some (-1)) (
br (decide (0 < (l15.length : Int))) (
some 1) (
some 0))
def L65_1 (n : Nat) (l2 : List (Int)) : (Nat × Int) → Option ((Nat × Int) ⊕ (Nat)) := fun (v85, v86) =>
br (decide (0 ≤ v86)) (
gd (inB v86 l2.length) (
ob (l2[v86.toNat]?) fun x100 =>
some (.inl (uw .u64 ((uw .u64 (v85 * 4294967296)) + (ui .u64 x100)), IntKind.wrap .i64 (v86 - 1))))) (
some (.inr v85))
def F65 (n : Nat) (x1 : Bool) (l2 : List (Int)) : Option (Int × Int) :=
ob (
ob (F72 n (-9223372036854775808)) fun (r64, l65) =>
ob (F121 n x1 l2 r64 l65) fun r70 =>
br (decide (r70 < 0)) (
some true) (
ob (F72 n 9223372036854775807) fun (r73, l74) =>
ob (F121 n x1 l2 r73 l74) fun r79 =>
some (decide (0 < r79)))) fun v62 =>
br (v62) (
some (0, 6)) (
ob (
lpN (L65_1 n l2) n (0, IntKind.wrap .i64 ((l2.length : Int) - 1))) fun v95 =>
ob (
br (x1) (
some (uneg .u64 v95)) (
some v95)) fun v105 =>
some (IntKind.wrap .i64 ((v105 : Nat) : Int), 0))
def F14 (n : Nat) (x1 : Nat) (x2 : Nat) (x3 : Nat) (x4 : Nat) (x5 : Nat) (x6 : Nat) (x7 : Nat) (x8 : Nat) : Option (Int × Int) :=
ob (F66 n x1 x2 x3 x4 x5 x6 x7 x8) fun (r11, l12) =>
ob (F65 n r11 l12) fun (r17, r18) =>
some (r17, r18)
def F17 (n : Nat) (x1 : Int) (l2 : List (Int × Int)) (x7 : Nat) (x8 : Nat) (x9 : Nat) (x10 : Nat) (x11 : Nat) (x12 : Nat) (x13 : Nat) (x14 : Nat) (x15 : Nat) : Option (List Int × Int) :=
ob (F57 n x1 l2 x7) fun r19 =>
br (!decide (r19 = 0)) (
some ([], r19)) (
ob (F58 n x1 l2 x7) fun l22 =>
ob (F14 n x8 x9 x10 x11 x12 x13 x14 x15) fun (r27, r28) =>
ob (
br (!decide (r28 = 0)) (
some true) (
br (decide (r27 < 0)) (
some true) (
some (decide ((l22.length : Int) ≤ r27))))) fun v39 =>
br (v39) (
some ([], 2)) (
gd (inB r27 l22.length) (
ob (l22[r27.toNat]?) fun l47 =>
some (l47, 0))))
def F168 (n : Nat) (x1 : Int) : Option (Bool) :=
some (!decide (x1 = x1))
def F154 (n : Nat) (x1 : Int) (x2 : Int) : Option (Int) :=
ob (F168 n x1) fun r4 =>
ob (F168 n x2) fun r6 =>
br (r4) (
br (r6) (
some 0) (
some (-1))) (
br (r6) (
some 1) (
br (decide (x1 < x2)) (
some (-1)) (
br (decide (x2 < x1)) (
some 1) (
some 0))))
def L140_1 (n : Nat) (l1 : List (Int)) (l5 : List (Int)) : Int → Option ((Int) ⊕ ((Int) ⊕ (Unit))) := fun v10 =>
br (decide (v10 < (l1.length : Int))) (
gd (inB v10 l1.length) (
ob (l1[v10.toNat]?) fun x32 =>
br (decide ((l5.length : Int) ≤ v10)) (
some (.inr (.inl 1))) (
gd (inB v10 l5.length) (
ob (l5[v10.toNat]?) fun x38 =>
ob (F154 n x32 x38) fun r41 =>
br (!decide (r41 = 0)) (
some (.inr (.inl r41))) (
some (.inl (IntKind.wrap .i64 (v10 + 1)))))))) (
some (.inr (.inr ())))
def F140 (n : Nat) (l1 : List (Int)) (l5 : List (Int)) : Option (Int) :=
ob (α := (Int) ⊕ (Unit)) (
lpN (L140_1 n l1 l5) n 0) fun r44 => match r44 with
| .inl v27 =>
some v27
| .inr _ =>
br (decide ((l1.length : Int) < (l5.length : Int))) (
some (-1)) (
some 0)
def L107_1 (n : Nat) (l2 : List (Int × Int)) (x1 : Int) : (Int × Int × Int) → Option ((Int × Int × Int) ⊕ ((Unit) ⊕ (Unit))) := fun (v97, v98, v99) =>
br (decide (v99 < (l2.length : Int))) (
gd (inB v99 l2.length) (
ob (l2[v99.toNat]?) fun (x213, x214) =>
ob (
br (decide (x213 < 0)) (
some true) (
br (decide (x214 ≤ x213)) (
some true) (
br (decide (x1 ≤ x214)) (
some true) (
ob (F140 n [v97, v98] [x213, x214]) fun r241 =>
some (decide (0 ≤ r241)))))) fun v236 =>
br (v236) (
some (.inr (.inl ()))) (
some (.inl (x213, x214, IntKind.wrap .i64 (v99 + 1)))))) (
some (.inr (.inr ())))
def F107 (n : Nat) (x1 : Int) (l2 : List (Int × Int)) : Option (Int) :=
ob (
br (decide (x1 < 1)) (
some true) (
br (decide (64 < x1)) (
some true) (
some (decide (200 < (l2.length : Int)))))) fun v17 =>
br (v17) (
some 180) (
ob (α := (Unit) ⊕ (Unit)) (
lpN (L107_1 n l2 x1) n (-1, -1, 0)) fun r246 => match r246 with
| .inl _ =>
some 180
| .inr _ =>
some 0)
def F108 (n : Nat) (x1 : Nat) : Option (Int) :=
ob (
br (decide (4294967296 ≤ x1)) (
some (ushr .u64 x1 32, 32)) (
some (x1, 0))) fun (v3, v4) =>
ob (
br (decide (65536 ≤ v3)) (
some (ushr .u64 v3 16, IntKind.wrap .i64 (v4 + 16))) (
some (v3, v4))) fun (v9, v10) =>
ob (
br (decide (256 ≤ v9)) (
some (ushr .u64 v9 8, IntKind.wrap .i64 (v10 + 8))) (
some (v9, v10))) fun (v15, v16) =>
gd (inB ((uw .u8 v15 : Nat) : Int) 256) (
ob (tab256_482390[((uw .u8 v15 : Nat) : Int).toNat]?) fun y22 =>
some (IntKind.wrap .i64 (v16 + (IntKind.wrap .i64 ((y22 : Nat) : Int)))))
def F54 (n : Nat) (x1 : Int) (l2 : List (Int × Int)) (x6 : Nat) : Option (Int) :=
ob (F107 n x1 l2) fun r9 =>
br (!decide (r9 = 0)) (
some r9) (
ob (
br (decide (x6 = 0)) (
some true) (
ob (F108 n x6) fun r27 =>
some (decide (x1 < r27)))) fun v24 =>
br (v24) (
some 2) (
some 0))
def L78_1 (n : Nat)  : (List (Int) × Int) → Option ((List (Int) × Int) ⊕ (List (Int))) := fun (l12, v13) =>
br (decide (v13 < ((64 : Int).toNat : Int))) (
gd (inB v13 ((64 : Int).toNat)) (
ob (l12[v13.toNat]?) fun x24 =>
some (.inl ((l12.set v13.toNat v13), IntKind.wrap .i64 (v13 + 1))))) (
some (.inr l12))
def F78 (n : Nat)  : Option (List Int) :=
gd (decide ((0 : Int) ≤ 64)) (gd (lim ((64 : Int).toNat)) (
ob (
lpN (L78_1 n) n ((List.replicate (64 : Int).toNat (0 : Int)), 0)) fun l21 =>
some l21))
def F59 (n : Nat) (x1 : Nat) (x2 : Int) (x3 : Int) : Option (Bool) :=
gd (decide (0 ≤ x2)) (
br (decide (uw .u64 (uw .u64 (ushr .u64 x1 x2.toNat) &&& uw .u64 1) = 1)) (
gd (decide (0 ≤ x3)) (
some (decide (uw .u64 (uw .u64 (ushr .u64 x1 x3.toNat) &&& uw .u64 1) = 1)))) (
some false))
def L109_1 (n : Nat) (l1 : List (Int)) : Int → Option ((Int) ⊕ (Int)) := fun v7 =>
gd (inB v7 l1.length) (
ob (l1[v7.toNat]?) fun x20 =>
br (!decide (x20 = v7)) (
gd (inB v7 l1.length) (
some (.inl x20))) (
some (.inr v7)))
def F109 (n : Nat) (l1 : List (Int)) (x5 : Int) : Option (Int) :=
ob (
lpN (L109_1 n l1) n x5) fun v16 =>
some v16
def F43 (n : Nat) (x1 : Nat) : Option (Int) :=
ob (some (uw .u64 ((uw .u64 (uw .u64 (ushr .u64 x1 1) &&& uw .u64 6148914691236517205)) + (uw .u64 (uw .u64 x1 &&& uw .u64 6148914691236517205))))) fun y2 =>
ob (some (uw .u64 ((uw .u64 (uw .u64 (ushr .u64 y2 2) &&& uw .u64 3689348814741910323)) + (uw .u64 (uw .u64 y2 &&& uw .u64 3689348814741910323))))) fun y4 =>
ob (some (uw .u64 (uw .u64 (uw .u64 ((ushr .u64 y4 4) + y4)) &&& uw .u64 1085102592571150095))) fun y6 =>
ob (some (uw .u64 ((uw .u64 (y6 + (ushr .u64 y6 8))) + (ushr .u64 (uw .u64 (y6 + (ushr .u64 y6 8))) 16)))) fun y8 =>
ob (some (iand .i64 (IntKind.wrap .i64 ((uw .u64 (y8 + (ushr .u64 y8 32)) : Nat) : Int)) 127)) fun y10 =>
some y10
def L22_1 (n : Nat) (l7 : List (Int)) (l2 : List (Int × Int)) (x6 : Nat) : (List (Int) × Nat × Int × Int) → Option ((List (Int) × Nat × Int × Int) ⊕ ((Unit) ⊕ (Unit))) := fun (l769, n771, v772, v773) =>
br (decide (v773 < (l7.length : Int))) (
gd (inB v773 l7.length) (
ob (l7[v773.toNat]?) fun x1345 =>
ob (
br (decide (x1345 ≤ v772)) (
some (l769, n771, true)) (
br (decide ((l2.length : Int) ≤ x1345)) (
some (l769, n771, true)) (
gd (inB x1345 l2.length) (
ob (l2[x1345.toNat]?) fun (x1489, x1490) =>
ob (F59 n x6 x1489 x1490) fun r1493 =>
br (!r1493) (
some (l769, n771, true)) (
gd (inB x1345 l2.length) (
ob (
ob (F109 n l769 x1489) fun r1514 =>
ob (F109 n l769 x1490) fun r1516 =>
gd (inB (ma r1514 r1516) l769.length) (
ob (l769[(ma r1514 r1516).toNat]?) fun x1521 =>
some (!decide (r1514 = r1516), (l769.set ((ma r1514 r1516).toNat) (mi r1514 r1516))))) fun (v1509, l1510) =>
some (l1510, l769.length, !v1509))))))) fun (l1480, n1482, v1483) =>
br (v1483) (
some (.inr (.inl ()))) (
some (.inl (l1480, n1482, x1345, IntKind.wrap .i64 (v773 + 1)))))) (
some (.inr (.inr ())))
def F22 (n : Nat) (x1 : Int) (l2 : List (Int × Int)) (x6 : Nat) (l7 : List (Int)) : Option (Int) :=
ob (F54 n x1 l2 x6) fun r13 =>
br (!decide (r13 = 0)) (
some r13) (
ob (F78 n ) fun l16 =>
ob (α := (Unit) ⊕ (Unit)) (
lpN (L22_1 n l7 l2 x6) n (l16, l16.length, -1, 0)) fun r1530 => match r1530 with
| .inl _ =>
some 300
| .inr _ =>
ob (F43 n x6) fun r1532 =>
br (!decide ((l7.length : Int) = IntKind.wrap .i64 (r1532 - 1))) (
some 300) (
some 0))
def L129_1 (n : Nat) (l1 : List (Int)) (x5 : Int) : Int → Option ((Int) ⊕ ((Int) ⊕ (Unit))) := fun v7 =>
br (decide (v7 < (l1.length : Int))) (
gd (inB v7 l1.length) (
ob (l1[v7.toNat]?) fun x21 =>
br (decide (x5 = x21)) (
some (.inr (.inl v7))) (
some (.inl (IntKind.wrap .i64 (v7 + 1)))))) (
some (.inr (.inr ())))
def F129 (n : Nat) (l1 : List (Int)) (x5 : Int) : Option (Int) :=
ob (α := (Int) ⊕ (Unit)) (
lpN (L129_1 n l1 x5) n 0) fun r25 => match r25 with
| .inl v16 =>
some v16
| .inr _ =>
some (-1)
def F75 (n : Nat) (l1 : List (Int)) (x5 : Int) : Option (Bool) :=
ob (F129 n l1 x5) fun r7 =>
some (decide (0 ≤ r7))
def L81_1 (n : Nat) (l6 : List (Int)) (l2 : List (Int × Int)) (x10 : Int) : (Nat × Bool × Int) → Option ((Nat × Bool × Int) ⊕ (Nat × Bool)) := fun (v145, v146, v147) =>
br (decide (v147 < (l6.length : Int))) (
ob (
gd (inB v147 l6.length) (
ob (l6[v147.toNat]?) fun x236 =>
gd (inB x236 l2.length) (
ob (l2[x236.toNat]?) fun (x241, x242) =>
gd (decide (0 ≤ x241)) (
gd (inB x236 l2.length) (
gd (decide (0 ≤ x242)) (
ob (some (uw .u64 (uw .u64 (ushl .u64 1 x241.toNat) ||| uw .u64 (ushl .u64 1 x242.toNat)))) fun y247 =>
ob (
br (!decide (x236 = x10)) (
br (!decide (uw .u64 (uw .u64 v145 &&& uw .u64 y247) = 0)) (
some (!decide (uw .u64 (uw .u64 v145 &&& uw .u64 y247) = y247))) (
some false)) (
some false)) fun v251 =>
br (v251) (
some (uw .u64 (uw .u64 v145 ||| uw .u64 y247), true)) (
some (v145, v146)))))))) fun (v231, v232) =>
some (.inl (v231, v232, IntKind.wrap .i64 (v147 + 1)))) (
some (.inr (v145, v146)))
def L81_2 (n : Nat) (l6 : List (Int)) (l2 : List (Int × Int)) (x10 : Int) : (Nat × Bool) → Option ((Nat × Bool) ⊕ (Nat)) := fun (v16, v17) =>
br (v17) (
ob (
lpN (L81_1 n l6 l2 x10) n (v16, false, 0)) fun (v204, v205) =>
some (.inl (v204, v205))) (
some (.inr v16))
def F81 (n : Nat) (x1 : Int) (l2 : List (Int × Int)) (l6 : List (Int)) (x10 : Int) (x11 : Int) : Option (Nat) :=
gd (decide (0 ≤ x11)) (
ob (
lpN (L81_2 n l6 l2 x10) n (ushl .u64 1 x11.toNat, true)) fun v140 =>
some v140)
def F24 (n : Nat) (x1 : Int) (l2 : List (Int × Int)) (x6 : Nat) (l7 : List (Int)) (x11 : Int) : Option (Nat × Nat × Int) :=
ob (F22 n x1 l2 x6 l7) fun r14 =>
br (!decide (r14 = 0)) (
some (0, 0, r14)) (
ob (F75 n l7 x11) fun r17 =>
br (!r17) (
some (0, 0, 2)) (
ob (F82 n x6) fun r20 =>
ob (F81 n x1 l2 l7 x11 r20) fun r22 =>
some (r22, uandn .u64 x6 r22, 0)))
def L85_1 (n : Nat) (x1 : Nat) : Int → Option ((Int) ⊕ (Int)) := fun v3 =>
ob (F86 n x1 v3) fun r10 =>
br (!r10) (
some (.inl (IntKind.wrap .i64 (v3 + 1)))) (
some (.inr v3))
def F85 (n : Nat) (x1 : Nat) : Option (Int) :=
ob (
lpN (L85_1 n x1) n 0) fun v8 =>
some v8
def L80_1 (n : Nat) (l7 : List (Int)) (x1 : Int) (l2 : List (Int × Int)) (x6 : Nat) : Int → Option ((Int) ⊕ ((Unit) ⊕ (Unit))) := fun v13 =>
br (decide (v13 < (l7.length : Int))) (
ob (
gd (inB v13 l7.length) (
ob (l7[v13.toNat]?) fun x124 =>
ob (F63 n x1 l2 x6 x124) fun r127 =>
br (!r127) (
some true) (
br (decide (0 < v13)) (
gd (inB v13 l7.length) (
gd (inB (IntKind.wrap .i64 (v13 - 1)) l7.length) (
ob (l7[(IntKind.wrap .i64 (v13 - 1)).toNat]?) fun x132 =>
some (decide (x124 ≤ x132))))) (
some false)))) fun v120 =>
br (v120) (
some (.inr (.inl ()))) (
some (.inl (IntKind.wrap .i64 (v13 + 1))))) (
some (.inr (.inr ())))
def F80 (n : Nat) (x1 : Int) (l2 : List (Int × Int)) (x6 : Nat) (l7 : List (Int)) : Option (Bool) :=
ob (α := (Unit) ⊕ (Unit)) (
lpN (L80_1 n l7 x1 l2 x6) n 0) fun r138 => match r138 with
| .inl _ =>
some false
| .inr _ =>
ob (F53 n x6) fun r140 =>
br (decide ((l7.length : Int) = IntKind.wrap .i64 (r140 - 1))) (
ob (F85 n x6) fun r143 =>
ob (F84 n x1 l2 l7 r143) fun r145 =>
some (decide (r145 = x6))) (
some false)
def F23 (n : Nat) (x1 : Int) (l2 : List (Int × Int)) (x6 : Nat) (l7 : List (Int)) : Option (Int) :=
ob (F57 n x1 l2 x6) fun r13 =>
br (!decide (r13 = 0)) (
some r13) (
ob (F80 n x1 l2 x6 l7) fun r16 =>
br (!r16) (
some 300) (
some 0))
def L83_1 (n : Nat) (l1 : List (Int)) (x5 : Int) : (List (Int) × Int) → Option ((List (Int) × Int) ⊕ (List (Int))) := fun (l33, v35) =>
br (decide (v35 < (l1.length : Int))) (
ob (
gd (inB v35 l1.length) (
ob (l1[v35.toNat]?) fun x82 =>
br (!decide (x82 = x5)) (
gd (inB v35 l1.length) (
gd (lim (l33 ++ [x82]).length) (
some (l33 ++ [x82])))) (
some l33))) fun l77 =>
some (.inl (l77, IntKind.wrap .i64 (v35 + 1)))) (
some (.inr l33))
def F83 (n : Nat) (l1 : List (Int)) (x5 : Int) : Option (List Int) :=
ob (
lpN (L83_1 n l1 x5) n (([] : List (Int)), 0)) fun l64 =>
some l64
def F25 (n : Nat) (x1 : Int) (l2 : List (Int × Int)) (x6 : Nat) (l7 : List (Int)) (x11 : Int) : Option (Nat × Nat × Int) :=
ob (F23 n x1 l2 x6 l7) fun r14 =>
br (!decide (r14 = 0)) (
some (0, 0, r14)) (
ob (F83 n l7 x11) fun l17 =>
br (decide ((l17.length : Int) = (l7.length : Int))) (
some (0, 0, 2)) (
ob (F85 n x6) fun r22 =>
ob (F84 n x1 l2 l17 r22) fun r24 =>
some (r24, usub .u64 x6 r24, 0)))
def L26_1 (n : Nat) (x11 : Int) (x12 : Int) (x1 : Int) (x6 : Nat) : Int → Option ((Int) ⊕ ((Unit) ⊕ (Unit))) := fun v18 =>
br (decide (v18 < 2)) (
gd (inB v18 2) (
ob ([x11, x12][v18.toNat]?) fun x61 =>
ob (
br (decide (x61 < 0)) (
some true) (
br (decide (x1 ≤ x61)) (
some true) (
gd (decide (0 ≤ x61)) (
some (decide (uw .u64 (uw .u64 (ushr .u64 x6 x61.toNat) &&& uw .u64 1) = 0)))))) fun v67 =>
br (v67) (
some (.inr (.inl ()))) (
some (.inl (IntKind.wrap .i64 (v18 + 1)))))) (
some (.inr (.inr ())))
def L26_2 (n : Nat) (l7 : List (Int)) (l2 : List (Int × Int)) (x1 : Int) (x12 : Int) (l315 : List (Int)) : (Int × Int) → Option ((Int × Int) ⊕ ((List (Int) × Int) ⊕ (Int))) := fun (v565, v566) =>
br (decide (v566 < (l7.length : Int))) (
gd (inB v566 l7.length) (
ob (l7[v566.toNat]?) fun x744 =>
gd (inB x744 l2.length) (
ob (l2[x744.toNat]?) fun (x749, x750) =>
ob (
br (!decide (x749 = v565)) (
br (!decide (x750 = v565)) (
some true) (
ob (F81 n x1 l2 l7 x744 (IntKind.wrap .i64 ((IntKind.wrap .i64 (x749 + x750)) - v565))) fun r785 =>
gd (decide (0 ≤ x12)) (
some (decide (uw .u64 (uw .u64 (ushr .u64 r785 x12.toNat) &&& uw .u64 1) = 0))))) (
ob (F81 n x1 l2 l7 x744 (IntKind.wrap .i64 ((IntKind.wrap .i64 (x749 + x750)) - v565))) fun r788 =>
gd (decide (0 ≤ x12)) (
some (decide (uw .u64 (uw .u64 (ushr .u64 r788 x12.toNat) &&& uw .u64 1) = 0))))) fun v781 =>
br (v781) (
some (.inl (v565, IntKind.wrap .i64 (v566 + 1)))) (
gd (lim (l315 ++ [IntKind.wrap .i64 ((IntKind.wrap .i64 (x749 + x750)) - v565)]).length) (
some (.inr (.inl ((l315 ++ [IntKind.wrap .i64 ((IntKind.wrap .i64 (x749 + x750)) - v565)]), IntKind.wrap .i64 ((IntKind.wrap .i64 (x749 + x750)) - v565))))))))) (
some (.inr (.inr v565)))
def L26_3 (n : Nat) (x12 : Int) (l7 : List (Int)) (l2 : List (Int × Int)) (x1 : Int) : (List (Int) × Nat × Int) → Option ((List (Int) × Nat × Int) ⊕ (List (Int) × Nat)) := fun (l315, n317, v318) =>
br (!decide (v318 = x12)) (
ob (α := (List (Int) × Int) ⊕ (Int)) (
lpN (L26_2 n l7 l2 x1 x12 l315) n (v318, 0)) fun r797 => match r797 with
| .inl (l680, v682) =>
some (.inl (l680, l680.length, v682))
| .inr v683 =>
some (.inl (l315, n317, v683))) (
some (.inr (l315, n317)))
def F26 (n : Nat) (x1 : Int) (l2 : List (Int × Int)) (x6 : Nat) (l7 : List (Int)) (x11 : Int) (x12 : Int) : Option (List Int × Int) :=
ob (F22 n x1 l2 x6 l7) fun r15 =>
br (!decide (r15 = 0)) (
some ([], r15)) (
ob (α := (Unit) ⊕ (Unit)) (
lpN (L26_1 n x11 x12 x1 x6) n 0) fun r75 => match r75 with
| .inl _ =>
some ([], 2)
| .inr _ =>
ob (
lpN (L26_3 n x12 l7 l2 x1) n ([x11], 1, x11)) fun (l559, n561) =>
some (l559, 0))
def L27_1 (n : Nat) (l339 : List (Int)) (l2 : List (Int × Int)) (x632 : Int) (x1 : Int) (x12 : Int) (l336 : List (Int)) (n338 : Nat) : Int → Option ((Int) ⊕ (List (Int) × Nat × List (Int))) := fun v637 =>
br (decide (v637 < (l339.length : Int))) (
gd (inB v637 l339.length) (
ob (l339[v637.toNat]?) fun x842 =>
gd (inB x842 l2.length) (
ob (l2[x842.toNat]?) fun (x847, x848) =>
ob (
br (decide (x847 = x632)) (
gd (inB v637 l339.length) (
ob (F83 n l339 x842) fun l875 =>
ob (F84 n x1 l2 l875 x632) fun r879 =>
ob (F86 n r879 x12) fun r881 =>
some (!r881))) (
br (decide (x848 = x632)) (
gd (inB v637 l339.length) (
ob (F83 n l339 x842) fun l885 =>
ob (F84 n x1 l2 l885 x632) fun r889 =>
ob (F86 n r889 x12) fun r891 =>
some (!r891))) (
some false))) fun v871 =>
br (v871) (
gd (lim (l336 ++ [IntKind.wrap .i64 ((IntKind.wrap .i64 (x847 + x848)) - x632)]).length) (
gd (inB v637 l339.length) (
ob (F83 n l339 x842) fun l900 =>
some (.inr ((l336 ++ [IntKind.wrap .i64 ((IntKind.wrap .i64 (x847 + x848)) - x632)]), (l336 ++ [IntKind.wrap .i64 ((IntKind.wrap .i64 (x847 + x848)) - x632)]).length, l900))))) (
some (.inl (IntKind.wrap .i64 (v637 + 1))))))) (
some (.inr (l336, n338, l339)))
def L27_2 (n : Nat) (x12 : Int) (l2 : List (Int × Int)) (x1 : Int) : (List (Int) × Nat × List (Int)) → Option ((List (Int) × Nat × List (Int)) ⊕ (List (Int) × Nat)) := fun (l336, n338, l339) =>
gd (inB (IntKind.wrap .i64 ((n338 : Int) - 1)) n338) (
ob (l336[(IntKind.wrap .i64 ((n338 : Int) - 1)).toNat]?) fun x632 =>
br (!decide (x632 = x12)) (
gd (inB (IntKind.wrap .i64 ((n338 : Int) - 1)) n338) (
ob (
lpN (L27_1 n l339 l2 x632 x1 x12 l336 n338) n 0) fun (l768, n770, l771) =>
some (.inl (l768, n770, l771)))) (
some (.inr (l336, n338))))
def F27 (n : Nat) (x1 : Int) (l2 : List (Int × Int)) (x6 : Nat) (l7 : List (Int)) (x11 : Int) (x12 : Int) : Option (List Int × Int) :=
ob (F23 n x1 l2 x6 l7) fun r15 =>
br (!decide (r15 = 0)) (
some ([], r15)) (
ob (
br (decide (x11 < 0)) (
some true) (
br (decide (x1 ≤ x11)) (
some true) (
ob (F86 n x6 x11) fun r52 =>
br (!r52) (
some true) (
br (decide (x12 < 0)) (
some true) (
br (decide (x1 ≤ x12)) (
some true) (
ob (F86 n x6 x12) fun r57 =>
some (!r57))))))) fun v48 =>
br (v48) (
some ([], 2)) (
ob (
lpN (L27_2 n x12 l2 x1) n ([x11], 1, l7)) fun (l625, n627) =>
some (l625, 0)))
def L18_1 (n : Nat) (l1 : List (Int)) (l5 : List (Int)) : Int → Option ((Int) ⊕ ((Unit) ⊕ (Unit))) := fun v11 =>
br (decide (v11 < (l1.length : Int))) (
gd (inB v11 l1.length) (
ob (l1[v11.toNat]?) fun x29 =>
gd (inB v11 l5.length) (
ob (l5[v11.toNat]?) fun x34 =>
br (!decide (x29 = x34)) (
some (.inr (.inl ()))) (
some (.inl (IntKind.wrap .i64 (v11 + 1))))))) (
some (.inr (.inr ())))
def F18 (n : Nat) (l1 : List (Int)) (l5 : List (Int)) : Option (Bool) :=
br (!decide ((l1.length : Int) = (l5.length : Int))) (
some false) (
ob (α := (Unit) ⊕ (Unit)) (
lpN (L18_1 n l1 l5) n 0) fun r38 => match r38 with
| .inl _ =>
some false
| .inr _ =>
some true)
def L5_1 (n : Nat) (x17 : Int) (x18 : Int) (x19 : Int) (x953 : Int) (l954 : List (Int × Int)) (x957 : Nat) (l1170 : List Int) : Int → Option ((Int) ⊕ ((Unit) ⊕ (Unit))) := fun v1176 =>
br (decide (v1176 < 2)) (
gd (inB v1176 2) (
ob ([(x17, x18, x19), (IntKind.wrap .i64 (((ui .u64 x17) % 20 : Nat) : Int), IntKind.wrap .i64 (((ui .u64 x18) % 12 : Nat) : Int), IntKind.wrap .i64 (((ui .u64 x19) % 12 : Nat) : Int))][v1176.toNat]?) fun (x1300, x1301, x1302) =>
ob (F24 n x953 l954 x957 l1170 x1300) fun (r1307, r1308, r1309) =>
ob (F25 n x953 l954 x957 l1170 x1300) fun (r1311, r1312, r1313) =>
ob (F26 n x953 l954 x957 l1170 x1301 x1302) fun (l1315, r1318) =>
ob (F27 n x953 l954 x957 l1170 x1301 x1302) fun (l1320, r1323) =>
ob (
br (!decide (r1307 = r1311)) (
some true) (
br (!decide (r1308 = r1312)) (
some true) (
br (!decide (r1309 = r1313)) (
some true) (
ob (F18 n l1315 l1320) fun r1335 =>
br (!r1335) (
some true) (
some (!decide (r1318 = r1323))))))) fun v1330 =>
br (v1330) (
some (.inr (.inl ()))) (
some (.inl (IntKind.wrap .i64 (v1176 + 1)))))) (
some (.inr (.inr ())))
def L5_2 (n : Nat) (l985 : List Int) (l13 : List (Int)) (x17 : Int) (x18 : Int) (x19 : Int) (x953 : Int) (l954 : List (Int × Int)) (x957 : Nat) : Int → Option ((Int) ⊕ ((Unit) ⊕ (Unit))) := fun v994 =>
br (decide (v994 < 2)) (
gd (inB v994 2) (
ob ([l985, ((l13.drop (0 : Int).toNat).take ((mi (l13.length : Int) (9 : Int) : Int).toNat - (0 : Int).toNat))][v994.toNat]?) fun l1170 =>
ob (α := (Unit) ⊕ (Unit)) (
lpN (L5_1 n x17 x18 x19 x953 l954 x957 l1170) n 0) fun r1341 => match r1341 with
| .inl _ =>
some (.inr (.inl ()))
| .inr _ =>
some (.inl (IntKind.wrap .i64 (v994 + 1))))) (
some (.inr (.inr ())))
def L5_3 (n : Nat) (v83 : Int) (l84 : List (Int × Int)) (v86 : Nat) (v87 : Int) (v88 : Nat) (v89 : Int) (l90 : List (Int × Int)) (v92 : Nat) (x12 : Nat) (l13 : List (Int)) (x17 : Int) (x18 : Int) (x19 : Int) : Int → Option ((Int) ⊕ ((Unit) ⊕ (Unit))) := fun v550 =>
br (decide (v550 < 3)) (
gd (inB v550 3) (
ob (([(v83, l84, v86), (v87, l84, v88), (v89, l90, v92)] : List (Int × List (Int × Int) × Nat))[v550.toNat]?) fun (x953, l954, x957) =>
ob (F11 n x953 l954 x957) fun (r961, r962, r963, r964, r965, r966, r967, r968, r969) =>
ob (F14 n r961 r962 r963 r964 r965 r966 r967 r968) fun (r972, r973) =>
gd (decide (ma r972 (1 : Int) ≠ 0)) (
ob (F16 n (Int.tmod (IntKind.wrap .i64 ((x12 : Nat) : Int)) (ma r972 (1 : Int)))) fun (r976, r977, r978, r979, r980, r981, r982, r983) =>
ob (F17 n x953 l954 x957 r976 r977 r978 r979 r980 r981 r982 r983) fun (l985, r989) =>
gd (okB 0 (mi (l13.length : Int) (9 : Int)) l13.length) (
ob (α := (Unit) ⊕ (Unit)) (
lpN (L5_2 n l985 l13 x17 x18 x19 x953 l954 x957) n 0) fun r1343 => match r1343 with
| .inl _ =>
some (.inr (.inl ()))
| .inr _ =>
some (.inl (IntKind.wrap .i64 (v550 + 1))))))) (
some (.inr (.inr ())))
def F5 (n : Nat) (x1 : Nat) (x2 : Nat) (x3 : Nat) (l4 : List (Nat × Nat)) (x8 : Nat) (x9 : Nat) (x10 : Int) (x11 : Nat) (x12 : Nat) (l13 : List (Int)) (x17 : Int) (x18 : Int) (x19 : Int) : Option (Bool) :=
ob (F8 n ) fun r23 =>
br (!r23) (
some false) (
ob (
ob (F28 n x1 x2 x3 l4) fun (r96, l97) =>
ob (F50 n r96 l97 x8) fun r102 =>
ob (F50 n r96 l97 18446744073709551615) fun r104 =>
ob (F51 n x9 x10 x11 r96 l97 r102) fun (r107, l108, r111) =>
ob (
ob (
ob (F52 n r107 l108) fun r137 =>
br (decide (r137 = 0)) (
ob (F53 n r111) fun r140 =>
some (decide (9 < r140))) (
some false)) fun v135 =>
br (v135) (
ob (F50 n r107 l108 r111) fun r145 =>
some r145) (
some r111)) fun v129 =>
some (r96, l97, r102, r96, r104, r107, l108, v129)) fun (v83, l84, v86, v87, v88, v89, l90, v92) =>
ob (α := (Unit) ⊕ (Unit)) (
lpN (L5_3 n v83 l84 v86 v87 v88 v89 l90 v92 x12 l13 x17 x18 x19) n 0) fun r1345 => match r1345 with
| .inl _ =>
some false
| .inr _ =>
some true)
end Go.Proofs.YtookeaakpiefjaaGreatDoor
end
