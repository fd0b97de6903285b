/- Texts of the abstract machine and of the walks, joined: T30W1. -/
import Derived.Test.YtookeaakpiefjaaGreatDoorTp4
section
namespace Go.Proofs.YtookeaakpiefjaaGreatDoor
open Go Go.Ab Go.Ab.W
set_option maxRecDepth 10000
set_option maxHeartbeats 4000000
attribute [local irreducible] Tm.at Trie.set Trie.get AMem.get AMem.set AMem.alloc AMem.ww AMem.kill
theorem t25 : TyI E30w.P 25 true 4 := ⟨by kernel_rfl, by kernel_rfl, by kernel_rfl⟩
theorem t28 : TyI E30w.P 28 true 3 := ⟨by kernel_rfl, by kernel_rfl, by kernel_rfl⟩
theorem z34 : zeroA E30w.P 34 = some (.agg #[.int .i64 0, .slice none 0 0]) := by kernel_rfl
theorem fa25_0 : ∀ b o, fieldAddrA E30w.P 25 (ptr b o) 0 = some (ptr b (o + 0)) := fun _ _ => by kernel_rfl
theorem t5 : TyI E30w.P 5 false 1 := ⟨by kernel_rfl, by kernel_rfl, by kernel_rfl⟩
theorem u5 : E30w.P.underlying 5 = some (.int .u8) := by kernel_rfl
theorem u3 : E30w.P.underlying 3 = some (.int .i64) := by kernel_rfl
theorem fa25_1 : ∀ b o, fieldAddrA E30w.P 25 (ptr b o) 1 = some (ptr b (o + 1)) := fun _ _ => by kernel_rfl
theorem bs34 : BdT E30w.P 34 (.agg #[.int .i64 0, .slice none 0 0]) [(0, 1), (1, 1)] := .mk' (by kernel_rfl) (by kernel_rfl)
theorem t34 : TyI E30w.P 34 true 2 := ⟨by kernel_rfl, by kernel_rfl, by kernel_rfl⟩
theorem fa34_0 : ∀ b o, fieldAddrA E30w.P 34 (ptr b o) 0 = some (ptr b (o + 0)) := fun _ _ => by kernel_rfl
theorem t3 : TyI E30w.P 3 false 1 := ⟨by kernel_rfl, by kernel_rfl, by kernel_rfl⟩
theorem fa25_2 : ∀ b o, fieldAddrA E30w.P 25 (ptr b o) 2 = some (ptr b (o + 2)) := fun _ _ => by kernel_rfl
theorem t22 : TyI E30w.P 22 false 1 := ⟨by kernel_rfl, by kernel_rfl, by kernel_rfl⟩
theorem u42 : E30w.P.underlying 42 = some (.int .u64) := by kernel_rfl
theorem fa25_3 : ∀ b o, fieldAddrA E30w.P 25 (ptr b o) 3 = some (ptr b (o + 3)) := fun _ _ => by kernel_rfl
theorem t23 : TyI E30w.P 23 false 1 := ⟨by kernel_rfl, by kernel_rfl, by kernel_rfl⟩
theorem u23 : E30w.P.underlying 23 = some (.slice 141) := by kernel_rfl
theorem s23 : SlT E30w.P 23 141 2 := SlT.of (by kernel_rfl)
theorem ar141 : ArT E30w.P 141 5 2 1 := ⟨by kernel_rfl, by kernel_rfl, by kernel_rfl⟩
theorem fa34_1 : ∀ b o, fieldAddrA E30w.P 34 (ptr b o) 1 = some (ptr b (o + 1)) := fun _ _ => by kernel_rfl
theorem t32 : TyI E30w.P 32 false 1 := ⟨by kernel_rfl, by kernel_rfl, by kernel_rfl⟩
theorem z43 : zeroA E30w.P 43 = some (.agg #[.int .i64 0, .int .i64 0]) := by kernel_rfl
theorem bs43 : BdT E30w.P 43 (.agg #[.int .i64 0, .int .i64 0]) [(0, 1), (1, 1)] := .mk' (by kernel_rfl) (by kernel_rfl)
theorem u32 : E30w.P.underlying 32 = some (.slice 43) := by kernel_rfl
theorem s32 : SlT E30w.P 32 43 2 := SlT.of (by kernel_rfl)
theorem z36 : zeroA E30w.P 36 = some (.agg #[.int .i64 0, .slice none 0 0, .int .u64 ((0 : Nat) : Int)]) := by kernel_rfl
theorem bs36 : BdT E30w.P 36 (.agg #[.int .i64 0, .slice none 0 0, .int .u64 ((0 : Nat) : Int)]) [(0, 2), (2, 1)] := .mk' (by kernel_rfl) (by kernel_rfl)
theorem fa28_0 : ∀ b o, fieldAddrA E30w.P 28 (ptr b o) 0 = some (ptr b (o + 0)) := fun _ _ => by kernel_rfl
theorem fa28_1 : ∀ b o, fieldAddrA E30w.P 28 (ptr b o) 1 = some (ptr b (o + 1)) := fun _ _ => by kernel_rfl
theorem ar43 : ArT E30w.P 43 3 2 1 := ⟨by kernel_rfl, by kernel_rfl, by kernel_rfl⟩
theorem fa28_2 : ∀ b o, fieldAddrA E30w.P 28 (ptr b o) 2 = some (ptr b (o + 2)) := fun _ _ => by kernel_rfl
theorem t26 : TyI E30w.P 26 false 1 := ⟨by kernel_rfl, by kernel_rfl, by kernel_rfl⟩
theorem s30 : SlT E30w.P 30 36 3 := SlT.of (by kernel_rfl)
theorem u30 : E30w.P.underlying 30 = some (.slice 36) := by kernel_rfl
theorem t36 : TyI E30w.P 36 true 3 := ⟨by kernel_rfl, by kernel_rfl, by kernel_rfl⟩
theorem fa36_0 : ∀ b o, fieldAddrA E30w.P 36 (ptr b o) 0 = some (ptr b (o + 0)) := fun _ _ => by kernel_rfl
theorem fa36_1 : ∀ b o, fieldAddrA E30w.P 36 (ptr b o) 1 = some (ptr b (o + 2)) := fun _ _ => by kernel_rfl
theorem z38 : zeroA E30w.P 38 = some (.agg #[.int .u64 ((0 : Nat) : Int), .int .u64 ((0 : Nat) : Int), .int .u64 ((0 : Nat) : Int), .int .u64 ((0 : Nat) : Int), .int .u64 ((0 : Nat) : Int), .int .u64 ((0 : Nat) : Int), .int .u64 ((0 : Nat) : Int), .int .u64 ((0 : Nat) : Int)]) := by kernel_rfl
theorem bs38 : BdT E30w.P 38 (.agg #[.int .u64 ((0 : Nat) : Int), .int .u64 ((0 : Nat) : Int), .int .u64 ((0 : Nat) : Int), .int .u64 ((0 : Nat) : Int), .int .u64 ((0 : Nat) : Int), .int .u64 ((0 : Nat) : Int), .int .u64 ((0 : Nat) : Int), .int .u64 ((0 : Nat) : Int)]) [(0, 1), (1, 1), (2, 1), (3, 1), (4, 1), (5, 1), (6, 1), (7, 1)] := .mk' (by kernel_rfl) (by kernel_rfl)
theorem t38 : TyI E30w.P 38 true 8 := ⟨by kernel_rfl, by kernel_rfl, by kernel_rfl⟩
theorem u49 : E30w.P.underlying 49 = some (.slice 3) := by kernel_rfl
theorem z49 : zeroA E30w.P 49 = some (.slice none 0 0) := by kernel_rfl
theorem s52 : SlT E30w.P 52 49 1 := SlT.of (by kernel_rfl)
theorem s49 : SlT E30w.P 49 3 1 := SlT.of (by kernel_rfl)
theorem z3 : zeroA E30w.P 3 = some (.int .i64 0) := by kernel_rfl
theorem u52 : E30w.P.underlying 52 = some (.slice 49) := by kernel_rfl
theorem z118 : zeroA E30w.P 118 = some (.agg #[.bool false, .slice none 0 0]) := by kernel_rfl
theorem u26 : E30w.P.underlying 26 = some (.int .u64) := by kernel_rfl
theorem bs118 : BdT E30w.P 118 (.agg #[.bool false, .slice none 0 0]) [(0, 1), (1, 1)] := .mk' (by kernel_rfl) (by kernel_rfl)
theorem t118 : TyI E30w.P 118 true 2 := ⟨by kernel_rfl, by kernel_rfl, by kernel_rfl⟩
theorem fa118_1 : ∀ b o, fieldAddrA E30w.P 118 (ptr b o) 1 = some (ptr b (o + 1)) := fun _ _ => by kernel_rfl
theorem t49 : TyI E30w.P 49 false 1 := ⟨by kernel_rfl, by kernel_rfl, by kernel_rfl⟩
theorem fa118_0 : ∀ b o, fieldAddrA E30w.P 118 (ptr b o) 0 = some (ptr b (o + 0)) := fun _ _ => by kernel_rfl
theorem t4 : TyI E30w.P 4 false 1 := ⟨by kernel_rfl, by kernel_rfl, by kernel_rfl⟩
theorem ar38 : ArT E30w.P 38 26 8 1 := ⟨by kernel_rfl, by kernel_rfl, by kernel_rfl⟩
theorem u4 : E30w.P.underlying 4 = some (.bool) := by kernel_rfl
theorem u22 : E30w.P.underlying 22 = some (.int .u16) := by kernel_rfl
theorem z62 : zeroA E30w.P 62 = some (.agg #[.slice none 0 0, .slice none 0 0]) := by kernel_rfl
theorem bs62 : BdT E30w.P 62 (.agg #[.slice none 0 0, .slice none 0 0]) [(0, 1), (1, 1)] := .mk' (by kernel_rfl) (by kernel_rfl)
theorem ar62 : ArT E30w.P 62 49 2 1 := ⟨by kernel_rfl, by kernel_rfl, by kernel_rfl⟩
theorem z53 : zeroA E30w.P 53 = some (.agg #[.int .i64 0, .int .i64 0, .int .i64 0]) := by kernel_rfl
theorem bs53 : BdT E30w.P 53 (.agg #[.int .i64 0, .int .i64 0, .int .i64 0]) [(0, 1), (1, 1), (2, 1)] := .mk' (by kernel_rfl) (by kernel_rfl)
theorem z63 : zeroA E30w.P 63 = some (.agg #[.int .i64 0, .int .i64 0, .int .i64 0, .int .i64 0, .int .i64 0, .int .i64 0]) := by kernel_rfl
theorem bs63 : BdT E30w.P 63 (.agg #[.int .i64 0, .int .i64 0, .int .i64 0, .int .i64 0, .int .i64 0, .int .i64 0]) [(0, 3), (3, 3)] := .mk' (by kernel_rfl) (by kernel_rfl)
theorem ar63 : ArT E30w.P 63 53 2 3 := ⟨by kernel_rfl, by kernel_rfl, by kernel_rfl⟩
theorem t53 : TyI E30w.P 53 true 3 := ⟨by kernel_rfl, by kernel_rfl, by kernel_rfl⟩
theorem ar53 : ArT E30w.P 53 3 3 1 := ⟨by kernel_rfl, by kernel_rfl, by kernel_rfl⟩
theorem t43 : TyI E30w.P 43 true 2 := ⟨by kernel_rfl, by kernel_rfl, by kernel_rfl⟩
theorem u9 : E30w.P.underlying 9 = some (.string) := by kernel_rfl
theorem z133 : zeroA E30w.P 133 = some (.agg #[.slice none 0 0]) := by kernel_rfl
theorem u131 : E30w.P.underlying 131 = some (.slice 3) := by kernel_rfl
theorem s131 : SlT E30w.P 131 3 1 := SlT.of (by kernel_rfl)
theorem bs133 : BdT E30w.P 133 (.agg #[.slice none 0 0]) [(0, 1)] := .mk' (by kernel_rfl) (by kernel_rfl)
theorem t133 : TyI E30w.P 133 true 1 := ⟨by kernel_rfl, by kernel_rfl, by kernel_rfl⟩
theorem fa133_0 : ∀ b o, fieldAddrA E30w.P 133 (ptr b o) 0 = some (ptr b (o + 0)) := fun _ _ => by kernel_rfl
theorem t131 : TyI E30w.P 131 false 1 := ⟨by kernel_rfl, by kernel_rfl, by kernel_rfl⟩
theorem f28_ok (n : Nat) (x1 : Nat) (x2 : Nat) (x3 : Nat) (l4 : List (Nat × Nat)) (a5 : Option Addr) (c6 : Nat) (r : Int × List (Int × Int)) (hF : F28 n x1 x2 x3 l4 = some r) (m : AMem) (h7 : Rd m a5 c6 2 l4.length (l4.map (eP (eN .u8) (eN .u8)))) :
  CallA E30w 28 [.agg #[.int .u8 ((x1 : Nat) : Int), .int .u8 ((x2 : Nat) : Int), .int .u16 ((x3 : Nat) : Int), .slice a5 l4.length c6]] m (fun v m' => ∃ x : Option Addr × Nat, v = .agg #[.int .i64 r.1, .slice x.1 x.2 x.2] ∧ Hp m m' [.sl x.1 2 x.2 (r.2.map (eP (eI .i64) (eI .i64)))]) := by
 unfold F28 at hF
 refine call_wk (m0 := m) (ps := [.rd a5 c6 2 l4.length (l4.map (eP (eN .u8) (eN .u8)))]) (N := 137) (rs := [.cell 2 34]) rfl Tryz.func28 rfl rfl rfl ((Hp.start m).inn rfl h7) <| Wk.seq <| Wk.region <| Wo.x (o_bx rfl) gn rfl fun b8 => ?_
 refine Wo.x (o_al z34 rfl) gn rfl fun b9 => ?_
 refine Wo.nil <| At.tn <| Wk.seq <| Wk.draw (by kernel_rfl) <| Wo.od (o_fa (r := ptr b8 0) rfl (fa25_0 _ _)) rfl <| Wo.od (o_ld (k := 1) t5 rfl rfl rfl) rfl <| Wo.od (o_bi rfl rfl (ub_rem _ _ (by decide))) rfl <| Wo.od (o_cv rfl (cv_i (by rw [u5]; rfl) u3)) rfl <| Wo.od (o_bi rfl rfl (bin_add _ _ _)) rfl <| Wo.od (o_fa (r := ptr b8 1) rfl (fa25_1 _ _)) rfl <| Wo.od (o_ld (k := 1) t5 rfl rfl rfl) rfl <| Wo.od (o_bi rfl rfl (ub_rem _ _ (by decide))) rfl <| Wo.od (o_cv rfl (cv_i (by rw [u5]; rfl) u3)) rfl ?_
 refine Wo.od (o_bi rfl rfl (bin_add _ _ _)) rfl <| Wo.od (o_as rfl) rfl <| Wo.od (o_as rfl) rfl <| Wo.nil <| At.tn <| Wk.seq <| Wk.region <| Wo.od (o_mv rfl) rfl <| Wo.od (o_mv rfl) rfl ?_
 obtain ⟨y10, h11, hF⟩ := ob_some hF
 refine Wo.od (o_bi rfl rfl ((bin_mul _ _ _).trans (cI h11))) rfl <| Wo.od (o_bd rfl z34 rfl (bd_s bs34 rfl rfl rfl)) rfl <| Wo.x (o_al z34 rfl) gn rfl fun b12 => ?_
 refine Wo.o0 (o_st (k := 0) t34 rfl rfl rfl rfl rfl) <| Wo.nil <| At.tn <| Wk.seq <| Wk.region <| Wo.od (o_as rfl) rfl <| Wo.nil <| At.tn <| Wk.seq <| Wk.seq <| Wk.region <| Wo.od (o_as rfl) rfl <| Wo.nil <| At.tn <| Wk.block ?_
 obtain ⟨l2020, h3018, hF⟩ := ob_some hF
 refine Wk.cut (G := (fun (r : List (Int × Int)) (g : Option Addr) => match r, g with | l2020, a2021 => ⟨(.exit 0), [(2, ptr b9 0), (5, ptr b12 0)], [.obj b9 (.cells [.int .i64 0, .slice none 0 0] .own), .obj b12 (.cells [.int .i64 y10, .slice a2021 l2020.length l2020.length] .own), .sl a2021 2 l2020.length (l2020.map (eP (eI .i64) (eI .i64)))]⟩) l2020) ?_ ?_
 ·refine Wk.weak (fs' := [(1, ptr b8 0), (2, ptr b9 0), (3, .int .i64 (IntKind.wrap .i64 (1 + (IntKind.wrap .i64 ((x1 % 4 : Nat) : Int))))), (5, ptr b12 0), (6, .int .i64 0), (7, .int .i64 0)]) (ps' := [.obj b8 (.cells [.int .u8 ((x1 : Nat) : Int), .int .u8 ((x2 : Nat) : Int), .int .u16 ((x3 : Nat) : Int), .slice a5 l4.length c6] .own), .rd a5 c6 2 l4.length (l4.map (eP (eN .u8) (eN .u8))), .obj b9 (.cells [.int .i64 0, .slice none 0 0] .own), .obj b12 (.cells [.int .i64 y10, .slice none ([] : List (Int × Int)).length ([] : List (Int × Int)).length] .own), .sl none 2 ([] : List (Int × Int)).length (([] : List (Int × Int)).map (eP (eI .i64) (eI .i64)))]) (sc rfl (sc rfl (sc rfl (sc rfl (sc rfl (sc rfl sn)))))) (Turn.trans (Turn.nil 2 rfl) (Turn.picks [3, 4, 2, 1, 0] rfl rfl)) ?_
  refine Wk.loop (σ := Int × List (Int × Int) × Int × Int) (ρ := List (Int × Int)) (γ := Option Addr) (δ := fun _ => Option Addr) _ (fun (s : Int × List (Int × Int) × Int × Int) (g : Option Addr) => match s, g with | (v1014, l1015, v1017, v1018), a1016 => ⟨.normal, [(1, ptr b8 0), (2, ptr b9 0), (3, .int .i64 v1014), (5, ptr b12 0), (6, .int .i64 v1017), (7, .int .i64 v1018)], [.obj b8 (.cells [.int .u8 ((x1 : Nat) : Int), .int .u8 ((x2 : Nat) : Int), .int .u16 ((x3 : Nat) : Int), .slice a5 l4.length c6] .own), .rd a5 c6 2 l4.length (l4.map (eP (eN .u8) (eN .u8))), .obj b9 (.cells [.int .i64 0, .slice none 0 0] .own), .obj b12 (.cells [.int .i64 y10, .slice a1016 l1015.length l1015.length] .own), .sl a1016 2 l1015.length (l1015.map (eP (eI .i64) (eI .i64)))]⟩) (fun (r : List (Int × Int)) (g : Option Addr) => match r, g with | l2020, a2021 => ⟨(.exit 0), [(2, ptr b9 0), (5, ptr b12 0)], [.obj b9 (.cells [.int .i64 0, .slice none 0 0] .own), .obj b12 (.cells [.int .i64 y10, .slice a2021 l2020.length l2020.length] .own), .sl a2021 2 l2020.length (l2020.map (eP (eI .i64) (eI .i64)))]⟩) ?_ (fun _ _ => rfl) (fun r d => by intro e; cases e) _ _ _ h3018 none
  clear hF h3018
  rintro ⟨v1014, l1015, v1017, v1018⟩ a1016 r hF
  unfold L28_3 at hF
  refine Wk.seq <| Wk.seq <| Wk.region <| Wo.od (o_mv rfl) rfl <| Wo.od (o_fa (r := ptr b12 0) rfl (fa34_0 _ _)) rfl <| Wo.od (o_ld (k := 3) t3 rfl rfl rfl) rfl <| Wo.od (o_bi rfl rfl (bin_lss _ _ _)) rfl <| Wo.nil <| At.tn ?_
  rcases br_some hF with ⟨h2022, hF⟩ | ⟨h2022, hF⟩
  ·refine Wk.condT rfl h2022 <| Wk.skip <| At.tn <| Wk.seq <| Wk.block <| Wk.seq <| Wk.region <| Wo.od (o_mv rfl) rfl <| Wo.od (o_bi rfl rfl (bin_add _ _ _)) rfl <| Wo.od (o_as rfl) rfl <| Wo.nil <| At.tn <| Wk.block ?_
   obtain ⟨r3017, h3016, hF⟩ := ob_some hF
   refine Wk.cut (G := (fun (r : List (Int × Int) × Int) (g : Option Addr) => match r, g with | (l2687, v2689), a2688 => ⟨(.exit 2), [(1, ptr b8 0), (2, ptr b9 0), (3, .int .i64 v1014), (5, ptr b12 0), (6, .int .i64 v2689), (7, .int .i64 v1018)], [.obj b8 (.cells [.int .u8 ((x1 : Nat) : Int), .int .u8 ((x2 : Nat) : Int), .int .u16 ((x3 : Nat) : Int), .slice a5 l4.length c6] .own), .rd a5 c6 2 l4.length (l4.map (eP (eN .u8) (eN .u8))), .obj b9 (.cells [.int .i64 0, .slice none 0 0] .own), .obj b12 (.cells [.int .i64 y10, .slice a2688 l2687.length l2687.length] .own), .sl a2688 2 l2687.length (l2687.map (eP (eI .i64) (eI .i64)))]⟩) r3017) ?_ ?_
   ·refine Wk.weak (fs' := [(1, ptr b8 0), (2, ptr b9 0), (3, .int .i64 v1014), (5, ptr b12 0), (6, .int .i64 v1017), (7, .int .i64 v1018), (8, .int .i64 (IntKind.wrap .i64 (v1018 + 1)))]) (ps' := [.obj b8 (.cells [.int .u8 ((x1 : Nat) : Int), .int .u8 ((x2 : Nat) : Int), .int .u16 ((x3 : Nat) : Int), .slice a5 l4.length c6] .own), .rd a5 c6 2 l4.length (l4.map (eP (eN .u8) (eN .u8))), .obj b9 (.cells [.int .i64 0, .slice none 0 0] .own), .obj b12 (.cells [.int .i64 y10, .slice a1016 l1015.length l1015.length] .own), .sl a1016 2 l1015.length (l1015.map (eP (eI .i64) (eI .i64)))]) (sc rfl (sc rfl (sc rfl (sc rfl (sc rfl (sc rfl (sc rfl sn))))))) (Turn.picks [0, 1, 2, 3, 4] rfl rfl) ?_
    refine Wk.loop (σ := List (Int × Int) × Int × Int) (ρ := List (Int × Int) × Int) (γ := Option Addr) (δ := fun _ => Option Addr) _ (fun (s : List (Int × Int) × Int × Int) (g : Option Addr) => match s, g with | (l2353, v2355, v2356), a2354 => ⟨.normal, [(1, ptr b8 0), (2, ptr b9 0), (3, .int .i64 v1014), (5, ptr b12 0), (6, .int .i64 v2355), (7, .int .i64 v1018), (8, .int .i64 v2356)], [.obj b8 (.cells [.int .u8 ((x1 : Nat) : Int), .int .u8 ((x2 : Nat) : Int), .int .u16 ((x3 : Nat) : Int), .slice a5 l4.length c6] .own), .rd a5 c6 2 l4.length (l4.map (eP (eN .u8) (eN .u8))), .obj b9 (.cells [.int .i64 0, .slice none 0 0] .own), .obj b12 (.cells [.int .i64 y10, .slice a2354 l2353.length l2353.length] .own), .sl a2354 2 l2353.length (l2353.map (eP (eI .i64) (eI .i64)))]⟩) (fun (r : List (Int × Int) × Int) (g : Option Addr) => match r, g with | (l2687, v2689), a2688 => ⟨(.exit 2), [(1, ptr b8 0), (2, ptr b9 0), (3, .int .i64 v1014), (5, ptr b12 0), (6, .int .i64 v2689), (7, .int .i64 v1018)], [.obj b8 (.cells [.int .u8 ((x1 : Nat) : Int), .int .u8 ((x2 : Nat) : Int), .int .u16 ((x3 : Nat) : Int), .slice a5 l4.length c6] .own), .rd a5 c6 2 l4.length (l4.map (eP (eN .u8) (eN .u8))), .obj b9 (.cells [.int .i64 0, .slice none 0 0] .own), .obj b12 (.cells [.int .i64 y10, .slice a2688 l2687.length l2687.length] .own), .sl a2688 2 l2687.length (l2687.map (eP (eI .i64) (eI .i64)))]⟩) ?_ (fun _ _ => rfl) (fun r d => by intro e; cases e) _ _ _ h3016 a1016
    clear hF h3016
    rintro ⟨l2353, v2355, v2356⟩ a2354 r hF
    unfold L28_2 at hF
    refine Wk.seq <| Wk.seq <| Wk.region <| Wo.od (o_mv rfl) rfl <| Wo.od (o_fa (r := ptr b12 0) rfl (fa34_0 _ _)) rfl <| Wo.od (o_ld (k := 3) t3 rfl rfl rfl) rfl <| Wo.od (o_bi rfl rfl (bin_lss _ _ _)) rfl <| Wo.nil <| At.tn ?_
    rcases br_some hF with ⟨h2690, hF⟩ | ⟨h2690, hF⟩
    ·refine Wk.condT rfl h2690 <| Wk.skip <| At.tn <| Wk.seq ?_
     obtain ⟨r3015, h3014, hF⟩ := ob_some hF
     refine Wk.cut (G := (fun (r : List (Int × Int) × Int) (g : Option Addr) => match r, g with | (l2851, v2853), a2852 => ⟨.normal, [(1, ptr b8 0), (2, ptr b9 0), (3, .int .i64 v1014), (5, ptr b12 0), (6, .int .i64 v2853), (7, .int .i64 v1018), (8, .int .i64 v2356)], [.obj b8 (.cells [.int .u8 ((x1 : Nat) : Int), .int .u8 ((x2 : Nat) : Int), .int .u16 ((x3 : Nat) : Int), .slice a5 l4.length c6] .own), .rd a5 c6 2 l4.length (l4.map (eP (eN .u8) (eN .u8))), .obj b9 (.cells [.int .i64 0, .slice none 0 0] .own), .obj b12 (.cells [.int .i64 y10, .slice a2852 l2851.length l2851.length] .own), .sl a2852 2 l2851.length (l2851.map (eP (eI .i64) (eI .i64)))]⟩) r3015) ?_ ?_
     ·clear hF
      revert r3015
      intro r hF
      refine Wk.block <| Wk.seq ?_
      obtain ⟨v2857, h2861, hF⟩ := ob_some hF
      refine Wk.cut (G := (fun (r : Bool) (g : Unit) => match r, g with | v2857, _ => ⟨.normal, [(1, ptr b8 0), (2, ptr b9 0), (3, .int .i64 v1014), (5, ptr b12 0), (6, .int .i64 v2355), (7, .int .i64 v1018), (8, .int .i64 v2356), (9, .bool v2857)], [.obj b8 (.cells [.int .u8 ((x1 : Nat) : Int), .int .u8 ((x2 : Nat) : Int), .int .u16 ((x3 : Nat) : Int), .slice a5 l4.length c6] .own), .rd a5 c6 2 l4.length (l4.map (eP (eN .u8) (eN .u8))), .obj b9 (.cells [.int .i64 0, .slice none 0 0] .own), .obj b12 (.cells [.int .i64 y10, .slice a2354 l2353.length l2353.length] .own), .sl a2354 2 l2353.length (l2353.map (eP (eI .i64) (eI .i64)))]⟩) v2857) ?_ ?_
      ·clear hF
       revert v2857
       intro r hF
       refine Wk.region <| Wo.od (o_mv rfl) rfl <| Wo.od (o_mv rfl) rfl <| Wo.od (o_mv rfl) rfl <| Wo.od (o_bi rfl rfl (bin_add _ _ _)) rfl <| Wo.od (o_bi rfl rfl (bin_eql _ _ _)) rfl <| Wo.od (o_mv rfl) rfl ?_
       rcases br_some hF with ⟨h2858, hF⟩ | ⟨h2858, hF⟩
       ·refine Wo.s (gg rfl rfl (eTF h2858)) rfl <| Wo.s (gg rfl rfl (eTF h2858)) rfl <| Wo.s (gg rfl rfl (eTF h2858)) rfl <| Wo.s (gg rfl rfl (eTF h2858)) rfl <| Wo.s (gg rfl rfl (eTF h2858)) rfl <| Wo.s (gu rfl rfl) rfl <| Wo.s (gu rfl rfl) rfl <| Wo.s (gu rfl rfl) rfl <| Wo.s (gu rfl rfl) rfl <| Wo.s (gg rfl rfl (eTF h2858)) rfl ?_
        refine Wo.od (o_pt rfl h2858 rfl) rfl <| Wo.od (o_as rfl) rfl <| Wo.nil ?_
        cases hF
        exact At.en () rfl (sc rfl (sc rfl (sc rfl (sc rfl (sc rfl (sc rfl (sc rfl (sc rfl sn)))))))) (Turn.picks [0, 1, 2, 3, 4] rfl rfl)
       ·refine Wo.og (o_mv rfl) (gg rfl rfl (eFF h2858)) rfl <| Wo.og (o_mv rfl) (gg rfl rfl (eFF h2858)) rfl <| Wo.og (o_bi rfl rfl (bin_add _ _ _)) (gg rfl rfl (eFF h2858)) rfl <| Wo.og (o_bi rfl rfl (bin_eql _ _ _)) (gg rfl rfl (eFF h2858)) rfl <| Wo.og (o_mv rfl) (gg rfl rfl (eFF h2858)) rfl ?_
        rcases br_some hF with ⟨h2859, hF⟩ | ⟨h2859, hF⟩
        ·refine Wo.og (o_mv rfl) (gg rfl rfl (eTT h2859)) rfl <| Wo.og (o_mv rfl) (gg rfl rfl (eTT h2859)) rfl ?_
         obtain ⟨h2860, hF⟩ := gd_some hF
         refine Wo.og (o_bi rfl rfl (ib_rem _ _ h2860)) (gg rfl rfl (eTT h2859)) rfl <| Wo.og (o_bi rfl rfl (ib_neq _ _)) (gg rfl rfl (eTT h2859)) rfl <| Wo.og (o_pt rfl h2859 rfl) (gg rfl rfl (eFF h2858)) rfl <| Wo.od (o_pf rfl h2858 rfl) rfl <| Wo.od (o_as rfl) rfl <| Wo.nil ?_
         cases hF
         exact At.en () rfl (sc rfl (sc rfl (sc rfl (sc rfl (sc rfl (sc rfl (sc rfl (sc rfl sn)))))))) (Turn.picks [0, 1, 2, 3, 4] rfl rfl)
        ·refine Wo.s (gg rfl rfl (eFT h2859)) rfl <| Wo.s (gg rfl rfl (eFT h2859)) rfl <| Wo.s (gg rfl rfl (eFT h2859)) rfl <| Wo.s (gg rfl rfl (eFT h2859)) rfl <| Wo.og (o_pf rfl h2859 rfl) (gg rfl rfl (eFF h2858)) rfl <| Wo.od (o_pf rfl h2858 rfl) rfl <| Wo.od (o_as rfl) rfl <| Wo.nil ?_
         cases hF
         exact At.en () rfl (sc rfl (sc rfl (sc rfl (sc rfl (sc rfl (sc rfl (sc rfl (sc rfl sn)))))))) (Turn.picks [0, 1, 2, 3, 4] rfl rfl)
      ·clear h2861
       rintro ⟨⟩
       refine At.tn <| Wk.seq ?_
       obtain ⟨r2914, h2913, hF⟩ := ob_some hF
       refine Wk.cut (G := (fun (r : Int × Bool) (g : Unit) => match r, g with | (v2887, v2888), _ => ⟨.normal, [(1, ptr b8 0), (2, ptr b9 0), (3, .int .i64 v1014), (5, ptr b12 0), (6, .int .i64 v2887), (7, .int .i64 v1018), (8, .int .i64 v2356), (9, .bool v2888)], [.obj b8 (.cells [.int .u8 ((x1 : Nat) : Int), .int .u8 ((x2 : Nat) : Int), .int .u16 ((x3 : Nat) : Int), .slice a5 l4.length c6] .own), .rd a5 c6 2 l4.length (l4.map (eP (eN .u8) (eN .u8))), .obj b9 (.cells [.int .i64 0, .slice none 0 0] .own), .obj b12 (.cells [.int .i64 y10, .slice a2354 l2353.length l2353.length] .own), .sl a2354 2 l2353.length (l2353.map (eP (eI .i64) (eI .i64)))]⟩) r2914) ?_ ?_
       ·clear hF
        revert r2914
        intro r hF
        refine Wk.seq <| Wk.region <| Wo.od (o_mv rfl) rfl <| Wo.nil <| At.tn ?_
        rcases br_some hF with ⟨h2889, hF⟩ | ⟨h2889, hF⟩
        ·refine Wk.condT rfl h2889 <| Wk.seq ?_
         obtain ⟨v2900, h2911, hF⟩ := ob_some hF
         refine Wk.cut (G := (fun (r : Bool) (g : Unit) => match r, g with | v2900, _ => ⟨.normal, [(1, ptr b8 0), (2, ptr b9 0), (3, .int .i64 v1014), (5, ptr b12 0), (6, .int .i64 v2355), (7, .int .i64 v1018), (8, .int .i64 v2356), (9, .bool v2900)], [.obj b8 (.cells [.int .u8 ((x1 : Nat) : Int), .int .u8 ((x2 : Nat) : Int), .int .u16 ((x3 : Nat) : Int), .slice a5 l4.length c6] .own), .rd a5 c6 2 l4.length (l4.map (eP (eN .u8) (eN .u8))), .obj b9 (.cells [.int .i64 0, .slice none 0 0] .own), .obj b12 (.cells [.int .i64 y10, .slice a2354 l2353.length l2353.length] .own), .sl a2354 2 l2353.length (l2353.map (eP (eI .i64) (eI .i64)))]⟩) v2900) ?_ ?_
         ·clear hF
          revert v2900
          intro r hF
          refine Wk.seq ?_
          obtain ⟨v2904, h2908, hF⟩ := ob_some hF
          refine Wk.cut (G := (fun (r : Bool) (g : Unit) => match r, g with | v2904, _ => ⟨.normal, [(1, ptr b8 0), (2, ptr b9 0), (3, .int .i64 v1014), (5, ptr b12 0), (6, .int .i64 v2355), (7, .int .i64 v1018), (8, .int .i64 v2356), (9, .bool v2857), (72, .bool v2904)], [.obj b8 (.cells [.int .u8 ((x1 : Nat) : Int), .int .u8 ((x2 : Nat) : Int), .int .u16 ((x3 : Nat) : Int), .slice a5 l4.length c6] .own), .rd a5 c6 2 l4.length (l4.map (eP (eN .u8) (eN .u8))), .obj b9 (.cells [.int .i64 0, .slice none 0 0] .own), .obj b12 (.cells [.int .i64 y10, .slice a2354 l2353.length l2353.length] .own), .sl a2354 2 l2353.length (l2353.map (eP (eI .i64) (eI .i64)))]⟩) v2904) ?_ ?_
          ·clear hF
           revert v2904
           intro r hF
           refine Wk.region <| Wo.od (o_mv rfl) rfl <| Wo.od (o_bi rfl rfl (ib_rem _ _ (by decide))) rfl <| Wo.od (o_bi rfl rfl (bin_eql _ _ _)) rfl <| Wo.od (o_mv rfl) rfl ?_
           rcases br_some hF with ⟨h2905, hF⟩ | ⟨h2905, hF⟩
           ·refine Wo.og (o_fa (r := ptr b8 2) rfl (fa25_2 _ _)) (gg rfl rfl (eTT h2905)) rfl <| Wo.og (o_ld (k := 0) t22 rfl rfl rfl) (gg rfl rfl (eTT h2905)) rfl <| Wo.og (o_mv rfl) (gg rfl rfl (eTT h2905)) rfl <| Wo.og (o_bi rfl rfl (ib_quo _ _ (by decide))) (gg rfl rfl (eTT h2905)) rfl <| Wo.og (o_bi rfl rfl (ib_rem _ _ (by decide))) (gg rfl rfl (eTT h2905)) rfl <| Wo.og (o_cv rfl (cv_u (by rw [u3]; rfl) u42 rfl)) (gg rfl rfl (eTT h2905)) rfl ?_
            obtain ⟨y2906, h2907, hF⟩ := ob_some hF
            refine Wo.og (o_bi rfl rfl ((ub_shr _ _ (nn _)).trans (cN h2907))) (gg rfl rfl (eTT h2905)) rfl <| Wo.og (o_bi rfl rfl (ub_and rfl _ _)) (gg rfl rfl (eTT h2905)) rfl <| Wo.og (o_bi rfl rfl (ub_eql _ _)) (gg rfl rfl (eTT h2905)) rfl <| Wo.od (o_pt rfl h2905 rfl) rfl <| Wo.nil ?_
            cases hF
            exact At.en () rfl (sc rfl (sc rfl (sc rfl (sc rfl (sc rfl (sc rfl (sc rfl (sc rfl (sc rfl sn))))))))) (Turn.picks [0, 1, 2, 3, 4] rfl rfl)
           ·refine Wo.s (gg rfl rfl (eFT h2905)) rfl <| Wo.s (gg rfl rfl (eFT h2905)) rfl <| Wo.s (gg rfl rfl (eFT h2905)) rfl <| Wo.s (gg rfl rfl (eFT h2905)) rfl <| Wo.s (gg rfl rfl (eFT h2905)) rfl <| Wo.s (gg rfl rfl (eFT h2905)) rfl <| Wo.s (gg rfl rfl (eFT h2905)) rfl <| Wo.s (gg rfl rfl (eFT h2905)) rfl <| Wo.s (gg rfl rfl (eFT h2905)) rfl <| Wo.od (o_pf rfl h2905 rfl) rfl ?_
            refine Wo.nil ?_
            cases hF
            exact At.en () rfl (sc rfl (sc rfl (sc rfl (sc rfl (sc rfl (sc rfl (sc rfl (sc rfl (sc rfl sn))))))))) (Turn.picks [0, 1, 2, 3, 4] rfl rfl)
          ·clear h2908
           rintro ⟨⟩
           refine At.tn ?_
           rcases br_some hF with ⟨h2910, hF⟩ | ⟨h2910, hF⟩
           ·refine Wk.condT rfl h2910 <| Wk.region <| Wo.od (o_as rfl) rfl <| Wo.nil ?_
            cases hF
            exact At.en () rfl (sc rfl (sc rfl (sc rfl (sc rfl (sc rfl (sc rfl (sc rfl (sc rfl sn)))))))) (Turn.picks [0, 1, 2, 3, 4] rfl rfl)
           ·refine Wk.condF rfl h2910 <| Wk.skip ?_
            have hr := Option.some.inj hF
            subst r
            exact At.en () rfl (sc rfl (sc rfl (sc rfl (sc rfl (sc rfl (sc rfl (sc rfl (sc rfl sn)))))))) (Turn.picks [0, 1, 2, 3, 4] rfl rfl)
         ·clear h2911
          rintro ⟨⟩
          refine At.tn <| Wk.region <| Wo.od (o_mv rfl) rfl <| Wo.od (o_bi rfl rfl (bin_add _ _ _)) rfl <| Wo.od (o_as rfl) rfl <| Wo.nil ?_
          cases hF
          exact At.en () rfl (sc rfl (sc rfl (sc rfl (sc rfl (sc rfl (sc rfl (sc rfl (sc rfl sn)))))))) (Turn.picks [0, 1, 2, 3, 4] rfl rfl)
        ·refine Wk.condF rfl h2889 <| Wk.skip ?_
         cases hF
         exact At.en () rfl (sc rfl (sc rfl (sc rfl (sc rfl (sc rfl (sc rfl (sc rfl (sc rfl sn)))))))) (Turn.picks [0, 1, 2, 3, 4] rfl rfl)
       ·clear h2913
        obtain ⟨v2887, v2888⟩ := r2914
        rintro ⟨⟩
        refine At.tn <| Wk.seq <| Wk.seq <| Wk.region <| Wo.od (o_as rfl) rfl <| Wo.nil <| At.tn <| Wk.block ?_
        obtain ⟨v2964, h3008, hF⟩ := ob_some hF
        refine Wk.cut (G := (fun (r : Bool) (g : Unit) => match r, g with | v2964, _ => ⟨(.exit 4), [(1, ptr b8 0), (2, ptr b9 0), (3, .int .i64 v1014), (5, ptr b12 0), (6, .int .i64 v2887), (7, .int .i64 v1018), (8, .int .i64 v2356), (9, .bool v2964)], [.obj b8 (.cells [.int .u8 ((x1 : Nat) : Int), .int .u8 ((x2 : Nat) : Int), .int .u16 ((x3 : Nat) : Int), .slice a5 l4.length c6] .own), .rd a5 c6 2 l4.length (l4.map (eP (eN .u8) (eN .u8))), .obj b9 (.cells [.int .i64 0, .slice none 0 0] .own), .obj b12 (.cells [.int .i64 y10, .slice a2354 l2353.length l2353.length] .own), .sl a2354 2 l2353.length (l2353.map (eP (eI .i64) (eI .i64)))]⟩) v2964) ?_ ?_
        ·refine Wk.weak (fs' := [(1, ptr b8 0), (2, ptr b9 0), (3, .int .i64 v1014), (5, ptr b12 0), (6, .int .i64 v2887), (7, .int .i64 v1018), (8, .int .i64 v2356), (9, .bool v2888), (10, .int .i64 0)]) (ps' := [.obj b8 (.cells [.int .u8 ((x1 : Nat) : Int), .int .u8 ((x2 : Nat) : Int), .int .u16 ((x3 : Nat) : Int), .slice a5 l4.length c6] .own), .rd a5 c6 2 l4.length (l4.map (eP (eN .u8) (eN .u8))), .obj b9 (.cells [.int .i64 0, .slice none 0 0] .own), .obj b12 (.cells [.int .i64 y10, .slice a2354 l2353.length l2353.length] .own), .sl a2354 2 l2353.length (l2353.map (eP (eI .i64) (eI .i64)))]) (sc rfl (sc rfl (sc rfl (sc rfl (sc rfl (sc rfl (sc rfl (sc rfl (sc rfl sn))))))))) (Turn.picks [0, 1, 2, 3, 4] rfl rfl) ?_
         refine Wk.loop (σ := Bool × Int) (ρ := Bool) (γ := Unit) (δ := fun _ => Unit) _ (fun (s : Bool × Int) (g : Unit) => match s, g with | (v2917, v2918), _ => ⟨.normal, [(1, ptr b8 0), (2, ptr b9 0), (3, .int .i64 v1014), (5, ptr b12 0), (6, .int .i64 v2887), (7, .int .i64 v1018), (8, .int .i64 v2356), (9, .bool v2917), (10, .int .i64 v2918)], [.obj b8 (.cells [.int .u8 ((x1 : Nat) : Int), .int .u8 ((x2 : Nat) : Int), .int .u16 ((x3 : Nat) : Int), .slice a5 l4.length c6] .own), .rd a5 c6 2 l4.length (l4.map (eP (eN .u8) (eN .u8))), .obj b9 (.cells [.int .i64 0, .slice none 0 0] .own), .obj b12 (.cells [.int .i64 y10, .slice a2354 l2353.length l2353.length] .own), .sl a2354 2 l2353.length (l2353.map (eP (eI .i64) (eI .i64)))]⟩) (fun (r : Bool) (g : Unit) => match r, g with | v2964, _ => ⟨(.exit 4), [(1, ptr b8 0), (2, ptr b9 0), (3, .int .i64 v1014), (5, ptr b12 0), (6, .int .i64 v2887), (7, .int .i64 v1018), (8, .int .i64 v2356), (9, .bool v2964)], [.obj b8 (.cells [.int .u8 ((x1 : Nat) : Int), .int .u8 ((x2 : Nat) : Int), .int .u16 ((x3 : Nat) : Int), .slice a5 l4.length c6] .own), .rd a5 c6 2 l4.length (l4.map (eP (eN .u8) (eN .u8))), .obj b9 (.cells [.int .i64 0, .slice none 0 0] .own), .obj b12 (.cells [.int .i64 y10, .slice a2354 l2353.length l2353.length] .own), .sl a2354 2 l2353.length (l2353.map (eP (eI .i64) (eI .i64)))]⟩) ?_ (fun _ _ => rfl) (fun r d => by intro e; cases e) _ _ _ h3008 ()
         clear hF h3008
         rintro ⟨v2917, v2918⟩ ⟨⟩ r hF
         unfold L28_1 at hF
         refine Wk.seq <| Wk.seq ?_
         obtain ⟨v2972, h2974, hF⟩ := ob_some hF
         refine Wk.cut (G := (fun (r : Bool) (g : Unit) => match r, g with | v2972, _ => ⟨.normal, [(1, ptr b8 0), (2, ptr b9 0), (3, .int .i64 v1014), (5, ptr b12 0), (6, .int .i64 v2887), (7, .int .i64 v1018), (8, .int .i64 v2356), (9, .bool v2917), (10, .int .i64 v2918), (83, .bool v2972)], [.obj b8 (.cells [.int .u8 ((x1 : Nat) : Int), .int .u8 ((x2 : Nat) : Int), .int .u16 ((x3 : Nat) : Int), .slice a5 l4.length c6] .own), .rd a5 c6 2 l4.length (l4.map (eP (eN .u8) (eN .u8))), .obj b9 (.cells [.int .i64 0, .slice none 0 0] .own), .obj b12 (.cells [.int .i64 y10, .slice a2354 l2353.length l2353.length] .own), .sl a2354 2 l2353.length (l2353.map (eP (eI .i64) (eI .i64)))]⟩) v2972) ?_ ?_
         ·clear hF
          revert v2972
          intro r hF
          refine Wk.region <| Wo.od (o_mv rfl) rfl <| Wo.od (o_fa (r := ptr b8 3) rfl (fa25_3 _ _)) rfl <| Wo.od (o_ld (k := 0) t23 rfl rfl rfl) rfl <| Wo.od (o_ln (k := 1) u23 rfl rfl (.inl rfl)) rfl <| Wo.od (o_bi rfl rfl (bin_lss _ _ _)) rfl <| Wo.od (o_mv rfl) rfl ?_
          rcases br_some hF with ⟨h2973, hF⟩ | ⟨h2973, hF⟩
          ·refine Wo.og (o_mv rfl) (gg rfl rfl (eTT h2973)) rfl <| Wo.og (o_bi rfl rfl (bin_lss _ _ _)) (gg rfl rfl (eTT h2973)) rfl <| Wo.od (o_pt rfl h2973 rfl) rfl <| Wo.nil ?_
           cases hF
           exact At.en () rfl (sc rfl (sc rfl (sc rfl (sc rfl (sc rfl (sc rfl (sc rfl (sc rfl (sc rfl (sc rfl sn)))))))))) (Turn.picks [0, 1, 2, 3, 4] rfl rfl)
          ·refine Wo.s (gg rfl rfl (eFT h2973)) rfl <| Wo.s (gg rfl rfl (eFT h2973)) rfl <| Wo.od (o_pf rfl h2973 rfl) rfl <| Wo.nil ?_
           cases hF
           exact At.en () rfl (sc rfl (sc rfl (sc rfl (sc rfl (sc rfl (sc rfl (sc rfl (sc rfl (sc rfl (sc rfl sn)))))))))) (Turn.picks [0, 1, 2, 3, 4] rfl rfl)
         ·clear h2974
          rintro ⟨⟩
          refine At.tn ?_
          rcases br_some hF with ⟨h2976, hF⟩ | ⟨h2976, hF⟩
          ·refine Wk.condT rfl h2976 <| Wk.skip <| At.tn <| Wk.seq ?_
           obtain ⟨v2991, h3006, hF⟩ := ob_some hF
           refine Wk.cut (G := (fun (r : Bool) (g : Unit) => match r, g with | v2991, _ => ⟨.normal, [(1, ptr b8 0), (2, ptr b9 0), (3, .int .i64 v1014), (5, ptr b12 0), (6, .int .i64 v2887), (7, .int .i64 v1018), (8, .int .i64 v2356), (9, .bool v2991), (10, .int .i64 v2918)], [.obj b8 (.cells [.int .u8 ((x1 : Nat) : Int), .int .u8 ((x2 : Nat) : Int), .int .u16 ((x3 : Nat) : Int), .slice a5 l4.length c6] .own), .rd a5 c6 2 l4.length (l4.map (eP (eN .u8) (eN .u8))), .obj b9 (.cells [.int .i64 0, .slice none 0 0] .own), .obj b12 (.cells [.int .i64 y10, .slice a2354 l2353.length l2353.length] .own), .sl a2354 2 l2353.length (l2353.map (eP (eI .i64) (eI .i64)))]⟩) v2991) ?_ ?_
           ·clear hF
            revert v2991
            intro r hF
            refine Wk.block <| Wk.seq <| Wk.draw (by kernel_rfl) <| Wo.od (o_fa (r := ptr b8 3) rfl (fa25_3 _ _)) rfl <| Wo.od (o_ld (k := 0) t23 rfl rfl rfl) rfl <| Wo.od (o_mv rfl) rfl ?_
            obtain ⟨h2992, hF⟩ := gd_some hF
            replace h2992 := inB_some h2992
            refine Wo.openr (k := 1) rfl (pos_of h2992) ?_
            rintro b2993 o2994 rfl
            refine Wo.og (o_ixs s23 rfl rfl h2992) gn rfl <| Wo.od (o_ia (r := ptr b2993 (o2994 + v2918.toNat * 2 + 0)) rfl rfl (ia_c ar141 (i := 0) (by decide))) rfl ?_
            obtain ⟨⟨x2995, x2996⟩, h2997, hF⟩ := ob_some hF
            refine Wo.od (o_ldr (k := 0) t5 rfl rfl (map_at h2997) rfl rfl) rfl <| Wo.od (o_cv rfl (cv_i (by rw [u5]; rfl) u3)) rfl <| Wo.od (o_fa (r := ptr b12 0) rfl (fa34_0 _ _)) rfl <| Wo.od (o_ld (k := 4) t3 rfl rfl rfl) rfl ?_
            obtain ⟨h2998, hF⟩ := gd_some hF
            refine Wo.od (o_bi rfl rfl (ib_rem _ _ h2998)) rfl <| Wo.od (o_fa (r := ptr b8 3) rfl (fa25_3 _ _)) rfl <| Wo.od (o_ld (k := 1) t23 rfl rfl rfl) rfl <| Wo.od (o_mv rfl) rfl ?_
            obtain ⟨h2999, hF⟩ := gd_some hF
            replace h2999 := inB_some h2999
            refine Wo.og (o_ixs s23 rfl rfl h2999) gn rfl <| Wo.od (o_ia (r := ptr b2993 (o2994 + v2918.toNat * 2 + 1)) rfl rfl (ia_c ar141 (i := 1) (by decide))) rfl <| Wo.od (o_ldr (k := 0) t5 rfl rfl (map_at h2997) rfl rfl) rfl <| Wo.od (o_cv rfl (cv_i (by rw [u5]; rfl) u3)) rfl <| Wo.od (o_fa (r := ptr b12 0) rfl (fa34_0 _ _)) rfl <| Wo.od (o_ld (k := 4) t3 rfl rfl rfl) rfl ?_
            obtain ⟨h3000, hF⟩ := gd_some hF
            refine Wo.od (o_bi rfl rfl (ib_rem _ _ h3000)) rfl <| Wo.od (o_as rfl) rfl <| Wo.od (o_as rfl) rfl <| Wo.nil <| At.tn <| Wk.region <| Wo.od (o_mv rfl) rfl <| Wo.od (o_mv rfl) rfl ?_
            rcases br_some hF with ⟨h3001, hF⟩ | ⟨h3001, hF⟩
            ·refine Wo.s (gg rfl rfl (eTF h3001)) rfl <| Wo.s (gg rfl rfl (eTF h3001)) rfl <| Wo.s (gg rfl rfl (eTF h3001)) rfl <| Wo.s (gg rfl rfl (eTF h3001)) rfl <| Wo.s (gu rfl rfl) rfl <| Wo.s (gu rfl rfl) rfl <| Wo.s (gu rfl rfl) rfl <| Wo.s (gg rfl rfl (eTF h3001)) rfl <| Wo.od (o_pt rfl h3001 rfl) rfl <| Wo.od (o_mv rfl) rfl ?_
             refine Wo.s (gg rfl rfl rfl) rfl <| Wo.s (gg rfl rfl rfl) rfl <| Wo.s (gg rfl rfl rfl) rfl <| Wo.s (gg rfl rfl rfl) rfl <| Wo.s (gu rfl rfl) rfl <| Wo.s (gu rfl rfl) rfl <| Wo.s (gu rfl rfl) rfl <| Wo.s (gg rfl rfl rfl) rfl <| Wo.od (o_pT rfl rfl) rfl <| Wo.od (o_as rfl) rfl ?_
             refine Wo.nil <| At.bn ?_
             cases hF
             exact At.en () rfl (sc rfl (sc rfl (sc rfl (sc rfl (sc rfl (sc rfl (sc rfl (sc rfl (sc rfl sn))))))))) (Turn.picks [1, 2, 3, 4, 5] rfl rfl)
            ·refine Wo.og (o_mv rfl) (gg rfl rfl (eFF h3001)) rfl <| Wo.og (o_mv rfl) (gg rfl rfl (eFF h3001)) rfl <| Wo.og (o_bi rfl rfl (bin_eql _ _ _)) (gg rfl rfl (eFF h3001)) rfl <| Wo.og (o_mv rfl) (gg rfl rfl (eFF h3001)) rfl ?_
             rcases br_some hF with ⟨h3002, hF⟩ | ⟨h3002, hF⟩
             ·refine Wo.og (o_mv rfl) (gg rfl rfl (eTT h3002)) rfl <| Wo.og (o_mv rfl) (gg rfl rfl (eTT h3002)) rfl <| Wo.og (o_bi rfl rfl (bin_eql _ _ _)) (gg rfl rfl (eTT h3002)) rfl <| Wo.og (o_pt rfl h3002 rfl) (gg rfl rfl (eFF h3001)) rfl <| Wo.od (o_pf rfl h3001 rfl) rfl <| Wo.od (o_mv rfl) rfl ?_
              rcases br_some hF with ⟨h3003, hF⟩ | ⟨h3003, hF⟩
              ·refine Wo.s (gg rfl rfl (eTF h3003)) rfl <| Wo.s (gg rfl rfl (eTF h3003)) rfl <| Wo.s (gg rfl rfl (eTF h3003)) rfl <| Wo.s (gg rfl rfl (eTF h3003)) rfl <| Wo.s (gu rfl rfl) rfl <| Wo.s (gu rfl rfl) rfl <| Wo.s (gu rfl rfl) rfl <| Wo.s (gg rfl rfl (eTF h3003)) rfl <| Wo.od (o_pt rfl h3003 rfl) rfl <| Wo.od (o_as rfl) rfl ?_
               refine Wo.nil <| At.bn ?_
               cases hF
               exact At.en () rfl (sc rfl (sc rfl (sc rfl (sc rfl (sc rfl (sc rfl (sc rfl (sc rfl (sc rfl sn))))))))) (Turn.picks [1, 2, 3, 4, 5] rfl rfl)
              ·refine Wo.og (o_mv rfl) (gg rfl rfl (eFF h3003)) rfl <| Wo.og (o_mv rfl) (gg rfl rfl (eFF h3003)) rfl <| Wo.og (o_bi rfl rfl (bin_eql _ _ _)) (gg rfl rfl (eFF h3003)) rfl <| Wo.og (o_mv rfl) (gg rfl rfl (eFF h3003)) rfl ?_
               rcases br_some hF with ⟨h3004, hF⟩ | ⟨h3004, hF⟩
               ·refine Wo.og (o_mv rfl) (gg rfl rfl (eTT h3004)) rfl <| Wo.og (o_mv rfl) (gg rfl rfl (eTT h3004)) rfl <| Wo.og (o_bi rfl rfl (bin_eql _ _ _)) (gg rfl rfl (eTT h3004)) rfl <| Wo.og (o_pt rfl h3004 rfl) (gg rfl rfl (eFF h3003)) rfl <| Wo.od (o_pf rfl h3003 rfl) rfl <| Wo.od (o_as rfl) rfl <| Wo.nil <| At.bn ?_
                cases hF
                exact At.en () rfl (sc rfl (sc rfl (sc rfl (sc rfl (sc rfl (sc rfl (sc rfl (sc rfl (sc rfl sn))))))))) (Turn.picks [1, 2, 3, 4, 5] rfl rfl)
               ·refine Wo.s (gg rfl rfl (eFT h3004)) rfl <| Wo.s (gg rfl rfl (eFT h3004)) rfl <| Wo.s (gg rfl rfl (eFT h3004)) rfl <| Wo.og (o_pf rfl h3004 rfl) (gg rfl rfl (eFF h3003)) rfl <| Wo.od (o_pf rfl h3003 rfl) rfl <| Wo.od (o_as rfl) rfl <| Wo.nil <| At.bn ?_
                cases hF
                exact At.en () rfl (sc rfl (sc rfl (sc rfl (sc rfl (sc rfl (sc rfl (sc rfl (sc rfl (sc rfl sn))))))))) (Turn.picks [1, 2, 3, 4, 5] rfl rfl)
             ·refine Wo.s (gg rfl rfl (eFT h3002)) rfl <| Wo.s (gg rfl rfl (eFT h3002)) rfl <| Wo.s (gg rfl rfl (eFT h3002)) rfl <| Wo.og (o_pf rfl h3002 rfl) (gg rfl rfl (eFF h3001)) rfl <| Wo.od (o_pf rfl h3001 rfl) rfl <| Wo.od (o_mv rfl) rfl <| Wo.og (o_mv rfl) (gg rfl rfl rfl) rfl <| Wo.og (o_mv rfl) (gg rfl rfl rfl) rfl <| Wo.og (o_bi rfl rfl (bin_eql _ _ _)) (gg rfl rfl rfl) rfl <| Wo.og (o_mv rfl) (gg rfl rfl rfl) rfl ?_
              rcases br_some hF with ⟨h3005, hF⟩ | ⟨h3005, hF⟩
              ·refine Wo.og (o_mv rfl) (gg rfl rfl (eTT h3005)) rfl <| Wo.og (o_mv rfl) (gg rfl rfl (eTT h3005)) rfl <| Wo.og (o_bi rfl rfl (bin_eql _ _ _)) (gg rfl rfl (eTT h3005)) rfl <| Wo.og (o_pt rfl h3005 rfl) (gg rfl rfl rfl) rfl <| Wo.od (o_pF rfl rfl) rfl <| Wo.od (o_as rfl) rfl <| Wo.nil <| At.bn ?_
               cases hF
               exact At.en () rfl (sc rfl (sc rfl (sc rfl (sc rfl (sc rfl (sc rfl (sc rfl (sc rfl (sc rfl sn))))))))) (Turn.picks [1, 2, 3, 4, 5] rfl rfl)
              ·refine Wo.s (gg rfl rfl (eFT h3005)) rfl <| Wo.s (gg rfl rfl (eFT h3005)) rfl <| Wo.s (gg rfl rfl (eFT h3005)) rfl <| Wo.og (o_pf rfl h3005 rfl) (gg rfl rfl rfl) rfl <| Wo.od (o_pF rfl rfl) rfl <| Wo.od (o_as rfl) rfl <| Wo.nil <| At.bn ?_
               cases hF
               exact At.en () rfl (sc rfl (sc rfl (sc rfl (sc rfl (sc rfl (sc rfl (sc rfl (sc rfl (sc rfl sn))))))))) (Turn.picks [1, 2, 3, 4, 5] rfl rfl)
           ·clear h3006
            rintro ⟨⟩
            refine At.tn <| Wk.region <| Wo.od (o_mv rfl) rfl <| Wo.od (o_bi rfl rfl (bin_add _ _ _)) rfl <| Wo.od (o_as rfl) rfl <| Wo.nil ?_
            cases hF
            exact At.en () rfl (sc rfl (sc rfl (sc rfl (sc rfl (sc rfl (sc rfl (sc rfl (sc rfl (sc rfl sn))))))))) (Turn.picks [0, 1, 2, 3, 4] rfl rfl)
          ·refine Wk.condF rfl h2976 <| Wk.exit <| At.te ?_
           cases hF
           exact At.en () rfl (sc rfl (sc rfl (sc rfl (sc rfl (sc rfl (sc rfl (sc rfl (sc rfl sn)))))))) (Turn.picks [0, 1, 2, 3, 4] rfl rfl)
        ·clear h3008
         rintro ⟨⟩
         refine At.be <| At.tn <| Wk.seq <| Wk.region <| Wo.od (o_mv rfl) rfl <| Wo.nil <| At.tn ?_
         rcases br_some hF with ⟨h3010, hF⟩ | ⟨h3010, hF⟩
         ·refine Wk.condT rfl h3010 <| Wk.region <| Wo.od (o_fa (r := ptr b12 1) rfl (fa34_1 _ _)) rfl <| Wo.od (o_ld (k := 3) t32 rfl rfl rfl) rfl <| Wo.od (o_mv rfl) rfl <| Wo.od (o_mv rfl) rfl <| Wo.od (o_bd rfl z43 rfl (bd_s bs43 rfl rfl rfl)) rfl <| Wo.x (o_bs (es := ([(v1018, v2356)] : List (Int × Int)).map (eP (eI .i64) (eI .i64))) s32 rfl (bs_c s32 z43 rfl rfl) rfl rfl) gn rfl fun b3011 => ?_
          obtain ⟨h3012, hF⟩ := gd_some hF
          refine Wo.x (o_apl (k := 5) (k2 := 0) (xs := (l2353 : List (Int × Int))) (ys := ([(v1018, v2356)] : List (Int × Int))) (enP (enI .i64) (enI .i64)) s32 ⟨_, u32⟩ rfl rfl rfl (.arr _ _ _ _ _) h3012) gn rfl fun a3013 => ?_
          refine Wo.od (o_fa (r := ptr b12 1) rfl (fa34_1 _ _)) rfl <| Wo.o0 (o_st (k := 4) t32 rfl rfl rfl rfl rfl) <| Wo.nil <| At.bn ?_
          cases hF
          exact At.en a3013 rfl (sc rfl (sc rfl (sc rfl (sc rfl (sc rfl (sc rfl (sc rfl sn))))))) (Turn.picks [1, 2, 3, 4, 5] rfl rfl)
         ·refine Wk.condF rfl h3010 <| Wk.skip <| At.bn ?_
          cases hF
          exact At.en a2354 rfl (sc rfl (sc rfl (sc rfl (sc rfl (sc rfl (sc rfl (sc rfl sn))))))) (Turn.picks [0, 1, 2, 3, 4] rfl rfl)
     ·clear h3014
      obtain ⟨l2851, v2853⟩ := r3015
      rintro a2852
      refine At.tn <| Wk.region <| Wo.od (o_mv rfl) rfl <| Wo.od (o_bi rfl rfl (bin_add _ _ _)) rfl <| Wo.od (o_as rfl) rfl <| Wo.nil ?_
      cases hF
      exact At.en a2852 rfl (sc rfl (sc rfl (sc rfl (sc rfl (sc rfl (sc rfl (sc rfl sn))))))) (Turn.picks [0, 1, 2, 3, 4] rfl rfl)
    ·refine Wk.condF rfl h2690 <| Wk.exit <| At.te ?_
     cases hF
     exact At.en a2354 rfl (sc rfl (sc rfl (sc rfl (sc rfl (sc rfl (sc rfl sn)))))) (Turn.picks [0, 1, 2, 3, 4] rfl rfl)
   ·clear h3016
    obtain ⟨l2687, v2689⟩ := r3017
    rintro a2688
    refine At.be <| At.bn <| At.tn <| Wk.region <| Wo.od (o_mv rfl) rfl <| Wo.od (o_bi rfl rfl (bin_add _ _ _)) rfl <| Wo.od (o_as rfl) rfl <| Wo.nil ?_
    cases hF
    exact At.en a2688 rfl (sc rfl (sc rfl (sc rfl (sc rfl (sc rfl (sc rfl sn)))))) (Turn.picks [0, 1, 2, 3, 4] rfl rfl)
  ·refine Wk.condF rfl h2022 <| Wk.exit <| At.te ?_
   cases hF
   exact At.en a1016 rfl (sc rfl (sc rfl sn)) (Turn.picks [2, 3, 4] rfl rfl)
 ·clear h3018
  rintro a2021
  refine At.be <| At.tn <| Wk.seq <| Wk.region <| Wo.od (o_ld (k := 1) t34 rfl rfl rfl) rfl <| Wo.o0 (o_st (k := 0) t34 rfl rfl rfl rfl rfl) <| Wo.nil <| At.tn <| Wk.ret ?_
  cases hF
  exact At.ret (.cell (k := 0) t34 rfl rfl rfl .nil) fun m' hm => ⟨(a2021, l2020.length), rfl, (Turn.picks [2] rfl rfl) m' hm⟩
theorem f86_ok (n : Nat) (x1 : Nat) (x2 : Int)  (r : Bool) (hF : F86 n x1 x2 = some r) (m : AMem)  :
  CallA E30w 86 [.int .u64 ((x1 : Nat) : Int), .int .i64 x2] m (fun v m' => ∃ x : Unit, v = .bool r ∧ Hp m m' []) := by
 unfold F86 at hF
 refine call_wk (m0 := m) (ps := []) (N := 11) (rs := [.tmp 4]) rfl Tryz.func86 rfl rfl rfl (Hp.start m) <| Wk.seq <| Wk.region <| Wo.od (o_as rfl) rfl <| Wo.nil <| At.tn <| Wk.seq <| Wk.region <| Wo.od (o_mv rfl) rfl <| Wo.od (o_mv rfl) rfl <| Wo.od (o_cv rfl (cv_u (by rw [u3]; rfl) u42 rfl)) rfl <| Wo.od (o_bi rfl rfl (ub_shr _ _ (nn _))) rfl <| Wo.od (o_bi rfl rfl (ub_and rfl _ _)) rfl <| Wo.od (o_bi rfl rfl (ub_eql _ _)) rfl <| Wo.od (o_as rfl) rfl <| Wo.nil <| At.tn <| Wk.ret ?_
 cases hF
 exact At.ret (.tmp rfl .nil) fun m' hm => ⟨(), rfl, (Turn.picks [] rfl rfl) m' hm⟩
theorem f53_ok (n : Nat) (x1 : Nat)  (r : Int) (hF : F53 n x1 = some r) (m : AMem)  :
  CallA E30w 53 [.int .u64 ((x1 : Nat) : Int)] m (fun v m' => ∃ x : Unit, v = .int .i64 r ∧ Hp m m' []) := by
 unfold F53 at hF
 refine call_wk (m0 := m) (ps := []) (N := 15) (rs := [.tmp 2]) rfl Tryz.func53 rfl rfl rfl (Hp.start m) <| Wk.seq <| Wk.region <| Wo.od (o_as rfl) rfl <| Wo.nil <| At.tn <| Wk.seq <| Wk.region <| Wo.od (o_as rfl) rfl <| Wo.nil <| At.tn <| Wk.seq <| Wk.seq <| Wk.region <| Wo.od (o_as rfl) rfl <| Wo.nil <| At.tn <| Wk.block ?_
 obtain ⟨v18, h29, hF⟩ := ob_some hF
 refine Wk.cut (G := (fun (r : Int) (g : Unit) => match r, g with | v18, _ => ⟨(.exit 0), [(3, .int .i64 v18)], []⟩) v18) ?_ ?_
 ·refine Wk.weak (fs' := [(0, .int .u64 ((x1 : Nat) : Int)), (3, .int .i64 0), (4, .int .i64 0)]) (ps' := []) (sc rfl (sc rfl (sc rfl sn))) (Turn.picks [] rfl rfl) ?_
  refine Wk.loop (σ := Int × Int) (ρ := Int) (γ := Unit) (δ := fun _ => Unit) _ (fun (s : Int × Int) (g : Unit) => match s, g with | (v4, v5), _ => ⟨.normal, [(0, .int .u64 ((x1 : Nat) : Int)), (3, .int .i64 v4), (4, .int .i64 v5)], []⟩) (fun (r : Int) (g : Unit) => match r, g with | v18, _ => ⟨(.exit 0), [(3, .int .i64 v18)], []⟩) ?_ (fun _ _ => rfl) (fun r d => by intro e; cases e) _ _ _ h29 ()
  clear hF h29
  rintro ⟨v4, v5⟩ ⟨⟩ r hF
  unfold L53_1 at hF
  refine Wk.seq <| Wk.seq <| Wk.region <| Wo.od (o_mv rfl) rfl <| Wo.od (o_bi rfl rfl (bin_lss _ _ _)) rfl <| Wo.nil <| At.tn ?_
  rcases br_some hF with ⟨h19, hF⟩ | ⟨h19, hF⟩
  ·refine Wk.condT rfl h19 <| Wk.skip <| At.tn <| Wk.seq ?_
   obtain ⟨v23, h27, hF⟩ := ob_some hF
   refine Wk.cut (G := (fun (r : Int) (g : Unit) => match r, g with | v23, _ => ⟨.normal, [(0, .int .u64 ((x1 : Nat) : Int)), (3, .int .i64 v23), (4, .int .i64 v5)], []⟩) v23) ?_ ?_
   ·clear hF
    revert v23
    intro r hF
    refine Wk.block <| Wk.seq <| Wk.region <| Wo.od (o_mv rfl) rfl <| Wo.od (o_mv rfl) rfl ?_
    obtain ⟨r25, h24, hF⟩ := ob_some hF
    refine Wo.x (o_cl rfl rfl (fun m hm => f86_ok n x1 v5  _ h24 m ) fun _ => rfl) gn rfl ?_
    rintro ⟨⟩
    refine Wo.nil <| At.tn ?_
    rcases br_some hF with ⟨h26, hF⟩ | ⟨h26, hF⟩
    ·refine Wk.condT rfl h26 <| Wk.region <| Wo.od (o_mv rfl) rfl <| Wo.od (o_bi rfl rfl (bin_add _ _ _)) rfl <| Wo.od (o_as rfl) rfl <| Wo.nil <| At.bn ?_
     cases hF
     exact At.en () rfl (sc rfl (sc rfl (sc rfl sn))) (Turn.picks [] rfl rfl)
    ·refine Wk.condF rfl h26 <| Wk.skip <| At.bn ?_
     have hr := Option.some.inj hF
     subst r
     exact At.en () rfl (sc rfl (sc rfl (sc rfl sn))) (Turn.picks [] rfl rfl)
   ·clear h27
    rintro ⟨⟩
    refine At.tn <| Wk.region <| Wo.od (o_mv rfl) rfl <| Wo.od (o_bi rfl rfl (bin_add _ _ _)) rfl <| Wo.od (o_as rfl) rfl <| Wo.nil ?_
    cases hF
    exact At.en () rfl (sc rfl (sc rfl (sc rfl sn))) (Turn.picks [] rfl rfl)
  ·refine Wk.condF rfl h19 <| Wk.exit <| At.te ?_
   cases hF
   exact At.en () rfl (sc rfl sn) (Turn.picks [] rfl rfl)
 ·clear h29
  rintro ⟨⟩
  refine At.be <| At.tn <| Wk.seq <| Wk.region <| Wo.od (o_mv rfl) rfl <| Wo.od (o_as rfl) rfl <| Wo.nil <| At.tn <| Wk.ret ?_
  have hr := Option.some.inj hF
  subst r
  exact At.ret (.tmp rfl .nil) fun m' hm => ⟨(), rfl, (Turn.picks [] rfl rfl) m' hm⟩
theorem f106_ok (n : Nat) (x1 : Int)  (r : Nat) (hF : F106 n x1 = some r) (m : AMem)  :
  CallA E30w 106 [.int .i64 x1] m (fun v m' => ∃ x : Unit, v = .int .u64 ((r : Nat) : Int) ∧ Hp m m' []) := by
 unfold F106 at hF
 refine call_wk (m0 := m) (ps := []) (N := 6) (rs := [.tmp 2]) rfl Tryz.func106 rfl rfl rfl (Hp.start m) <| Wk.seq <| Wk.region <| Wo.od (o_as rfl) rfl <| Wo.nil <| At.tn <| Wk.seq <| Wk.region <| Wo.od (o_mv rfl) rfl <| Wo.od (o_cv rfl (cv_u (by rw [u3]; rfl) u42 rfl)) rfl <| Wo.od (o_bi rfl rfl (ub_shl rfl _ _ (nn _))) rfl <| Wo.od (o_as rfl) rfl <| Wo.nil <| At.tn <| Wk.ret ?_
 cases hF
 exact At.ret (.tmp rfl .nil) fun m' hm => ⟨(), rfl, (Turn.picks [] rfl rfl) m' hm⟩
theorem f50_ok (n : Nat) (x1 : Int) (l2 : List (Int × Int)) (x6 : Nat) (a3 : Option Addr) (c4 : Nat) (r : Nat) (hF : F50 n x1 l2 x6 = some r) (m : AMem) (h5 : Rd m a3 c4 2 l2.length (l2.map (eP (eI .i64) (eI .i64)))) :
  CallA E30w 50 [.agg #[.int .i64 x1, .slice a3 l2.length c4], .int .u64 ((x6 : Nat) : Int)] m (fun v m' => ∃ x : Unit, v = .int .u64 ((r : Nat) : Int) ∧ Hp m m' []) := by
 unfold F50 at hF
 refine call_wk (m0 := m) (ps := [.rd a3 c4 2 l2.length (l2.map (eP (eI .i64) (eI .i64)))]) (N := 26) (rs := [.tmp 4]) rfl Tryz.func50 rfl rfl rfl ((Hp.start m).inn rfl h5) <| Wk.seq <| Wk.region <| Wo.x (o_bx rfl) gn rfl fun b7 => ?_
 refine Wo.od (o_as rfl) rfl <| Wo.nil <| At.tn <| Wk.seq <| Wk.region <| Wo.od (o_as rfl) rfl <| Wo.nil <| At.tn <| Wk.seq <| Wk.seq <| Wk.region <| Wo.od (o_as rfl) rfl <| Wo.nil <| At.tn <| Wk.block ?_
 obtain ⟨v47, h81, hF⟩ := ob_some hF
 refine Wk.cut (G := (fun (r : Nat) (g : Unit) => match r, g with | v47, _ => ⟨(.exit 0), [(5, .int .u64 ((v47 : Nat) : Int))], []⟩) v47) ?_ ?_
 ·refine Wk.weak (fs' := [(1, .int .u64 ((x6 : Nat) : Int)), (2, ptr b7 0), (5, .int .u64 ((0 : Nat) : Int)), (6, .int .i64 0)]) (ps' := [.obj b7 (.cells [.int .i64 x1, .slice a3 l2.length c4] .own), .rd a3 c4 2 l2.length (l2.map (eP (eI .i64) (eI .i64)))]) (sc rfl (sc rfl (sc rfl (sc rfl sn)))) (Turn.picks [0, 1] rfl rfl) ?_
  refine Wk.loop (σ := Nat × Int) (ρ := Nat) (γ := Unit) (δ := fun _ => Unit) _ (fun (s : Nat × Int) (g : Unit) => match s, g with | (v10, v11), _ => ⟨.normal, [(1, .int .u64 ((x6 : Nat) : Int)), (2, ptr b7 0), (5, .int .u64 ((v10 : Nat) : Int)), (6, .int .i64 v11)], [.obj b7 (.cells [.int .i64 x1, .slice a3 l2.length c4] .own), .rd a3 c4 2 l2.length (l2.map (eP (eI .i64) (eI .i64)))]⟩) (fun (r : Nat) (g : Unit) => match r, g with | v47, _ => ⟨(.exit 0), [(5, .int .u64 ((v47 : Nat) : Int))], []⟩) ?_ (fun _ _ => rfl) (fun r d => by intro e; cases e) _ _ _ h81 ()
  clear hF h81
  rintro ⟨v10, v11⟩ ⟨⟩ r hF
  unfold L50_1 at hF
  refine Wk.seq <| Wk.seq ?_
  obtain ⟨v61, h65, hF⟩ := ob_some hF
  refine Wk.cut (G := (fun (r : Bool) (g : Unit) => match r, g with | v61, _ => ⟨.normal, [(1, .int .u64 ((x6 : Nat) : Int)), (2, ptr b7 0), (5, .int .u64 ((v10 : Nat) : Int)), (6, .int .i64 v11), (15, .bool v61)], [.obj b7 (.cells [.int .i64 x1, .slice a3 l2.length c4] .own), .rd a3 c4 2 l2.length (l2.map (eP (eI .i64) (eI .i64)))]⟩) v61) ?_ ?_
  ·clear hF
   revert v61
   intro r hF
   refine Wk.region <| Wo.od (o_mv rfl) rfl <| Wo.od (o_fa (r := ptr b7 0) rfl (fa34_0 _ _)) rfl <| Wo.od (o_ld (k := 0) t3 rfl rfl rfl) rfl <| Wo.od (o_bi rfl rfl (bin_lss _ _ _)) rfl <| Wo.od (o_mv rfl) rfl ?_
   rcases br_some hF with ⟨h62, hF⟩ | ⟨h62, hF⟩
   ·refine Wo.og (o_mv rfl) (gg rfl rfl (eTT h62)) rfl ?_
    obtain ⟨r64, h63, hF⟩ := ob_some hF
    refine Wo.x (o_cl rfl rfl (fun m hm => f53_ok n v10  _ h63 m ) fun _ => rfl) (gg rfl rfl (eTT h62)) rfl ?_
    rintro ⟨⟩
    refine Wo.og (o_bi rfl rfl (bin_lss _ _ _)) (gg rfl rfl (eTT h62)) rfl <| Wo.od (o_pt rfl h62 rfl) rfl <| Wo.nil ?_
    cases hF
    exact At.en () rfl (sc rfl (sc rfl (sc rfl (sc rfl (sc rfl sn))))) (Turn.picks [0, 1] rfl rfl)
   ·refine Wo.s (gg rfl rfl (eFT h62)) rfl <| Wo.s (gg rfl rfl (eFT h62)) rfl <| Wo.s (gg rfl rfl (eFT h62)) rfl <| Wo.od (o_pf rfl h62 rfl) rfl <| Wo.nil ?_
    cases hF
    exact At.en () rfl (sc rfl (sc rfl (sc rfl (sc rfl (sc rfl sn))))) (Turn.picks [0, 1] rfl rfl)
  ·clear h65
   rintro ⟨⟩
   refine At.tn ?_
   rcases br_some hF with ⟨h67, hF⟩ | ⟨h67, hF⟩
   ·refine Wk.condT rfl h67 <| Wk.skip <| At.tn <| Wk.seq ?_
    obtain ⟨v73, h79, hF⟩ := ob_some hF
    refine Wk.cut (G := (fun (r : Nat) (g : Unit) => match r, g with | v73, _ => ⟨.normal, [(1, .int .u64 ((x6 : Nat) : Int)), (2, ptr b7 0), (5, .int .u64 ((v73 : Nat) : Int)), (6, .int .i64 v11)], [.obj b7 (.cells [.int .i64 x1, .slice a3 l2.length c4] .own), .rd a3 c4 2 l2.length (l2.map (eP (eI .i64) (eI .i64)))]⟩) v73) ?_ ?_
    ·clear hF
     revert v73
     intro r hF
     refine Wk.block <| Wk.seq <| Wk.region <| Wo.od (o_mv rfl) rfl <| Wo.od (o_mv rfl) rfl ?_
     obtain ⟨r75, h74, hF⟩ := ob_some hF
     refine Wo.x (o_cl rfl rfl (fun m hm => f86_ok n x6 v11  _ h74 m ) fun _ => rfl) gn rfl ?_
     rintro ⟨⟩
     refine Wo.nil <| At.tn ?_
     rcases br_some hF with ⟨h76, hF⟩ | ⟨h76, hF⟩
     ·refine Wk.condT rfl h76 <| Wk.region <| Wo.od (o_mv rfl) rfl <| Wo.od (o_mv rfl) rfl ?_
      obtain ⟨r78, h77, hF⟩ := ob_some hF
      refine Wo.x (o_cl rfl rfl (fun m hm => f106_ok n v11  _ h77 m ) fun _ => rfl) gn rfl ?_
      rintro ⟨⟩
      refine Wo.od (o_bi rfl rfl (ub_or rfl _ _)) rfl <| Wo.od (o_as rfl) rfl <| Wo.nil <| At.bn ?_
      cases hF
      exact At.en () rfl (sc rfl (sc rfl (sc rfl (sc rfl sn)))) (Turn.picks [0, 1] rfl rfl)
     ·refine Wk.condF rfl h76 <| Wk.skip <| At.bn ?_
      have hr := Option.some.inj hF
      subst r
      exact At.en () rfl (sc rfl (sc rfl (sc rfl (sc rfl sn)))) (Turn.picks [0, 1] rfl rfl)
    ·clear h79
     rintro ⟨⟩
     refine At.tn <| Wk.region <| Wo.od (o_mv rfl) rfl <| Wo.od (o_bi rfl rfl (bin_add _ _ _)) rfl <| Wo.od (o_as rfl) rfl <| Wo.nil ?_
     cases hF
     exact At.en () rfl (sc rfl (sc rfl (sc rfl (sc rfl sn)))) (Turn.picks [0, 1] rfl rfl)
   ·refine Wk.condF rfl h67 <| Wk.exit <| At.te ?_
    cases hF
    exact At.en () rfl (sc rfl sn) (Turn.picks [] rfl rfl)
 ·clear h81
  rintro ⟨⟩
  refine At.be <| At.tn <| Wk.seq <| Wk.region <| Wo.od (o_mv rfl) rfl <| Wo.od (o_as rfl) rfl <| Wo.nil <| At.tn <| Wk.ret ?_
  have hr := Option.some.inj hF
  subst r
  exact At.ret (.tmp rfl .nil) fun m' hm => ⟨(), rfl, (Turn.picks [] rfl rfl) m' hm⟩
theorem f51_ok (n : Nat) (x1 : Nat) (x2 : Int) (x3 : Nat) (x4 : Int) (l5 : List (Int × Int)) (x9 : Nat) (a6 : Option Addr) (c7 : Nat) (r : Int × List (Int × Int) × Nat) (hF : F51 n x1 x2 x3 x4 l5 x9 = some r) (m : AMem) (h8 : Rd m a6 c7 2 l5.length (l5.map (eP (eI .i64) (eI .i64)))) :
  CallA E30w 51 [.agg #[.int .u8 ((x1 : Nat) : Int), .int .i64 x2, .int .u64 ((x3 : Nat) : Int)], .agg #[.int .i64 x4, .slice a6 l5.length c7], .int .u64 ((x9 : Nat) : Int)] m (fun v m' => ∃ x : Option Addr × Nat, v = .tuple #[.agg #[.int .i64 r.1, .slice x.1 x.2 x.2], .int .u64 ((r.2.2 : Nat) : Int)] ∧ Hp m m' [.sl x.1 2 x.2 (r.2.1.map (eP (eI .i64) (eI .i64)))]) := by
 unfold F51 at hF
 refine call_wk (m0 := m) (ps := [.rd a6 c7 2 l5.length (l5.map (eP (eI .i64) (eI .i64)))]) (N := 68) (rs := [.cell 6 34, .tmp 7]) rfl Tryz.func51 rfl rfl rfl ((Hp.start m).inn rfl h8) <| Wk.seq <| Wk.region <| Wo.x (o_bx rfl) gn rfl fun b10 => ?_
 refine Wo.x (o_bx rfl) gn rfl fun b11 => ?_
 refine Wo.x (o_al z34 rfl) gn rfl fun b12 => ?_
 refine Wo.od (o_as rfl) rfl <| Wo.nil <| At.tn <| Wk.seq <| Wk.region <| Wo.od (o_fa (r := ptr b11 1) rfl (fa34_1 _ _)) rfl <| Wo.od (o_ld (k := 1) t32 rfl rfl rfl) rfl ?_
 obtain ⟨l14, h13, hF⟩ := ob_some hF
 refine Wo.x (o_cl rfl rfl (fun m hm => f31_ok n l5 a6 c7 _ h13 m (hm.rd (k := 3) rfl (.rd _ _ _ _ _))) fun _ => rfl) gn rfl ?_
 rintro ⟨a15, n16⟩
 refine Wo.len (k := 0) (xs := l14) rfl ?_
 rintro rfl
 refine Wo.od (o_fa (r := ptr b11 1) rfl (fa34_1 _ _)) rfl <| Wo.o0 (o_st (k := 2) t32 rfl rfl rfl rfl rfl) <| Wo.nil <| At.tn <| Wk.seq ?_
 obtain ⟨r67, h66, hF⟩ := ob_some hF
 refine Wk.cut (G := (fun (r : Nat × Int × List (Int × Int)) (g : Unit) => match r, g with | (v40, v41, l42), _ => ⟨.normal, [(2, .int .u64 ((v40 : Nat) : Int)), (4, ptr b11 0), (6, ptr b12 0)], [.obj b11 (.cells [.int .i64 v41, .slice a15 l14.length l14.length] .own), .sl a15 2 l14.length (l42.map (eP (eI .i64) (eI .i64))), .obj b12 (.cells [.int .i64 0, .slice none 0 0] .own)]⟩) r67) ?_ ?_
 ·clear hF
  revert r67
  intro r hF
  refine Wk.seq <| Wk.region <| Wo.od (o_fa (r := ptr b10 0) rfl (fa28_0 _ _)) rfl <| Wo.od (o_ld (k := 3) t5 rfl rfl rfl) rfl <| Wo.od (o_bi rfl rfl (ub_rem _ _ (by decide))) rfl <| Wo.nil <| At.tn <| Wk.block <| Wk.seq <| Wk.region <| Wo.od (o_bi rfl rfl (ub_eql _ _)) rfl <| Wo.od (o_as rfl) rfl <| Wo.nil <| At.tn ?_
  rcases br_some hF with ⟨h43, hF⟩ | ⟨h43, hF⟩
  ·refine Wk.condT rfl h43 <| Wk.region <| Wo.od (o_fa (r := ptr b10 1) rfl (fa28_1 _ _)) rfl <| Wo.od (o_ld (k := 3) t3 rfl rfl rfl) rfl <| Wo.od (o_fa (r := ptr b11 0) rfl (fa34_0 _ _)) rfl <| Wo.o0 (o_st (k := 2) t3 rfl rfl rfl rfl rfl) <| Wo.nil <| At.bn ?_
   cases hF
   exact At.en () rfl (sc rfl (sc rfl (sc rfl sn))) (Turn.picks [2, 0, 1] rfl rfl)
  ·refine Wk.condF rfl h43 <| Wk.seq <| Wk.region <| Wo.od (o_bi rfl rfl (ub_eql _ _)) rfl <| Wo.od (o_as rfl) rfl <| Wo.nil <| At.tn ?_
   rcases br_some hF with ⟨h44, hF⟩ | ⟨h44, hF⟩
   ·refine Wk.condT rfl h44 <| Wk.seq <| Wk.region <| Wo.od (o_fa (r := ptr b11 1) rfl (fa34_1 _ _)) rfl <| Wo.od (o_ld (k := 2) t32 rfl rfl rfl) rfl <| Wo.od (o_ln (k := 0) u32 rfl rfl (.inl rfl)) rfl <| Wo.od (o_bi rfl rfl (bin_gtr _ _ _)) rfl <| Wo.nil <| At.tn ?_
    rcases br_some hF with ⟨h45, hF⟩ | ⟨h45, hF⟩
    ·refine Wk.condT rfl h45 <| Wk.seq <| Wk.region <| Wo.od (o_fa (r := ptr b10 1) rfl (fa28_1 _ _)) rfl <| Wo.od (o_ld (k := 3) t3 rfl rfl rfl) rfl <| Wo.od (o_cv rfl (cv_u (by rw [u3]; rfl) u42 rfl)) rfl <| Wo.od (o_fa (r := ptr b11 1) rfl (fa34_1 _ _)) rfl <| Wo.od (o_ld (k := 2) t32 rfl rfl rfl) rfl <| Wo.od (o_ln (k := 0) u32 rfl rfl (.inl rfl)) rfl <| Wo.od (o_cv rfl (cv_u (by rw [u3]; rfl) u42 rfl)) rfl ?_
     obtain ⟨h46, hF⟩ := gd_some hF
     refine Wo.od (o_bi rfl rfl (ub_rem _ _ (of_decide_eq_true h46))) rfl ?_
     obtain ⟨y47, h48, hF⟩ := ob_some hF
     refine Wo.od (o_cv rfl ((cv_i (by rw [u42]; rfl) u3).trans (cI h48))) rfl <| Wo.od (o_as rfl) rfl <| Wo.nil <| At.tn <| Wk.drawc (prs := [(4, 20)]) (by kernel_rfl) <| Wn.od (o_fa (r := ptr b11 1) rfl (fa34_1 _ _)) rfl <| Wn.od (o_ld (k := 2) t32 rfl rfl rfl) rfl <| Wn.od (o_mv rfl) rfl <| Wn.od (o_fa (r := ptr b11 1) rfl (fa34_1 _ _)) rfl <| Wn.odr rfl (o_ld (k := 2) t32 rfl rfl rfl) rfl <| Wn.od (o_mv rfl) rfl <| Wn.od (o_fa (r := ptr b11 1) rfl (fa34_1 _ _)) rfl ?_
     refine Wn.od (o_ld (k := 2) t32 rfl rfl rfl) rfl <| Wn.od (o_mv rfl) rfl ?_
     obtain ⟨h49, hF⟩ := gd_some hF
     replace h49 := inB_some h49
     refine Wn.open (k := 0) rfl (pos_of h49) ?_
     rintro b50 tg51 rfl h52
     refine Wn.og (o_ixa s32 rfl rfl h49) gn rfl <| Wn.od (o_ia (r := ptr b50 (y47.toNat * 2 + 1)) rfl rfl (ia_c ar43 (i := 1) (by decide))) rfl ?_
     obtain ⟨⟨x53, x54⟩, h55, hF⟩ := ob_some hF
     refine Wn.od (o_lda (k := 0) t3 rfl rfl (map_at h55) rfl rfl) rfl <| Wn.od (o_fa (r := ptr b11 1) rfl (fa34_1 _ _)) rfl <| Wn.od (o_ld (k := 2) t32 rfl rfl rfl) rfl <| Wn.od (o_mv rfl) rfl ?_
     obtain ⟨h56, hF⟩ := gd_some hF
     replace h56 := inB_some h56
     refine Wn.og (o_ixa s32 rfl rfl h56) gn rfl <| Wn.od (o_ia (r := ptr b50 (y47.toNat * 2 + 0)) rfl rfl (ia_c ar43 (i := 0) (by decide))) rfl <| Wn.od (o_lda (k := 0) t3 rfl rfl (map_at h55) rfl rfl) rfl ?_
     obtain ⟨h57, hF⟩ := gd_some hF
     replace h57 := inB_some h57
     refine Wn.og (o_ixa s32 rfl rfl h57) gn rfl <| Wn.od (o_ia (r := ptr b50 (y47.toNat * 2 + 0)) rfl rfl (ia_c ar43 (i := 0) (by decide))) rfl <| Wn.o0w rfl (o_stl (k := 0) (x1 := (x53, x54)) (x2 := (x54, x54)) t3 rfl rfl rfl h55 rfl) ?_
     obtain ⟨h59, hF⟩ := gd_some hF
     replace h59 := inB_some h59
     refine Wn.og (o_ixa s32 rfl rfl h59) gn rfl <| Wn.od (o_ia (r := ptr b50 (y47.toNat * 2 + 1)) rfl rfl (ia_c ar43 (i := 1) (by decide))) rfl ?_
     obtain ⟨⟨x60, x61⟩, h62, hF⟩ := ob_some hF
     refine Wn.o0 (o_stl (k := 0) (x1 := (x60, x61)) (x2 := (x60, x53)) t3 rfl rfl rfl h62 rfl) <| Wn.nil (fun m hm => (OkP.rw rfl rfl rfl (hm.ne (i := 2) (j := 0) rfl rfl rfl rfl (by decide) rfl) OkP.nil)) <| At.bn ?_
     cases hF
     exact At.en () rfl (sc rfl (sc rfl (sc rfl sn))) (Turn.trans (Turn.close (k := 0) rfl) (Turn.picks [2, 0, 1] rfl rfl))
    ·refine Wk.condF rfl h45 <| Wk.skip <| At.bn ?_
     cases hF
     exact At.en () rfl (sc rfl (sc rfl (sc rfl sn))) (Turn.picks [2, 0, 1] rfl rfl)
   ·refine Wk.condF rfl h44 <| Wk.seq <| Wk.region <| Wo.od (o_bi rfl rfl (ub_eql _ _)) rfl <| Wo.od (o_as rfl) rfl <| Wo.nil <| At.tn ?_
    rcases br_some hF with ⟨h64, hF⟩ | ⟨h64, hF⟩
    ·refine Wk.condT rfl h64 <| Wk.region <| Wo.od (o_mv rfl) rfl <| Wo.od (o_fa (r := ptr b10 2) rfl (fa28_2 _ _)) rfl <| Wo.od (o_ld (k := 3) t26 rfl rfl rfl) rfl <| Wo.od (o_bi rfl rfl (ub_or rfl _ _)) rfl <| Wo.od (o_as rfl) rfl <| Wo.nil <| At.bn ?_
     cases hF
     exact At.en () rfl (sc rfl (sc rfl (sc rfl sn))) (Turn.picks [2, 0, 1] rfl rfl)
    ·refine Wk.condF rfl h64 <| Wk.seq <| Wk.region <| Wo.od (o_bi rfl rfl (ub_eql _ _)) rfl <| Wo.od (o_as rfl) rfl <| Wo.nil <| At.tn ?_
     rcases br_some hF with ⟨h65, hF⟩ | ⟨h65, hF⟩
     ·refine Wk.condT rfl h65 <| Wk.region <| Wo.od (o_as rfl) rfl <| Wo.nil <| At.bn ?_
      cases hF
      exact At.en () rfl (sc rfl (sc rfl (sc rfl sn))) (Turn.picks [2, 0, 1] rfl rfl)
     ·refine Wk.condF rfl h65 <| Wk.skip <| At.bn ?_
      cases hF
      exact At.en () rfl (sc rfl (sc rfl (sc rfl sn))) (Turn.picks [2, 0, 1] rfl rfl)
 ·clear h66
  obtain ⟨v40, v41, l42⟩ := r67
  rintro ⟨⟩
  refine At.tn <| Wk.seq <| Wk.region <| Wo.od (o_ld (k := 0) t34 rfl rfl rfl) rfl <| Wo.od (o_mv rfl) rfl <| Wo.o0 (o_st (k := 2) t34 rfl rfl rfl rfl rfl) <| Wo.od (o_as rfl) rfl <| Wo.nil <| At.tn <| Wk.ret ?_
  cases hF
  exact At.ret (.cell (k := 2) t34 rfl rfl rfl (.tmp rfl .nil)) fun m' hm => ⟨(a15, l14.length), rfl, (Turn.picks [1] rfl rfl) m' hm⟩
theorem f52_ok (n : Nat) (x1 : Int) (l2 : List (Int × Int)) (a3 : Option Addr) (c4 : Nat) (r : Int) (hF : F52 n x1 l2 = some r) (m : AMem) (h5 : Rd m a3 c4 2 l2.length (l2.map (eP (eI .i64) (eI .i64)))) :
  CallA E30w 52 [.agg #[.int .i64 x1, .slice a3 l2.length c4]] m (fun v m' => ∃ x : Unit, v = .int .i64 r ∧ Hp m m' []) := by
 unfold F52 at hF
 refine call_wk (m0 := m) (ps := [.rd a3 c4 2 l2.length (l2.map (eP (eI .i64) (eI .i64)))]) (N := 87) (rs := [.tmp 2]) rfl Tryz.func52 rfl rfl rfl ((Hp.start m).inn rfl h5) <| Wk.seq <| Wk.region <| Wo.x (o_bx rfl) gn rfl fun b6 => ?_
 refine Wo.od (o_as rfl) rfl <| Wo.nil <| At.tn <| Wk.seq <| Wk.seq ?_
 obtain ⟨v17, h20, hF⟩ := ob_some hF
 refine Wk.cut (G := (fun (r : Bool) (g : Unit) => match r, g with | v17, _ => ⟨.normal, [(1, ptr b6 0), (19, .bool v17)], [.obj b6 (.cells [.int .i64 x1, .slice a3 l2.length c4] .own), .rd a3 c4 2 l2.length (l2.map (eP (eI .i64) (eI .i64)))]⟩) v17) ?_ ?_
 ·clear hF
  revert v17
  intro r hF
  refine Wk.region <| Wo.od (o_fa (r := ptr b6 0) rfl (fa34_0 _ _)) rfl <| Wo.od (o_ld (k := 0) t3 rfl rfl rfl) rfl <| Wo.od (o_bi rfl rfl (bin_lss _ _ _)) rfl <| Wo.od (o_mv rfl) rfl ?_
  rcases br_some hF with ⟨h18, hF⟩ | ⟨h18, hF⟩
  ·refine Wo.s (gg rfl rfl (eTF h18)) rfl <| Wo.s (gg rfl rfl (eTF h18)) rfl <| Wo.s (gg rfl rfl (eTF h18)) rfl <| Wo.od (o_pt rfl h18 rfl) rfl <| Wo.od (o_mv rfl) rfl <| Wo.s (gg rfl rfl rfl) rfl <| Wo.s (gg rfl rfl rfl) rfl <| Wo.s (gg rfl rfl rfl) rfl <| Wo.s (gg rfl rfl rfl) rfl <| Wo.od (o_pT rfl rfl) rfl ?_
   refine Wo.nil ?_
   cases hF
   exact At.en () rfl (sc rfl (sc rfl sn)) (Turn.picks [0, 1] rfl rfl)
  ·refine Wo.og (o_fa (r := ptr b6 0) rfl (fa34_0 _ _)) (gg rfl rfl (eFF h18)) rfl <| Wo.og (o_ld (k := 0) t3 rfl rfl rfl) (gg rfl rfl (eFF h18)) rfl <| Wo.og (o_bi rfl rfl (bin_gtr _ _ _)) (gg rfl rfl (eFF h18)) rfl <| Wo.od (o_pf rfl h18 rfl) rfl <| Wo.od (o_mv rfl) rfl ?_
   rcases br_some hF with ⟨h19, hF⟩ | ⟨h19, hF⟩
   ·refine Wo.s (gg rfl rfl (eTF h19)) rfl <| Wo.s (gg rfl rfl (eTF h19)) rfl <| Wo.s (gg rfl rfl (eTF h19)) rfl <| Wo.s (gg rfl rfl (eTF h19)) rfl <| Wo.od (o_pt rfl h19 rfl) rfl <| Wo.nil ?_
    cases hF
    exact At.en () rfl (sc rfl (sc rfl sn)) (Turn.picks [0, 1] rfl rfl)
   ·refine Wo.og (o_fa (r := ptr b6 1) rfl (fa34_1 _ _)) (gg rfl rfl (eFF h19)) rfl <| Wo.og (o_ld (k := 0) t32 rfl rfl rfl) (gg rfl rfl (eFF h19)) rfl <| Wo.og (o_ln (k := 1) u32 rfl rfl (.inl rfl)) (gg rfl rfl (eFF h19)) rfl <| Wo.og (o_bi rfl rfl (bin_gtr _ _ _)) (gg rfl rfl (eFF h19)) rfl <| Wo.od (o_pf rfl h19 rfl) rfl <| Wo.nil ?_
    cases hF
    exact At.en () rfl (sc rfl (sc rfl sn)) (Turn.picks [0, 1] rfl rfl)
 ·clear h20
  rintro ⟨⟩
  refine At.tn ?_
  rcases br_some hF with ⟨h22, hF⟩ | ⟨h22, hF⟩
  ·refine Wk.condT rfl h22 <| Wk.seq <| Wk.region <| Wo.od (o_as rfl) rfl <| Wo.nil <| At.tn <| Wk.ret <| At.tr ?_
   cases hF
   exact At.ret (.tmp rfl .nil) fun m' hm => ⟨(), rfl, (Turn.picks [] rfl rfl) m' hm⟩
  ·refine Wk.condF rfl h22 <| Wk.skip <| At.tn <| Wk.seq <| Wk.seq <| Wk.region <| Wo.od (o_as rfl) rfl <| Wo.nil <| At.tn <| Wk.block ?_
   obtain ⟨r209, h208, hF⟩ := ob_some hF
   refine Wk.cut (G := (fun (r : (Unit) ⊕ (Unit)) (g : Unit) => match r, g with | .inl _, _ => ⟨.ret, [(2, .int .i64 180)], []⟩ | .inr _, _ => ⟨(.exit 0), [], []⟩) r209) ?_ ?_
   ·refine Wk.weak (fs' := [(1, ptr b6 0), (3, .int .i64 0)]) (ps' := [.obj b6 (.cells [.int .i64 x1, .slice a3 l2.length c4] .own), .rd a3 c4 2 l2.length (l2.map (eP (eI .i64) (eI .i64)))]) (sc rfl (sc rfl sn)) (Turn.picks [0, 1] rfl rfl) ?_
    refine Wk.loop (σ := Int) (ρ := (Unit) ⊕ (Unit)) (γ := Unit) (δ := fun _ => Unit) _ (fun (s : Int) (g : Unit) => match s, g with | v24, _ => ⟨.normal, [(1, ptr b6 0), (3, .int .i64 v24)], [.obj b6 (.cells [.int .i64 x1, .slice a3 l2.length c4] .own), .rd a3 c4 2 l2.length (l2.map (eP (eI .i64) (eI .i64)))]⟩) (fun (r : (Unit) ⊕ (Unit)) (g : Unit) => match r, g with | .inl _, _ => ⟨.ret, [(2, .int .i64 180)], []⟩ | .inr _, _ => ⟨(.exit 0), [], []⟩) ?_ (fun _ _ => rfl) (fun r d => by rcases r with _ | _ <;> (intro e; cases e)) _ _ _ h208 ()
    clear hF h208
    rintro v24 ⟨⟩ r hF
    unfold L52_1 at hF
    refine Wk.seq <| Wk.seq <| Wk.region <| Wo.od (o_mv rfl) rfl <| Wo.od (o_fa (r := ptr b6 1) rfl (fa34_1 _ _)) rfl <| Wo.od (o_ld (k := 0) t32 rfl rfl rfl) rfl <| Wo.od (o_ln (k := 1) u32 rfl rfl (.inl rfl)) rfl <| Wo.od (o_bi rfl rfl (bin_lss _ _ _)) rfl <| Wo.nil <| At.tn ?_
    rcases br_some hF with ⟨h117, hF⟩ | ⟨h117, hF⟩
    ·refine Wk.condT rfl h117 <| Wk.skip <| At.tn <| Wk.seq <| Wk.block <| Wk.seq <| Wk.draw (by kernel_rfl) <| Wo.od (o_fa (r := ptr b6 1) rfl (fa34_1 _ _)) rfl <| Wo.od (o_ld (k := 0) t32 rfl rfl rfl) rfl <| Wo.od (o_mv rfl) rfl ?_
     obtain ⟨h163, hF⟩ := gd_some hF
     replace h163 := inB_some h163
     refine Wo.openr (k := 1) rfl (pos_of h163) ?_
     rintro b164 o165 rfl
     refine Wo.og (o_ixs s32 rfl rfl h163) gn rfl <| Wo.od (o_ia (r := ptr b164 (o165 + v24.toNat * 2 + 0)) rfl rfl (ia_c ar43 (i := 0) (by decide))) rfl ?_
     obtain ⟨⟨x166, x167⟩, h168, hF⟩ := ob_some hF
     refine Wo.od (o_ldr (k := 0) t3 rfl rfl (map_at h168) rfl rfl) rfl <| Wo.od (o_fa (r := ptr b6 1) rfl (fa34_1 _ _)) rfl <| Wo.od (o_ld (k := 1) t32 rfl rfl rfl) rfl <| Wo.od (o_mv rfl) rfl ?_
     obtain ⟨h169, hF⟩ := gd_some hF
     replace h169 := inB_some h169
     refine Wo.og (o_ixs s32 rfl rfl h169) gn rfl <| Wo.od (o_ia (r := ptr b164 (o165 + v24.toNat * 2 + 1)) rfl rfl (ia_c ar43 (i := 1) (by decide))) rfl <| Wo.od (o_ldr (k := 0) t3 rfl rfl (map_at h168) rfl rfl) rfl <| Wo.od (o_as rfl) rfl <| Wo.od (o_as rfl) rfl <| Wo.nil <| At.tn <| Wk.seq <| Wk.seq ?_
     obtain ⟨v180, h183, hF⟩ := ob_some hF
     refine Wk.cut (G := (fun (r : Bool) (g : Unit) => match r, g with | v180, _ => ⟨.normal, [(1, ptr b6 0), (3, .int .i64 v24), (4, .int .i64 x166), (5, .int .i64 x167), (51, .bool v180)], [.obj b6 (.cells [.int .i64 x1, .slice (some ⟨b164, o165, none⟩) l2.length c4] .own), .ro b164 o165 2 l2.length (l2.map (eP (eI .i64) (eI .i64))), .rd (some ⟨b164, o165, none⟩) c4 2 l2.length (l2.map (eP (eI .i64) (eI .i64)))]⟩) v180) ?_ ?_
     ·clear hF
      revert v180
      intro r hF
      refine Wk.region <| Wo.od (o_mv rfl) rfl <| Wo.od (o_bi rfl rfl (bin_lss _ _ _)) rfl <| Wo.od (o_mv rfl) rfl ?_
      rcases br_some hF with ⟨h181, hF⟩ | ⟨h181, hF⟩
      ·refine Wo.s (gg rfl rfl (eTF h181)) rfl <| Wo.s (gg rfl rfl (eTF h181)) rfl <| Wo.s (gg rfl rfl (eTF h181)) rfl <| Wo.od (o_pt rfl h181 rfl) rfl <| Wo.od (o_mv rfl) rfl <| Wo.s (gg rfl rfl rfl) rfl <| Wo.s (gg rfl rfl rfl) rfl <| Wo.s (gg rfl rfl rfl) rfl <| Wo.s (gg rfl rfl rfl) rfl <| Wo.od (o_pT rfl rfl) rfl ?_
       refine Wo.nil ?_
       cases hF
       exact At.en () rfl (sc rfl (sc rfl (sc rfl (sc rfl (sc rfl sn))))) (Turn.picks [1, 0, 2] rfl rfl)
      ·refine Wo.og (o_mv rfl) (gg rfl rfl (eFF h181)) rfl <| Wo.og (o_mv rfl) (gg rfl rfl (eFF h181)) rfl <| Wo.og (o_bi rfl rfl (bin_geq _ _ _)) (gg rfl rfl (eFF h181)) rfl <| Wo.od (o_pf rfl h181 rfl) rfl <| Wo.od (o_mv rfl) rfl ?_
       rcases br_some hF with ⟨h182, hF⟩ | ⟨h182, hF⟩
       ·refine Wo.s (gg rfl rfl (eTF h182)) rfl <| Wo.s (gg rfl rfl (eTF h182)) rfl <| Wo.s (gg rfl rfl (eTF h182)) rfl <| Wo.s (gg rfl rfl (eTF h182)) rfl <| Wo.od (o_pt rfl h182 rfl) rfl <| Wo.nil ?_
        cases hF
        exact At.en () rfl (sc rfl (sc rfl (sc rfl (sc rfl (sc rfl sn))))) (Turn.picks [1, 0, 2] rfl rfl)
       ·refine Wo.og (o_mv rfl) (gg rfl rfl (eFF h182)) rfl <| Wo.og (o_fa (r := ptr b6 0) rfl (fa34_0 _ _)) (gg rfl rfl (eFF h182)) rfl <| Wo.og (o_ld (k := 1) t3 rfl rfl rfl) (gg rfl rfl (eFF h182)) rfl <| Wo.og (o_bi rfl rfl (bin_geq _ _ _)) (gg rfl rfl (eFF h182)) rfl <| Wo.od (o_pf rfl h182 rfl) rfl <| Wo.nil ?_
        cases hF
        exact At.en () rfl (sc rfl (sc rfl (sc rfl (sc rfl (sc rfl sn))))) (Turn.picks [1, 0, 2] rfl rfl)
     ·clear h183
      rintro ⟨⟩
      refine At.tn ?_
      rcases br_some hF with ⟨h185, hF⟩ | ⟨h185, hF⟩
      ·refine Wk.condT rfl h185 <| Wk.seq <| Wk.region <| Wo.od (o_as rfl) rfl <| Wo.nil <| At.tn <| Wk.ret <| At.tr <| At.br <| At.tr ?_
       cases hF
       exact At.en () rfl (sc rfl sn) (Turn.picks [] rfl rfl)
      ·refine Wk.condF rfl h185 <| Wk.skip <| At.tn <| Wk.seq ?_
       obtain ⟨v195, h205, hF⟩ := ob_some hF
       refine Wk.cut (G := (fun (r : Bool) (g : Unit) => match r, g with | v195, _ => ⟨.normal, [(1, ptr b6 0), (3, .int .i64 v24), (86, .bool v195)], [.obj b6 (.cells [.int .i64 x1, .slice (some ⟨b164, o165, none⟩) l2.length c4] .own), .ro b164 o165 2 l2.length (l2.map (eP (eI .i64) (eI .i64))), .rd (some ⟨b164, o165, none⟩) c4 2 l2.length (l2.map (eP (eI .i64) (eI .i64)))]⟩) v195) ?_ ?_
       ·clear hF
        revert v195
        intro r hF
        refine Wk.region <| Wo.od (o_mv rfl) rfl <| Wo.od (o_bi rfl rfl (bin_gtr _ _ _)) rfl <| Wo.od (o_mv rfl) rfl ?_
        rcases br_some hF with ⟨h196, hF⟩ | ⟨h196, hF⟩
        ·refine Wo.og (o_fa (r := ptr b6 1) rfl (fa34_1 _ _)) (gg rfl rfl (eTT h196)) rfl <| Wo.og (o_ld (k := 0) t32 rfl rfl rfl) (gg rfl rfl (eTT h196)) rfl <| Wo.og (o_mv rfl) (gg rfl rfl (eTT h196)) rfl <| Wo.og (o_bi rfl rfl (bin_sub _ _ _)) (gg rfl rfl (eTT h196)) rfl ?_
         obtain ⟨h197, hF⟩ := gd_some hF
         replace h197 := inB_some h197
         refine Wo.og (o_ixs s32 rfl rfl h197) (gg rfl rfl (eTT h196)) rfl <| Wo.og (o_ia (r := ptr b164 (o165 + (IntKind.wrap .i64 (v24 - 1)).toNat * 2 + 0)) rfl rfl (ia_c ar43 (i := 0) (by decide))) (gg rfl rfl (eTT h196)) rfl ?_
         obtain ⟨⟨x198, x199⟩, h200, hF⟩ := ob_some hF
         refine Wo.og (o_ldr (k := 1) t3 rfl rfl (map_at h200) rfl rfl) (gg rfl rfl (eTT h196)) rfl <| Wo.og (o_mv rfl) (gg rfl rfl (eTT h196)) rfl <| Wo.og (o_bi rfl rfl (bin_gtr _ _ _)) (gg rfl rfl (eTT h196)) rfl <| Wo.og (o_mv rfl) (gg rfl rfl (eTT h196)) rfl ?_
         rcases br_some hF with ⟨h201, hF⟩ | ⟨h201, hF⟩
         ·refine Wo.s (gg rfl rfl (eTF h201)) rfl <| Wo.s (gg rfl rfl (eTF h201)) rfl <| Wo.s (gg rfl rfl (eTF h201)) rfl <| Wo.s (gg rfl rfl (eTF h201)) rfl <| Wo.s (gg rfl rfl (eTF h201)) rfl <| Wo.s (gg rfl rfl (eTF h201)) rfl <| Wo.s (gg rfl rfl (eTF h201)) rfl <| Wo.s (gg rfl rfl (eTF h201)) rfl <| Wo.s (gg rfl rfl (eTF h201)) rfl <| Wo.s (gg rfl rfl (eTF h201)) rfl ?_
          refine Wo.s (gu rfl rfl) rfl <| Wo.s (gu rfl rfl) rfl <| Wo.s (gu rfl rfl) rfl <| Wo.s (gu rfl rfl) rfl <| Wo.s (gu rfl rfl) rfl <| Wo.s (gu rfl rfl) rfl <| Wo.s (gu rfl rfl) rfl <| Wo.s (gu rfl rfl) rfl <| Wo.s (gu rfl rfl) rfl <| Wo.s (gg rfl rfl (eTF h201)) rfl ?_
          refine Wo.og (o_pt rfl h201 rfl) (gg rfl rfl (eTT h196)) rfl <| Wo.od (o_pt rfl h196 rfl) rfl <| Wo.nil ?_
          cases hF
          exact At.en () rfl (sc rfl (sc rfl (sc rfl sn))) (Turn.picks [0, 1, 2] rfl rfl)
         ·refine Wo.og (o_fa (r := ptr b6 1) rfl (fa34_1 _ _)) (gg rfl rfl (eFF h201)) rfl <| Wo.og (o_ld (k := 0) t32 rfl rfl rfl) (gg rfl rfl (eFF h201)) rfl <| Wo.og (o_mv rfl) (gg rfl rfl (eFF h201)) rfl <| Wo.og (o_bi rfl rfl (bin_sub _ _ _)) (gg rfl rfl (eFF h201)) rfl ?_
          obtain ⟨h202, hF⟩ := gd_some hF
          replace h202 := inB_some h202
          refine Wo.og (o_ixs s32 rfl rfl h202) (gg rfl rfl (eFF h201)) rfl <| Wo.og (o_ia (r := ptr b164 (o165 + (IntKind.wrap .i64 (v24 - 1)).toNat * 2 + 0)) rfl rfl (ia_c ar43 (i := 0) (by decide))) (gg rfl rfl (eFF h201)) rfl <| Wo.og (o_ldr (k := 1) t3 rfl rfl (map_at h200) rfl rfl) (gg rfl rfl (eFF h201)) rfl <| Wo.og (o_mv rfl) (gg rfl rfl (eFF h201)) rfl <| Wo.og (o_bi rfl rfl (bin_eql _ _ _)) (gg rfl rfl (eFF h201)) rfl <| Wo.og (o_mv rfl) (gg rfl rfl (eFF h201)) rfl ?_
          rcases br_some hF with ⟨h203, hF⟩ | ⟨h203, hF⟩
          ·refine Wo.og (o_fa (r := ptr b6 1) rfl (fa34_1 _ _)) (gg rfl rfl (eTT h203)) rfl <| Wo.og (o_ld (k := 0) t32 rfl rfl rfl) (gg rfl rfl (eTT h203)) rfl <| Wo.og (o_mv rfl) (gg rfl rfl (eTT h203)) rfl <| Wo.og (o_bi rfl rfl (bin_sub _ _ _)) (gg rfl rfl (eTT h203)) rfl ?_
           obtain ⟨h204, hF⟩ := gd_some hF
           replace h204 := inB_some h204
           refine Wo.og (o_ixs s32 rfl rfl h204) (gg rfl rfl (eTT h203)) rfl <| Wo.og (o_ia (r := ptr b164 (o165 + (IntKind.wrap .i64 (v24 - 1)).toNat * 2 + 1)) rfl rfl (ia_c ar43 (i := 1) (by decide))) (gg rfl rfl (eTT h203)) rfl <| Wo.og (o_ldr (k := 1) t3 rfl rfl (map_at h200) rfl rfl) (gg rfl rfl (eTT h203)) rfl <| Wo.og (o_mv rfl) (gg rfl rfl (eTT h203)) rfl <| Wo.og (o_bi rfl rfl (bin_geq _ _ _)) (gg rfl rfl (eTT h203)) rfl <| Wo.og (o_pt rfl h203 rfl) (gg rfl rfl (eFF h201)) rfl <| Wo.og (o_pf rfl h201 rfl) (gg rfl rfl (eTT h196)) rfl <| Wo.od (o_pt rfl h196 rfl) rfl <| Wo.nil ?_
           cases hF
           exact At.en () rfl (sc rfl (sc rfl (sc rfl sn))) (Turn.picks [0, 1, 2] rfl rfl)
          ·refine Wo.s (gg rfl rfl (eFT h203)) rfl <| Wo.s (gg rfl rfl (eFT h203)) rfl <| Wo.s (gg rfl rfl (eFT h203)) rfl <| Wo.s (gg rfl rfl (eFT h203)) rfl <| Wo.s (gg rfl rfl (eFT h203)) rfl <| Wo.s (gg rfl rfl (eFT h203)) rfl <| Wo.s (gg rfl rfl (eFT h203)) rfl <| Wo.s (gg rfl rfl (eFT h203)) rfl <| Wo.s (gg rfl rfl (eFT h203)) rfl <| Wo.og (o_pf rfl h203 rfl) (gg rfl rfl (eFF h201)) rfl ?_
           refine Wo.og (o_pf rfl h201 rfl) (gg rfl rfl (eTT h196)) rfl <| Wo.od (o_pt rfl h196 rfl) rfl <| Wo.nil ?_
           cases hF
           exact At.en () rfl (sc rfl (sc rfl (sc rfl sn))) (Turn.picks [0, 1, 2] rfl rfl)
        ·refine Wo.s (gg rfl rfl (eFT h196)) rfl <| Wo.s (gg rfl rfl (eFT h196)) rfl <| Wo.s (gg rfl rfl (eFT h196)) rfl <| Wo.s (gg rfl rfl (eFT h196)) rfl <| Wo.s (gg rfl rfl (eFT h196)) rfl <| Wo.s (gg rfl rfl (eFT h196)) rfl <| Wo.s (gg rfl rfl (eFT h196)) rfl <| Wo.s (gg rfl rfl (eFT h196)) rfl <| Wo.s (gg rfl rfl (eFT h196)) rfl <| Wo.s (gg rfl rfl (eFT h196)) rfl ?_
         refine Wo.s (gu rfl rfl) rfl <| Wo.s (gu rfl rfl) rfl <| Wo.s (gu rfl rfl) rfl <| Wo.s (gu rfl rfl) rfl <| Wo.s (gu rfl rfl) rfl <| Wo.s (gu rfl rfl) rfl <| Wo.s (gu rfl rfl) rfl <| Wo.s (gu rfl rfl) rfl <| Wo.s (gu rfl rfl) rfl <| Wo.s (gu rfl rfl) rfl ?_
         refine Wo.s (gu rfl rfl) rfl <| Wo.s (gu rfl rfl) rfl <| Wo.s (gu rfl rfl) rfl <| Wo.s (gu rfl rfl) rfl <| Wo.s (gu rfl rfl) rfl <| Wo.s (gu rfl rfl) rfl <| Wo.s (gu rfl rfl) rfl <| Wo.s (gu rfl rfl) rfl <| Wo.s (gu rfl rfl) rfl <| Wo.s (gu rfl rfl) rfl ?_
         refine Wo.s (gg rfl rfl (eFT h196)) rfl <| Wo.od (o_pf rfl h196 rfl) rfl <| Wo.nil ?_
         cases hF
         exact At.en () rfl (sc rfl (sc rfl (sc rfl sn))) (Turn.picks [0, 1, 2] rfl rfl)
       ·clear h205
        rintro ⟨⟩
        refine At.tn ?_
        rcases br_some hF with ⟨h207, hF⟩ | ⟨h207, hF⟩
        ·refine Wk.condT rfl h207 <| Wk.seq <| Wk.region <| Wo.od (o_as rfl) rfl <| Wo.nil <| At.tn <| Wk.ret <| At.br <| At.tr ?_
         cases hF
         exact At.en () rfl (sc rfl sn) (Turn.picks [] rfl rfl)
        ·refine Wk.condF rfl h207 <| Wk.skip <| At.bn <| At.tn <| Wk.region <| Wo.od (o_mv rfl) rfl <| Wo.od (o_bi rfl rfl (bin_add _ _ _)) rfl <| Wo.od (o_as rfl) rfl <| Wo.nil ?_
         cases hF
         exact At.en () rfl (sc rfl (sc rfl sn)) (Turn.picks [0, 2] rfl rfl)
    ·refine Wk.condF rfl h117 <| Wk.exit <| At.te ?_
     cases hF
     exact At.en () rfl sn (Turn.picks [] rfl rfl)
   ·clear h208
    rcases r209 with _ | _
    ·rintro ⟨⟩
     refine At.br <| At.tr ?_
     cases hF
     exact At.ret (.tmp rfl .nil) fun m' hm => ⟨(), rfl, (Turn.picks [] rfl rfl) m' hm⟩
    ·rintro ⟨⟩
     refine At.be <| At.tn <| Wk.seq <| Wk.region <| Wo.od (o_as rfl) rfl <| Wo.nil <| At.tn <| Wk.ret ?_
     cases hF
     exact At.ret (.tmp rfl .nil) fun m' hm => ⟨(), rfl, (Turn.picks [] rfl rfl) m' hm⟩
theorem f114_ok (n : Nat) (x1 : Int) (l2 : List (Int × Int)) (x6 : Nat) (a3 : Option Addr) (c4 : Nat) (r : Int) (hF : F114 n x1 l2 x6 = some r) (m : AMem) (h5 : Rd m a3 c4 2 l2.length (l2.map (eP (eI .i64) (eI .i64)))) :
  CallA E30w 114 [.agg #[.int .i64 x1, .slice a3 l2.length c4], .int .u64 ((x6 : Nat) : Int)] m (fun v m' => ∃ x : Unit, v = .int .i64 r ∧ Hp m m' []) := by
 unfold F114 at hF
 refine call_wk (m0 := m) (ps := [.rd a3 c4 2 l2.length (l2.map (eP (eI .i64) (eI .i64)))]) (N := 22) (rs := [.tmp 4]) rfl Tryz.func114 rfl rfl rfl ((Hp.start m).inn rfl h5) <| Wk.seq <| Wk.region <| Wo.x (o_bx rfl) gn rfl fun b7 => ?_
 refine Wo.od (o_as rfl) rfl <| Wo.nil <| At.tn <| Wk.seq <| Wk.seq <| Wk.region <| Wo.od (o_ld (k := 0) t34 rfl rfl rfl) rfl ?_
 obtain ⟨r9, h8, hF⟩ := ob_some hF
 refine Wo.x (o_cl rfl rfl (fun m hm => f52_ok n x1 l2 a3 c4 _ h8 m (hm.rd (k := 1) rfl (.rd _ _ _ _ _))) fun _ => rfl) gn rfl ?_
 rintro ⟨⟩
 refine Wo.od (o_as rfl) rfl <| Wo.nil <| At.tn <| Wk.seq <| Wk.region <| Wo.od (o_mv rfl) rfl <| Wo.od (o_bi rfl rfl (ib_neq _ _)) rfl <| Wo.nil <| At.tn ?_
 rcases br_some hF with ⟨h10, hF⟩ | ⟨h10, hF⟩
 ·refine Wk.condT rfl h10 <| Wk.seq <| Wk.region <| Wo.od (o_mv rfl) rfl <| Wo.od (o_as rfl) rfl <| Wo.nil <| At.tn <| Wk.ret <| At.tr ?_
  have hr := Option.some.inj hF
  subst r
  exact At.ret (.tmp rfl .nil) fun m' hm => ⟨(), rfl, (Turn.picks [] rfl rfl) m' hm⟩
 ·refine Wk.condF rfl h10 <| Wk.skip <| At.tn <| Wk.seq <| Wk.seq ?_
  obtain ⟨v18, h20, hF⟩ := ob_some hF
  refine Wk.cut (G := (fun (r : Bool) (g : Unit) => match r, g with | v18, _ => ⟨.normal, [(21, .bool v18)], []⟩) v18) ?_ ?_
  ·clear hF
   revert v18
   intro r hF
   refine Wk.region <| Wo.od (o_fa (r := ptr b7 0) rfl (fa34_0 _ _)) rfl <| Wo.od (o_ld (k := 0) t3 rfl rfl rfl) rfl <| Wo.od (o_bi rfl rfl (bin_lss _ _ _)) rfl <| Wo.od (o_mv rfl) rfl ?_
   rcases br_some hF with ⟨h19, hF⟩ | ⟨h19, hF⟩
   ·refine Wo.og (o_mv rfl) (gg rfl rfl (eTT h19)) rfl <| Wo.og (o_fa (r := ptr b7 0) rfl (fa34_0 _ _)) (gg rfl rfl (eTT h19)) rfl <| Wo.og (o_ld (k := 0) t3 rfl rfl rfl) (gg rfl rfl (eTT h19)) rfl <| Wo.og (o_cv rfl (cv_u (by rw [u3]; rfl) u42 rfl)) (gg rfl rfl (eTT h19)) rfl <| Wo.og (o_bi rfl rfl (ub_shr _ _ (nn _))) (gg rfl rfl (eTT h19)) rfl <| Wo.og (o_bi rfl rfl (ub_neq _ _)) (gg rfl rfl (eTT h19)) rfl <| Wo.od (o_pt rfl h19 rfl) rfl <| Wo.nil ?_
    cases hF
    exact At.en () rfl (sc rfl sn) (Turn.picks [] rfl rfl)
   ·refine Wo.s (gg rfl rfl (eFT h19)) rfl <| Wo.s (gg rfl rfl (eFT h19)) rfl <| Wo.s (gg rfl rfl (eFT h19)) rfl <| Wo.s (gg rfl rfl (eFT h19)) rfl <| Wo.s (gg rfl rfl (eFT h19)) rfl <| Wo.s (gg rfl rfl (eFT h19)) rfl <| Wo.od (o_pf rfl h19 rfl) rfl <| Wo.nil ?_
    cases hF
    exact At.en () rfl (sc rfl sn) (Turn.picks [] rfl rfl)
  ·clear h20
   rintro ⟨⟩
   refine At.tn ?_
   rcases br_some hF with ⟨h22, hF⟩ | ⟨h22, hF⟩
   ·refine Wk.condT rfl h22 <| Wk.seq <| Wk.region <| Wo.od (o_as rfl) rfl <| Wo.nil <| At.tn <| Wk.ret <| At.tr ?_
    cases hF
    exact At.ret (.tmp rfl .nil) fun m' hm => ⟨(), rfl, (Turn.picks [] rfl rfl) m' hm⟩
   ·refine Wk.condF rfl h22 <| Wk.skip <| At.tn <| Wk.seq <| Wk.region <| Wo.od (o_as rfl) rfl <| Wo.nil <| At.tn <| Wk.ret ?_
    cases hF
    exact At.ret (.tmp rfl .nil) fun m' hm => ⟨(), rfl, (Turn.picks [] rfl rfl) m' hm⟩
theorem f57_ok (n : Nat) (x1 : Int) (l2 : List (Int × Int)) (x6 : Nat) (a3 : Option Addr) (c4 : Nat) (r : Int) (hF : F57 n x1 l2 x6 = some r) (m : AMem) (h5 : Rd m a3 c4 2 l2.length (l2.map (eP (eI .i64) (eI .i64)))) :
  CallA E30w 57 [.agg #[.int .i64 x1, .slice a3 l2.length c4], .int .u64 ((x6 : Nat) : Int)] m (fun v m' => ∃ x : Unit, v = .int .i64 r ∧ Hp m m' []) := by
 unfold F57 at hF
 refine call_wk (m0 := m) (ps := [.rd a3 c4 2 l2.length (l2.map (eP (eI .i64) (eI .i64)))]) (N := 16) (rs := [.tmp 4]) rfl Tryz.func57 rfl rfl rfl ((Hp.start m).inn rfl h5) <| Wk.seq <| Wk.region <| Wo.x (o_bx rfl) gn rfl fun b7 => ?_
 refine Wo.od (o_as rfl) rfl <| Wo.nil <| At.tn <| Wk.seq <| Wk.seq <| Wk.region <| Wo.od (o_ld (k := 0) t34 rfl rfl rfl) rfl ?_
 obtain ⟨r9, h8, hF⟩ := ob_some hF
 refine Wo.x (o_cl rfl rfl (fun m hm => f52_ok n x1 l2 a3 c4 _ h8 m (hm.rd (k := 1) rfl (.rd _ _ _ _ _))) fun _ => rfl) gn rfl ?_
 rintro ⟨⟩
 refine Wo.od (o_as rfl) rfl <| Wo.nil <| At.tn <| Wk.seq <| Wk.region <| Wo.od (o_mv rfl) rfl <| Wo.od (o_bi rfl rfl (ib_neq _ _)) rfl <| Wo.nil <| At.tn ?_
 rcases br_some hF with ⟨h10, hF⟩ | ⟨h10, hF⟩
 ·refine Wk.condT rfl h10 <| Wk.seq <| Wk.region <| Wo.od (o_mv rfl) rfl <| Wo.od (o_as rfl) rfl <| Wo.nil <| At.tn <| Wk.ret <| At.tr ?_
  have hr := Option.some.inj hF
  subst r
  exact At.ret (.tmp rfl .nil) fun m' hm => ⟨(), rfl, (Turn.picks [] rfl rfl) m' hm⟩
 ·refine Wk.condF rfl h10 <| Wk.skip <| At.tn <| Wk.seq <| Wk.seq <| Wk.region <| Wo.od (o_mv rfl) rfl <| Wo.od (o_bi rfl rfl (ub_eql _ _)) rfl <| Wo.nil <| At.tn ?_
  rcases br_some hF with ⟨h11, hF⟩ | ⟨h11, hF⟩
  ·refine Wk.condT rfl h11 <| Wk.seq <| Wk.region <| Wo.od (o_as rfl) rfl <| Wo.nil <| At.tn <| Wk.ret <| At.tr ?_
   cases hF
   exact At.ret (.tmp rfl .nil) fun m' hm => ⟨(), rfl, (Turn.picks [] rfl rfl) m' hm⟩
  ·refine Wk.condF rfl h11 <| Wk.skip <| At.tn <| Wk.seq <| Wk.region <| Wo.od (o_ld (k := 0) t34 rfl rfl rfl) rfl <| Wo.od (o_mv rfl) rfl ?_
   obtain ⟨r13, h12, hF⟩ := ob_some hF
   refine Wo.x (o_cl rfl rfl (fun m hm => f114_ok n x1 l2 x6 a3 c4 _ h12 m (hm.rd (k := 1) rfl (.rd _ _ _ _ _))) fun _ => rfl) gn rfl ?_
   rintro ⟨⟩
   refine Wo.od (o_as rfl) rfl <| Wo.nil <| At.tn <| Wk.ret ?_
   have hr := Option.some.inj hF
   subst r
   exact At.ret (.tmp rfl .nil) fun m' hm => ⟨(), rfl, (Turn.picks [] rfl rfl) m' hm⟩
theorem f63_ok (n : Nat) (x1 : Int) (l2 : List (Int × Int)) (x6 : Nat) (x7 : Int) (a3 : Option Addr) (c4 : Nat) (r : Bool) (hF : F63 n x1 l2 x6 x7 = some r) (m : AMem) (h5 : Rd m a3 c4 2 l2.length (l2.map (eP (eI .i64) (eI .i64)))) :
  CallA E30w 63 [.agg #[.int .i64 x1, .slice a3 l2.length c4], .int .u64 ((x6 : Nat) : Int), .int .i64 x7] m (fun v m' => ∃ x : Unit, v = .bool r ∧ Hp m m' []) := by
 unfold F63 at hF
 refine call_wk (m0 := m) (ps := [.rd a3 c4 2 l2.length (l2.map (eP (eI .i64) (eI .i64)))]) (N := 36) (rs := [.tmp 6]) rfl Tryz.func63 rfl rfl rfl ((Hp.start m).inn rfl h5) <| Wk.seq <| Wk.region <| Wo.x (o_bx rfl) gn rfl fun b8 => ?_
 refine Wo.od (o_as rfl) rfl <| Wo.nil <| At.tn <| Wk.seq <| Wk.region <| Wo.od (o_mv rfl) rfl <| Wo.od (o_bi rfl rfl (bin_geq _ _ _)) rfl <| Wo.od (o_mv rfl) rfl ?_
 rcases br_some hF with ⟨h9, hF⟩ | ⟨h9, hF⟩
 ·refine Wo.og (o_mv rfl) (gg rfl rfl (eTT h9)) rfl <| Wo.og (o_fa (r := ptr b8 1) rfl (fa34_1 _ _)) (gg rfl rfl (eTT h9)) rfl <| Wo.og (o_ld (k := 0) t32 rfl rfl rfl) (gg rfl rfl (eTT h9)) rfl <| Wo.og (o_ln (k := 1) u32 rfl rfl (.inl rfl)) (gg rfl rfl (eTT h9)) rfl <| Wo.og (o_bi rfl rfl (bin_lss _ _ _)) (gg rfl rfl (eTT h9)) rfl <| Wo.od (o_pt rfl h9 rfl) rfl <| Wo.od (o_mv rfl) rfl ?_
  rcases br_some hF with ⟨h10, hF⟩ | ⟨h10, hF⟩
  ·refine Wo.og (o_mv rfl) (gg rfl rfl (eTT h10)) rfl <| Wo.og (o_fa (r := ptr b8 1) rfl (fa34_1 _ _)) (gg rfl rfl (eTT h10)) rfl <| Wo.og (o_ld (k := 0) t32 rfl rfl rfl) (gg rfl rfl (eTT h10)) rfl <| Wo.og (o_mv rfl) (gg rfl rfl (eTT h10)) rfl ?_
   obtain ⟨h11, hF⟩ := gd_some hF
   replace h11 := inB_some h11
   refine Wo.openr (k := 1) rfl (pos_of h11) ?_
   rintro b12 o13 rfl
   refine Wo.og (o_ixs s32 rfl rfl h11) (gg rfl rfl (eTT h10)) rfl <| Wo.og (o_ia (r := ptr b12 (o13 + x7.toNat * 2 + 0)) rfl rfl (ia_c ar43 (i := 0) (by decide))) (gg rfl rfl (eTT h10)) rfl ?_
   obtain ⟨⟨x14, x15⟩, h16, hF⟩ := ob_some hF
   refine Wo.og (o_ldr (k := 0) t3 rfl rfl (map_at h16) rfl rfl) (gg rfl rfl (eTT h10)) rfl ?_
   obtain ⟨r18, h17, hF⟩ := ob_some hF
   refine Wo.x (o_cl rfl rfl (fun m hm => f86_ok n x6 x14  _ h17 m ) fun _ => rfl) (gg rfl rfl (eTT h10)) rfl ?_
   rintro ⟨⟩
   refine Wo.od (o_pt rfl h10 rfl) rfl <| Wo.od (o_mv rfl) rfl ?_
   rcases br_some hF with ⟨h19, hF⟩ | ⟨h19, hF⟩
   ·refine Wo.og (o_mv rfl) (gg rfl rfl (eTT h19)) rfl <| Wo.og (o_fa (r := ptr b8 1) rfl (fa34_1 _ _)) (gg rfl rfl (eTT h19)) rfl <| Wo.og (o_ld (k := 1) t32 rfl rfl rfl) (gg rfl rfl (eTT h19)) rfl <| Wo.og (o_mv rfl) (gg rfl rfl (eTT h19)) rfl ?_
    obtain ⟨h20, hF⟩ := gd_some hF
    replace h20 := inB_some h20
    refine Wo.og (o_ixs s32 rfl rfl h20) (gg rfl rfl (eTT h19)) rfl <| Wo.og (o_ia (r := ptr b12 (o13 + x7.toNat * 2 + 1)) rfl rfl (ia_c ar43 (i := 1) (by decide))) (gg rfl rfl (eTT h19)) rfl <| Wo.og (o_ldr (k := 0) t3 rfl rfl (map_at h16) rfl rfl) (gg rfl rfl (eTT h19)) rfl ?_
    obtain ⟨r22, h21, hF⟩ := ob_some hF
    refine Wo.x (o_cl rfl rfl (fun m hm => f86_ok n x6 x15  _ h21 m ) fun _ => rfl) (gg rfl rfl (eTT h19)) rfl ?_
    rintro ⟨⟩
    refine Wo.od (o_pt rfl h19 rfl) rfl <| Wo.od (o_as rfl) rfl <| Wo.nil <| At.tn <| Wk.ret ?_
    have hr := Option.some.inj hF
    subst r
    exact At.ret (.tmp rfl .nil) fun m' hm => ⟨(), rfl, (Turn.picks [] rfl rfl) m' hm⟩
   ·refine Wo.s (gg rfl rfl (eFT h19)) rfl <| Wo.s (gg rfl rfl (eFT h19)) rfl <| Wo.s (gg rfl rfl (eFT h19)) rfl <| Wo.s (gg rfl rfl (eFT h19)) rfl <| Wo.s (gg rfl rfl (eFT h19)) rfl <| Wo.s (gg rfl rfl (eFT h19)) rfl <| Wo.s (gg rfl rfl (eFT h19)) rfl <| Wo.s (gg rfl rfl (eFT h19)) rfl <| Wo.od (o_pf rfl h19 rfl) rfl <| Wo.od (o_as rfl) rfl ?_
    refine Wo.nil <| At.tn <| Wk.ret ?_
    cases hF
    exact At.ret (.tmp rfl .nil) fun m' hm => ⟨(), rfl, (Turn.picks [] rfl rfl) m' hm⟩
  ·refine Wo.s (gg rfl rfl (eFT h10)) rfl <| Wo.s (gg rfl rfl (eFT h10)) rfl <| Wo.s (gg rfl rfl (eFT h10)) rfl <| Wo.s (gg rfl rfl (eFT h10)) rfl <| Wo.s (gg rfl rfl (eFT h10)) rfl <| Wo.s (gg rfl rfl (eFT h10)) rfl <| Wo.s (gg rfl rfl (eFT h10)) rfl <| Wo.s (gg rfl rfl (eFT h10)) rfl <| Wo.od (o_pf rfl h10 rfl) rfl <| Wo.od (o_mv rfl) rfl ?_
   refine Wo.s (gg rfl rfl rfl) rfl <| Wo.s (gg rfl rfl rfl) rfl <| Wo.s (gg rfl rfl rfl) rfl <| Wo.s (gg rfl rfl rfl) rfl <| Wo.s (gg rfl rfl rfl) rfl <| Wo.s (gg rfl rfl rfl) rfl <| Wo.s (gg rfl rfl rfl) rfl <| Wo.s (gg rfl rfl rfl) rfl <| Wo.od (o_pF rfl rfl) rfl <| Wo.od (o_as rfl) rfl ?_
   refine Wo.nil <| At.tn <| Wk.ret ?_
   cases hF
   exact At.ret (.tmp rfl .nil) fun m' hm => ⟨(), rfl, (Turn.picks [] rfl rfl) m' hm⟩
 ·refine Wo.s (gg rfl rfl (eFT h9)) rfl <| Wo.s (gg rfl rfl (eFT h9)) rfl <| Wo.s (gg rfl rfl (eFT h9)) rfl <| Wo.s (gg rfl rfl (eFT h9)) rfl <| Wo.s (gg rfl rfl (eFT h9)) rfl <| Wo.od (o_pf rfl h9 rfl) rfl <| Wo.od (o_mv rfl) rfl <| Wo.s (gg rfl rfl rfl) rfl <| Wo.s (gg rfl rfl rfl) rfl <| Wo.s (gg rfl rfl rfl) rfl ?_
  refine Wo.s (gg rfl rfl rfl) rfl <| Wo.s (gg rfl rfl rfl) rfl <| Wo.s (gg rfl rfl rfl) rfl <| Wo.s (gg rfl rfl rfl) rfl <| Wo.s (gg rfl rfl rfl) rfl <| Wo.od (o_pF rfl rfl) rfl <| Wo.od (o_mv rfl) rfl <| Wo.s (gg rfl rfl rfl) rfl <| Wo.s (gg rfl rfl rfl) rfl <| Wo.s (gg rfl rfl rfl) rfl ?_
  refine Wo.s (gg rfl rfl rfl) rfl <| Wo.s (gg rfl rfl rfl) rfl <| Wo.s (gg rfl rfl rfl) rfl <| Wo.s (gg rfl rfl rfl) rfl <| Wo.s (gg rfl rfl rfl) rfl <| Wo.od (o_pF rfl rfl) rfl <| Wo.od (o_as rfl) rfl <| Wo.nil <| At.tn <| Wk.ret ?_
  cases hF
  exact At.ret (.tmp rfl .nil) fun m' hm => ⟨(), rfl, (Turn.picks [] rfl rfl) m' hm⟩
theorem f84_ok (n : Nat) (x1 : Int) (l2 : List (Int × Int)) (l6 : List (Int)) (x10 : Int) (a3 : Option Addr) (c4 : Nat) (a7 : Option Addr) (c8 : Nat) (r : Nat) (hF : F84 n x1 l2 l6 x10 = some r) (m : AMem) (h5 : Rd m a3 c4 2 l2.length (l2.map (eP (eI .i64) (eI .i64)))) (h9 : Rd m a7 c8 1 l6.length (l6.map (eI .i64))) :
  CallA E30w 84 [.agg #[.int .i64 x1, .slice a3 l2.length c4], .slice a7 l6.length c8, .int .i64 x10] m (fun v m' => ∃ x : Unit, v = .int .u64 ((r : Nat) : Int) ∧ Hp m m' []) := by
 unfold F84 at hF
 refine call_wk (m0 := m) (ps := [.rd a7 c8 1 l6.length (l6.map (eI .i64)), .rd a3 c4 2 l2.length (l2.map (eP (eI .i64) (eI .i64)))]) (N := 58) (rs := [.tmp 6]) rfl Tryz.func84 rfl rfl rfl (((Hp.start m).inn rfl h5).inn rfl h9) <| Wk.seq <| Wk.region <| Wo.x (o_bx rfl) gn rfl fun b11 => ?_
 refine Wo.od (o_as rfl) rfl <| Wo.nil <| At.tn <| Wk.seq <| Wk.region <| Wo.od (o_mv rfl) rfl ?_
 obtain ⟨r13, h12, hF⟩ := ob_some hF
 refine Wo.x (o_cl rfl rfl (fun m hm => f106_ok n x10  _ h12 m ) fun _ => rfl) gn rfl ?_
 rintro ⟨⟩
 refine Wo.od (o_as rfl) rfl <| Wo.nil <| At.tn <| Wk.seq <| Wk.seq <| Wk.region <| Wo.od (o_as rfl) rfl <| Wo.nil <| At.tn <| Wk.block ?_
 obtain ⟨v170, h321, hF⟩ := ob_some hF
 refine Wk.cut (G := (fun (r : Nat) (g : Unit) => match r, g with | v170, _ => ⟨(.exit 0), [(7, .int .u64 ((v170 : Nat) : Int))], []⟩) v170) ?_ ?_
 ·refine Wk.weak (fs' := [(1, .slice a7 l6.length c8), (3, ptr b11 0), (7, .int .u64 ((r13 : Nat) : Int)), (8, .int .i64 0)]) (ps' := [.rd a7 c8 1 l6.length (l6.map (eI .i64)), .obj b11 (.cells [.int .i64 x1, .slice a3 l2.length c4] .own), .rd a3 c4 2 l2.length (l2.map (eP (eI .i64) (eI .i64)))]) (sc rfl (sc rfl (sc rfl (sc rfl sn)))) (Turn.picks [1, 0, 2] rfl rfl) ?_
  refine Wk.loop (σ := Nat × Int) (ρ := Nat) (γ := Unit) (δ := fun _ => Unit) _ (fun (s : Nat × Int) (g : Unit) => match s, g with | (v16, v17), _ => ⟨.normal, [(1, .slice a7 l6.length c8), (3, ptr b11 0), (7, .int .u64 ((v16 : Nat) : Int)), (8, .int .i64 v17)], [.rd a7 c8 1 l6.length (l6.map (eI .i64)), .obj b11 (.cells [.int .i64 x1, .slice a3 l2.length c4] .own), .rd a3 c4 2 l2.length (l2.map (eP (eI .i64) (eI .i64)))]⟩) (fun (r : Nat) (g : Unit) => match r, g with | v170, _ => ⟨(.exit 0), [(7, .int .u64 ((v170 : Nat) : Int))], []⟩) ?_ (fun _ _ => rfl) (fun r d => by intro e; cases e) _ _ _ h321 ()
  clear hF h321
  rintro ⟨v16, v17⟩ ⟨⟩ r hF
  unfold L84_2 at hF
  refine Wk.seq <| Wk.seq <| Wk.region <| Wo.od (o_mv rfl) rfl <| Wo.od (o_bi rfl rfl (bin_lss _ _ _)) rfl <| Wo.nil <| At.tn ?_
  rcases br_some hF with ⟨h171, hF⟩ | ⟨h171, hF⟩
  ·refine Wk.condT rfl h171 <| Wk.skip <| At.tn <| Wk.seq <| Wk.block <| Wk.seq <| Wk.region <| Wo.od (o_as rfl) rfl <| Wo.nil <| At.tn <| Wk.block ?_
   obtain ⟨v248, h319, hF⟩ := ob_some hF
   refine Wk.cut (G := (fun (r : Nat) (g : Unit) => match r, g with | v248, _ => ⟨(.exit 2), [(1, .slice a7 l6.length c8), (3, ptr b11 0), (7, .int .u64 ((v248 : Nat) : Int)), (8, .int .i64 v17)], [.rd a7 c8 1 l6.length (l6.map (eI .i64)), .obj b11 (.cells [.int .i64 x1, .slice a3 l2.length c4] .own), .rd a3 c4 2 l2.length (l2.map (eP (eI .i64) (eI .i64)))]⟩) v248) ?_ ?_
   ·refine Wk.weak (fs' := [(1, .slice a7 l6.length c8), (3, ptr b11 0), (7, .int .u64 ((v16 : Nat) : Int)), (8, .int .i64 v17), (9, .int .i64 0)]) (ps' := [.rd a7 c8 1 l6.length (l6.map (eI .i64)), .obj b11 (.cells [.int .i64 x1, .slice a3 l2.length c4] .own), .rd a3 c4 2 l2.length (l2.map (eP (eI .i64) (eI .i64)))]) (sc rfl (sc rfl (sc rfl (sc rfl (sc rfl sn))))) (Turn.picks [0, 1, 2] rfl rfl) ?_
    refine Wk.loop (σ := Nat × Int) (ρ := Nat) (γ := Unit) (δ := fun _ => Unit) _ (fun (s : Nat × Int) (g : Unit) => match s, g with | (v174, v175), _ => ⟨.normal, [(1, .slice a7 l6.length c8), (3, ptr b11 0), (7, .int .u64 ((v174 : Nat) : Int)), (8, .int .i64 v17), (9, .int .i64 v175)], [.rd a7 c8 1 l6.length (l6.map (eI .i64)), .obj b11 (.cells [.int .i64 x1, .slice a3 l2.length c4] .own), .rd a3 c4 2 l2.length (l2.map (eP (eI .i64) (eI .i64)))]⟩) (fun (r : Nat) (g : Unit) => match r, g with | v248, _ => ⟨(.exit 2), [(1, .slice a7 l6.length c8), (3, ptr b11 0), (7, .int .u64 ((v248 : Nat) : Int)), (8, .int .i64 v17)], [.rd a7 c8 1 l6.length (l6.map (eI .i64)), .obj b11 (.cells [.int .i64 x1, .slice a3 l2.length c4] .own), .rd a3 c4 2 l2.length (l2.map (eP (eI .i64) (eI .i64)))]⟩) ?_ (fun _ _ => rfl) (fun r d => by intro e; cases e) _ _ _ h319 ()
    clear hF h319
    rintro ⟨v174, v175⟩ ⟨⟩ r hF
    unfold L84_1 at hF
    refine Wk.seq <| Wk.seq <| Wk.region <| Wo.od (o_mv rfl) rfl <| Wo.od (o_mv rfl) rfl <| Wo.od (o_ln (k := 0) u49 rfl rfl (.inl rfl)) rfl <| Wo.od (o_bi rfl rfl (bin_lss _ _ _)) rfl <| Wo.nil <| At.tn ?_
    rcases br_some hF with ⟨h249, hF⟩ | ⟨h249, hF⟩
    ·refine Wk.condT rfl h249 <| Wk.skip <| At.tn <| Wk.seq ?_
     obtain ⟨v283, h317, hF⟩ := ob_some hF
     refine Wk.cut (G := (fun (r : Nat) (g : Unit) => match r, g with | v283, _ => ⟨.normal, [(1, .slice a7 l6.length c8), (3, ptr b11 0), (7, .int .u64 ((v283 : Nat) : Int)), (8, .int .i64 v17), (9, .int .i64 v175)], [.rd a7 c8 1 l6.length (l6.map (eI .i64)), .obj b11 (.cells [.int .i64 x1, .slice a3 l2.length c4] .own), .rd a3 c4 2 l2.length (l2.map (eP (eI .i64) (eI .i64)))]⟩) v283) ?_ ?_
     ·clear hF
      revert v283
      intro r hF
      refine Wk.block <| Wk.seq <| Wk.draw (by kernel_rfl) <| Wo.od (o_fa (r := ptr b11 1) rfl (fa34_1 _ _)) rfl <| Wo.od (o_ld (k := 1) t32 rfl rfl rfl) rfl <| Wo.od (o_mv rfl) rfl <| Wo.od (o_mv rfl) rfl ?_
      obtain ⟨h284, hF⟩ := gd_some hF
      replace h284 := inB_some h284
      refine Wo.openr (k := 0) rfl (pos_of h284) ?_
      rintro b285 o286 rfl
      refine Wo.og (o_ixs s49 rfl rfl h284) gn rfl ?_
      obtain ⟨x287, h288, hF⟩ := ob_some hF
      refine Wo.od (o_ldr (k := 0) t3 rfl rfl (map_at h288) rfl rfl) rfl ?_
      obtain ⟨h289, hF⟩ := gd_some hF
      replace h289 := inB_some h289
      refine Wo.openr (k := 3) rfl (pos_of h289) ?_
      rintro b290 o291 rfl
      refine Wo.og (o_ixs s32 rfl rfl h289) gn rfl <| Wo.od (o_ia (r := ptr b290 (o291 + x287.toNat * 2 + 0)) rfl rfl (ia_c ar43 (i := 0) (by decide))) rfl ?_
      obtain ⟨⟨x292, x293⟩, h294, hF⟩ := ob_some hF
      refine Wo.od (o_ldr (k := 0) t3 rfl rfl (map_at h294) rfl rfl) rfl <| Wo.od (o_fa (r := ptr b11 1) rfl (fa34_1 _ _)) rfl <| Wo.od (o_ld (k := 3) t32 rfl rfl rfl) rfl <| Wo.od (o_mv rfl) rfl <| Wo.od (o_mv rfl) rfl ?_
      obtain ⟨h295, hF⟩ := gd_some hF
      replace h295 := inB_some h295
      refine Wo.og (o_ixs s49 rfl rfl h295) gn rfl <| Wo.od (o_ldr (k := 1) t3 rfl rfl (map_at h288) rfl rfl) rfl ?_
      obtain ⟨h296, hF⟩ := gd_some hF
      replace h296 := inB_some h296
      refine Wo.og (o_ixs s32 rfl rfl h296) gn rfl <| Wo.od (o_ia (r := ptr b290 (o291 + x287.toNat * 2 + 1)) rfl rfl (ia_c ar43 (i := 1) (by decide))) rfl <| Wo.od (o_ldr (k := 0) t3 rfl rfl (map_at h294) rfl rfl) rfl <| Wo.od (o_as rfl) rfl <| Wo.od (o_as rfl) rfl <| Wo.nil <| At.tn <| Wk.seq ?_
      obtain ⟨v302, h308, hF⟩ := ob_some hF
      refine Wk.cut (G := (fun (r : Bool) (g : Unit) => match r, g with | v302, _ => ⟨.normal, [(1, .slice (some ⟨b285, o286, none⟩) l6.length c8), (3, ptr b11 0), (7, .int .u64 ((v174 : Nat) : Int)), (8, .int .i64 v17), (9, .int .i64 v175), (10, .int .i64 x292), (11, .int .i64 x293), (49, .bool v302)], [.ro b285 o286 1 l6.length (l6.map (eI .i64)), .rd (some ⟨b285, o286, none⟩) c8 1 l6.length (l6.map (eI .i64)), .obj b11 (.cells [.int .i64 x1, .slice (some ⟨b290, o291, none⟩) l2.length c4] .own), .ro b290 o291 2 l2.length (l2.map (eP (eI .i64) (eI .i64))), .rd (some ⟨b290, o291, none⟩) c4 2 l2.length (l2.map (eP (eI .i64) (eI .i64)))]⟩) v302) ?_ ?_
      ·clear hF
       revert v302
       intro r hF
       refine Wk.region <| Wo.od (o_mv rfl) rfl <| Wo.od (o_mv rfl) rfl ?_
       obtain ⟨r304, h303, hF⟩ := ob_some hF
       refine Wo.x (o_cl rfl rfl (fun m hm => f86_ok n v174 x292  _ h303 m ) fun _ => rfl) gn rfl ?_
       rintro ⟨⟩
       refine Wo.od (o_mv rfl) rfl ?_
       rcases br_some hF with ⟨h305, hF⟩ | ⟨h305, hF⟩
       ·refine Wo.s (gg rfl rfl (eTF h305)) rfl <| Wo.s (gg rfl rfl (eTF h305)) rfl <| Wo.s (gg rfl rfl (eTF h305)) rfl <| Wo.od (o_pt rfl h305 rfl) rfl <| Wo.nil ?_
        cases hF
        exact At.en () rfl (sc rfl (sc rfl (sc rfl (sc rfl (sc rfl (sc rfl (sc rfl (sc rfl sn)))))))) (Turn.picks [1, 2, 3, 0, 4] rfl rfl)
       ·refine Wo.og (o_mv rfl) (gg rfl rfl (eFF h305)) rfl <| Wo.og (o_mv rfl) (gg rfl rfl (eFF h305)) rfl ?_
        obtain ⟨r307, h306, hF⟩ := ob_some hF
        refine Wo.x (o_cl rfl rfl (fun m hm => f86_ok n v174 x293  _ h306 m ) fun _ => rfl) (gg rfl rfl (eFF h305)) rfl ?_
        rintro ⟨⟩
        refine Wo.od (o_pf rfl h305 rfl) rfl <| Wo.nil ?_
        have hr := Option.some.inj hF
        subst r
        exact At.en () rfl (sc rfl (sc rfl (sc rfl (sc rfl (sc rfl (sc rfl (sc rfl (sc rfl sn)))))))) (Turn.picks [1, 2, 3, 0, 4] rfl rfl)
      ·clear h308
       rintro ⟨⟩
       refine At.tn ?_
       rcases br_some hF with ⟨h310, hF⟩ | ⟨h310, hF⟩
       ·refine Wk.condT rfl h310 <| Wk.region <| Wo.od (o_mv rfl) rfl <| Wo.od (o_mv rfl) rfl ?_
        obtain ⟨r312, h311, hF⟩ := ob_some hF
        refine Wo.x (o_cl rfl rfl (fun m hm => f106_ok n x292  _ h311 m ) fun _ => rfl) gn rfl ?_
        rintro ⟨⟩
        refine Wo.od (o_bi rfl rfl (ub_or rfl _ _)) rfl <| Wo.od (o_mv rfl) rfl ?_
        obtain ⟨r314, h313, hF⟩ := ob_some hF
        refine Wo.x (o_cl rfl rfl (fun m hm => f106_ok n x293  _ h313 m ) fun _ => rfl) gn rfl ?_
        rintro ⟨⟩
        obtain ⟨y315, h316, hF⟩ := ob_some hF
        refine Wo.od (o_bi rfl rfl ((ub_or rfl _ _).trans (cN h316))) rfl <| Wo.od (o_as rfl) rfl <| Wo.nil <| At.bn ?_
        have hr := Option.some.inj hF
        subst r
        exact At.en () rfl (sc rfl (sc rfl (sc rfl (sc rfl (sc rfl sn))))) (Turn.picks [1, 2, 4] rfl rfl)
       ·refine Wk.condF rfl h310 <| Wk.skip <| At.bn ?_
        have hr := Option.some.inj hF
        subst r
        exact At.en () rfl (sc rfl (sc rfl (sc rfl (sc rfl (sc rfl sn))))) (Turn.picks [1, 2, 4] rfl rfl)
     ·clear h317
      rintro ⟨⟩
      refine At.tn <| Wk.region <| Wo.od (o_mv rfl) rfl <| Wo.od (o_bi rfl rfl (bin_add _ _ _)) rfl <| Wo.od (o_as rfl) rfl <| Wo.nil ?_
      cases hF
      exact At.en () rfl (sc rfl (sc rfl (sc rfl (sc rfl (sc rfl sn))))) (Turn.picks [0, 1, 2] rfl rfl)
    ·refine Wk.condF rfl h249 <| Wk.exit <| At.te ?_
     cases hF
     exact At.en () rfl (sc rfl (sc rfl (sc rfl (sc rfl sn)))) (Turn.picks [0, 1, 2] rfl rfl)
   ·clear h319
    rintro ⟨⟩
    refine At.be <| At.bn <| At.tn <| Wk.region <| Wo.od (o_mv rfl) rfl <| Wo.od (o_bi rfl rfl (bin_add _ _ _)) rfl <| Wo.od (o_as rfl) rfl <| Wo.nil ?_
    cases hF
    exact At.en () rfl (sc rfl (sc rfl (sc rfl (sc rfl sn)))) (Turn.picks [0, 1, 2] rfl rfl)
  ·refine Wk.condF rfl h171 <| Wk.exit <| At.te ?_
   cases hF
   exact At.en () rfl (sc rfl sn) (Turn.picks [] rfl rfl)
 ·clear h321
  rintro ⟨⟩
  refine At.be <| At.tn <| Wk.seq <| Wk.region <| Wo.od (o_mv rfl) rfl <| Wo.od (o_as rfl) rfl <| Wo.nil <| At.tn <| Wk.ret ?_
  have hr := Option.some.inj hF
  subst r
  exact At.ret (.tmp rfl .nil) fun m' hm => ⟨(), rfl, (Turn.picks [] rfl rfl) m' hm⟩
theorem r115_ok (n : Nat) : ∀ k : Nat, ∀ (x1 : Int) (l2 : List (Int × Int)) (x6 : Nat) (l7 : List (Int)) (a3 : Option Addr) (c4 : Nat) (a8 : Option Addr) (c9 : Nat) (r : List (List Int)) (hF : R115 n k x1 l2 x6 l7 = some r) (m : AMem) (h5 : Rd m a3 c4 2 l2.length (l2.map (eP (eI .i64) (eI .i64)))) (h10 : Rd m a8 c9 1 l7.length (l7.map (eI .i64))), CallA E30w 115 [.agg #[.int .i64 x1, .slice a3 l2.length c4], .int .u64 ((x6 : Nat) : Int), .slice a8 l7.length c9] m (fun v m' => ∃ x : Option Addr × Nat × (Nat → Prop), v = .slice x.1 x.2.1 x.2.1 ∧ Hp m m' [.gen (llG x.1 x.2.1 x.2.2 1 (eI .i64) r)]) := by
 intro k
 induction k with
 | zero => intro x1 l2 x6 l7 a3 c4 a8 c9 r hF m h5 h10; cases hF
 | succ k ih =>
  intro x1 l2 x6 l7 a3 c4 a8 c9 r hF m h5 h10
  replace hF : F115b n (R115 n k) x1 l2 x6 l7 = some r := hF
  unfold F115b at hF
  refine call_wk (m0 := m) (ps := [.rd a8 c9 1 l7.length (l7.map (eI .i64)), .rd a3 c4 2 l2.length (l2.map (eP (eI .i64) (eI .i64)))]) (N := 73) (rs := [.tmp 6]) rfl Tryz.func115 rfl rfl rfl (((Hp.start m).inn rfl h5).inn rfl h10) <| Wk.seq <| Wk.region <| Wo.x (o_bx rfl) gn rfl fun b11 => ?_
  refine Wo.od (o_as rfl) rfl <| Wo.nil <| At.tn <| Wk.seq <| Wk.seq <| Wk.region <| Wo.od (o_mv rfl) rfl <| Wo.od (o_ln (k := 1) u49 rfl rfl (.inl rfl)) rfl <| Wo.od (o_mv rfl) rfl ?_
  obtain ⟨r13, h12, hF⟩ := ob_some hF
  refine Wo.x (o_cl rfl rfl (fun m hm => f53_ok n x6  _ h12 m ) fun _ => rfl) gn rfl ?_
  rintro ⟨⟩
  refine Wo.od (o_bi rfl rfl (bin_sub _ _ _)) rfl <| Wo.od (o_bi rfl rfl (bin_eql _ _ _)) rfl <| Wo.nil <| At.tn ?_
  rcases br_some hF with ⟨h14, hF⟩ | ⟨h14, hF⟩
  ·refine Wk.condT rfl h14 <| Wk.seq <| Wk.region <| Wo.x (o_bs (es := ([] : List (Int)).map (eI .i64)) s49 rfl (bs_c s49 z3 rfl rfl) rfl rfl) gn rfl fun b15 => ?_
   refine Wo.od (o_mv rfl) rfl ?_
   obtain ⟨h16, hF⟩ := gd_some hF
   refine Wo.turn (Turn.close (k := 0) rfl) <| Wo.x (o_apl (k := 0) (k2 := 2) (xs := ([] : List (Int))) (ys := (l7 : List (Int))) (enI .i64) s49 ⟨_, u49⟩ rfl rfl rfl (.rd _ _ _ _ _) h16) gn rfl fun a17 => ?_
   refine Wo.x (o_bs (es := [[.slice a17 ((([] : List (Int)) ++ l7).length) ((([] : List (Int)) ++ l7).length)]]) s52 rfl (bs_c s52 z49 rfl rfl) rfl rfl) gn rfl fun b19 => ?_
   refine Wo.turn (Turn.mkLL1 (k := 0) (l := (([] : List (Int)) ++ l7)) (f := eI .i64) (w := 1) rfl) <| Wo.od (o_as rfl) rfl <| Wo.nil <| At.tn <| Wk.ret <| At.tr ?_
   cases hF
   exact At.ret (.tmp rfl .nil) fun m' hm => ⟨((some ⟨b19, 0, none⟩), 1, (fun b' => abk a17 = some b')), rfl, (Turn.picks [0] rfl rfl) m' hm⟩
  ·refine Wk.condF rfl h14 <| Wk.skip <| At.tn <| Wk.seq <| Wk.region <| Wo.od (o_as rfl) rfl <| Wo.nil <| At.tn <| Wk.seq ?_
   obtain ⟨v26, h33, hF⟩ := ob_some hF
   refine Wk.cut (G := (fun (r : Int) (g : Unit) => match r, g with | v26, _ => ⟨.normal, [(1, .int .u64 ((x6 : Nat) : Int)), (2, .slice a8 l7.length c9), (3, ptr b11 0), (7, .int .i64 v26)], [.rd a8 c9 1 l7.length (l7.map (eI .i64)), .obj b11 (.cells [.int .i64 x1, .slice a3 l2.length c4] .own), .rd a3 c4 2 l2.length (l2.map (eP (eI .i64) (eI .i64)))]⟩) v26) ?_ ?_
   ·clear hF
    revert v26
    intro r hF
    refine Wk.seq <| Wk.region <| Wo.od (o_mv rfl) rfl <| Wo.od (o_ln (k := 1) u49 rfl rfl (.inl rfl)) rfl <| Wo.od (o_bi rfl rfl (bin_gtr _ _ _)) rfl <| Wo.nil <| At.tn ?_
    rcases br_some hF with ⟨h27, hF⟩ | ⟨h27, hF⟩
    ·refine Wk.condT rfl h27 <| Wk.region <| Wo.od (o_mv rfl) rfl <| Wo.od (o_mv rfl) rfl <| Wo.od (o_ln (k := 1) u49 rfl rfl (.inl rfl)) rfl <| Wo.od (o_bi rfl rfl (bin_sub _ _ _)) rfl ?_
     obtain ⟨h28, hF⟩ := gd_some hF
     replace h28 := inB_some h28
     refine Wo.openr (k := 1) rfl (pos_of h28) ?_
     rintro b29 o30 rfl
     refine Wo.og (o_ixs s49 rfl rfl h28) gn rfl ?_
     obtain ⟨x31, h32, hF⟩ := ob_some hF
     refine Wo.od (o_ldr (k := 0) t3 rfl rfl (map_at h32) rfl rfl) rfl <| Wo.od (o_bi rfl rfl (bin_add _ _ _)) rfl <| Wo.od (o_as rfl) rfl <| Wo.nil ?_
     cases hF
     exact At.en () rfl (sc rfl (sc rfl (sc rfl (sc rfl sn)))) (Turn.picks [2, 1, 3] rfl rfl)
    ·refine Wk.condF rfl h27 <| Wk.skip ?_
     cases hF
     exact At.en () rfl (sc rfl (sc rfl (sc rfl (sc rfl sn)))) (Turn.picks [1, 0, 2] rfl rfl)
   ·clear h33
    rintro ⟨⟩
    refine At.tn <| Wk.seq <| Wk.region <| Wo.od (o_as rfl) rfl <| Wo.nil <| At.tn <| Wk.seq <| Wk.seq <| Wk.region <| Wo.od (o_mv rfl) rfl <| Wo.od (o_as rfl) rfl <| Wo.nil <| At.tn <| Wk.block ?_
    obtain ⟨l369, h534, hF⟩ := ob_some hF
    refine Wk.cut (G := (fun (r : List (List (Int))) (g : Option Addr × (Nat → Prop)) => match r, g with | l369, (a370, rr371) => ⟨(.exit 0), [(8, .slice a370 l369.length l369.length)], [.gen (llG a370 l369.length rr371 1 (eI .i64) l369)]⟩) l369) ?_ ?_
    ·refine Wk.weak (fs' := [(1, .int .u64 ((x6 : Nat) : Int)), (2, .slice a8 l7.length c9), (3, ptr b11 0), (8, .slice none ([] : List (List (Int))).length ([] : List (List (Int))).length), (9, .int .i64 v26)]) (ps' := [.rd a8 c9 1 l7.length (l7.map (eI .i64)), .obj b11 (.cells [.int .i64 x1, .slice a3 l2.length c4] .own), .rd a3 c4 2 l2.length (l2.map (eP (eI .i64) (eI .i64))), .gen (llG none ([] : List (List (Int))).length (fun _ => False) 1 (eI .i64) ([] : List (List (Int))))]) (sc rfl (sc rfl (sc rfl (sc rfl (sc rfl sn))))) (Turn.trans (Turn.nilLL (f := eI .i64) (w := 1)) (Turn.picks [1, 2, 3, 0] rfl rfl)) ?_
     refine Wk.loop (σ := List (List (Int)) × Int) (ρ := List (List (Int))) (γ := Option Addr × (Nat → Prop)) (δ := fun _ => Option Addr × (Nat → Prop)) _ (fun (s : List (List (Int)) × Int) (g : Option Addr × (Nat → Prop)) => match s, g with | (l199, v202), (a200, rr201) => ⟨.normal, [(1, .int .u64 ((x6 : Nat) : Int)), (2, .slice a8 l7.length c9), (3, ptr b11 0), (8, .slice a200 l199.length l199.length), (9, .int .i64 v202)], [.rd a8 c9 1 l7.length (l7.map (eI .i64)), .obj b11 (.cells [.int .i64 x1, .slice a3 l2.length c4] .own), .rd a3 c4 2 l2.length (l2.map (eP (eI .i64) (eI .i64))), .gen (llG a200 l199.length rr201 1 (eI .i64) l199)]⟩) (fun (r : List (List (Int))) (g : Option Addr × (Nat → Prop)) => match r, g with | l369, (a370, rr371) => ⟨(.exit 0), [(8, .slice a370 l369.length l369.length)], [.gen (llG a370 l369.length rr371 1 (eI .i64) l369)]⟩) ?_ (fun _ _ => rfl) (fun r d => by intro e; cases e) _ _ _ h534 (none, (fun _ => False))
     clear hF h534
     rintro ⟨l199, v202⟩ ⟨a200, rr201⟩ r hF
     unfold L115_1 at hF
     refine Wk.seq <| Wk.seq <| Wk.region <| Wo.od (o_mv rfl) rfl <| Wo.od (o_fa (r := ptr b11 1) rfl (fa34_1 _ _)) rfl <| Wo.od (o_ld (k := 1) t32 rfl rfl rfl) rfl <| Wo.od (o_ln (k := 2) u32 rfl rfl (.inl rfl)) rfl <| Wo.od (o_bi rfl rfl (bin_lss _ _ _)) rfl <| Wo.nil <| At.tn ?_
     rcases br_some hF with ⟨h372, hF⟩ | ⟨h372, hF⟩
     ·refine Wk.condT rfl h372 <| Wk.skip <| At.tn <| Wk.seq ?_
      obtain ⟨l451, h532, hF⟩ := ob_some hF
      refine Wk.cut (G := (fun (r : List (List (Int))) (g : Option Addr × (Nat → Prop)) => match r, g with | l451, (a452, rr453) => ⟨.normal, [(1, .int .u64 ((x6 : Nat) : Int)), (2, .slice a8 l7.length c9), (3, ptr b11 0), (8, .slice a452 l451.length l451.length), (9, .int .i64 v202)], [.rd a8 c9 1 l7.length (l7.map (eI .i64)), .obj b11 (.cells [.int .i64 x1, .slice a3 l2.length c4] .own), .rd a3 c4 2 l2.length (l2.map (eP (eI .i64) (eI .i64))), .gen (llG a452 l451.length rr453 1 (eI .i64) l451)]⟩) l451) ?_ ?_
      ·clear hF
       revert l451
       intro r hF
       refine Wk.block <| Wk.seq <| Wk.seq ?_
       obtain ⟨v500, h515, hF⟩ := ob_some hF
       refine Wk.cut (G := (fun (r : Bool) (g : Unit) => match r, g with | v500, _ => ⟨.normal, [(1, .int .u64 ((x6 : Nat) : Int)), (2, .slice a8 l7.length c9), (3, ptr b11 0), (8, .slice a200 l199.length l199.length), (9, .int .i64 v202), (60, .bool v500)], [.rd a8 c9 1 l7.length (l7.map (eI .i64)), .obj b11 (.cells [.int .i64 x1, .slice a3 l2.length c4] .own), .rd a3 c4 2 l2.length (l2.map (eP (eI .i64) (eI .i64))), .gen (llG a200 l199.length rr201 1 (eI .i64) l199)]⟩) v500) ?_ ?_
       ·clear hF
        revert v500
        intro r hF
        refine Wk.drawc (prs := [(14, 16), (14, 20)]) (by kernel_rfl) <| Wn.od (o_ld (k := 1) t34 rfl rfl rfl) rfl <| Wn.od (o_mv rfl) rfl <| Wn.od (o_mv rfl) rfl ?_
        obtain ⟨r502, h501, hF⟩ := ob_some hF
        refine Wn.c (o_ce rfl rfl (fun m hm => f63_ok n x1 l2 x6 v202 a3 c4 _ h501 m (hm.rd (k := 2) rfl (.rd _ _ _ _ _))) fun _ => rfl) gn rfl ?_
        rintro ⟨⟩
        refine Wn.od (o_un rfl rfl) rfl <| Wn.od (o_mv rfl) rfl ?_
        rcases br_some hF with ⟨h503, hF⟩ | ⟨h503, hF⟩
        ·refine Wn.s (gg rfl rfl (eTF h503)) rfl <| Wn.s (gg rfl rfl (eTF h503)) rfl <| Wn.s (gg rfl rfl (eTF h503)) rfl <| Wn.s (gg rfl rfl (eTF h503)) rfl <| Wn.s (gg rfl rfl (eTF h503)) rfl <| Wn.s (gg rfl rfl (eTF h503)) rfl <| Wn.s (gg rfl rfl (eTF h503)) rfl <| Wn.s (gg rfl rfl (eTF h503)) rfl <| Wn.s (gg rfl rfl (eTF h503)) rfl <| Wn.s (gg rfl rfl (eTF h503)) rfl ?_
         refine Wn.s (gg rfl rfl (eTF h503)) rfl <| Wn.s (gg rfl rfl (eTF h503)) rfl <| Wn.s (gg rfl rfl (eTF h503)) rfl <| Wn.s (gg rfl rfl (eTF h503)) rfl <| Wn.s (gg rfl rfl (eTF h503)) rfl <| Wn.s (gg rfl rfl (eTF h503)) rfl <| Wn.od (o_pt rfl h503 rfl) rfl <| Wn.nil (fun m hm => OkP.all rfl) ?_
         cases hF
         exact At.en () rfl (sc rfl (sc rfl (sc rfl (sc rfl (sc rfl (sc rfl sn)))))) (Turn.picks [0, 1, 2, 3] rfl rfl)
        ·refine Wn.og (o_ld (k := 1) t34 rfl rfl rfl) (gg rfl rfl (eFF h503)) rfl <| Wn.og (o_mv rfl) (gg rfl rfl (eFF h503)) rfl <| Wn.og (o_fa (r := ptr b11 1) rfl (fa34_1 _ _)) (gg rfl rfl (eFF h503)) rfl <| Wn.og (o_ld (k := 1) t32 rfl rfl rfl) (gg rfl rfl (eFF h503)) rfl <| Wn.og (o_mv rfl) (gg rfl rfl (eFF h503)) rfl ?_
         obtain ⟨h504, hF⟩ := gd_some hF
         replace h504 := inB_some h504
         refine Wn.openr (k := 2) rfl (pos_of h504) ?_
         rintro b505 o506 rfl
         refine Wn.og (o_ixs s32 rfl rfl h504) (gg rfl rfl (eFF h503)) rfl <| Wn.og (o_ia (r := ptr b505 (o506 + v202.toNat * 2 + 0)) rfl rfl (ia_c ar43 (i := 0) (by decide))) (gg rfl rfl (eFF h503)) rfl ?_
         obtain ⟨⟨x507, x508⟩, h509, hF⟩ := ob_some hF
         refine Wn.og (o_ldr (k := 0) t3 rfl rfl (map_at h509) rfl rfl) (gg rfl rfl (eFF h503)) rfl ?_
         obtain ⟨r511, h510, hF⟩ := ob_some hF
         refine Wn.c (o_ce rfl rfl (fun m hm => f84_ok n x1 l2 l7 x507 (some ⟨b505, o506, none⟩) c4 a8 c9 _ h510 m (hm.rd (k := 3) rfl (.rd _ _ _ _ _)) (hm.rd (k := 1) rfl (.rd _ _ _ _ _))) fun _ => rfl) (gg rfl rfl (eFF h503)) rfl ?_
         rintro ⟨⟩
         refine Wn.og (o_fa (r := ptr b11 1) rfl (fa34_1 _ _)) (gg rfl rfl (eFF h503)) rfl <| Wn.og (o_ld (k := 2) t32 rfl rfl rfl) (gg rfl rfl (eFF h503)) rfl <| Wn.og (o_mv rfl) (gg rfl rfl (eFF h503)) rfl ?_
         obtain ⟨h512, hF⟩ := gd_some hF
         replace h512 := inB_some h512
         refine Wn.og (o_ixs s32 rfl rfl h512) (gg rfl rfl (eFF h503)) rfl <| Wn.og (o_ia (r := ptr b505 (o506 + v202.toNat * 2 + 1)) rfl rfl (ia_c ar43 (i := 1) (by decide))) (gg rfl rfl (eFF h503)) rfl <| Wn.og (o_ldr (k := 0) t3 rfl rfl (map_at h509) rfl rfl) (gg rfl rfl (eFF h503)) rfl ?_
         obtain ⟨r514, h513, hF⟩ := ob_some hF
         refine Wn.c (o_ce rfl rfl (fun m hm => f86_ok n r511 x508  _ h513 m ) fun _ => rfl) (gg rfl rfl (eFF h503)) rfl ?_
         rintro ⟨⟩
         refine Wn.od (o_pf rfl h503 rfl) rfl <| Wn.nil (fun m hm => OkP.all rfl) ?_
         have hr := Option.some.inj hF
         subst r
         exact At.en () rfl (sc rfl (sc rfl (sc rfl (sc rfl (sc rfl (sc rfl sn)))))) (Turn.picks [1, 2, 3, 4] rfl rfl)
       ·clear h515
        rintro ⟨⟩
        refine At.tn ?_
        rcases br_some hF with ⟨h517, hF⟩ | ⟨h517, hF⟩
        ·refine Wk.condT rfl h517 <| Wk.exit <| At.te <| At.be ?_
         have hr := Option.some.inj hF
         subst r
         exact At.en (a200, rr201) rfl (sc rfl (sc rfl (sc rfl (sc rfl (sc rfl sn))))) (Turn.picks [0, 1, 2, 3] rfl rfl)
        ·refine Wk.condF rfl h517 <| Wk.skip <| At.tn <| Wk.drawc (prs := [(1, 5), (1, 8)]) (by kernel_rfl) <| Wn.od (o_mv rfl) rfl <| Wn.odr rfl (o_ld (k := 1) t34 rfl rfl rfl) rfl <| Wn.od (o_mv rfl) rfl <| Wn.x (o_bs (es := ([] : List (Int)).map (eI .i64)) s49 rfl (bs_c s49 z3 rfl rfl) rfl rfl) gn rfl fun b518 => ?_
         refine Wn.od (o_mv rfl) rfl ?_
         obtain ⟨h519, hF⟩ := gd_some hF
         refine Wn.turn (Turn.close (k := 0) rfl) <| Wn.xk (l := [b11]) (o_apl (k := 0) (k2 := 1) (xs := ([] : List (Int))) (ys := (l7 : List (Int))) (enI .i64) s49 ⟨_, u49⟩ rfl rfl rfl (.rd _ _ _ _ _) h519) ⟨⟨_, 2, rfl, rfl, fun _ => ⟨2, rfl⟩⟩, trivial⟩ gn rfl fun a520 => ?_
         refine Wn.od (o_mv rfl) rfl <| Wn.x (o_bs (es := ([v202] : List (Int)).map (eI .i64)) s49 rfl (bs_c s49 z3 rfl rfl) rfl rfl) gn rfl fun b521 => ?_
         obtain ⟨h522, hF⟩ := gd_some hF
         refine Wn.xk (l := [b11]) (o_apl (k := 1) (k2 := 0) (xs := ((([] : List (Int)) ++ l7) : List (Int))) (ys := ([v202] : List (Int))) (enI .i64) s49 ⟨_, u49⟩ rfl rfl rfl (.arr _ _ _ _ _) h522) ⟨⟨_, 3, rfl, rfl, fun _ => ⟨3, rfl⟩⟩, trivial⟩ gn rfl fun a523 => ?_
         obtain ⟨l525, h524, hF⟩ := ob_some hF
         refine Wn.c (o_ceg rfl rfl (fun m hm => ih x1 l2 x6 ((([] : List (Int)) ++ l7) ++ [v202]) a3 c4 a523 (((([] : List (Int)) ++ l7) ++ [v202]).length) _ h524 m (hm.rd (k := 4) rfl (.rd _ _ _ _ _)) (hm.rd (k := 1) rfl (.sl _ _ _ _))) fun _ => ll_bound) gn rfl ?_
         rintro ⟨a526, n527, rr528⟩
         refine Wn.lenll (k := 0) (L := l525) (f := eI .i64) rfl ?_
         rintro rfl
         obtain ⟨h529, hF⟩ := gd_some hF
         refine Wn.x (o_apll (k := 5) s52 ⟨_, u52⟩ rfl rfl h529) gn rfl ?_
         rintro ⟨a530, rr531⟩
         refine Wn.od (o_as rfl) rfl <| Wn.nil (fun m hm => (OkP.rk rfl rfl rfl (by simp) (OkP.rk rfl rfl rfl (by simp) OkP.nil))) <| At.bn ?_
         cases hF
         exact At.en (a530, rr531) rfl (sc rfl (sc rfl (sc rfl (sc rfl (sc rfl sn))))) (Turn.picks [2, 3, 4, 5] rfl rfl)
      ·clear h532
       rintro ⟨a452, rr453⟩
       refine At.tn <| Wk.region <| Wo.od (o_mv rfl) rfl <| Wo.od (o_bi rfl rfl (bin_add _ _ _)) rfl <| Wo.od (o_as rfl) rfl <| Wo.nil ?_
       cases hF
       exact At.en (a452, rr453) rfl (sc rfl (sc rfl (sc rfl (sc rfl (sc rfl sn))))) (Turn.picks [0, 1, 2, 3] rfl rfl)
     ·refine Wk.condF rfl h372 <| Wk.exit <| At.te ?_
      cases hF
      exact At.en (a200, rr201) rfl (sc rfl sn) (Turn.picks [3] rfl rfl)
    ·clear h534
     rintro ⟨a370, rr371⟩
     refine At.be <| At.tn <| Wk.seq <| Wk.region <| Wo.od (o_mv rfl) rfl <| Wo.od (o_as rfl) rfl <| Wo.nil <| At.tn <| Wk.ret ?_
     have hr := Option.some.inj hF
     subst r
     exact At.ret (.tmp rfl .nil) fun m' hm => ⟨(a370, l369.length, rr371), rfl, (Turn.picks [0] rfl rfl) m' hm⟩
theorem f115_ok (n : Nat) (x1 : Int) (l2 : List (Int × Int)) (x6 : Nat) (l7 : List (Int)) (a3 : Option Addr) (c4 : Nat) (a8 : Option Addr) (c9 : Nat) (r : List (List Int)) (hF : F115 n x1 l2 x6 l7 = some r) (m : AMem) (h5 : Rd m a3 c4 2 l2.length (l2.map (eP (eI .i64) (eI .i64)))) (h10 : Rd m a8 c9 1 l7.length (l7.map (eI .i64))) :
  CallA E30w 115 [.agg #[.int .i64 x1, .slice a3 l2.length c4], .int .u64 ((x6 : Nat) : Int), .slice a8 l7.length c9] m (fun v m' => ∃ x : Option Addr × Nat × (Nat → Prop), v = .slice x.1 x.2.1 x.2.1 ∧ Hp m m' [.gen (llG x.1 x.2.1 x.2.2 1 (eI .i64) r)]) := r115_ok n n x1 l2 x6 l7 a3 c4 a8 c9 r hF m h5 h10
theorem f58_ok (n : Nat) (x1 : Int) (l2 : List (Int × Int)) (x6 : Nat) (a3 : Option Addr) (c4 : Nat) (r : List (List Int)) (hF : F58 n x1 l2 x6 = some r) (m : AMem) (h5 : Rd m a3 c4 2 l2.length (l2.map (eP (eI .i64) (eI .i64)))) :
  CallA E30w 58 [.agg #[.int .i64 x1, .slice a3 l2.length c4], .int .u64 ((x6 : Nat) : Int)] m (fun v m' => ∃ x : Option Addr × Nat × (Nat → Prop), v = .slice x.1 x.2.1 x.2.1 ∧ Hp m m' [.gen (llG x.1 x.2.1 x.2.2 1 (eI .i64) r)]) := by
 unfold F58 at hF
 refine call_wk (m0 := m) (ps := [.rd a3 c4 2 l2.length (l2.map (eP (eI .i64) (eI .i64)))]) (N := 8) (rs := [.tmp 4]) rfl Tryz.func58 rfl rfl rfl ((Hp.start m).inn rfl h5) <| Wk.seq <| Wk.region <| Wo.x (o_bx rfl) gn rfl fun b7 => ?_
 refine Wo.od (o_as rfl) rfl <| Wo.nil <| At.tn <| Wk.seq <| Wk.region <| Wo.od (o_ld (k := 0) t34 rfl rfl rfl) rfl <| Wo.od (o_mv rfl) rfl ?_
 obtain ⟨l9, h8, hF⟩ := ob_some hF
 refine Wo.x (o_clg rfl rfl (fun m hm => f115_ok n x1 l2 x6 [] a3 c4 none 0 _ h8 m (hm.rd (k := 1) rfl (.rd _ _ _ _ _)) (Rd.nil _ _)) fun _ => ll_bound) gn rfl ?_
 rintro ⟨a10, n11, rr12⟩
 refine Wo.lenll (k := 0) (L := l9) (f := eI .i64) rfl ?_
 rintro rfl
 refine Wo.od (o_as rfl) rfl <| Wo.nil <| At.tn <| Wk.ret ?_
 have hr := Option.some.inj hF
 subst r
 exact At.ret (.tmp rfl .nil) fun m' hm => ⟨(a10, l9.length, rr12), rfl, (Turn.picks [0] rfl rfl) m' hm⟩
theorem f125_ok (n : Nat) (l1 : List (Int)) (a2 : Option Addr) (c3 : Nat) (r : List Int) (hF : F125 n l1 = some r) (m : AMem) {H : Nat → Prop} (hH : ∀ b, H b → b < m.next) (h4 : Rd m a2 c3 1 l1.length (l1.map (eI .i64))) (h5 : ∀ b, abk a2 = some b → ¬ H b) :
  CallA E30w 125 [.slice a2 l1.length c3] m (fun v m' => ∃ x : Option Addr × Nat × Nat, v = .slice x.1 x.2.2 x.2.1 ∧ Hp m m' [.rd x.1 x.2.1 1 x.2.2 (r.map (eI .i64)), .gen (veil H)]) := by
 unfold F125 at hF
 refine call_wk (m0 := m) (ps := [.rd a2 c3 1 l1.length (l1.map (eI .i64)), .gen (veil H)]) (N := 21) (rs := [.tmp 2]) rfl Tryz.func125 rfl rfl rfl (Hp.innV (l0 := []) (Hp.startV m hH) rfl h4 h5) <| Wk.seq <| Wk.region <| Wo.od (o_as rfl) rfl <| Wo.nil <| At.tn <| Wk.seq <| Wk.region <| Wo.od (o_mv rfl) rfl <| Wo.od (o_ln (k := 0) u49 rfl rfl (.inl rfl)) rfl <| Wo.od (o_as rfl) rfl <| Wo.nil <| At.tn <| Wk.seq <| Wk.block ?_
 obtain ⟨v41, h74, hF⟩ := ob_some hF
 refine Wk.cut (G := (fun (r : Int) (g : Unit) => match r, g with | v41, _ => ⟨(.exit 0), [(0, .slice a2 l1.length c3), (3, .int .i64 v41)], [.rd a2 c3 1 l1.length (l1.map (eI .i64)), .gen (veil H)]⟩) v41) ?_ ?_
 ·refine Wk.weak (fs' := [(0, .slice a2 l1.length c3), (3, .int .i64 (l1.length : Int))]) (ps' := [.rd a2 c3 1 l1.length (l1.map (eI .i64)), .gen (veil H)]) (sc rfl (sc rfl sn)) (Turn.picks [0, 1] rfl rfl) ?_
  refine Wk.loop (σ := Int) (ρ := Int) (γ := Unit) (δ := fun _ => Unit) _ (fun (s : Int) (g : Unit) => match s, g with | v7, _ => ⟨.normal, [(0, .slice a2 l1.length c3), (3, .int .i64 v7)], [.rd a2 c3 1 l1.length (l1.map (eI .i64)), .gen (veil H)]⟩) (fun (r : Int) (g : Unit) => match r, g with | v41, _ => ⟨(.exit 0), [(0, .slice a2 l1.length c3), (3, .int .i64 v41)], [.rd a2 c3 1 l1.length (l1.map (eI .i64)), .gen (veil H)]⟩) ?_ (fun _ _ => rfl) (fun r d => by intro e; cases e) _ _ _ h74 ()
  clear hF h74
  rintro v7 ⟨⟩ r hF
  unfold L125_1 at hF
  refine Wk.seq <| Wk.seq ?_
  obtain ⟨v64, h71, hF⟩ := ob_some hF
  refine Wk.cut (G := (fun (r : Bool) (g : Unit) => match r, g with | v64, _ => ⟨.normal, [(0, .slice a2 l1.length c3), (3, .int .i64 v7), (15, .bool v64)], [.rd a2 c3 1 l1.length (l1.map (eI .i64)), .gen (veil H)]⟩) v64) ?_ ?_
  ·clear hF
   revert v64
   intro r hF
   refine Wk.region <| Wo.od (o_mv rfl) rfl <| Wo.od (o_bi rfl rfl (bin_gtr _ _ _)) rfl <| Wo.od (o_mv rfl) rfl ?_
   rcases br_some hF with ⟨h65, hF⟩ | ⟨h65, hF⟩
   ·refine Wo.og (o_mv rfl) (gg rfl rfl (eTT h65)) rfl <| Wo.og (o_mv rfl) (gg rfl rfl (eTT h65)) rfl <| Wo.og (o_bi rfl rfl (bin_sub _ _ _)) (gg rfl rfl (eTT h65)) rfl ?_
    obtain ⟨h66, hF⟩ := gd_some hF
    replace h66 := inB_some h66
    refine Wo.openr (k := 0) rfl (pos_of h66) ?_
    rintro b67 o68 rfl
    refine Wo.og (o_ixs s49 rfl rfl h66) (gg rfl rfl (eTT h65)) rfl ?_
    obtain ⟨x69, h70, hF⟩ := ob_some hF
    refine Wo.og (o_ldr (k := 0) t3 rfl rfl (map_at h70) rfl rfl) (gg rfl rfl (eTT h65)) rfl <| Wo.og (o_bi rfl rfl (bin_eql _ _ _)) (gg rfl rfl (eTT h65)) rfl <| Wo.od (o_pt rfl h65 rfl) rfl <| Wo.nil ?_
    cases hF
    exact At.en () rfl (sc rfl (sc rfl (sc rfl sn))) (Turn.picks [1, 2] rfl rfl)
   ·refine Wo.s (gg rfl rfl (eFT h65)) rfl <| Wo.s (gg rfl rfl (eFT h65)) rfl <| Wo.s (gg rfl rfl (eFT h65)) rfl <| Wo.s (gg rfl rfl (eFT h65)) rfl <| Wo.s (gg rfl rfl (eFT h65)) rfl <| Wo.s (gg rfl rfl (eFT h65)) rfl <| Wo.od (o_pf rfl h65 rfl) rfl <| Wo.nil ?_
    cases hF
    exact At.en () rfl (sc rfl (sc rfl (sc rfl sn))) (Turn.picks [0, 1] rfl rfl)
  ·clear h71
   rintro ⟨⟩
   refine At.tn ?_
   rcases br_some hF with ⟨h73, hF⟩ | ⟨h73, hF⟩
   ·refine Wk.condT rfl h73 <| Wk.skip <| At.tn <| Wk.block <| Wk.region <| Wo.od (o_mv rfl) rfl <| Wo.od (o_bi rfl rfl (bin_sub _ _ _)) rfl <| Wo.od (o_as rfl) rfl <| Wo.nil <| At.bn ?_
    cases hF
    exact At.en () rfl (sc rfl (sc rfl sn)) (Turn.picks [0, 1] rfl rfl)
   ·refine Wk.condF rfl h73 <| Wk.exit <| At.te ?_
    cases hF
    exact At.en () rfl (sc rfl (sc rfl sn)) (Turn.picks [0, 1] rfl rfl)
 ·clear h74
  rintro ⟨⟩
  refine At.be <| At.tn <| Wk.seq <| Wk.region <| Wo.od (o_mv rfl) rfl <| Wo.od (o_mv rfl) rfl ?_
  obtain ⟨h76, hF⟩ := gd_some hF
  refine Wo.x (o_srl (k := 0) (lo := 0) (hi := v41) s49 rfl rfl rfl rfl h76 (.inl ⟨rfl, rfl⟩) (.inr ⟨_, rfl⟩)) gn rfl ?_
  rintro ⟨a77, c78⟩
  refine Wo.od (o_as rfl) rfl <| Wo.nil <| At.tn <| Wk.ret ?_
  cases hF
  exact At.ret (.tmp rfl .nil) fun m' hm => ⟨(a77, c78, (((l1.drop (0 : Int).toNat).take ((v41 : Int).toNat - (0 : Int).toNat)).length)), rfl, (Turn.picks [0, 2] rfl rfl) m' hm⟩
theorem f123_ok (n : Nat) (x1 : Bool) (l2 : List (Int)) (a3 : Option Addr) (c4 : Nat) (r : Bool × List Int) (hF : F123 n x1 l2 = some r) (m : AMem) {H : Nat → Prop} (hH : ∀ b, H b → b < m.next) (h5 : Rd m a3 c4 1 l2.length (l2.map (eI .i64))) (h6 : ∀ b, abk a3 = some b → ¬ H b) :
  CallA E30w 123 [.bool x1, .slice a3 l2.length c4] m (fun v m' => ∃ x : Option Addr × Nat × Nat, v = .agg #[.bool r.1, .slice x.1 x.2.2 x.2.1] ∧ Hp m m' [.rd x.1 x.2.1 1 x.2.2 (r.2.map (eI .i64)), .gen (veil H)]) := by
 unfold F123 at hF
 refine call_wk (m0 := m) (ps := [.rd a3 c4 1 l2.length (l2.map (eI .i64)), .gen (veil H)]) (N := 15) (rs := [.cell 4 118]) rfl Tryz.func123 rfl rfl rfl (Hp.innV (l0 := []) (Hp.startV m hH) rfl h5 h6) <| Wk.seq <| Wk.region <| Wo.x (o_al z118 rfl) gn rfl fun b7 => ?_
 refine Wo.nil <| At.tn <| Wk.seq <| Wk.region <| Wo.od (o_mv rfl) rfl ?_
 obtain ⟨l9, h8, hF⟩ := ob_some hF
 refine Wo.x (o_clv (N := (fun x : Option Addr × Nat × Nat => [.rd x.1 x.2.1 1 x.2.2 (l9.map (eI .i64))])) rfl rfl (fun m hm => f125_ok n l2 a3 c4 _ h8 m hm.owns_lt (hm.rd (k := 1) rfl (.rd _ _ _ _ _)) (hm.noOwn (k := 1) rfl)) fun _ => rfl) gn rfl ?_
 rintro ⟨a10, c11, n12⟩
 refine Wo.lenr (k := 0) (xs := l9) rfl ?_
 rintro rfl
 refine Wo.od (o_as rfl) rfl <| Wo.nil <| At.tn <| Wk.seq <| Wk.region <| Wo.od (o_mv rfl) rfl <| Wo.od (o_mv rfl) rfl ?_
 rcases br_some hF with ⟨h13, hF⟩ | ⟨h13, hF⟩
 ·refine Wo.og (o_mv rfl) (gg rfl rfl (eTT h13)) rfl <| Wo.og (o_ln (k := 0) u49 rfl rfl (.inl rfl)) (gg rfl rfl (eTT h13)) rfl <| Wo.og (o_bi rfl rfl (bin_gtr _ _ _)) (gg rfl rfl (eTT h13)) rfl <| Wo.od (o_pt rfl h13 rfl) rfl <| Wo.od (o_mv rfl) rfl <| Wo.od (o_bd rfl z118 rfl (bd_s bs118 rfl rfl rfl)) rfl <| Wo.o0 (o_st (k := 1) t118 rfl rfl rfl rfl rfl) <| Wo.nil <| At.tn <| Wk.ret ?_
  cases hF
  exact At.ret (.cell (k := 1) t118 rfl rfl rfl .nil) fun m' hm => ⟨(a10, c11, l9.length), rfl, (Turn.picks [0, 3] rfl rfl) m' hm⟩
 ·refine Wo.s (gg rfl rfl (eFT h13)) rfl <| Wo.s (gg rfl rfl (eFT h13)) rfl <| Wo.s (gg rfl rfl (eFT h13)) rfl <| Wo.od (o_pf rfl h13 rfl) rfl <| Wo.od (o_mv rfl) rfl <| Wo.od (o_bd rfl z118 rfl (bd_s bs118 rfl rfl rfl)) rfl <| Wo.o0 (o_st (k := 1) t118 rfl rfl rfl rfl rfl) <| Wo.nil <| At.tn <| Wk.ret ?_
  cases hF
  exact At.ret (.cell (k := 1) t118 rfl rfl rfl .nil) fun m' hm => ⟨(a10, c11, l9.length), rfl, (Turn.picks [0, 3] rfl rfl) m' hm⟩
theorem f72_ok (n : Nat) (x1 : Int)  (r : Bool × List Int) (hF : F72 n x1 = some r) (m : AMem) {H : Nat → Prop} (hH : ∀ b, H b → b < m.next)  :
  CallA E30w 72 [.int .i64 x1] m (fun v m' => ∃ x : Option Addr × Nat × Nat, v = .agg #[.bool r.1, .slice x.1 x.2.2 x.2.1] ∧ Hp m m' [.rd x.1 x.2.1 1 x.2.2 (r.2.map (eI .i64)), .gen (veil H)]) := by
 unfold F72 at hF
 refine call_wk (m0 := m) (ps := [.gen (veil H)]) (N := 21) (rs := [.cell 2 118]) rfl Tryz.func72 rfl rfl rfl (Hp.startV m hH) <| Wk.seq <| Wk.region <| Wo.x (o_al z118 rfl) gn rfl fun b2 => ?_
 refine Wo.nil <| At.tn <| Wk.seq <| Wk.region <| Wo.od (o_mv rfl) rfl <| Wo.od (o_bi rfl rfl (bin_lss _ _ _)) rfl <| Wo.od (o_as rfl) rfl <| Wo.nil <| At.tn <| Wk.seq <| Wk.region <| Wo.od (o_mv rfl) rfl <| Wo.od (o_cv rfl (cv_u (by rw [u3]; rfl) u26 rfl)) rfl <| Wo.od (o_as rfl) rfl <| Wo.nil <| At.tn <| Wk.seq ?_
 obtain ⟨v4, h6, hF⟩ := ob_some hF
 refine Wk.cut (G := (fun (r : Nat) (g : Unit) => match r, g with | v4, _ => ⟨.normal, [(2, ptr b2 0), (3, .bool (decide (x1 < 0))), (4, .int .u64 ((v4 : Nat) : Int))], [.obj b2 (.cells [.bool false, .slice none 0 0] .own), .gen (veil H)]⟩) v4) ?_ ?_
 ·clear hF
  revert v4
  intro r hF
  refine Wk.seq <| Wk.region <| Wo.od (o_mv rfl) rfl <| Wo.nil <| At.tn ?_
  rcases br_some hF with ⟨h5, hF⟩ | ⟨h5, hF⟩
  ·refine Wk.condT rfl h5 <| Wk.region <| Wo.od (o_mv rfl) rfl <| Wo.od (o_un rfl (uu_neg rfl _)) rfl <| Wo.od (o_as rfl) rfl <| Wo.nil ?_
   cases hF
   exact At.en () rfl (sc rfl (sc rfl (sc rfl sn))) (Turn.picks [0, 1] rfl rfl)
  ·refine Wk.condF rfl h5 <| Wk.skip ?_
   cases hF
   exact At.en () rfl (sc rfl (sc rfl (sc rfl sn))) (Turn.picks [0, 1] rfl rfl)
 ·clear h6
  rintro ⟨⟩
  refine At.tn <| Wk.seq <| Wk.region <| Wo.od (o_mv rfl) rfl <| Wo.od (o_mv rfl) rfl <| Wo.od (o_bi rfl rfl (ub_rem _ _ (by decide))) rfl <| Wo.od (o_cv rfl (cv_i (by rw [u26]; rfl) u3)) rfl <| Wo.od (o_mv rfl) rfl <| Wo.od (o_bi rfl rfl (ub_quo rfl _ _ (by decide))) rfl <| Wo.od (o_cv rfl (cv_i (by rw [u26]; rfl) u3)) rfl <| Wo.x (o_bs (es := ([IntKind.wrap .i64 ((v4 % 4294967296 : Nat) : Int), IntKind.wrap .i64 ((uw .u64 (v4 / 4294967296) : Nat) : Int)] : List (Int)).map (eI .i64)) s49 rfl (bs_c s49 z3 rfl rfl) rfl rfl) gn rfl fun b8 => ?_
  obtain ⟨⟨r10, l11⟩, h9, hF⟩ := ob_some hF
  refine Wo.turn (Turn.close (k := 0) rfl) <| Wo.turn (Turn.freeze (k := 0) rfl) <| Wo.x (o_clv (N := (fun x : Option Addr × Nat × Nat => [.rd x.1 x.2.1 1 x.2.2 (l11.map (eI .i64))])) rfl rfl (fun m hm => f123_ok n (decide (x1 < 0)) ([IntKind.wrap .i64 ((v4 % 4294967296 : Nat) : Int), IntKind.wrap .i64 ((uw .u64 (v4 / 4294967296) : Nat) : Int)]) (some ⟨b8, 0, none⟩) 2 _ h9 m hm.owns_lt (hm.rd (k := 0) rfl (.rd _ _ _ _ _)) (hm.noOwn (k := 0) rfl)) fun _ => rfl) gn rfl ?_
  rintro ⟨a12, c13, n14⟩
  refine Wo.lenr (k := 0) (xs := l11) rfl ?_
  rintro rfl
  refine Wo.o0 (o_st (k := 2) t118 rfl rfl rfl rfl rfl) <| Wo.nil <| At.tn <| Wk.ret ?_
  cases hF
  exact At.ret (.cell (k := 2) t118 rfl rfl rfl .nil) fun m' hm => ⟨(a12, c13, l11.length), rfl, (Turn.picks [0, 3] rfl rfl) m' hm⟩
theorem f128_ok (n : Nat) (l1 : List (Int)) (l5 : List (Int)) (a2 : Option Addr) (c3 : Nat) (a6 : Option Addr) (c7 : Nat) (r : Int) (hF : F128 n l1 l5 = some r) (m : AMem) (h4 : Rd m a2 c3 1 l1.length (l1.map (eI .i64))) (h8 : Rd m a6 c7 1 l5.length (l5.map (eI .i64))) :
  CallA E30w 128 [.slice a2 l1.length c3, .slice a6 l5.length c7] m (fun v m' => ∃ x : Unit, v = .int .i64 r ∧ Hp m m' []) := by
 unfold F128 at hF
 refine call_wk (m0 := m) (ps := [.rd a6 c7 1 l5.length (l5.map (eI .i64)), .rd a2 c3 1 l1.length (l1.map (eI .i64))]) (N := 41) (rs := [.tmp 4]) rfl Tryz.func128 rfl rfl rfl (((Hp.start m).inn rfl h4).inn rfl h8) <| Wk.seq <| Wk.region <| Wo.od (o_as rfl) rfl <| Wo.nil <| At.tn <| Wk.seq <| Wk.seq <| Wk.region <| Wo.od (o_mv rfl) rfl <| Wo.od (o_ln (k := 1) u49 rfl rfl (.inl rfl)) rfl <| Wo.od (o_mv rfl) rfl <| Wo.od (o_ln (k := 0) u49 rfl rfl (.inl rfl)) rfl <| Wo.od (o_bi rfl rfl (ib_neq _ _)) rfl <| Wo.nil <| At.tn ?_
 rcases br_some hF with ⟨h9, hF⟩ | ⟨h9, hF⟩
 ·refine Wk.condT rfl h9 <| Wk.seq <| Wk.region <| Wo.od (o_mv rfl) rfl <| Wo.od (o_ln (k := 1) u49 rfl rfl (.inl rfl)) rfl <| Wo.od (o_mv rfl) rfl <| Wo.od (o_ln (k := 0) u49 rfl rfl (.inl rfl)) rfl <| Wo.od (o_bi rfl rfl (bin_sub _ _ _)) rfl <| Wo.od (o_as rfl) rfl <| Wo.nil <| At.tn <| Wk.ret <| At.tr ?_
  cases hF
  exact At.ret (.tmp rfl .nil) fun m' hm => ⟨(), rfl, (Turn.picks [] rfl rfl) m' hm⟩
 ·refine Wk.condF rfl h9 <| Wk.skip <| At.tn <| Wk.seq <| Wk.seq <| Wk.region <| Wo.od (o_mv rfl) rfl <| Wo.od (o_ln (k := 1) u49 rfl rfl (.inl rfl)) rfl <| Wo.od (o_bi rfl rfl (bin_sub _ _ _)) rfl <| Wo.od (o_as rfl) rfl <| Wo.nil <| At.tn <| Wk.block ?_
  obtain ⟨r43, h42, hF⟩ := ob_some hF
  refine Wk.cut (G := (fun (r : (Int) ⊕ (Unit)) (g : Unit) => match r, g with | .inl v27, _ => ⟨.ret, [(4, .int .i64 v27)], []⟩ | .inr _, _ => ⟨(.exit 0), [], []⟩) r43) ?_ ?_
  ·refine Wk.weak (fs' := [(0, .slice a2 l1.length c3), (1, .slice a6 l5.length c7), (5, .int .i64 (IntKind.wrap .i64 ((l1.length : Int) - 1)))]) (ps' := [.rd a2 c3 1 l1.length (l1.map (eI .i64)), .rd a6 c7 1 l5.length (l5.map (eI .i64))]) (sc rfl (sc rfl (sc rfl sn))) (Turn.picks [1, 0] rfl rfl) ?_
   refine Wk.loop (σ := Int) (ρ := (Int) ⊕ (Unit)) (γ := Unit) (δ := fun _ => Unit) _ (fun (s : Int) (g : Unit) => match s, g with | v11, _ => ⟨.normal, [(0, .slice a2 l1.length c3), (1, .slice a6 l5.length c7), (5, .int .i64 v11)], [.rd a2 c3 1 l1.length (l1.map (eI .i64)), .rd a6 c7 1 l5.length (l5.map (eI .i64))]⟩) (fun (r : (Int) ⊕ (Unit)) (g : Unit) => match r, g with | .inl v27, _ => ⟨.ret, [(4, .int .i64 v27)], []⟩ | .inr _, _ => ⟨(.exit 0), [], []⟩) ?_ (fun _ _ => rfl) (fun r d => by rcases r with _ | _ <;> (intro e; cases e)) _ _ _ h42 ()
   clear hF h42
   rintro v11 ⟨⟩ r hF
   unfold L128_1 at hF
   refine Wk.seq <| Wk.seq <| Wk.region <| Wo.od (o_mv rfl) rfl <| Wo.od (o_bi rfl rfl (bin_geq _ _ _)) rfl <| Wo.nil <| At.tn ?_
   rcases br_some hF with ⟨h28, hF⟩ | ⟨h28, hF⟩
   ·refine Wk.condT rfl h28 <| Wk.skip <| At.tn <| Wk.seq <| Wk.block <| Wk.seq <| Wk.draw (by kernel_rfl) <| Wo.od (o_mv rfl) rfl <| Wo.od (o_mv rfl) rfl ?_
    obtain ⟨h29, hF⟩ := gd_some hF
    replace h29 := inB_some h29
    refine Wo.openr (k := 0) rfl (pos_of h29) ?_
    rintro b30 o31 rfl
    refine Wo.og (o_ixs s49 rfl rfl h29) gn rfl ?_
    obtain ⟨x32, h33, hF⟩ := ob_some hF
    refine Wo.od (o_ldr (k := 0) t3 rfl rfl (map_at h33) rfl rfl) rfl <| Wo.od (o_mv rfl) rfl <| Wo.od (o_mv rfl) rfl ?_
    obtain ⟨h34, hF⟩ := gd_some hF
    replace h34 := inB_some h34
    refine Wo.openr (k := 2) rfl (pos_of h34) ?_
    rintro b35 o36 rfl
    refine Wo.og (o_ixs s49 rfl rfl h34) gn rfl ?_
    obtain ⟨x37, h38, hF⟩ := ob_some hF
    refine Wo.od (o_ldr (k := 0) t3 rfl rfl (map_at h38) rfl rfl) rfl <| Wo.od (o_bi rfl rfl (ib_neq _ _)) rfl <| Wo.nil <| At.tn ?_
    rcases br_some hF with ⟨h39, hF⟩ | ⟨h39, hF⟩
    ·refine Wk.condT rfl h39 <| Wk.seq <| Wk.draw (by kernel_rfl) <| Wo.od (o_mv rfl) rfl <| Wo.od (o_mv rfl) rfl ?_
     obtain ⟨h40, hF⟩ := gd_some hF
     replace h40 := inB_some h40
     refine Wo.og (o_ixs s49 rfl rfl h40) gn rfl <| Wo.od (o_ldr (k := 1) t3 rfl rfl (map_at h33) rfl rfl) rfl <| Wo.od (o_mv rfl) rfl <| Wo.od (o_mv rfl) rfl ?_
     obtain ⟨h41, hF⟩ := gd_some hF
     replace h41 := inB_some h41
     refine Wo.og (o_ixs s49 rfl rfl h41) gn rfl <| Wo.od (o_ldr (k := 0) t3 rfl rfl (map_at h38) rfl rfl) rfl <| Wo.od (o_bi rfl rfl (bin_sub _ _ _)) rfl <| Wo.od (o_as rfl) rfl <| Wo.nil <| At.tn <| Wk.ret <| At.br <| At.tr ?_
     cases hF
     exact At.en () rfl (sc rfl sn) (Turn.picks [] rfl rfl)
    ·refine Wk.condF rfl h39 <| Wk.skip <| At.bn <| At.tn <| Wk.region <| Wo.od (o_mv rfl) rfl <| Wo.od (o_bi rfl rfl (bin_sub _ _ _)) rfl <| Wo.od (o_as rfl) rfl <| Wo.nil ?_
     cases hF
     exact At.en () rfl (sc rfl (sc rfl (sc rfl sn))) (Turn.picks [2, 3] rfl rfl)
   ·refine Wk.condF rfl h28 <| Wk.exit <| At.te ?_
    cases hF
    exact At.en () rfl sn (Turn.picks [] rfl rfl)
  ·clear h42
   rcases r43 with v27 | _
   ·rintro ⟨⟩
    refine At.br <| At.tr ?_
    have hr := Option.some.inj hF
    subst r
    exact At.ret (.tmp rfl .nil) fun m' hm => ⟨(), rfl, (Turn.picks [] rfl rfl) m' hm⟩
   ·rintro ⟨⟩
    refine At.be <| At.tn <| Wk.seq <| Wk.region <| Wo.od (o_as rfl) rfl <| Wo.nil <| At.tn <| Wk.ret ?_
    cases hF
    exact At.ret (.tmp rfl .nil) fun m' hm => ⟨(), rfl, (Turn.picks [] rfl rfl) m' hm⟩
theorem f124_ok (n : Nat) (l1 : List (Int)) (l6 : List (Int)) (a2 : Option Addr) (c3 : Nat) (a7 : Option Addr) (c8 : Nat) (r : List Int) (hF : F124 n l1 l6 = some r) (m : AMem) {H : Nat → Prop} (hH : ∀ b, H b → b < m.next) (h4 : Rd m a2 c3 1 l1.length (l1.map (eI .i64))) (h5 : ∀ b, abk a2 = some b → ¬ H b) (h9 : Rd m a7 c8 1 l6.length (l6.map (eI .i64))) (h10 : ∀ b, abk a7 = some b → ¬ H b) :
  CallA E30w 124 [.slice a2 l1.length c3, .slice a7 l6.length c8] m (fun v m' => ∃ x : Option Addr × Nat × Nat, v = .slice x.1 x.2.2 x.2.1 ∧ Hp m m' [.rd x.1 x.2.1 1 x.2.2 (r.map (eI .i64)), .gen (veil H)]) := by
 unfold F124 at hF
 refine call_wk (m0 := m) (ps := [.rd a7 c8 1 l6.length (l6.map (eI .i64)), .rd a2 c3 1 l1.length (l1.map (eI .i64)), .gen (veil H)]) (N := 41) (rs := [.tmp 4]) rfl Tryz.func124 rfl rfl rfl (Hp.innV (l0 := [.rd a2 c3 1 l1.length (l1.map (eI .i64))]) (Hp.innV (l0 := []) (Hp.startV m hH) rfl h4 h5) rfl h9 h10) <| Wk.seq <| Wk.region <| Wo.od (o_as rfl) rfl <| Wo.nil <| At.tn <| Wk.seq <| Wk.region <| Wo.od (o_as rfl) rfl <| Wo.nil <| At.tn <| Wk.seq <| Wk.region <| Wo.od (o_as rfl) rfl <| Wo.nil <| At.tn <| Wk.seq <| Wk.seq <| Wk.region <| Wo.od (o_as rfl) rfl <| Wo.nil <| At.tn <| Wk.block ?_
 obtain ⟨l141, h202, hF⟩ := ob_some hF
 refine Wk.cut (G := (fun (r : List (Int)) (g : Option Addr) => match r, g with | l141, a142 => ⟨(.exit 0), [(5, .slice a142 l141.length l141.length)], [.sl a142 1 l141.length (l141.map (eI .i64)), .gen (veil H)]⟩) l141) ?_ ?_
 ·refine Wk.weak (fs' := [(0, .slice a2 l1.length c3), (1, .slice a7 l6.length c8), (5, .slice none ([] : List (Int)).length ([] : List (Int)).length), (6, .int .i64 0), (7, .int .i64 0)]) (ps' := [.rd a2 c3 1 l1.length (l1.map (eI .i64)), .rd a7 c8 1 l6.length (l6.map (eI .i64)), .sl none 1 ([] : List (Int)).length (([] : List (Int)).map (eI .i64)), .gen (veil H)]) (sc rfl (sc rfl (sc rfl (sc rfl (sc rfl sn))))) (Turn.trans (Turn.nil 1 rfl) (Turn.picks [2, 1, 0, 3] rfl rfl)) ?_
  refine Wk.loop (σ := List (Int) × Int × Int) (ρ := List (Int)) (γ := Option Addr) (δ := fun _ => Option Addr) _ (fun (s : List (Int) × Int × Int) (g : Option Addr) => match s, g with | (l74, v76, v77), a75 => ⟨.normal, [(0, .slice a2 l1.length c3), (1, .slice a7 l6.length c8), (5, .slice a75 l74.length l74.length), (6, .int .i64 v76), (7, .int .i64 v77)], [.rd a2 c3 1 l1.length (l1.map (eI .i64)), .rd a7 c8 1 l6.length (l6.map (eI .i64)), .sl a75 1 l74.length (l74.map (eI .i64)), .gen (veil H)]⟩) (fun (r : List (Int)) (g : Option Addr) => match r, g with | l141, a142 => ⟨(.exit 0), [(5, .slice a142 l141.length l141.length)], [.sl a142 1 l141.length (l141.map (eI .i64)), .gen (veil H)]⟩) ?_ (fun _ _ => rfl) (fun r d => by intro e; cases e) _ _ _ h202 none
  clear hF h202
  rintro ⟨l74, v76, v77⟩ a75 r hF
  unfold L124_1 at hF
  refine Wk.seq <| Wk.seq <| Wk.region <| Wo.od (o_mv rfl) rfl <| Wo.od (o_mv rfl) rfl <| Wo.od (o_ln (k := 0) u49 rfl rfl (.inl rfl)) rfl <| Wo.od (o_bi rfl rfl (bin_lss _ _ _)) rfl <| Wo.nil <| At.tn ?_
  rcases br_some hF with ⟨h143, hF⟩ | ⟨h143, hF⟩
  ·refine Wk.condT rfl h143 <| Wk.skip <| At.tn <| Wk.seq <| Wk.block <| Wk.seq <| Wk.region <| Wo.od (o_mv rfl) rfl <| Wo.od (o_mv rfl) rfl ?_
   obtain ⟨h173, hF⟩ := gd_some hF
   replace h173 := inB_some h173
   refine Wo.openr (k := 0) rfl (pos_of h173) ?_
   rintro b174 o175 rfl
   refine Wo.og (o_ixs s49 rfl rfl h173) gn rfl ?_
   obtain ⟨x176, h177, hF⟩ := ob_some hF
   refine Wo.od (o_ldr (k := 0) t3 rfl rfl (map_at h177) rfl rfl) rfl <| Wo.od (o_mv rfl) rfl <| Wo.od (o_bi rfl rfl (bin_sub _ _ _)) rfl <| Wo.od (o_as rfl) rfl <| Wo.nil <| At.tn <| Wk.seq ?_
   obtain ⟨v184, h191, hF⟩ := ob_some hF
   refine Wk.cut (G := (fun (r : Int) (g : Unit) => match r, g with | v184, _ => ⟨.normal, [(0, .slice (some ⟨b174, o175, none⟩) l1.length c3), (1, .slice a7 l6.length c8), (5, .slice a75 l74.length l74.length), (7, .int .i64 v77), (8, .int .i64 v184)], [.ro b174 o175 1 l1.length (l1.map (eI .i64)), .rd (some ⟨b174, o175, none⟩) c3 1 l1.length (l1.map (eI .i64)), .rd a7 c8 1 l6.length (l6.map (eI .i64)), .sl a75 1 l74.length (l74.map (eI .i64)), .gen (veil H)]⟩) v184) ?_ ?_
   ·clear hF
    revert v184
    intro r hF
    refine Wk.seq <| Wk.region <| Wo.od (o_mv rfl) rfl <| Wo.od (o_mv rfl) rfl <| Wo.od (o_ln (k := 2) u49 rfl rfl (.inl rfl)) rfl <| Wo.od (o_bi rfl rfl (bin_lss _ _ _)) rfl <| Wo.nil <| At.tn ?_
    rcases br_some hF with ⟨h185, hF⟩ | ⟨h185, hF⟩
    ·refine Wk.condT rfl h185 <| Wk.region <| Wo.od (o_mv rfl) rfl <| Wo.od (o_mv rfl) rfl <| Wo.od (o_mv rfl) rfl ?_
     obtain ⟨h186, hF⟩ := gd_some hF
     replace h186 := inB_some h186
     refine Wo.openr (k := 2) rfl (pos_of h186) ?_
     rintro b187 o188 rfl
     refine Wo.og (o_ixs s49 rfl rfl h186) gn rfl ?_
     obtain ⟨x189, h190, hF⟩ := ob_some hF
     refine Wo.od (o_ldr (k := 0) t3 rfl rfl (map_at h190) rfl rfl) rfl <| Wo.od (o_bi rfl rfl (bin_sub _ _ _)) rfl <| Wo.od (o_as rfl) rfl <| Wo.nil ?_
     cases hF
     exact At.en () rfl (sc rfl (sc rfl (sc rfl (sc rfl (sc rfl sn))))) (Turn.picks [1, 2, 3, 4, 5] rfl rfl)
    ·refine Wk.condF rfl h185 <| Wk.skip ?_
     cases hF
     exact At.en () rfl (sc rfl (sc rfl (sc rfl (sc rfl (sc rfl sn))))) (Turn.picks [0, 1, 2, 3, 4] rfl rfl)
   ·clear h191
    rintro ⟨⟩
    refine At.tn <| Wk.seq <| Wk.region <| Wo.od (o_as rfl) rfl <| Wo.nil <| At.tn <| Wk.seq ?_
    obtain ⟨r198, h197, hF⟩ := ob_some hF
    refine Wk.cut (G := (fun (r : Int × Int) (g : Unit) => match r, g with | (v194, v195), _ => ⟨.normal, [(0, .slice (some ⟨b174, o175, none⟩) l1.length c3), (1, .slice a7 l6.length c8), (5, .slice a75 l74.length l74.length), (6, .int .i64 v194), (7, .int .i64 v77), (8, .int .i64 v195)], [.ro b174 o175 1 l1.length (l1.map (eI .i64)), .rd (some ⟨b174, o175, none⟩) c3 1 l1.length (l1.map (eI .i64)), .rd a7 c8 1 l6.length (l6.map (eI .i64)), .sl a75 1 l74.length (l74.map (eI .i64)), .gen (veil H)]⟩) r198) ?_ ?_
    ·clear hF
     revert r198
     intro r hF
     refine Wk.seq <| Wk.region <| Wo.od (o_mv rfl) rfl <| Wo.od (o_bi rfl rfl (bin_lss _ _ _)) rfl <| Wo.nil <| At.tn ?_
     rcases br_some hF with ⟨h196, hF⟩ | ⟨h196, hF⟩
     ·refine Wk.condT rfl h196 <| Wk.seq <| Wk.region <| Wo.od (o_mv rfl) rfl <| Wo.od (o_bi rfl rfl (bin_add _ _ _)) rfl <| Wo.od (o_as rfl) rfl <| Wo.nil <| At.tn <| Wk.region <| Wo.od (o_as rfl) rfl <| Wo.nil ?_
      cases hF
      exact At.en () rfl (sc rfl (sc rfl (sc rfl (sc rfl (sc rfl (sc rfl sn)))))) (Turn.picks [0, 1, 2, 3, 4] rfl rfl)
     ·refine Wk.condF rfl h196 <| Wk.skip ?_
      cases hF
      exact At.en () rfl (sc rfl (sc rfl (sc rfl (sc rfl (sc rfl (sc rfl sn)))))) (Turn.picks [0, 1, 2, 3, 4] rfl rfl)
    ·clear h197
     obtain ⟨v194, v195⟩ := r198
     rintro ⟨⟩
     refine At.tn <| Wk.region <| Wo.od (o_mv rfl) rfl <| Wo.od (o_mv rfl) rfl <| Wo.x (o_bs (es := ([v195] : List (Int)).map (eI .i64)) s49 rfl (bs_c s49 z3 rfl rfl) rfl rfl) gn rfl fun b199 => ?_
     obtain ⟨h200, hF⟩ := gd_some hF
     refine Wo.x (o_apl (k := 4) (k2 := 0) (xs := (l74 : List (Int))) (ys := ([v195] : List (Int))) (enI .i64) s49 ⟨_, u49⟩ rfl rfl rfl (.arr _ _ _ _ _) h200) gn rfl fun a201 => ?_
     refine Wo.od (o_as rfl) rfl <| Wo.nil <| At.bn <| At.tn <| Wk.region <| Wo.od (o_mv rfl) rfl <| Wo.od (o_bi rfl rfl (bin_add _ _ _)) rfl <| Wo.od (o_as rfl) rfl <| Wo.nil ?_
     cases hF
     exact At.en a201 rfl (sc rfl (sc rfl (sc rfl (sc rfl (sc rfl sn))))) (Turn.picks [2, 3, 4, 5] rfl rfl)
  ·refine Wk.condF rfl h143 <| Wk.exit <| At.te ?_
   cases hF
   exact At.en a75 rfl (sc rfl sn) (Turn.picks [2, 3] rfl rfl)
 ·clear h202
  rintro a142
  refine At.be <| At.tn <| Wk.seq <| Wk.region <| Wo.od (o_mv rfl) rfl ?_
  obtain ⟨l205, h204, hF⟩ := ob_some hF
  refine Wo.turn (Turn.freeze (k := 0) rfl) <| Wo.x (o_clv (N := (fun x : Option Addr × Nat × Nat => [.rd x.1 x.2.1 1 x.2.2 (l205.map (eI .i64))])) rfl rfl (fun m hm => f125_ok n l141 a142 l141.length _ h204 m hm.owns_lt (hm.rd (k := 0) rfl (.rd _ _ _ _ _)) (hm.noOwn (k := 0) rfl)) fun _ => rfl) gn rfl ?_
  rintro ⟨a206, c207, n208⟩
  refine Wo.lenr (k := 0) (xs := l205) rfl ?_
  rintro rfl
  refine Wo.od (o_as rfl) rfl <| Wo.nil <| At.tn <| Wk.ret ?_
  have hr := Option.some.inj hF
  subst r
  exact At.ret (.tmp rfl .nil) fun m' hm => ⟨(a206, c207, l205.length), rfl, (Turn.picks [0, 2] rfl rfl) m' hm⟩
theorem f71_ok (n : Nat) (x1 : Bool) (l2 : List (Int)) (a3 : Option Addr) (c4 : Nat) (r : Nat × Nat × Nat × Nat × Nat × Nat × Nat × Nat × Int) (hF : F71 n x1 l2 = some r) (m : AMem) (h5 : Rd m a3 c4 1 l2.length (l2.map (eI .i64))) :
  CallA E30w 71 [.agg #[.bool x1, .slice a3 l2.length c4]] m (fun v m' => ∃ x : Unit, v = .tuple #[.agg #[.int .u64 ((r.1 : Nat) : Int), .int .u64 ((r.2.1 : Nat) : Int), .int .u64 ((r.2.2.1 : Nat) : Int), .int .u64 ((r.2.2.2.1 : Nat) : Int), .int .u64 ((r.2.2.2.2.1 : Nat) : Int), .int .u64 ((r.2.2.2.2.2.1 : Nat) : Int), .int .u64 ((r.2.2.2.2.2.2.1 : Nat) : Int), .int .u64 ((r.2.2.2.2.2.2.2.1 : Nat) : Int)], .int .i64 r.2.2.2.2.2.2.2.2] ∧ Hp m m' []) := by
 unfold F71 at hF
 refine call_wk (m0 := m) (ps := [.rd a3 c4 1 l2.length (l2.map (eI .i64))]) (N := 63) (rs := [.cell 2 38, .tmp 3]) rfl Tryz.func71 rfl rfl rfl ((Hp.start m).inn rfl h5) <| Wk.seq <| Wk.region <| Wo.x (o_bx rfl) gn rfl fun b6 => ?_
 refine Wo.x (o_al z38 rfl) gn rfl fun b7 => ?_
 refine Wo.od (o_as rfl) rfl <| Wo.nil <| At.tn <| Wk.seq <| Wk.region ?_
 obtain ⟨h8, hF⟩ := gd_some hF
 obtain ⟨h9, hF⟩ := gd_some hF
 refine Wo.x (o_msl (f := eI .i64) (z0 := (0 : Int)) s49 rfl h8 h9 z3 rfl rfl) gn rfl fun b10 => ?_
 refine Wo.od (o_as rfl) rfl <| Wo.nil <| At.tn <| Wk.seq <| Wk.region <| Wo.od (o_mv rfl) rfl ?_
 obtain ⟨h11, hF⟩ := gd_some hF
 replace h11 := inB_some h11
 refine Wo.og (o_ixa s49 rfl rfl h11) gn rfl ?_
 obtain ⟨x12, h13, hF⟩ := ob_some hF
 refine Wo.o0 (o_stl (k := 0) (x1 := x12) (x2 := 2147483648) t3 rfl rfl rfl h13 rfl) <| Wo.nil <| At.tn <| Wk.seq <| Wk.region <| Wo.od (o_fa (r := ptr b6 1) rfl (fa118_1 _ _)) rfl <| Wo.od (o_ld (k := 2) t49 rfl rfl rfl) rfl <| Wo.od (o_mv rfl) rfl ?_
 obtain ⟨r16, h15, hF⟩ := ob_some hF
 refine Wo.x (o_cl rfl rfl (fun m hm => f128_ok n l2 ((List.replicate (16 : Int).toNat (0 : Int)).set ((15 : Int).toNat) 2147483648) a3 c4 (some ⟨b10, 0, none⟩) ((16 : Int).toNat) _ h15 m (hm.rd (k := 3) rfl (.rd _ _ _ _ _)) (hm.rd (k := 0) rfl (.arr _ _ _ _ _))) fun _ => rfl) gn rfl ?_
 rintro ⟨⟩
 refine Wo.od (o_as rfl) rfl <| Wo.nil <| At.tn <| Wk.seq <| Wk.seq ?_
 obtain ⟨v27, h30, hF⟩ := ob_some hF
 refine Wk.cut (G := (fun (r : Bool) (g : Unit) => match r, g with | v27, _ => ⟨.normal, [(1, ptr b6 0), (2, ptr b7 0), (27, .bool v27)], [.obj b6 (.cells [.bool x1, .slice a3 l2.length c4] .own), .rd a3 c4 1 l2.length (l2.map (eI .i64)), .obj b7 (.cells [.int .u64 ((0 : Nat) : Int), .int .u64 ((0 : Nat) : Int), .int .u64 ((0 : Nat) : Int), .int .u64 ((0 : Nat) : Int), .int .u64 ((0 : Nat) : Int), .int .u64 ((0 : Nat) : Int), .int .u64 ((0 : Nat) : Int), .int .u64 ((0 : Nat) : Int)] .own)]⟩) v27) ?_ ?_
 ·clear hF
  revert v27
  intro r hF
  refine Wk.region <| Wo.od (o_mv rfl) rfl <| Wo.od (o_bi rfl rfl (bin_gtr _ _ _)) rfl <| Wo.od (o_mv rfl) rfl ?_
  rcases br_some hF with ⟨h28, hF⟩ | ⟨h28, hF⟩
  ·refine Wo.s (gg rfl rfl (eTF h28)) rfl <| Wo.s (gg rfl rfl (eTF h28)) rfl <| Wo.s (gg rfl rfl (eTF h28)) rfl <| Wo.s (gu rfl rfl) rfl <| Wo.s (gu rfl rfl) rfl <| Wo.s (gu rfl rfl) rfl <| Wo.s (gg rfl rfl (eTF h28)) rfl <| Wo.od (o_pt rfl h28 rfl) rfl <| Wo.nil ?_
   cases hF
   exact At.en () rfl (sc rfl (sc rfl (sc rfl sn))) (Turn.picks [2, 3, 1] rfl rfl)
  ·refine Wo.og (o_mv rfl) (gg rfl rfl (eFF h28)) rfl <| Wo.og (o_bi rfl rfl (bin_eql _ _ _)) (gg rfl rfl (eFF h28)) rfl <| Wo.og (o_mv rfl) (gg rfl rfl (eFF h28)) rfl ?_
   rcases br_some hF with ⟨h29, hF⟩ | ⟨h29, hF⟩
   ·refine Wo.og (o_fa (r := ptr b6 0) rfl (fa118_0 _ _)) (gg rfl rfl (eTT h29)) rfl <| Wo.og (o_ld (k := 2) t4 rfl rfl rfl) (gg rfl rfl (eTT h29)) rfl <| Wo.og (o_un rfl rfl) (gg rfl rfl (eTT h29)) rfl <| Wo.og (o_pt rfl h29 rfl) (gg rfl rfl (eFF h28)) rfl <| Wo.od (o_pf rfl h28 rfl) rfl <| Wo.nil ?_
    cases hF
    exact At.en () rfl (sc rfl (sc rfl (sc rfl sn))) (Turn.picks [2, 3, 1] rfl rfl)
   ·refine Wo.s (gg rfl rfl (eFT h29)) rfl <| Wo.s (gg rfl rfl (eFT h29)) rfl <| Wo.s (gg rfl rfl (eFT h29)) rfl <| Wo.og (o_pf rfl h29 rfl) (gg rfl rfl (eFF h28)) rfl <| Wo.od (o_pf rfl h28 rfl) rfl <| Wo.nil ?_
    cases hF
    exact At.en () rfl (sc rfl (sc rfl (sc rfl sn))) (Turn.picks [2, 3, 1] rfl rfl)
 ·clear h30
  rintro ⟨⟩
  refine At.tn ?_
  rcases br_some hF with ⟨h32, hF⟩ | ⟨h32, hF⟩
  ·refine Wk.condT rfl h32 <| Wk.seq <| Wk.region <| Wo.od (o_bd rfl z38 rfl (bd_s bs38 rfl rfl rfl)) rfl <| Wo.o0 (o_st (k := 2) t38 rfl rfl rfl rfl rfl) <| Wo.od (o_as rfl) rfl <| Wo.nil <| At.tn <| Wk.ret <| At.tr ?_
   cases hF
   exact At.ret (.cell (k := 2) t38 rfl rfl rfl (.tmp rfl .nil)) fun m' hm => ⟨(), rfl, (Turn.picks [] rfl rfl) m' hm⟩
  ·refine Wk.condF rfl h32 <| Wk.skip <| At.tn <| Wk.seq <| Wk.region <| Wo.od (o_fa (r := ptr b6 1) rfl (fa118_1 _ _)) rfl <| Wo.od (o_ld (k := 0) t49 rfl rfl rfl) rfl <| Wo.od (o_as rfl) rfl <| Wo.nil <| At.tn <| Wk.seq ?_
   obtain ⟨l46, h62, hF⟩ := ob_some hF
   refine Wk.cut (G := (fun (r : List (Int)) (g : Option Addr × Nat) => match r, g with | l46, (a47, c48) => ⟨.normal, [(2, ptr b7 0), (6, .slice a47 l46.length c48)], [.obj b7 (.cells [.int .u64 ((0 : Nat) : Int), .int .u64 ((0 : Nat) : Int), .int .u64 ((0 : Nat) : Int), .int .u64 ((0 : Nat) : Int), .int .u64 ((0 : Nat) : Int), .int .u64 ((0 : Nat) : Int), .int .u64 ((0 : Nat) : Int), .int .u64 ((0 : Nat) : Int)] .own), .rd a47 c48 1 l46.length (l46.map (eI .i64))]⟩) l46) ?_ ?_
   ·clear hF
    revert l46
    intro r hF
    refine Wk.seq <| Wk.region <| Wo.od (o_fa (r := ptr b6 0) rfl (fa118_0 _ _)) rfl <| Wo.od (o_ld (k := 0) t4 rfl rfl rfl) rfl <| Wo.nil <| At.tn ?_
    rcases br_some hF with ⟨h49, hF⟩ | ⟨h49, hF⟩
    ·refine Wk.condT rfl h49 <| Wk.seq <| Wk.region ?_
     obtain ⟨h50, hF⟩ := gd_some hF
     obtain ⟨h51, hF⟩ := gd_some hF
     refine Wo.x (o_msl (f := eI .i64) (z0 := (0 : Int)) s49 rfl h50 h51 z3 rfl rfl) gn rfl fun b52 => ?_
     refine Wo.od (o_as rfl) rfl <| Wo.nil <| At.tn <| Wk.seq <| Wk.region <| Wo.od (o_mv rfl) rfl ?_
     obtain ⟨h53, hF⟩ := gd_some hF
     replace h53 := inB_some h53
     refine Wo.og (o_ixa s49 rfl rfl h53) gn rfl ?_
     obtain ⟨x54, h55, hF⟩ := ob_some hF
     refine Wo.o0 (o_stl (k := 0) (x1 := x54) (x2 := 1) t3 rfl rfl rfl h55 rfl) <| Wo.nil <| At.tn <| Wk.region <| Wo.od (o_mv rfl) rfl <| Wo.od (o_mv rfl) rfl ?_
     obtain ⟨l58, h57, hF⟩ := ob_some hF
     refine Wo.turn (Turn.close (k := 0) rfl) <| Wo.turn (Turn.freeze (k := 0) rfl) <| Wo.x (o_clv (N := (fun x : Option Addr × Nat × Nat => [.rd x.1 x.2.1 1 x.2.2 (l58.map (eI .i64))])) rfl rfl (fun m hm => f124_ok n ((List.replicate (17 : Int).toNat (0 : Int)).set ((16 : Int).toNat) 1) l2 (some ⟨b52, 0, none⟩) ((17 : Int).toNat) a3 c4 _ h57 m hm.owns_lt (hm.rd (k := 0) rfl (.rd _ _ _ _ _)) (hm.noOwn (k := 0) rfl) (hm.rd (k := 2) rfl (.rd _ _ _ _ _)) (hm.noOwn (k := 2) rfl)) fun _ => rfl) gn rfl ?_
     rintro ⟨a59, c60, n61⟩
     refine Wo.lenr (k := 0) (xs := l58) rfl ?_
     rintro rfl
     refine Wo.od (o_as rfl) rfl <| Wo.nil ?_
     have hr := Option.some.inj hF
     subst r
     exact At.en (a59, c60) rfl (sc rfl (sc rfl sn)) (Turn.picks [4, 0] rfl rfl)
    ·refine Wk.condF rfl h49 <| Wk.skip ?_
     have hr := Option.some.inj hF
     subst r
     exact At.en (a3, c4) rfl (sc rfl (sc rfl sn)) (Turn.picks [2, 1] rfl rfl)
   ·clear h62
    rintro ⟨a47, c48⟩
    refine At.tn <| Wk.seq <| Wk.region <| Wo.x (o_al z38 rfl) gn rfl fun b64 => ?_
    refine Wo.nil <| At.tn <| Wk.seq <| Wk.seq <| Wk.region <| Wo.od (o_as rfl) rfl <| Wo.nil <| At.tn <| Wk.block ?_
    obtain ⟨l99, h114, hF⟩ := ob_some hF
    refine Wk.cut (G := (fun (r : List (Nat)) (g : Unit) => match r, g with | l99, _ => ⟨(.exit 0), [(2, ptr b7 0), (8, ptr b64 0)], [.obj b7 (.cells [.int .u64 ((0 : Nat) : Int), .int .u64 ((0 : Nat) : Int), .int .u64 ((0 : Nat) : Int), .int .u64 ((0 : Nat) : Int), .int .u64 ((0 : Nat) : Int), .int .u64 ((0 : Nat) : Int), .int .u64 ((0 : Nat) : Int), .int .u64 ((0 : Nat) : Int)] .own), .arr b64 1 8 (l99.map (eN .u64)) .own]⟩) l99) ?_ ?_
    ·refine Wk.weak (fs' := [(2, ptr b7 0), (6, .slice a47 l46.length c48), (8, ptr b64 0), (9, .int .i64 0)]) (ps' := [.obj b7 (.cells [.int .u64 ((0 : Nat) : Int), .int .u64 ((0 : Nat) : Int), .int .u64 ((0 : Nat) : Int), .int .u64 ((0 : Nat) : Int), .int .u64 ((0 : Nat) : Int), .int .u64 ((0 : Nat) : Int), .int .u64 ((0 : Nat) : Int), .int .u64 ((0 : Nat) : Int)] .own), .rd a47 c48 1 l46.length (l46.map (eI .i64)), .arr b64 1 8 (([0, 0, 0, 0, 0, 0, 0, 0] : List (Nat)).map (eN .u64)) .own]) (sc rfl (sc rfl (sc rfl (sc rfl sn)))) (Turn.trans (Turn.asArr (k := 0) (xs := ([0, 0, 0, 0, 0, 0, 0, 0] : List (Nat))) (f := eN .u64) (l := 8) (w := 1) rfl rfl rfl (enN .u64) rfl) (Turn.picks [1, 2, 0] rfl rfl)) ?_
     refine Wk.loop (σ := List (Nat) × Int) (ρ := List (Nat)) (γ := Unit) (δ := fun _ => Unit) _ (fun (s : List (Nat) × Int) (g : Unit) => match s, g with | (l81, v82), _ => ⟨.normal, [(2, ptr b7 0), (6, .slice a47 l46.length c48), (8, ptr b64 0), (9, .int .i64 v82)], [.obj b7 (.cells [.int .u64 ((0 : Nat) : Int), .int .u64 ((0 : Nat) : Int), .int .u64 ((0 : Nat) : Int), .int .u64 ((0 : Nat) : Int), .int .u64 ((0 : Nat) : Int), .int .u64 ((0 : Nat) : Int), .int .u64 ((0 : Nat) : Int), .int .u64 ((0 : Nat) : Int)] .own), .rd a47 c48 1 l46.length (l46.map (eI .i64)), .arr b64 1 8 (l81.map (eN .u64)) .own]⟩) (fun (r : List (Nat)) (g : Unit) => match r, g with | l99, _ => ⟨(.exit 0), [(2, ptr b7 0), (8, ptr b64 0)], [.obj b7 (.cells [.int .u64 ((0 : Nat) : Int), .int .u64 ((0 : Nat) : Int), .int .u64 ((0 : Nat) : Int), .int .u64 ((0 : Nat) : Int), .int .u64 ((0 : Nat) : Int), .int .u64 ((0 : Nat) : Int), .int .u64 ((0 : Nat) : Int), .int .u64 ((0 : Nat) : Int)] .own), .arr b64 1 8 (l99.map (eN .u64)) .own]⟩) ?_ (fun _ _ => rfl) (fun r d => by intro e; cases e) _ _ _ h114 ()
     clear hF h114
     rintro ⟨l81, v82⟩ ⟨⟩ r hF
     unfold L71_1 at hF
     refine Wk.seq <| Wk.seq <| Wk.region <| Wo.od (o_mv rfl) rfl <| Wo.od (o_mv rfl) rfl <| Wo.od (o_ln (k := 1) u49 rfl rfl (.inl rfl)) rfl <| Wo.od (o_bi rfl rfl (bin_lss _ _ _)) rfl <| Wo.nil <| At.tn ?_
     rcases br_some hF with ⟨h100, hF⟩ | ⟨h100, hF⟩
     ·refine Wk.condT rfl h100 <| Wk.skip <| At.tn <| Wk.seq <| Wk.block <| Wk.draw (by kernel_rfl) <| Wo.od (o_mv rfl) rfl <| Wo.od (o_bi rfl rfl (ib_quo _ _ (by decide))) rfl <| Wo.od (o_mv rfl) rfl <| Wo.od (o_bi rfl rfl (ib_quo _ _ (by decide))) rfl ?_
      obtain ⟨h101, hF⟩ := gd_some hF
      replace h101 := inB_some h101
      refine Wo.og (o_iav ar38 rfl rfl h101) gn rfl ?_
      obtain ⟨x102, h103, hF⟩ := ob_some hF
      refine Wo.od (o_lda (k := 2) t26 rfl rfl (map_at h103) rfl rfl) rfl <| Wo.od (o_mv rfl) rfl <| Wo.od (o_mv rfl) rfl ?_
      obtain ⟨h104, hF⟩ := gd_some hF
      replace h104 := inB_some h104
      refine Wo.openr (k := 1) rfl (pos_of h104) ?_
      rintro b105 o106 rfl
      refine Wo.og (o_ixs s49 rfl rfl h104) gn rfl ?_
      obtain ⟨x107, h108, hF⟩ := ob_some hF
      refine Wo.od (o_ldr (k := 0) t3 rfl rfl (map_at h108) rfl rfl) rfl <| Wo.od (o_cv rfl (cv_u (by rw [u3]; rfl) u26 rfl)) rfl <| Wo.od (o_mv rfl) rfl <| Wo.od (o_bi rfl rfl (ib_rem _ _ (by decide))) rfl <| Wo.od (o_bi rfl rfl (bin_mul _ _ _)) rfl ?_
      obtain ⟨h109, hF⟩ := gd_some hF
      obtain ⟨y110, h111, hF⟩ := ob_some hF
      refine Wo.od (o_bi rfl rfl ((ub_shl rfl _ _ h109).trans (cN h111))) rfl <| Wo.od (o_bi rfl rfl (ub_add rfl _ _)) rfl ?_
      obtain ⟨h112, hF⟩ := gd_some hF
      replace h112 := inB_some h112
      refine Wo.og (o_iav ar38 rfl rfl h112) gn rfl <| Wo.o0 (o_stl (k := 3) (x1 := x102) (x2 := uw .u64 (x102 + y110)) t26 rfl rfl rfl h103 rfl) <| Wo.nil <| At.bn <| At.tn <| Wk.region <| Wo.od (o_mv rfl) rfl <| Wo.od (o_bi rfl rfl (bin_add _ _ _)) rfl <| Wo.od (o_as rfl) rfl <| Wo.nil ?_
      cases hF
      exact At.en () rfl (sc rfl (sc rfl (sc rfl (sc rfl sn)))) (Turn.picks [1, 2, 3] rfl rfl)
     ·refine Wk.condF rfl h100 <| Wk.exit <| At.te ?_
      cases hF
      exact At.en () rfl (sc rfl (sc rfl sn)) (Turn.picks [0, 2] rfl rfl)
    ·clear h114
     rintro ⟨⟩
     refine At.be <| At.tn <| Wk.seq <| Wk.region ?_
     obtain ⟨⟨x116, x117, x118, x119, x120, x121, x122, x123⟩, h124, hF⟩ := ob_some hF
     refine Wo.turn (Turn.asCells (k := 1) (ys := [x116, x117, x118, x119, x120, x121, x122, x123]) (cs := [.int .u64 ((x116 : Nat) : Int), .int .u64 ((x117 : Nat) : Int), .int .u64 ((x118 : Nat) : Int), .int .u64 ((x119 : Nat) : Int), .int .u64 ((x120 : Nat) : Int), .int .u64 ((x121 : Nat) : Int), .int .u64 ((x122 : Nat) : Int), .int .u64 ((x123 : Nat) : Int)]) rfl (ls8_some h124) rfl) <| Wo.od (o_ld (k := 1) t38 rfl rfl rfl) rfl <| Wo.o0 (o_st (k := 0) t38 rfl rfl rfl rfl rfl) <| Wo.od (o_as rfl) rfl <| Wo.nil <| At.tn <| Wk.ret ?_
     cases hF
     exact At.ret (.cell (k := 0) t38 rfl rfl rfl (.tmp rfl .nil)) fun m' hm => ⟨(), rfl, (Turn.picks [] rfl rfl) m' hm⟩
theorem f16_ok (n : Nat) (x1 : Int)  (r : Nat × Nat × Nat × Nat × Nat × Nat × Nat × Nat) (hF : F16 n x1 = some r) (m : AMem)  :
  CallA E30w 16 [.int .i64 x1] m (fun v m' => ∃ x : Unit, v = .agg #[.int .u64 ((r.1 : Nat) : Int), .int .u64 ((r.2.1 : Nat) : Int), .int .u64 ((r.2.2.1 : Nat) : Int), .int .u64 ((r.2.2.2.1 : Nat) : Int), .int .u64 ((r.2.2.2.2.1 : Nat) : Int), .int .u64 ((r.2.2.2.2.2.1 : Nat) : Int), .int .u64 ((r.2.2.2.2.2.2.1 : Nat) : Int), .int .u64 ((r.2.2.2.2.2.2.2 : Nat) : Int)] ∧ Hp m m' []) := by
 unfold F16 at hF
 refine call_wk (m0 := m) (ps := []) (N := 12) (rs := [.cell 2 38]) rfl Tryz.func16 rfl rfl rfl (Hp.start m) <| Wk.seq <| Wk.region <| Wo.x (o_al z38 rfl) gn rfl fun b2 => ?_
 refine Wo.nil <| At.tn <| Wk.seq <| Wk.region <| Wo.od (o_mv rfl) rfl ?_
 obtain ⟨⟨r4, l5⟩, h3, hF⟩ := ob_some hF
 refine Wo.x (o_clv (N := (fun x : Option Addr × Nat × Nat => [.rd x.1 x.2.1 1 x.2.2 (l5.map (eI .i64))])) rfl rfl (fun m hm => f72_ok n x1  _ h3 m hm.owns_lt ) fun _ => rfl) gn rfl ?_
 rintro ⟨a6, c7, n8⟩
 refine Wo.lenr (k := 0) (xs := l5) rfl ?_
 rintro rfl
 obtain ⟨⟨r10, r11, r12, r13, r14, r15, r16, r17, r18⟩, h9, hF⟩ := ob_some hF
 refine Wo.x (o_cl rfl rfl (fun m hm => f71_ok n r4 l5 a6 c7 _ h9 m (hm.rd (k := 0) rfl (.rd _ _ _ _ _))) fun _ => rfl) gn rfl ?_
 rintro ⟨⟩
 refine Wo.od (o_mv rfl) rfl <| Wo.od (o_ex rfl rfl) rfl <| Wo.od (o_ex rfl rfl) rfl <| Wo.x (o_al z38 rfl) gn rfl fun b19 => ?_
 refine Wo.o0 (o_st (k := 0) t38 rfl rfl rfl rfl rfl) <| Wo.od (o_as rfl) rfl <| Wo.nil <| At.tn <| Wk.seq <| Wk.region <| Wo.od (o_ld (k := 0) t38 rfl rfl rfl) rfl <| Wo.o0 (o_st (k := 2) t38 rfl rfl rfl rfl rfl) <| Wo.nil <| At.tn <| Wk.ret ?_
 cases hF
 exact At.ret (.cell (k := 2) t38 rfl rfl rfl .nil) fun m' hm => ⟨(), rfl, (Turn.picks [] rfl rfl) m' hm⟩
theorem f11_ok (n : Nat) (x1 : Int) (l2 : List (Int × Int)) (x6 : Nat) (a3 : Option Addr) (c4 : Nat) (r : Nat × Nat × Nat × Nat × Nat × Nat × Nat × Nat × Int) (hF : F11 n x1 l2 x6 = some r) (m : AMem) (h5 : Rd m a3 c4 2 l2.length (l2.map (eP (eI .i64) (eI .i64)))) :
  CallA E30w 11 [.agg #[.int .i64 x1, .slice a3 l2.length c4], .int .u64 ((x6 : Nat) : Int)] m (fun v m' => ∃ x : Unit, v = .tuple #[.agg #[.int .u64 ((r.1 : Nat) : Int), .int .u64 ((r.2.1 : Nat) : Int), .int .u64 ((r.2.2.1 : Nat) : Int), .int .u64 ((r.2.2.2.1 : Nat) : Int), .int .u64 ((r.2.2.2.2.1 : Nat) : Int), .int .u64 ((r.2.2.2.2.2.1 : Nat) : Int), .int .u64 ((r.2.2.2.2.2.2.1 : Nat) : Int), .int .u64 ((r.2.2.2.2.2.2.2.1 : Nat) : Int)], .int .i64 r.2.2.2.2.2.2.2.2] ∧ Hp m m' []) := by
 unfold F11 at hF
 refine call_wk (m0 := m) (ps := [.rd a3 c4 2 l2.length (l2.map (eP (eI .i64) (eI .i64)))]) (N := 19) (rs := [.cell 4 38, .tmp 5]) rfl Tryz.func11 rfl rfl rfl ((Hp.start m).inn rfl h5) <| Wk.seq <| Wk.region <| Wo.x (o_bx rfl) gn rfl fun b7 => ?_
 refine Wo.x (o_al z38 rfl) gn rfl fun b8 => ?_
 refine Wo.od (o_as rfl) rfl <| Wo.nil <| At.tn <| Wk.seq <| Wk.seq <| Wk.region <| Wo.od (o_ld (k := 1) t34 rfl rfl rfl) rfl <| Wo.od (o_mv rfl) rfl ?_
 obtain ⟨r10, h9, hF⟩ := ob_some hF
 refine Wo.x (o_cl rfl rfl (fun m hm => f57_ok n x1 l2 x6 a3 c4 _ h9 m (hm.rd (k := 2) rfl (.rd _ _ _ _ _))) fun _ => rfl) gn rfl ?_
 rintro ⟨⟩
 refine Wo.od (o_as rfl) rfl <| Wo.nil <| At.tn <| Wk.seq <| Wk.region <| Wo.od (o_mv rfl) rfl <| Wo.od (o_bi rfl rfl (ib_neq _ _)) rfl <| Wo.nil <| At.tn ?_
 rcases br_some hF with ⟨h11, hF⟩ | ⟨h11, hF⟩
 ·refine Wk.condT rfl h11 <| Wk.seq <| Wk.region <| Wo.od (o_bd rfl z38 rfl (bd_s bs38 rfl rfl rfl)) rfl <| Wo.od (o_mv rfl) rfl <| Wo.o0 (o_st (k := 0) t38 rfl rfl rfl rfl rfl) <| Wo.od (o_as rfl) rfl <| Wo.nil <| At.tn <| Wk.ret <| At.tr ?_
  cases hF
  exact At.ret (.cell (k := 0) t38 rfl rfl rfl (.tmp rfl .nil)) fun m' hm => ⟨(), rfl, (Turn.picks [] rfl rfl) m' hm⟩
 ·refine Wk.condF rfl h11 <| Wk.skip <| At.tn <| Wk.seq <| Wk.region <| Wo.od (o_ld (k := 1) t34 rfl rfl rfl) rfl <| Wo.od (o_mv rfl) rfl ?_
  obtain ⟨l13, h12, hF⟩ := ob_some hF
  refine Wo.x (o_clg rfl rfl (fun m hm => f58_ok n x1 l2 x6 a3 c4 _ h12 m (hm.rd (k := 2) rfl (.rd _ _ _ _ _))) fun _ => ll_bound) gn rfl ?_
  rintro ⟨a14, n15, rr16⟩
  refine Wo.lenll (k := 0) (L := l13) (f := eI .i64) rfl ?_
  rintro rfl
  refine Wo.od (o_lnl (k := 0) u52 rfl rfl ll_any) rfl ?_
  obtain ⟨⟨r18, r19, r20, r21, r22, r23, r24, r25⟩, h17, hF⟩ := ob_some hF
  refine Wo.x (o_cl rfl rfl (fun m hm => f16_ok n (l13.length : Int)  _ h17 m ) fun _ => rfl) gn rfl ?_
  rintro ⟨⟩
  refine Wo.o0 (o_st (k := 1) t38 rfl rfl rfl rfl rfl) <| Wo.od (o_as rfl) rfl <| Wo.nil <| At.tn <| Wk.ret ?_
  cases hF
  exact At.ret (.cell (k := 1) t38 rfl rfl rfl (.tmp rfl .nil)) fun m' hm => ⟨(), rfl, (Turn.picks [] rfl rfl) m' hm⟩
theorem f122_ok (n : Nat) (x1 : Nat) (x2 : Nat) (x3 : Nat) (x4 : Nat) (x5 : Nat) (x6 : Nat) (x7 : Nat) (x8 : Nat)  (r : List Int) (hF : F122 n x1 x2 x3 x4 x5 x6 x7 x8 = some r) (m : AMem)  :
  CallA E30w 122 [.agg #[.int .u64 ((x1 : Nat) : Int), .int .u64 ((x2 : Nat) : Int), .int .u64 ((x3 : Nat) : Int), .int .u64 ((x4 : Nat) : Int), .int .u64 ((x5 : Nat) : Int), .int .u64 ((x6 : Nat) : Int), .int .u64 ((x7 : Nat) : Int), .int .u64 ((x8 : Nat) : Int)]] m (fun v m' => ∃ x : Option Addr × Nat, v = .slice x.1 x.2 x.2 ∧ Hp m m' [.sl x.1 1 x.2 (r.map (eI .i64))]) := by
 unfold F122 at hF
 refine call_wk (m0 := m) (ps := []) (N := 23) (rs := [.tmp 2]) rfl Tryz.func122 rfl rfl rfl (Hp.start m) <| Wk.seq <| Wk.region <| Wo.x (o_bx rfl) gn rfl fun b9 => ?_
 refine Wo.od (o_as rfl) rfl <| Wo.nil <| At.tn <| Wk.seq <| Wk.region <| Wo.od (o_as rfl) rfl <| Wo.nil <| At.tn <| Wk.seq <| Wk.seq <| Wk.region <| Wo.od (o_as rfl) rfl <| Wo.nil <| At.tn <| Wk.block ?_
 obtain ⟨l36, h46, hF⟩ := ob_some hF
 refine Wk.cut (G := (fun (r : List (Int)) (g : Option Addr) => match r, g with | l36, a37 => ⟨(.exit 0), [(3, .slice a37 l36.length l36.length)], [.sl a37 1 l36.length (l36.map (eI .i64))]⟩) l36) ?_ ?_
 ·refine Wk.weak (fs' := [(1, ptr b9 0), (3, .slice none ([] : List (Int)).length ([] : List (Int)).length), (4, .int .i64 0)]) (ps' := [.arr b9 1 8 (([x1, x2, x3, x4, x5, x6, x7, x8] : List (Nat)).map (eN .u64)) .own, .sl none 1 ([] : List (Int)).length (([] : List (Int)).map (eI .i64))]) (sc rfl (sc rfl (sc rfl sn))) (Turn.trans (Turn.asArr (k := 0) (xs := ([x1, x2, x3, x4, x5, x6, x7, x8] : List (Nat))) (f := eN .u64) (l := 8) (w := 1) rfl rfl rfl (enN .u64) rfl) (Turn.trans (Turn.nil 1 rfl) (Turn.picks [1, 0] rfl rfl))) ?_
  refine Wk.loop (σ := List (Nat) × List (Int) × Int) (ρ := List (Int)) (γ := Option Addr) (δ := fun _ => Option Addr) _ (fun (s : List (Nat) × List (Int) × Int) (g : Option Addr) => match s, g with | (l20, l21, v23), a22 => ⟨.normal, [(1, ptr b9 0), (3, .slice a22 l21.length l21.length), (4, .int .i64 v23)], [.arr b9 1 8 (l20.map (eN .u64)) .own, .sl a22 1 l21.length (l21.map (eI .i64))]⟩) (fun (r : List (Int)) (g : Option Addr) => match r, g with | l36, a37 => ⟨(.exit 0), [(3, .slice a37 l36.length l36.length)], [.sl a37 1 l36.length (l36.map (eI .i64))]⟩) ?_ (fun _ _ => rfl) (fun r d => by intro e; cases e) _ _ _ h46 none
  clear hF h46
  rintro ⟨l20, l21, v23⟩ a22 r hF
  unfold L122_1 at hF
  refine Wk.seq <| Wk.seq <| Wk.region <| Wo.od (o_mv rfl) rfl <| Wo.od (o_bi rfl rfl (bin_lss _ _ _)) rfl <| Wo.nil <| At.tn ?_
  rcases br_some hF with ⟨h38, hF⟩ | ⟨h38, hF⟩
  ·refine Wk.condT rfl h38 <| Wk.skip <| At.tn <| Wk.seq <| Wk.block <| Wk.draw (by kernel_rfl) <| Wo.od (o_mv rfl) rfl <| Wo.od (o_mv rfl) rfl ?_
   obtain ⟨h39, hF⟩ := gd_some hF
   replace h39 := inB_some h39
   refine Wo.og (o_iav ar38 rfl rfl h39) gn rfl ?_
   obtain ⟨x40, h41, hF⟩ := ob_some hF
   refine Wo.od (o_lda (k := 0) t26 rfl rfl (map_at h41) rfl rfl) rfl <| Wo.od (o_bi rfl rfl (ub_rem _ _ (by decide))) rfl <| Wo.od (o_cv rfl (cv_i (by rw [u26]; rfl) u3)) rfl <| Wo.od (o_mv rfl) rfl ?_
   obtain ⟨h42, hF⟩ := gd_some hF
   replace h42 := inB_some h42
   refine Wo.og (o_iav ar38 rfl rfl h42) gn rfl <| Wo.od (o_lda (k := 0) t26 rfl rfl (map_at h41) rfl rfl) rfl <| Wo.od (o_bi rfl rfl (ub_quo rfl _ _ (by decide))) rfl <| Wo.od (o_cv rfl (cv_i (by rw [u26]; rfl) u3)) rfl <| Wo.x (o_bs (es := ([IntKind.wrap .i64 ((x40 % 4294967296 : Nat) : Int), IntKind.wrap .i64 ((uw .u64 (x40 / 4294967296) : Nat) : Int)] : List (Int)).map (eI .i64)) s49 rfl (bs_c s49 z3 rfl rfl) rfl rfl) gn rfl fun b43 => ?_
   obtain ⟨h44, hF⟩ := gd_some hF
   refine Wo.x (o_apl (k := 2) (k2 := 0) (xs := (l21 : List (Int))) (ys := ([IntKind.wrap .i64 ((x40 % 4294967296 : Nat) : Int), IntKind.wrap .i64 ((uw .u64 (x40 / 4294967296) : Nat) : Int)] : List (Int))) (enI .i64) s49 ⟨_, u49⟩ rfl rfl rfl (.arr _ _ _ _ _) h44) gn rfl fun a45 => ?_
   refine Wo.od (o_as rfl) rfl <| Wo.nil <| At.bn <| At.tn <| Wk.region <| Wo.od (o_mv rfl) rfl <| Wo.od (o_bi rfl rfl (bin_add _ _ _)) rfl <| Wo.od (o_as rfl) rfl <| Wo.nil ?_
   cases hF
   exact At.en a45 rfl (sc rfl (sc rfl (sc rfl sn))) (Turn.picks [1, 2] rfl rfl)
  ·refine Wk.condF rfl h38 <| Wk.exit <| At.te ?_
   cases hF
   exact At.en a22 rfl (sc rfl sn) (Turn.picks [1] rfl rfl)
 ·clear h46
  rintro a37
  refine At.be <| At.tn <| Wk.seq <| Wk.region <| Wo.od (o_mv rfl) rfl <| Wo.od (o_as rfl) rfl <| Wo.nil <| At.tn <| Wk.ret ?_
  have hr := Option.some.inj hF
  subst r
  exact At.ret (.tmp rfl .nil) fun m' hm => ⟨(a37, l36.length), rfl, (Turn.picks [0] rfl rfl) m' hm⟩
theorem f66_ok (n : Nat) (x1 : Nat) (x2 : Nat) (x3 : Nat) (x4 : Nat) (x5 : Nat) (x6 : Nat) (x7 : Nat) (x8 : Nat)  (r : Bool × List Int) (hF : F66 n x1 x2 x3 x4 x5 x6 x7 x8 = some r) (m : AMem) {H : Nat → Prop} (hH : ∀ b, H b → b < m.next)  :
  CallA E30w 66 [.agg #[.int .u64 ((x1 : Nat) : Int), .int .u64 ((x2 : Nat) : Int), .int .u64 ((x3 : Nat) : Int), .int .u64 ((x4 : Nat) : Int), .int .u64 ((x5 : Nat) : Int), .int .u64 ((x6 : Nat) : Int), .int .u64 ((x7 : Nat) : Int), .int .u64 ((x8 : Nat) : Int)]] m (fun v m' => ∃ x : Option Addr × Nat × Nat, v = .agg #[.bool r.1, .slice x.1 x.2.2 x.2.1] ∧ Hp m m' [.rd x.1 x.2.1 1 x.2.2 (r.2.map (eI .i64)), .gen (veil H)]) := by
 unfold F66 at hF
 refine call_wk (m0 := m) (ps := [.gen (veil H)]) (N := 20) (rs := [.cell 2 118]) rfl Tryz.func66 rfl rfl rfl (Hp.startV m hH) <| Wk.seq <| Wk.region <| Wo.x (o_bx rfl) gn rfl fun b9 => ?_
 refine Wo.x (o_al z118 rfl) gn rfl fun b10 => ?_
 refine Wo.nil <| At.tn <| Wk.seq <| Wk.region <| Wo.od (o_ld (k := 1) t38 rfl rfl rfl) rfl ?_
 obtain ⟨l12, h11, hF⟩ := ob_some hF
 refine Wo.x (o_cl rfl rfl (fun m hm => f122_ok n x1 x2 x3 x4 x5 x6 x7 x8  _ h11 m ) fun _ => rfl) gn rfl ?_
 rintro ⟨a13, n14⟩
 refine Wo.len (k := 0) (xs := l12) rfl ?_
 rintro rfl
 refine Wo.od (o_as rfl) rfl <| Wo.nil <| At.tn <| Wk.seq <| Wk.seq <| Wk.region <| Wo.od (o_ia (r := ptr b9 7) rfl rfl (ia_c ar38 (i := 7) (by decide))) rfl <| Wo.od (o_ld (k := 2) t26 rfl rfl rfl) rfl <| Wo.od (o_bi rfl rfl (ub_lss _ _)) rfl <| Wo.nil <| At.tn ?_
 rcases br_some hF with ⟨h15, hF⟩ | ⟨h15, hF⟩
 ·refine Wk.condT rfl h15 <| Wk.seq <| Wk.region <| Wo.od (o_mv rfl) rfl ?_
  obtain ⟨⟨r17, l18⟩, h16, hF⟩ := ob_some hF
  refine Wo.turn (Turn.freeze (k := 0) rfl) <| Wo.x (o_clv (N := (fun x : Option Addr × Nat × Nat => [.rd x.1 x.2.1 1 x.2.2 (l18.map (eI .i64))])) rfl rfl (fun m hm => f123_ok n false l12 a13 l12.length _ h16 m hm.owns_lt (hm.rd (k := 0) rfl (.rd _ _ _ _ _)) (hm.noOwn (k := 0) rfl)) fun _ => rfl) gn rfl ?_
  rintro ⟨a19, c20, n21⟩
  refine Wo.lenr (k := 0) (xs := l18) rfl ?_
  rintro rfl
  refine Wo.o0 (o_st (k := 2) t118 rfl rfl rfl rfl rfl) <| Wo.nil <| At.tn <| Wk.ret <| At.tr ?_
  cases hF
  exact At.ret (.cell (k := 2) t118 rfl rfl rfl .nil) fun m' hm => ⟨(a19, c20, l18.length), rfl, (Turn.picks [0, 4] rfl rfl) m' hm⟩
 ·refine Wk.condF rfl h15 <| Wk.skip <| At.tn <| Wk.seq <| Wk.region ?_
  obtain ⟨h22, hF⟩ := gd_some hF
  obtain ⟨h23, hF⟩ := gd_some hF
  refine Wo.x (o_msl (f := eI .i64) (z0 := (0 : Int)) s49 rfl h22 h23 z3 rfl rfl) gn rfl fun b24 => ?_
  refine Wo.od (o_as rfl) rfl <| Wo.nil <| At.tn <| Wk.seq <| Wk.region <| Wo.od (o_mv rfl) rfl ?_
  obtain ⟨h25, hF⟩ := gd_some hF
  replace h25 := inB_some h25
  refine Wo.og (o_ixa s49 rfl rfl h25) gn rfl ?_
  obtain ⟨x26, h27, hF⟩ := ob_some hF
  refine Wo.o0 (o_stl (k := 0) (x1 := x26) (x2 := 1) t3 rfl rfl rfl h27 rfl) <| Wo.nil <| At.tn <| Wk.seq <| Wk.region <| Wo.od (o_mv rfl) rfl <| Wo.od (o_mv rfl) rfl ?_
  obtain ⟨l30, h29, hF⟩ := ob_some hF
  refine Wo.turn (Turn.freeze (k := 1) rfl) <| Wo.x (o_clv (N := (fun x : Option Addr × Nat × Nat => [.rd x.1 x.2.1 1 x.2.2 (l30.map (eI .i64))])) rfl rfl (fun m hm => f125_ok n l12 a13 l12.length _ h29 m hm.owns_lt (hm.rd (k := 1) rfl (.rd _ _ _ _ _)) (hm.noOwn (k := 1) rfl)) fun _ => rfl) gn rfl ?_
  rintro ⟨a31, c32, n33⟩
  refine Wo.lenr (k := 0) (xs := l30) rfl ?_
  rintro rfl
  obtain ⟨l35, h34, hF⟩ := ob_some hF
  refine Wo.turn (Turn.close (k := 1) rfl) <| Wo.turn (Turn.freeze (k := 1) rfl) <| Wo.x (o_clv (N := (fun x : Option Addr × Nat × Nat => [.rd x.1 x.2.1 1 x.2.2 (l35.map (eI .i64))])) rfl rfl (fun m hm => f124_ok n ((List.replicate (17 : Int).toNat (0 : Int)).set ((16 : Int).toNat) 1) l30 (some ⟨b24, 0, none⟩) ((17 : Int).toNat) a31 c32 _ h34 m hm.owns_lt (hm.rd (k := 1) rfl (.rd _ _ _ _ _)) (hm.noOwn (k := 1) rfl) (hm.rd (k := 0) rfl (.rd _ _ _ _ _)) (hm.noOwn (k := 0) rfl)) fun _ => rfl) gn rfl ?_
  rintro ⟨a36, c37, n38⟩
  refine Wo.lenr (k := 0) (xs := l35) rfl ?_
  rintro rfl
  obtain ⟨⟨r40, l41⟩, h39, hF⟩ := ob_some hF
  refine Wo.x (o_clv (N := (fun x : Option Addr × Nat × Nat => [.rd x.1 x.2.1 1 x.2.2 (l41.map (eI .i64))])) rfl rfl (fun m hm => f123_ok n true l35 a36 c37 _ h39 m hm.owns_lt (hm.rd (k := 0) rfl (.rd _ _ _ _ _)) (hm.noOwn (k := 0) rfl)) fun _ => rfl) gn rfl ?_
  rintro ⟨a42, c43, n44⟩
  refine Wo.lenr (k := 0) (xs := l41) rfl ?_
  rintro rfl
  refine Wo.o0 (o_st (k := 5) t118 rfl rfl rfl rfl rfl) <| Wo.nil <| At.tn <| Wk.ret ?_
  cases hF
  exact At.ret (.cell (k := 5) t118 rfl rfl rfl .nil) fun m' hm => ⟨(a42, c43, l41.length), rfl, (Turn.picks [0, 7] rfl rfl) m' hm⟩
theorem f160_ok (n : Nat) (x1 : Bool) (l2 : List (Int)) (a3 : Option Addr) (c4 : Nat) (r : Bool × List Int) (hF : F160 n x1 l2 = some r) (m : AMem) {H : Nat → Prop} (hH : ∀ b, H b → b < m.next) (h5 : Rd m a3 c4 1 l2.length (l2.map (eI .i64))) (h6 : ∀ b, abk a3 = some b → ¬ H b) :
  CallA E30w 160 [.agg #[.bool x1, .slice a3 l2.length c4]] m (fun v m' => ∃ x : Option Addr × Nat × Nat, v = .agg #[.bool r.1, .slice x.1 x.2.2 x.2.1] ∧ Hp m m' [.rd x.1 x.2.1 1 x.2.2 (r.2.map (eI .i64)), .gen (veil H)]) := by
 unfold F160 at hF
 refine call_wk (m0 := m) (ps := [.rd a3 c4 1 l2.length (l2.map (eI .i64)), .gen (veil H)]) (N := 9) (rs := [.cell 2 118]) rfl Tryz.func160 rfl rfl rfl (Hp.innV (l0 := []) (Hp.startV m hH) rfl h5 h6) <| Wk.seq <| Wk.region <| Wo.x (o_bx rfl) gn rfl fun b7 => ?_
 refine Wo.x (o_al z118 rfl) gn rfl fun b8 => ?_
 refine Wo.nil <| At.tn <| Wk.seq <| Wk.region <| Wo.od (o_fa (r := ptr b7 0) rfl (fa118_0 _ _)) rfl <| Wo.od (o_ld (k := 1) t4 rfl rfl rfl) rfl <| Wo.od (o_un rfl rfl) rfl <| Wo.od (o_fa (r := ptr b7 1) rfl (fa118_1 _ _)) rfl <| Wo.od (o_ld (k := 1) t49 rfl rfl rfl) rfl ?_
 obtain ⟨⟨r10, l11⟩, h9, hF⟩ := ob_some hF
 refine Wo.x (o_clv (N := (fun x : Option Addr × Nat × Nat => [.rd x.1 x.2.1 1 x.2.2 (l11.map (eI .i64))])) rfl rfl (fun m hm => f123_ok n (!x1) l2 a3 c4 _ h9 m hm.owns_lt (hm.rd (k := 2) rfl (.rd _ _ _ _ _)) (hm.noOwn (k := 2) rfl)) fun _ => rfl) gn rfl ?_
 rintro ⟨a12, c13, n14⟩
 refine Wo.lenr (k := 0) (xs := l11) rfl ?_
 rintro rfl
 refine Wo.o0 (o_st (k := 1) t118 rfl rfl rfl rfl rfl) <| Wo.nil <| At.tn <| Wk.ret ?_
 cases hF
 exact At.ret (.cell (k := 1) t118 rfl rfl rfl .nil) fun m' hm => ⟨(a12, c13, l11.length), rfl, (Turn.picks [0, 4] rfl rfl) m' hm⟩
theorem f171_ok (n : Nat) (l1 : List (Int)) (l5 : List (Int)) (a2 : Option Addr) (c3 : Nat) (a6 : Option Addr) (c7 : Nat) (r : List Int) (hF : F171 n l1 l5 = some r) (m : AMem) (h4 : Rd m a2 c3 1 l1.length (l1.map (eI .i64))) (h8 : Rd m a6 c7 1 l5.length (l5.map (eI .i64))) :
  CallA E30w 171 [.slice a2 l1.length c3, .slice a6 l5.length c7] m (fun v m' => ∃ x : Option Addr × Nat, v = .slice x.1 x.2 x.2 ∧ Hp m m' [.sl x.1 1 x.2 (r.map (eI .i64))]) := by
 unfold F171 at hF
 refine call_wk (m0 := m) (ps := [.rd a6 c7 1 l5.length (l5.map (eI .i64)), .rd a2 c3 1 l1.length (l1.map (eI .i64))]) (N := 52) (rs := [.tmp 4]) rfl Tryz.func171 rfl rfl rfl (((Hp.start m).inn rfl h4).inn rfl h8) <| Wk.seq <| Wk.region <| Wo.od (o_as rfl) rfl <| Wo.nil <| At.tn <| Wk.seq <| Wk.region <| Wo.od (o_as rfl) rfl <| Wo.nil <| At.tn <| Wk.seq <| Wk.region <| Wo.od (o_as rfl) rfl <| Wo.nil <| At.tn <| Wk.seq <| Wk.seq <| Wk.region <| Wo.od (o_as rfl) rfl <| Wo.nil <| At.tn <| Wk.block ?_
 obtain ⟨l185, h269, hF⟩ := ob_some hF
 refine Wk.cut (G := (fun (r : List (Int)) (g : Option Addr) => match r, g with | l185, a186 => ⟨(.exit 0), [(5, .slice a186 l185.length l185.length)], [.sl a186 1 l185.length (l185.map (eI .i64))]⟩) l185) ?_ ?_
 ·refine Wk.weak (fs' := [(0, .slice a2 l1.length c3), (1, .slice a6 l5.length c7), (5, .slice none ([] : List (Int)).length ([] : List (Int)).length), (6, .int .i64 0), (7, .int .i64 0)]) (ps' := [.rd a2 c3 1 l1.length (l1.map (eI .i64)), .rd a6 c7 1 l5.length (l5.map (eI .i64)), .sl none 1 ([] : List (Int)).length (([] : List (Int)).map (eI .i64))]) (sc rfl (sc rfl (sc rfl (sc rfl (sc rfl sn))))) (Turn.trans (Turn.nil 1 rfl) (Turn.picks [2, 1, 0] rfl rfl)) ?_
  refine Wk.loop (σ := List (Int) × Int × Int) (ρ := List (Int)) (γ := Option Addr) (δ := fun _ => Option Addr) _ (fun (s : List (Int) × Int × Int) (g : Option Addr) => match s, g with | (l95, v97, v98), a96 => ⟨.normal, [(0, .slice a2 l1.length c3), (1, .slice a6 l5.length c7), (5, .slice a96 l95.length l95.length), (6, .int .i64 v97), (7, .int .i64 v98)], [.rd a2 c3 1 l1.length (l1.map (eI .i64)), .rd a6 c7 1 l5.length (l5.map (eI .i64)), .sl a96 1 l95.length (l95.map (eI .i64))]⟩) (fun (r : List (Int)) (g : Option Addr) => match r, g with | l185, a186 => ⟨(.exit 0), [(5, .slice a186 l185.length l185.length)], [.sl a186 1 l185.length (l185.map (eI .i64))]⟩) ?_ (fun _ _ => rfl) (fun r d => by intro e; cases e) _ _ _ h269 none
  clear hF h269
  rintro ⟨l95, v97, v98⟩ a96 r hF
  unfold L171_1 at hF
  refine Wk.seq <| Wk.seq ?_
  obtain ⟨v197, h200, hF⟩ := ob_some hF
  refine Wk.cut (G := (fun (r : Bool) (g : Unit) => match r, g with | v197, _ => ⟨.normal, [(0, .slice a2 l1.length c3), (1, .slice a6 l5.length c7), (5, .slice a96 l95.length l95.length), (6, .int .i64 v97), (7, .int .i64 v98), (21, .bool v197)], [.rd a2 c3 1 l1.length (l1.map (eI .i64)), .rd a6 c7 1 l5.length (l5.map (eI .i64)), .sl a96 1 l95.length (l95.map (eI .i64))]⟩) v197) ?_ ?_
  ·clear hF
   revert v197
   intro r hF
   refine Wk.region <| Wo.od (o_mv rfl) rfl <| Wo.od (o_mv rfl) rfl <| Wo.od (o_ln (k := 0) u49 rfl rfl (.inl rfl)) rfl <| Wo.od (o_bi rfl rfl (bin_lss _ _ _)) rfl <| Wo.od (o_mv rfl) rfl ?_
   rcases br_some hF with ⟨h198, hF⟩ | ⟨h198, hF⟩
   ·refine Wo.s (gg rfl rfl (eTF h198)) rfl <| Wo.s (gg rfl rfl (eTF h198)) rfl <| Wo.s (gg rfl rfl (eTF h198)) rfl <| Wo.s (gg rfl rfl (eTF h198)) rfl <| Wo.od (o_pt rfl h198 rfl) rfl <| Wo.od (o_mv rfl) rfl <| Wo.s (gg rfl rfl rfl) rfl <| Wo.s (gg rfl rfl rfl) rfl <| Wo.od (o_pT rfl rfl) rfl <| Wo.nil ?_
    cases hF
    exact At.en () rfl (sc rfl (sc rfl (sc rfl (sc rfl (sc rfl (sc rfl sn)))))) (Turn.picks [0, 1, 2] rfl rfl)
   ·refine Wo.og (o_mv rfl) (gg rfl rfl (eFF h198)) rfl <| Wo.og (o_mv rfl) (gg rfl rfl (eFF h198)) rfl <| Wo.og (o_ln (k := 1) u49 rfl rfl (.inl rfl)) (gg rfl rfl (eFF h198)) rfl <| Wo.og (o_bi rfl rfl (bin_lss _ _ _)) (gg rfl rfl (eFF h198)) rfl <| Wo.od (o_pf rfl h198 rfl) rfl <| Wo.od (o_mv rfl) rfl ?_
    rcases br_some hF with ⟨h199, hF⟩ | ⟨h199, hF⟩
    ·refine Wo.s (gg rfl rfl (eTF h199)) rfl <| Wo.s (gg rfl rfl (eTF h199)) rfl <| Wo.od (o_pt rfl h199 rfl) rfl <| Wo.nil ?_
     cases hF
     exact At.en () rfl (sc rfl (sc rfl (sc rfl (sc rfl (sc rfl (sc rfl sn)))))) (Turn.picks [0, 1, 2] rfl rfl)
    ·refine Wo.og (o_mv rfl) (gg rfl rfl (eFF h199)) rfl <| Wo.og (o_bi rfl rfl (bin_gtr _ _ _)) (gg rfl rfl (eFF h199)) rfl <| Wo.od (o_pf rfl h199 rfl) rfl <| Wo.nil ?_
     cases hF
     exact At.en () rfl (sc rfl (sc rfl (sc rfl (sc rfl (sc rfl (sc rfl sn)))))) (Turn.picks [0, 1, 2] rfl rfl)
  ·clear h200
   rintro ⟨⟩
   refine At.tn ?_
   rcases br_some hF with ⟨h202, hF⟩ | ⟨h202, hF⟩
   ·refine Wk.condT rfl h202 <| Wk.skip <| At.tn <| Wk.seq <| Wk.block <| Wk.seq ?_
    obtain ⟨v242, h249, hF⟩ := ob_some hF
    refine Wk.cut (G := (fun (r : Int) (g : Unit) => match r, g with | v242, _ => ⟨.normal, [(0, .slice a2 l1.length c3), (1, .slice a6 l5.length c7), (5, .slice a96 l95.length l95.length), (6, .int .i64 v242), (7, .int .i64 v98)], [.rd a2 c3 1 l1.length (l1.map (eI .i64)), .rd a6 c7 1 l5.length (l5.map (eI .i64)), .sl a96 1 l95.length (l95.map (eI .i64))]⟩) v242) ?_ ?_
    ·clear hF
     revert v242
     intro r hF
     refine Wk.seq <| Wk.region <| Wo.od (o_mv rfl) rfl <| Wo.od (o_mv rfl) rfl <| Wo.od (o_ln (k := 0) u49 rfl rfl (.inl rfl)) rfl <| Wo.od (o_bi rfl rfl (bin_lss _ _ _)) rfl <| Wo.nil <| At.tn ?_
     rcases br_some hF with ⟨h243, hF⟩ | ⟨h243, hF⟩
     ·refine Wk.condT rfl h243 <| Wk.region <| Wo.od (o_mv rfl) rfl <| Wo.od (o_mv rfl) rfl <| Wo.od (o_mv rfl) rfl ?_
      obtain ⟨h244, hF⟩ := gd_some hF
      replace h244 := inB_some h244
      refine Wo.openr (k := 0) rfl (pos_of h244) ?_
      rintro b245 o246 rfl
      refine Wo.og (o_ixs s49 rfl rfl h244) gn rfl ?_
      obtain ⟨x247, h248, hF⟩ := ob_some hF
      refine Wo.od (o_ldr (k := 0) t3 rfl rfl (map_at h248) rfl rfl) rfl <| Wo.od (o_bi rfl rfl (bin_add _ _ _)) rfl <| Wo.od (o_as rfl) rfl <| Wo.nil ?_
      cases hF
      exact At.en () rfl (sc rfl (sc rfl (sc rfl (sc rfl (sc rfl sn))))) (Turn.picks [1, 2, 3] rfl rfl)
     ·refine Wk.condF rfl h243 <| Wk.skip ?_
      have hr := Option.some.inj hF
      subst r
      exact At.en () rfl (sc rfl (sc rfl (sc rfl (sc rfl (sc rfl sn))))) (Turn.picks [0, 1, 2] rfl rfl)
    ·clear h249
     rintro ⟨⟩
     refine At.tn <| Wk.seq ?_
     obtain ⟨v257, h264, hF⟩ := ob_some hF
     refine Wk.cut (G := (fun (r : Int) (g : Unit) => match r, g with | v257, _ => ⟨.normal, [(0, .slice a2 l1.length c3), (1, .slice a6 l5.length c7), (5, .slice a96 l95.length l95.length), (6, .int .i64 v257), (7, .int .i64 v98)], [.rd a2 c3 1 l1.length (l1.map (eI .i64)), .rd a6 c7 1 l5.length (l5.map (eI .i64)), .sl a96 1 l95.length (l95.map (eI .i64))]⟩) v257) ?_ ?_
     ·clear hF
      revert v257
      intro r hF
      refine Wk.seq <| Wk.region <| Wo.od (o_mv rfl) rfl <| Wo.od (o_mv rfl) rfl <| Wo.od (o_ln (k := 1) u49 rfl rfl (.inl rfl)) rfl <| Wo.od (o_bi rfl rfl (bin_lss _ _ _)) rfl <| Wo.nil <| At.tn ?_
      rcases br_some hF with ⟨h258, hF⟩ | ⟨h258, hF⟩
      ·refine Wk.condT rfl h258 <| Wk.region <| Wo.od (o_mv rfl) rfl <| Wo.od (o_mv rfl) rfl <| Wo.od (o_mv rfl) rfl ?_
       obtain ⟨h259, hF⟩ := gd_some hF
       replace h259 := inB_some h259
       refine Wo.openr (k := 1) rfl (pos_of h259) ?_
       rintro b260 o261 rfl
       refine Wo.og (o_ixs s49 rfl rfl h259) gn rfl ?_
       obtain ⟨x262, h263, hF⟩ := ob_some hF
       refine Wo.od (o_ldr (k := 0) t3 rfl rfl (map_at h263) rfl rfl) rfl <| Wo.od (o_bi rfl rfl (bin_add _ _ _)) rfl <| Wo.od (o_as rfl) rfl <| Wo.nil ?_
       cases hF
       exact At.en () rfl (sc rfl (sc rfl (sc rfl (sc rfl (sc rfl sn))))) (Turn.picks [1, 2, 3] rfl rfl)
      ·refine Wk.condF rfl h258 <| Wk.skip ?_
       have hr := Option.some.inj hF
       subst r
       exact At.en () rfl (sc rfl (sc rfl (sc rfl (sc rfl (sc rfl sn))))) (Turn.picks [0, 1, 2] rfl rfl)
     ·clear h264
      rintro ⟨⟩
      refine At.tn <| Wk.seq <| Wk.region <| Wo.od (o_mv rfl) rfl <| Wo.od (o_mv rfl) rfl <| Wo.od (o_bi rfl rfl (ib_rem _ _ (by decide))) rfl <| Wo.x (o_bs (es := ([Int.tmod v257 4294967296] : List (Int)).map (eI .i64)) s49 rfl (bs_c s49 z3 rfl rfl) rfl rfl) gn rfl fun b266 => ?_
      obtain ⟨h267, hF⟩ := gd_some hF
      refine Wo.x (o_apl (k := 3) (k2 := 0) (xs := (l95 : List (Int))) (ys := ([Int.tmod v257 4294967296] : List (Int))) (enI .i64) s49 ⟨_, u49⟩ rfl rfl rfl (.arr _ _ _ _ _) h267) gn rfl fun a268 => ?_
      refine Wo.od (o_as rfl) rfl <| Wo.nil <| At.tn <| Wk.region <| Wo.od (o_mv rfl) rfl <| Wo.od (o_bi rfl rfl (ib_quo _ _ (by decide))) rfl <| Wo.od (o_as rfl) rfl <| Wo.nil <| At.bn <| At.tn <| Wk.region <| Wo.od (o_mv rfl) rfl <| Wo.od (o_bi rfl rfl (bin_add _ _ _)) rfl <| Wo.od (o_as rfl) rfl <| Wo.nil ?_
      cases hF
      exact At.en a268 rfl (sc rfl (sc rfl (sc rfl (sc rfl (sc rfl sn))))) (Turn.picks [1, 2, 3] rfl rfl)
   ·refine Wk.condF rfl h202 <| Wk.exit <| At.te ?_
    cases hF
    exact At.en a96 rfl (sc rfl sn) (Turn.picks [2] rfl rfl)
 ·clear h269
  rintro a186
  refine At.be <| At.tn <| Wk.seq <| Wk.region <| Wo.od (o_mv rfl) rfl <| Wo.od (o_as rfl) rfl <| Wo.nil <| At.tn <| Wk.ret ?_
  have hr := Option.some.inj hF
  subst r
  exact At.ret (.tmp rfl .nil) fun m' hm => ⟨(a186, l185.length), rfl, (Turn.picks [0] rfl rfl) m' hm⟩
theorem f162_ok (n : Nat) (x1 : Bool) (l2 : List (Int)) (x7 : Bool) (l8 : List (Int)) (a3 : Option Addr) (c4 : Nat) (a9 : Option Addr) (c10 : Nat) (r : Bool × List Int) (hF : F162 n x1 l2 x7 l8 = some r) (m : AMem) {H : Nat → Prop} (hH : ∀ b, H b → b < m.next) (h5 : Rd m a3 c4 1 l2.length (l2.map (eI .i64))) (h6 : ∀ b, abk a3 = some b → ¬ H b) (h11 : Rd m a9 c10 1 l8.length (l8.map (eI .i64))) (h12 : ∀ b, abk a9 = some b → ¬ H b) :
  CallA E30w 162 [.agg #[.bool x1, .slice a3 l2.length c4], .agg #[.bool x7, .slice a9 l8.length c10]] m (fun v m' => ∃ x : Option Addr × Nat × Nat, v = .agg #[.bool r.1, .slice x.1 x.2.2 x.2.1] ∧ Hp m m' [.rd x.1 x.2.1 1 x.2.2 (r.2.map (eI .i64)), .gen (veil H)]) := by
 unfold F162 at hF
 refine call_wk (m0 := m) (ps := [.rd a9 c10 1 l8.length (l8.map (eI .i64)), .rd a3 c4 1 l2.length (l2.map (eI .i64)), .gen (veil H)]) (N := 40) (rs := [.cell 4 118]) rfl Tryz.func162 rfl rfl rfl (Hp.innV (l0 := [.rd a3 c4 1 l2.length (l2.map (eI .i64))]) (Hp.innV (l0 := []) (Hp.startV m hH) rfl h5 h6) rfl h11 h12) <| Wk.seq <| Wk.region <| Wo.x (o_bx rfl) gn rfl fun b13 => ?_
 refine Wo.x (o_bx rfl) gn rfl fun b14 => ?_
 refine Wo.x (o_al z118 rfl) gn rfl fun b15 => ?_
 refine Wo.nil <| At.tn <| Wk.seq <| Wk.seq <| Wk.region <| Wo.od (o_fa (r := ptr b13 0) rfl (fa118_0 _ _)) rfl <| Wo.od (o_ld (k := 2) t4 rfl rfl rfl) rfl <| Wo.od (o_fa (r := ptr b14 0) rfl (fa118_0 _ _)) rfl <| Wo.od (o_ld (k := 1) t4 rfl rfl rfl) rfl <| Wo.od (o_bi rfl rfl (bb_eq u4)) rfl <| Wo.nil <| At.tn ?_
 rcases br_some hF with ⟨h16, hF⟩ | ⟨h16, hF⟩
 ·refine Wk.condT rfl h16 <| Wk.seq <| Wk.drawc (prs := [(1, 6)]) (by kernel_rfl) <| Wn.od (o_fa (r := ptr b13 0) rfl (fa118_0 _ _)) rfl <| Wn.od (o_ld (k := 2) t4 rfl rfl rfl) rfl <| Wn.od (o_fa (r := ptr b13 1) rfl (fa118_1 _ _)) rfl <| Wn.od (o_ld (k := 2) t49 rfl rfl rfl) rfl <| Wn.od (o_fa (r := ptr b14 1) rfl (fa118_1 _ _)) rfl <| Wn.od (o_ld (k := 1) t49 rfl rfl rfl) rfl ?_
  obtain ⟨l18, h17, hF⟩ := ob_some hF
  refine Wn.c (o_ce rfl rfl (fun m hm => f171_ok n l2 l8 a3 c4 a9 c10 _ h17 m (hm.rd (k := 4) rfl (.rd _ _ _ _ _)) (hm.rd (k := 3) rfl (.rd _ _ _ _ _))) fun _ => rfl) gn rfl ?_
  rintro ⟨a19, n20⟩
  refine Wn.len (k := 0) (xs := l18) rfl ?_
  rintro rfl
  obtain ⟨⟨r22, l23⟩, h21, hF⟩ := ob_some hF
  refine Wn.turn (Turn.freeze (k := 0) rfl) <| Wn.c (o_cev (N := (fun x : Option Addr × Nat × Nat => [.rd x.1 x.2.1 1 x.2.2 (l23.map (eI .i64))])) rfl rfl (fun m hm => f123_ok n x1 l18 a19 l18.length _ h21 m hm.owns_lt (hm.rd (k := 0) rfl (.rd _ _ _ _ _)) (hm.noOwn (k := 0) rfl)) fun _ => rfl) gn rfl ?_
  rintro ⟨a24, c25, n26⟩
  refine Wn.lenr (k := 0) (xs := l23) rfl ?_
  rintro rfl
  refine Wn.o0 (o_st (k := 2) t118 rfl rfl rfl rfl rfl) <| Wn.nil (fun m hm => OkP.all rfl) <| At.tn <| Wk.ret <| At.tr ?_
  cases hF
  exact At.ret (.cell (k := 2) t118 rfl rfl rfl .nil) fun m' hm => ⟨(a24, c25, l23.length), rfl, (Turn.picks [0, 7] rfl rfl) m' hm⟩
 ·refine Wk.condF rfl h16 <| Wk.skip <| At.tn <| Wk.seq <| Wk.seq <| Wk.region <| Wo.od (o_fa (r := ptr b13 1) rfl (fa118_1 _ _)) rfl <| Wo.od (o_ld (k := 2) t49 rfl rfl rfl) rfl <| Wo.od (o_fa (r := ptr b14 1) rfl (fa118_1 _ _)) rfl <| Wo.od (o_ld (k := 1) t49 rfl rfl rfl) rfl ?_
  obtain ⟨r28, h27, hF⟩ := ob_some hF
  refine Wo.x (o_cl rfl rfl (fun m hm => f128_ok n l2 l8 a3 c4 a9 c10 _ h27 m (hm.rd (k := 4) rfl (.rd _ _ _ _ _)) (hm.rd (k := 3) rfl (.rd _ _ _ _ _))) fun _ => rfl) gn rfl ?_
  rintro ⟨⟩
  refine Wo.od (o_bi rfl rfl (bin_geq _ _ _)) rfl <| Wo.nil <| At.tn ?_
  rcases br_some hF with ⟨h29, hF⟩ | ⟨h29, hF⟩
  ·refine Wk.condT rfl h29 <| Wk.seq <| Wk.drawc (prs := [(1, 6)]) (by kernel_rfl) <| Wn.od (o_fa (r := ptr b13 0) rfl (fa118_0 _ _)) rfl <| Wn.od (o_ld (k := 2) t4 rfl rfl rfl) rfl <| Wn.od (o_fa (r := ptr b13 1) rfl (fa118_1 _ _)) rfl <| Wn.od (o_ld (k := 2) t49 rfl rfl rfl) rfl <| Wn.od (o_fa (r := ptr b14 1) rfl (fa118_1 _ _)) rfl <| Wn.od (o_ld (k := 1) t49 rfl rfl rfl) rfl ?_
   obtain ⟨l31, h30, hF⟩ := ob_some hF
   refine Wn.c (o_cev (N := (fun x : Option Addr × Nat × Nat => [.rd x.1 x.2.1 1 x.2.2 (l31.map (eI .i64))])) rfl rfl (fun m hm => f124_ok n l2 l8 a3 c4 a9 c10 _ h30 m hm.owns_lt (hm.rd (k := 4) rfl (.rd _ _ _ _ _)) (hm.noOwn (k := 4) rfl) (hm.rd (k := 3) rfl (.rd _ _ _ _ _)) (hm.noOwn (k := 3) rfl)) fun _ => rfl) gn rfl ?_
   rintro ⟨a32, c33, n34⟩
   refine Wn.lenr (k := 0) (xs := l31) rfl ?_
   rintro rfl
   obtain ⟨⟨r36, l37⟩, h35, hF⟩ := ob_some hF
   refine Wn.c (o_cev (N := (fun x : Option Addr × Nat × Nat => [.rd x.1 x.2.1 1 x.2.2 (l37.map (eI .i64))])) rfl rfl (fun m hm => f123_ok n x1 l31 a32 c33 _ h35 m hm.owns_lt (hm.rd (k := 0) rfl (.rd _ _ _ _ _)) (hm.noOwn (k := 0) rfl)) fun _ => rfl) gn rfl ?_
   rintro ⟨a38, c39, n40⟩
   refine Wn.lenr (k := 0) (xs := l37) rfl ?_
   rintro rfl
   refine Wn.o0 (o_st (k := 2) t118 rfl rfl rfl rfl rfl) <| Wn.nil (fun m hm => OkP.all rfl) <| At.tn <| Wk.ret <| At.tr ?_
   cases hF
   exact At.ret (.cell (k := 2) t118 rfl rfl rfl .nil) fun m' hm => ⟨(a38, c39, l37.length), rfl, (Turn.picks [0, 7] rfl rfl) m' hm⟩
  ·refine Wk.condF rfl h29 <| Wk.skip <| At.tn <| Wk.seq <| Wk.drawc (prs := [(1, 6)]) (by kernel_rfl) <| Wn.od (o_fa (r := ptr b14 0) rfl (fa118_0 _ _)) rfl <| Wn.od (o_ld (k := 1) t4 rfl rfl rfl) rfl <| Wn.od (o_fa (r := ptr b14 1) rfl (fa118_1 _ _)) rfl <| Wn.od (o_ld (k := 1) t49 rfl rfl rfl) rfl <| Wn.od (o_fa (r := ptr b13 1) rfl (fa118_1 _ _)) rfl <| Wn.od (o_ld (k := 2) t49 rfl rfl rfl) rfl ?_
   obtain ⟨l42, h41, hF⟩ := ob_some hF
   refine Wn.c (o_cev (N := (fun x : Option Addr × Nat × Nat => [.rd x.1 x.2.1 1 x.2.2 (l42.map (eI .i64))])) rfl rfl (fun m hm => f124_ok n l8 l2 a9 c10 a3 c4 _ h41 m hm.owns_lt (hm.rd (k := 3) rfl (.rd _ _ _ _ _)) (hm.noOwn (k := 3) rfl) (hm.rd (k := 4) rfl (.rd _ _ _ _ _)) (hm.noOwn (k := 4) rfl)) fun _ => rfl) gn rfl ?_
   rintro ⟨a43, c44, n45⟩
   refine Wn.lenr (k := 0) (xs := l42) rfl ?_
   rintro rfl
   obtain ⟨⟨r47, l48⟩, h46, hF⟩ := ob_some hF
   refine Wn.c (o_cev (N := (fun x : Option Addr × Nat × Nat => [.rd x.1 x.2.1 1 x.2.2 (l48.map (eI .i64))])) rfl rfl (fun m hm => f123_ok n x7 l42 a43 c44 _ h46 m hm.owns_lt (hm.rd (k := 0) rfl (.rd _ _ _ _ _)) (hm.noOwn (k := 0) rfl)) fun _ => rfl) gn rfl ?_
   rintro ⟨a49, c50, n51⟩
   refine Wn.lenr (k := 0) (xs := l48) rfl ?_
   rintro rfl
   refine Wn.o0 (o_st (k := 2) t118 rfl rfl rfl rfl rfl) <| Wn.nil (fun m hm => OkP.all rfl) <| At.tn <| Wk.ret ?_
   cases hF
   exact At.ret (.cell (k := 2) t118 rfl rfl rfl .nil) fun m' hm => ⟨(a49, c50, l48.length), rfl, (Turn.picks [0, 7] rfl rfl) m' hm⟩
theorem f147_ok (n : Nat) (x1 : Bool) (l2 : List (Int)) (x7 : Bool) (l8 : List (Int)) (a3 : Option Addr) (c4 : Nat) (a9 : Option Addr) (c10 : Nat) (r : Bool × List Int) (hF : F147 n x1 l2 x7 l8 = some r) (m : AMem) {H : Nat → Prop} (hH : ∀ b, H b → b < m.next) (h5 : Rd m a3 c4 1 l2.length (l2.map (eI .i64))) (h6 : ∀ b, abk a3 = some b → ¬ H b) (h11 : Rd m a9 c10 1 l8.length (l8.map (eI .i64))) (h12 : ∀ b, abk a9 = some b → ¬ H b) :
  CallA E30w 147 [.agg #[.bool x1, .slice a3 l2.length c4], .agg #[.bool x7, .slice a9 l8.length c10]] m (fun v m' => ∃ x : Option Addr × Nat × Nat, v = .agg #[.bool r.1, .slice x.1 x.2.2 x.2.1] ∧ Hp m m' [.rd x.1 x.2.1 1 x.2.2 (r.2.map (eI .i64)), .gen (veil H)]) := by
 unfold F147 at hF
 refine call_wk (m0 := m) (ps := [.rd a9 c10 1 l8.length (l8.map (eI .i64)), .rd a3 c4 1 l2.length (l2.map (eI .i64)), .gen (veil H)]) (N := 9) (rs := [.cell 4 118]) rfl Tryz.func147 rfl rfl rfl (Hp.innV (l0 := [.rd a3 c4 1 l2.length (l2.map (eI .i64))]) (Hp.innV (l0 := []) (Hp.startV m hH) rfl h5 h6) rfl h11 h12) <| Wk.seq <| Wk.region <| Wo.x (o_bx rfl) gn rfl fun b13 => ?_
 refine Wo.x (o_bx rfl) gn rfl fun b14 => ?_
 refine Wo.x (o_al z118 rfl) gn rfl fun b15 => ?_
 refine Wo.nil <| At.tn <| Wk.seq <| Wk.drawc (prs := [(0, 2)]) (by kernel_rfl) <| Wn.od (o_ld (k := 2) t118 rfl rfl rfl) rfl <| Wn.od (o_ld (k := 1) t118 rfl rfl rfl) rfl ?_
 obtain ⟨⟨r17, l18⟩, h16, hF⟩ := ob_some hF
 refine Wn.c (o_cev (N := (fun x : Option Addr × Nat × Nat => [.rd x.1 x.2.1 1 x.2.2 (l18.map (eI .i64))])) rfl rfl (fun m hm => f160_ok n x7 l8 a9 c10 _ h16 m hm.owns_lt (hm.rd (k := 3) rfl (.rd _ _ _ _ _)) (hm.noOwn (k := 3) rfl)) fun _ => rfl) gn rfl ?_
 rintro ⟨a19, c20, n21⟩
 refine Wn.lenr (k := 0) (xs := l18) rfl ?_
 rintro rfl
 obtain ⟨⟨r23, l24⟩, h22, hF⟩ := ob_some hF
 refine Wn.c (o_cev (N := (fun x : Option Addr × Nat × Nat => [.rd x.1 x.2.1 1 x.2.2 (l24.map (eI .i64))])) rfl rfl (fun m hm => f162_ok n x1 l2 r17 l18 a3 c4 a19 c20 _ h22 m hm.owns_lt (hm.rd (k := 5) rfl (.rd _ _ _ _ _)) (hm.noOwn (k := 5) rfl) (hm.rd (k := 0) rfl (.rd _ _ _ _ _)) (hm.noOwn (k := 0) rfl)) fun _ => rfl) gn rfl ?_
 rintro ⟨a25, c26, n27⟩
 refine Wn.lenr (k := 0) (xs := l24) rfl ?_
 rintro rfl
 refine Wn.o0 (o_st (k := 2) t118 rfl rfl rfl rfl rfl) <| Wn.nil (fun m hm => OkP.all rfl) <| At.tn <| Wk.ret ?_
 cases hF
 exact At.ret (.cell (k := 2) t118 rfl rfl rfl .nil) fun m' hm => ⟨(a25, c26, l24.length), rfl, (Turn.picks [0, 7] rfl rfl) m' hm⟩
end Go.Proofs.YtookeaakpiefjaaGreatDoor
end
