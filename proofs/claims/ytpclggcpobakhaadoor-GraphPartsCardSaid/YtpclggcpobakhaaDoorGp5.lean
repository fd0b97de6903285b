/- Texts of the abstract machine and of the walks, joined: S18W4a. -/
import Derived.Test.YtpclggcpobakhaaDoorGp4
section
namespace Go.Proofs.YtpclggcpobakhaaDoor.W4
open Go Go.Ab Go.Ab.W Go.Proofs.YtpclggcpobakhaaDoor
set_option maxRecDepth 10000
set_option maxHeartbeats 4000000
attribute [local irreducible] Tm.at Trie.set Trie.get AMem.get AMem.set AMem.alloc AMem.ww AMem.kill
theorem t55 : TyI E18w.P 55 true 4 := ⟨by kernel_rfl, by kernel_rfl, by kernel_rfl⟩
theorem t58 : TyI E18w.P 58 true 10 := ⟨by kernel_rfl, by kernel_rfl, by kernel_rfl⟩
theorem z59 : zeroA E18w.P 59 = some (.agg #[.int .i64 0, .slice none 0 0, .int .i64 0, .slice none 0 0, .int .i64 0, .slice none 0 0]) := by kernel_rfl
theorem z25 : zeroA E18w.P 25 = some (.agg #[.int .i64 0, .slice none 0 0]) := by kernel_rfl
theorem fa55_0 : ∀ b o, fieldAddrA E18w.P 55 (ptr b o) 0 = some (ptr b (o + 0)) := fun _ _ => by kernel_rfl
theorem t5 : TyI E18w.P 5 false 1 := ⟨by kernel_rfl, by kernel_rfl, by kernel_rfl⟩
theorem u5 : E18w.P.underlying 5 = some (.int .u8) := by kernel_rfl
theorem u3 : E18w.P.underlying 3 = some (.int .i64) := by kernel_rfl
theorem fa55_1 : ∀ b o, fieldAddrA E18w.P 55 (ptr b o) 1 = some (ptr b (o + 1)) := fun _ _ => by kernel_rfl
theorem bs25 : BdT E18w.P 25 (.agg #[.int .i64 0, .slice none 0 0]) [(0, 1), (1, 1)] := .mk' (by kernel_rfl) (by kernel_rfl)
theorem t25 : TyI E18w.P 25 true 2 := ⟨by kernel_rfl, by kernel_rfl, by kernel_rfl⟩
theorem fa25_0 : ∀ b o, fieldAddrA E18w.P 25 (ptr b o) 0 = some (ptr b (o + 0)) := fun _ _ => by kernel_rfl
theorem t3 : TyI E18w.P 3 false 1 := ⟨by kernel_rfl, by kernel_rfl, by kernel_rfl⟩
theorem fa55_2 : ∀ b o, fieldAddrA E18w.P 55 (ptr b o) 2 = some (ptr b (o + 2)) := fun _ _ => by kernel_rfl
theorem t52 : TyI E18w.P 52 false 1 := ⟨by kernel_rfl, by kernel_rfl, by kernel_rfl⟩
theorem u102 : E18w.P.underlying 102 = some (.int .u64) := by kernel_rfl
theorem fa55_3 : ∀ b o, fieldAddrA E18w.P 55 (ptr b o) 3 = some (ptr b (o + 3)) := fun _ _ => by kernel_rfl
theorem t53 : TyI E18w.P 53 false 1 := ⟨by kernel_rfl, by kernel_rfl, by kernel_rfl⟩
theorem u53 : E18w.P.underlying 53 = some (.slice 103) := by kernel_rfl
theorem s53 : SlT E18w.P 53 103 2 := SlT.of (by kernel_rfl)
theorem ar103 : ArT E18w.P 103 5 2 1 := ⟨by kernel_rfl, by kernel_rfl, by kernel_rfl⟩
theorem fa25_1 : ∀ b o, fieldAddrA E18w.P 25 (ptr b o) 1 = some (ptr b (o + 1)) := fun _ _ => by kernel_rfl
theorem t23 : TyI E18w.P 23 false 1 := ⟨by kernel_rfl, by kernel_rfl, by kernel_rfl⟩
theorem z26 : zeroA E18w.P 26 = some (.agg #[.int .i64 0, .int .i64 0]) := by kernel_rfl
theorem bs26 : BdT E18w.P 26 (.agg #[.int .i64 0, .int .i64 0]) [(0, 1), (1, 1)] := .mk' (by kernel_rfl) (by kernel_rfl)
theorem u23 : E18w.P.underlying 23 = some (.slice 26) := by kernel_rfl
theorem s23 : SlT E18w.P 23 26 2 := SlT.of (by kernel_rfl)
theorem ar58 : ArT E18w.P 58 57 2 5 := ⟨by kernel_rfl, by kernel_rfl, by kernel_rfl⟩
theorem t57 : TyI E18w.P 57 true 5 := ⟨by kernel_rfl, by kernel_rfl, by kernel_rfl⟩
theorem fa57_1 : ∀ b o, fieldAddrA E18w.P 57 (ptr b o) 1 = some (ptr b (o + 1)) := fun _ _ => by kernel_rfl
theorem fa57_0 : ∀ b o, fieldAddrA E18w.P 57 (ptr b o) 0 = some (ptr b (o + 0)) := fun _ _ => by kernel_rfl
theorem fa57_2 : ∀ b o, fieldAddrA E18w.P 57 (ptr b o) 2 = some (ptr b (o + 2)) := fun _ _ => by kernel_rfl
theorem fa57_3 : ∀ b o, fieldAddrA E18w.P 57 (ptr b o) 3 = some (ptr b (o + 3)) := fun _ _ => by kernel_rfl
theorem t26 : TyI E18w.P 26 true 2 := ⟨by kernel_rfl, by kernel_rfl, by kernel_rfl⟩
theorem ar26 : ArT E18w.P 26 3 2 1 := ⟨by kernel_rfl, by kernel_rfl, by kernel_rfl⟩
theorem bs59 : BdT E18w.P 59 (.agg #[.int .i64 0, .slice none 0 0, .int .i64 0, .slice none 0 0, .int .i64 0, .slice none 0 0]) [(0, 2), (2, 2), (4, 2)] := .mk' (by kernel_rfl) (by kernel_rfl)
theorem t59 : TyI E18w.P 59 true 6 := ⟨by kernel_rfl, by kernel_rfl, by kernel_rfl⟩
theorem ar59 : ArT E18w.P 59 25 3 2 := ⟨by kernel_rfl, by kernel_rfl, by kernel_rfl⟩
theorem z61 : zeroA E18w.P 61 = some (.agg #[.int .u64 ((0 : Nat) : Int), .int .u64 ((0 : Nat) : Int)]) := by kernel_rfl
theorem bs61 : BdT E18w.P 61 (.agg #[.int .u64 ((0 : Nat) : Int), .int .u64 ((0 : Nat) : Int)]) [(0, 1), (1, 1)] := .mk' (by kernel_rfl) (by kernel_rfl)
theorem t61 : TyI E18w.P 61 true 2 := ⟨by kernel_rfl, by kernel_rfl, by kernel_rfl⟩
theorem ar61 : ArT E18w.P 61 28 2 1 := ⟨by kernel_rfl, by kernel_rfl, by kernel_rfl⟩
theorem u39 : E18w.P.underlying 39 = some (.slice 3) := by kernel_rfl
theorem s39 : SlT E18w.P 39 3 1 := SlT.of (by kernel_rfl)
theorem u28 : E18w.P.underlying 28 = some (.int .u64) := by kernel_rfl
theorem u9 : E18w.P.underlying 9 = some (.string) := by kernel_rfl
theorem z28 : zeroA E18w.P 28 = some (.int .u64 ((0 : Nat) : Int)) := by kernel_rfl
theorem s36 : SlT E18w.P 36 28 1 := SlT.of (by kernel_rfl)
theorem t28 : TyI E18w.P 28 false 1 := ⟨by kernel_rfl, by kernel_rfl, by kernel_rfl⟩
theorem z36 : zeroA E18w.P 36 = some (.slice none 0 0) := by kernel_rfl
theorem t36 : TyI E18w.P 36 false 1 := ⟨by kernel_rfl, by kernel_rfl, by kernel_rfl⟩
theorem u4 : E18w.P.underlying 4 = some (.bool) := by kernel_rfl
theorem u36 : E18w.P.underlying 36 = some (.slice 28) := by kernel_rfl
theorem u26 : E18w.P.underlying 26 = some (.array 2 3) := by kernel_rfl
theorem eq26 : ∀ (x0 y0 : Int) (x1 y1 : Int), eqA E18w.P Op.maxDepth 26 (.agg #[.int .i64 x0, .int .i64 x1]) (.agg #[.int .i64 y0, .int .i64 y1]) = some (decide (x0 = y0) && decide (x1 = y1)) := fun x0 y0 x1 y1 => eq_i2 u26 t3.known t3.size t3.agg u3 x0 x1 y0 y1
theorem eg26 : E18w.P.eqGuardType E18w.P.depth 26 = false := by kernel_rfl
theorem f40_ok (n : Nat) (x1 : Nat) (x2 : Nat) (x3 : Nat) (l4 : List (Nat × Nat)) (a5 : Option Addr) (c6 : Nat) (r : Int × List (Int × Int)) (hF : F40 n x1 x2 x3 l4 = some r) (m : AMem) (h7 : Rd m a5 c6 2 l4.length (l4.map (eP (eN .u8) (eN .u8)))) :
    CallA E18w 40 [.agg #[.int .u8 ((x1 : Nat) : Int), .int .u8 ((x2 : Nat) : Int), .int .u16 ((x3 : Nat) : Int), .slice a5 l4.length c6]] m (fun v m' => ∃ x : Option Addr × Nat, v = .agg #[.int .i64 r.1, .slice x.1 x.2 x.2] ∧ Hp m m' [.sl x.1 2 x.2 (r.2.map (eP (eI .i64) (eI .i64)))]) := by
  unfold F40 at hF
  refine call_wk (m0 := m) (ps := [.rd a5 c6 2 l4.length (l4.map (eP (eN .u8) (eN .u8)))]) (N := 137) (rs := [.cell 2 25]) rfl Tryd.func40 rfl rfl rfl ((Hp.start m).inn rfl h7) ?_
  refine Wk.seq ?_
  refine Wk.region ?_
  refine Wo.x (o_bx rfl) gn rfl fun b8 => ?_
  refine Wo.x (o_al z25 rfl) gn rfl fun b9 => ?_
  refine Wo.nil ?_
  refine At.tn ?_
  refine Wk.seq ?_
  refine Wk.draw (by kernel_rfl) ?_
  refine Wo.od (o_fa (r := ptr b8 0) rfl (fa55_0 _ _)) rfl ?_
  refine Wo.od (o_ld (k := 1) t5 rfl rfl rfl) rfl ?_
  refine Wo.od (o_bi rfl rfl (ub_rem _ _ (by decide))) rfl ?_
  refine Wo.od (o_cv rfl (cv_i (by rw [u5]; rfl) u3)) rfl ?_
  refine Wo.od (o_bi rfl rfl (bin_add _ _ _)) rfl ?_
  refine Wo.od (o_fa (r := ptr b8 1) rfl (fa55_1 _ _)) rfl ?_
  refine Wo.od (o_ld (k := 1) t5 rfl rfl rfl) rfl ?_
  refine Wo.od (o_bi rfl rfl (ub_rem _ _ (by decide))) rfl ?_
  refine Wo.od (o_cv rfl (cv_i (by rw [u5]; rfl) u3)) rfl ?_
  refine Wo.od (o_bi rfl rfl (bin_add _ _ _)) rfl ?_
  refine Wo.od (o_as rfl) rfl ?_
  refine Wo.od (o_as rfl) rfl ?_
  refine Wo.nil ?_
  refine At.tn ?_
  refine Wk.seq ?_
  refine Wk.region ?_
  refine Wo.od (o_mv rfl) rfl ?_
  refine Wo.od (o_mv rfl) rfl ?_
  obtain ⟨y10, h11, hF⟩ := ob_some hF
  refine Wo.od (o_bi rfl rfl ((bin_mul _ _ _).trans (cI h11))) rfl ?_
  refine Wo.od (o_bd rfl z25 rfl (bd_s bs25 rfl rfl rfl)) rfl ?_
  refine Wo.x (o_al z25 rfl) gn rfl fun b12 => ?_
  refine Wo.o0 (o_st (k := 0) t25 rfl rfl rfl rfl rfl) ?_
  refine Wo.nil ?_
  refine At.tn ?_
  refine Wk.seq ?_
  refine Wk.region ?_
  refine Wo.od (o_as rfl) rfl ?_
  refine Wo.nil ?_
  refine At.tn ?_
  refine Wk.seq ?_
  refine Wk.seq ?_
  refine Wk.region ?_
  refine Wo.od (o_as rfl) rfl ?_
  refine Wo.nil ?_
  refine At.tn ?_
  refine Wk.block ?_
  obtain ⟨l2020, h3018, hF⟩ := ob_some hF
  refine Wk.cut (G := (fun (r : List (Int × Int)) (g : Option Addr) => match r, g with | l2020, a2021 => ⟨(.exit 0), [(2, ptr b9 0), (5, ptr b12 0)], [.obj b9 (.cells [.int .i64 0, .slice none 0 0] .own), .obj b12 (.cells [.int .i64 y10, .slice a2021 l2020.length l2020.length] .own), .sl a2021 2 l2020.length (l2020.map (eP (eI .i64) (eI .i64)))]⟩) l2020) ?_ ?_
  · refine Wk.weak (fs' := [(1, ptr b8 0), (2, ptr b9 0), (3, .int .i64 (IntKind.wrap .i64 (1 + (IntKind.wrap .i64 ((x1 % 4 : Nat) : Int))))), (5, ptr b12 0), (6, .int .i64 0), (7, .int .i64 0)]) (ps' := [.obj b8 (.cells [.int .u8 ((x1 : Nat) : Int), .int .u8 ((x2 : Nat) : Int), .int .u16 ((x3 : Nat) : Int), .slice a5 l4.length c6] .own), .rd a5 c6 2 l4.length (l4.map (eP (eN .u8) (eN .u8))), .obj b9 (.cells [.int .i64 0, .slice none 0 0] .own), .obj b12 (.cells [.int .i64 y10, .slice none ([] : List (Int × Int)).length ([] : List (Int × Int)).length] .own), .sl none 2 ([] : List (Int × Int)).length (([] : List (Int × Int)).map (eP (eI .i64) (eI .i64)))]) (sc rfl (sc rfl (sc rfl (sc rfl (sc rfl (sc rfl sn)))))) (Turn.trans (Turn.nil 2 rfl) (Turn.picks [3, 4, 2, 1, 0] rfl rfl)) ?_
    refine Wk.loop (σ := Int × List (Int × Int) × Int × Int) (ρ := List (Int × Int)) (γ := Option Addr) (δ := fun _ => Option Addr) _ (fun (s : Int × List (Int × Int) × Int × Int) (g : Option Addr) => match s, g with | (v1014, l1015, v1017, v1018), a1016 => ⟨.normal, [(1, ptr b8 0), (2, ptr b9 0), (3, .int .i64 v1014), (5, ptr b12 0), (6, .int .i64 v1017), (7, .int .i64 v1018)], [.obj b8 (.cells [.int .u8 ((x1 : Nat) : Int), .int .u8 ((x2 : Nat) : Int), .int .u16 ((x3 : Nat) : Int), .slice a5 l4.length c6] .own), .rd a5 c6 2 l4.length (l4.map (eP (eN .u8) (eN .u8))), .obj b9 (.cells [.int .i64 0, .slice none 0 0] .own), .obj b12 (.cells [.int .i64 y10, .slice a1016 l1015.length l1015.length] .own), .sl a1016 2 l1015.length (l1015.map (eP (eI .i64) (eI .i64)))]⟩) (fun (r : List (Int × Int)) (g : Option Addr) => match r, g with | l2020, a2021 => ⟨(.exit 0), [(2, ptr b9 0), (5, ptr b12 0)], [.obj b9 (.cells [.int .i64 0, .slice none 0 0] .own), .obj b12 (.cells [.int .i64 y10, .slice a2021 l2020.length l2020.length] .own), .sl a2021 2 l2020.length (l2020.map (eP (eI .i64) (eI .i64)))]⟩) ?_ (fun _ _ => rfl) (fun r d => by intro e; cases e) _ _ _ h3018 none
    clear hF h3018
    rintro ⟨v1014, l1015, v1017, v1018⟩ a1016 r hF
    unfold L40_3 at hF
    refine Wk.seq ?_
    refine Wk.seq ?_
    refine Wk.region ?_
    refine Wo.od (o_mv rfl) rfl ?_
    refine Wo.od (o_fa (r := ptr b12 0) rfl (fa25_0 _ _)) rfl ?_
    refine Wo.od (o_ld (k := 3) t3 rfl rfl rfl) rfl ?_
    refine Wo.od (o_bi rfl rfl (bin_lss _ _ _)) rfl ?_
    refine Wo.nil ?_
    refine At.tn ?_
    rcases br_some hF with ⟨h2022, hF⟩ | ⟨h2022, hF⟩
    · refine Wk.condT rfl h2022 ?_
      refine Wk.skip ?_
      refine At.tn ?_
      refine Wk.seq ?_
      refine Wk.block ?_
      refine Wk.seq ?_
      refine Wk.region ?_
      refine Wo.od (o_mv rfl) rfl ?_
      refine Wo.od (o_bi rfl rfl (bin_add _ _ _)) rfl ?_
      refine Wo.od (o_as rfl) rfl ?_
      refine Wo.nil ?_
      refine At.tn ?_
      refine Wk.block ?_
      obtain ⟨r3017, h3016, hF⟩ := ob_some hF
      refine Wk.cut (G := (fun (r : List (Int × Int) × Int) (g : Option Addr) => match r, g with | (l2687, v2689), a2688 => ⟨(.exit 2), [(1, ptr b8 0), (2, ptr b9 0), (3, .int .i64 v1014), (5, ptr b12 0), (6, .int .i64 v2689), (7, .int .i64 v1018)], [.obj b8 (.cells [.int .u8 ((x1 : Nat) : Int), .int .u8 ((x2 : Nat) : Int), .int .u16 ((x3 : Nat) : Int), .slice a5 l4.length c6] .own), .rd a5 c6 2 l4.length (l4.map (eP (eN .u8) (eN .u8))), .obj b9 (.cells [.int .i64 0, .slice none 0 0] .own), .obj b12 (.cells [.int .i64 y10, .slice a2688 l2687.length l2687.length] .own), .sl a2688 2 l2687.length (l2687.map (eP (eI .i64) (eI .i64)))]⟩) r3017) ?_ ?_
      · refine Wk.weak (fs' := [(1, ptr b8 0), (2, ptr b9 0), (3, .int .i64 v1014), (5, ptr b12 0), (6, .int .i64 v1017), (7, .int .i64 v1018), (8, .int .i64 (IntKind.wrap .i64 (v1018 + 1)))]) (ps' := [.obj b8 (.cells [.int .u8 ((x1 : Nat) : Int), .int .u8 ((x2 : Nat) : Int), .int .u16 ((x3 : Nat) : Int), .slice a5 l4.length c6] .own), .rd a5 c6 2 l4.length (l4.map (eP (eN .u8) (eN .u8))), .obj b9 (.cells [.int .i64 0, .slice none 0 0] .own), .obj b12 (.cells [.int .i64 y10, .slice a1016 l1015.length l1015.length] .own), .sl a1016 2 l1015.length (l1015.map (eP (eI .i64) (eI .i64)))]) (sc rfl (sc rfl (sc rfl (sc rfl (sc rfl (sc rfl (sc rfl sn))))))) (Turn.picks [0, 1, 2, 3, 4] rfl rfl) ?_
        refine Wk.loop (σ := List (Int × Int) × Int × Int) (ρ := List (Int × Int) × Int) (γ := Option Addr) (δ := fun _ => Option Addr) _ (fun (s : List (Int × Int) × Int × Int) (g : Option Addr) => match s, g with | (l2353, v2355, v2356), a2354 => ⟨.normal, [(1, ptr b8 0), (2, ptr b9 0), (3, .int .i64 v1014), (5, ptr b12 0), (6, .int .i64 v2355), (7, .int .i64 v1018), (8, .int .i64 v2356)], [.obj b8 (.cells [.int .u8 ((x1 : Nat) : Int), .int .u8 ((x2 : Nat) : Int), .int .u16 ((x3 : Nat) : Int), .slice a5 l4.length c6] .own), .rd a5 c6 2 l4.length (l4.map (eP (eN .u8) (eN .u8))), .obj b9 (.cells [.int .i64 0, .slice none 0 0] .own), .obj b12 (.cells [.int .i64 y10, .slice a2354 l2353.length l2353.length] .own), .sl a2354 2 l2353.length (l2353.map (eP (eI .i64) (eI .i64)))]⟩) (fun (r : List (Int × Int) × Int) (g : Option Addr) => match r, g with | (l2687, v2689), a2688 => ⟨(.exit 2), [(1, ptr b8 0), (2, ptr b9 0), (3, .int .i64 v1014), (5, ptr b12 0), (6, .int .i64 v2689), (7, .int .i64 v1018)], [.obj b8 (.cells [.int .u8 ((x1 : Nat) : Int), .int .u8 ((x2 : Nat) : Int), .int .u16 ((x3 : Nat) : Int), .slice a5 l4.length c6] .own), .rd a5 c6 2 l4.length (l4.map (eP (eN .u8) (eN .u8))), .obj b9 (.cells [.int .i64 0, .slice none 0 0] .own), .obj b12 (.cells [.int .i64 y10, .slice a2688 l2687.length l2687.length] .own), .sl a2688 2 l2687.length (l2687.map (eP (eI .i64) (eI .i64)))]⟩) ?_ (fun _ _ => rfl) (fun r d => by intro e; cases e) _ _ _ h3016 a1016
        clear hF h3016
        rintro ⟨l2353, v2355, v2356⟩ a2354 r hF
        unfold L40_2 at hF
        refine Wk.seq ?_
        refine Wk.seq ?_
        refine Wk.region ?_
        refine Wo.od (o_mv rfl) rfl ?_
        refine Wo.od (o_fa (r := ptr b12 0) rfl (fa25_0 _ _)) rfl ?_
        refine Wo.od (o_ld (k := 3) t3 rfl rfl rfl) rfl ?_
        refine Wo.od (o_bi rfl rfl (bin_lss _ _ _)) rfl ?_
        refine Wo.nil ?_
        refine At.tn ?_
        rcases br_some hF with ⟨h2690, hF⟩ | ⟨h2690, hF⟩
        · refine Wk.condT rfl h2690 ?_
          refine Wk.skip ?_
          refine At.tn ?_
          refine Wk.seq ?_
          obtain ⟨r3015, h3014, hF⟩ := ob_some hF
          refine Wk.cut (G := (fun (r : List (Int × Int) × Int) (g : Option Addr) => match r, g with | (l2851, v2853), a2852 => ⟨.normal, [(1, ptr b8 0), (2, ptr b9 0), (3, .int .i64 v1014), (5, ptr b12 0), (6, .int .i64 v2853), (7, .int .i64 v1018), (8, .int .i64 v2356)], [.obj b8 (.cells [.int .u8 ((x1 : Nat) : Int), .int .u8 ((x2 : Nat) : Int), .int .u16 ((x3 : Nat) : Int), .slice a5 l4.length c6] .own), .rd a5 c6 2 l4.length (l4.map (eP (eN .u8) (eN .u8))), .obj b9 (.cells [.int .i64 0, .slice none 0 0] .own), .obj b12 (.cells [.int .i64 y10, .slice a2852 l2851.length l2851.length] .own), .sl a2852 2 l2851.length (l2851.map (eP (eI .i64) (eI .i64)))]⟩) r3015) ?_ ?_
          · clear hF
            revert r3015
            intro r hF
            refine Wk.block ?_
            refine Wk.seq ?_
            obtain ⟨v2857, h2861, hF⟩ := ob_some hF
            refine Wk.cut (G := (fun (r : Bool) (g : Unit) => match r, g with | v2857, _ => ⟨.normal, [(1, ptr b8 0), (2, ptr b9 0), (3, .int .i64 v1014), (5, ptr b12 0), (6, .int .i64 v2355), (7, .int .i64 v1018), (8, .int .i64 v2356), (9, .bool v2857)], [.obj b8 (.cells [.int .u8 ((x1 : Nat) : Int), .int .u8 ((x2 : Nat) : Int), .int .u16 ((x3 : Nat) : Int), .slice a5 l4.length c6] .own), .rd a5 c6 2 l4.length (l4.map (eP (eN .u8) (eN .u8))), .obj b9 (.cells [.int .i64 0, .slice none 0 0] .own), .obj b12 (.cells [.int .i64 y10, .slice a2354 l2353.length l2353.length] .own), .sl a2354 2 l2353.length (l2353.map (eP (eI .i64) (eI .i64)))]⟩) v2857) ?_ ?_
            · clear hF
              revert v2857
              intro r hF
              refine Wk.region ?_
              refine Wo.od (o_mv rfl) rfl ?_
              refine Wo.od (o_mv rfl) rfl ?_
              refine Wo.od (o_mv rfl) rfl ?_
              refine Wo.od (o_bi rfl rfl (bin_add _ _ _)) rfl ?_
              refine Wo.od (o_bi rfl rfl (bin_eql _ _ _)) rfl ?_
              refine Wo.od (o_mv rfl) rfl ?_
              rcases br_some hF with ⟨h2858, hF⟩ | ⟨h2858, hF⟩
              · refine Wo.s (gg rfl rfl (eTF h2858)) rfl ?_
                refine Wo.s (gg rfl rfl (eTF h2858)) rfl ?_
                refine Wo.s (gg rfl rfl (eTF h2858)) rfl ?_
                refine Wo.s (gg rfl rfl (eTF h2858)) rfl ?_
                refine Wo.s (gg rfl rfl (eTF h2858)) rfl ?_
                refine Wo.s (gu rfl rfl) rfl ?_
                refine Wo.s (gu rfl rfl) rfl ?_
                refine Wo.s (gu rfl rfl) rfl ?_
                refine Wo.s (gu rfl rfl) rfl ?_
                refine Wo.s (gg rfl rfl (eTF h2858)) rfl ?_
                refine Wo.od (o_pt rfl h2858 rfl) rfl ?_
                refine Wo.od (o_as rfl) rfl ?_
                refine Wo.nil ?_
                cases hF
                exact At.en () rfl (sc rfl (sc rfl (sc rfl (sc rfl (sc rfl (sc rfl (sc rfl (sc rfl sn)))))))) (Turn.picks [0, 1, 2, 3, 4] rfl rfl)
              · refine Wo.og (o_mv rfl) (gg rfl rfl (eFF h2858)) rfl ?_
                refine Wo.og (o_mv rfl) (gg rfl rfl (eFF h2858)) rfl ?_
                refine Wo.og (o_bi rfl rfl (bin_add _ _ _)) (gg rfl rfl (eFF h2858)) rfl ?_
                refine Wo.og (o_bi rfl rfl (bin_eql _ _ _)) (gg rfl rfl (eFF h2858)) rfl ?_
                refine Wo.og (o_mv rfl) (gg rfl rfl (eFF h2858)) rfl ?_
                rcases br_some hF with ⟨h2859, hF⟩ | ⟨h2859, hF⟩
                · refine Wo.og (o_mv rfl) (gg rfl rfl (eTT h2859)) rfl ?_
                  refine Wo.og (o_mv rfl) (gg rfl rfl (eTT h2859)) rfl ?_
                  obtain ⟨h2860, hF⟩ := gd_some hF
                  refine Wo.og (o_bi rfl rfl (ib_rem _ _ h2860)) (gg rfl rfl (eTT h2859)) rfl ?_
                  refine Wo.og (o_bi rfl rfl (ib_neq _ _)) (gg rfl rfl (eTT h2859)) rfl ?_
                  refine Wo.og (o_pt rfl h2859 rfl) (gg rfl rfl (eFF h2858)) rfl ?_
                  refine Wo.od (o_pf rfl h2858 rfl) rfl ?_
                  refine Wo.od (o_as rfl) rfl ?_
                  refine Wo.nil ?_
                  cases hF
                  exact At.en () rfl (sc rfl (sc rfl (sc rfl (sc rfl (sc rfl (sc rfl (sc rfl (sc rfl sn)))))))) (Turn.picks [0, 1, 2, 3, 4] rfl rfl)
                · refine Wo.s (gg rfl rfl (eFT h2859)) rfl ?_
                  refine Wo.s (gg rfl rfl (eFT h2859)) rfl ?_
                  refine Wo.s (gg rfl rfl (eFT h2859)) rfl ?_
                  refine Wo.s (gg rfl rfl (eFT h2859)) rfl ?_
                  refine Wo.og (o_pf rfl h2859 rfl) (gg rfl rfl (eFF h2858)) rfl ?_
                  refine Wo.od (o_pf rfl h2858 rfl) rfl ?_
                  refine Wo.od (o_as rfl) rfl ?_
                  refine Wo.nil ?_
                  cases hF
                  exact At.en () rfl (sc rfl (sc rfl (sc rfl (sc rfl (sc rfl (sc rfl (sc rfl (sc rfl sn)))))))) (Turn.picks [0, 1, 2, 3, 4] rfl rfl)
            · clear h2861
              rintro ⟨⟩
              refine At.tn ?_
              refine Wk.seq ?_
              obtain ⟨r2914, h2913, hF⟩ := ob_some hF
              refine Wk.cut (G := (fun (r : Int × Bool) (g : Unit) => match r, g with | (v2887, v2888), _ => ⟨.normal, [(1, ptr b8 0), (2, ptr b9 0), (3, .int .i64 v1014), (5, ptr b12 0), (6, .int .i64 v2887), (7, .int .i64 v1018), (8, .int .i64 v2356), (9, .bool v2888)], [.obj b8 (.cells [.int .u8 ((x1 : Nat) : Int), .int .u8 ((x2 : Nat) : Int), .int .u16 ((x3 : Nat) : Int), .slice a5 l4.length c6] .own), .rd a5 c6 2 l4.length (l4.map (eP (eN .u8) (eN .u8))), .obj b9 (.cells [.int .i64 0, .slice none 0 0] .own), .obj b12 (.cells [.int .i64 y10, .slice a2354 l2353.length l2353.length] .own), .sl a2354 2 l2353.length (l2353.map (eP (eI .i64) (eI .i64)))]⟩) r2914) ?_ ?_
              · clear hF
                revert r2914
                intro r hF
                refine Wk.seq ?_
                refine Wk.region ?_
                refine Wo.od (o_mv rfl) rfl ?_
                refine Wo.nil ?_
                refine At.tn ?_
                rcases br_some hF with ⟨h2889, hF⟩ | ⟨h2889, hF⟩
                · refine Wk.condT rfl h2889 ?_
                  refine Wk.seq ?_
                  obtain ⟨v2900, h2911, hF⟩ := ob_some hF
                  refine Wk.cut (G := (fun (r : Bool) (g : Unit) => match r, g with | v2900, _ => ⟨.normal, [(1, ptr b8 0), (2, ptr b9 0), (3, .int .i64 v1014), (5, ptr b12 0), (6, .int .i64 v2355), (7, .int .i64 v1018), (8, .int .i64 v2356), (9, .bool v2900)], [.obj b8 (.cells [.int .u8 ((x1 : Nat) : Int), .int .u8 ((x2 : Nat) : Int), .int .u16 ((x3 : Nat) : Int), .slice a5 l4.length c6] .own), .rd a5 c6 2 l4.length (l4.map (eP (eN .u8) (eN .u8))), .obj b9 (.cells [.int .i64 0, .slice none 0 0] .own), .obj b12 (.cells [.int .i64 y10, .slice a2354 l2353.length l2353.length] .own), .sl a2354 2 l2353.length (l2353.map (eP (eI .i64) (eI .i64)))]⟩) v2900) ?_ ?_
                  · clear hF
                    revert v2900
                    intro r hF
                    refine Wk.seq ?_
                    obtain ⟨v2904, h2908, hF⟩ := ob_some hF
                    refine Wk.cut (G := (fun (r : Bool) (g : Unit) => match r, g with | v2904, _ => ⟨.normal, [(1, ptr b8 0), (2, ptr b9 0), (3, .int .i64 v1014), (5, ptr b12 0), (6, .int .i64 v2355), (7, .int .i64 v1018), (8, .int .i64 v2356), (9, .bool v2857), (72, .bool v2904)], [.obj b8 (.cells [.int .u8 ((x1 : Nat) : Int), .int .u8 ((x2 : Nat) : Int), .int .u16 ((x3 : Nat) : Int), .slice a5 l4.length c6] .own), .rd a5 c6 2 l4.length (l4.map (eP (eN .u8) (eN .u8))), .obj b9 (.cells [.int .i64 0, .slice none 0 0] .own), .obj b12 (.cells [.int .i64 y10, .slice a2354 l2353.length l2353.length] .own), .sl a2354 2 l2353.length (l2353.map (eP (eI .i64) (eI .i64)))]⟩) v2904) ?_ ?_
                    · clear hF
                      revert v2904
                      intro r hF
                      refine Wk.region ?_
                      refine Wo.od (o_mv rfl) rfl ?_
                      refine Wo.od (o_bi rfl rfl (ib_rem _ _ (by decide))) rfl ?_
                      refine Wo.od (o_bi rfl rfl (bin_eql _ _ _)) rfl ?_
                      refine Wo.od (o_mv rfl) rfl ?_
                      rcases br_some hF with ⟨h2905, hF⟩ | ⟨h2905, hF⟩
                      · refine Wo.og (o_fa (r := ptr b8 2) rfl (fa55_2 _ _)) (gg rfl rfl (eTT h2905)) rfl ?_
                        refine Wo.og (o_ld (k := 0) t52 rfl rfl rfl) (gg rfl rfl (eTT h2905)) rfl ?_
                        refine Wo.og (o_mv rfl) (gg rfl rfl (eTT h2905)) rfl ?_
                        refine Wo.og (o_bi rfl rfl (ib_quo _ _ (by decide))) (gg rfl rfl (eTT h2905)) rfl ?_
                        refine Wo.og (o_bi rfl rfl (ib_rem _ _ (by decide))) (gg rfl rfl (eTT h2905)) rfl ?_
                        refine Wo.og (o_cv rfl (cv_u (by rw [u3]; rfl) u102 rfl)) (gg rfl rfl (eTT h2905)) rfl ?_
                        obtain ⟨y2906, h2907, hF⟩ := ob_some hF
                        refine Wo.og (o_bi rfl rfl ((ub_shr _ _ (nn _)).trans (cN h2907))) (gg rfl rfl (eTT h2905)) rfl ?_
                        refine Wo.og (o_bi rfl rfl (ub_and rfl _ _)) (gg rfl rfl (eTT h2905)) rfl ?_
                        refine Wo.og (o_bi rfl rfl (ub_eql _ _)) (gg rfl rfl (eTT h2905)) rfl ?_
                        refine Wo.od (o_pt rfl h2905 rfl) rfl ?_
                        refine Wo.nil ?_
                        cases hF
                        exact At.en () rfl (sc rfl (sc rfl (sc rfl (sc rfl (sc rfl (sc rfl (sc rfl (sc rfl (sc rfl sn))))))))) (Turn.picks [0, 1, 2, 3, 4] rfl rfl)
                      · refine Wo.s (gg rfl rfl (eFT h2905)) rfl ?_
                        refine Wo.s (gg rfl rfl (eFT h2905)) rfl ?_
                        refine Wo.s (gg rfl rfl (eFT h2905)) rfl ?_
                        refine Wo.s (gg rfl rfl (eFT h2905)) rfl ?_
                        refine Wo.s (gg rfl rfl (eFT h2905)) rfl ?_
                        refine Wo.s (gg rfl rfl (eFT h2905)) rfl ?_
                        refine Wo.s (gg rfl rfl (eFT h2905)) rfl ?_
                        refine Wo.s (gg rfl rfl (eFT h2905)) rfl ?_
                        refine Wo.s (gg rfl rfl (eFT h2905)) rfl ?_
                        refine Wo.od (o_pf rfl h2905 rfl) rfl ?_
                        refine Wo.nil ?_
                        cases hF
                        exact At.en () rfl (sc rfl (sc rfl (sc rfl (sc rfl (sc rfl (sc rfl (sc rfl (sc rfl (sc rfl sn))))))))) (Turn.picks [0, 1, 2, 3, 4] rfl rfl)
                    · clear h2908
                      rintro ⟨⟩
                      refine At.tn ?_
                      rcases br_some hF with ⟨h2910, hF⟩ | ⟨h2910, hF⟩
                      · refine Wk.condT rfl h2910 ?_
                        refine Wk.region ?_
                        refine Wo.od (o_as rfl) rfl ?_
                        refine Wo.nil ?_
                        cases hF
                        exact At.en () rfl (sc rfl (sc rfl (sc rfl (sc rfl (sc rfl (sc rfl (sc rfl (sc rfl sn)))))))) (Turn.picks [0, 1, 2, 3, 4] rfl rfl)
                      · refine Wk.condF rfl h2910 ?_
                        refine Wk.skip ?_
                        have hr := Option.some.inj hF
                        subst r
                        exact At.en () rfl (sc rfl (sc rfl (sc rfl (sc rfl (sc rfl (sc rfl (sc rfl (sc rfl sn)))))))) (Turn.picks [0, 1, 2, 3, 4] rfl rfl)
                  · clear h2911
                    rintro ⟨⟩
                    refine At.tn ?_
                    refine Wk.region ?_
                    refine Wo.od (o_mv rfl) rfl ?_
                    refine Wo.od (o_bi rfl rfl (bin_add _ _ _)) rfl ?_
                    refine Wo.od (o_as rfl) rfl ?_
                    refine Wo.nil ?_
                    cases hF
                    exact At.en () rfl (sc rfl (sc rfl (sc rfl (sc rfl (sc rfl (sc rfl (sc rfl (sc rfl sn)))))))) (Turn.picks [0, 1, 2, 3, 4] rfl rfl)
                · refine Wk.condF rfl h2889 ?_
                  refine Wk.skip ?_
                  cases hF
                  exact At.en () rfl (sc rfl (sc rfl (sc rfl (sc rfl (sc rfl (sc rfl (sc rfl (sc rfl sn)))))))) (Turn.picks [0, 1, 2, 3, 4] rfl rfl)
              · clear h2913
                obtain ⟨v2887, v2888⟩ := r2914
                rintro ⟨⟩
                refine At.tn ?_
                refine Wk.seq ?_
                refine Wk.seq ?_
                refine Wk.region ?_
                refine Wo.od (o_as rfl) rfl ?_
                refine Wo.nil ?_
                refine At.tn ?_
                refine Wk.block ?_
                obtain ⟨v2964, h3008, hF⟩ := ob_some hF
                refine Wk.cut (G := (fun (r : Bool) (g : Unit) => match r, g with | v2964, _ => ⟨(.exit 4), [(1, ptr b8 0), (2, ptr b9 0), (3, .int .i64 v1014), (5, ptr b12 0), (6, .int .i64 v2887), (7, .int .i64 v1018), (8, .int .i64 v2356), (9, .bool v2964)], [.obj b8 (.cells [.int .u8 ((x1 : Nat) : Int), .int .u8 ((x2 : Nat) : Int), .int .u16 ((x3 : Nat) : Int), .slice a5 l4.length c6] .own), .rd a5 c6 2 l4.length (l4.map (eP (eN .u8) (eN .u8))), .obj b9 (.cells [.int .i64 0, .slice none 0 0] .own), .obj b12 (.cells [.int .i64 y10, .slice a2354 l2353.length l2353.length] .own), .sl a2354 2 l2353.length (l2353.map (eP (eI .i64) (eI .i64)))]⟩) v2964) ?_ ?_
                · refine Wk.weak (fs' := [(1, ptr b8 0), (2, ptr b9 0), (3, .int .i64 v1014), (5, ptr b12 0), (6, .int .i64 v2887), (7, .int .i64 v1018), (8, .int .i64 v2356), (9, .bool v2888), (10, .int .i64 0)]) (ps' := [.obj b8 (.cells [.int .u8 ((x1 : Nat) : Int), .int .u8 ((x2 : Nat) : Int), .int .u16 ((x3 : Nat) : Int), .slice a5 l4.length c6] .own), .rd a5 c6 2 l4.length (l4.map (eP (eN .u8) (eN .u8))), .obj b9 (.cells [.int .i64 0, .slice none 0 0] .own), .obj b12 (.cells [.int .i64 y10, .slice a2354 l2353.length l2353.length] .own), .sl a2354 2 l2353.length (l2353.map (eP (eI .i64) (eI .i64)))]) (sc rfl (sc rfl (sc rfl (sc rfl (sc rfl (sc rfl (sc rfl (sc rfl (sc rfl sn))))))))) (Turn.picks [0, 1, 2, 3, 4] rfl rfl) ?_
                  refine Wk.loop (σ := Bool × Int) (ρ := Bool) (γ := Unit) (δ := fun _ => Unit) _ (fun (s : Bool × Int) (g : Unit) => match s, g with | (v2917, v2918), _ => ⟨.normal, [(1, ptr b8 0), (2, ptr b9 0), (3, .int .i64 v1014), (5, ptr b12 0), (6, .int .i64 v2887), (7, .int .i64 v1018), (8, .int .i64 v2356), (9, .bool v2917), (10, .int .i64 v2918)], [.obj b8 (.cells [.int .u8 ((x1 : Nat) : Int), .int .u8 ((x2 : Nat) : Int), .int .u16 ((x3 : Nat) : Int), .slice a5 l4.length c6] .own), .rd a5 c6 2 l4.length (l4.map (eP (eN .u8) (eN .u8))), .obj b9 (.cells [.int .i64 0, .slice none 0 0] .own), .obj b12 (.cells [.int .i64 y10, .slice a2354 l2353.length l2353.length] .own), .sl a2354 2 l2353.length (l2353.map (eP (eI .i64) (eI .i64)))]⟩) (fun (r : Bool) (g : Unit) => match r, g with | v2964, _ => ⟨(.exit 4), [(1, ptr b8 0), (2, ptr b9 0), (3, .int .i64 v1014), (5, ptr b12 0), (6, .int .i64 v2887), (7, .int .i64 v1018), (8, .int .i64 v2356), (9, .bool v2964)], [.obj b8 (.cells [.int .u8 ((x1 : Nat) : Int), .int .u8 ((x2 : Nat) : Int), .int .u16 ((x3 : Nat) : Int), .slice a5 l4.length c6] .own), .rd a5 c6 2 l4.length (l4.map (eP (eN .u8) (eN .u8))), .obj b9 (.cells [.int .i64 0, .slice none 0 0] .own), .obj b12 (.cells [.int .i64 y10, .slice a2354 l2353.length l2353.length] .own), .sl a2354 2 l2353.length (l2353.map (eP (eI .i64) (eI .i64)))]⟩) ?_ (fun _ _ => rfl) (fun r d => by intro e; cases e) _ _ _ h3008 ()
                  clear hF h3008
                  rintro ⟨v2917, v2918⟩ ⟨⟩ r hF
                  unfold L40_1 at hF
                  refine Wk.seq ?_
                  refine Wk.seq ?_
                  obtain ⟨v2972, h2974, hF⟩ := ob_some hF
                  refine Wk.cut (G := (fun (r : Bool) (g : Unit) => match r, g with | v2972, _ => ⟨.normal, [(1, ptr b8 0), (2, ptr b9 0), (3, .int .i64 v1014), (5, ptr b12 0), (6, .int .i64 v2887), (7, .int .i64 v1018), (8, .int .i64 v2356), (9, .bool v2917), (10, .int .i64 v2918), (83, .bool v2972)], [.obj b8 (.cells [.int .u8 ((x1 : Nat) : Int), .int .u8 ((x2 : Nat) : Int), .int .u16 ((x3 : Nat) : Int), .slice a5 l4.length c6] .own), .rd a5 c6 2 l4.length (l4.map (eP (eN .u8) (eN .u8))), .obj b9 (.cells [.int .i64 0, .slice none 0 0] .own), .obj b12 (.cells [.int .i64 y10, .slice a2354 l2353.length l2353.length] .own), .sl a2354 2 l2353.length (l2353.map (eP (eI .i64) (eI .i64)))]⟩) v2972) ?_ ?_
                  · clear hF
                    revert v2972
                    intro r hF
                    refine Wk.region ?_
                    refine Wo.od (o_mv rfl) rfl ?_
                    refine Wo.od (o_fa (r := ptr b8 3) rfl (fa55_3 _ _)) rfl ?_
                    refine Wo.od (o_ld (k := 0) t53 rfl rfl rfl) rfl ?_
                    refine Wo.od (o_ln (k := 1) u53 rfl rfl (.inl rfl)) rfl ?_
                    refine Wo.od (o_bi rfl rfl (bin_lss _ _ _)) rfl ?_
                    refine Wo.od (o_mv rfl) rfl ?_
                    rcases br_some hF with ⟨h2973, hF⟩ | ⟨h2973, hF⟩
                    · refine Wo.og (o_mv rfl) (gg rfl rfl (eTT h2973)) rfl ?_
                      refine Wo.og (o_bi rfl rfl (bin_lss _ _ _)) (gg rfl rfl (eTT h2973)) rfl ?_
                      refine Wo.od (o_pt rfl h2973 rfl) rfl ?_
                      refine Wo.nil ?_
                      cases hF
                      exact At.en () rfl (sc rfl (sc rfl (sc rfl (sc rfl (sc rfl (sc rfl (sc rfl (sc rfl (sc rfl (sc rfl sn)))))))))) (Turn.picks [0, 1, 2, 3, 4] rfl rfl)
                    · refine Wo.s (gg rfl rfl (eFT h2973)) rfl ?_
                      refine Wo.s (gg rfl rfl (eFT h2973)) rfl ?_
                      refine Wo.od (o_pf rfl h2973 rfl) rfl ?_
                      refine Wo.nil ?_
                      cases hF
                      exact At.en () rfl (sc rfl (sc rfl (sc rfl (sc rfl (sc rfl (sc rfl (sc rfl (sc rfl (sc rfl (sc rfl sn)))))))))) (Turn.picks [0, 1, 2, 3, 4] rfl rfl)
                  · clear h2974
                    rintro ⟨⟩
                    refine At.tn ?_
                    rcases br_some hF with ⟨h2976, hF⟩ | ⟨h2976, hF⟩
                    · refine Wk.condT rfl h2976 ?_
                      refine Wk.skip ?_
                      refine At.tn ?_
                      refine Wk.seq ?_
                      obtain ⟨v2991, h3006, hF⟩ := ob_some hF
                      refine Wk.cut (G := (fun (r : Bool) (g : Unit) => match r, g with | v2991, _ => ⟨.normal, [(1, ptr b8 0), (2, ptr b9 0), (3, .int .i64 v1014), (5, ptr b12 0), (6, .int .i64 v2887), (7, .int .i64 v1018), (8, .int .i64 v2356), (9, .bool v2991), (10, .int .i64 v2918)], [.obj b8 (.cells [.int .u8 ((x1 : Nat) : Int), .int .u8 ((x2 : Nat) : Int), .int .u16 ((x3 : Nat) : Int), .slice a5 l4.length c6] .own), .rd a5 c6 2 l4.length (l4.map (eP (eN .u8) (eN .u8))), .obj b9 (.cells [.int .i64 0, .slice none 0 0] .own), .obj b12 (.cells [.int .i64 y10, .slice a2354 l2353.length l2353.length] .own), .sl a2354 2 l2353.length (l2353.map (eP (eI .i64) (eI .i64)))]⟩) v2991) ?_ ?_
                      · clear hF
                        revert v2991
                        intro r hF
                        refine Wk.block ?_
                        refine Wk.seq ?_
                        refine Wk.draw (by kernel_rfl) ?_
                        refine Wo.od (o_fa (r := ptr b8 3) rfl (fa55_3 _ _)) rfl ?_
                        refine Wo.od (o_ld (k := 0) t53 rfl rfl rfl) rfl ?_
                        refine Wo.od (o_mv rfl) rfl ?_
                        obtain ⟨h2992, hF⟩ := gd_some hF
                        replace h2992 := inB_some h2992
                        refine Wo.openr (k := 1) rfl (pos_of h2992) ?_
                        rintro b2993 o2994 rfl
                        refine Wo.og (o_ixs s53 rfl rfl h2992) gn rfl ?_
                        refine Wo.od (o_ia (r := ptr b2993 (o2994 + v2918.toNat * 2 + 0)) rfl rfl (ia_c ar103 (i := 0) (by decide))) rfl ?_
                        obtain ⟨⟨x2995, x2996⟩, h2997, hF⟩ := ob_some hF
                        refine Wo.od (o_ldr (k := 0) t5 rfl rfl (map_at h2997) rfl rfl) rfl ?_
                        refine Wo.od (o_cv rfl (cv_i (by rw [u5]; rfl) u3)) rfl ?_
                        refine Wo.od (o_fa (r := ptr b12 0) rfl (fa25_0 _ _)) rfl ?_
                        refine Wo.od (o_ld (k := 4) t3 rfl rfl rfl) rfl ?_
                        obtain ⟨h2998, hF⟩ := gd_some hF
                        refine Wo.od (o_bi rfl rfl (ib_rem _ _ h2998)) rfl ?_
                        refine Wo.od (o_fa (r := ptr b8 3) rfl (fa55_3 _ _)) rfl ?_
                        refine Wo.od (o_ld (k := 1) t53 rfl rfl rfl) rfl ?_
                        refine Wo.od (o_mv rfl) rfl ?_
                        obtain ⟨h2999, hF⟩ := gd_some hF
                        replace h2999 := inB_some h2999
                        refine Wo.og (o_ixs s53 rfl rfl h2999) gn rfl ?_
                        refine Wo.od (o_ia (r := ptr b2993 (o2994 + v2918.toNat * 2 + 1)) rfl rfl (ia_c ar103 (i := 1) (by decide))) rfl ?_
                        refine Wo.od (o_ldr (k := 0) t5 rfl rfl (map_at h2997) rfl rfl) rfl ?_
                        refine Wo.od (o_cv rfl (cv_i (by rw [u5]; rfl) u3)) rfl ?_
                        refine Wo.od (o_fa (r := ptr b12 0) rfl (fa25_0 _ _)) rfl ?_
                        refine Wo.od (o_ld (k := 4) t3 rfl rfl rfl) rfl ?_
                        obtain ⟨h3000, hF⟩ := gd_some hF
                        refine Wo.od (o_bi rfl rfl (ib_rem _ _ h3000)) rfl ?_
                        refine Wo.od (o_as rfl) rfl ?_
                        refine Wo.od (o_as rfl) rfl ?_
                        refine Wo.nil ?_
                        refine At.tn ?_
                        refine Wk.region ?_
                        refine Wo.od (o_mv rfl) rfl ?_
                        refine Wo.od (o_mv rfl) rfl ?_
                        rcases br_some hF with ⟨h3001, hF⟩ | ⟨h3001, hF⟩
                        · refine Wo.s (gg rfl rfl (eTF h3001)) rfl ?_
                          refine Wo.s (gg rfl rfl (eTF h3001)) rfl ?_
                          refine Wo.s (gg rfl rfl (eTF h3001)) rfl ?_
                          refine Wo.s (gg rfl rfl (eTF h3001)) rfl ?_
                          refine Wo.s (gu rfl rfl) rfl ?_
                          refine Wo.s (gu rfl rfl) rfl ?_
                          refine Wo.s (gu rfl rfl) rfl ?_
                          refine Wo.s (gg rfl rfl (eTF h3001)) rfl ?_
                          refine Wo.od (o_pt rfl h3001 rfl) rfl ?_
                          refine Wo.od (o_mv rfl) rfl ?_
                          refine Wo.s (gg rfl rfl rfl) rfl ?_
                          refine Wo.s (gg rfl rfl rfl) rfl ?_
                          refine Wo.s (gg rfl rfl rfl) rfl ?_
                          refine Wo.s (gg rfl rfl rfl) rfl ?_
                          refine Wo.s (gu rfl rfl) rfl ?_
                          refine Wo.s (gu rfl rfl) rfl ?_
                          refine Wo.s (gu rfl rfl) rfl ?_
                          refine Wo.s (gg rfl rfl rfl) rfl ?_
                          refine Wo.od (o_pT rfl rfl) rfl ?_
                          refine Wo.od (o_as rfl) rfl ?_
                          refine Wo.nil ?_
                          refine At.bn ?_
                          cases hF
                          exact At.en () rfl (sc rfl (sc rfl (sc rfl (sc rfl (sc rfl (sc rfl (sc rfl (sc rfl (sc rfl sn))))))))) (Turn.picks [1, 2, 3, 4, 5] rfl rfl)
                        · refine Wo.og (o_mv rfl) (gg rfl rfl (eFF h3001)) rfl ?_
                          refine Wo.og (o_mv rfl) (gg rfl rfl (eFF h3001)) rfl ?_
                          refine Wo.og (o_bi rfl rfl (bin_eql _ _ _)) (gg rfl rfl (eFF h3001)) rfl ?_
                          refine Wo.og (o_mv rfl) (gg rfl rfl (eFF h3001)) rfl ?_
                          rcases br_some hF with ⟨h3002, hF⟩ | ⟨h3002, hF⟩
                          · refine Wo.og (o_mv rfl) (gg rfl rfl (eTT h3002)) rfl ?_
                            refine Wo.og (o_mv rfl) (gg rfl rfl (eTT h3002)) rfl ?_
                            refine Wo.og (o_bi rfl rfl (bin_eql _ _ _)) (gg rfl rfl (eTT h3002)) rfl ?_
                            refine Wo.og (o_pt rfl h3002 rfl) (gg rfl rfl (eFF h3001)) rfl ?_
                            refine Wo.od (o_pf rfl h3001 rfl) rfl ?_
                            refine Wo.od (o_mv rfl) rfl ?_
                            rcases br_some hF with ⟨h3003, hF⟩ | ⟨h3003, hF⟩
                            · refine Wo.s (gg rfl rfl (eTF h3003)) rfl ?_
                              refine Wo.s (gg rfl rfl (eTF h3003)) rfl ?_
                              refine Wo.s (gg rfl rfl (eTF h3003)) rfl ?_
                              refine Wo.s (gg rfl rfl (eTF h3003)) rfl ?_
                              refine Wo.s (gu rfl rfl) rfl ?_
                              refine Wo.s (gu rfl rfl) rfl ?_
                              refine Wo.s (gu rfl rfl) rfl ?_
                              refine Wo.s (gg rfl rfl (eTF h3003)) rfl ?_
                              refine Wo.od (o_pt rfl h3003 rfl) rfl ?_
                              refine Wo.od (o_as rfl) rfl ?_
                              refine Wo.nil ?_
                              refine At.bn ?_
                              cases hF
                              exact At.en () rfl (sc rfl (sc rfl (sc rfl (sc rfl (sc rfl (sc rfl (sc rfl (sc rfl (sc rfl sn))))))))) (Turn.picks [1, 2, 3, 4, 5] rfl rfl)
                            · refine Wo.og (o_mv rfl) (gg rfl rfl (eFF h3003)) rfl ?_
                              refine Wo.og (o_mv rfl) (gg rfl rfl (eFF h3003)) rfl ?_
                              refine Wo.og (o_bi rfl rfl (bin_eql _ _ _)) (gg rfl rfl (eFF h3003)) rfl ?_
                              refine Wo.og (o_mv rfl) (gg rfl rfl (eFF h3003)) rfl ?_
                              rcases br_some hF with ⟨h3004, hF⟩ | ⟨h3004, hF⟩
                              · refine Wo.og (o_mv rfl) (gg rfl rfl (eTT h3004)) rfl ?_
                                refine Wo.og (o_mv rfl) (gg rfl rfl (eTT h3004)) rfl ?_
                                refine Wo.og (o_bi rfl rfl (bin_eql _ _ _)) (gg rfl rfl (eTT h3004)) rfl ?_
                                refine Wo.og (o_pt rfl h3004 rfl) (gg rfl rfl (eFF h3003)) rfl ?_
                                refine Wo.od (o_pf rfl h3003 rfl) rfl ?_
                                refine Wo.od (o_as rfl) rfl ?_
                                refine Wo.nil ?_
                                refine At.bn ?_
                                cases hF
                                exact At.en () rfl (sc rfl (sc rfl (sc rfl (sc rfl (sc rfl (sc rfl (sc rfl (sc rfl (sc rfl sn))))))))) (Turn.picks [1, 2, 3, 4, 5] rfl rfl)
                              · refine Wo.s (gg rfl rfl (eFT h3004)) rfl ?_
                                refine Wo.s (gg rfl rfl (eFT h3004)) rfl ?_
                                refine Wo.s (gg rfl rfl (eFT h3004)) rfl ?_
                                refine Wo.og (o_pf rfl h3004 rfl) (gg rfl rfl (eFF h3003)) rfl ?_
                                refine Wo.od (o_pf rfl h3003 rfl) rfl ?_
                                refine Wo.od (o_as rfl) rfl ?_
                                refine Wo.nil ?_
                                refine At.bn ?_
                                cases hF
                                exact At.en () rfl (sc rfl (sc rfl (sc rfl (sc rfl (sc rfl (sc rfl (sc rfl (sc rfl (sc rfl sn))))))))) (Turn.picks [1, 2, 3, 4, 5] rfl rfl)
                          · refine Wo.s (gg rfl rfl (eFT h3002)) rfl ?_
                            refine Wo.s (gg rfl rfl (eFT h3002)) rfl ?_
                            refine Wo.s (gg rfl rfl (eFT h3002)) rfl ?_
                            refine Wo.og (o_pf rfl h3002 rfl) (gg rfl rfl (eFF h3001)) rfl ?_
                            refine Wo.od (o_pf rfl h3001 rfl) rfl ?_
                            refine Wo.od (o_mv rfl) rfl ?_
                            refine Wo.og (o_mv rfl) (gg rfl rfl rfl) rfl ?_
                            refine Wo.og (o_mv rfl) (gg rfl rfl rfl) rfl ?_
                            refine Wo.og (o_bi rfl rfl (bin_eql _ _ _)) (gg rfl rfl rfl) rfl ?_
                            refine Wo.og (o_mv rfl) (gg rfl rfl rfl) rfl ?_
                            rcases br_some hF with ⟨h3005, hF⟩ | ⟨h3005, hF⟩
                            · refine Wo.og (o_mv rfl) (gg rfl rfl (eTT h3005)) rfl ?_
                              refine Wo.og (o_mv rfl) (gg rfl rfl (eTT h3005)) rfl ?_
                              refine Wo.og (o_bi rfl rfl (bin_eql _ _ _)) (gg rfl rfl (eTT h3005)) rfl ?_
                              refine Wo.og (o_pt rfl h3005 rfl) (gg rfl rfl rfl) rfl ?_
                              refine Wo.od (o_pF rfl rfl) rfl ?_
                              refine Wo.od (o_as rfl) rfl ?_
                              refine Wo.nil ?_
                              refine At.bn ?_
                              cases hF
                              exact At.en () rfl (sc rfl (sc rfl (sc rfl (sc rfl (sc rfl (sc rfl (sc rfl (sc rfl (sc rfl sn))))))))) (Turn.picks [1, 2, 3, 4, 5] rfl rfl)
                            · refine Wo.s (gg rfl rfl (eFT h3005)) rfl ?_
                              refine Wo.s (gg rfl rfl (eFT h3005)) rfl ?_
                              refine Wo.s (gg rfl rfl (eFT h3005)) rfl ?_
                              refine Wo.og (o_pf rfl h3005 rfl) (gg rfl rfl rfl) rfl ?_
                              refine Wo.od (o_pF rfl rfl) rfl ?_
                              refine Wo.od (o_as rfl) rfl ?_
                              refine Wo.nil ?_
                              refine At.bn ?_
                              cases hF
                              exact At.en () rfl (sc rfl (sc rfl (sc rfl (sc rfl (sc rfl (sc rfl (sc rfl (sc rfl (sc rfl sn))))))))) (Turn.picks [1, 2, 3, 4, 5] rfl rfl)
                      · clear h3006
                        rintro ⟨⟩
                        refine At.tn ?_
                        refine Wk.region ?_
                        refine Wo.od (o_mv rfl) rfl ?_
                        refine Wo.od (o_bi rfl rfl (bin_add _ _ _)) rfl ?_
                        refine Wo.od (o_as rfl) rfl ?_
                        refine Wo.nil ?_
                        cases hF
                        exact At.en () rfl (sc rfl (sc rfl (sc rfl (sc rfl (sc rfl (sc rfl (sc rfl (sc rfl (sc rfl sn))))))))) (Turn.picks [0, 1, 2, 3, 4] rfl rfl)
                    · refine Wk.condF rfl h2976 ?_
                      refine Wk.exit ?_
                      refine At.te ?_
                      cases hF
                      exact At.en () rfl (sc rfl (sc rfl (sc rfl (sc rfl (sc rfl (sc rfl (sc rfl (sc rfl sn)))))))) (Turn.picks [0, 1, 2, 3, 4] rfl rfl)
                · clear h3008
                  rintro ⟨⟩
                  refine At.be ?_
                  refine At.tn ?_
                  refine Wk.seq ?_
                  refine Wk.region ?_
                  refine Wo.od (o_mv rfl) rfl ?_
                  refine Wo.nil ?_
                  refine At.tn ?_
                  rcases br_some hF with ⟨h3010, hF⟩ | ⟨h3010, hF⟩
                  · refine Wk.condT rfl h3010 ?_
                    refine Wk.region ?_
                    refine Wo.od (o_fa (r := ptr b12 1) rfl (fa25_1 _ _)) rfl ?_
                    refine Wo.od (o_ld (k := 3) t23 rfl rfl rfl) rfl ?_
                    refine Wo.od (o_mv rfl) rfl ?_
                    refine Wo.od (o_mv rfl) rfl ?_
                    refine Wo.od (o_bd rfl z26 rfl (bd_s bs26 rfl rfl rfl)) rfl ?_
                    refine Wo.x (o_bs (es := ([(v1018, v2356)] : List (Int × Int)).map (eP (eI .i64) (eI .i64))) s23 rfl (bs_c s23 z26 rfl rfl) rfl rfl) gn rfl fun b3011 => ?_
                    obtain ⟨h3012, hF⟩ := gd_some hF
                    refine Wo.x (o_apl (k := 5) (k2 := 0) (xs := (l2353 : List (Int × Int))) (ys := ([(v1018, v2356)] : List (Int × Int))) (enP (enI .i64) (enI .i64)) s23 ⟨_, u23⟩ rfl rfl rfl (.arr _ _ _ _ _) h3012) gn rfl fun a3013 => ?_
                    refine Wo.od (o_fa (r := ptr b12 1) rfl (fa25_1 _ _)) rfl ?_
                    refine Wo.o0 (o_st (k := 4) t23 rfl rfl rfl rfl rfl) ?_
                    refine Wo.nil ?_
                    refine At.bn ?_
                    cases hF
                    exact At.en a3013 rfl (sc rfl (sc rfl (sc rfl (sc rfl (sc rfl (sc rfl (sc rfl sn))))))) (Turn.picks [1, 2, 3, 4, 5] rfl rfl)
                  · refine Wk.condF rfl h3010 ?_
                    refine Wk.skip ?_
                    refine At.bn ?_
                    cases hF
                    exact At.en a2354 rfl (sc rfl (sc rfl (sc rfl (sc rfl (sc rfl (sc rfl (sc rfl sn))))))) (Turn.picks [0, 1, 2, 3, 4] rfl rfl)
          · clear h3014
            obtain ⟨l2851, v2853⟩ := r3015
            rintro a2852
            refine At.tn ?_
            refine Wk.region ?_
            refine Wo.od (o_mv rfl) rfl ?_
            refine Wo.od (o_bi rfl rfl (bin_add _ _ _)) rfl ?_
            refine Wo.od (o_as rfl) rfl ?_
            refine Wo.nil ?_
            cases hF
            exact At.en a2852 rfl (sc rfl (sc rfl (sc rfl (sc rfl (sc rfl (sc rfl (sc rfl sn))))))) (Turn.picks [0, 1, 2, 3, 4] rfl rfl)
        · refine Wk.condF rfl h2690 ?_
          refine Wk.exit ?_
          refine At.te ?_
          cases hF
          exact At.en a2354 rfl (sc rfl (sc rfl (sc rfl (sc rfl (sc rfl (sc rfl sn)))))) (Turn.picks [0, 1, 2, 3, 4] rfl rfl)
      · clear h3016
        obtain ⟨l2687, v2689⟩ := r3017
        rintro a2688
        refine At.be ?_
        refine At.bn ?_
        refine At.tn ?_
        refine Wk.region ?_
        refine Wo.od (o_mv rfl) rfl ?_
        refine Wo.od (o_bi rfl rfl (bin_add _ _ _)) rfl ?_
        refine Wo.od (o_as rfl) rfl ?_
        refine Wo.nil ?_
        cases hF
        exact At.en a2688 rfl (sc rfl (sc rfl (sc rfl (sc rfl (sc rfl (sc rfl sn)))))) (Turn.picks [0, 1, 2, 3, 4] rfl rfl)
    · refine Wk.condF rfl h2022 ?_
      refine Wk.exit ?_
      refine At.te ?_
      cases hF
      exact At.en a1016 rfl (sc rfl (sc rfl sn)) (Turn.picks [2, 3, 4] rfl rfl)
  · clear h3018
    rintro a2021
    refine At.be ?_
    refine At.tn ?_
    refine Wk.seq ?_
    refine Wk.region ?_
    refine Wo.od (o_ld (k := 1) t25 rfl rfl rfl) rfl ?_
    refine Wo.o0 (o_st (k := 0) t25 rfl rfl rfl rfl rfl) ?_
    refine Wo.nil ?_
    refine At.tn ?_
    refine Wk.ret ?_
    cases hF
    exact At.ret (.cell (k := 0) t25 rfl rfl rfl .nil) fun m' hm => ⟨(a2021, l2020.length), rfl, (Turn.picks [2] rfl rfl) m' hm⟩

theorem f65_ok (n : Nat) (x1 : Nat) (x2 : Nat) (x3 : Int) (x4 : Int) (x5 : Int) (x6 : Int) (l7 : List (Int × Int)) (a8 : Option Addr) (c9 : Nat) (r : Int × List (Int × Int)) (hF : F65 n x1 x2 x3 x4 x5 x6 l7 = some r) (m : AMem) (h10 : Rd m a8 c9 2 l7.length (l7.map (eP (eI .i64) (eI .i64)))) :
    CallA E18w 65 [.agg #[.int .u8 ((x1 : Nat) : Int), .int .u8 ((x2 : Nat) : Int), .int .i64 x3, .int .i64 x4, .int .i64 x5], .agg #[.int .i64 x6, .slice a8 l7.length c9]] m (fun v m' => ∃ x : Option Addr × Nat, v = .agg #[.int .i64 r.1, .slice x.1 x.2 x.2] ∧ Hp m m' [.sl x.1 2 x.2 (r.2.map (eP (eI .i64) (eI .i64)))]) := by
  unfold F65 at hF
  refine call_wk (m0 := m) (ps := [.rd a8 c9 2 l7.length (l7.map (eP (eI .i64) (eI .i64)))]) (N := 145) (rs := [.cell 4 25]) rfl Tryd.func65 rfl rfl rfl ((Hp.start m).inn rfl h10) ?_
  refine Wk.seq ?_
  refine Wk.region ?_
  refine Wo.x (o_bx rfl) gn rfl fun b11 => ?_
  refine Wo.x (o_bx rfl) gn rfl fun b12 => ?_
  refine Wo.x (o_al z25 rfl) gn rfl fun b13 => ?_
  refine Wo.nil ?_
  refine At.tn ?_
  refine Wk.seq ?_
  refine Wk.region ?_
  refine Wo.od (o_fa (r := ptr b12 1) rfl (fa25_1 _ _)) rfl ?_
  refine Wo.od (o_ld (k := 1) t23 rfl rfl rfl) rfl ?_
  refine Wo.od (o_fa (r := ptr b12 1) rfl (fa25_1 _ _)) rfl ?_
  refine Wo.od (o_ld (k := 1) t23 rfl rfl rfl) rfl ?_
  refine Wo.od (o_ln (k := 3) u23 rfl rfl (.inl rfl)) rfl ?_
  refine Wo.od (o_bu rfl rfl (bu_mi _ _)) rfl ?_
  obtain ⟨h14, hF⟩ := gd_some hF
  refine Wo.x (o_srl (k := 3) (lo := 0) (hi := mi (l7.length : Int) (210 : Int)) s23 rfl rfl rfl rfl h14 (.inl ⟨rfl, rfl⟩) (.inr ⟨_, rfl⟩)) gn rfl ?_
  rintro ⟨a15, c16⟩
  obtain ⟨l18, h17, hF⟩ := ob_some hF
  refine Wo.x (o_cl rfl rfl (fun m hm => f26_ok n ((l7.drop (0 : Int).toNat).take ((mi (l7.length : Int) (210 : Int) : Int).toNat - (0 : Int).toNat)) a15 c16 _ h17 m (hm.rd (k := 0) rfl (.rd _ _ _ _ _))) fun _ => rfl) gn rfl ?_
  rintro ⟨a19, n20⟩
  refine Wo.len (k := 0) (xs := l18) rfl ?_
  rintro rfl
  refine Wo.od (o_fa (r := ptr b12 1) rfl (fa25_1 _ _)) rfl ?_
  refine Wo.o0 (o_st (k := 3) t23 rfl rfl rfl rfl rfl) ?_
  refine Wo.nil ?_
  refine At.tn ?_
  refine Wk.seq ?_
  refine Wk.region ?_
  refine Wo.od (o_fa (r := ptr b12 1) rfl (fa25_1 _ _)) rfl ?_
  refine Wo.od (o_ld (k := 3) t23 rfl rfl rfl) rfl ?_
  refine Wo.od (o_ln (k := 0) u23 rfl rfl (.inl rfl)) rfl ?_
  refine Wo.od (o_as rfl) rfl ?_
  refine Wo.nil ?_
  refine At.tn ?_
  refine Wk.seq ?_
  refine Wk.region ?_
  refine Wo.od (o_fa (r := ptr b11 1) rfl (fa57_1 _ _)) rfl ?_
  refine Wo.od (o_ld (k := 4) t5 rfl rfl rfl) rfl ?_
  refine Wo.od (o_cv rfl (cv_i (by rw [u5]; rfl) u3)) rfl ?_
  refine Wo.od (o_mv rfl) rfl ?_
  refine Wo.od (o_bi rfl rfl (bin_add _ _ _)) rfl ?_
  obtain ⟨h21, hF⟩ := gd_some hF
  obtain ⟨y22, h23, hF⟩ := ob_some hF
  refine Wo.od (o_bi rfl rfl ((ib_rem _ _ h21).trans (cI h23))) rfl ?_
  refine Wo.od (o_as rfl) rfl ?_
  refine Wo.nil ?_
  refine At.tn ?_
  refine Wk.seq ?_
  obtain ⟨r493, h492, hF⟩ := ob_some hF
  refine Wk.cut (G := (fun (r : Int × List (Int × Int) × Nat) (g : Option Addr) => match r, g with | (v256, l257, n259), a258 => ⟨.normal, [(3, ptr b12 0), (4, ptr b13 0)], [.obj b12 (.cells [.int .i64 v256, .slice a258 n259 n259] .own), .sl a258 2 n259 (l257.map (eP (eI .i64) (eI .i64))), .obj b13 (.cells [.int .i64 0, .slice none 0 0] .own)]⟩) r493) ?_ ?_
  · clear hF
    revert r493
    intro r hF
    refine Wk.seq ?_
    refine Wk.region ?_
    refine Wo.od (o_fa (r := ptr b11 0) rfl (fa57_0 _ _)) rfl ?_
    refine Wo.od (o_ld (k := 4) t5 rfl rfl rfl) rfl ?_
    refine Wo.od (o_bi rfl rfl (ub_rem _ _ (by decide))) rfl ?_
    refine Wo.nil ?_
    refine At.tn ?_
    refine Wk.block ?_
    refine Wk.seq ?_
    refine Wk.region ?_
    refine Wo.od (o_bi rfl rfl (ub_eql _ _)) rfl ?_
    refine Wo.od (o_as rfl) rfl ?_
    refine Wo.nil ?_
    refine At.tn ?_
    rcases br_some hF with ⟨h260, hF⟩ | ⟨h260, hF⟩
    · refine Wk.condT rfl h260 ?_
      refine Wk.region ?_
      refine Wo.od (o_fa (r := ptr b11 2) rfl (fa57_2 _ _)) rfl ?_
      refine Wo.od (o_ld (k := 4) t3 rfl rfl rfl) rfl ?_
      refine Wo.od (o_fa (r := ptr b12 0) rfl (fa25_0 _ _)) rfl ?_
      refine Wo.o0 (o_st (k := 3) t3 rfl rfl rfl rfl rfl) ?_
      refine Wo.nil ?_
      refine At.bn ?_
      cases hF
      exact At.en a19 rfl (sc rfl (sc rfl sn)) (Turn.picks [3, 0, 2] rfl rfl)
    · refine Wk.condF rfl h260 ?_
      refine Wk.seq ?_
      refine Wk.region ?_
      refine Wo.od (o_bi rfl rfl (ub_eql _ _)) rfl ?_
      refine Wo.od (o_as rfl) rfl ?_
      refine Wo.nil ?_
      refine At.tn ?_
      rcases br_some hF with ⟨h261, hF⟩ | ⟨h261, hF⟩
      · refine Wk.condT rfl h261 ?_
        refine Wk.region ?_
        refine Wo.od (o_fa (r := ptr b12 1) rfl (fa25_1 _ _)) rfl ?_
        refine Wo.od (o_ld (k := 3) t23 rfl rfl rfl) rfl ?_
        refine Wo.od (o_mv rfl) rfl ?_
        refine Wo.od (o_fa (r := ptr b11 3) rfl (fa57_3 _ _)) rfl ?_
        refine Wo.od (o_ld (k := 4) t26 rfl rfl rfl) rfl ?_
        refine Wo.x (o_bs (es := ([(x4, x5)] : List (Int × Int)).map (eP (eI .i64) (eI .i64))) s23 rfl (bs_c s23 z26 rfl rfl) rfl rfl) gn rfl fun b262 => ?_
        obtain ⟨l263, h264, hF⟩ := ob_some hF
        refine Wo.x (o_cs (α := Option Addr × Nat) (V := fun y => .slice y.1 y.2 y.2) (N := fun y => pset [.arr b262 2 1 (([(x4, x5)]).map (eP (eI .i64) (eI .i64))) .own, .sl a19 2 l18.length (l18.map (eP (eI .i64) (eI .i64))), .rd a15 c16 2 (((l7.drop (0 : Int).toNat).take ((mi (l7.length : Int) (210 : Int) : Int).toNat - (0 : Int).toNat)).length) (((l7.drop (0 : Int).toNat).take ((mi (l7.length : Int) (210 : Int) : Int).toNat - (0 : Int).toNat)).map (eP (eI .i64) (eI .i64))), .obj b13 (.cells [.int .i64 0, .slice none 0 0] .own), .obj b12 (.cells [.int .i64 x6, .slice a19 l18.length l18.length] .own), .obj b11 (.cells [.int .u8 ((x1 : Nat) : Int), .int .u8 ((x2 : Nat) : Int), .int .i64 x3, .int .i64 x4, .int .i64 x5] .own), .rd a8 c9 2 l7.length (l7.map (eP (eI .i64) (eI .i64)))] 1 (.sl y.1 2 y.2 (l263.map (eP (eI .i64) (eI .i64))))) rfl rfl (fun m hm => f82_use n hm (k := 1) rfl (k2 := 0) rfl rfl h264)) gn rfl ?_
        rintro ⟨a265, n266⟩
        refine Wo.len (k := 1) (xs := l263) rfl ?_
        rintro rfl
        refine Wo.od (o_fa (r := ptr b12 1) rfl (fa25_1 _ _)) rfl ?_
        refine Wo.o0 (o_st (k := 4) t23 rfl rfl rfl rfl rfl) ?_
        refine Wo.nil ?_
        refine At.bn ?_
        cases hF
        exact At.en a265 rfl (sc rfl (sc rfl sn)) (Turn.picks [4, 1, 3] rfl rfl)
      · refine Wk.condF rfl h261 ?_
        refine Wk.seq ?_
        refine Wk.region ?_
        refine Wo.od (o_bi rfl rfl (ub_eql _ _)) rfl ?_
        refine Wo.od (o_as rfl) rfl ?_
        refine Wo.nil ?_
        refine At.tn ?_
        rcases br_some hF with ⟨h267, hF⟩ | ⟨h267, hF⟩
        · refine Wk.condT rfl h267 ?_
          refine Wk.seq ?_
          refine Wk.region ?_
          refine Wo.od (o_mv rfl) rfl ?_
          refine Wo.od (o_mv rfl) rfl ?_
          refine Wo.od (o_bi rfl rfl (bin_lss _ _ _)) rfl ?_
          refine Wo.nil ?_
          refine At.tn ?_
          rcases br_some hF with ⟨h268, hF⟩ | ⟨h268, hF⟩
          · refine Wk.condT rfl h268 ?_
            refine Wk.region ?_
            refine Wo.od (o_fa (r := ptr b12 1) rfl (fa25_1 _ _)) rfl ?_
            refine Wo.od (o_ld (k := 3) t23 rfl rfl rfl) rfl ?_
            refine Wo.od (o_mv rfl) rfl ?_
            refine Wo.od (o_mv rfl) rfl ?_
            refine Wo.od (o_bi rfl rfl (bin_add _ _ _)) rfl ?_
            obtain ⟨l269, h270, hF⟩ := ob_some hF
            refine Wo.x (o_cs (α := Option Addr × Nat) (V := fun y => .slice y.1 y.2 y.2) (N := fun y => pset [.sl a19 2 l18.length (l18.map (eP (eI .i64) (eI .i64))), .rd a15 c16 2 (((l7.drop (0 : Int).toNat).take ((mi (l7.length : Int) (210 : Int) : Int).toNat - (0 : Int).toNat)).length) (((l7.drop (0 : Int).toNat).take ((mi (l7.length : Int) (210 : Int) : Int).toNat - (0 : Int).toNat)).map (eP (eI .i64) (eI .i64))), .obj b13 (.cells [.int .i64 0, .slice none 0 0] .own), .obj b12 (.cells [.int .i64 x6, .slice a19 l18.length l18.length] .own), .obj b11 (.cells [.int .u8 ((x1 : Nat) : Int), .int .u8 ((x2 : Nat) : Int), .int .i64 x3, .int .i64 x4, .int .i64 x5] .own), .rd a8 c9 2 l7.length (l7.map (eP (eI .i64) (eI .i64)))] 0 (.sl y.1 2 y.2 (l269.map (eP (eI .i64) (eI .i64))))) rfl rfl (fun m hm => f49_use n hm (k := 0) rfl h270)) gn rfl ?_
            rintro ⟨a271, n272⟩
            refine Wo.len (k := 0) (xs := l269) rfl ?_
            rintro rfl
            refine Wo.od (o_fa (r := ptr b12 1) rfl (fa25_1 _ _)) rfl ?_
            refine Wo.o0 (o_st (k := 3) t23 rfl rfl rfl rfl rfl) ?_
            refine Wo.nil ?_
            refine At.bn ?_
            cases hF
            exact At.en a271 rfl (sc rfl (sc rfl sn)) (Turn.picks [3, 0, 2] rfl rfl)
          · refine Wk.condF rfl h268 ?_
            refine Wk.skip ?_
            refine At.bn ?_
            cases hF
            exact At.en a19 rfl (sc rfl (sc rfl sn)) (Turn.picks [3, 0, 2] rfl rfl)
        · refine Wk.condF rfl h267 ?_
          refine Wk.seq ?_
          refine Wk.region ?_
          refine Wo.od (o_bi rfl rfl (ub_eql _ _)) rfl ?_
          refine Wo.od (o_as rfl) rfl ?_
          refine Wo.nil ?_
          refine At.tn ?_
          rcases br_some hF with ⟨h273, hF⟩ | ⟨h273, hF⟩
          · refine Wk.condT rfl h273 ?_
            refine Wk.seq ?_
            refine Wk.region ?_
            refine Wo.od (o_mv rfl) rfl ?_
            refine Wo.od (o_mv rfl) rfl ?_
            refine Wo.od (o_bi rfl rfl (bin_lss _ _ _)) rfl ?_
            refine Wo.nil ?_
            refine At.tn ?_
            rcases br_some hF with ⟨h274, hF⟩ | ⟨h274, hF⟩
            · refine Wk.condT rfl h274 ?_
              refine Wk.drawc (prs := [(4, 20)]) (by kernel_rfl) ?_
              refine Wn.od (o_fa (r := ptr b12 1) rfl (fa25_1 _ _)) rfl ?_
              refine Wn.od (o_ld (k := 3) t23 rfl rfl rfl) rfl ?_
              refine Wn.od (o_mv rfl) rfl ?_
              refine Wn.od (o_fa (r := ptr b12 1) rfl (fa25_1 _ _)) rfl ?_
              refine Wn.odr rfl (o_ld (k := 3) t23 rfl rfl rfl) rfl ?_
              refine Wn.od (o_mv rfl) rfl ?_
              refine Wn.od (o_fa (r := ptr b12 1) rfl (fa25_1 _ _)) rfl ?_
              refine Wn.od (o_ld (k := 3) t23 rfl rfl rfl) rfl ?_
              refine Wn.od (o_mv rfl) rfl ?_
              obtain ⟨h275, hF⟩ := gd_some hF
              replace h275 := inB_some h275
              refine Wn.open (k := 0) rfl (pos_of h275) ?_
              rintro b276 tg277 rfl h278
              refine Wn.og (o_ixa s23 rfl rfl h275) gn rfl ?_
              refine Wn.od (o_ia (r := ptr b276 (y22.toNat * 2 + 1)) rfl rfl (ia_c ar26 (i := 1) (by decide))) rfl ?_
              obtain ⟨⟨x279, x280⟩, h281, hF⟩ := ob_some hF
              refine Wn.od (o_lda (k := 0) t3 rfl rfl (map_at h281) rfl rfl) rfl ?_
              refine Wn.od (o_fa (r := ptr b12 1) rfl (fa25_1 _ _)) rfl ?_
              refine Wn.od (o_ld (k := 3) t23 rfl rfl rfl) rfl ?_
              refine Wn.od (o_mv rfl) rfl ?_
              obtain ⟨h282, hF⟩ := gd_some hF
              replace h282 := inB_some h282
              refine Wn.og (o_ixa s23 rfl rfl h282) gn rfl ?_
              refine Wn.od (o_ia (r := ptr b276 (y22.toNat * 2 + 0)) rfl rfl (ia_c ar26 (i := 0) (by decide))) rfl ?_
              refine Wn.od (o_lda (k := 0) t3 rfl rfl (map_at h281) rfl rfl) rfl ?_
              obtain ⟨h283, hF⟩ := gd_some hF
              replace h283 := inB_some h283
              refine Wn.og (o_ixa s23 rfl rfl h283) gn rfl ?_
              refine Wn.od (o_ia (r := ptr b276 (y22.toNat * 2 + 0)) rfl rfl (ia_c ar26 (i := 0) (by decide))) rfl ?_
              refine Wn.o0w rfl (o_stl (k := 0) (x1 := (x279, x280)) (x2 := (x280, x280)) t3 rfl rfl rfl h281 rfl) ?_
              obtain ⟨h285, hF⟩ := gd_some hF
              replace h285 := inB_some h285
              refine Wn.og (o_ixa s23 rfl rfl h285) gn rfl ?_
              refine Wn.od (o_ia (r := ptr b276 (y22.toNat * 2 + 1)) rfl rfl (ia_c ar26 (i := 1) (by decide))) rfl ?_
              obtain ⟨⟨x286, x287⟩, h288, hF⟩ := ob_some hF
              refine Wn.o0 (o_stl (k := 0) (x1 := (x286, x287)) (x2 := (x286, x279)) t3 rfl rfl rfl h288 rfl) ?_
              refine Wn.nil (fun m hm => (OkP.rw rfl rfl rfl (hm.ne (i := 3) (j := 0) rfl rfl rfl rfl (by decide) rfl) OkP.nil)) ?_
              refine At.bn ?_
              cases hF
              exact At.en (some ⟨b276, 0, none⟩) rfl (sc rfl (sc rfl sn)) (Turn.trans (Turn.close (k := 0) rfl) (Turn.picks [3, 0, 2] rfl rfl))
            · refine Wk.condF rfl h274 ?_
              refine Wk.skip ?_
              refine At.bn ?_
              cases hF
              exact At.en a19 rfl (sc rfl (sc rfl sn)) (Turn.picks [3, 0, 2] rfl rfl)
          · refine Wk.condF rfl h273 ?_
            refine Wk.seq ?_
            refine Wk.region ?_
            refine Wo.od (o_bi rfl rfl (ub_eql _ _)) rfl ?_
            refine Wo.od (o_as rfl) rfl ?_
            refine Wo.nil ?_
            refine At.tn ?_
            rcases br_some hF with ⟨h290, hF⟩ | ⟨h290, hF⟩
            · refine Wk.condT rfl h290 ?_
              refine Wk.seq ?_
              refine Wk.region ?_
              refine Wo.od (o_mv rfl) rfl ?_
              refine Wo.od (o_mv rfl) rfl ?_
              refine Wo.od (o_bi rfl rfl (bin_lss _ _ _)) rfl ?_
              refine Wo.nil ?_
              refine At.tn ?_
              rcases br_some hF with ⟨h291, hF⟩ | ⟨h291, hF⟩
              · refine Wk.condT rfl h291 ?_
                refine Wk.draw (by kernel_rfl) ?_
                refine Wo.od (o_fa (r := ptr b12 1) rfl (fa25_1 _ _)) rfl ?_
                refine Wo.od (o_ld (k := 3) t23 rfl rfl rfl) rfl ?_
                refine Wo.od (o_mv rfl) rfl ?_
                refine Wo.od (o_fa (r := ptr b12 1) rfl (fa25_1 _ _)) rfl ?_
                refine Wo.od (o_ld (k := 3) t23 rfl rfl rfl) rfl ?_
                refine Wo.od (o_mv rfl) rfl ?_
                obtain ⟨h292, hF⟩ := gd_some hF
                replace h292 := inB_some h292
                refine Wo.open (k := 0) rfl (pos_of h292) ?_
                rintro b293 tg294 rfl h295
                refine Wo.og (o_ixa s23 rfl rfl h292) gn rfl ?_
                obtain ⟨⟨x296, x297⟩, h298, hF⟩ := ob_some hF
                refine Wo.od (o_lda (k := 0) t26 rfl rfl (map_at h298) rfl rfl) rfl ?_
                refine Wo.x (o_bs (es := ([(x296, x297)] : List (Int × Int)).map (eP (eI .i64) (eI .i64))) s23 rfl (bs_c s23 z26 rfl rfl) rfl rfl) gn rfl fun b299 => ?_
                obtain ⟨l300, h301, hF⟩ := ob_some hF
                refine Wo.turn (Turn.close (k := 1) rfl) ?_
                refine Wo.x (o_cs (α := Option Addr × Nat) (V := fun y => .slice y.1 y.2 y.2) (N := fun y => pset [.arr b299 2 1 (([(x296, x297)]).map (eP (eI .i64) (eI .i64))) .own, .sl (some ⟨b293, 0, none⟩) 2 l18.length (l18.map (eP (eI .i64) (eI .i64))), .rd a15 c16 2 (((l7.drop (0 : Int).toNat).take ((mi (l7.length : Int) (210 : Int) : Int).toNat - (0 : Int).toNat)).length) (((l7.drop (0 : Int).toNat).take ((mi (l7.length : Int) (210 : Int) : Int).toNat - (0 : Int).toNat)).map (eP (eI .i64) (eI .i64))), .obj b13 (.cells [.int .i64 0, .slice none 0 0] .own), .obj b12 (.cells [.int .i64 x6, .slice (some ⟨b293, 0, none⟩) l18.length l18.length] .own), .obj b11 (.cells [.int .u8 ((x1 : Nat) : Int), .int .u8 ((x2 : Nat) : Int), .int .i64 x3, .int .i64 x4, .int .i64 x5] .own), .rd a8 c9 2 l7.length (l7.map (eP (eI .i64) (eI .i64)))] 1 (.sl y.1 2 y.2 (l300.map (eP (eI .i64) (eI .i64))))) rfl rfl (fun m hm => f82_use n hm (k := 1) rfl (k2 := 0) rfl rfl h301)) gn rfl ?_
                rintro ⟨a302, n303⟩
                refine Wo.len (k := 1) (xs := l300) rfl ?_
                rintro rfl
                refine Wo.od (o_fa (r := ptr b12 1) rfl (fa25_1 _ _)) rfl ?_
                refine Wo.o0 (o_st (k := 4) t23 rfl rfl rfl rfl rfl) ?_
                refine Wo.nil ?_
                refine At.bn ?_
                cases hF
                exact At.en a302 rfl (sc rfl (sc rfl sn)) (Turn.picks [4, 1, 3] rfl rfl)
              · refine Wk.condF rfl h291 ?_
                refine Wk.skip ?_
                refine At.bn ?_
                cases hF
                exact At.en a19 rfl (sc rfl (sc rfl sn)) (Turn.picks [3, 0, 2] rfl rfl)
            · refine Wk.condF rfl h290 ?_
              refine Wk.seq ?_
              refine Wk.region ?_
              refine Wo.od (o_bi rfl rfl (ub_eql _ _)) rfl ?_
              refine Wo.od (o_as rfl) rfl ?_
              refine Wo.nil ?_
              refine At.tn ?_
              rcases br_some hF with ⟨h304, hF⟩ | ⟨h304, hF⟩
              · refine Wk.condT rfl h304 ?_
                refine Wk.region ?_
                refine Wo.od (o_fa (r := ptr b12 0) rfl (fa25_0 _ _)) rfl ?_
                refine Wo.od (o_ld (k := 3) t3 rfl rfl rfl) rfl ?_
                refine Wo.od (o_bu rfl rfl (bu_ma _ _)) rfl ?_
                refine Wo.od (o_bi rfl rfl (ib_rem _ _ (by decide))) rfl ?_
                refine Wo.od (o_bi rfl rfl (bin_add _ _ _)) rfl ?_
                refine Wo.od (o_fa (r := ptr b12 0) rfl (fa25_0 _ _)) rfl ?_
                refine Wo.o0 (o_st (k := 3) t3 rfl rfl rfl rfl rfl) ?_
                refine Wo.nil ?_
                refine At.bn ?_
                cases hF
                exact At.en a19 rfl (sc rfl (sc rfl sn)) (Turn.picks [3, 0, 2] rfl rfl)
              · refine Wk.condF rfl h304 ?_
                refine Wk.seq ?_
                refine Wk.region ?_
                refine Wo.od (o_bi rfl rfl (ub_eql _ _)) rfl ?_
                refine Wo.od (o_as rfl) rfl ?_
                refine Wo.nil ?_
                refine At.tn ?_
                rcases br_some hF with ⟨h305, hF⟩ | ⟨h305, hF⟩
                · refine Wk.condT rfl h305 ?_
                  refine Wk.seq ?_
                  refine Wk.region ?_
                  refine Wo.od (o_fa (r := ptr b12 0) rfl (fa25_0 _ _)) rfl ?_
                  refine Wo.o0 (o_st (k := 3) t3 rfl rfl rfl rfl rfl) ?_
                  refine Wo.od (o_fa (r := ptr b12 1) rfl (fa25_1 _ _)) rfl ?_
                  refine Wo.o0 (o_st (k := 3) t23 rfl rfl rfl rfl rfl) ?_
                  refine Wo.nil ?_
                  refine At.tn ?_
                  refine Wk.seq ?_
                  refine Wk.region ?_
                  refine Wo.od (o_mv rfl) rfl ?_
                  refine Wo.nil ?_
                  refine At.tn ?_
                  refine Wk.block ?_
                  obtain ⟨l430, h490, hF⟩ := ob_some hF
                  refine Wk.cut (G := (fun (r : List (Int × Int)) (g : Option Addr) => match r, g with | l430, a431 => ⟨(.exit 1), [(3, ptr b12 0), (4, ptr b13 0)], [.obj b12 (.cells [.int .i64 64, .slice a431 l430.length l430.length] .own), .sl a431 2 l430.length (l430.map (eP (eI .i64) (eI .i64))), .obj b13 (.cells [.int .i64 0, .slice none 0 0] .own)]⟩) l430) ?_ ?_
                  · refine Wk.weak (fs' := [(2, ptr b11 0), (3, ptr b12 0), (4, ptr b13 0), (112, .int .i64 0)]) (ps' := [.obj b11 (.cells [.int .u8 ((x1 : Nat) : Int), .int .u8 ((x2 : Nat) : Int), .int .i64 x3, .int .i64 x4, .int .i64 x5] .own), .obj b12 (.cells [.int .i64 64, .slice none ([] : List (Int × Int)).length ([] : List (Int × Int)).length] .own), .sl none 2 ([] : List (Int × Int)).length (([] : List (Int × Int)).map (eP (eI .i64) (eI .i64))), .obj b13 (.cells [.int .i64 0, .slice none 0 0] .own)]) (sc rfl (sc rfl (sc rfl (sc rfl sn)))) (Turn.trans (Turn.nil 2 rfl) (Turn.picks [5, 4, 0, 3] rfl rfl)) ?_
                    refine Wk.loop (σ := List (Int × Int) × Int) (ρ := List (Int × Int)) (γ := Option Addr) (δ := fun _ => Option Addr) _ (fun (s : List (Int × Int) × Int) (g : Option Addr) => match s, g with | (l366, v368), a367 => ⟨.normal, [(2, ptr b11 0), (3, ptr b12 0), (4, ptr b13 0), (112, .int .i64 v368)], [.obj b11 (.cells [.int .u8 ((x1 : Nat) : Int), .int .u8 ((x2 : Nat) : Int), .int .i64 x3, .int .i64 x4, .int .i64 x5] .own), .obj b12 (.cells [.int .i64 64, .slice a367 l366.length l366.length] .own), .sl a367 2 l366.length (l366.map (eP (eI .i64) (eI .i64))), .obj b13 (.cells [.int .i64 0, .slice none 0 0] .own)]⟩) (fun (r : List (Int × Int)) (g : Option Addr) => match r, g with | l430, a431 => ⟨(.exit 1), [(3, ptr b12 0), (4, ptr b13 0)], [.obj b12 (.cells [.int .i64 64, .slice a431 l430.length l430.length] .own), .sl a431 2 l430.length (l430.map (eP (eI .i64) (eI .i64))), .obj b13 (.cells [.int .i64 0, .slice none 0 0] .own)]⟩) ?_ (fun _ _ => rfl) (fun r d => by intro e; cases e) _ _ _ h490 none
                    clear hF h490
                    rintro ⟨l366, v368⟩ a367 r hF
                    unfold L65_2 at hF
                    refine Wk.seq ?_
                    refine Wk.region ?_
                    refine Wo.od (o_bi rfl rfl (bin_lss _ _ _)) rfl ?_
                    refine Wo.nil ?_
                    refine At.tn ?_
                    refine Wk.seq ?_
                    rcases br_some hF with ⟨h432, hF⟩ | ⟨h432, hF⟩
                    · refine Wk.condT rfl h432 ?_
                      refine Wk.skip ?_
                      refine At.tn ?_
                      refine Wk.seq ?_
                      refine Wk.block ?_
                      refine Wk.seq ?_
                      refine Wk.region ?_
                      refine Wo.od (o_mv rfl) rfl ?_
                      refine Wo.od (o_as rfl) rfl ?_
                      refine Wo.nil ?_
                      refine At.tn ?_
                      refine Wk.seq ?_
                      refine Wk.region ?_
                      refine Wo.od (o_mv rfl) rfl ?_
                      refine Wo.od (o_bi rfl rfl (bin_add _ _ _)) rfl ?_
                      refine Wo.od (o_as rfl) rfl ?_
                      refine Wo.nil ?_
                      refine At.tn ?_
                      refine Wk.block ?_
                      obtain ⟨l471, h488, hF⟩ := ob_some hF
                      refine Wk.cut (G := (fun (r : List (Int × Int)) (g : Option Addr) => match r, g with | l471, a472 => ⟨(.exit 3), [(2, ptr b11 0), (3, ptr b12 0), (4, ptr b13 0), (112, .int .i64 v368)], [.obj b11 (.cells [.int .u8 ((x1 : Nat) : Int), .int .u8 ((x2 : Nat) : Int), .int .i64 x3, .int .i64 x4, .int .i64 x5] .own), .obj b12 (.cells [.int .i64 64, .slice a472 l471.length l471.length] .own), .sl a472 2 l471.length (l471.map (eP (eI .i64) (eI .i64))), .obj b13 (.cells [.int .i64 0, .slice none 0 0] .own)]⟩) l471) ?_ ?_
                      · refine Wk.weak (fs' := [(2, ptr b11 0), (3, ptr b12 0), (4, ptr b13 0), (7, .int .i64 v368), (8, .int .i64 (IntKind.wrap .i64 (v368 + 1))), (112, .int .i64 v368)]) (ps' := [.obj b11 (.cells [.int .u8 ((x1 : Nat) : Int), .int .u8 ((x2 : Nat) : Int), .int .i64 x3, .int .i64 x4, .int .i64 x5] .own), .obj b12 (.cells [.int .i64 64, .slice a367 l366.length l366.length] .own), .sl a367 2 l366.length (l366.map (eP (eI .i64) (eI .i64))), .obj b13 (.cells [.int .i64 0, .slice none 0 0] .own)]) (sc rfl (sc rfl (sc rfl (sc rfl (sc rfl (sc rfl sn)))))) (Turn.picks [0, 1, 2, 3] rfl rfl) ?_
                        refine Wk.loop (σ := List (Int × Int) × Int) (ρ := List (Int × Int)) (γ := Option Addr) (δ := fun _ => Option Addr) _ (fun (s : List (Int × Int) × Int) (g : Option Addr) => match s, g with | (l450, v452), a451 => ⟨.normal, [(2, ptr b11 0), (3, ptr b12 0), (4, ptr b13 0), (7, .int .i64 v368), (8, .int .i64 v452), (112, .int .i64 v368)], [.obj b11 (.cells [.int .u8 ((x1 : Nat) : Int), .int .u8 ((x2 : Nat) : Int), .int .i64 x3, .int .i64 x4, .int .i64 x5] .own), .obj b12 (.cells [.int .i64 64, .slice a451 l450.length l450.length] .own), .sl a451 2 l450.length (l450.map (eP (eI .i64) (eI .i64))), .obj b13 (.cells [.int .i64 0, .slice none 0 0] .own)]⟩) (fun (r : List (Int × Int)) (g : Option Addr) => match r, g with | l471, a472 => ⟨(.exit 3), [(2, ptr b11 0), (3, ptr b12 0), (4, ptr b13 0), (112, .int .i64 v368)], [.obj b11 (.cells [.int .u8 ((x1 : Nat) : Int), .int .u8 ((x2 : Nat) : Int), .int .i64 x3, .int .i64 x4, .int .i64 x5] .own), .obj b12 (.cells [.int .i64 64, .slice a472 l471.length l471.length] .own), .sl a472 2 l471.length (l471.map (eP (eI .i64) (eI .i64))), .obj b13 (.cells [.int .i64 0, .slice none 0 0] .own)]⟩) ?_ (fun _ _ => rfl) (fun r d => by intro e; cases e) _ _ _ h488 a367
                        clear hF h488
                        rintro ⟨l450, v452⟩ a451 r hF
                        unfold L65_1 at hF
                        refine Wk.seq ?_
                        refine Wk.seq ?_
                        obtain ⟨v480, h482, hF⟩ := ob_some hF
                        refine Wk.cut (G := (fun (r : Bool) (g : Unit) => match r, g with | v480, _ => ⟨.normal, [(2, ptr b11 0), (3, ptr b12 0), (4, ptr b13 0), (7, .int .i64 v368), (8, .int .i64 v452), (112, .int .i64 v368), (132, .bool v480)], [.obj b11 (.cells [.int .u8 ((x1 : Nat) : Int), .int .u8 ((x2 : Nat) : Int), .int .i64 x3, .int .i64 x4, .int .i64 x5] .own), .obj b12 (.cells [.int .i64 64, .slice a451 l450.length l450.length] .own), .sl a451 2 l450.length (l450.map (eP (eI .i64) (eI .i64))), .obj b13 (.cells [.int .i64 0, .slice none 0 0] .own)]⟩) v480) ?_ ?_
                        · clear hF
                          revert v480
                          intro r hF
                          refine Wk.region ?_
                          refine Wo.od (o_mv rfl) rfl ?_
                          refine Wo.od (o_mv rfl) rfl ?_
                          refine Wo.od (o_bi rfl rfl (bin_add _ _ _)) rfl ?_
                          refine Wo.od (o_bu rfl rfl (bu_mi _ _)) rfl ?_
                          refine Wo.od (o_bi rfl rfl (bin_lss _ _ _)) rfl ?_
                          refine Wo.od (o_mv rfl) rfl ?_
                          rcases br_some hF with ⟨h481, hF⟩ | ⟨h481, hF⟩
                          · refine Wo.og (o_fa (r := ptr b12 1) rfl (fa25_1 _ _)) (gg rfl rfl (eTT h481)) rfl ?_
                            refine Wo.og (o_ld (k := 1) t23 rfl rfl rfl) (gg rfl rfl (eTT h481)) rfl ?_
                            refine Wo.og (o_ln (k := 2) u23 rfl rfl (.inl rfl)) (gg rfl rfl (eTT h481)) rfl ?_
                            refine Wo.og (o_fa (r := ptr b11 1) rfl (fa57_1 _ _)) (gg rfl rfl (eTT h481)) rfl ?_
                            refine Wo.og (o_ld (k := 0) t5 rfl rfl rfl) (gg rfl rfl (eTT h481)) rfl ?_
                            refine Wo.og (o_bi rfl rfl (ub_rem _ _ (by decide))) (gg rfl rfl (eTT h481)) rfl ?_
                            refine Wo.og (o_cv rfl (cv_i (by rw [u5]; rfl) u3)) (gg rfl rfl (eTT h481)) rfl ?_
                            refine Wo.og (o_bi rfl rfl (bin_add _ _ _)) (gg rfl rfl (eTT h481)) rfl ?_
                            refine Wo.og (o_bi rfl rfl (bin_lss _ _ _)) (gg rfl rfl (eTT h481)) rfl ?_
                            refine Wo.od (o_pt rfl h481 rfl) rfl ?_
                            refine Wo.nil ?_
                            cases hF
                            exact At.en () rfl (sc rfl (sc rfl (sc rfl (sc rfl (sc rfl (sc rfl (sc rfl sn))))))) (Turn.picks [0, 1, 2, 3] rfl rfl)
                          · refine Wo.s (gg rfl rfl (eFT h481)) rfl ?_
                            refine Wo.s (gg rfl rfl (eFT h481)) rfl ?_
                            refine Wo.s (gg rfl rfl (eFT h481)) rfl ?_
                            refine Wo.s (gg rfl rfl (eFT h481)) rfl ?_
                            refine Wo.s (gg rfl rfl (eFT h481)) rfl ?_
                            refine Wo.s (gg rfl rfl (eFT h481)) rfl ?_
                            refine Wo.s (gg rfl rfl (eFT h481)) rfl ?_
                            refine Wo.s (gg rfl rfl (eFT h481)) rfl ?_
                            refine Wo.s (gg rfl rfl (eFT h481)) rfl ?_
                            refine Wo.od (o_pf rfl h481 rfl) rfl ?_
                            refine Wo.nil ?_
                            cases hF
                            exact At.en () rfl (sc rfl (sc rfl (sc rfl (sc rfl (sc rfl (sc rfl (sc rfl sn))))))) (Turn.picks [0, 1, 2, 3] rfl rfl)
                        · clear h482
                          rintro ⟨⟩
                          refine At.tn ?_
                          rcases br_some hF with ⟨h484, hF⟩ | ⟨h484, hF⟩
                          · refine Wk.condT rfl h484 ?_
                            refine Wk.skip ?_
                            refine At.tn ?_
                            refine Wk.seq ?_
                            refine Wk.block ?_
                            refine Wk.region ?_
                            refine Wo.od (o_fa (r := ptr b12 1) rfl (fa25_1 _ _)) rfl ?_
                            refine Wo.od (o_ld (k := 1) t23 rfl rfl rfl) rfl ?_
                            refine Wo.od (o_mv rfl) rfl ?_
                            refine Wo.od (o_mv rfl) rfl ?_
                            refine Wo.od (o_bd rfl z26 rfl (bd_s bs26 rfl rfl rfl)) rfl ?_
                            refine Wo.x (o_bs (es := ([(v368, v452)] : List (Int × Int)).map (eP (eI .i64) (eI .i64))) s23 rfl (bs_c s23 z26 rfl rfl) rfl rfl) gn rfl fun b485 => ?_
                            obtain ⟨h486, hF⟩ := gd_some hF
                            refine Wo.x (o_apl (k := 3) (k2 := 0) (xs := (l450 : List (Int × Int))) (ys := ([(v368, v452)] : List (Int × Int))) (enP (enI .i64) (enI .i64)) s23 ⟨_, u23⟩ rfl rfl rfl (.arr _ _ _ _ _) h486) gn rfl fun a487 => ?_
                            refine Wo.od (o_fa (r := ptr b12 1) rfl (fa25_1 _ _)) rfl ?_
                            refine Wo.o0 (o_st (k := 2) t23 rfl rfl rfl rfl rfl) ?_
                            refine Wo.nil ?_
                            refine At.bn ?_
                            refine At.tn ?_
                            refine Wk.region ?_
                            refine Wo.od (o_mv rfl) rfl ?_
                            refine Wo.od (o_bi rfl rfl (bin_add _ _ _)) rfl ?_
                            refine Wo.od (o_as rfl) rfl ?_
                            refine Wo.nil ?_
                            cases hF
                            exact At.en a487 rfl (sc rfl (sc rfl (sc rfl (sc rfl (sc rfl (sc rfl sn)))))) (Turn.picks [1, 2, 3, 4] rfl rfl)
                          · refine Wk.condF rfl h484 ?_
                            refine Wk.exit ?_
                            refine At.te ?_
                            cases hF
                            exact At.en a451 rfl (sc rfl (sc rfl (sc rfl (sc rfl sn)))) (Turn.picks [0, 1, 2, 3] rfl rfl)
                      · clear h488
                        rintro a472
                        refine At.be ?_
                        refine At.bn ?_
                        refine At.tn ?_
                        refine Wk.region ?_
                        refine Wo.od (o_bi rfl rfl (bin_add _ _ _)) rfl ?_
                        refine Wo.od (o_mv rfl) rfl ?_
                        refine Wo.nil ?_
                        cases hF
                        exact At.en a472 rfl (sc rfl (sc rfl (sc rfl (sc rfl sn)))) (Turn.picks [0, 1, 2, 3] rfl rfl)
                    · refine Wk.condF rfl h432 ?_
                      refine Wk.exit ?_
                      refine At.te ?_
                      cases hF
                      exact At.en a367 rfl (sc rfl (sc rfl sn)) (Turn.picks [1, 2, 3] rfl rfl)
                  · clear h490
                    rintro a431
                    refine At.be ?_
                    refine At.bn ?_
                    cases hF
                    exact At.en a431 rfl (sc rfl (sc rfl sn)) (Turn.picks [0, 1, 2] rfl rfl)
                · refine Wk.condF rfl h305 ?_
                  refine Wk.skip ?_
                  refine At.bn ?_
                  cases hF
                  exact At.en a19 rfl (sc rfl (sc rfl sn)) (Turn.picks [3, 0, 2] rfl rfl)
  · clear h492
    obtain ⟨v256, l257, n259⟩ := r493
    rintro a258
    refine At.tn ?_
    refine Wk.seq ?_
    refine Wk.region ?_
    refine Wo.od (o_ld (k := 0) t25 rfl rfl rfl) rfl ?_
    refine Wo.o0 (o_st (k := 2) t25 rfl rfl rfl rfl rfl) ?_
    refine Wo.nil ?_
    refine At.tn ?_
    refine Wk.ret ?_
    cases hF
    exact At.ret (.cell (k := 2) t25 rfl rfl rfl .nil) fun m' hm => ⟨(a258, n259), rfl, (Turn.picks [1] rfl rfl) m' hm⟩

theorem f28_ok (n : Nat) (x1 : Nat) (x2 : Nat) (x3 : Nat) (l4 : List (Nat × Nat)) (x8 : Nat) (x9 : Nat) (x10 : Int) (x11 : Int) (x12 : Int) (x13 : Nat) (x14 : Nat) (x15 : Int) (x16 : Int) (x17 : Int) (a5 : Option Addr) (c6 : Nat) (r : Int × List (Int × Int) × Int × List (Int × Int) × Int × List (Int × Int)) (hF : F28 n x1 x2 x3 l4 x8 x9 x10 x11 x12 x13 x14 x15 x16 x17 = some r) (m : AMem) (h7 : Rd m a5 c6 2 l4.length (l4.map (eP (eN .u8) (eN .u8)))) :
    CallA E18w 28 [.agg #[.int .u8 ((x1 : Nat) : Int), .int .u8 ((x2 : Nat) : Int), .int .u16 ((x3 : Nat) : Int), .slice a5 l4.length c6], .agg #[.int .u8 ((x8 : Nat) : Int), .int .u8 ((x9 : Nat) : Int), .int .i64 x10, .int .i64 x11, .int .i64 x12, .int .u8 ((x13 : Nat) : Int), .int .u8 ((x14 : Nat) : Int), .int .i64 x15, .int .i64 x16, .int .i64 x17]] m (fun v m' => ∃ x : Option Addr × Nat × Option Addr × Nat × Option Addr × Nat, v = .agg #[.int .i64 r.1, .slice x.1 x.2.1 x.2.1, .int .i64 r.2.2.1, .slice x.2.2.1 x.2.2.2.1 x.2.2.2.1, .int .i64 r.2.2.2.2.1, .slice x.2.2.2.2.1 x.2.2.2.2.2 x.2.2.2.2.2] ∧ Hp m m' [.sl x.1 2 x.2.1 (r.2.1.map (eP (eI .i64) (eI .i64))), .sl x.2.2.1 2 x.2.2.2.1 (r.2.2.2.1.map (eP (eI .i64) (eI .i64))), .sl x.2.2.2.2.1 2 x.2.2.2.2.2 (r.2.2.2.2.2.map (eP (eI .i64) (eI .i64)))]) := by
  unfold F28 at hF
  refine call_wk (m0 := m) (ps := [.rd a5 c6 2 l4.length (l4.map (eP (eN .u8) (eN .u8)))]) (N := 20) (rs := [.cell 4 59]) rfl Tryd.func28 rfl rfl rfl ((Hp.start m).inn rfl h7) ?_
  refine Wk.seq ?_
  refine Wk.region ?_
  refine Wo.x (o_bx rfl) gn rfl fun b18 => ?_
  refine Wo.x (o_bx rfl) gn rfl fun b19 => ?_
  refine Wo.x (o_al z59 rfl) gn rfl fun b20 => ?_
  refine Wo.nil ?_
  refine At.tn ?_
  refine Wk.seq ?_
  refine Wk.region ?_
  refine Wo.od (o_ld (k := 2) t55 rfl rfl rfl) rfl ?_
  obtain ⟨⟨r22, l23⟩, h21, hF⟩ := ob_some hF
  refine Wo.x (o_cl rfl rfl (fun m hm => f40_ok n x1 x2 x3 l4 a5 c6 _ h21 m (hm.rd (k := 3) rfl (.rd _ _ _ _ _))) fun _ => rfl) gn rfl ?_
  rintro ⟨a24, n25⟩
  refine Wo.len (k := 0) (xs := l23) rfl ?_
  rintro rfl
  refine Wo.x (o_al z25 rfl) gn rfl fun b26 => ?_
  refine Wo.o0 (o_st (k := 0) t25 rfl rfl rfl rfl rfl) ?_
  refine Wo.nil ?_
  refine At.tn ?_
  refine Wk.seq ?_
  refine Wk.region ?_
  refine Wo.od (o_ia (r := ptr b19 0) rfl rfl (ia_c ar58 (i := 0) (by decide))) rfl ?_
  refine Wo.od (o_ld (k := 3) t57 rfl rfl rfl) rfl ?_
  refine Wo.od (o_ld (k := 0) t25 rfl rfl rfl) rfl ?_
  obtain ⟨⟨r28, l29⟩, h27, hF⟩ := ob_some hF
  refine Wo.x (o_cl rfl rfl (fun m hm => f65_ok n x8 x9 x10 x11 x12 r22 l23 a24 l23.length _ h27 m (hm.rd (k := 1) rfl (.sl _ _ _ _))) fun _ => rfl) gn rfl ?_
  rintro ⟨a30, n31⟩
  refine Wo.len (k := 0) (xs := l29) rfl ?_
  rintro rfl
  refine Wo.x (o_al z25 rfl) gn rfl fun b32 => ?_
  refine Wo.o0 (o_st (k := 0) t25 rfl rfl rfl rfl rfl) ?_
  refine Wo.nil ?_
  refine At.tn ?_
  refine Wk.seq ?_
  refine Wk.drawc (prs := [(0, 5), (1, 5)]) (by kernel_rfl) ?_
  refine Wn.od (o_ld (k := 2) t25 rfl rfl rfl) rfl ?_
  refine Wn.od (o_ld (k := 0) t25 rfl rfl rfl) rfl ?_
  refine Wn.od (o_ia (r := ptr b19 5) rfl rfl (ia_c ar58 (i := 1) (by decide))) rfl ?_
  refine Wn.od (o_ld (k := 5) t57 rfl rfl rfl) rfl ?_
  refine Wn.od (o_ld (k := 0) t25 rfl rfl rfl) rfl ?_
  obtain ⟨⟨r34, l35⟩, h33, hF⟩ := ob_some hF
  refine Wn.c (o_ce rfl rfl (fun m hm => f65_ok n x13 x14 x15 x16 x17 r28 l29 a30 l29.length _ h33 m (hm.rd (k := 1) rfl (.sl _ _ _ _))) fun _ => rfl) gn rfl ?_
  rintro ⟨a36, n37⟩
  refine Wn.len (k := 0) (xs := l35) rfl ?_
  rintro rfl
  refine Wn.od (o_bd rfl z59 rfl (bd_s bs59 rfl rfl rfl)) rfl ?_
  refine Wn.o0 (o_st (k := 5) t59 rfl rfl rfl rfl rfl) ?_
  refine Wn.nil (fun m hm => OkP.all rfl) ?_
  refine At.tn ?_
  refine Wk.ret ?_
  cases hF
  exact At.ret (.cell (k := 5) t59 rfl rfl rfl .nil) fun m' hm => ⟨(a24, l23.length, a30, l29.length, a36, l35.length), rfl, (Turn.picks [4, 2, 0] rfl rfl) m' hm⟩

theorem f29_ok (n : Nat) (x1 : Int) (l2 : List (Int × Int)) (x6 : Nat) (a3 : Option Addr) (c4 : Nat) (r : Nat × Nat) (hF : F29 n x1 l2 x6 = some r) (m : AMem) (h5 : Rd m a3 c4 2 l2.length (l2.map (eP (eI .i64) (eI .i64)))) :
    CallA E18w 29 [.agg #[.int .i64 x1, .slice a3 l2.length c4], .int .u64 ((x6 : Nat) : Int)] m (fun v m' => ∃ x : Unit, v = .agg #[.int .u64 ((r.1 : Nat) : Int), .int .u64 ((r.2 : Nat) : Int)] ∧ Hp m m' []) := by
  unfold F29 at hF
  refine call_wk (m0 := m) (ps := [.rd a3 c4 2 l2.length (l2.map (eP (eI .i64) (eI .i64)))]) (N := 24) (rs := [.cell 4 61]) rfl Tryd.func29 rfl rfl rfl ((Hp.start m).inn rfl h5) ?_
  refine Wk.seq ?_
  refine Wk.region ?_
  refine Wo.x (o_bx rfl) gn rfl fun b7 => ?_
  refine Wo.x (o_al z61 rfl) gn rfl fun b8 => ?_
  refine Wo.nil ?_
  refine At.tn ?_
  refine Wk.seq ?_
  refine Wk.seq ?_
  obtain ⟨v16, h18, hF⟩ := ob_some hF
  refine Wk.cut (G := (fun (r : Bool) (g : Unit) => match r, g with | v16, _ => ⟨.normal, [(1, .int .u64 ((x6 : Nat) : Int)), (2, ptr b7 0), (4, ptr b8 0), (12, .bool v16)], [.obj b7 (.cells [.int .i64 x1, .slice a3 l2.length c4] .own), .rd a3 c4 2 l2.length (l2.map (eP (eI .i64) (eI .i64))), .obj b8 (.cells [.int .u64 ((0 : Nat) : Int), .int .u64 ((0 : Nat) : Int)] .own)]⟩) v16) ?_ ?_
  · clear hF
    revert v16
    intro r hF
    refine Wk.region ?_
    refine Wo.od (o_fa (r := ptr b7 0) rfl (fa25_0 _ _)) rfl ?_
    refine Wo.od (o_ld (k := 1) t3 rfl rfl rfl) rfl ?_
    refine Wo.od (o_bi rfl rfl (bin_lss _ _ _)) rfl ?_
    refine Wo.od (o_mv rfl) rfl ?_
    rcases br_some hF with ⟨h17, hF⟩ | ⟨h17, hF⟩
    · refine Wo.s (gg rfl rfl (eTF h17)) rfl ?_
      refine Wo.s (gg rfl rfl (eTF h17)) rfl ?_
      refine Wo.s (gg rfl rfl (eTF h17)) rfl ?_
      refine Wo.od (o_pt rfl h17 rfl) rfl ?_
      refine Wo.nil ?_
      cases hF
      exact At.en () rfl (sc rfl (sc rfl (sc rfl (sc rfl sn)))) (Turn.picks [1, 2, 0] rfl rfl)
    · refine Wo.og (o_fa (r := ptr b7 0) rfl (fa25_0 _ _)) (gg rfl rfl (eFF h17)) rfl ?_
      refine Wo.og (o_ld (k := 1) t3 rfl rfl rfl) (gg rfl rfl (eFF h17)) rfl ?_
      refine Wo.og (o_bi rfl rfl (bin_gtr _ _ _)) (gg rfl rfl (eFF h17)) rfl ?_
      refine Wo.od (o_pf rfl h17 rfl) rfl ?_
      refine Wo.nil ?_
      cases hF
      exact At.en () rfl (sc rfl (sc rfl (sc rfl (sc rfl sn)))) (Turn.picks [1, 2, 0] rfl rfl)
  · clear h18
    rintro ⟨⟩
    refine At.tn ?_
    rcases br_some hF with ⟨h20, hF⟩ | ⟨h20, hF⟩
    · refine Wk.condT rfl h20 ?_
      refine Wk.seq ?_
      refine Wk.region ?_
      refine Wo.od (o_mv rfl) rfl ?_
      refine Wo.od (o_mv rfl) rfl ?_
      refine Wo.od (o_bd rfl z61 rfl (bd_s bs61 rfl rfl rfl)) rfl ?_
      refine Wo.o0 (o_st (k := 2) t61 rfl rfl rfl rfl rfl) ?_
      refine Wo.nil ?_
      refine At.tn ?_
      refine Wk.ret ?_
      refine At.tr ?_
      cases hF
      exact At.ret (.cell (k := 2) t61 rfl rfl rfl .nil) fun m' hm => ⟨(), rfl, (Turn.picks [] rfl rfl) m' hm⟩
    · refine Wk.condF rfl h20 ?_
      refine Wk.skip ?_
      refine At.tn ?_
      refine Wk.seq ?_
      refine Wk.region ?_
      refine Wo.od (o_mv rfl) rfl ?_
      refine Wo.od (o_mv rfl) rfl ?_
      refine Wo.od (o_fa (r := ptr b7 0) rfl (fa25_0 _ _)) rfl ?_
      refine Wo.od (o_ld (k := 0) t3 rfl rfl rfl) rfl ?_
      obtain ⟨h21, hF⟩ := gd_some hF
      refine Wo.od (o_bi rfl rfl (ub_shl rfl _ _ h21)) rfl ?_
      refine Wo.od (o_bi rfl rfl (ub_sub rfl _ _)) rfl ?_
      refine Wo.od (o_bi rfl rfl (ub_and rfl _ _)) rfl ?_
      refine Wo.od (o_bd rfl z61 rfl (bd_s bs61 rfl rfl rfl)) rfl ?_
      refine Wo.o0 (o_st (k := 2) t61 rfl rfl rfl rfl rfl) ?_
      refine Wo.nil ?_
      refine At.tn ?_
      refine Wk.ret ?_
      cases hF
      exact At.ret (.cell (k := 2) t61 rfl rfl rfl .nil) fun m' hm => ⟨(), rfl, (Turn.picks [] rfl rfl) m' hm⟩

theorem f94_ok (n : Nat) (x1 : Int)  (r : Bool) (hF : F94 n x1 = some r) (m : AMem)  :
    CallA E18w 94 [.int .i64 x1] m (fun v m' => ∃ x : Unit, v = .bool r ∧ Hp m m' []) := by
  unfold F94 at hF
  refine call_wk (m0 := m) (ps := []) (N := 6) (rs := [.tmp 2]) rfl Tryd.func94 rfl rfl rfl (Hp.start m) ?_
  refine Wk.seq ?_
  refine Wk.region ?_
  refine Wo.od (o_as rfl) rfl ?_
  refine Wo.nil ?_
  refine At.tn ?_
  refine Wk.seq ?_
  refine Wk.region ?_
  refine Wo.od (o_mv rfl) rfl ?_
  refine Wo.od (o_mv rfl) rfl ?_
  refine Wo.od (o_bi rfl rfl (ib_neq _ _)) rfl ?_
  refine Wo.od (o_as rfl) rfl ?_
  refine Wo.nil ?_
  refine At.tn ?_
  refine Wk.ret ?_
  cases hF
  exact At.ret (.tmp rfl .nil) fun m' hm => ⟨(), rfl, (Turn.picks [] rfl rfl) m' hm⟩

theorem f81_ok (n : Nat) (x1 : Int) (x2 : Int)  (r : Int) (hF : F81 n x1 x2 = some r) (m : AMem)  :
    CallA E18w 81 [.int .i64 x1, .int .i64 x2] m (fun v m' => ∃ x : Unit, v = .int .i64 r ∧ Hp m m' []) := by
  unfold F81 at hF
  refine call_wk (m0 := m) (ps := []) (N := 20) (rs := [.tmp 4]) rfl Tryd.func81 rfl rfl rfl (Hp.start m) ?_
  refine Wk.seq ?_
  refine Wk.region ?_
  refine Wo.od (o_as rfl) rfl ?_
  refine Wo.nil ?_
  refine At.tn ?_
  refine Wk.seq ?_
  refine Wk.region ?_
  refine Wo.od (o_mv rfl) rfl ?_
  obtain ⟨r4, h3, hF⟩ := ob_some hF
  refine Wo.x (o_cl rfl rfl (fun m hm => f94_ok n x1  _ h3 m ) fun _ => rfl) gn rfl ?_
  rintro ⟨⟩
  refine Wo.od (o_as rfl) rfl ?_
  refine Wo.nil ?_
  refine At.tn ?_
  refine Wk.seq ?_
  refine Wk.region ?_
  refine Wo.od (o_mv rfl) rfl ?_
  obtain ⟨r6, h5, hF⟩ := ob_some hF
  refine Wo.x (o_cl rfl rfl (fun m hm => f94_ok n x2  _ h5 m ) fun _ => rfl) gn rfl ?_
  rintro ⟨⟩
  refine Wo.od (o_as rfl) rfl ?_
  refine Wo.nil ?_
  refine At.tn ?_
  refine Wk.seq ?_
  refine Wk.seq ?_
  refine Wk.region ?_
  refine Wo.od (o_mv rfl) rfl ?_
  refine Wo.nil ?_
  refine At.tn ?_
  rcases br_some hF with ⟨h7, hF⟩ | ⟨h7, hF⟩
  · refine Wk.condT rfl h7 ?_
    refine Wk.seq ?_
    refine Wk.seq ?_
    refine Wk.region ?_
    refine Wo.od (o_mv rfl) rfl ?_
    refine Wo.nil ?_
    refine At.tn ?_
    rcases br_some hF with ⟨h8, hF⟩ | ⟨h8, hF⟩
    · refine Wk.condT rfl h8 ?_
      refine Wk.seq ?_
      refine Wk.region ?_
      refine Wo.od (o_as rfl) rfl ?_
      refine Wo.nil ?_
      refine At.tn ?_
      refine Wk.ret ?_
      refine At.tr ?_
      refine At.tr ?_
      cases hF
      exact At.ret (.tmp rfl .nil) fun m' hm => ⟨(), rfl, (Turn.picks [] rfl rfl) m' hm⟩
    · refine Wk.condF rfl h8 ?_
      refine Wk.skip ?_
      refine At.tn ?_
      refine Wk.seq ?_
      refine Wk.region ?_
      refine Wo.od (o_as rfl) rfl ?_
      refine Wo.nil ?_
      refine At.tn ?_
      refine Wk.ret ?_
      refine At.tr ?_
      cases hF
      exact At.ret (.tmp rfl .nil) fun m' hm => ⟨(), rfl, (Turn.picks [] rfl rfl) m' hm⟩
  · refine Wk.condF rfl h7 ?_
    refine Wk.skip ?_
    refine At.tn ?_
    refine Wk.seq ?_
    refine Wk.seq ?_
    refine Wk.region ?_
    refine Wo.od (o_mv rfl) rfl ?_
    refine Wo.nil ?_
    refine At.tn ?_
    rcases br_some hF with ⟨h9, hF⟩ | ⟨h9, hF⟩
    · refine Wk.condT rfl h9 ?_
      refine Wk.seq ?_
      refine Wk.region ?_
      refine Wo.od (o_as rfl) rfl ?_
      refine Wo.nil ?_
      refine At.tn ?_
      refine Wk.ret ?_
      refine At.tr ?_
      cases hF
      exact At.ret (.tmp rfl .nil) fun m' hm => ⟨(), rfl, (Turn.picks [] rfl rfl) m' hm⟩
    · refine Wk.condF rfl h9 ?_
      refine Wk.skip ?_
      refine At.tn ?_
      refine Wk.seq ?_
      refine Wk.seq ?_
      refine Wk.region ?_
      refine Wo.od (o_mv rfl) rfl ?_
      refine Wo.od (o_mv rfl) rfl ?_
      refine Wo.od (o_bi rfl rfl (bin_lss _ _ _)) rfl ?_
      refine Wo.nil ?_
      refine At.tn ?_
      rcases br_some hF with ⟨h10, hF⟩ | ⟨h10, hF⟩
      · refine Wk.condT rfl h10 ?_
        refine Wk.seq ?_
        refine Wk.region ?_
        refine Wo.od (o_as rfl) rfl ?_
        refine Wo.nil ?_
        refine At.tn ?_
        refine Wk.ret ?_
        refine At.tr ?_
        cases hF
        exact At.ret (.tmp rfl .nil) fun m' hm => ⟨(), rfl, (Turn.picks [] rfl rfl) m' hm⟩
      · refine Wk.condF rfl h10 ?_
        refine Wk.skip ?_
        refine At.tn ?_
        refine Wk.seq ?_
        refine Wk.seq ?_
        refine Wk.region ?_
        refine Wo.od (o_mv rfl) rfl ?_
        refine Wo.od (o_mv rfl) rfl ?_
        refine Wo.od (o_bi rfl rfl (bin_gtr _ _ _)) rfl ?_
        refine Wo.nil ?_
        refine At.tn ?_
        rcases br_some hF with ⟨h11, hF⟩ | ⟨h11, hF⟩
        · refine Wk.condT rfl h11 ?_
          refine Wk.seq ?_
          refine Wk.region ?_
          refine Wo.od (o_as rfl) rfl ?_
          refine Wo.nil ?_
          refine At.tn ?_
          refine Wk.ret ?_
          refine At.tr ?_
          cases hF
          exact At.ret (.tmp rfl .nil) fun m' hm => ⟨(), rfl, (Turn.picks [] rfl rfl) m' hm⟩
        · refine Wk.condF rfl h11 ?_
          refine Wk.skip ?_
          refine At.tn ?_
          refine Wk.seq ?_
          refine Wk.region ?_
          refine Wo.od (o_as rfl) rfl ?_
          refine Wo.nil ?_
          refine At.tn ?_
          refine Wk.ret ?_
          cases hF
          exact At.ret (.tmp rfl .nil) fun m' hm => ⟨(), rfl, (Turn.picks [] rfl rfl) m' hm⟩

theorem f64_ok (n : Nat) (l1 : List (Int)) (l5 : List (Int)) (a2 : Option Addr) (c3 : Nat) (a6 : Option Addr) (c7 : Nat) (r : Int) (hF : F64 n l1 l5 = some r) (m : AMem) (h4 : Rd m a2 c3 1 l1.length (l1.map (eI .i64))) (h8 : Rd m a6 c7 1 l5.length (l5.map (eI .i64))) :
    CallA E18w 64 [.slice a2 l1.length c3, .slice a6 l5.length c7] m (fun v m' => ∃ x : Unit, v = .int .i64 r ∧ Hp m m' []) := by
  unfold F64 at hF
  refine call_wk (m0 := m) (ps := [.rd a6 c7 1 l5.length (l5.map (eI .i64)), .rd a2 c3 1 l1.length (l1.map (eI .i64))]) (N := 36) (rs := [.tmp 4]) rfl Tryd.func64 rfl rfl rfl (((Hp.start m).inn rfl h4).inn rfl h8) ?_
  refine Wk.seq ?_
  refine Wk.region ?_
  refine Wo.od (o_as rfl) rfl ?_
  refine Wo.nil ?_
  refine At.tn ?_
  refine Wk.seq ?_
  refine Wk.seq ?_
  refine Wk.region ?_
  refine Wo.od (o_mv rfl) rfl ?_
  refine Wo.od (o_ln (k := 1) u39 rfl rfl (.inl rfl)) rfl ?_
  refine Wo.od (o_mv rfl) rfl ?_
  refine Wo.nil ?_
  refine At.tn ?_
  refine Wk.block ?_
  obtain ⟨r44, h43, hF⟩ := ob_some hF
  refine Wk.cut (G := (fun (r : (Int) ⊕ (Unit)) (g : Unit) => match r, g with | .inl v27, _ => ⟨.ret, [(4, .int .i64 v27)], []⟩ | .inr _, _ => ⟨(.exit 0), [(0, .slice a2 l1.length c3), (1, .slice a6 l5.length c7)], [.rd a2 c3 1 l1.length (l1.map (eI .i64)), .rd a6 c7 1 l5.length (l5.map (eI .i64))]⟩) r44) ?_ ?_
  · refine Wk.weak (fs' := [(0, .slice a2 l1.length c3), (1, .slice a6 l5.length c7), (9, .slice a2 l1.length c3), (10, .int .i64 (l1.length : Int)), (11, .int .i64 0)]) (ps' := [.rd a2 c3 1 l1.length (l1.map (eI .i64)), .rd a6 c7 1 l5.length (l5.map (eI .i64))]) (sc rfl (sc rfl (sc rfl (sc rfl (sc rfl sn))))) (Turn.picks [1, 0] rfl rfl) ?_
    refine Wk.loop (σ := Int) (ρ := (Int) ⊕ (Unit)) (γ := Unit) (δ := fun _ => Unit) _ (fun (s : Int) (g : Unit) => match s, g with | v10, _ => ⟨.normal, [(0, .slice a2 l1.length c3), (1, .slice a6 l5.length c7), (9, .slice a2 l1.length c3), (10, .int .i64 (l1.length : Int)), (11, .int .i64 v10)], [.rd a2 c3 1 l1.length (l1.map (eI .i64)), .rd a6 c7 1 l5.length (l5.map (eI .i64))]⟩) (fun (r : (Int) ⊕ (Unit)) (g : Unit) => match r, g with | .inl v27, _ => ⟨.ret, [(4, .int .i64 v27)], []⟩ | .inr _, _ => ⟨(.exit 0), [(0, .slice a2 l1.length c3), (1, .slice a6 l5.length c7)], [.rd a2 c3 1 l1.length (l1.map (eI .i64)), .rd a6 c7 1 l5.length (l5.map (eI .i64))]⟩) ?_ (fun _ _ => rfl) (fun r d => by rcases r with _ | _ <;> (intro e; cases e)) _ _ _ h43 ()
    clear hF h43
    rintro v10 ⟨⟩ r hF
    unfold L64_1 at hF
    refine Wk.seq ?_
    refine Wk.region ?_
    refine Wo.od (o_bi rfl rfl (bin_lss _ _ _)) rfl ?_
    refine Wo.nil ?_
    refine At.tn ?_
    refine Wk.seq ?_
    rcases br_some hF with ⟨h28, hF⟩ | ⟨h28, hF⟩
    · refine Wk.condT rfl h28 ?_
      refine Wk.skip ?_
      refine At.tn ?_
      refine Wk.seq ?_
      refine Wk.block ?_
      refine Wk.seq ?_
      refine Wk.region ?_
      refine Wo.od (o_mv rfl) rfl ?_
      obtain ⟨h29, hF⟩ := gd_some hF
      replace h29 := inB_some h29
      refine Wo.openr (k := 0) rfl (pos_of h29) ?_
      rintro b30 o31 rfl
      refine Wo.og (o_ixs s39 rfl rfl h29) gn rfl ?_
      obtain ⟨x32, h33, hF⟩ := ob_some hF
      refine Wo.od (o_ldr (k := 0) t3 rfl rfl (map_at h33) rfl rfl) rfl ?_
      refine Wo.od (o_as rfl) rfl ?_
      refine Wo.od (o_as rfl) rfl ?_
      refine Wo.nil ?_
      refine At.tn ?_
      refine Wk.seq ?_
      refine Wk.seq ?_
      refine Wk.region ?_
      refine Wo.od (o_mv rfl) rfl ?_
      refine Wo.od (o_mv rfl) rfl ?_
      refine Wo.od (o_ln (k := 2) u39 rfl rfl (.inl rfl)) rfl ?_
      refine Wo.od (o_bi rfl rfl (bin_geq _ _ _)) rfl ?_
      refine Wo.nil ?_
      refine At.tn ?_
      rcases br_some hF with ⟨h34, hF⟩ | ⟨h34, hF⟩
      · refine Wk.condT rfl h34 ?_
        refine Wk.seq ?_
        refine Wk.region ?_
        refine Wo.od (o_as rfl) rfl ?_
        refine Wo.nil ?_
        refine At.tn ?_
        refine Wk.ret ?_
        refine At.tr ?_
        refine At.br ?_
        refine At.tr ?_
        cases hF
        exact At.en () rfl (sc rfl sn) (Turn.picks [] rfl rfl)
      · refine Wk.condF rfl h34 ?_
        refine Wk.skip ?_
        refine At.tn ?_
        refine Wk.seq ?_
        refine Wk.region ?_
        refine Wo.od (o_mv rfl) rfl ?_
        refine Wo.od (o_mv rfl) rfl ?_
        obtain ⟨h35, hF⟩ := gd_some hF
        replace h35 := inB_some h35
        refine Wo.openr (k := 2) rfl (pos_of h35) ?_
        rintro b36 o37 rfl
        refine Wo.og (o_ixs s39 rfl rfl h35) gn rfl ?_
        obtain ⟨x38, h39, hF⟩ := ob_some hF
        refine Wo.od (o_ldr (k := 0) t3 rfl rfl (map_at h39) rfl rfl) rfl ?_
        refine Wo.od (o_as rfl) rfl ?_
        refine Wo.nil ?_
        refine At.tn ?_
        refine Wk.seq ?_
        refine Wk.region ?_
        refine Wo.od (o_mv rfl) rfl ?_
        refine Wo.od (o_mv rfl) rfl ?_
        obtain ⟨r41, h40, hF⟩ := ob_some hF
        refine Wo.x (o_cl rfl rfl (fun m hm => f81_ok n x32 x38  _ h40 m ) fun _ => rfl) gn rfl ?_
        rintro ⟨⟩
        refine Wo.od (o_as rfl) rfl ?_
        refine Wo.nil ?_
        refine At.tn ?_
        refine Wk.seq ?_
        refine Wk.region ?_
        refine Wo.od (o_mv rfl) rfl ?_
        refine Wo.od (o_bi rfl rfl (ib_neq _ _)) rfl ?_
        refine Wo.nil ?_
        refine At.tn ?_
        rcases br_some hF with ⟨h42, hF⟩ | ⟨h42, hF⟩
        · refine Wk.condT rfl h42 ?_
          refine Wk.seq ?_
          refine Wk.region ?_
          refine Wo.od (o_mv rfl) rfl ?_
          refine Wo.od (o_as rfl) rfl ?_
          refine Wo.nil ?_
          refine At.tn ?_
          refine Wk.ret ?_
          refine At.br ?_
          refine At.tr ?_
          cases hF
          exact At.en () rfl (sc rfl sn) (Turn.picks [] rfl rfl)
        · refine Wk.condF rfl h42 ?_
          refine Wk.skip ?_
          refine At.bn ?_
          refine At.tn ?_
          refine Wk.region ?_
          refine Wo.od (o_bi rfl rfl (bin_add _ _ _)) rfl ?_
          refine Wo.od (o_mv rfl) rfl ?_
          refine Wo.nil ?_
          cases hF
          exact At.en () rfl (sc rfl (sc rfl (sc rfl (sc rfl (sc rfl sn))))) (Turn.picks [2, 3] rfl rfl)
    · refine Wk.condF rfl h28 ?_
      refine Wk.exit ?_
      refine At.te ?_
      cases hF
      exact At.en () rfl (sc rfl (sc rfl sn)) (Turn.picks [0, 1] rfl rfl)
  · clear h43
    rcases r44 with v27 | _
    · rintro ⟨⟩
      refine At.br ?_
      refine At.tr ?_
      have hr := Option.some.inj hF
      subst r
      exact At.ret (.tmp rfl .nil) fun m' hm => ⟨(), rfl, (Turn.picks [] rfl rfl) m' hm⟩
    · rintro ⟨⟩
      refine At.be ?_
      refine At.tn ?_
      refine Wk.seq ?_
      refine Wk.seq ?_
      refine Wk.region ?_
      refine Wo.od (o_mv rfl) rfl ?_
      refine Wo.od (o_ln (k := 0) u39 rfl rfl (.inl rfl)) rfl ?_
      refine Wo.od (o_mv rfl) rfl ?_
      refine Wo.od (o_ln (k := 1) u39 rfl rfl (.inl rfl)) rfl ?_
      refine Wo.od (o_bi rfl rfl (bin_lss _ _ _)) rfl ?_
      refine Wo.nil ?_
      refine At.tn ?_
      rcases br_some hF with ⟨h45, hF⟩ | ⟨h45, hF⟩
      · refine Wk.condT rfl h45 ?_
        refine Wk.seq ?_
        refine Wk.region ?_
        refine Wo.od (o_as rfl) rfl ?_
        refine Wo.nil ?_
        refine At.tn ?_
        refine Wk.ret ?_
        refine At.tr ?_
        cases hF
        exact At.ret (.tmp rfl .nil) fun m' hm => ⟨(), rfl, (Turn.picks [] rfl rfl) m' hm⟩
      · refine Wk.condF rfl h45 ?_
        refine Wk.skip ?_
        refine At.tn ?_
        refine Wk.seq ?_
        refine Wk.region ?_
        refine Wo.od (o_as rfl) rfl ?_
        refine Wo.nil ?_
        refine At.tn ?_
        refine Wk.ret ?_
        cases hF
        exact At.ret (.tmp rfl .nil) fun m' hm => ⟨(), rfl, (Turn.picks [] rfl rfl) m' hm⟩

theorem f23_ok (n : Nat) (x1 : Int) (l2 : List (Int × Int)) (a3 : Option Addr) (c4 : Nat) (r : Int) (hF : F23 n x1 l2 = some r) (m : AMem) (h5 : Rd m a3 c4 2 l2.length (l2.map (eP (eI .i64) (eI .i64)))) :
    CallA E18w 23 [.agg #[.int .i64 x1, .slice a3 l2.length c4]] m (fun v m' => ∃ x : Unit, v = .int .i64 r ∧ Hp m m' []) := by
  unfold F23 at hF
  refine call_wk (m0 := m) (ps := [.rd a3 c4 2 l2.length (l2.map (eP (eI .i64) (eI .i64)))]) (N := 53) (rs := [.tmp 2]) rfl Tryd.func23 rfl rfl rfl ((Hp.start m).inn rfl h5) ?_
  refine Wk.seq ?_
  refine Wk.region ?_
  refine Wo.x (o_bx rfl) gn rfl fun b6 => ?_
  refine Wo.od (o_as rfl) rfl ?_
  refine Wo.nil ?_
  refine At.tn ?_
  refine Wk.seq ?_
  refine Wk.seq ?_
  obtain ⟨v17, h20, hF⟩ := ob_some hF
  refine Wk.cut (G := (fun (r : Bool) (g : Unit) => match r, g with | v17, _ => ⟨.normal, [(1, ptr b6 0), (19, .bool v17)], [.obj b6 (.cells [.int .i64 x1, .slice a3 l2.length c4] .own), .rd a3 c4 2 l2.length (l2.map (eP (eI .i64) (eI .i64)))]⟩) v17) ?_ ?_
  · clear hF
    revert v17
    intro r hF
    refine Wk.region ?_
    refine Wo.od (o_fa (r := ptr b6 0) rfl (fa25_0 _ _)) rfl ?_
    refine Wo.od (o_ld (k := 0) t3 rfl rfl rfl) rfl ?_
    refine Wo.od (o_bi rfl rfl (bin_lss _ _ _)) rfl ?_
    refine Wo.od (o_mv rfl) rfl ?_
    rcases br_some hF with ⟨h18, hF⟩ | ⟨h18, hF⟩
    · refine Wo.s (gg rfl rfl (eTF h18)) rfl ?_
      refine Wo.s (gg rfl rfl (eTF h18)) rfl ?_
      refine Wo.s (gg rfl rfl (eTF h18)) rfl ?_
      refine Wo.od (o_pt rfl h18 rfl) rfl ?_
      refine Wo.od (o_mv rfl) rfl ?_
      refine Wo.s (gg rfl rfl rfl) rfl ?_
      refine Wo.s (gg rfl rfl rfl) rfl ?_
      refine Wo.s (gg rfl rfl rfl) rfl ?_
      refine Wo.s (gg rfl rfl rfl) rfl ?_
      refine Wo.od (o_pT rfl rfl) rfl ?_
      refine Wo.nil ?_
      cases hF
      exact At.en () rfl (sc rfl (sc rfl sn)) (Turn.picks [0, 1] rfl rfl)
    · refine Wo.og (o_fa (r := ptr b6 0) rfl (fa25_0 _ _)) (gg rfl rfl (eFF h18)) rfl ?_
      refine Wo.og (o_ld (k := 0) t3 rfl rfl rfl) (gg rfl rfl (eFF h18)) rfl ?_
      refine Wo.og (o_bi rfl rfl (bin_gtr _ _ _)) (gg rfl rfl (eFF h18)) rfl ?_
      refine Wo.od (o_pf rfl h18 rfl) rfl ?_
      refine Wo.od (o_mv rfl) rfl ?_
      rcases br_some hF with ⟨h19, hF⟩ | ⟨h19, hF⟩
      · refine Wo.s (gg rfl rfl (eTF h19)) rfl ?_
        refine Wo.s (gg rfl rfl (eTF h19)) rfl ?_
        refine Wo.s (gg rfl rfl (eTF h19)) rfl ?_
        refine Wo.s (gg rfl rfl (eTF h19)) rfl ?_
        refine Wo.od (o_pt rfl h19 rfl) rfl ?_
        refine Wo.nil ?_
        cases hF
        exact At.en () rfl (sc rfl (sc rfl sn)) (Turn.picks [0, 1] rfl rfl)
      · refine Wo.og (o_fa (r := ptr b6 1) rfl (fa25_1 _ _)) (gg rfl rfl (eFF h19)) rfl ?_
        refine Wo.og (o_ld (k := 0) t23 rfl rfl rfl) (gg rfl rfl (eFF h19)) rfl ?_
        refine Wo.og (o_ln (k := 1) u23 rfl rfl (.inl rfl)) (gg rfl rfl (eFF h19)) rfl ?_
        refine Wo.og (o_bi rfl rfl (bin_gtr _ _ _)) (gg rfl rfl (eFF h19)) rfl ?_
        refine Wo.od (o_pf rfl h19 rfl) rfl ?_
        refine Wo.nil ?_
        cases hF
        exact At.en () rfl (sc rfl (sc rfl sn)) (Turn.picks [0, 1] rfl rfl)
  · clear h20
    rintro ⟨⟩
    refine At.tn ?_
    rcases br_some hF with ⟨h22, hF⟩ | ⟨h22, hF⟩
    · refine Wk.condT rfl h22 ?_
      refine Wk.seq ?_
      refine Wk.region ?_
      refine Wo.od (o_as rfl) rfl ?_
      refine Wo.nil ?_
      refine At.tn ?_
      refine Wk.ret ?_
      refine At.tr ?_
      cases hF
      exact At.ret (.tmp rfl .nil) fun m' hm => ⟨(), rfl, (Turn.picks [] rfl rfl) m' hm⟩
    · refine Wk.condF rfl h22 ?_
      refine Wk.skip ?_
      refine At.tn ?_
      refine Wk.seq ?_
      refine Wk.region ?_
      refine Wo.od (o_bd rfl z26 rfl (bd_s bs26 rfl rfl rfl)) rfl ?_
      refine Wo.x (o_al z26 rfl) gn rfl fun b23 => ?_
      refine Wo.o0 (o_st (k := 0) t26 rfl rfl rfl rfl rfl) ?_
      refine Wo.nil ?_
      refine At.tn ?_
      refine Wk.seq ?_
      refine Wk.seq ?_
      refine Wk.region ?_
      refine Wo.od (o_fa (r := ptr b6 1) rfl (fa25_1 _ _)) rfl ?_
      refine Wo.od (o_ld (k := 1) t23 rfl rfl rfl) rfl ?_
      refine Wo.od (o_ln (k := 2) u23 rfl rfl (.inl rfl)) rfl ?_
      refine Wo.od (o_mv rfl) rfl ?_
      refine Wo.nil ?_
      refine At.tn ?_
      refine Wk.block ?_
      obtain ⟨r246, h245, hF⟩ := ob_some hF
      refine Wk.cut (G := (fun (r : (Unit) ⊕ (Unit)) (g : Unit) => match r, g with | .inl _, _ => ⟨.ret, [(2, .int .i64 180)], []⟩ | .inr _, _ => ⟨(.exit 0), [], []⟩) r246) ?_ ?_
      · refine Wk.weak (fs' := [(1, ptr b6 0), (3, ptr b23 0), (22, .slice a3 l2.length c4), (23, .int .i64 (l2.length : Int)), (24, .int .i64 0)]) (ps' := [.obj b6 (.cells [.int .i64 x1, .slice a3 l2.length c4] .own), .rd a3 c4 2 l2.length (l2.map (eP (eI .i64) (eI .i64))), .obj b23 (.cells [.int .i64 (-1), .int .i64 (-1)] .own)]) (sc rfl (sc rfl (sc rfl (sc rfl (sc rfl sn))))) (Turn.picks [1, 2, 0] rfl rfl) ?_
        refine Wk.loop (σ := Int × Int × Int) (ρ := (Unit) ⊕ (Unit)) (γ := Unit) (δ := fun _ => Unit) _ (fun (s : Int × Int × Int) (g : Unit) => match s, g with | (v97, v98, v99), _ => ⟨.normal, [(1, ptr b6 0), (3, ptr b23 0), (22, .slice a3 l2.length c4), (23, .int .i64 (l2.length : Int)), (24, .int .i64 v99)], [.obj b6 (.cells [.int .i64 x1, .slice a3 l2.length c4] .own), .rd a3 c4 2 l2.length (l2.map (eP (eI .i64) (eI .i64))), .obj b23 (.cells [.int .i64 v97, .int .i64 v98] .own)]⟩) (fun (r : (Unit) ⊕ (Unit)) (g : Unit) => match r, g with | .inl _, _ => ⟨.ret, [(2, .int .i64 180)], []⟩ | .inr _, _ => ⟨(.exit 0), [], []⟩) ?_ (fun _ _ => rfl) (fun r d => by rcases r with _ | _ <;> (intro e; cases e)) _ _ _ h245 ()
        clear hF h245
        rintro ⟨v97, v98, v99⟩ ⟨⟩ r hF
        unfold L23_1 at hF
        refine Wk.seq ?_
        refine Wk.region ?_
        refine Wo.od (o_bi rfl rfl (bin_lss _ _ _)) rfl ?_
        refine Wo.nil ?_
        refine At.tn ?_
        refine Wk.seq ?_
        rcases br_some hF with ⟨h174, hF⟩ | ⟨h174, hF⟩
        · refine Wk.condT rfl h174 ?_
          refine Wk.skip ?_
          refine At.tn ?_
          refine Wk.seq ?_
          refine Wk.block ?_
          refine Wk.seq ?_
          refine Wk.region ?_
          obtain ⟨h210, hF⟩ := gd_some hF
          replace h210 := inB_some h210
          refine Wo.openr (k := 1) rfl (pos_of h210) ?_
          rintro b211 o212 rfl
          refine Wo.og (o_ixs s23 rfl rfl h210) gn rfl ?_
          obtain ⟨⟨x213, x214⟩, h215, hF⟩ := ob_some hF
          refine Wo.od (o_ldr (k := 0) t26 rfl rfl (map_at h215) rfl rfl) rfl ?_
          refine Wo.x (o_al z26 rfl) gn rfl fun b216 => ?_
          refine Wo.o0 (o_st (k := 0) t26 rfl rfl rfl rfl rfl) ?_
          refine Wo.nil ?_
          refine At.tn ?_
          refine Wk.seq ?_
          refine Wk.seq ?_
          obtain ⟨v236, h242, hF⟩ := ob_some hF
          refine Wk.cut (G := (fun (r : Bool) (g : Unit) => match r, g with | v236, _ => ⟨.normal, [(1, ptr b6 0), (3, ptr b23 0), (5, ptr b216 0), (22, .slice (some ⟨b211, o212, none⟩) l2.length c4), (23, .int .i64 (l2.length : Int)), (24, .int .i64 v99), (50, .bool v236)], [.obj b6 (.cells [.int .i64 x1, .slice (some ⟨b211, o212, none⟩) l2.length c4] .own), .ro b211 o212 2 l2.length (l2.map (eP (eI .i64) (eI .i64))), .rd (some ⟨b211, o212, none⟩) c4 2 l2.length (l2.map (eP (eI .i64) (eI .i64))), .obj b23 (.cells [.int .i64 v97, .int .i64 v98] .own), .obj b216 (.cells [.int .i64 x213, .int .i64 x214] .own)]⟩) v236) ?_ ?_
          · clear hF
            revert v236
            intro r hF
            refine Wk.draw (by kernel_rfl) ?_
            refine Wo.od (o_ia (r := ptr b216 0) rfl rfl (ia_c ar26 (i := 0) (by decide))) rfl ?_
            refine Wo.od (o_ld (k := 0) t3 rfl rfl rfl) rfl ?_
            refine Wo.od (o_bi rfl rfl (bin_lss _ _ _)) rfl ?_
            refine Wo.od (o_mv rfl) rfl ?_
            rcases br_some hF with ⟨h237, hF⟩ | ⟨h237, hF⟩
            · refine Wo.s (gg rfl rfl (eTF h237)) rfl ?_
              refine Wo.s (gg rfl rfl (eTF h237)) rfl ?_
              refine Wo.s (gg rfl rfl (eTF h237)) rfl ?_
              refine Wo.s (gg rfl rfl (eTF h237)) rfl ?_
              refine Wo.s (gg rfl rfl (eTF h237)) rfl ?_
              refine Wo.od (o_pt rfl h237 rfl) rfl ?_
              refine Wo.od (o_mv rfl) rfl ?_
              refine Wo.s (gg rfl rfl rfl) rfl ?_
              refine Wo.s (gg rfl rfl rfl) rfl ?_
              refine Wo.s (gg rfl rfl rfl) rfl ?_
              refine Wo.s (gg rfl rfl rfl) rfl ?_
              refine Wo.s (gg rfl rfl rfl) rfl ?_
              refine Wo.od (o_pT rfl rfl) rfl ?_
              refine Wo.od (o_mv rfl) rfl ?_
              refine Wo.s (gg rfl rfl rfl) rfl ?_
              refine Wo.s (gg rfl rfl rfl) rfl ?_
              refine Wo.s (gg rfl rfl rfl) rfl ?_
              refine Wo.s (gg rfl rfl rfl) rfl ?_
              refine Wo.od (o_pT rfl rfl) rfl ?_
              refine Wo.nil ?_
              cases hF
              exact At.en () rfl (sc rfl (sc rfl (sc rfl (sc rfl (sc rfl (sc rfl (sc rfl sn))))))) (Turn.picks [2, 1, 3, 4, 0] rfl rfl)
            · refine Wo.og (o_ia (r := ptr b216 0) rfl rfl (ia_c ar26 (i := 0) (by decide))) (gg rfl rfl (eFF h237)) rfl ?_
              refine Wo.og (o_ld (k := 0) t3 rfl rfl rfl) (gg rfl rfl (eFF h237)) rfl ?_
              refine Wo.og (o_ia (r := ptr b216 1) rfl rfl (ia_c ar26 (i := 1) (by decide))) (gg rfl rfl (eFF h237)) rfl ?_
              refine Wo.og (o_ld (k := 0) t3 rfl rfl rfl) (gg rfl rfl (eFF h237)) rfl ?_
              refine Wo.og (o_bi rfl rfl (bin_geq _ _ _)) (gg rfl rfl (eFF h237)) rfl ?_
              refine Wo.od (o_pf rfl h237 rfl) rfl ?_
              refine Wo.od (o_mv rfl) rfl ?_
              rcases br_some hF with ⟨h238, hF⟩ | ⟨h238, hF⟩
              · refine Wo.s (gg rfl rfl (eTF h238)) rfl ?_
                refine Wo.s (gg rfl rfl (eTF h238)) rfl ?_
                refine Wo.s (gg rfl rfl (eTF h238)) rfl ?_
                refine Wo.s (gg rfl rfl (eTF h238)) rfl ?_
                refine Wo.s (gg rfl rfl (eTF h238)) rfl ?_
                refine Wo.od (o_pt rfl h238 rfl) rfl ?_
                refine Wo.od (o_mv rfl) rfl ?_
                refine Wo.s (gg rfl rfl rfl) rfl ?_
                refine Wo.s (gg rfl rfl rfl) rfl ?_
                refine Wo.s (gg rfl rfl rfl) rfl ?_
                refine Wo.s (gg rfl rfl rfl) rfl ?_
                refine Wo.od (o_pT rfl rfl) rfl ?_
                refine Wo.nil ?_
                cases hF
                exact At.en () rfl (sc rfl (sc rfl (sc rfl (sc rfl (sc rfl (sc rfl (sc rfl sn))))))) (Turn.picks [2, 1, 3, 4, 0] rfl rfl)
              · refine Wo.og (o_ia (r := ptr b216 1) rfl rfl (ia_c ar26 (i := 1) (by decide))) (gg rfl rfl (eFF h238)) rfl ?_
                refine Wo.og (o_ld (k := 0) t3 rfl rfl rfl) (gg rfl rfl (eFF h238)) rfl ?_
                refine Wo.og (o_fa (r := ptr b6 0) rfl (fa25_0 _ _)) (gg rfl rfl (eFF h238)) rfl ?_
                refine Wo.og (o_ld (k := 2) t3 rfl rfl rfl) (gg rfl rfl (eFF h238)) rfl ?_
                refine Wo.og (o_bi rfl rfl (bin_geq _ _ _)) (gg rfl rfl (eFF h238)) rfl ?_
                refine Wo.od (o_pf rfl h238 rfl) rfl ?_
                refine Wo.od (o_mv rfl) rfl ?_
                rcases br_some hF with ⟨h239, hF⟩ | ⟨h239, hF⟩
                · refine Wo.s (gg rfl rfl (eTF h239)) rfl ?_
                  refine Wo.s (gg rfl rfl (eTF h239)) rfl ?_
                  refine Wo.s (gg rfl rfl (eTF h239)) rfl ?_
                  refine Wo.s (gg rfl rfl (eTF h239)) rfl ?_
                  refine Wo.od (o_pt rfl h239 rfl) rfl ?_
                  refine Wo.nil ?_
                  cases hF
                  exact At.en () rfl (sc rfl (sc rfl (sc rfl (sc rfl (sc rfl (sc rfl (sc rfl sn))))))) (Turn.picks [2, 1, 3, 4, 0] rfl rfl)
                · refine Wo.og (o_sa (k := 4) ar26 rfl rfl rfl rfl) (gg rfl rfl (eFF h239)) rfl ?_
                  refine Wo.og (o_sa (k := 0) ar26 rfl rfl rfl rfl) (gg rfl rfl (eFF h239)) rfl ?_
                  obtain ⟨r241, h240, hF⟩ := ob_some hF
                  refine Wo.x (o_cl rfl rfl (fun m hm => f64_ok n [v97, v98] [x213, x214] (some ⟨b23, 0, none⟩) 2 (some ⟨b216, 0, none⟩) 2 _ h240 m (hm.rdo (k := 4) (xs := [v97, v98]) (f := eI .i64) rfl rfl rfl rfl (enI .i64)) (hm.rdo (k := 0) (xs := [x213, x214]) (f := eI .i64) rfl rfl rfl rfl (enI .i64))) fun _ => rfl) (gg rfl rfl (eFF h239)) rfl ?_
                  rintro ⟨⟩
                  refine Wo.og (o_bi rfl rfl (bin_geq _ _ _)) (gg rfl rfl (eFF h239)) rfl ?_
                  refine Wo.od (o_pf rfl h239 rfl) rfl ?_
                  refine Wo.nil ?_
                  cases hF
                  exact At.en () rfl (sc rfl (sc rfl (sc rfl (sc rfl (sc rfl (sc rfl (sc rfl sn))))))) (Turn.picks [2, 1, 3, 4, 0] rfl rfl)
          · clear h242
            rintro ⟨⟩
            refine At.tn ?_
            rcases br_some hF with ⟨h244, hF⟩ | ⟨h244, hF⟩
            · refine Wk.condT rfl h244 ?_
              refine Wk.seq ?_
              refine Wk.region ?_
              refine Wo.od (o_as rfl) rfl ?_
              refine Wo.nil ?_
              refine At.tn ?_
              refine Wk.ret ?_
              refine At.tr ?_
              refine At.br ?_
              refine At.tr ?_
              cases hF
              exact At.en () rfl (sc rfl sn) (Turn.picks [] rfl rfl)
            · refine Wk.condF rfl h244 ?_
              refine Wk.skip ?_
              refine At.tn ?_
              refine Wk.region ?_
              refine Wo.od (o_ld (k := 4) t26 rfl rfl rfl) rfl ?_
              refine Wo.o0 (o_st (k := 3) t26 rfl rfl rfl rfl rfl) ?_
              refine Wo.nil ?_
              refine At.bn ?_
              refine At.tn ?_
              refine Wk.region ?_
              refine Wo.od (o_bi rfl rfl (bin_add _ _ _)) rfl ?_
              refine Wo.od (o_mv rfl) rfl ?_
              refine Wo.nil ?_
              cases hF
              exact At.en () rfl (sc rfl (sc rfl (sc rfl (sc rfl (sc rfl sn))))) (Turn.picks [0, 2, 3] rfl rfl)
        · refine Wk.condF rfl h174 ?_
          refine Wk.exit ?_
          refine At.te ?_
          cases hF
          exact At.en () rfl sn (Turn.picks [] rfl rfl)
      · clear h245
        rcases r246 with _ | _
        · rintro ⟨⟩
          refine At.br ?_
          refine At.tr ?_
          cases hF
          exact At.ret (.tmp rfl .nil) fun m' hm => ⟨(), rfl, (Turn.picks [] rfl rfl) m' hm⟩
        · rintro ⟨⟩
          refine At.be ?_
          refine At.tn ?_
          refine Wk.seq ?_
          refine Wk.region ?_
          refine Wo.od (o_as rfl) rfl ?_
          refine Wo.nil ?_
          refine At.tn ?_
          refine Wk.ret ?_
          cases hF
          exact At.ret (.tmp rfl .nil) fun m' hm => ⟨(), rfl, (Turn.picks [] rfl rfl) m' hm⟩

theorem f51_ok (n : Nat) (x1 : Nat)  (r : Int) (hF : F51 n x1 = some r) (m : AMem)  :
    CallA E18w 51 [.int .u64 ((x1 : Nat) : Int)] m (fun v m' => ∃ x : Unit, v = .int .i64 r ∧ Hp m m' []) := by
  unfold F51 at hF
  refine call_wk (m0 := m) (ps := []) (N := 25) (rs := [.tmp 2]) rfl Tryd.func51 rfl rfl rfl (Hp.start m) ?_
  refine Wk.seq ?_
  refine Wk.region ?_
  refine Wo.od (o_as rfl) rfl ?_
  refine Wo.nil ?_
  refine At.tn ?_
  refine Wk.seq ?_
  obtain ⟨r7, h6, hF⟩ := ob_some hF
  refine Wk.cut (G := (fun (r : Nat × Int) (g : Unit) => match r, g with | (v3, v4), _ => ⟨.normal, [(0, .int .u64 ((v3 : Nat) : Int)), (2, .int .i64 v4)], []⟩) r7) ?_ ?_
  · clear hF
    revert r7
    intro r hF
    refine Wk.seq ?_
    refine Wk.region ?_
    refine Wo.od (o_mv rfl) rfl ?_
    refine Wo.od (o_bi rfl rfl (ub_geq _ _)) rfl ?_
    refine Wo.nil ?_
    refine At.tn ?_
    rcases br_some hF with ⟨h5, hF⟩ | ⟨h5, hF⟩
    · refine Wk.condT rfl h5 ?_
      refine Wk.seq ?_
      refine Wk.region ?_
      refine Wo.od (o_mv rfl) rfl ?_
      refine Wo.od (o_bi rfl rfl (ub_shr _ _ rfl)) rfl ?_
      refine Wo.od (o_as rfl) rfl ?_
      refine Wo.nil ?_
      refine At.tn ?_
      refine Wk.region ?_
      refine Wo.od (o_as rfl) rfl ?_
      refine Wo.nil ?_
      cases hF
      exact At.en () rfl (sc rfl (sc rfl sn)) (Turn.picks [] rfl rfl)
    · refine Wk.condF rfl h5 ?_
      refine Wk.skip ?_
      cases hF
      exact At.en () rfl (sc rfl (sc rfl sn)) (Turn.picks [] rfl rfl)
  · clear h6
    obtain ⟨v3, v4⟩ := r7
    rintro ⟨⟩
    refine At.tn ?_
    refine Wk.seq ?_
    obtain ⟨r13, h12, hF⟩ := ob_some hF
    refine Wk.cut (G := (fun (r : Nat × Int) (g : Unit) => match r, g with | (v9, v10), _ => ⟨.normal, [(0, .int .u64 ((v9 : Nat) : Int)), (2, .int .i64 v10)], []⟩) r13) ?_ ?_
    · clear hF
      revert r13
      intro r hF
      refine Wk.seq ?_
      refine Wk.region ?_
      refine Wo.od (o_mv rfl) rfl ?_
      refine Wo.od (o_bi rfl rfl (ub_geq _ _)) rfl ?_
      refine Wo.nil ?_
      refine At.tn ?_
      rcases br_some hF with ⟨h11, hF⟩ | ⟨h11, hF⟩
      · refine Wk.condT rfl h11 ?_
        refine Wk.seq ?_
        refine Wk.region ?_
        refine Wo.od (o_mv rfl) rfl ?_
        refine Wo.od (o_bi rfl rfl (ub_shr _ _ rfl)) rfl ?_
        refine Wo.od (o_as rfl) rfl ?_
        refine Wo.nil ?_
        refine At.tn ?_
        refine Wk.region ?_
        refine Wo.od (o_mv rfl) rfl ?_
        refine Wo.od (o_bi rfl rfl (bin_add _ _ _)) rfl ?_
        refine Wo.od (o_as rfl) rfl ?_
        refine Wo.nil ?_
        cases hF
        exact At.en () rfl (sc rfl (sc rfl sn)) (Turn.picks [] rfl rfl)
      · refine Wk.condF rfl h11 ?_
        refine Wk.skip ?_
        cases hF
        exact At.en () rfl (sc rfl (sc rfl sn)) (Turn.picks [] rfl rfl)
    · clear h12
      obtain ⟨v9, v10⟩ := r13
      rintro ⟨⟩
      refine At.tn ?_
      refine Wk.seq ?_
      obtain ⟨r19, h18, hF⟩ := ob_some hF
      refine Wk.cut (G := (fun (r : Nat × Int) (g : Unit) => match r, g with | (v15, v16), _ => ⟨.normal, [(0, .int .u64 ((v15 : Nat) : Int)), (2, .int .i64 v16)], []⟩) r19) ?_ ?_
      · clear hF
        revert r19
        intro r hF
        refine Wk.seq ?_
        refine Wk.region ?_
        refine Wo.od (o_mv rfl) rfl ?_
        refine Wo.od (o_bi rfl rfl (ub_geq _ _)) rfl ?_
        refine Wo.nil ?_
        refine At.tn ?_
        rcases br_some hF with ⟨h17, hF⟩ | ⟨h17, hF⟩
        · refine Wk.condT rfl h17 ?_
          refine Wk.seq ?_
          refine Wk.region ?_
          refine Wo.od (o_mv rfl) rfl ?_
          refine Wo.od (o_bi rfl rfl (ub_shr _ _ rfl)) rfl ?_
          refine Wo.od (o_as rfl) rfl ?_
          refine Wo.nil ?_
          refine At.tn ?_
          refine Wk.region ?_
          refine Wo.od (o_mv rfl) rfl ?_
          refine Wo.od (o_bi rfl rfl (bin_add _ _ _)) rfl ?_
          refine Wo.od (o_as rfl) rfl ?_
          refine Wo.nil ?_
          cases hF
          exact At.en () rfl (sc rfl (sc rfl sn)) (Turn.picks [] rfl rfl)
        · refine Wk.condF rfl h17 ?_
          refine Wk.skip ?_
          cases hF
          exact At.en () rfl (sc rfl (sc rfl sn)) (Turn.picks [] rfl rfl)
      · clear h18
        obtain ⟨v15, v16⟩ := r19
        rintro ⟨⟩
        refine At.tn ?_
        refine Wk.seq ?_
        refine Wk.region ?_
        refine Wo.od (o_mv rfl) rfl ?_
        refine Wo.od (o_mv rfl) rfl ?_
        refine Wo.od (o_cv rfl (cv_uu (by rw [u28]; rfl) u5 rfl)) rfl ?_
        obtain ⟨h20, hF⟩ := gd_some hF
        obtain ⟨y22, h21, hF⟩ := ob_some hF
        refine Wo.od (o_ixt tab256_482390 u9 rfl (by rfl) rfl h20 h21) rfl ?_
        refine Wo.od (o_cv rfl (cv_i (by rw [u5]; rfl) u3)) rfl ?_
        refine Wo.od (o_bi rfl rfl (bin_add _ _ _)) rfl ?_
        refine Wo.od (o_as rfl) rfl ?_
        refine Wo.nil ?_
        refine At.tn ?_
        refine Wk.ret ?_
        cases hF
        exact At.ret (.tmp rfl .nil) fun m' hm => ⟨(), rfl, (Turn.picks [] rfl rfl) m' hm⟩

theorem f55_ok (n : Nat) (x1 : Int) (l2 : List (Int × Int)) (x6 : Nat) (a3 : Option Addr) (c4 : Nat) (r : Int) (hF : F55 n x1 l2 x6 = some r) (m : AMem) (h5 : Rd m a3 c4 2 l2.length (l2.map (eP (eI .i64) (eI .i64)))) :
    CallA E18w 55 [.agg #[.int .i64 x1, .slice a3 l2.length c4], .int .u64 ((x6 : Nat) : Int)] m (fun v m' => ∃ x : Unit, v = .int .i64 r ∧ Hp m m' []) := by
  unfold F55 at hF
  refine call_wk (m0 := m) (ps := [.rd a3 c4 2 l2.length (l2.map (eP (eI .i64) (eI .i64)))]) (N := 16) (rs := [.tmp 4]) rfl Tryd.func55 rfl rfl rfl ((Hp.start m).inn rfl h5) ?_
  refine Wk.seq ?_
  refine Wk.region ?_
  refine Wo.x (o_bx rfl) gn rfl fun b7 => ?_
  refine Wo.od (o_as rfl) rfl ?_
  refine Wo.nil ?_
  refine At.tn ?_
  refine Wk.seq ?_
  refine Wk.seq ?_
  refine Wk.region ?_
  refine Wo.od (o_ld (k := 0) t25 rfl rfl rfl) rfl ?_
  obtain ⟨r9, h8, hF⟩ := ob_some hF
  refine Wo.x (o_cl rfl rfl (fun m hm => f23_ok n x1 l2 a3 c4 _ h8 m (hm.rd (k := 1) rfl (.rd _ _ _ _ _))) fun _ => rfl) gn rfl ?_
  rintro ⟨⟩
  refine Wo.od (o_as rfl) rfl ?_
  refine Wo.nil ?_
  refine At.tn ?_
  refine Wk.seq ?_
  refine Wk.region ?_
  refine Wo.od (o_mv rfl) rfl ?_
  refine Wo.od (o_bi rfl rfl (ib_neq _ _)) rfl ?_
  refine Wo.nil ?_
  refine At.tn ?_
  rcases br_some hF with ⟨h10, hF⟩ | ⟨h10, hF⟩
  · refine Wk.condT rfl h10 ?_
    refine Wk.seq ?_
    refine Wk.region ?_
    refine Wo.od (o_mv rfl) rfl ?_
    refine Wo.od (o_as rfl) rfl ?_
    refine Wo.nil ?_
    refine At.tn ?_
    refine Wk.ret ?_
    refine At.tr ?_
    have hr := Option.some.inj hF
    subst r
    exact At.ret (.tmp rfl .nil) fun m' hm => ⟨(), rfl, (Turn.picks [] rfl rfl) m' hm⟩
  · refine Wk.condF rfl h10 ?_
    refine Wk.skip ?_
    refine At.tn ?_
    refine Wk.seq ?_
    refine Wk.seq ?_
    refine Wk.drawc (prs := [(1, 3)]) (by kernel_rfl) ?_
    refine Wn.od (o_mv rfl) rfl ?_
    obtain ⟨r12, h11, hF⟩ := ob_some hF
    refine Wn.c (o_ce rfl rfl (fun m hm => f51_ok n x6  _ h11 m ) fun _ => rfl) gn rfl ?_
    rintro ⟨⟩
    refine Wn.od (o_fa (r := ptr b7 0) rfl (fa25_0 _ _)) rfl ?_
    refine Wn.od (o_ld (k := 0) t3 rfl rfl rfl) rfl ?_
    refine Wn.od (o_bi rfl rfl (bin_gtr _ _ _)) rfl ?_
    refine Wn.nil (fun m hm => OkP.all rfl) ?_
    refine At.tn ?_
    rcases br_some hF with ⟨h13, hF⟩ | ⟨h13, hF⟩
    · refine Wk.condT rfl h13 ?_
      refine Wk.seq ?_
      refine Wk.region ?_
      refine Wo.od (o_as rfl) rfl ?_
      refine Wo.nil ?_
      refine At.tn ?_
      refine Wk.ret ?_
      refine At.tr ?_
      cases hF
      exact At.ret (.tmp rfl .nil) fun m' hm => ⟨(), rfl, (Turn.picks [] rfl rfl) m' hm⟩
    · refine Wk.condF rfl h13 ?_
      refine Wk.skip ?_
      refine At.tn ?_
      refine Wk.seq ?_
      refine Wk.region ?_
      refine Wo.od (o_as rfl) rfl ?_
      refine Wo.nil ?_
      refine At.tn ?_
      refine Wk.ret ?_
      cases hF
      exact At.ret (.tmp rfl .nil) fun m' hm => ⟨(), rfl, (Turn.picks [] rfl rfl) m' hm⟩

theorem f75_ok (n : Nat) (x1 : Int) (l2 : List (Int × Int)) (a3 : Option Addr) (c4 : Nat) (r : List Nat) (hF : F75 n x1 l2 = some r) (m : AMem) (h5 : Rd m a3 c4 2 l2.length (l2.map (eP (eI .i64) (eI .i64)))) :
    CallA E18w 75 [.agg #[.int .i64 x1, .slice a3 l2.length c4]] m (fun v m' => ∃ x : Option Addr × Nat, v = .slice x.1 x.2 x.2 ∧ Hp m m' [.sl x.1 1 x.2 (r.map (eN .u64))]) := by
  unfold F75 at hF
  refine call_wk (m0 := m) (ps := [.rd a3 c4 2 l2.length (l2.map (eP (eI .i64) (eI .i64)))]) (N := 38) (rs := [.tmp 2]) rfl Tryd.func75 rfl rfl rfl ((Hp.start m).inn rfl h5) ?_
  refine Wk.seq ?_
  refine Wk.region ?_
  refine Wo.x (o_bx rfl) gn rfl fun b6 => ?_
  refine Wo.od (o_as rfl) rfl ?_
  refine Wo.nil ?_
  refine At.tn ?_
  refine Wk.seq ?_
  refine Wk.region ?_
  refine Wo.od (o_fa (r := ptr b6 0) rfl (fa25_0 _ _)) rfl ?_
  refine Wo.od (o_ld (k := 0) t3 rfl rfl rfl) rfl ?_
  obtain ⟨h7, hF⟩ := gd_some hF
  obtain ⟨h8, hF⟩ := gd_some hF
  refine Wo.x (o_msl (f := eN .u64) (z0 := 0) s36 rfl h7 h8 z28 rfl rfl) gn rfl fun b9 => ?_
  refine Wo.od (o_as rfl) rfl ?_
  refine Wo.nil ?_
  refine At.tn ?_
  refine Wk.seq ?_
  refine Wk.seq ?_
  refine Wk.region ?_
  refine Wo.od (o_fa (r := ptr b6 1) rfl (fa25_1 _ _)) rfl ?_
  refine Wo.od (o_ld (k := 1) t23 rfl rfl rfl) rfl ?_
  refine Wo.od (o_ln (k := 2) u23 rfl rfl (.inl rfl)) rfl ?_
  refine Wo.od (o_mv rfl) rfl ?_
  refine Wo.nil ?_
  refine At.tn ?_
  refine Wk.block ?_
  obtain ⟨l56, h77, hF⟩ := ob_some hF
  refine Wk.cut (G := (fun (r : List (Nat)) (g : Unit) => match r, g with | l56, _ => ⟨(.exit 0), [(3, .slice (some ⟨b9, 0, none⟩) x1.toNat x1.toNat)], [.arr b9 1 x1.toNat (l56.map (eN .u64)) .own]⟩) l56) ?_ ?_
  · refine Wk.weak (fs' := [(3, .slice (some ⟨b9, 0, none⟩) x1.toNat x1.toNat), (10, .slice a3 l2.length c4), (11, .int .i64 (l2.length : Int)), (12, .int .i64 0)]) (ps' := [.arr b9 1 x1.toNat ((List.replicate x1.toNat 0).map (eN .u64)) .own, .rd a3 c4 2 l2.length (l2.map (eP (eI .i64) (eI .i64)))]) (sc rfl (sc rfl (sc rfl (sc rfl sn)))) (Turn.picks [0, 2] rfl rfl) ?_
    refine Wk.loop (σ := List (Nat) × Int) (ρ := List (Nat)) (γ := Unit) (δ := fun _ => Unit) _ (fun (s : List (Nat) × Int) (g : Unit) => match s, g with | (l32, v33), _ => ⟨.normal, [(3, .slice (some ⟨b9, 0, none⟩) x1.toNat x1.toNat), (10, .slice a3 l2.length c4), (11, .int .i64 (l2.length : Int)), (12, .int .i64 v33)], [.arr b9 1 x1.toNat (l32.map (eN .u64)) .own, .rd a3 c4 2 l2.length (l2.map (eP (eI .i64) (eI .i64)))]⟩) (fun (r : List (Nat)) (g : Unit) => match r, g with | l56, _ => ⟨(.exit 0), [(3, .slice (some ⟨b9, 0, none⟩) x1.toNat x1.toNat)], [.arr b9 1 x1.toNat (l56.map (eN .u64)) .own]⟩) ?_ (fun _ _ => rfl) (fun r d => by intro e; cases e) _ _ _ h77 ()
    clear hF h77
    rintro ⟨l32, v33⟩ ⟨⟩ r hF
    unfold L75_1 at hF
    refine Wk.seq ?_
    refine Wk.region ?_
    refine Wo.od (o_bi rfl rfl (bin_lss _ _ _)) rfl ?_
    refine Wo.nil ?_
    refine At.tn ?_
    refine Wk.seq ?_
    rcases br_some hF with ⟨h57, hF⟩ | ⟨h57, hF⟩
    · refine Wk.condT rfl h57 ?_
      refine Wk.skip ?_
      refine At.tn ?_
      refine Wk.seq ?_
      refine Wk.block ?_
      refine Wk.seq ?_
      refine Wk.region ?_
      obtain ⟨h58, hF⟩ := gd_some hF
      replace h58 := inB_some h58
      refine Wo.openr (k := 1) rfl (pos_of h58) ?_
      rintro b59 o60 rfl
      refine Wo.og (o_ixs s23 rfl rfl h58) gn rfl ?_
      obtain ⟨⟨x61, x62⟩, h63, hF⟩ := ob_some hF
      refine Wo.od (o_ldr (k := 0) t26 rfl rfl (map_at h63) rfl rfl) rfl ?_
      refine Wo.x (o_al z26 rfl) gn rfl fun b64 => ?_
      refine Wo.o0 (o_st (k := 0) t26 rfl rfl rfl rfl rfl) ?_
      refine Wo.nil ?_
      refine At.tn ?_
      refine Wk.seq ?_
      refine Wk.draw (by kernel_rfl) ?_
      refine Wo.od (o_mv rfl) rfl ?_
      refine Wo.od (o_ia (r := ptr b64 0) rfl rfl (ia_c ar26 (i := 0) (by decide))) rfl ?_
      refine Wo.od (o_ld (k := 0) t3 rfl rfl rfl) rfl ?_
      obtain ⟨h65, hF⟩ := gd_some hF
      replace h65 := inB_some h65
      refine Wo.og (o_ixa s36 rfl rfl h65) gn rfl ?_
      obtain ⟨x66, h67, hF⟩ := ob_some hF
      refine Wo.od (o_lda (k := 2) t28 rfl rfl (map_at h67) rfl rfl) rfl ?_
      refine Wo.od (o_ia (r := ptr b64 1) rfl rfl (ia_c ar26 (i := 1) (by decide))) rfl ?_
      refine Wo.od (o_ld (k := 0) t3 rfl rfl rfl) rfl ?_
      obtain ⟨h68, hF⟩ := gd_some hF
      refine Wo.od (o_bi rfl rfl (ub_shl rfl _ _ h68)) rfl ?_
      refine Wo.od (o_bi rfl rfl (ub_or rfl _ _)) rfl ?_
      obtain ⟨h69, hF⟩ := gd_some hF
      replace h69 := inB_some h69
      refine Wo.og (o_ixa s36 rfl rfl h69) gn rfl ?_
      refine Wo.o0 (o_stl (k := 2) (x1 := x66) (x2 := uw .u64 (uw .u64 x66 ||| uw .u64 (ushl .u64 1 x62.toNat))) t28 rfl rfl rfl h67 rfl) ?_
      refine Wo.nil ?_
      refine At.tn ?_
      refine Wk.draw (by kernel_rfl) ?_
      refine Wo.od (o_mv rfl) rfl ?_
      refine Wo.od (o_ia (r := ptr b64 1) rfl rfl (ia_c ar26 (i := 1) (by decide))) rfl ?_
      refine Wo.od (o_ld (k := 0) t3 rfl rfl rfl) rfl ?_
      obtain ⟨h71, hF⟩ := gd_some hF
      replace h71 := inB_some h71
      refine Wo.og (o_ixa s36 rfl rfl h71) gn rfl ?_
      obtain ⟨x72, h73, hF⟩ := ob_some hF
      refine Wo.od (o_lda (k := 2) t28 rfl rfl (map_at h73) rfl rfl) rfl ?_
      refine Wo.od (o_ia (r := ptr b64 0) rfl rfl (ia_c ar26 (i := 0) (by decide))) rfl ?_
      refine Wo.od (o_ld (k := 0) t3 rfl rfl rfl) rfl ?_
      obtain ⟨h74, hF⟩ := gd_some hF
      refine Wo.od (o_bi rfl rfl (ub_shl rfl _ _ h74)) rfl ?_
      refine Wo.od (o_bi rfl rfl (ub_or rfl _ _)) rfl ?_
      obtain ⟨h75, hF⟩ := gd_some hF
      replace h75 := inB_some h75
      refine Wo.og (o_ixa s36 rfl rfl h75) gn rfl ?_
      refine Wo.o0 (o_stl (k := 2) (x1 := x72) (x2 := uw .u64 (uw .u64 x72 ||| uw .u64 (ushl .u64 1 x61.toNat))) t28 rfl rfl rfl h73 rfl) ?_
      refine Wo.nil ?_
      refine At.bn ?_
      refine At.tn ?_
      refine Wk.region ?_
      refine Wo.od (o_bi rfl rfl (bin_add _ _ _)) rfl ?_
      refine Wo.od (o_mv rfl) rfl ?_
      refine Wo.nil ?_
      cases hF
      exact At.en () rfl (sc rfl (sc rfl (sc rfl (sc rfl sn)))) (Turn.picks [2, 3] rfl rfl)
    · refine Wk.condF rfl h57 ?_
      refine Wk.exit ?_
      refine At.te ?_
      cases hF
      exact At.en () rfl (sc rfl sn) (Turn.picks [0] rfl rfl)
  · clear h77
    rintro ⟨⟩
    refine At.be ?_
    refine At.tn ?_
    refine Wk.seq ?_
    refine Wk.region ?_
    refine Wo.od (o_mv rfl) rfl ?_
    refine Wo.od (o_as rfl) rfl ?_
    refine Wo.nil ?_
    refine At.tn ?_
    refine Wk.ret ?_
    have hr := Option.some.inj hF
    subst r
    exact At.ret (.tmp rfl .nil) fun m' hm => ⟨((some ⟨b9, 0, none⟩), x1.toNat), rfl, (Turn.trans (Turn.close (k := 0) rfl) (Turn.picks [0] rfl rfl)) m' hm⟩

theorem f56_ok (n : Nat) (x1 : Int) (l2 : List (Int × Int)) (x6 : Nat) (a3 : Option Addr) (c4 : Nat) (r : Nat) (hF : F56 n x1 l2 x6 = some r) (m : AMem) (hG : Gl m) (h5 : Rd m a3 c4 2 l2.length (l2.map (eP (eI .i64) (eI .i64)))) :
    CallA E18w 56 [.agg #[.int .i64 x1, .slice a3 l2.length c4], .int .u64 ((x6 : Nat) : Int)] m (fun v m' => ∃ x : Unit, v = .int .u64 ((r : Nat) : Int) ∧ Hp m m' []) := by
  unfold F56 at hF
  refine call_wk (m0 := m) (ps := [.rd a3 c4 2 l2.length (l2.map (eP (eI .i64) (eI .i64)))]) (N := 22) (rs := [.tmp 4]) rfl Tryd.func56 rfl rfl rfl ((Hp.start m).inn rfl h5) ?_
  refine Wk.seq ?_
  refine Wk.region ?_
  refine Wo.x (o_bx rfl) gn rfl fun b7 => ?_
  refine Wo.od (o_as rfl) rfl ?_
  refine Wo.nil ?_
  refine At.tn ?_
  refine Wk.seq ?_
  refine Wk.region ?_
  refine Wo.od (o_ld (k := 0) t25 rfl rfl rfl) rfl ?_
  obtain ⟨l9, h8, hF⟩ := ob_some hF
  refine Wo.x (o_cl rfl rfl (fun m hm => f75_ok n x1 l2 a3 c4 _ h8 m (hm.rd (k := 1) rfl (.rd _ _ _ _ _))) fun _ => rfl) gn rfl ?_
  rintro ⟨a10, n11⟩
  refine Wo.len (k := 0) (xs := l9) rfl ?_
  rintro rfl
  refine Wo.x (o_al z36 rfl) gn rfl fun b12 => ?_
  refine Wo.o0 (o_st (k := 0) t36 rfl rfl rfl rfl rfl) ?_
  refine Wo.nil ?_
  refine At.tn ?_
  refine Wk.seq ?_
  refine Wk.region ?_
  refine Wo.x (o_al z28 rfl) gn rfl fun b13 => ?_
  refine Wo.nil ?_
  refine At.tn ?_
  refine Wk.seq ?_
  refine Wk.seq ?_
  refine Wk.region ?_
  refine Wo.od (o_mv rfl) rfl ?_
  obtain ⟨r17, h18, hF⟩ := ob_some hF
  refine Wo.x (o_cs (α := Nat) (V := fun g => (fun (r : Unit) (g : Nat) => match r, g with | _, b15 => (.func (.func 78) #[] #[ptr b15 0] : Value)) r17 g) (N := fun g => (fun (r : Unit) (g : Nat) => match r, g with | _, b15 => ([.obj b15 (.cells [.int .u64 ((x6 : Nat) : Int)] .own), .obj b12 (.cells [.slice a10 l9.length l9.length] .own), .sl a10 1 l9.length (l9.map (eN .u64)), .obj b13 (.cells [.int .u64 ((0 : Nat) : Int)] .own)] : List Pc)) r17 g) rfl rfl (fun m hm => ?_)) gn rfl ?_
  · clear hF
    revert r17
    intro r hF
    refine call_wk (N := 4) (rs := [.tmp 2]) rfl Tryd.func61 rfl rfl rfl hm ?_
    refine Wk.seq ?_
    refine Wk.region ?_
    refine Wo.x (o_bx rfl) gn rfl fun b16 => ?_
    refine Wo.od (o_as rfl) rfl ?_
    refine Wo.nil ?_
    refine At.tn ?_
    refine Wk.seq ?_
    refine Wk.region ?_
    refine Wo.od (o_mf rfl rfl) rfl ?_
    refine Wo.od (o_as rfl) rfl ?_
    refine Wo.nil ?_
    refine At.tn ?_
    refine Wk.ret ?_
    cases hF
    exact At.ret (.tmp rfl .nil) fun m' hm => ⟨b16, rfl, (Turn.picks [0, 2, 3, 1] rfl rfl) m' hm⟩
  · clear h18
    rintro b15
    refine Wo.nil ?_
    refine At.tn ?_
    refine Wk.block ?_
    obtain ⟨v85, h148, hF⟩ := ob_some hF
    refine Wk.range (N := 14) (rs := []) (γ := Unit) (X := fun g => (fun (r : Nat) (g : Unit) => (match r, g with | v85, _ => ⟨.ready, none, [.obj b12 (.cells [.slice a10 l9.length l9.length] .own), .sl a10 1 l9.length (l9.map (eN .u64)), .obj b13 (.cells [.int .u64 ((v85 : Nat) : Int)] .own)]⟩ : Rn)) v85 g) rfl rfl Tryd.func78 rfl rfl rfl ?_ (fun y => by intro e; cases e) ?_
    · clear hF
      revert v85
      intro r hF
      intro t21 l19 rc20 h22 h23
      refine Wk.block ?_
      obtain ⟨v126, h145, hF⟩ := ob_some hF
      refine Wk.cut (G := (fun (r : Nat) (g : Unit) => match r, g with | v126, _ => ⟨(.exit 0), [], [.obj l19 (rc20 .ready none), .obj b12 (.cells [.slice a10 l9.length l9.length] .own), .sl a10 1 l9.length (l9.map (eN .u64)), .obj b13 (.cells [.int .u64 ((v126 : Nat) : Int)] .own)]⟩) v126) ?_ ?_
      · refine Wk.weak (fs' := [(0, .func (.yield l19) #[] #[]), (1, ptr b15 0)]) (ps' := [.obj l19 (rc20 .ready none), .obj b15 (.cells [.int .u64 ((x6 : Nat) : Int)] .own), .obj b12 (.cells [.slice a10 l9.length l9.length] .own), .sl a10 1 l9.length (l9.map (eN .u64)), .obj b13 (.cells [.int .u64 ((0 : Nat) : Int)] .own)]) (sc rfl (sc rfl sn)) (Turn.picks [0, 1, 2, 3, 4] rfl rfl) ?_
        refine Wk.loop (σ := Nat × Nat) (ρ := Nat) (γ := Unit) (δ := fun _ => Unit) _ (fun (s : Nat × Nat) (g : Unit) => match s, g with | (v104, v105), _ => ⟨.normal, [(0, .func (.yield l19) #[] #[]), (1, ptr b15 0)], [.obj l19 (rc20 .ready none), .obj b15 (.cells [.int .u64 ((v104 : Nat) : Int)] .own), .obj b12 (.cells [.slice a10 l9.length l9.length] .own), .sl a10 1 l9.length (l9.map (eN .u64)), .obj b13 (.cells [.int .u64 ((v105 : Nat) : Int)] .own)]⟩) (fun (r : Nat) (g : Unit) => match r, g with | v126, _ => ⟨(.exit 0), [], [.obj l19 (rc20 .ready none), .obj b12 (.cells [.slice a10 l9.length l9.length] .own), .sl a10 1 l9.length (l9.map (eN .u64)), .obj b13 (.cells [.int .u64 ((v126 : Nat) : Int)] .own)]⟩) ?_ (fun _ _ => rfl) (fun r d => by intro e; cases e) _ _ _ h145 ()
        clear hF h145
        rintro ⟨v104, v105⟩ ⟨⟩ r hF
        unfold L56_1 at hF
        refine Wk.seq ?_
        refine Wk.seq ?_
        refine Wk.region ?_
        refine Wo.od (o_ld (k := 1) t28 rfl rfl rfl) rfl ?_
        refine Wo.od (o_bi rfl rfl (ub_neq _ _)) rfl ?_
        refine Wo.nil ?_
        refine At.tn ?_
        rcases br_some hF with ⟨h127, hF⟩ | ⟨h127, hF⟩
        · refine Wk.condT rfl h127 ?_
          refine Wk.skip ?_
          refine At.tn ?_
          refine Wk.seq ?_
          refine Wk.block ?_
          refine Wk.seq ?_
          refine Wk.region ?_
          refine Wo.od (o_mv rfl) rfl ?_
          refine Wo.od (o_ld (k := 1) t28 rfl rfl rfl) rfl ?_
          obtain ⟨r129, h128, hF⟩ := ob_some hF
          refine Wo.x (o_cl rfl rfl (fun m hm => f42_ok n v104  _ h128 m (hG.ext hm.ext) ) fun _ => rfl) gn rfl ?_
          rintro ⟨⟩
          obtain ⟨v136, h144, hF⟩ := ob_some hF
          refine Wo.x (o_yd (k := 0) (k1 := 0) (γA := Unit) (GA := (fun g : Unit => (match g with | _ => ⟨.normal, [(5, ptr b12 0), (6, ptr b13 0), (7, .int .i64 r129)], [.obj l19 (rc20 .ready none), .obj b12 (.cells [.slice a10 l9.length l9.length] .own), .sl a10 1 l9.length (l9.map (eN .u64)), .obj b13 (.cells [.int .u64 ((v105 : Nat) : Int)] .own), .obj b15 (.cells [.int .u64 ((v104 : Nat) : Int)] .own)]⟩ : En))) (γ := Unit) (G := fun g => (fun (r : Nat) (g : Unit) => (match r, g with | v136, _ => ⟨.normal, [], [.obj l19 (rc20 .busy none), .obj b12 (.cells [.slice a10 l9.length l9.length] .own), .sl a10 1 l9.length (l9.map (eN .u64)), .obj b13 (.cells [.int .u64 ((v136 : Nat) : Int)] .own), .obj b15 (.cells [.int .u64 ((v104 : Nat) : Int)] .own)]⟩ : En)) v136 g) rfl rfl rfl h23 h22 rfl ?_ (fun _ => rfl) (fun _ => rfl) ?_ (fun y => rfl)) gn rfl ?_
          · clear hF h144
            refine Wk.region ?_
            refine Wo.od (o_as rfl) rfl ?_
            refine Wo.nil ?_
            exact At.en () rfl (sc rfl (sc rfl (sc rfl sn))) (Turn.picks [0, 2, 3, 4, 1] rfl rfl)
          · clear hF
            revert v136
            intro r hF
            rintro ⟨⟩
            refine Wk.block ?_
            refine Wk.draw (by kernel_rfl) ?_
            refine Wo.od (o_ld (k := 3) t28 rfl rfl rfl) rfl ?_
            refine Wo.od (o_ld (k := 1) t36 rfl rfl rfl) rfl ?_
            refine Wo.od (o_mv rfl) rfl ?_
            obtain ⟨h137, hF⟩ := gd_some hF
            replace h137 := inB_some h137
            refine Wo.open (k := 2) rfl (pos_of h137) ?_
            rintro b138 tg139 rfl h140
            refine Wo.og (o_ixa s36 rfl rfl h137) gn rfl ?_
            obtain ⟨x141, h142, hF⟩ := ob_some hF
            refine Wo.od (o_lda (k := 2) t28 rfl rfl (map_at h142) rfl rfl) rfl ?_
            refine Wo.od (o_bi rfl rfl (ub_or rfl _ _)) rfl ?_
            refine Wo.o0 (o_st (k := 3) t28 rfl rfl rfl rfl rfl) ?_
            refine Wo.nil ?_
            refine At.bn ?_
            cases hF
            exact At.en () rfl sn (Turn.trans (Turn.close (k := 2) rfl) (Turn.picks [0, 1, 2, 3, 4] rfl rfl))
          · clear h144
            rintro ⟨⟩
            refine Wo.od (o_un rfl rfl) rfl ?_
            refine Wo.nil ?_
            refine At.tn ?_
            refine Wk.condF rfl rfl ?_
            refine Wk.skip ?_
            refine At.bn ?_
            refine At.tn ?_
            refine Wk.region ?_
            refine Wo.od (o_ld (k := 4) t28 rfl rfl rfl) rfl ?_
            refine Wo.od (o_ld (k := 4) t28 rfl rfl rfl) rfl ?_
            refine Wo.od (o_bi rfl rfl (ub_sub rfl _ _)) rfl ?_
            refine Wo.od (o_bi rfl rfl (ub_and rfl _ _)) rfl ?_
            refine Wo.o0 (o_st (k := 4) t28 rfl rfl rfl rfl rfl) ?_
            refine Wo.nil ?_
            cases hF
            exact At.en () rfl (sc rfl (sc rfl sn)) (Turn.picks [0, 4, 1, 2, 3] rfl rfl)
        · refine Wk.condF rfl h127 ?_
          refine Wk.exit ?_
          refine At.te ?_
          cases hF
          exact At.en () rfl sn (Turn.picks [0, 2, 3, 4] rfl rfl)
      · clear h145
        rintro ⟨⟩
        refine At.be ?_
        have hr := Option.some.inj hF
        subst r
        exact At.fin .nil fun m' hm => ⟨(), (Turn.picks [0, 1, 2, 3] rfl rfl) m' hm⟩
    · clear h148
      rintro ⟨⟩
      change At _ .normal _ _ _
      refine At.bn ?_
      refine At.tn ?_
      refine Wk.seq ?_
      refine Wk.region ?_
      refine Wo.od (o_ld (k := 2) t28 rfl rfl rfl) rfl ?_
      refine Wo.od (o_mv rfl) rfl ?_
      refine Wo.od (o_bi rfl rfl (ub_andn rfl _ _)) rfl ?_
      refine Wo.od (o_as rfl) rfl ?_
      refine Wo.nil ?_
      refine At.tn ?_
      refine Wk.ret ?_
      cases hF
      exact At.ret (.tmp rfl .nil) fun m' hm => ⟨(), rfl, (Turn.picks [] rfl rfl) m' hm⟩

theorem f14_ok (n : Nat) (x1 : Int) (l2 : List (Int × Int)) (x6 : Nat) (a3 : Option Addr) (c4 : Nat) (r : Nat × Int) (hF : F14 n x1 l2 x6 = some r) (m : AMem) (hG : Gl m) (h5 : Rd m a3 c4 2 l2.length (l2.map (eP (eI .i64) (eI .i64)))) :
    CallA E18w 14 [.agg #[.int .i64 x1, .slice a3 l2.length c4], .int .u64 ((x6 : Nat) : Int)] m (fun v m' => ∃ x : Unit, v = .tuple #[.int .u64 ((r.1 : Nat) : Int), .int .i64 r.2] ∧ Hp m m' []) := by
  unfold F14 at hF
  refine call_wk (m0 := m) (ps := [.rd a3 c4 2 l2.length (l2.map (eP (eI .i64) (eI .i64)))]) (N := 16) (rs := [.tmp 4, .tmp 5]) rfl Tryd.func14 rfl rfl rfl ((Hp.start m).inn rfl h5) ?_
  refine Wk.seq ?_
  refine Wk.region ?_
  refine Wo.x (o_bx rfl) gn rfl fun b7 => ?_
  refine Wo.od (o_as rfl) rfl ?_
  refine Wo.od (o_as rfl) rfl ?_
  refine Wo.nil ?_
  refine At.tn ?_
  refine Wk.seq ?_
  refine Wk.seq ?_
  refine Wk.region ?_
  refine Wo.od (o_ld (k := 0) t25 rfl rfl rfl) rfl ?_
  refine Wo.od (o_mv rfl) rfl ?_
  obtain ⟨r9, h8, hF⟩ := ob_some hF
  refine Wo.x (o_cl rfl rfl (fun m hm => f55_ok n x1 l2 x6 a3 c4 _ h8 m (hm.rd (k := 1) rfl (.rd _ _ _ _ _))) fun _ => rfl) gn rfl ?_
  rintro ⟨⟩
  refine Wo.od (o_as rfl) rfl ?_
  refine Wo.nil ?_
  refine At.tn ?_
  refine Wk.seq ?_
  refine Wk.region ?_
  refine Wo.od (o_mv rfl) rfl ?_
  refine Wo.od (o_bi rfl rfl (ib_neq _ _)) rfl ?_
  refine Wo.nil ?_
  refine At.tn ?_
  rcases br_some hF with ⟨h10, hF⟩ | ⟨h10, hF⟩
  · refine Wk.condT rfl h10 ?_
    refine Wk.seq ?_
    refine Wk.region ?_
    refine Wo.od (o_mv rfl) rfl ?_
    refine Wo.od (o_as rfl) rfl ?_
    refine Wo.od (o_as rfl) rfl ?_
    refine Wo.nil ?_
    refine At.tn ?_
    refine Wk.ret ?_
    refine At.tr ?_
    cases hF
    exact At.ret (.tmp rfl (.tmp rfl .nil)) fun m' hm => ⟨(), rfl, (Turn.picks [] rfl rfl) m' hm⟩
  · refine Wk.condF rfl h10 ?_
    refine Wk.skip ?_
    refine At.tn ?_
    refine Wk.seq ?_
    refine Wk.region ?_
    refine Wo.od (o_ld (k := 0) t25 rfl rfl rfl) rfl ?_
    refine Wo.od (o_mv rfl) rfl ?_
    obtain ⟨r12, h11, hF⟩ := ob_some hF
    refine Wo.x (o_cl rfl rfl (fun m hm => f56_ok n x1 l2 x6 a3 c4 _ h11 m (hG.ext hm.ext) (hm.rd (k := 1) rfl (.rd _ _ _ _ _))) fun _ => rfl) gn rfl ?_
    rintro ⟨⟩
    refine Wo.od (o_as rfl) rfl ?_
    refine Wo.od (o_as rfl) rfl ?_
    refine Wo.nil ?_
    refine At.tn ?_
    refine Wk.ret ?_
    cases hF
    exact At.ret (.tmp rfl (.tmp rfl .nil)) fun m' hm => ⟨(), rfl, (Turn.picks [] rfl rfl) m' hm⟩

theorem f43_ok (n : Nat) (x1 : Int) (l2 : List (Int × Int)) (a3 : Option Addr) (c4 : Nat) (r : Int) (hF : F43 n x1 l2 = some r) (m : AMem) (h5 : Rd m a3 c4 2 l2.length (l2.map (eP (eI .i64) (eI .i64)))) :
    CallA E18w 43 [.agg #[.int .i64 x1, .slice a3 l2.length c4]] m (fun v m' => ∃ x : Unit, v = .int .i64 r ∧ Hp m m' []) := by
  unfold F43 at hF
  refine call_wk (m0 := m) (ps := [.rd a3 c4 2 l2.length (l2.map (eP (eI .i64) (eI .i64)))]) (N := 87) (rs := [.tmp 2]) rfl Tryd.func43 rfl rfl rfl ((Hp.start m).inn rfl h5) ?_
  refine Wk.seq ?_
  refine Wk.region ?_
  refine Wo.x (o_bx rfl) gn rfl fun b6 => ?_
  refine Wo.od (o_as rfl) rfl ?_
  refine Wo.nil ?_
  refine At.tn ?_
  refine Wk.seq ?_
  refine Wk.seq ?_
  obtain ⟨v17, h20, hF⟩ := ob_some hF
  refine Wk.cut (G := (fun (r : Bool) (g : Unit) => match r, g with | v17, _ => ⟨.normal, [(1, ptr b6 0), (19, .bool v17)], [.obj b6 (.cells [.int .i64 x1, .slice a3 l2.length c4] .own), .rd a3 c4 2 l2.length (l2.map (eP (eI .i64) (eI .i64)))]⟩) v17) ?_ ?_
  · clear hF
    revert v17
    intro r hF
    refine Wk.region ?_
    refine Wo.od (o_fa (r := ptr b6 0) rfl (fa25_0 _ _)) rfl ?_
    refine Wo.od (o_ld (k := 0) t3 rfl rfl rfl) rfl ?_
    refine Wo.od (o_bi rfl rfl (bin_lss _ _ _)) rfl ?_
    refine Wo.od (o_mv rfl) rfl ?_
    rcases br_some hF with ⟨h18, hF⟩ | ⟨h18, hF⟩
    · refine Wo.s (gg rfl rfl (eTF h18)) rfl ?_
      refine Wo.s (gg rfl rfl (eTF h18)) rfl ?_
      refine Wo.s (gg rfl rfl (eTF h18)) rfl ?_
      refine Wo.od (o_pt rfl h18 rfl) rfl ?_
      refine Wo.od (o_mv rfl) rfl ?_
      refine Wo.s (gg rfl rfl rfl) rfl ?_
      refine Wo.s (gg rfl rfl rfl) rfl ?_
      refine Wo.s (gg rfl rfl rfl) rfl ?_
      refine Wo.s (gg rfl rfl rfl) rfl ?_
      refine Wo.od (o_pT rfl rfl) rfl ?_
      refine Wo.nil ?_
      cases hF
      exact At.en () rfl (sc rfl (sc rfl sn)) (Turn.picks [0, 1] rfl rfl)
    · refine Wo.og (o_fa (r := ptr b6 0) rfl (fa25_0 _ _)) (gg rfl rfl (eFF h18)) rfl ?_
      refine Wo.og (o_ld (k := 0) t3 rfl rfl rfl) (gg rfl rfl (eFF h18)) rfl ?_
      refine Wo.og (o_bi rfl rfl (bin_gtr _ _ _)) (gg rfl rfl (eFF h18)) rfl ?_
      refine Wo.od (o_pf rfl h18 rfl) rfl ?_
      refine Wo.od (o_mv rfl) rfl ?_
      rcases br_some hF with ⟨h19, hF⟩ | ⟨h19, hF⟩
      · refine Wo.s (gg rfl rfl (eTF h19)) rfl ?_
        refine Wo.s (gg rfl rfl (eTF h19)) rfl ?_
        refine Wo.s (gg rfl rfl (eTF h19)) rfl ?_
        refine Wo.s (gg rfl rfl (eTF h19)) rfl ?_
        refine Wo.od (o_pt rfl h19 rfl) rfl ?_
        refine Wo.nil ?_
        cases hF
        exact At.en () rfl (sc rfl (sc rfl sn)) (Turn.picks [0, 1] rfl rfl)
      · refine Wo.og (o_fa (r := ptr b6 1) rfl (fa25_1 _ _)) (gg rfl rfl (eFF h19)) rfl ?_
        refine Wo.og (o_ld (k := 0) t23 rfl rfl rfl) (gg rfl rfl (eFF h19)) rfl ?_
        refine Wo.og (o_ln (k := 1) u23 rfl rfl (.inl rfl)) (gg rfl rfl (eFF h19)) rfl ?_
        refine Wo.og (o_bi rfl rfl (bin_gtr _ _ _)) (gg rfl rfl (eFF h19)) rfl ?_
        refine Wo.od (o_pf rfl h19 rfl) rfl ?_
        refine Wo.nil ?_
        cases hF
        exact At.en () rfl (sc rfl (sc rfl sn)) (Turn.picks [0, 1] rfl rfl)
  · clear h20
    rintro ⟨⟩
    refine At.tn ?_
    rcases br_some hF with ⟨h22, hF⟩ | ⟨h22, hF⟩
    · refine Wk.condT rfl h22 ?_
      refine Wk.seq ?_
      refine Wk.region ?_
      refine Wo.od (o_as rfl) rfl ?_
      refine Wo.nil ?_
      refine At.tn ?_
      refine Wk.ret ?_
      refine At.tr ?_
      cases hF
      exact At.ret (.tmp rfl .nil) fun m' hm => ⟨(), rfl, (Turn.picks [] rfl rfl) m' hm⟩
    · refine Wk.condF rfl h22 ?_
      refine Wk.skip ?_
      refine At.tn ?_
      refine Wk.seq ?_
      refine Wk.seq ?_
      refine Wk.region ?_
      refine Wo.od (o_as rfl) rfl ?_
      refine Wo.nil ?_
      refine At.tn ?_
      refine Wk.block ?_
      obtain ⟨r209, h208, hF⟩ := ob_some hF
      refine Wk.cut (G := (fun (r : (Unit) ⊕ (Unit)) (g : Unit) => match r, g with | .inl _, _ => ⟨.ret, [(2, .int .i64 180)], []⟩ | .inr _, _ => ⟨(.exit 0), [], []⟩) r209) ?_ ?_
      · refine Wk.weak (fs' := [(1, ptr b6 0), (3, .int .i64 0)]) (ps' := [.obj b6 (.cells [.int .i64 x1, .slice a3 l2.length c4] .own), .rd a3 c4 2 l2.length (l2.map (eP (eI .i64) (eI .i64)))]) (sc rfl (sc rfl sn)) (Turn.picks [0, 1] rfl rfl) ?_
        refine Wk.loop (σ := Int) (ρ := (Unit) ⊕ (Unit)) (γ := Unit) (δ := fun _ => Unit) _ (fun (s : Int) (g : Unit) => match s, g with | v24, _ => ⟨.normal, [(1, ptr b6 0), (3, .int .i64 v24)], [.obj b6 (.cells [.int .i64 x1, .slice a3 l2.length c4] .own), .rd a3 c4 2 l2.length (l2.map (eP (eI .i64) (eI .i64)))]⟩) (fun (r : (Unit) ⊕ (Unit)) (g : Unit) => match r, g with | .inl _, _ => ⟨.ret, [(2, .int .i64 180)], []⟩ | .inr _, _ => ⟨(.exit 0), [], []⟩) ?_ (fun _ _ => rfl) (fun r d => by rcases r with _ | _ <;> (intro e; cases e)) _ _ _ h208 ()
        clear hF h208
        rintro v24 ⟨⟩ r hF
        unfold L43_1 at hF
        refine Wk.seq ?_
        refine Wk.seq ?_
        refine Wk.region ?_
        refine Wo.od (o_mv rfl) rfl ?_
        refine Wo.od (o_fa (r := ptr b6 1) rfl (fa25_1 _ _)) rfl ?_
        refine Wo.od (o_ld (k := 0) t23 rfl rfl rfl) rfl ?_
        refine Wo.od (o_ln (k := 1) u23 rfl rfl (.inl rfl)) rfl ?_
        refine Wo.od (o_bi rfl rfl (bin_lss _ _ _)) rfl ?_
        refine Wo.nil ?_
        refine At.tn ?_
        rcases br_some hF with ⟨h117, hF⟩ | ⟨h117, hF⟩
        · refine Wk.condT rfl h117 ?_
          refine Wk.skip ?_
          refine At.tn ?_
          refine Wk.seq ?_
          refine Wk.block ?_
          refine Wk.seq ?_
          refine Wk.draw (by kernel_rfl) ?_
          refine Wo.od (o_fa (r := ptr b6 1) rfl (fa25_1 _ _)) rfl ?_
          refine Wo.od (o_ld (k := 0) t23 rfl rfl rfl) rfl ?_
          refine Wo.od (o_mv rfl) rfl ?_
          obtain ⟨h163, hF⟩ := gd_some hF
          replace h163 := inB_some h163
          refine Wo.openr (k := 1) rfl (pos_of h163) ?_
          rintro b164 o165 rfl
          refine Wo.og (o_ixs s23 rfl rfl h163) gn rfl ?_
          refine Wo.od (o_ia (r := ptr b164 (o165 + v24.toNat * 2 + 0)) rfl rfl (ia_c ar26 (i := 0) (by decide))) rfl ?_
          obtain ⟨⟨x166, x167⟩, h168, hF⟩ := ob_some hF
          refine Wo.od (o_ldr (k := 0) t3 rfl rfl (map_at h168) rfl rfl) rfl ?_
          refine Wo.od (o_fa (r := ptr b6 1) rfl (fa25_1 _ _)) rfl ?_
          refine Wo.od (o_ld (k := 1) t23 rfl rfl rfl) rfl ?_
          refine Wo.od (o_mv rfl) rfl ?_
          obtain ⟨h169, hF⟩ := gd_some hF
          replace h169 := inB_some h169
          refine Wo.og (o_ixs s23 rfl rfl h169) gn rfl ?_
          refine Wo.od (o_ia (r := ptr b164 (o165 + v24.toNat * 2 + 1)) rfl rfl (ia_c ar26 (i := 1) (by decide))) rfl ?_
          refine Wo.od (o_ldr (k := 0) t3 rfl rfl (map_at h168) rfl rfl) rfl ?_
          refine Wo.od (o_as rfl) rfl ?_
          refine Wo.od (o_as rfl) rfl ?_
          refine Wo.nil ?_
          refine At.tn ?_
          refine Wk.seq ?_
          refine Wk.seq ?_
          obtain ⟨v180, h183, hF⟩ := ob_some hF
          refine Wk.cut (G := (fun (r : Bool) (g : Unit) => match r, g with | v180, _ => ⟨.normal, [(1, ptr b6 0), (3, .int .i64 v24), (4, .int .i64 x166), (5, .int .i64 x167), (51, .bool v180)], [.obj b6 (.cells [.int .i64 x1, .slice (some ⟨b164, o165, none⟩) l2.length c4] .own), .ro b164 o165 2 l2.length (l2.map (eP (eI .i64) (eI .i64))), .rd (some ⟨b164, o165, none⟩) c4 2 l2.length (l2.map (eP (eI .i64) (eI .i64)))]⟩) v180) ?_ ?_
          · clear hF
            revert v180
            intro r hF
            refine Wk.region ?_
            refine Wo.od (o_mv rfl) rfl ?_
            refine Wo.od (o_bi rfl rfl (bin_lss _ _ _)) rfl ?_
            refine Wo.od (o_mv rfl) rfl ?_
            rcases br_some hF with ⟨h181, hF⟩ | ⟨h181, hF⟩
            · refine Wo.s (gg rfl rfl (eTF h181)) rfl ?_
              refine Wo.s (gg rfl rfl (eTF h181)) rfl ?_
              refine Wo.s (gg rfl rfl (eTF h181)) rfl ?_
              refine Wo.od (o_pt rfl h181 rfl) rfl ?_
              refine Wo.od (o_mv rfl) rfl ?_
              refine Wo.s (gg rfl rfl rfl) rfl ?_
              refine Wo.s (gg rfl rfl rfl) rfl ?_
              refine Wo.s (gg rfl rfl rfl) rfl ?_
              refine Wo.s (gg rfl rfl rfl) rfl ?_
              refine Wo.od (o_pT rfl rfl) rfl ?_
              refine Wo.nil ?_
              cases hF
              exact At.en () rfl (sc rfl (sc rfl (sc rfl (sc rfl (sc rfl sn))))) (Turn.picks [1, 0, 2] rfl rfl)
            · refine Wo.og (o_mv rfl) (gg rfl rfl (eFF h181)) rfl ?_
              refine Wo.og (o_mv rfl) (gg rfl rfl (eFF h181)) rfl ?_
              refine Wo.og (o_bi rfl rfl (bin_geq _ _ _)) (gg rfl rfl (eFF h181)) rfl ?_
              refine Wo.od (o_pf rfl h181 rfl) rfl ?_
              refine Wo.od (o_mv rfl) rfl ?_
              rcases br_some hF with ⟨h182, hF⟩ | ⟨h182, hF⟩
              · refine Wo.s (gg rfl rfl (eTF h182)) rfl ?_
                refine Wo.s (gg rfl rfl (eTF h182)) rfl ?_
                refine Wo.s (gg rfl rfl (eTF h182)) rfl ?_
                refine Wo.s (gg rfl rfl (eTF h182)) rfl ?_
                refine Wo.od (o_pt rfl h182 rfl) rfl ?_
                refine Wo.nil ?_
                cases hF
                exact At.en () rfl (sc rfl (sc rfl (sc rfl (sc rfl (sc rfl sn))))) (Turn.picks [1, 0, 2] rfl rfl)
              · refine Wo.og (o_mv rfl) (gg rfl rfl (eFF h182)) rfl ?_
                refine Wo.og (o_fa (r := ptr b6 0) rfl (fa25_0 _ _)) (gg rfl rfl (eFF h182)) rfl ?_
                refine Wo.og (o_ld (k := 1) t3 rfl rfl rfl) (gg rfl rfl (eFF h182)) rfl ?_
                refine Wo.og (o_bi rfl rfl (bin_geq _ _ _)) (gg rfl rfl (eFF h182)) rfl ?_
                refine Wo.od (o_pf rfl h182 rfl) rfl ?_
                refine Wo.nil ?_
                cases hF
                exact At.en () rfl (sc rfl (sc rfl (sc rfl (sc rfl (sc rfl sn))))) (Turn.picks [1, 0, 2] rfl rfl)
          · clear h183
            rintro ⟨⟩
            refine At.tn ?_
            rcases br_some hF with ⟨h185, hF⟩ | ⟨h185, hF⟩
            · refine Wk.condT rfl h185 ?_
              refine Wk.seq ?_
              refine Wk.region ?_
              refine Wo.od (o_as rfl) rfl ?_
              refine Wo.nil ?_
              refine At.tn ?_
              refine Wk.ret ?_
              refine At.tr ?_
              refine At.br ?_
              refine At.tr ?_
              cases hF
              exact At.en () rfl (sc rfl sn) (Turn.picks [] rfl rfl)
            · refine Wk.condF rfl h185 ?_
              refine Wk.skip ?_
              refine At.tn ?_
              refine Wk.seq ?_
              obtain ⟨v195, h205, hF⟩ := ob_some hF
              refine Wk.cut (G := (fun (r : Bool) (g : Unit) => match r, g with | v195, _ => ⟨.normal, [(1, ptr b6 0), (3, .int .i64 v24), (86, .bool v195)], [.obj b6 (.cells [.int .i64 x1, .slice (some ⟨b164, o165, none⟩) l2.length c4] .own), .ro b164 o165 2 l2.length (l2.map (eP (eI .i64) (eI .i64))), .rd (some ⟨b164, o165, none⟩) c4 2 l2.length (l2.map (eP (eI .i64) (eI .i64)))]⟩) v195) ?_ ?_
              · clear hF
                revert v195
                intro r hF
                refine Wk.region ?_
                refine Wo.od (o_mv rfl) rfl ?_
                refine Wo.od (o_bi rfl rfl (bin_gtr _ _ _)) rfl ?_
                refine Wo.od (o_mv rfl) rfl ?_
                rcases br_some hF with ⟨h196, hF⟩ | ⟨h196, hF⟩
                · refine Wo.og (o_fa (r := ptr b6 1) rfl (fa25_1 _ _)) (gg rfl rfl (eTT h196)) rfl ?_
                  refine Wo.og (o_ld (k := 0) t23 rfl rfl rfl) (gg rfl rfl (eTT h196)) rfl ?_
                  refine Wo.og (o_mv rfl) (gg rfl rfl (eTT h196)) rfl ?_
                  refine Wo.og (o_bi rfl rfl (bin_sub _ _ _)) (gg rfl rfl (eTT h196)) rfl ?_
                  obtain ⟨h197, hF⟩ := gd_some hF
                  replace h197 := inB_some h197
                  refine Wo.og (o_ixs s23 rfl rfl h197) (gg rfl rfl (eTT h196)) rfl ?_
                  refine Wo.og (o_ia (r := ptr b164 (o165 + (IntKind.wrap .i64 (v24 - 1)).toNat * 2 + 0)) rfl rfl (ia_c ar26 (i := 0) (by decide))) (gg rfl rfl (eTT h196)) rfl ?_
                  obtain ⟨⟨x198, x199⟩, h200, hF⟩ := ob_some hF
                  refine Wo.og (o_ldr (k := 1) t3 rfl rfl (map_at h200) rfl rfl) (gg rfl rfl (eTT h196)) rfl ?_
                  refine Wo.og (o_mv rfl) (gg rfl rfl (eTT h196)) rfl ?_
                  refine Wo.og (o_bi rfl rfl (bin_gtr _ _ _)) (gg rfl rfl (eTT h196)) rfl ?_
                  refine Wo.og (o_mv rfl) (gg rfl rfl (eTT h196)) rfl ?_
                  rcases br_some hF with ⟨h201, hF⟩ | ⟨h201, hF⟩
                  · refine Wo.s (gg rfl rfl (eTF h201)) rfl ?_
                    refine Wo.s (gg rfl rfl (eTF h201)) rfl ?_
                    refine Wo.s (gg rfl rfl (eTF h201)) rfl ?_
                    refine Wo.s (gg rfl rfl (eTF h201)) rfl ?_
                    refine Wo.s (gg rfl rfl (eTF h201)) rfl ?_
                    refine Wo.s (gg rfl rfl (eTF h201)) rfl ?_
                    refine Wo.s (gg rfl rfl (eTF h201)) rfl ?_
                    refine Wo.s (gg rfl rfl (eTF h201)) rfl ?_
                    refine Wo.s (gg rfl rfl (eTF h201)) rfl ?_
                    refine Wo.s (gg rfl rfl (eTF h201)) rfl ?_
                    refine Wo.s (gu rfl rfl) rfl ?_
                    refine Wo.s (gu rfl rfl) rfl ?_
                    refine Wo.s (gu rfl rfl) rfl ?_
                    refine Wo.s (gu rfl rfl) rfl ?_
                    refine Wo.s (gu rfl rfl) rfl ?_
                    refine Wo.s (gu rfl rfl) rfl ?_
                    refine Wo.s (gu rfl rfl) rfl ?_
                    refine Wo.s (gu rfl rfl) rfl ?_
                    refine Wo.s (gu rfl rfl) rfl ?_
                    refine Wo.s (gg rfl rfl (eTF h201)) rfl ?_
                    refine Wo.og (o_pt rfl h201 rfl) (gg rfl rfl (eTT h196)) rfl ?_
                    refine Wo.od (o_pt rfl h196 rfl) rfl ?_
                    refine Wo.nil ?_
                    cases hF
                    exact At.en () rfl (sc rfl (sc rfl (sc rfl sn))) (Turn.picks [0, 1, 2] rfl rfl)
                  · refine Wo.og (o_fa (r := ptr b6 1) rfl (fa25_1 _ _)) (gg rfl rfl (eFF h201)) rfl ?_
                    refine Wo.og (o_ld (k := 0) t23 rfl rfl rfl) (gg rfl rfl (eFF h201)) rfl ?_
                    refine Wo.og (o_mv rfl) (gg rfl rfl (eFF h201)) rfl ?_
                    refine Wo.og (o_bi rfl rfl (bin_sub _ _ _)) (gg rfl rfl (eFF h201)) rfl ?_
                    obtain ⟨h202, hF⟩ := gd_some hF
                    replace h202 := inB_some h202
                    refine Wo.og (o_ixs s23 rfl rfl h202) (gg rfl rfl (eFF h201)) rfl ?_
                    refine Wo.og (o_ia (r := ptr b164 (o165 + (IntKind.wrap .i64 (v24 - 1)).toNat * 2 + 0)) rfl rfl (ia_c ar26 (i := 0) (by decide))) (gg rfl rfl (eFF h201)) rfl ?_
                    refine Wo.og (o_ldr (k := 1) t3 rfl rfl (map_at h200) rfl rfl) (gg rfl rfl (eFF h201)) rfl ?_
                    refine Wo.og (o_mv rfl) (gg rfl rfl (eFF h201)) rfl ?_
                    refine Wo.og (o_bi rfl rfl (bin_eql _ _ _)) (gg rfl rfl (eFF h201)) rfl ?_
                    refine Wo.og (o_mv rfl) (gg rfl rfl (eFF h201)) rfl ?_
                    rcases br_some hF with ⟨h203, hF⟩ | ⟨h203, hF⟩
                    · refine Wo.og (o_fa (r := ptr b6 1) rfl (fa25_1 _ _)) (gg rfl rfl (eTT h203)) rfl ?_
                      refine Wo.og (o_ld (k := 0) t23 rfl rfl rfl) (gg rfl rfl (eTT h203)) rfl ?_
                      refine Wo.og (o_mv rfl) (gg rfl rfl (eTT h203)) rfl ?_
                      refine Wo.og (o_bi rfl rfl (bin_sub _ _ _)) (gg rfl rfl (eTT h203)) rfl ?_
                      obtain ⟨h204, hF⟩ := gd_some hF
                      replace h204 := inB_some h204
                      refine Wo.og (o_ixs s23 rfl rfl h204) (gg rfl rfl (eTT h203)) rfl ?_
                      refine Wo.og (o_ia (r := ptr b164 (o165 + (IntKind.wrap .i64 (v24 - 1)).toNat * 2 + 1)) rfl rfl (ia_c ar26 (i := 1) (by decide))) (gg rfl rfl (eTT h203)) rfl ?_
                      refine Wo.og (o_ldr (k := 1) t3 rfl rfl (map_at h200) rfl rfl) (gg rfl rfl (eTT h203)) rfl ?_
                      refine Wo.og (o_mv rfl) (gg rfl rfl (eTT h203)) rfl ?_
                      refine Wo.og (o_bi rfl rfl (bin_geq _ _ _)) (gg rfl rfl (eTT h203)) rfl ?_
                      refine Wo.og (o_pt rfl h203 rfl) (gg rfl rfl (eFF h201)) rfl ?_
                      refine Wo.og (o_pf rfl h201 rfl) (gg rfl rfl (eTT h196)) rfl ?_
                      refine Wo.od (o_pt rfl h196 rfl) rfl ?_
                      refine Wo.nil ?_
                      cases hF
                      exact At.en () rfl (sc rfl (sc rfl (sc rfl sn))) (Turn.picks [0, 1, 2] rfl rfl)
                    · refine Wo.s (gg rfl rfl (eFT h203)) rfl ?_
                      refine Wo.s (gg rfl rfl (eFT h203)) rfl ?_
                      refine Wo.s (gg rfl rfl (eFT h203)) rfl ?_
                      refine Wo.s (gg rfl rfl (eFT h203)) rfl ?_
                      refine Wo.s (gg rfl rfl (eFT h203)) rfl ?_
                      refine Wo.s (gg rfl rfl (eFT h203)) rfl ?_
                      refine Wo.s (gg rfl rfl (eFT h203)) rfl ?_
                      refine Wo.s (gg rfl rfl (eFT h203)) rfl ?_
                      refine Wo.s (gg rfl rfl (eFT h203)) rfl ?_
                      refine Wo.og (o_pf rfl h203 rfl) (gg rfl rfl (eFF h201)) rfl ?_
                      refine Wo.og (o_pf rfl h201 rfl) (gg rfl rfl (eTT h196)) rfl ?_
                      refine Wo.od (o_pt rfl h196 rfl) rfl ?_
                      refine Wo.nil ?_
                      cases hF
                      exact At.en () rfl (sc rfl (sc rfl (sc rfl sn))) (Turn.picks [0, 1, 2] rfl rfl)
                · refine Wo.s (gg rfl rfl (eFT h196)) rfl ?_
                  refine Wo.s (gg rfl rfl (eFT h196)) rfl ?_
                  refine Wo.s (gg rfl rfl (eFT h196)) rfl ?_
                  refine Wo.s (gg rfl rfl (eFT h196)) rfl ?_
                  refine Wo.s (gg rfl rfl (eFT h196)) rfl ?_
                  refine Wo.s (gg rfl rfl (eFT h196)) rfl ?_
                  refine Wo.s (gg rfl rfl (eFT h196)) rfl ?_
                  refine Wo.s (gg rfl rfl (eFT h196)) rfl ?_
                  refine Wo.s (gg rfl rfl (eFT h196)) rfl ?_
                  refine Wo.s (gg rfl rfl (eFT h196)) rfl ?_
                  refine Wo.s (gu rfl rfl) rfl ?_
                  refine Wo.s (gu rfl rfl) rfl ?_
                  refine Wo.s (gu rfl rfl) rfl ?_
                  refine Wo.s (gu rfl rfl) rfl ?_
                  refine Wo.s (gu rfl rfl) rfl ?_
                  refine Wo.s (gu rfl rfl) rfl ?_
                  refine Wo.s (gu rfl rfl) rfl ?_
                  refine Wo.s (gu rfl rfl) rfl ?_
                  refine Wo.s (gu rfl rfl) rfl ?_
                  refine Wo.s (gu rfl rfl) rfl ?_
                  refine Wo.s (gu rfl rfl) rfl ?_
                  refine Wo.s (gu rfl rfl) rfl ?_
                  refine Wo.s (gu rfl rfl) rfl ?_
                  refine Wo.s (gu rfl rfl) rfl ?_
                  refine Wo.s (gu rfl rfl) rfl ?_
                  refine Wo.s (gu rfl rfl) rfl ?_
                  refine Wo.s (gu rfl rfl) rfl ?_
                  refine Wo.s (gu rfl rfl) rfl ?_
                  refine Wo.s (gu rfl rfl) rfl ?_
                  refine Wo.s (gu rfl rfl) rfl ?_
                  refine Wo.s (gg rfl rfl (eFT h196)) rfl ?_
                  refine Wo.od (o_pf rfl h196 rfl) rfl ?_
                  refine Wo.nil ?_
                  cases hF
                  exact At.en () rfl (sc rfl (sc rfl (sc rfl sn))) (Turn.picks [0, 1, 2] rfl rfl)
              · clear h205
                rintro ⟨⟩
                refine At.tn ?_
                rcases br_some hF with ⟨h207, hF⟩ | ⟨h207, hF⟩
                · refine Wk.condT rfl h207 ?_
                  refine Wk.seq ?_
                  refine Wk.region ?_
                  refine Wo.od (o_as rfl) rfl ?_
                  refine Wo.nil ?_
                  refine At.tn ?_
                  refine Wk.ret ?_
                  refine At.br ?_
                  refine At.tr ?_
                  cases hF
                  exact At.en () rfl (sc rfl sn) (Turn.picks [] rfl rfl)
                · refine Wk.condF rfl h207 ?_
                  refine Wk.skip ?_
                  refine At.bn ?_
                  refine At.tn ?_
                  refine Wk.region ?_
                  refine Wo.od (o_mv rfl) rfl ?_
                  refine Wo.od (o_bi rfl rfl (bin_add _ _ _)) rfl ?_
                  refine Wo.od (o_as rfl) rfl ?_
                  refine Wo.nil ?_
                  cases hF
                  exact At.en () rfl (sc rfl (sc rfl sn)) (Turn.picks [0, 2] rfl rfl)
        · refine Wk.condF rfl h117 ?_
          refine Wk.exit ?_
          refine At.te ?_
          cases hF
          exact At.en () rfl sn (Turn.picks [] rfl rfl)
      · clear h208
        rcases r209 with _ | _
        · rintro ⟨⟩
          refine At.br ?_
          refine At.tr ?_
          cases hF
          exact At.ret (.tmp rfl .nil) fun m' hm => ⟨(), rfl, (Turn.picks [] rfl rfl) m' hm⟩
        · rintro ⟨⟩
          refine At.be ?_
          refine At.tn ?_
          refine Wk.seq ?_
          refine Wk.region ?_
          refine Wo.od (o_as rfl) rfl ?_
          refine Wo.nil ?_
          refine At.tn ?_
          refine Wk.ret ?_
          cases hF
          exact At.ret (.tmp rfl .nil) fun m' hm => ⟨(), rfl, (Turn.picks [] rfl rfl) m' hm⟩

theorem f66_ok (n : Nat) (x1 : Int) (l2 : List (Int × Int)) (x6 : Nat) (a3 : Option Addr) (c4 : Nat) (r : Int) (hF : F66 n x1 l2 x6 = some r) (m : AMem) (h5 : Rd m a3 c4 2 l2.length (l2.map (eP (eI .i64) (eI .i64)))) :
    CallA E18w 66 [.agg #[.int .i64 x1, .slice a3 l2.length c4], .int .u64 ((x6 : Nat) : Int)] m (fun v m' => ∃ x : Unit, v = .int .i64 r ∧ Hp m m' []) := by
  unfold F66 at hF
  refine call_wk (m0 := m) (ps := [.rd a3 c4 2 l2.length (l2.map (eP (eI .i64) (eI .i64)))]) (N := 22) (rs := [.tmp 4]) rfl Tryd.func66 rfl rfl rfl ((Hp.start m).inn rfl h5) ?_
  refine Wk.seq ?_
  refine Wk.region ?_
  refine Wo.x (o_bx rfl) gn rfl fun b7 => ?_
  refine Wo.od (o_as rfl) rfl ?_
  refine Wo.nil ?_
  refine At.tn ?_
  refine Wk.seq ?_
  refine Wk.seq ?_
  refine Wk.region ?_
  refine Wo.od (o_ld (k := 0) t25 rfl rfl rfl) rfl ?_
  obtain ⟨r9, h8, hF⟩ := ob_some hF
  refine Wo.x (o_cl rfl rfl (fun m hm => f43_ok n x1 l2 a3 c4 _ h8 m (hm.rd (k := 1) rfl (.rd _ _ _ _ _))) fun _ => rfl) gn rfl ?_
  rintro ⟨⟩
  refine Wo.od (o_as rfl) rfl ?_
  refine Wo.nil ?_
  refine At.tn ?_
  refine Wk.seq ?_
  refine Wk.region ?_
  refine Wo.od (o_mv rfl) rfl ?_
  refine Wo.od (o_bi rfl rfl (ib_neq _ _)) rfl ?_
  refine Wo.nil ?_
  refine At.tn ?_
  rcases br_some hF with ⟨h10, hF⟩ | ⟨h10, hF⟩
  · refine Wk.condT rfl h10 ?_
    refine Wk.seq ?_
    refine Wk.region ?_
    refine Wo.od (o_mv rfl) rfl ?_
    refine Wo.od (o_as rfl) rfl ?_
    refine Wo.nil ?_
    refine At.tn ?_
    refine Wk.ret ?_
    refine At.tr ?_
    have hr := Option.some.inj hF
    subst r
    exact At.ret (.tmp rfl .nil) fun m' hm => ⟨(), rfl, (Turn.picks [] rfl rfl) m' hm⟩
  · refine Wk.condF rfl h10 ?_
    refine Wk.skip ?_
    refine At.tn ?_
    refine Wk.seq ?_
    refine Wk.seq ?_
    obtain ⟨v18, h20, hF⟩ := ob_some hF
    refine Wk.cut (G := (fun (r : Bool) (g : Unit) => match r, g with | v18, _ => ⟨.normal, [(21, .bool v18)], []⟩) v18) ?_ ?_
    · clear hF
      revert v18
      intro r hF
      refine Wk.region ?_
      refine Wo.od (o_fa (r := ptr b7 0) rfl (fa25_0 _ _)) rfl ?_
      refine Wo.od (o_ld (k := 0) t3 rfl rfl rfl) rfl ?_
      refine Wo.od (o_bi rfl rfl (bin_lss _ _ _)) rfl ?_
      refine Wo.od (o_mv rfl) rfl ?_
      rcases br_some hF with ⟨h19, hF⟩ | ⟨h19, hF⟩
      · refine Wo.og (o_mv rfl) (gg rfl rfl (eTT h19)) rfl ?_
        refine Wo.og (o_fa (r := ptr b7 0) rfl (fa25_0 _ _)) (gg rfl rfl (eTT h19)) rfl ?_
        refine Wo.og (o_ld (k := 0) t3 rfl rfl rfl) (gg rfl rfl (eTT h19)) rfl ?_
        refine Wo.og (o_cv rfl (cv_u (by rw [u3]; rfl) u102 rfl)) (gg rfl rfl (eTT h19)) rfl ?_
        refine Wo.og (o_bi rfl rfl (ub_shr _ _ (nn _))) (gg rfl rfl (eTT h19)) rfl ?_
        refine Wo.og (o_bi rfl rfl (ub_neq _ _)) (gg rfl rfl (eTT h19)) rfl ?_
        refine Wo.od (o_pt rfl h19 rfl) rfl ?_
        refine Wo.nil ?_
        cases hF
        exact At.en () rfl (sc rfl sn) (Turn.picks [] rfl rfl)
      · refine Wo.s (gg rfl rfl (eFT h19)) rfl ?_
        refine Wo.s (gg rfl rfl (eFT h19)) rfl ?_
        refine Wo.s (gg rfl rfl (eFT h19)) rfl ?_
        refine Wo.s (gg rfl rfl (eFT h19)) rfl ?_
        refine Wo.s (gg rfl rfl (eFT h19)) rfl ?_
        refine Wo.s (gg rfl rfl (eFT h19)) rfl ?_
        refine Wo.od (o_pf rfl h19 rfl) rfl ?_
        refine Wo.nil ?_
        cases hF
        exact At.en () rfl (sc rfl sn) (Turn.picks [] rfl rfl)
    · clear h20
      rintro ⟨⟩
      refine At.tn ?_
      rcases br_some hF with ⟨h22, hF⟩ | ⟨h22, hF⟩
      · refine Wk.condT rfl h22 ?_
        refine Wk.seq ?_
        refine Wk.region ?_
        refine Wo.od (o_as rfl) rfl ?_
        refine Wo.nil ?_
        refine At.tn ?_
        refine Wk.ret ?_
        refine At.tr ?_
        cases hF
        exact At.ret (.tmp rfl .nil) fun m' hm => ⟨(), rfl, (Turn.picks [] rfl rfl) m' hm⟩
      · refine Wk.condF rfl h22 ?_
        refine Wk.skip ?_
        refine At.tn ?_
        refine Wk.seq ?_
        refine Wk.region ?_
        refine Wo.od (o_as rfl) rfl ?_
        refine Wo.nil ?_
        refine At.tn ?_
        refine Wk.ret ?_
        cases hF
        exact At.ret (.tmp rfl .nil) fun m' hm => ⟨(), rfl, (Turn.picks [] rfl rfl) m' hm⟩

theorem f67_ok (n : Nat) (x1 : Nat) (x2 : Int)  (r : Bool) (hF : F67 n x1 x2 = some r) (m : AMem)  :
    CallA E18w 67 [.int .u64 ((x1 : Nat) : Int), .int .i64 x2] m (fun v m' => ∃ x : Unit, v = .bool r ∧ Hp m m' []) := by
  unfold F67 at hF
  refine call_wk (m0 := m) (ps := []) (N := 11) (rs := [.tmp 4]) rfl Tryd.func67 rfl rfl rfl (Hp.start m) ?_
  refine Wk.seq ?_
  refine Wk.region ?_
  refine Wo.od (o_as rfl) rfl ?_
  refine Wo.nil ?_
  refine At.tn ?_
  refine Wk.seq ?_
  refine Wk.region ?_
  refine Wo.od (o_mv rfl) rfl ?_
  refine Wo.od (o_mv rfl) rfl ?_
  refine Wo.od (o_cv rfl (cv_u (by rw [u3]; rfl) u102 rfl)) rfl ?_
  refine Wo.od (o_bi rfl rfl (ub_shr _ _ (nn _))) rfl ?_
  refine Wo.od (o_bi rfl rfl (ub_and rfl _ _)) rfl ?_
  refine Wo.od (o_bi rfl rfl (ub_eql _ _)) rfl ?_
  refine Wo.od (o_as rfl) rfl ?_
  refine Wo.nil ?_
  refine At.tn ?_
  refine Wk.ret ?_
  cases hF
  exact At.ret (.tmp rfl .nil) fun m' hm => ⟨(), rfl, (Turn.picks [] rfl rfl) m' hm⟩

theorem f68_ok (n : Nat) (x1 : Int)  (r : Nat) (hF : F68 n x1 = some r) (m : AMem)  :
    CallA E18w 68 [.int .i64 x1] m (fun v m' => ∃ x : Unit, v = .int .u64 ((r : Nat) : Int) ∧ Hp m m' []) := by
  unfold F68 at hF
  refine call_wk (m0 := m) (ps := []) (N := 6) (rs := [.tmp 2]) rfl Tryd.func68 rfl rfl rfl (Hp.start m) ?_
  refine Wk.seq ?_
  refine Wk.region ?_
  refine Wo.od (o_as rfl) rfl ?_
  refine Wo.nil ?_
  refine At.tn ?_
  refine Wk.seq ?_
  refine Wk.region ?_
  refine Wo.od (o_mv rfl) rfl ?_
  refine Wo.od (o_cv rfl (cv_u (by rw [u3]; rfl) u102 rfl)) rfl ?_
  refine Wo.od (o_bi rfl rfl (ub_shl rfl _ _ (nn _))) rfl ?_
  refine Wo.od (o_as rfl) rfl ?_
  refine Wo.nil ?_
  refine At.tn ?_
  refine Wk.ret ?_
  cases hF
  exact At.ret (.tmp rfl .nil) fun m' hm => ⟨(), rfl, (Turn.picks [] rfl rfl) m' hm⟩

theorem f30_ok (n : Nat) (x1 : Int) (l2 : List (Int × Int)) (x6 : Nat) (a3 : Option Addr) (c4 : Nat) (r : Nat × Int) (hF : F30 n x1 l2 x6 = some r) (m : AMem) (h5 : Rd m a3 c4 2 l2.length (l2.map (eP (eI .i64) (eI .i64)))) :
    CallA E18w 30 [.agg #[.int .i64 x1, .slice a3 l2.length c4], .int .u64 ((x6 : Nat) : Int)] m (fun v m' => ∃ x : Unit, v = .tuple #[.int .u64 ((r.1 : Nat) : Int), .int .i64 r.2] ∧ Hp m m' []) := by
  unfold F30 at hF
  refine call_wk (m0 := m) (ps := [.rd a3 c4 2 l2.length (l2.map (eP (eI .i64) (eI .i64)))]) (N := 63) (rs := [.tmp 4, .tmp 5]) rfl Tryd.func30 rfl rfl rfl ((Hp.start m).inn rfl h5) ?_
  refine Wk.seq ?_
  refine Wk.region ?_
  refine Wo.x (o_bx rfl) gn rfl fun b7 => ?_
  refine Wo.od (o_as rfl) rfl ?_
  refine Wo.od (o_as rfl) rfl ?_
  refine Wo.nil ?_
  refine At.tn ?_
  refine Wk.seq ?_
  refine Wk.seq ?_
  refine Wk.region ?_
  refine Wo.od (o_ld (k := 0) t25 rfl rfl rfl) rfl ?_
  refine Wo.od (o_mv rfl) rfl ?_
  obtain ⟨r9, h8, hF⟩ := ob_some hF
  refine Wo.x (o_cl rfl rfl (fun m hm => f66_ok n x1 l2 x6 a3 c4 _ h8 m (hm.rd (k := 1) rfl (.rd _ _ _ _ _))) fun _ => rfl) gn rfl ?_
  rintro ⟨⟩
  refine Wo.od (o_as rfl) rfl ?_
  refine Wo.nil ?_
  refine At.tn ?_
  refine Wk.seq ?_
  refine Wk.region ?_
  refine Wo.od (o_mv rfl) rfl ?_
  refine Wo.od (o_bi rfl rfl (ib_neq _ _)) rfl ?_
  refine Wo.nil ?_
  refine At.tn ?_
  rcases br_some hF with ⟨h10, hF⟩ | ⟨h10, hF⟩
  · refine Wk.condT rfl h10 ?_
    refine Wk.seq ?_
    refine Wk.region ?_
    refine Wo.od (o_mv rfl) rfl ?_
    refine Wo.od (o_as rfl) rfl ?_
    refine Wo.od (o_as rfl) rfl ?_
    refine Wo.nil ?_
    refine At.tn ?_
    refine Wk.ret ?_
    refine At.tr ?_
    cases hF
    exact At.ret (.tmp rfl (.tmp rfl .nil)) fun m' hm => ⟨(), rfl, (Turn.picks [] rfl rfl) m' hm⟩
  · refine Wk.condF rfl h10 ?_
    refine Wk.skip ?_
    refine At.tn ?_
    refine Wk.seq ?_
    refine Wk.region ?_
    refine Wo.od (o_as rfl) rfl ?_
    refine Wo.nil ?_
    refine At.tn ?_
    refine Wk.seq ?_
    refine Wk.seq ?_
    refine Wk.region ?_
    refine Wo.od (o_as rfl) rfl ?_
    refine Wo.nil ?_
    refine At.tn ?_
    refine Wk.block ?_
    obtain ⟨v137, h258, hF⟩ := ob_some hF
    refine Wk.cut (G := (fun (r : Nat) (g : Unit) => match r, g with | v137, _ => ⟨(.exit 0), [(7, .int .u64 ((v137 : Nat) : Int))], []⟩) v137) ?_ ?_
    · refine Wk.weak (fs' := [(1, .int .u64 ((x6 : Nat) : Int)), (2, ptr b7 0), (7, .int .u64 ((0 : Nat) : Int)), (8, .int .i64 0)]) (ps' := [.obj b7 (.cells [.int .i64 x1, .slice a3 l2.length c4] .own), .rd a3 c4 2 l2.length (l2.map (eP (eI .i64) (eI .i64)))]) (sc rfl (sc rfl (sc rfl (sc rfl sn)))) (Turn.picks [0, 1] rfl rfl) ?_
      refine Wk.loop (σ := Nat × Int) (ρ := Nat) (γ := Unit) (δ := fun _ => Unit) _ (fun (s : Nat × Int) (g : Unit) => match s, g with | (v13, v14), _ => ⟨.normal, [(1, .int .u64 ((x6 : Nat) : Int)), (2, ptr b7 0), (7, .int .u64 ((v13 : Nat) : Int)), (8, .int .i64 v14)], [.obj b7 (.cells [.int .i64 x1, .slice a3 l2.length c4] .own), .rd a3 c4 2 l2.length (l2.map (eP (eI .i64) (eI .i64)))]⟩) (fun (r : Nat) (g : Unit) => match r, g with | v137, _ => ⟨(.exit 0), [(7, .int .u64 ((v137 : Nat) : Int))], []⟩) ?_ (fun _ _ => rfl) (fun r d => by intro e; cases e) _ _ _ h258 ()
      clear hF h258
      rintro ⟨v13, v14⟩ ⟨⟩ r hF
      unfold L30_1 at hF
      refine Wk.seq ?_
      refine Wk.seq ?_
      refine Wk.region ?_
      refine Wo.od (o_mv rfl) rfl ?_
      refine Wo.od (o_fa (r := ptr b7 1) rfl (fa25_1 _ _)) rfl ?_
      refine Wo.od (o_ld (k := 0) t23 rfl rfl rfl) rfl ?_
      refine Wo.od (o_ln (k := 1) u23 rfl rfl (.inl rfl)) rfl ?_
      refine Wo.od (o_bi rfl rfl (bin_lss _ _ _)) rfl ?_
      refine Wo.nil ?_
      refine At.tn ?_
      rcases br_some hF with ⟨h138, hF⟩ | ⟨h138, hF⟩
      · refine Wk.condT rfl h138 ?_
        refine Wk.skip ?_
        refine At.tn ?_
        refine Wk.seq ?_
        obtain ⟨v197, h256, hF⟩ := ob_some hF
        refine Wk.cut (G := (fun (r : Nat) (g : Unit) => match r, g with | v197, _ => ⟨.normal, [(1, .int .u64 ((x6 : Nat) : Int)), (2, ptr b7 0), (7, .int .u64 ((v197 : Nat) : Int)), (8, .int .i64 v14)], [.obj b7 (.cells [.int .i64 x1, .slice a3 l2.length c4] .own), .rd a3 c4 2 l2.length (l2.map (eP (eI .i64) (eI .i64)))]⟩) v197) ?_ ?_
        · clear hF
          revert v197
          intro r hF
          refine Wk.block ?_
          refine Wk.seq ?_
          refine Wk.draw (by kernel_rfl) ?_
          refine Wo.od (o_fa (r := ptr b7 1) rfl (fa25_1 _ _)) rfl ?_
          refine Wo.od (o_ld (k := 0) t23 rfl rfl rfl) rfl ?_
          refine Wo.od (o_mv rfl) rfl ?_
          obtain ⟨h198, hF⟩ := gd_some hF
          replace h198 := inB_some h198
          refine Wo.openr (k := 1) rfl (pos_of h198) ?_
          rintro b199 o200 rfl
          refine Wo.og (o_ixs s23 rfl rfl h198) gn rfl ?_
          refine Wo.od (o_ia (r := ptr b199 (o200 + v14.toNat * 2 + 0)) rfl rfl (ia_c ar26 (i := 0) (by decide))) rfl ?_
          obtain ⟨⟨x201, x202⟩, h203, hF⟩ := ob_some hF
          refine Wo.od (o_ldr (k := 0) t3 rfl rfl (map_at h203) rfl rfl) rfl ?_
          refine Wo.od (o_fa (r := ptr b7 1) rfl (fa25_1 _ _)) rfl ?_
          refine Wo.od (o_ld (k := 1) t23 rfl rfl rfl) rfl ?_
          refine Wo.od (o_mv rfl) rfl ?_
          obtain ⟨h204, hF⟩ := gd_some hF
          replace h204 := inB_some h204
          refine Wo.og (o_ixs s23 rfl rfl h204) gn rfl ?_
          refine Wo.od (o_ia (r := ptr b199 (o200 + v14.toNat * 2 + 1)) rfl rfl (ia_c ar26 (i := 1) (by decide))) rfl ?_
          refine Wo.od (o_ldr (k := 0) t3 rfl rfl (map_at h203) rfl rfl) rfl ?_
          refine Wo.od (o_as rfl) rfl ?_
          refine Wo.od (o_as rfl) rfl ?_
          refine Wo.nil ?_
          refine At.tn ?_
          refine Wk.seq ?_
          obtain ⟨v221, h238, hF⟩ := ob_some hF
          refine Wk.cut (G := (fun (r : Nat) (g : Unit) => match r, g with | v221, _ => ⟨.normal, [(1, .int .u64 ((x6 : Nat) : Int)), (2, ptr b7 0), (7, .int .u64 ((v221 : Nat) : Int)), (8, .int .i64 v14), (9, .int .i64 x201), (10, .int .i64 x202)], [.obj b7 (.cells [.int .i64 x1, .slice (some ⟨b199, o200, none⟩) l2.length c4] .own), .ro b199 o200 2 l2.length (l2.map (eP (eI .i64) (eI .i64))), .rd (some ⟨b199, o200, none⟩) c4 2 l2.length (l2.map (eP (eI .i64) (eI .i64)))]⟩) v221) ?_ ?_
          · clear hF
            revert v221
            intro r hF
            refine Wk.seq ?_
            obtain ⟨v227, h233, hF⟩ := ob_some hF
            refine Wk.cut (G := (fun (r : Bool) (g : Unit) => match r, g with | v227, _ => ⟨.normal, [(1, .int .u64 ((x6 : Nat) : Int)), (2, ptr b7 0), (7, .int .u64 ((v13 : Nat) : Int)), (8, .int .i64 v14), (9, .int .i64 x201), (10, .int .i64 x202), (44, .bool v227)], [.obj b7 (.cells [.int .i64 x1, .slice (some ⟨b199, o200, none⟩) l2.length c4] .own), .ro b199 o200 2 l2.length (l2.map (eP (eI .i64) (eI .i64))), .rd (some ⟨b199, o200, none⟩) c4 2 l2.length (l2.map (eP (eI .i64) (eI .i64)))]⟩) v227) ?_ ?_
            · clear hF
              revert v227
              intro r hF
              refine Wk.region ?_
              refine Wo.od (o_mv rfl) rfl ?_
              refine Wo.od (o_mv rfl) rfl ?_
              obtain ⟨r229, h228, hF⟩ := ob_some hF
              refine Wo.x (o_cl rfl rfl (fun m hm => f67_ok n x6 x201  _ h228 m ) fun _ => rfl) gn rfl ?_
              rintro ⟨⟩
              refine Wo.od (o_mv rfl) rfl ?_
              rcases br_some hF with ⟨h230, hF⟩ | ⟨h230, hF⟩
              · refine Wo.og (o_mv rfl) (gg rfl rfl (eTT h230)) rfl ?_
                refine Wo.og (o_mv rfl) (gg rfl rfl (eTT h230)) rfl ?_
                obtain ⟨r232, h231, hF⟩ := ob_some hF
                refine Wo.x (o_cl rfl rfl (fun m hm => f67_ok n x6 x202  _ h231 m ) fun _ => rfl) (gg rfl rfl (eTT h230)) rfl ?_
                rintro ⟨⟩
                refine Wo.og (o_un rfl rfl) (gg rfl rfl (eTT h230)) rfl ?_
                refine Wo.od (o_pt rfl h230 rfl) rfl ?_
                refine Wo.nil ?_
                cases hF
                exact At.en () rfl (sc rfl (sc rfl (sc rfl (sc rfl (sc rfl (sc rfl (sc rfl sn))))))) (Turn.picks [1, 0, 2] rfl rfl)
              · refine Wo.s (gg rfl rfl (eFT h230)) rfl ?_
                refine Wo.s (gg rfl rfl (eFT h230)) rfl ?_
                refine Wo.s (gg rfl rfl (eFT h230)) rfl ?_
                refine Wo.s (gg rfl rfl (eFT h230)) rfl ?_
                refine Wo.od (o_pf rfl h230 rfl) rfl ?_
                refine Wo.nil ?_
                cases hF
                exact At.en () rfl (sc rfl (sc rfl (sc rfl (sc rfl (sc rfl (sc rfl (sc rfl sn))))))) (Turn.picks [1, 0, 2] rfl rfl)
            · clear h233
              rintro ⟨⟩
              refine At.tn ?_
              rcases br_some hF with ⟨h235, hF⟩ | ⟨h235, hF⟩
              · refine Wk.condT rfl h235 ?_
                refine Wk.region ?_
                refine Wo.od (o_mv rfl) rfl ?_
                refine Wo.od (o_mv rfl) rfl ?_
                obtain ⟨r237, h236, hF⟩ := ob_some hF
                refine Wo.x (o_cl rfl rfl (fun m hm => f68_ok n x202  _ h236 m ) fun _ => rfl) gn rfl ?_
                rintro ⟨⟩
                refine Wo.od (o_bi rfl rfl (ub_or rfl _ _)) rfl ?_
                refine Wo.od (o_as rfl) rfl ?_
                refine Wo.nil ?_
                cases hF
                exact At.en () rfl (sc rfl (sc rfl (sc rfl (sc rfl (sc rfl (sc rfl sn)))))) (Turn.picks [0, 1, 2] rfl rfl)
              · refine Wk.condF rfl h235 ?_
                refine Wk.skip ?_
                have hr := Option.some.inj hF
                subst r
                exact At.en () rfl (sc rfl (sc rfl (sc rfl (sc rfl (sc rfl (sc rfl sn)))))) (Turn.picks [0, 1, 2] rfl rfl)
          · clear h238
            rintro ⟨⟩
            refine At.tn ?_
            refine Wk.seq ?_
            obtain ⟨v245, h251, hF⟩ := ob_some hF
            refine Wk.cut (G := (fun (r : Bool) (g : Unit) => match r, g with | v245, _ => ⟨.normal, [(1, .int .u64 ((x6 : Nat) : Int)), (2, ptr b7 0), (7, .int .u64 ((v221 : Nat) : Int)), (8, .int .i64 v14), (9, .int .i64 x201), (57, .bool v245)], [.obj b7 (.cells [.int .i64 x1, .slice (some ⟨b199, o200, none⟩) l2.length c4] .own), .ro b199 o200 2 l2.length (l2.map (eP (eI .i64) (eI .i64))), .rd (some ⟨b199, o200, none⟩) c4 2 l2.length (l2.map (eP (eI .i64) (eI .i64)))]⟩) v245) ?_ ?_
            · clear hF
              revert v245
              intro r hF
              refine Wk.region ?_
              refine Wo.od (o_mv rfl) rfl ?_
              refine Wo.od (o_mv rfl) rfl ?_
              obtain ⟨r247, h246, hF⟩ := ob_some hF
              refine Wo.x (o_cl rfl rfl (fun m hm => f67_ok n x6 x202  _ h246 m ) fun _ => rfl) gn rfl ?_
              rintro ⟨⟩
              refine Wo.od (o_mv rfl) rfl ?_
              rcases br_some hF with ⟨h248, hF⟩ | ⟨h248, hF⟩
              · refine Wo.og (o_mv rfl) (gg rfl rfl (eTT h248)) rfl ?_
                refine Wo.og (o_mv rfl) (gg rfl rfl (eTT h248)) rfl ?_
                obtain ⟨r250, h249, hF⟩ := ob_some hF
                refine Wo.x (o_cl rfl rfl (fun m hm => f67_ok n x6 x201  _ h249 m ) fun _ => rfl) (gg rfl rfl (eTT h248)) rfl ?_
                rintro ⟨⟩
                refine Wo.og (o_un rfl rfl) (gg rfl rfl (eTT h248)) rfl ?_
                refine Wo.od (o_pt rfl h248 rfl) rfl ?_
                refine Wo.nil ?_
                cases hF
                exact At.en () rfl (sc rfl (sc rfl (sc rfl (sc rfl (sc rfl (sc rfl sn)))))) (Turn.picks [0, 1, 2] rfl rfl)
              · refine Wo.s (gg rfl rfl (eFT h248)) rfl ?_
                refine Wo.s (gg rfl rfl (eFT h248)) rfl ?_
                refine Wo.s (gg rfl rfl (eFT h248)) rfl ?_
                refine Wo.s (gg rfl rfl (eFT h248)) rfl ?_
                refine Wo.od (o_pf rfl h248 rfl) rfl ?_
                refine Wo.nil ?_
                cases hF
                exact At.en () rfl (sc rfl (sc rfl (sc rfl (sc rfl (sc rfl (sc rfl sn)))))) (Turn.picks [0, 1, 2] rfl rfl)
            · clear h251
              rintro ⟨⟩
              refine At.tn ?_
              rcases br_some hF with ⟨h253, hF⟩ | ⟨h253, hF⟩
              · refine Wk.condT rfl h253 ?_
                refine Wk.region ?_
                refine Wo.od (o_mv rfl) rfl ?_
                refine Wo.od (o_mv rfl) rfl ?_
                obtain ⟨r255, h254, hF⟩ := ob_some hF
                refine Wo.x (o_cl rfl rfl (fun m hm => f68_ok n x201  _ h254 m ) fun _ => rfl) gn rfl ?_
                rintro ⟨⟩
                refine Wo.od (o_bi rfl rfl (ub_or rfl _ _)) rfl ?_
                refine Wo.od (o_as rfl) rfl ?_
                refine Wo.nil ?_
                refine At.bn ?_
                cases hF
                exact At.en () rfl (sc rfl (sc rfl (sc rfl (sc rfl sn)))) (Turn.picks [0, 2] rfl rfl)
              · refine Wk.condF rfl h253 ?_
                refine Wk.skip ?_
                refine At.bn ?_
                have hr := Option.some.inj hF
                subst r
                exact At.en () rfl (sc rfl (sc rfl (sc rfl (sc rfl sn)))) (Turn.picks [0, 2] rfl rfl)
        · clear h256
          rintro ⟨⟩
          refine At.tn ?_
          refine Wk.region ?_
          refine Wo.od (o_mv rfl) rfl ?_
          refine Wo.od (o_bi rfl rfl (bin_add _ _ _)) rfl ?_
          refine Wo.od (o_as rfl) rfl ?_
          refine Wo.nil ?_
          cases hF
          exact At.en () rfl (sc rfl (sc rfl (sc rfl (sc rfl sn)))) (Turn.picks [0, 1] rfl rfl)
      · refine Wk.condF rfl h138 ?_
        refine Wk.exit ?_
        refine At.te ?_
        cases hF
        exact At.en () rfl (sc rfl sn) (Turn.picks [] rfl rfl)
    · clear h258
      rintro ⟨⟩
      refine At.be ?_
      refine At.tn ?_
      refine Wk.seq ?_
      refine Wk.region ?_
      refine Wo.od (o_mv rfl) rfl ?_
      refine Wo.od (o_as rfl) rfl ?_
      refine Wo.od (o_as rfl) rfl ?_
      refine Wo.nil ?_
      refine At.tn ?_
      refine Wk.ret ?_
      cases hF
      exact At.ret (.tmp rfl (.tmp rfl .nil)) fun m' hm => ⟨(), rfl, (Turn.picks [] rfl rfl) m' hm⟩

theorem f57_ok (n : Nat) (x1 : Nat) (x2 : Int)  (r : Bool) (hF : F57 n x1 x2 = some r) (m : AMem)  :
    CallA E18w 57 [.int .u64 ((x1 : Nat) : Int), .int .i64 x2] m (fun v m' => ∃ x : Unit, v = .bool r ∧ Hp m m' []) := by
  unfold F57 at hF
  refine call_wk (m0 := m) (ps := []) (N := 10) (rs := [.tmp 4]) rfl Tryd.func57 rfl rfl rfl (Hp.start m) ?_
  refine Wk.seq ?_
  refine Wk.region ?_
  refine Wo.od (o_as rfl) rfl ?_
  refine Wo.nil ?_
  refine At.tn ?_
  refine Wk.seq ?_
  refine Wk.region ?_
  refine Wo.od (o_mv rfl) rfl ?_
  refine Wo.od (o_mv rfl) rfl ?_
  obtain ⟨h3, hF⟩ := gd_some hF
  refine Wo.od (o_bi rfl rfl (ub_shr _ _ h3)) rfl ?_
  refine Wo.od (o_bi rfl rfl (ub_and rfl _ _)) rfl ?_
  refine Wo.od (o_bi rfl rfl (ub_eql _ _)) rfl ?_
  refine Wo.od (o_as rfl) rfl ?_
  refine Wo.nil ?_
  refine At.tn ?_
  refine Wk.ret ?_
  cases hF
  exact At.ret (.tmp rfl .nil) fun m' hm => ⟨(), rfl, (Turn.picks [] rfl rfl) m' hm⟩

theorem f15_ok (n : Nat) (x1 : Int) (l2 : List (Int × Int)) (x6 : Nat) (a3 : Option Addr) (c4 : Nat) (r : List (Int × Int) × Int) (hF : F15 n x1 l2 x6 = some r) (m : AMem) (h5 : Rd m a3 c4 2 l2.length (l2.map (eP (eI .i64) (eI .i64)))) :
    CallA E18w 15 [.agg #[.int .i64 x1, .slice a3 l2.length c4], .int .u64 ((x6 : Nat) : Int)] m (fun v m' => ∃ x : Option Addr × Nat, v = .tuple #[.slice x.1 x.2 x.2, .int .i64 r.2] ∧ Hp m m' [.sl x.1 2 x.2 (r.1.map (eP (eI .i64) (eI .i64)))]) := by
  unfold F15 at hF
  refine call_wk (m0 := m) (ps := [.rd a3 c4 2 l2.length (l2.map (eP (eI .i64) (eI .i64)))]) (N := 38) (rs := [.tmp 4, .tmp 5]) rfl Tryd.func15 rfl rfl rfl ((Hp.start m).inn rfl h5) ?_
  refine Wk.seq ?_
  refine Wk.region ?_
  refine Wo.x (o_bx rfl) gn rfl fun b7 => ?_
  refine Wo.od (o_as rfl) rfl ?_
  refine Wo.od (o_as rfl) rfl ?_
  refine Wo.nil ?_
  refine At.tn ?_
  refine Wk.seq ?_
  refine Wk.seq ?_
  refine Wk.region ?_
  refine Wo.od (o_ld (k := 0) t25 rfl rfl rfl) rfl ?_
  refine Wo.od (o_mv rfl) rfl ?_
  obtain ⟨r9, h8, hF⟩ := ob_some hF
  refine Wo.x (o_cl rfl rfl (fun m hm => f55_ok n x1 l2 x6 a3 c4 _ h8 m (hm.rd (k := 1) rfl (.rd _ _ _ _ _))) fun _ => rfl) gn rfl ?_
  rintro ⟨⟩
  refine Wo.od (o_as rfl) rfl ?_
  refine Wo.nil ?_
  refine At.tn ?_
  refine Wk.seq ?_
  refine Wk.region ?_
  refine Wo.od (o_mv rfl) rfl ?_
  refine Wo.od (o_bi rfl rfl (ib_neq _ _)) rfl ?_
  refine Wo.nil ?_
  refine At.tn ?_
  rcases br_some hF with ⟨h10, hF⟩ | ⟨h10, hF⟩
  · refine Wk.condT rfl h10 ?_
    refine Wk.seq ?_
    refine Wk.region ?_
    refine Wo.od (o_mv rfl) rfl ?_
    refine Wo.od (o_as rfl) rfl ?_
    refine Wo.od (o_as rfl) rfl ?_
    refine Wo.nil ?_
    refine At.tn ?_
    refine Wk.ret ?_
    refine At.tr ?_
    cases hF
    exact At.ret (.tmp rfl (.tmp rfl .nil)) fun m' hm => ⟨(none, 0), rfl, (Turn.trans (Turn.nil 2 rfl) (Turn.picks [0] rfl rfl)) m' hm⟩
  · refine Wk.condF rfl h10 ?_
    refine Wk.skip ?_
    refine At.tn ?_
    refine Wk.seq ?_
    refine Wk.region ?_
    refine Wo.od (o_as rfl) rfl ?_
    refine Wo.nil ?_
    refine At.tn ?_
    refine Wk.seq ?_
    refine Wk.seq ?_
    refine Wk.region ?_
    refine Wo.od (o_fa (r := ptr b7 1) rfl (fa25_1 _ _)) rfl ?_
    refine Wo.od (o_ld (k := 0) t23 rfl rfl rfl) rfl ?_
    refine Wo.od (o_ln (k := 1) u23 rfl rfl (.inl rfl)) rfl ?_
    refine Wo.od (o_mv rfl) rfl ?_
    refine Wo.nil ?_
    refine At.tn ?_
    refine Wk.block ?_
    obtain ⟨l89, h126, hF⟩ := ob_some hF
    refine Wk.cut (G := (fun (r : List (Int × Int)) (g : Option Addr) => match r, g with | l89, a90 => ⟨(.exit 0), [(7, .slice a90 l89.length l89.length)], [.sl a90 2 l89.length (l89.map (eP (eI .i64) (eI .i64)))]⟩) l89) ?_ ?_
    · refine Wk.weak (fs' := [(1, .int .u64 ((x6 : Nat) : Int)), (7, .slice none ([] : List (Int × Int)).length ([] : List (Int × Int)).length), (17, .slice a3 l2.length c4), (18, .int .i64 (l2.length : Int)), (19, .int .i64 0)]) (ps' := [.sl none 2 ([] : List (Int × Int)).length (([] : List (Int × Int)).map (eP (eI .i64) (eI .i64))), .rd a3 c4 2 l2.length (l2.map (eP (eI .i64) (eI .i64)))]) (sc rfl (sc rfl (sc rfl (sc rfl (sc rfl sn))))) (Turn.trans (Turn.nil 2 rfl) (Turn.picks [0, 2] rfl rfl)) ?_
      refine Wk.loop (σ := List (Int × Int) × Int) (ρ := List (Int × Int)) (γ := Option Addr) (δ := fun _ => Option Addr) _ (fun (s : List (Int × Int) × Int) (g : Option Addr) => match s, g with | (l48, v50), a49 => ⟨.normal, [(1, .int .u64 ((x6 : Nat) : Int)), (7, .slice a49 l48.length l48.length), (17, .slice a3 l2.length c4), (18, .int .i64 (l2.length : Int)), (19, .int .i64 v50)], [.sl a49 2 l48.length (l48.map (eP (eI .i64) (eI .i64))), .rd a3 c4 2 l2.length (l2.map (eP (eI .i64) (eI .i64)))]⟩) (fun (r : List (Int × Int)) (g : Option Addr) => match r, g with | l89, a90 => ⟨(.exit 0), [(7, .slice a90 l89.length l89.length)], [.sl a90 2 l89.length (l89.map (eP (eI .i64) (eI .i64)))]⟩) ?_ (fun _ _ => rfl) (fun r d => by intro e; cases e) _ _ _ h126 none
      clear hF h126
      rintro ⟨l48, v50⟩ a49 r hF
      unfold L15_1 at hF
      refine Wk.seq ?_
      refine Wk.region ?_
      refine Wo.od (o_bi rfl rfl (bin_lss _ _ _)) rfl ?_
      refine Wo.nil ?_
      refine At.tn ?_
      refine Wk.seq ?_
      rcases br_some hF with ⟨h91, hF⟩ | ⟨h91, hF⟩
      · refine Wk.condT rfl h91 ?_
        refine Wk.skip ?_
        refine At.tn ?_
        refine Wk.seq ?_
        obtain ⟨l107, h124, hF⟩ := ob_some hF
        refine Wk.cut (G := (fun (r : List (Int × Int)) (g : Option Addr) => match r, g with | l107, a108 => ⟨.normal, [(1, .int .u64 ((x6 : Nat) : Int)), (7, .slice a108 l107.length l107.length), (17, .slice a3 l2.length c4), (18, .int .i64 (l2.length : Int)), (19, .int .i64 v50)], [.sl a108 2 l107.length (l107.map (eP (eI .i64) (eI .i64))), .rd a3 c4 2 l2.length (l2.map (eP (eI .i64) (eI .i64)))]⟩) l107) ?_ ?_
        · clear hF
          revert l107
          intro r hF
          refine Wk.block ?_
          refine Wk.seq ?_
          refine Wk.region ?_
          obtain ⟨h109, hF⟩ := gd_some hF
          replace h109 := inB_some h109
          refine Wo.openr (k := 1) rfl (pos_of h109) ?_
          rintro b110 o111 rfl
          refine Wo.og (o_ixs s23 rfl rfl h109) gn rfl ?_
          obtain ⟨⟨x112, x113⟩, h114, hF⟩ := ob_some hF
          refine Wo.od (o_ldr (k := 0) t26 rfl rfl (map_at h114) rfl rfl) rfl ?_
          refine Wo.x (o_al z26 rfl) gn rfl fun b115 => ?_
          refine Wo.o0 (o_st (k := 0) t26 rfl rfl rfl rfl rfl) ?_
          refine Wo.nil ?_
          refine At.tn ?_
          refine Wk.seq ?_
          refine Wk.drawc (prs := [(3, 6)]) (by kernel_rfl) ?_
          refine Wn.od (o_mv rfl) rfl ?_
          refine Wn.od (o_ia (r := ptr b115 0) rfl rfl (ia_c ar26 (i := 0) (by decide))) rfl ?_
          refine Wn.od (o_ld (k := 0) t3 rfl rfl rfl) rfl ?_
          obtain ⟨r117, h116, hF⟩ := ob_some hF
          refine Wn.c (o_ce rfl rfl (fun m hm => f57_ok n x6 x112  _ h116 m ) fun _ => rfl) gn rfl ?_
          rintro ⟨⟩
          refine Wn.od (o_mv rfl) rfl ?_
          refine Wn.od (o_ia (r := ptr b115 1) rfl rfl (ia_c ar26 (i := 1) (by decide))) rfl ?_
          refine Wn.od (o_ld (k := 0) t3 rfl rfl rfl) rfl ?_
          obtain ⟨r119, h118, hF⟩ := ob_some hF
          refine Wn.c (o_ce rfl rfl (fun m hm => f57_ok n x6 x113  _ h118 m ) fun _ => rfl) gn rfl ?_
          rintro ⟨⟩
          refine Wn.od (o_bi rfl rfl (bb_ne u4)) rfl ?_
          refine Wn.nil (fun m hm => OkP.all rfl) ?_
          refine At.tn ?_
          rcases br_some hF with ⟨h120, hF⟩ | ⟨h120, hF⟩
          · refine Wk.condT rfl h120 ?_
            refine Wk.region ?_
            refine Wo.od (o_mv rfl) rfl ?_
            refine Wo.od (o_ld (k := 0) t26 rfl rfl rfl) rfl ?_
            refine Wo.x (o_bs (es := ([(x112, x113)] : List (Int × Int)).map (eP (eI .i64) (eI .i64))) s23 rfl (bs_c s23 z26 rfl rfl) rfl rfl) gn rfl fun b121 => ?_
            obtain ⟨h122, hF⟩ := gd_some hF
            refine Wo.x (o_apl (k := 3) (k2 := 0) (xs := (l48 : List (Int × Int))) (ys := ([(x112, x113)] : List (Int × Int))) (enP (enI .i64) (enI .i64)) s23 ⟨_, u23⟩ rfl rfl rfl (.arr _ _ _ _ _) h122) gn rfl fun a123 => ?_
            refine Wo.od (o_as rfl) rfl ?_
            refine Wo.nil ?_
            refine At.bn ?_
            cases hF
            exact At.en a123 rfl (sc rfl (sc rfl (sc rfl (sc rfl (sc rfl sn))))) (Turn.picks [3, 4] rfl rfl)
          · refine Wk.condF rfl h120 ?_
            refine Wk.skip ?_
            refine At.bn ?_
            have hr := Option.some.inj hF
            subst r
            exact At.en a49 rfl (sc rfl (sc rfl (sc rfl (sc rfl (sc rfl sn))))) (Turn.picks [2, 3] rfl rfl)
        · clear h124
          rintro a108
          refine At.tn ?_
          refine Wk.region ?_
          refine Wo.od (o_bi rfl rfl (bin_add _ _ _)) rfl ?_
          refine Wo.od (o_mv rfl) rfl ?_
          refine Wo.nil ?_
          cases hF
          exact At.en a108 rfl (sc rfl (sc rfl (sc rfl (sc rfl (sc rfl sn))))) (Turn.picks [0, 1] rfl rfl)
      · refine Wk.condF rfl h91 ?_
        refine Wk.exit ?_
        refine At.te ?_
        cases hF
        exact At.en a49 rfl (sc rfl sn) (Turn.picks [0] rfl rfl)
    · clear h126
      rintro a90
      refine At.be ?_
      refine At.tn ?_
      refine Wk.seq ?_
      refine Wk.region ?_
      refine Wo.od (o_mv rfl) rfl ?_
      refine Wo.od (o_as rfl) rfl ?_
      refine Wo.od (o_as rfl) rfl ?_
      refine Wo.nil ?_
      refine At.tn ?_
      refine Wk.ret ?_
      cases hF
      exact At.ret (.tmp rfl (.tmp rfl .nil)) fun m' hm => ⟨(a90, l89.length), rfl, (Turn.picks [0] rfl rfl) m' hm⟩

end Go.Proofs.YtpclggcpobakhaaDoor.W4
end
