/- Texts of the abstract machine and of the walks, joined: S18W6 S18P S18P2 S18P3 AbsWord S18G S18G2 S18G3 S18B. -/
import Derived.Test.YtpclggcpobakhaaDoorGq5
section
namespace Go.Proofs.YtpclggcpobakhaaDoor.W6
open Go Go.Ab Go.Ab.W Go.Proofs.YtpclggcpobakhaaDoor Go.Proofs.YtpclggcpobakhaaDoor.W0
set_option maxRecDepth 10000
set_option maxHeartbeats 4000000
attribute [local irreducible] Tm.at Trie.set Trie.get AMem.get AMem.set AMem.alloc AMem.ww AMem.kill
theorem t55 : TyI E18w.P 55 true 4 := ⟨by kernel_rfl, by kernel_rfl, by kernel_rfl⟩
theorem z25 : zeroA E18w.P 25 = some (.agg #[.int .i64 0, .slice none 0 0]) := by kernel_rfl
theorem fa55_0 : ∀ b o, fieldAddrA E18w.P 55 (ptr b o) 0 = some (ptr b (o + 0)) := fun _ _ => by kernel_rfl
theorem t5 : TyI E18w.P 5 false 1 := ⟨by kernel_rfl, by kernel_rfl, by kernel_rfl⟩
theorem u5 : E18w.P.underlying 5 = some (.int .u8) := by kernel_rfl
theorem u3 : E18w.P.underlying 3 = some (.int .i64) := by kernel_rfl
theorem fa55_1 : ∀ b o, fieldAddrA E18w.P 55 (ptr b o) 1 = some (ptr b (o + 1)) := fun _ _ => by kernel_rfl
theorem bs25 : BdT E18w.P 25 (.agg #[.int .i64 0, .slice none 0 0]) [(0, 1), (1, 1)] := .mk' (by kernel_rfl) (by kernel_rfl)
theorem t25 : TyI E18w.P 25 true 2 := ⟨by kernel_rfl, by kernel_rfl, by kernel_rfl⟩
theorem fa25_0 : ∀ b o, fieldAddrA E18w.P 25 (ptr b o) 0 = some (ptr b (o + 0)) := fun _ _ => by kernel_rfl
theorem t3 : TyI E18w.P 3 false 1 := ⟨by kernel_rfl, by kernel_rfl, by kernel_rfl⟩
theorem fa55_2 : ∀ b o, fieldAddrA E18w.P 55 (ptr b o) 2 = some (ptr b (o + 2)) := fun _ _ => by kernel_rfl
theorem t52 : TyI E18w.P 52 false 1 := ⟨by kernel_rfl, by kernel_rfl, by kernel_rfl⟩
theorem u102 : E18w.P.underlying 102 = some (.int .u64) := by kernel_rfl
theorem fa55_3 : ∀ b o, fieldAddrA E18w.P 55 (ptr b o) 3 = some (ptr b (o + 3)) := fun _ _ => by kernel_rfl
theorem t53 : TyI E18w.P 53 false 1 := ⟨by kernel_rfl, by kernel_rfl, by kernel_rfl⟩
theorem u53 : E18w.P.underlying 53 = some (.slice 103) := by kernel_rfl
theorem s53 : SlT E18w.P 53 103 2 := SlT.of (by kernel_rfl)
theorem ar103 : ArT E18w.P 103 5 2 1 := ⟨by kernel_rfl, by kernel_rfl, by kernel_rfl⟩
theorem fa25_1 : ∀ b o, fieldAddrA E18w.P 25 (ptr b o) 1 = some (ptr b (o + 1)) := fun _ _ => by kernel_rfl
theorem t23 : TyI E18w.P 23 false 1 := ⟨by kernel_rfl, by kernel_rfl, by kernel_rfl⟩
theorem z26 : zeroA E18w.P 26 = some (.agg #[.int .i64 0, .int .i64 0]) := by kernel_rfl
theorem bs26 : BdT E18w.P 26 (.agg #[.int .i64 0, .int .i64 0]) [(0, 1), (1, 1)] := .mk' (by kernel_rfl) (by kernel_rfl)
theorem u23 : E18w.P.underlying 23 = some (.slice 26) := by kernel_rfl
theorem s23 : SlT E18w.P 23 26 2 := SlT.of (by kernel_rfl)
theorem t58 : TyI E18w.P 58 true 10 := ⟨by kernel_rfl, by kernel_rfl, by kernel_rfl⟩
theorem u27 : E18w.P.underlying 27 = some (.slice 25) := by kernel_rfl
theorem u28 : E18w.P.underlying 28 = some (.int .u64) := by kernel_rfl
theorem u9 : E18w.P.underlying 9 = some (.string) := by kernel_rfl
theorem z28 : zeroA E18w.P 28 = some (.int .u64 ((0 : Nat) : Int)) := by kernel_rfl
theorem t26 : TyI E18w.P 26 true 2 := ⟨by kernel_rfl, by kernel_rfl, by kernel_rfl⟩
theorem ar26 : ArT E18w.P 26 3 2 1 := ⟨by kernel_rfl, by kernel_rfl, by kernel_rfl⟩
theorem s36 : SlT E18w.P 36 28 1 := SlT.of (by kernel_rfl)
theorem t28 : TyI E18w.P 28 false 1 := ⟨by kernel_rfl, by kernel_rfl, by kernel_rfl⟩
theorem z36 : zeroA E18w.P 36 = some (.slice none 0 0) := by kernel_rfl
theorem t36 : TyI E18w.P 36 false 1 := ⟨by kernel_rfl, by kernel_rfl, by kernel_rfl⟩
theorem u36 : E18w.P.underlying 36 = some (.slice 28) := by kernel_rfl
theorem u4 : E18w.P.underlying 4 = some (.bool) := by kernel_rfl
theorem s27 : SlT E18w.P 27 25 2 := SlT.of (by kernel_rfl)
theorem f40_ok (n : Nat) (x1 : Nat) (x2 : Nat) (x3 : Nat) (l4 : List (Nat × Nat)) (a5 : Option Addr) (c6 : Nat) (r : Int × List (Int × Int)) (hF : F40 n x1 x2 x3 l4 = some r) (m : AMem) (h7 : Rd m a5 c6 2 l4.length (l4.map (eP (eN .u8) (eN .u8)))) :
    CallA E18w 40 [.agg #[.int .u8 ((x1 : Nat) : Int), .int .u8 ((x2 : Nat) : Int), .int .u16 ((x3 : Nat) : Int), .slice a5 l4.length c6]] m (fun v m' => ∃ x : Option Addr × Nat, v = .agg #[.int .i64 r.1, .slice x.1 x.2 x.2] ∧ Hp m m' [.sl x.1 2 x.2 (r.2.map (eP (eI .i64) (eI .i64)))]) := by
  unfold F40 at hF
  refine call_wk (m0 := m) (ps := [.rd a5 c6 2 l4.length (l4.map (eP (eN .u8) (eN .u8)))]) (N := 137) (rs := [.cell 2 25]) rfl Tryd.func40 rfl rfl rfl ((Hp.start m).inn rfl h7) ?_
  refine Wk.seq ?_
  refine Wk.region ?_
  refine Wo.x (o_bx rfl) gn rfl fun b8 => ?_
  refine Wo.x (o_al z25 rfl) gn rfl fun b9 => ?_
  refine Wo.nil ?_
  refine At.tn ?_
  refine Wk.seq ?_
  refine Wk.draw (by kernel_rfl) ?_
  refine Wo.od (o_fa (r := ptr b8 0) rfl (fa55_0 _ _)) rfl ?_
  refine Wo.od (o_ld (k := 1) t5 rfl rfl rfl) rfl ?_
  refine Wo.od (o_bi rfl rfl (ub_rem _ _ (by decide))) rfl ?_
  refine Wo.od (o_cv rfl (cv_i (by rw [u5]; rfl) u3)) rfl ?_
  refine Wo.od (o_bi rfl rfl (bin_add _ _ _)) rfl ?_
  refine Wo.od (o_fa (r := ptr b8 1) rfl (fa55_1 _ _)) rfl ?_
  refine Wo.od (o_ld (k := 1) t5 rfl rfl rfl) rfl ?_
  refine Wo.od (o_bi rfl rfl (ub_rem _ _ (by decide))) rfl ?_
  refine Wo.od (o_cv rfl (cv_i (by rw [u5]; rfl) u3)) rfl ?_
  refine Wo.od (o_bi rfl rfl (bin_add _ _ _)) rfl ?_
  refine Wo.od (o_as rfl) rfl ?_
  refine Wo.od (o_as rfl) rfl ?_
  refine Wo.nil ?_
  refine At.tn ?_
  refine Wk.seq ?_
  refine Wk.region ?_
  refine Wo.od (o_mv rfl) rfl ?_
  refine Wo.od (o_mv rfl) rfl ?_
  obtain ⟨y10, h11, hF⟩ := ob_some hF
  refine Wo.od (o_bi rfl rfl ((bin_mul _ _ _).trans (cI h11))) rfl ?_
  refine Wo.od (o_bd rfl z25 rfl (bd_s bs25 rfl rfl rfl)) rfl ?_
  refine Wo.x (o_al z25 rfl) gn rfl fun b12 => ?_
  refine Wo.o0 (o_st (k := 0) t25 rfl rfl rfl rfl rfl) ?_
  refine Wo.nil ?_
  refine At.tn ?_
  refine Wk.seq ?_
  refine Wk.region ?_
  refine Wo.od (o_as rfl) rfl ?_
  refine Wo.nil ?_
  refine At.tn ?_
  refine Wk.seq ?_
  refine Wk.seq ?_
  refine Wk.region ?_
  refine Wo.od (o_as rfl) rfl ?_
  refine Wo.nil ?_
  refine At.tn ?_
  refine Wk.block ?_
  obtain ⟨l2020, h3018, hF⟩ := ob_some hF
  refine Wk.cut (G := (fun (r : List (Int × Int)) (g : Option Addr) => match r, g with | l2020, a2021 => ⟨(.exit 0), [(2, ptr b9 0), (5, ptr b12 0)], [.obj b9 (.cells [.int .i64 0, .slice none 0 0] .own), .obj b12 (.cells [.int .i64 y10, .slice a2021 l2020.length l2020.length] .own), .sl a2021 2 l2020.length (l2020.map (eP (eI .i64) (eI .i64)))]⟩) l2020) ?_ ?_
  · refine Wk.weak (fs' := [(1, ptr b8 0), (2, ptr b9 0), (3, .int .i64 (IntKind.wrap .i64 (1 + (IntKind.wrap .i64 ((x1 % 4 : Nat) : Int))))), (5, ptr b12 0), (6, .int .i64 0), (7, .int .i64 0)]) (ps' := [.obj b8 (.cells [.int .u8 ((x1 : Nat) : Int), .int .u8 ((x2 : Nat) : Int), .int .u16 ((x3 : Nat) : Int), .slice a5 l4.length c6] .own), .rd a5 c6 2 l4.length (l4.map (eP (eN .u8) (eN .u8))), .obj b9 (.cells [.int .i64 0, .slice none 0 0] .own), .obj b12 (.cells [.int .i64 y10, .slice none ([] : List (Int × Int)).length ([] : List (Int × Int)).length] .own), .sl none 2 ([] : List (Int × Int)).length (([] : List (Int × Int)).map (eP (eI .i64) (eI .i64)))]) (sc rfl (sc rfl (sc rfl (sc rfl (sc rfl (sc rfl sn)))))) (Turn.trans (Turn.nil 2 rfl) (Turn.picks [3, 4, 2, 1, 0] rfl rfl)) ?_
    refine Wk.loop (σ := Int × List (Int × Int) × Int × Int) (ρ := List (Int × Int)) (γ := Option Addr) (δ := fun _ => Option Addr) _ (fun (s : Int × List (Int × Int) × Int × Int) (g : Option Addr) => match s, g with | (v1014, l1015, v1017, v1018), a1016 => ⟨.normal, [(1, ptr b8 0), (2, ptr b9 0), (3, .int .i64 v1014), (5, ptr b12 0), (6, .int .i64 v1017), (7, .int .i64 v1018)], [.obj b8 (.cells [.int .u8 ((x1 : Nat) : Int), .int .u8 ((x2 : Nat) : Int), .int .u16 ((x3 : Nat) : Int), .slice a5 l4.length c6] .own), .rd a5 c6 2 l4.length (l4.map (eP (eN .u8) (eN .u8))), .obj b9 (.cells [.int .i64 0, .slice none 0 0] .own), .obj b12 (.cells [.int .i64 y10, .slice a1016 l1015.length l1015.length] .own), .sl a1016 2 l1015.length (l1015.map (eP (eI .i64) (eI .i64)))]⟩) (fun (r : List (Int × Int)) (g : Option Addr) => match r, g with | l2020, a2021 => ⟨(.exit 0), [(2, ptr b9 0), (5, ptr b12 0)], [.obj b9 (.cells [.int .i64 0, .slice none 0 0] .own), .obj b12 (.cells [.int .i64 y10, .slice a2021 l2020.length l2020.length] .own), .sl a2021 2 l2020.length (l2020.map (eP (eI .i64) (eI .i64)))]⟩) ?_ (fun _ _ => rfl) (fun r d => by intro e; cases e) _ _ _ h3018 none
    clear hF h3018
    rintro ⟨v1014, l1015, v1017, v1018⟩ a1016 r hF
    unfold L40_3 at hF
    refine Wk.seq ?_
    refine Wk.seq ?_
    refine Wk.region ?_
    refine Wo.od (o_mv rfl) rfl ?_
    refine Wo.od (o_fa (r := ptr b12 0) rfl (fa25_0 _ _)) rfl ?_
    refine Wo.od (o_ld (k := 3) t3 rfl rfl rfl) rfl ?_
    refine Wo.od (o_bi rfl rfl (bin_lss _ _ _)) rfl ?_
    refine Wo.nil ?_
    refine At.tn ?_
    rcases br_some hF with ⟨h2022, hF⟩ | ⟨h2022, hF⟩
    · refine Wk.condT rfl h2022 ?_
      refine Wk.skip ?_
      refine At.tn ?_
      refine Wk.seq ?_
      refine Wk.block ?_
      refine Wk.seq ?_
      refine Wk.region ?_
      refine Wo.od (o_mv rfl) rfl ?_
      refine Wo.od (o_bi rfl rfl (bin_add _ _ _)) rfl ?_
      refine Wo.od (o_as rfl) rfl ?_
      refine Wo.nil ?_
      refine At.tn ?_
      refine Wk.block ?_
      obtain ⟨r3017, h3016, hF⟩ := ob_some hF
      refine Wk.cut (G := (fun (r : List (Int × Int) × Int) (g : Option Addr) => match r, g with | (l2687, v2689), a2688 => ⟨(.exit 2), [(1, ptr b8 0), (2, ptr b9 0), (3, .int .i64 v1014), (5, ptr b12 0), (6, .int .i64 v2689), (7, .int .i64 v1018)], [.obj b8 (.cells [.int .u8 ((x1 : Nat) : Int), .int .u8 ((x2 : Nat) : Int), .int .u16 ((x3 : Nat) : Int), .slice a5 l4.length c6] .own), .rd a5 c6 2 l4.length (l4.map (eP (eN .u8) (eN .u8))), .obj b9 (.cells [.int .i64 0, .slice none 0 0] .own), .obj b12 (.cells [.int .i64 y10, .slice a2688 l2687.length l2687.length] .own), .sl a2688 2 l2687.length (l2687.map (eP (eI .i64) (eI .i64)))]⟩) r3017) ?_ ?_
      · refine Wk.weak (fs' := [(1, ptr b8 0), (2, ptr b9 0), (3, .int .i64 v1014), (5, ptr b12 0), (6, .int .i64 v1017), (7, .int .i64 v1018), (8, .int .i64 (IntKind.wrap .i64 (v1018 + 1)))]) (ps' := [.obj b8 (.cells [.int .u8 ((x1 : Nat) : Int), .int .u8 ((x2 : Nat) : Int), .int .u16 ((x3 : Nat) : Int), .slice a5 l4.length c6] .own), .rd a5 c6 2 l4.length (l4.map (eP (eN .u8) (eN .u8))), .obj b9 (.cells [.int .i64 0, .slice none 0 0] .own), .obj b12 (.cells [.int .i64 y10, .slice a1016 l1015.length l1015.length] .own), .sl a1016 2 l1015.length (l1015.map (eP (eI .i64) (eI .i64)))]) (sc rfl (sc rfl (sc rfl (sc rfl (sc rfl (sc rfl (sc rfl sn))))))) (Turn.picks [0, 1, 2, 3, 4] rfl rfl) ?_
        refine Wk.loop (σ := List (Int × Int) × Int × Int) (ρ := List (Int × Int) × Int) (γ := Option Addr) (δ := fun _ => Option Addr) _ (fun (s : List (Int × Int) × Int × Int) (g : Option Addr) => match s, g with | (l2353, v2355, v2356), a2354 => ⟨.normal, [(1, ptr b8 0), (2, ptr b9 0), (3, .int .i64 v1014), (5, ptr b12 0), (6, .int .i64 v2355), (7, .int .i64 v1018), (8, .int .i64 v2356)], [.obj b8 (.cells [.int .u8 ((x1 : Nat) : Int), .int .u8 ((x2 : Nat) : Int), .int .u16 ((x3 : Nat) : Int), .slice a5 l4.length c6] .own), .rd a5 c6 2 l4.length (l4.map (eP (eN .u8) (eN .u8))), .obj b9 (.cells [.int .i64 0, .slice none 0 0] .own), .obj b12 (.cells [.int .i64 y10, .slice a2354 l2353.length l2353.length] .own), .sl a2354 2 l2353.length (l2353.map (eP (eI .i64) (eI .i64)))]⟩) (fun (r : List (Int × Int) × Int) (g : Option Addr) => match r, g with | (l2687, v2689), a2688 => ⟨(.exit 2), [(1, ptr b8 0), (2, ptr b9 0), (3, .int .i64 v1014), (5, ptr b12 0), (6, .int .i64 v2689), (7, .int .i64 v1018)], [.obj b8 (.cells [.int .u8 ((x1 : Nat) : Int), .int .u8 ((x2 : Nat) : Int), .int .u16 ((x3 : Nat) : Int), .slice a5 l4.length c6] .own), .rd a5 c6 2 l4.length (l4.map (eP (eN .u8) (eN .u8))), .obj b9 (.cells [.int .i64 0, .slice none 0 0] .own), .obj b12 (.cells [.int .i64 y10, .slice a2688 l2687.length l2687.length] .own), .sl a2688 2 l2687.length (l2687.map (eP (eI .i64) (eI .i64)))]⟩) ?_ (fun _ _ => rfl) (fun r d => by intro e; cases e) _ _ _ h3016 a1016
        clear hF h3016
        rintro ⟨l2353, v2355, v2356⟩ a2354 r hF
        unfold L40_2 at hF
        refine Wk.seq ?_
        refine Wk.seq ?_
        refine Wk.region ?_
        refine Wo.od (o_mv rfl) rfl ?_
        refine Wo.od (o_fa (r := ptr b12 0) rfl (fa25_0 _ _)) rfl ?_
        refine Wo.od (o_ld (k := 3) t3 rfl rfl rfl) rfl ?_
        refine Wo.od (o_bi rfl rfl (bin_lss _ _ _)) rfl ?_
        refine Wo.nil ?_
        refine At.tn ?_
        rcases br_some hF with ⟨h2690, hF⟩ | ⟨h2690, hF⟩
        · refine Wk.condT rfl h2690 ?_
          refine Wk.skip ?_
          refine At.tn ?_
          refine Wk.seq ?_
          obtain ⟨r3015, h3014, hF⟩ := ob_some hF
          refine Wk.cut (G := (fun (r : List (Int × Int) × Int) (g : Option Addr) => match r, g with | (l2851, v2853), a2852 => ⟨.normal, [(1, ptr b8 0), (2, ptr b9 0), (3, .int .i64 v1014), (5, ptr b12 0), (6, .int .i64 v2853), (7, .int .i64 v1018), (8, .int .i64 v2356)], [.obj b8 (.cells [.int .u8 ((x1 : Nat) : Int), .int .u8 ((x2 : Nat) : Int), .int .u16 ((x3 : Nat) : Int), .slice a5 l4.length c6] .own), .rd a5 c6 2 l4.length (l4.map (eP (eN .u8) (eN .u8))), .obj b9 (.cells [.int .i64 0, .slice none 0 0] .own), .obj b12 (.cells [.int .i64 y10, .slice a2852 l2851.length l2851.length] .own), .sl a2852 2 l2851.length (l2851.map (eP (eI .i64) (eI .i64)))]⟩) r3015) ?_ ?_
          · clear hF
            revert r3015
            intro r hF
            refine Wk.block ?_
            refine Wk.seq ?_
            obtain ⟨v2857, h2861, hF⟩ := ob_some hF
            refine Wk.cut (G := (fun (r : Bool) (g : Unit) => match r, g with | v2857, _ => ⟨.normal, [(1, ptr b8 0), (2, ptr b9 0), (3, .int .i64 v1014), (5, ptr b12 0), (6, .int .i64 v2355), (7, .int .i64 v1018), (8, .int .i64 v2356), (9, .bool v2857)], [.obj b8 (.cells [.int .u8 ((x1 : Nat) : Int), .int .u8 ((x2 : Nat) : Int), .int .u16 ((x3 : Nat) : Int), .slice a5 l4.length c6] .own), .rd a5 c6 2 l4.length (l4.map (eP (eN .u8) (eN .u8))), .obj b9 (.cells [.int .i64 0, .slice none 0 0] .own), .obj b12 (.cells [.int .i64 y10, .slice a2354 l2353.length l2353.length] .own), .sl a2354 2 l2353.length (l2353.map (eP (eI .i64) (eI .i64)))]⟩) v2857) ?_ ?_
            · clear hF
              revert v2857
              intro r hF
              refine Wk.region ?_
              refine Wo.od (o_mv rfl) rfl ?_
              refine Wo.od (o_mv rfl) rfl ?_
              refine Wo.od (o_mv rfl) rfl ?_
              refine Wo.od (o_bi rfl rfl (bin_add _ _ _)) rfl ?_
              refine Wo.od (o_bi rfl rfl (bin_eql _ _ _)) rfl ?_
              refine Wo.od (o_mv rfl) rfl ?_
              rcases br_some hF with ⟨h2858, hF⟩ | ⟨h2858, hF⟩
              · refine Wo.s (gg rfl rfl (eTF h2858)) rfl ?_
                refine Wo.s (gg rfl rfl (eTF h2858)) rfl ?_
                refine Wo.s (gg rfl rfl (eTF h2858)) rfl ?_
                refine Wo.s (gg rfl rfl (eTF h2858)) rfl ?_
                refine Wo.s (gg rfl rfl (eTF h2858)) rfl ?_
                refine Wo.s (gu rfl rfl) rfl ?_
                refine Wo.s (gu rfl rfl) rfl ?_
                refine Wo.s (gu rfl rfl) rfl ?_
                refine Wo.s (gu rfl rfl) rfl ?_
                refine Wo.s (gg rfl rfl (eTF h2858)) rfl ?_
                refine Wo.od (o_pt rfl h2858 rfl) rfl ?_
                refine Wo.od (o_as rfl) rfl ?_
                refine Wo.nil ?_
                cases hF
                exact At.en () rfl (sc rfl (sc rfl (sc rfl (sc rfl (sc rfl (sc rfl (sc rfl (sc rfl sn)))))))) (Turn.picks [0, 1, 2, 3, 4] rfl rfl)
              · refine Wo.og (o_mv rfl) (gg rfl rfl (eFF h2858)) rfl ?_
                refine Wo.og (o_mv rfl) (gg rfl rfl (eFF h2858)) rfl ?_
                refine Wo.og (o_bi rfl rfl (bin_add _ _ _)) (gg rfl rfl (eFF h2858)) rfl ?_
                refine Wo.og (o_bi rfl rfl (bin_eql _ _ _)) (gg rfl rfl (eFF h2858)) rfl ?_
                refine Wo.og (o_mv rfl) (gg rfl rfl (eFF h2858)) rfl ?_
                rcases br_some hF with ⟨h2859, hF⟩ | ⟨h2859, hF⟩
                · refine Wo.og (o_mv rfl) (gg rfl rfl (eTT h2859)) rfl ?_
                  refine Wo.og (o_mv rfl) (gg rfl rfl (eTT h2859)) rfl ?_
                  obtain ⟨h2860, hF⟩ := gd_some hF
                  refine Wo.og (o_bi rfl rfl (ib_rem _ _ h2860)) (gg rfl rfl (eTT h2859)) rfl ?_
                  refine Wo.og (o_bi rfl rfl (ib_neq _ _)) (gg rfl rfl (eTT h2859)) rfl ?_
                  refine Wo.og (o_pt rfl h2859 rfl) (gg rfl rfl (eFF h2858)) rfl ?_
                  refine Wo.od (o_pf rfl h2858 rfl) rfl ?_
                  refine Wo.od (o_as rfl) rfl ?_
                  refine Wo.nil ?_
                  cases hF
                  exact At.en () rfl (sc rfl (sc rfl (sc rfl (sc rfl (sc rfl (sc rfl (sc rfl (sc rfl sn)))))))) (Turn.picks [0, 1, 2, 3, 4] rfl rfl)
                · refine Wo.s (gg rfl rfl (eFT h2859)) rfl ?_
                  refine Wo.s (gg rfl rfl (eFT h2859)) rfl ?_
                  refine Wo.s (gg rfl rfl (eFT h2859)) rfl ?_
                  refine Wo.s (gg rfl rfl (eFT h2859)) rfl ?_
                  refine Wo.og (o_pf rfl h2859 rfl) (gg rfl rfl (eFF h2858)) rfl ?_
                  refine Wo.od (o_pf rfl h2858 rfl) rfl ?_
                  refine Wo.od (o_as rfl) rfl ?_
                  refine Wo.nil ?_
                  cases hF
                  exact At.en () rfl (sc rfl (sc rfl (sc rfl (sc rfl (sc rfl (sc rfl (sc rfl (sc rfl sn)))))))) (Turn.picks [0, 1, 2, 3, 4] rfl rfl)
            · clear h2861
              rintro ⟨⟩
              refine At.tn ?_
              refine Wk.seq ?_
              obtain ⟨r2914, h2913, hF⟩ := ob_some hF
              refine Wk.cut (G := (fun (r : Int × Bool) (g : Unit) => match r, g with | (v2887, v2888), _ => ⟨.normal, [(1, ptr b8 0), (2, ptr b9 0), (3, .int .i64 v1014), (5, ptr b12 0), (6, .int .i64 v2887), (7, .int .i64 v1018), (8, .int .i64 v2356), (9, .bool v2888)], [.obj b8 (.cells [.int .u8 ((x1 : Nat) : Int), .int .u8 ((x2 : Nat) : Int), .int .u16 ((x3 : Nat) : Int), .slice a5 l4.length c6] .own), .rd a5 c6 2 l4.length (l4.map (eP (eN .u8) (eN .u8))), .obj b9 (.cells [.int .i64 0, .slice none 0 0] .own), .obj b12 (.cells [.int .i64 y10, .slice a2354 l2353.length l2353.length] .own), .sl a2354 2 l2353.length (l2353.map (eP (eI .i64) (eI .i64)))]⟩) r2914) ?_ ?_
              · clear hF
                revert r2914
                intro r hF
                refine Wk.seq ?_
                refine Wk.region ?_
                refine Wo.od (o_mv rfl) rfl ?_
                refine Wo.nil ?_
                refine At.tn ?_
                rcases br_some hF with ⟨h2889, hF⟩ | ⟨h2889, hF⟩
                · refine Wk.condT rfl h2889 ?_
                  refine Wk.seq ?_
                  obtain ⟨v2900, h2911, hF⟩ := ob_some hF
                  refine Wk.cut (G := (fun (r : Bool) (g : Unit) => match r, g with | v2900, _ => ⟨.normal, [(1, ptr b8 0), (2, ptr b9 0), (3, .int .i64 v1014), (5, ptr b12 0), (6, .int .i64 v2355), (7, .int .i64 v1018), (8, .int .i64 v2356), (9, .bool v2900)], [.obj b8 (.cells [.int .u8 ((x1 : Nat) : Int), .int .u8 ((x2 : Nat) : Int), .int .u16 ((x3 : Nat) : Int), .slice a5 l4.length c6] .own), .rd a5 c6 2 l4.length (l4.map (eP (eN .u8) (eN .u8))), .obj b9 (.cells [.int .i64 0, .slice none 0 0] .own), .obj b12 (.cells [.int .i64 y10, .slice a2354 l2353.length l2353.length] .own), .sl a2354 2 l2353.length (l2353.map (eP (eI .i64) (eI .i64)))]⟩) v2900) ?_ ?_
                  · clear hF
                    revert v2900
                    intro r hF
                    refine Wk.seq ?_
                    obtain ⟨v2904, h2908, hF⟩ := ob_some hF
                    refine Wk.cut (G := (fun (r : Bool) (g : Unit) => match r, g with | v2904, _ => ⟨.normal, [(1, ptr b8 0), (2, ptr b9 0), (3, .int .i64 v1014), (5, ptr b12 0), (6, .int .i64 v2355), (7, .int .i64 v1018), (8, .int .i64 v2356), (9, .bool v2857), (72, .bool v2904)], [.obj b8 (.cells [.int .u8 ((x1 : Nat) : Int), .int .u8 ((x2 : Nat) : Int), .int .u16 ((x3 : Nat) : Int), .slice a5 l4.length c6] .own), .rd a5 c6 2 l4.length (l4.map (eP (eN .u8) (eN .u8))), .obj b9 (.cells [.int .i64 0, .slice none 0 0] .own), .obj b12 (.cells [.int .i64 y10, .slice a2354 l2353.length l2353.length] .own), .sl a2354 2 l2353.length (l2353.map (eP (eI .i64) (eI .i64)))]⟩) v2904) ?_ ?_
                    · clear hF
                      revert v2904
                      intro r hF
                      refine Wk.region ?_
                      refine Wo.od (o_mv rfl) rfl ?_
                      refine Wo.od (o_bi rfl rfl (ib_rem _ _ (by decide))) rfl ?_
                      refine Wo.od (o_bi rfl rfl (bin_eql _ _ _)) rfl ?_
                      refine Wo.od (o_mv rfl) rfl ?_
                      rcases br_some hF with ⟨h2905, hF⟩ | ⟨h2905, hF⟩
                      · refine Wo.og (o_fa (r := ptr b8 2) rfl (fa55_2 _ _)) (gg rfl rfl (eTT h2905)) rfl ?_
                        refine Wo.og (o_ld (k := 0) t52 rfl rfl rfl) (gg rfl rfl (eTT h2905)) rfl ?_
                        refine Wo.og (o_mv rfl) (gg rfl rfl (eTT h2905)) rfl ?_
                        refine Wo.og (o_bi rfl rfl (ib_quo _ _ (by decide))) (gg rfl rfl (eTT h2905)) rfl ?_
                        refine Wo.og (o_bi rfl rfl (ib_rem _ _ (by decide))) (gg rfl rfl (eTT h2905)) rfl ?_
                        refine Wo.og (o_cv rfl (cv_u (by rw [u3]; rfl) u102 rfl)) (gg rfl rfl (eTT h2905)) rfl ?_
                        obtain ⟨y2906, h2907, hF⟩ := ob_some hF
                        refine Wo.og (o_bi rfl rfl ((ub_shr _ _ (nn _)).trans (cN h2907))) (gg rfl rfl (eTT h2905)) rfl ?_
                        refine Wo.og (o_bi rfl rfl (ub_and rfl _ _)) (gg rfl rfl (eTT h2905)) rfl ?_
                        refine Wo.og (o_bi rfl rfl (ub_eql _ _)) (gg rfl rfl (eTT h2905)) rfl ?_
                        refine Wo.od (o_pt rfl h2905 rfl) rfl ?_
                        refine Wo.nil ?_
                        cases hF
                        exact At.en () rfl (sc rfl (sc rfl (sc rfl (sc rfl (sc rfl (sc rfl (sc rfl (sc rfl (sc rfl sn))))))))) (Turn.picks [0, 1, 2, 3, 4] rfl rfl)
                      · refine Wo.s (gg rfl rfl (eFT h2905)) rfl ?_
                        refine Wo.s (gg rfl rfl (eFT h2905)) rfl ?_
                        refine Wo.s (gg rfl rfl (eFT h2905)) rfl ?_
                        refine Wo.s (gg rfl rfl (eFT h2905)) rfl ?_
                        refine Wo.s (gg rfl rfl (eFT h2905)) rfl ?_
                        refine Wo.s (gg rfl rfl (eFT h2905)) rfl ?_
                        refine Wo.s (gg rfl rfl (eFT h2905)) rfl ?_
                        refine Wo.s (gg rfl rfl (eFT h2905)) rfl ?_
                        refine Wo.s (gg rfl rfl (eFT h2905)) rfl ?_
                        refine Wo.od (o_pf rfl h2905 rfl) rfl ?_
                        refine Wo.nil ?_
                        cases hF
                        exact At.en () rfl (sc rfl (sc rfl (sc rfl (sc rfl (sc rfl (sc rfl (sc rfl (sc rfl (sc rfl sn))))))))) (Turn.picks [0, 1, 2, 3, 4] rfl rfl)
                    · clear h2908
                      rintro ⟨⟩
                      refine At.tn ?_
                      rcases br_some hF with ⟨h2910, hF⟩ | ⟨h2910, hF⟩
                      · refine Wk.condT rfl h2910 ?_
                        refine Wk.region ?_
                        refine Wo.od (o_as rfl) rfl ?_
                        refine Wo.nil ?_
                        cases hF
                        exact At.en () rfl (sc rfl (sc rfl (sc rfl (sc rfl (sc rfl (sc rfl (sc rfl (sc rfl sn)))))))) (Turn.picks [0, 1, 2, 3, 4] rfl rfl)
                      · refine Wk.condF rfl h2910 ?_
                        refine Wk.skip ?_
                        have hr := Option.some.inj hF
                        subst r
                        exact At.en () rfl (sc rfl (sc rfl (sc rfl (sc rfl (sc rfl (sc rfl (sc rfl (sc rfl sn)))))))) (Turn.picks [0, 1, 2, 3, 4] rfl rfl)
                  · clear h2911
                    rintro ⟨⟩
                    refine At.tn ?_
                    refine Wk.region ?_
                    refine Wo.od (o_mv rfl) rfl ?_
                    refine Wo.od (o_bi rfl rfl (bin_add _ _ _)) rfl ?_
                    refine Wo.od (o_as rfl) rfl ?_
                    refine Wo.nil ?_
                    cases hF
                    exact At.en () rfl (sc rfl (sc rfl (sc rfl (sc rfl (sc rfl (sc rfl (sc rfl (sc rfl sn)))))))) (Turn.picks [0, 1, 2, 3, 4] rfl rfl)
                · refine Wk.condF rfl h2889 ?_
                  refine Wk.skip ?_
                  cases hF
                  exact At.en () rfl (sc rfl (sc rfl (sc rfl (sc rfl (sc rfl (sc rfl (sc rfl (sc rfl sn)))))))) (Turn.picks [0, 1, 2, 3, 4] rfl rfl)
              · clear h2913
                obtain ⟨v2887, v2888⟩ := r2914
                rintro ⟨⟩
                refine At.tn ?_
                refine Wk.seq ?_
                refine Wk.seq ?_
                refine Wk.region ?_
                refine Wo.od (o_as rfl) rfl ?_
                refine Wo.nil ?_
                refine At.tn ?_
                refine Wk.block ?_
                obtain ⟨v2964, h3008, hF⟩ := ob_some hF
                refine Wk.cut (G := (fun (r : Bool) (g : Unit) => match r, g with | v2964, _ => ⟨(.exit 4), [(1, ptr b8 0), (2, ptr b9 0), (3, .int .i64 v1014), (5, ptr b12 0), (6, .int .i64 v2887), (7, .int .i64 v1018), (8, .int .i64 v2356), (9, .bool v2964)], [.obj b8 (.cells [.int .u8 ((x1 : Nat) : Int), .int .u8 ((x2 : Nat) : Int), .int .u16 ((x3 : Nat) : Int), .slice a5 l4.length c6] .own), .rd a5 c6 2 l4.length (l4.map (eP (eN .u8) (eN .u8))), .obj b9 (.cells [.int .i64 0, .slice none 0 0] .own), .obj b12 (.cells [.int .i64 y10, .slice a2354 l2353.length l2353.length] .own), .sl a2354 2 l2353.length (l2353.map (eP (eI .i64) (eI .i64)))]⟩) v2964) ?_ ?_
                · refine Wk.weak (fs' := [(1, ptr b8 0), (2, ptr b9 0), (3, .int .i64 v1014), (5, ptr b12 0), (6, .int .i64 v2887), (7, .int .i64 v1018), (8, .int .i64 v2356), (9, .bool v2888), (10, .int .i64 0)]) (ps' := [.obj b8 (.cells [.int .u8 ((x1 : Nat) : Int), .int .u8 ((x2 : Nat) : Int), .int .u16 ((x3 : Nat) : Int), .slice a5 l4.length c6] .own), .rd a5 c6 2 l4.length (l4.map (eP (eN .u8) (eN .u8))), .obj b9 (.cells [.int .i64 0, .slice none 0 0] .own), .obj b12 (.cells [.int .i64 y10, .slice a2354 l2353.length l2353.length] .own), .sl a2354 2 l2353.length (l2353.map (eP (eI .i64) (eI .i64)))]) (sc rfl (sc rfl (sc rfl (sc rfl (sc rfl (sc rfl (sc rfl (sc rfl (sc rfl sn))))))))) (Turn.picks [0, 1, 2, 3, 4] rfl rfl) ?_
                  refine Wk.loop (σ := Bool × Int) (ρ := Bool) (γ := Unit) (δ := fun _ => Unit) _ (fun (s : Bool × Int) (g : Unit) => match s, g with | (v2917, v2918), _ => ⟨.normal, [(1, ptr b8 0), (2, ptr b9 0), (3, .int .i64 v1014), (5, ptr b12 0), (6, .int .i64 v2887), (7, .int .i64 v1018), (8, .int .i64 v2356), (9, .bool v2917), (10, .int .i64 v2918)], [.obj b8 (.cells [.int .u8 ((x1 : Nat) : Int), .int .u8 ((x2 : Nat) : Int), .int .u16 ((x3 : Nat) : Int), .slice a5 l4.length c6] .own), .rd a5 c6 2 l4.length (l4.map (eP (eN .u8) (eN .u8))), .obj b9 (.cells [.int .i64 0, .slice none 0 0] .own), .obj b12 (.cells [.int .i64 y10, .slice a2354 l2353.length l2353.length] .own), .sl a2354 2 l2353.length (l2353.map (eP (eI .i64) (eI .i64)))]⟩) (fun (r : Bool) (g : Unit) => match r, g with | v2964, _ => ⟨(.exit 4), [(1, ptr b8 0), (2, ptr b9 0), (3, .int .i64 v1014), (5, ptr b12 0), (6, .int .i64 v2887), (7, .int .i64 v1018), (8, .int .i64 v2356), (9, .bool v2964)], [.obj b8 (.cells [.int .u8 ((x1 : Nat) : Int), .int .u8 ((x2 : Nat) : Int), .int .u16 ((x3 : Nat) : Int), .slice a5 l4.length c6] .own), .rd a5 c6 2 l4.length (l4.map (eP (eN .u8) (eN .u8))), .obj b9 (.cells [.int .i64 0, .slice none 0 0] .own), .obj b12 (.cells [.int .i64 y10, .slice a2354 l2353.length l2353.length] .own), .sl a2354 2 l2353.length (l2353.map (eP (eI .i64) (eI .i64)))]⟩) ?_ (fun _ _ => rfl) (fun r d => by intro e; cases e) _ _ _ h3008 ()
                  clear hF h3008
                  rintro ⟨v2917, v2918⟩ ⟨⟩ r hF
                  unfold L40_1 at hF
                  refine Wk.seq ?_
                  refine Wk.seq ?_
                  obtain ⟨v2972, h2974, hF⟩ := ob_some hF
                  refine Wk.cut (G := (fun (r : Bool) (g : Unit) => match r, g with | v2972, _ => ⟨.normal, [(1, ptr b8 0), (2, ptr b9 0), (3, .int .i64 v1014), (5, ptr b12 0), (6, .int .i64 v2887), (7, .int .i64 v1018), (8, .int .i64 v2356), (9, .bool v2917), (10, .int .i64 v2918), (83, .bool v2972)], [.obj b8 (.cells [.int .u8 ((x1 : Nat) : Int), .int .u8 ((x2 : Nat) : Int), .int .u16 ((x3 : Nat) : Int), .slice a5 l4.length c6] .own), .rd a5 c6 2 l4.length (l4.map (eP (eN .u8) (eN .u8))), .obj b9 (.cells [.int .i64 0, .slice none 0 0] .own), .obj b12 (.cells [.int .i64 y10, .slice a2354 l2353.length l2353.length] .own), .sl a2354 2 l2353.length (l2353.map (eP (eI .i64) (eI .i64)))]⟩) v2972) ?_ ?_
                  · clear hF
                    revert v2972
                    intro r hF
                    refine Wk.region ?_
                    refine Wo.od (o_mv rfl) rfl ?_
                    refine Wo.od (o_fa (r := ptr b8 3) rfl (fa55_3 _ _)) rfl ?_
                    refine Wo.od (o_ld (k := 0) t53 rfl rfl rfl) rfl ?_
                    refine Wo.od (o_ln (k := 1) u53 rfl rfl (.inl rfl)) rfl ?_
                    refine Wo.od (o_bi rfl rfl (bin_lss _ _ _)) rfl ?_
                    refine Wo.od (o_mv rfl) rfl ?_
                    rcases br_some hF with ⟨h2973, hF⟩ | ⟨h2973, hF⟩
                    · refine Wo.og (o_mv rfl) (gg rfl rfl (eTT h2973)) rfl ?_
                      refine Wo.og (o_bi rfl rfl (bin_lss _ _ _)) (gg rfl rfl (eTT h2973)) rfl ?_
                      refine Wo.od (o_pt rfl h2973 rfl) rfl ?_
                      refine Wo.nil ?_
                      cases hF
                      exact At.en () rfl (sc rfl (sc rfl (sc rfl (sc rfl (sc rfl (sc rfl (sc rfl (sc rfl (sc rfl (sc rfl sn)))))))))) (Turn.picks [0, 1, 2, 3, 4] rfl rfl)
                    · refine Wo.s (gg rfl rfl (eFT h2973)) rfl ?_
                      refine Wo.s (gg rfl rfl (eFT h2973)) rfl ?_
                      refine Wo.od (o_pf rfl h2973 rfl) rfl ?_
                      refine Wo.nil ?_
                      cases hF
                      exact At.en () rfl (sc rfl (sc rfl (sc rfl (sc rfl (sc rfl (sc rfl (sc rfl (sc rfl (sc rfl (sc rfl sn)))))))))) (Turn.picks [0, 1, 2, 3, 4] rfl rfl)
                  · clear h2974
                    rintro ⟨⟩
                    refine At.tn ?_
                    rcases br_some hF with ⟨h2976, hF⟩ | ⟨h2976, hF⟩
                    · refine Wk.condT rfl h2976 ?_
                      refine Wk.skip ?_
                      refine At.tn ?_
                      refine Wk.seq ?_
                      obtain ⟨v2991, h3006, hF⟩ := ob_some hF
                      refine Wk.cut (G := (fun (r : Bool) (g : Unit) => match r, g with | v2991, _ => ⟨.normal, [(1, ptr b8 0), (2, ptr b9 0), (3, .int .i64 v1014), (5, ptr b12 0), (6, .int .i64 v2887), (7, .int .i64 v1018), (8, .int .i64 v2356), (9, .bool v2991), (10, .int .i64 v2918)], [.obj b8 (.cells [.int .u8 ((x1 : Nat) : Int), .int .u8 ((x2 : Nat) : Int), .int .u16 ((x3 : Nat) : Int), .slice a5 l4.length c6] .own), .rd a5 c6 2 l4.length (l4.map (eP (eN .u8) (eN .u8))), .obj b9 (.cells [.int .i64 0, .slice none 0 0] .own), .obj b12 (.cells [.int .i64 y10, .slice a2354 l2353.length l2353.length] .own), .sl a2354 2 l2353.length (l2353.map (eP (eI .i64) (eI .i64)))]⟩) v2991) ?_ ?_
                      · clear hF
                        revert v2991
                        intro r hF
                        refine Wk.block ?_
                        refine Wk.seq ?_
                        refine Wk.draw (by kernel_rfl) ?_
                        refine Wo.od (o_fa (r := ptr b8 3) rfl (fa55_3 _ _)) rfl ?_
                        refine Wo.od (o_ld (k := 0) t53 rfl rfl rfl) rfl ?_
                        refine Wo.od (o_mv rfl) rfl ?_
                        obtain ⟨h2992, hF⟩ := gd_some hF
                        replace h2992 := inB_some h2992
                        refine Wo.openr (k := 1) rfl (pos_of h2992) ?_
                        rintro b2993 o2994 rfl
                        refine Wo.og (o_ixs s53 rfl rfl h2992) gn rfl ?_
                        refine Wo.od (o_ia (r := ptr b2993 (o2994 + v2918.toNat * 2 + 0)) rfl rfl (ia_c ar103 (i := 0) (by decide))) rfl ?_
                        obtain ⟨⟨x2995, x2996⟩, h2997, hF⟩ := ob_some hF
                        refine Wo.od (o_ldr (k := 0) t5 rfl rfl (map_at h2997) rfl rfl) rfl ?_
                        refine Wo.od (o_cv rfl (cv_i (by rw [u5]; rfl) u3)) rfl ?_
                        refine Wo.od (o_fa (r := ptr b12 0) rfl (fa25_0 _ _)) rfl ?_
                        refine Wo.od (o_ld (k := 4) t3 rfl rfl rfl) rfl ?_
                        obtain ⟨h2998, hF⟩ := gd_some hF
                        refine Wo.od (o_bi rfl rfl (ib_rem _ _ h2998)) rfl ?_
                        refine Wo.od (o_fa (r := ptr b8 3) rfl (fa55_3 _ _)) rfl ?_
                        refine Wo.od (o_ld (k := 1) t53 rfl rfl rfl) rfl ?_
                        refine Wo.od (o_mv rfl) rfl ?_
                        obtain ⟨h2999, hF⟩ := gd_some hF
                        replace h2999 := inB_some h2999
                        refine Wo.og (o_ixs s53 rfl rfl h2999) gn rfl ?_
                        refine Wo.od (o_ia (r := ptr b2993 (o2994 + v2918.toNat * 2 + 1)) rfl rfl (ia_c ar103 (i := 1) (by decide))) rfl ?_
                        refine Wo.od (o_ldr (k := 0) t5 rfl rfl (map_at h2997) rfl rfl) rfl ?_
                        refine Wo.od (o_cv rfl (cv_i (by rw [u5]; rfl) u3)) rfl ?_
                        refine Wo.od (o_fa (r := ptr b12 0) rfl (fa25_0 _ _)) rfl ?_
                        refine Wo.od (o_ld (k := 4) t3 rfl rfl rfl) rfl ?_
                        obtain ⟨h3000, hF⟩ := gd_some hF
                        refine Wo.od (o_bi rfl rfl (ib_rem _ _ h3000)) rfl ?_
                        refine Wo.od (o_as rfl) rfl ?_
                        refine Wo.od (o_as rfl) rfl ?_
                        refine Wo.nil ?_
                        refine At.tn ?_
                        refine Wk.region ?_
                        refine Wo.od (o_mv rfl) rfl ?_
                        refine Wo.od (o_mv rfl) rfl ?_
                        rcases br_some hF with ⟨h3001, hF⟩ | ⟨h3001, hF⟩
                        · refine Wo.s (gg rfl rfl (eTF h3001)) rfl ?_
                          refine Wo.s (gg rfl rfl (eTF h3001)) rfl ?_
                          refine Wo.s (gg rfl rfl (eTF h3001)) rfl ?_
                          refine Wo.s (gg rfl rfl (eTF h3001)) rfl ?_
                          refine Wo.s (gu rfl rfl) rfl ?_
                          refine Wo.s (gu rfl rfl) rfl ?_
                          refine Wo.s (gu rfl rfl) rfl ?_
                          refine Wo.s (gg rfl rfl (eTF h3001)) rfl ?_
                          refine Wo.od (o_pt rfl h3001 rfl) rfl ?_
                          refine Wo.od (o_mv rfl) rfl ?_
                          refine Wo.s (gg rfl rfl rfl) rfl ?_
                          refine Wo.s (gg rfl rfl rfl) rfl ?_
                          refine Wo.s (gg rfl rfl rfl) rfl ?_
                          refine Wo.s (gg rfl rfl rfl) rfl ?_
                          refine Wo.s (gu rfl rfl) rfl ?_
                          refine Wo.s (gu rfl rfl) rfl ?_
                          refine Wo.s (gu rfl rfl) rfl ?_
                          refine Wo.s (gg rfl rfl rfl) rfl ?_
                          refine Wo.od (o_pT rfl rfl) rfl ?_
                          refine Wo.od (o_as rfl) rfl ?_
                          refine Wo.nil ?_
                          refine At.bn ?_
                          cases hF
                          exact At.en () rfl (sc rfl (sc rfl (sc rfl (sc rfl (sc rfl (sc rfl (sc rfl (sc rfl (sc rfl sn))))))))) (Turn.picks [1, 2, 3, 4, 5] rfl rfl)
                        · refine Wo.og (o_mv rfl) (gg rfl rfl (eFF h3001)) rfl ?_
                          refine Wo.og (o_mv rfl) (gg rfl rfl (eFF h3001)) rfl ?_
                          refine Wo.og (o_bi rfl rfl (bin_eql _ _ _)) (gg rfl rfl (eFF h3001)) rfl ?_
                          refine Wo.og (o_mv rfl) (gg rfl rfl (eFF h3001)) rfl ?_
                          rcases br_some hF with ⟨h3002, hF⟩ | ⟨h3002, hF⟩
                          · refine Wo.og (o_mv rfl) (gg rfl rfl (eTT h3002)) rfl ?_
                            refine Wo.og (o_mv rfl) (gg rfl rfl (eTT h3002)) rfl ?_
                            refine Wo.og (o_bi rfl rfl (bin_eql _ _ _)) (gg rfl rfl (eTT h3002)) rfl ?_
                            refine Wo.og (o_pt rfl h3002 rfl) (gg rfl rfl (eFF h3001)) rfl ?_
                            refine Wo.od (o_pf rfl h3001 rfl) rfl ?_
                            refine Wo.od (o_mv rfl) rfl ?_
                            rcases br_some hF with ⟨h3003, hF⟩ | ⟨h3003, hF⟩
                            · refine Wo.s (gg rfl rfl (eTF h3003)) rfl ?_
                              refine Wo.s (gg rfl rfl (eTF h3003)) rfl ?_
                              refine Wo.s (gg rfl rfl (eTF h3003)) rfl ?_
                              refine Wo.s (gg rfl rfl (eTF h3003)) rfl ?_
                              refine Wo.s (gu rfl rfl) rfl ?_
                              refine Wo.s (gu rfl rfl) rfl ?_
                              refine Wo.s (gu rfl rfl) rfl ?_
                              refine Wo.s (gg rfl rfl (eTF h3003)) rfl ?_
                              refine Wo.od (o_pt rfl h3003 rfl) rfl ?_
                              refine Wo.od (o_as rfl) rfl ?_
                              refine Wo.nil ?_
                              refine At.bn ?_
                              cases hF
                              exact At.en () rfl (sc rfl (sc rfl (sc rfl (sc rfl (sc rfl (sc rfl (sc rfl (sc rfl (sc rfl sn))))))))) (Turn.picks [1, 2, 3, 4, 5] rfl rfl)
                            · refine Wo.og (o_mv rfl) (gg rfl rfl (eFF h3003)) rfl ?_
                              refine Wo.og (o_mv rfl) (gg rfl rfl (eFF h3003)) rfl ?_
                              refine Wo.og (o_bi rfl rfl (bin_eql _ _ _)) (gg rfl rfl (eFF h3003)) rfl ?_
                              refine Wo.og (o_mv rfl) (gg rfl rfl (eFF h3003)) rfl ?_
                              rcases br_some hF with ⟨h3004, hF⟩ | ⟨h3004, hF⟩
                              · refine Wo.og (o_mv rfl) (gg rfl rfl (eTT h3004)) rfl ?_
                                refine Wo.og (o_mv rfl) (gg rfl rfl (eTT h3004)) rfl ?_
                                refine Wo.og (o_bi rfl rfl (bin_eql _ _ _)) (gg rfl rfl (eTT h3004)) rfl ?_
                                refine Wo.og (o_pt rfl h3004 rfl) (gg rfl rfl (eFF h3003)) rfl ?_
                                refine Wo.od (o_pf rfl h3003 rfl) rfl ?_
                                refine Wo.od (o_as rfl) rfl ?_
                                refine Wo.nil ?_
                                refine At.bn ?_
                                cases hF
                                exact At.en () rfl (sc rfl (sc rfl (sc rfl (sc rfl (sc rfl (sc rfl (sc rfl (sc rfl (sc rfl sn))))))))) (Turn.picks [1, 2, 3, 4, 5] rfl rfl)
                              · refine Wo.s (gg rfl rfl (eFT h3004)) rfl ?_
                                refine Wo.s (gg rfl rfl (eFT h3004)) rfl ?_
                                refine Wo.s (gg rfl rfl (eFT h3004)) rfl ?_
                                refine Wo.og (o_pf rfl h3004 rfl) (gg rfl rfl (eFF h3003)) rfl ?_
                                refine Wo.od (o_pf rfl h3003 rfl) rfl ?_
                                refine Wo.od (o_as rfl) rfl ?_
                                refine Wo.nil ?_
                                refine At.bn ?_
                                cases hF
                                exact At.en () rfl (sc rfl (sc rfl (sc rfl (sc rfl (sc rfl (sc rfl (sc rfl (sc rfl (sc rfl sn))))))))) (Turn.picks [1, 2, 3, 4, 5] rfl rfl)
                          · refine Wo.s (gg rfl rfl (eFT h3002)) rfl ?_
                            refine Wo.s (gg rfl rfl (eFT h3002)) rfl ?_
                            refine Wo.s (gg rfl rfl (eFT h3002)) rfl ?_
                            refine Wo.og (o_pf rfl h3002 rfl) (gg rfl rfl (eFF h3001)) rfl ?_
                            refine Wo.od (o_pf rfl h3001 rfl) rfl ?_
                            refine Wo.od (o_mv rfl) rfl ?_
                            refine Wo.og (o_mv rfl) (gg rfl rfl rfl) rfl ?_
                            refine Wo.og (o_mv rfl) (gg rfl rfl rfl) rfl ?_
                            refine Wo.og (o_bi rfl rfl (bin_eql _ _ _)) (gg rfl rfl rfl) rfl ?_
                            refine Wo.og (o_mv rfl) (gg rfl rfl rfl) rfl ?_
                            rcases br_some hF with ⟨h3005, hF⟩ | ⟨h3005, hF⟩
                            · refine Wo.og (o_mv rfl) (gg rfl rfl (eTT h3005)) rfl ?_
                              refine Wo.og (o_mv rfl) (gg rfl rfl (eTT h3005)) rfl ?_
                              refine Wo.og (o_bi rfl rfl (bin_eql _ _ _)) (gg rfl rfl (eTT h3005)) rfl ?_
                              refine Wo.og (o_pt rfl h3005 rfl) (gg rfl rfl rfl) rfl ?_
                              refine Wo.od (o_pF rfl rfl) rfl ?_
                              refine Wo.od (o_as rfl) rfl ?_
                              refine Wo.nil ?_
                              refine At.bn ?_
                              cases hF
                              exact At.en () rfl (sc rfl (sc rfl (sc rfl (sc rfl (sc rfl (sc rfl (sc rfl (sc rfl (sc rfl sn))))))))) (Turn.picks [1, 2, 3, 4, 5] rfl rfl)
                            · refine Wo.s (gg rfl rfl (eFT h3005)) rfl ?_
                              refine Wo.s (gg rfl rfl (eFT h3005)) rfl ?_
                              refine Wo.s (gg rfl rfl (eFT h3005)) rfl ?_
                              refine Wo.og (o_pf rfl h3005 rfl) (gg rfl rfl rfl) rfl ?_
                              refine Wo.od (o_pF rfl rfl) rfl ?_
                              refine Wo.od (o_as rfl) rfl ?_
                              refine Wo.nil ?_
                              refine At.bn ?_
                              cases hF
                              exact At.en () rfl (sc rfl (sc rfl (sc rfl (sc rfl (sc rfl (sc rfl (sc rfl (sc rfl (sc rfl sn))))))))) (Turn.picks [1, 2, 3, 4, 5] rfl rfl)
                      · clear h3006
                        rintro ⟨⟩
                        refine At.tn ?_
                        refine Wk.region ?_
                        refine Wo.od (o_mv rfl) rfl ?_
                        refine Wo.od (o_bi rfl rfl (bin_add _ _ _)) rfl ?_
                        refine Wo.od (o_as rfl) rfl ?_
                        refine Wo.nil ?_
                        cases hF
                        exact At.en () rfl (sc rfl (sc rfl (sc rfl (sc rfl (sc rfl (sc rfl (sc rfl (sc rfl (sc rfl sn))))))))) (Turn.picks [0, 1, 2, 3, 4] rfl rfl)
                    · refine Wk.condF rfl h2976 ?_
                      refine Wk.exit ?_
                      refine At.te ?_
                      cases hF
                      exact At.en () rfl (sc rfl (sc rfl (sc rfl (sc rfl (sc rfl (sc rfl (sc rfl (sc rfl sn)))))))) (Turn.picks [0, 1, 2, 3, 4] rfl rfl)
                · clear h3008
                  rintro ⟨⟩
                  refine At.be ?_
                  refine At.tn ?_
                  refine Wk.seq ?_
                  refine Wk.region ?_
                  refine Wo.od (o_mv rfl) rfl ?_
                  refine Wo.nil ?_
                  refine At.tn ?_
                  rcases br_some hF with ⟨h3010, hF⟩ | ⟨h3010, hF⟩
                  · refine Wk.condT rfl h3010 ?_
                    refine Wk.region ?_
                    refine Wo.od (o_fa (r := ptr b12 1) rfl (fa25_1 _ _)) rfl ?_
                    refine Wo.od (o_ld (k := 3) t23 rfl rfl rfl) rfl ?_
                    refine Wo.od (o_mv rfl) rfl ?_
                    refine Wo.od (o_mv rfl) rfl ?_
                    refine Wo.od (o_bd rfl z26 rfl (bd_s bs26 rfl rfl rfl)) rfl ?_
                    refine Wo.x (o_bs (es := ([(v1018, v2356)] : List (Int × Int)).map (eP (eI .i64) (eI .i64))) s23 rfl (bs_c s23 z26 rfl rfl) rfl rfl) gn rfl fun b3011 => ?_
                    obtain ⟨h3012, hF⟩ := gd_some hF
                    refine Wo.x (o_apl (k := 5) (k2 := 0) (xs := (l2353 : List (Int × Int))) (ys := ([(v1018, v2356)] : List (Int × Int))) (enP (enI .i64) (enI .i64)) s23 ⟨_, u23⟩ rfl rfl rfl (.arr _ _ _ _ _) h3012) gn rfl fun a3013 => ?_
                    refine Wo.od (o_fa (r := ptr b12 1) rfl (fa25_1 _ _)) rfl ?_
                    refine Wo.o0 (o_st (k := 4) t23 rfl rfl rfl rfl rfl) ?_
                    refine Wo.nil ?_
                    refine At.bn ?_
                    cases hF
                    exact At.en a3013 rfl (sc rfl (sc rfl (sc rfl (sc rfl (sc rfl (sc rfl (sc rfl sn))))))) (Turn.picks [1, 2, 3, 4, 5] rfl rfl)
                  · refine Wk.condF rfl h3010 ?_
                    refine Wk.skip ?_
                    refine At.bn ?_
                    cases hF
                    exact At.en a2354 rfl (sc rfl (sc rfl (sc rfl (sc rfl (sc rfl (sc rfl (sc rfl sn))))))) (Turn.picks [0, 1, 2, 3, 4] rfl rfl)
          · clear h3014
            obtain ⟨l2851, v2853⟩ := r3015
            rintro a2852
            refine At.tn ?_
            refine Wk.region ?_
            refine Wo.od (o_mv rfl) rfl ?_
            refine Wo.od (o_bi rfl rfl (bin_add _ _ _)) rfl ?_
            refine Wo.od (o_as rfl) rfl ?_
            refine Wo.nil ?_
            cases hF
            exact At.en a2852 rfl (sc rfl (sc rfl (sc rfl (sc rfl (sc rfl (sc rfl (sc rfl sn))))))) (Turn.picks [0, 1, 2, 3, 4] rfl rfl)
        · refine Wk.condF rfl h2690 ?_
          refine Wk.exit ?_
          refine At.te ?_
          cases hF
          exact At.en a2354 rfl (sc rfl (sc rfl (sc rfl (sc rfl (sc rfl (sc rfl sn)))))) (Turn.picks [0, 1, 2, 3, 4] rfl rfl)
      · clear h3016
        obtain ⟨l2687, v2689⟩ := r3017
        rintro a2688
        refine At.be ?_
        refine At.bn ?_
        refine At.tn ?_
        refine Wk.region ?_
        refine Wo.od (o_mv rfl) rfl ?_
        refine Wo.od (o_bi rfl rfl (bin_add _ _ _)) rfl ?_
        refine Wo.od (o_as rfl) rfl ?_
        refine Wo.nil ?_
        cases hF
        exact At.en a2688 rfl (sc rfl (sc rfl (sc rfl (sc rfl (sc rfl (sc rfl sn)))))) (Turn.picks [0, 1, 2, 3, 4] rfl rfl)
    · refine Wk.condF rfl h2022 ?_
      refine Wk.exit ?_
      refine At.te ?_
      cases hF
      exact At.en a1016 rfl (sc rfl (sc rfl sn)) (Turn.picks [2, 3, 4] rfl rfl)
  · clear h3018
    rintro a2021
    refine At.be ?_
    refine At.tn ?_
    refine Wk.seq ?_
    refine Wk.region ?_
    refine Wo.od (o_ld (k := 1) t25 rfl rfl rfl) rfl ?_
    refine Wo.o0 (o_st (k := 0) t25 rfl rfl rfl rfl rfl) ?_
    refine Wo.nil ?_
    refine At.tn ?_
    refine Wk.ret ?_
    cases hF
    exact At.ret (.cell (k := 0) t25 rfl rfl rfl .nil) fun m' hm => ⟨(a2021, l2020.length), rfl, (Turn.picks [2] rfl rfl) m' hm⟩

theorem f51_ok (n : Nat) (x1 : Nat)  (r : Int) (hF : F51 n x1 = some r) (m : AMem)  :
    CallA E18w 51 [.int .u64 ((x1 : Nat) : Int)] m (fun v m' => ∃ x : Unit, v = .int .i64 r ∧ Hp m m' []) := by
  unfold F51 at hF
  refine call_wk (m0 := m) (ps := []) (N := 25) (rs := [.tmp 2]) rfl Tryd.func51 rfl rfl rfl (Hp.start m) ?_
  refine Wk.seq ?_
  refine Wk.region ?_
  refine Wo.od (o_as rfl) rfl ?_
  refine Wo.nil ?_
  refine At.tn ?_
  refine Wk.seq ?_
  obtain ⟨r7, h6, hF⟩ := ob_some hF
  refine Wk.cut (G := (fun (r : Nat × Int) (g : Unit) => match r, g with | (v3, v4), _ => ⟨.normal, [(0, .int .u64 ((v3 : Nat) : Int)), (2, .int .i64 v4)], []⟩) r7) ?_ ?_
  · clear hF
    revert r7
    intro r hF
    refine Wk.seq ?_
    refine Wk.region ?_
    refine Wo.od (o_mv rfl) rfl ?_
    refine Wo.od (o_bi rfl rfl (ub_geq _ _)) rfl ?_
    refine Wo.nil ?_
    refine At.tn ?_
    rcases br_some hF with ⟨h5, hF⟩ | ⟨h5, hF⟩
    · refine Wk.condT rfl h5 ?_
      refine Wk.seq ?_
      refine Wk.region ?_
      refine Wo.od (o_mv rfl) rfl ?_
      refine Wo.od (o_bi rfl rfl (ub_shr _ _ rfl)) rfl ?_
      refine Wo.od (o_as rfl) rfl ?_
      refine Wo.nil ?_
      refine At.tn ?_
      refine Wk.region ?_
      refine Wo.od (o_as rfl) rfl ?_
      refine Wo.nil ?_
      cases hF
      exact At.en () rfl (sc rfl (sc rfl sn)) (Turn.picks [] rfl rfl)
    · refine Wk.condF rfl h5 ?_
      refine Wk.skip ?_
      cases hF
      exact At.en () rfl (sc rfl (sc rfl sn)) (Turn.picks [] rfl rfl)
  · clear h6
    obtain ⟨v3, v4⟩ := r7
    rintro ⟨⟩
    refine At.tn ?_
    refine Wk.seq ?_
    obtain ⟨r13, h12, hF⟩ := ob_some hF
    refine Wk.cut (G := (fun (r : Nat × Int) (g : Unit) => match r, g with | (v9, v10), _ => ⟨.normal, [(0, .int .u64 ((v9 : Nat) : Int)), (2, .int .i64 v10)], []⟩) r13) ?_ ?_
    · clear hF
      revert r13
      intro r hF
      refine Wk.seq ?_
      refine Wk.region ?_
      refine Wo.od (o_mv rfl) rfl ?_
      refine Wo.od (o_bi rfl rfl (ub_geq _ _)) rfl ?_
      refine Wo.nil ?_
      refine At.tn ?_
      rcases br_some hF with ⟨h11, hF⟩ | ⟨h11, hF⟩
      · refine Wk.condT rfl h11 ?_
        refine Wk.seq ?_
        refine Wk.region ?_
        refine Wo.od (o_mv rfl) rfl ?_
        refine Wo.od (o_bi rfl rfl (ub_shr _ _ rfl)) rfl ?_
        refine Wo.od (o_as rfl) rfl ?_
        refine Wo.nil ?_
        refine At.tn ?_
        refine Wk.region ?_
        refine Wo.od (o_mv rfl) rfl ?_
        refine Wo.od (o_bi rfl rfl (bin_add _ _ _)) rfl ?_
        refine Wo.od (o_as rfl) rfl ?_
        refine Wo.nil ?_
        cases hF
        exact At.en () rfl (sc rfl (sc rfl sn)) (Turn.picks [] rfl rfl)
      · refine Wk.condF rfl h11 ?_
        refine Wk.skip ?_
        cases hF
        exact At.en () rfl (sc rfl (sc rfl sn)) (Turn.picks [] rfl rfl)
    · clear h12
      obtain ⟨v9, v10⟩ := r13
      rintro ⟨⟩
      refine At.tn ?_
      refine Wk.seq ?_
      obtain ⟨r19, h18, hF⟩ := ob_some hF
      refine Wk.cut (G := (fun (r : Nat × Int) (g : Unit) => match r, g with | (v15, v16), _ => ⟨.normal, [(0, .int .u64 ((v15 : Nat) : Int)), (2, .int .i64 v16)], []⟩) r19) ?_ ?_
      · clear hF
        revert r19
        intro r hF
        refine Wk.seq ?_
        refine Wk.region ?_
        refine Wo.od (o_mv rfl) rfl ?_
        refine Wo.od (o_bi rfl rfl (ub_geq _ _)) rfl ?_
        refine Wo.nil ?_
        refine At.tn ?_
        rcases br_some hF with ⟨h17, hF⟩ | ⟨h17, hF⟩
        · refine Wk.condT rfl h17 ?_
          refine Wk.seq ?_
          refine Wk.region ?_
          refine Wo.od (o_mv rfl) rfl ?_
          refine Wo.od (o_bi rfl rfl (ub_shr _ _ rfl)) rfl ?_
          refine Wo.od (o_as rfl) rfl ?_
          refine Wo.nil ?_
          refine At.tn ?_
          refine Wk.region ?_
          refine Wo.od (o_mv rfl) rfl ?_
          refine Wo.od (o_bi rfl rfl (bin_add _ _ _)) rfl ?_
          refine Wo.od (o_as rfl) rfl ?_
          refine Wo.nil ?_
          cases hF
          exact At.en () rfl (sc rfl (sc rfl sn)) (Turn.picks [] rfl rfl)
        · refine Wk.condF rfl h17 ?_
          refine Wk.skip ?_
          cases hF
          exact At.en () rfl (sc rfl (sc rfl sn)) (Turn.picks [] rfl rfl)
      · clear h18
        obtain ⟨v15, v16⟩ := r19
        rintro ⟨⟩
        refine At.tn ?_
        refine Wk.seq ?_
        refine Wk.region ?_
        refine Wo.od (o_mv rfl) rfl ?_
        refine Wo.od (o_mv rfl) rfl ?_
        refine Wo.od (o_cv rfl (cv_uu (by rw [u28]; rfl) u5 rfl)) rfl ?_
        obtain ⟨h20, hF⟩ := gd_some hF
        obtain ⟨y22, h21, hF⟩ := ob_some hF
        refine Wo.od (o_ixt tab256_482390 u9 rfl (by rfl) rfl h20 h21) rfl ?_
        refine Wo.od (o_cv rfl (cv_i (by rw [u5]; rfl) u3)) rfl ?_
        refine Wo.od (o_bi rfl rfl (bin_add _ _ _)) rfl ?_
        refine Wo.od (o_as rfl) rfl ?_
        refine Wo.nil ?_
        refine At.tn ?_
        refine Wk.ret ?_
        cases hF
        exact At.ret (.tmp rfl .nil) fun m' hm => ⟨(), rfl, (Turn.picks [] rfl rfl) m' hm⟩

theorem f55_ok (n : Nat) (x1 : Int) (l2 : List (Int × Int)) (x6 : Nat) (a3 : Option Addr) (c4 : Nat) (r : Int) (hF : F55 n x1 l2 x6 = some r) (m : AMem) (h5 : Rd m a3 c4 2 l2.length (l2.map (eP (eI .i64) (eI .i64)))) :
    CallA E18w 55 [.agg #[.int .i64 x1, .slice a3 l2.length c4], .int .u64 ((x6 : Nat) : Int)] m (fun v m' => ∃ x : Unit, v = .int .i64 r ∧ Hp m m' []) := by
  unfold F55 at hF
  refine call_wk (m0 := m) (ps := [.rd a3 c4 2 l2.length (l2.map (eP (eI .i64) (eI .i64)))]) (N := 16) (rs := [.tmp 4]) rfl Tryd.func55 rfl rfl rfl ((Hp.start m).inn rfl h5) ?_
  refine Wk.seq ?_
  refine Wk.region ?_
  refine Wo.x (o_bx rfl) gn rfl fun b7 => ?_
  refine Wo.od (o_as rfl) rfl ?_
  refine Wo.nil ?_
  refine At.tn ?_
  refine Wk.seq ?_
  refine Wk.seq ?_
  refine Wk.region ?_
  refine Wo.od (o_ld (k := 0) t25 rfl rfl rfl) rfl ?_
  obtain ⟨r9, h8, hF⟩ := ob_some hF
  refine Wo.x (o_cl rfl rfl (fun m hm => f23_ok n x1 l2 a3 c4 _ h8 m (hm.rd (k := 1) rfl (.rd _ _ _ _ _))) fun _ => rfl) gn rfl ?_
  rintro ⟨⟩
  refine Wo.od (o_as rfl) rfl ?_
  refine Wo.nil ?_
  refine At.tn ?_
  refine Wk.seq ?_
  refine Wk.region ?_
  refine Wo.od (o_mv rfl) rfl ?_
  refine Wo.od (o_bi rfl rfl (ib_neq _ _)) rfl ?_
  refine Wo.nil ?_
  refine At.tn ?_
  rcases br_some hF with ⟨h10, hF⟩ | ⟨h10, hF⟩
  · refine Wk.condT rfl h10 ?_
    refine Wk.seq ?_
    refine Wk.region ?_
    refine Wo.od (o_mv rfl) rfl ?_
    refine Wo.od (o_as rfl) rfl ?_
    refine Wo.nil ?_
    refine At.tn ?_
    refine Wk.ret ?_
    refine At.tr ?_
    have hr := Option.some.inj hF
    subst r
    exact At.ret (.tmp rfl .nil) fun m' hm => ⟨(), rfl, (Turn.picks [] rfl rfl) m' hm⟩
  · refine Wk.condF rfl h10 ?_
    refine Wk.skip ?_
    refine At.tn ?_
    refine Wk.seq ?_
    refine Wk.seq ?_
    refine Wk.drawc (prs := [(1, 3)]) (by kernel_rfl) ?_
    refine Wn.od (o_mv rfl) rfl ?_
    obtain ⟨r12, h11, hF⟩ := ob_some hF
    refine Wn.c (o_ce rfl rfl (fun m hm => f51_ok n x6  _ h11 m ) fun _ => rfl) gn rfl ?_
    rintro ⟨⟩
    refine Wn.od (o_fa (r := ptr b7 0) rfl (fa25_0 _ _)) rfl ?_
    refine Wn.od (o_ld (k := 0) t3 rfl rfl rfl) rfl ?_
    refine Wn.od (o_bi rfl rfl (bin_gtr _ _ _)) rfl ?_
    refine Wn.nil (fun m hm => OkP.all rfl) ?_
    refine At.tn ?_
    rcases br_some hF with ⟨h13, hF⟩ | ⟨h13, hF⟩
    · refine Wk.condT rfl h13 ?_
      refine Wk.seq ?_
      refine Wk.region ?_
      refine Wo.od (o_as rfl) rfl ?_
      refine Wo.nil ?_
      refine At.tn ?_
      refine Wk.ret ?_
      refine At.tr ?_
      cases hF
      exact At.ret (.tmp rfl .nil) fun m' hm => ⟨(), rfl, (Turn.picks [] rfl rfl) m' hm⟩
    · refine Wk.condF rfl h13 ?_
      refine Wk.skip ?_
      refine At.tn ?_
      refine Wk.seq ?_
      refine Wk.region ?_
      refine Wo.od (o_as rfl) rfl ?_
      refine Wo.nil ?_
      refine At.tn ?_
      refine Wk.ret ?_
      cases hF
      exact At.ret (.tmp rfl .nil) fun m' hm => ⟨(), rfl, (Turn.picks [] rfl rfl) m' hm⟩

theorem f75_ok (n : Nat) (x1 : Int) (l2 : List (Int × Int)) (a3 : Option Addr) (c4 : Nat) (r : List Nat) (hF : F75 n x1 l2 = some r) (m : AMem) (h5 : Rd m a3 c4 2 l2.length (l2.map (eP (eI .i64) (eI .i64)))) :
    CallA E18w 75 [.agg #[.int .i64 x1, .slice a3 l2.length c4]] m (fun v m' => ∃ x : Option Addr × Nat, v = .slice x.1 x.2 x.2 ∧ Hp m m' [.sl x.1 1 x.2 (r.map (eN .u64))]) := by
  unfold F75 at hF
  refine call_wk (m0 := m) (ps := [.rd a3 c4 2 l2.length (l2.map (eP (eI .i64) (eI .i64)))]) (N := 38) (rs := [.tmp 2]) rfl Tryd.func75 rfl rfl rfl ((Hp.start m).inn rfl h5) ?_
  refine Wk.seq ?_
  refine Wk.region ?_
  refine Wo.x (o_bx rfl) gn rfl fun b6 => ?_
  refine Wo.od (o_as rfl) rfl ?_
  refine Wo.nil ?_
  refine At.tn ?_
  refine Wk.seq ?_
  refine Wk.region ?_
  refine Wo.od (o_fa (r := ptr b6 0) rfl (fa25_0 _ _)) rfl ?_
  refine Wo.od (o_ld (k := 0) t3 rfl rfl rfl) rfl ?_
  obtain ⟨h7, hF⟩ := gd_some hF
  obtain ⟨h8, hF⟩ := gd_some hF
  refine Wo.x (o_msl (f := eN .u64) (z0 := 0) s36 rfl h7 h8 z28 rfl rfl) gn rfl fun b9 => ?_
  refine Wo.od (o_as rfl) rfl ?_
  refine Wo.nil ?_
  refine At.tn ?_
  refine Wk.seq ?_
  refine Wk.seq ?_
  refine Wk.region ?_
  refine Wo.od (o_fa (r := ptr b6 1) rfl (fa25_1 _ _)) rfl ?_
  refine Wo.od (o_ld (k := 1) t23 rfl rfl rfl) rfl ?_
  refine Wo.od (o_ln (k := 2) u23 rfl rfl (.inl rfl)) rfl ?_
  refine Wo.od (o_mv rfl) rfl ?_
  refine Wo.nil ?_
  refine At.tn ?_
  refine Wk.block ?_
  obtain ⟨l56, h77, hF⟩ := ob_some hF
  refine Wk.cut (G := (fun (r : List (Nat)) (g : Unit) => match r, g with | l56, _ => ⟨(.exit 0), [(3, .slice (some ⟨b9, 0, none⟩) x1.toNat x1.toNat)], [.arr b9 1 x1.toNat (l56.map (eN .u64)) .own]⟩) l56) ?_ ?_
  · refine Wk.weak (fs' := [(3, .slice (some ⟨b9, 0, none⟩) x1.toNat x1.toNat), (10, .slice a3 l2.length c4), (11, .int .i64 (l2.length : Int)), (12, .int .i64 0)]) (ps' := [.arr b9 1 x1.toNat ((List.replicate x1.toNat 0).map (eN .u64)) .own, .rd a3 c4 2 l2.length (l2.map (eP (eI .i64) (eI .i64)))]) (sc rfl (sc rfl (sc rfl (sc rfl sn)))) (Turn.picks [0, 2] rfl rfl) ?_
    refine Wk.loop (σ := List (Nat) × Int) (ρ := List (Nat)) (γ := Unit) (δ := fun _ => Unit) _ (fun (s : List (Nat) × Int) (g : Unit) => match s, g with | (l32, v33), _ => ⟨.normal, [(3, .slice (some ⟨b9, 0, none⟩) x1.toNat x1.toNat), (10, .slice a3 l2.length c4), (11, .int .i64 (l2.length : Int)), (12, .int .i64 v33)], [.arr b9 1 x1.toNat (l32.map (eN .u64)) .own, .rd a3 c4 2 l2.length (l2.map (eP (eI .i64) (eI .i64)))]⟩) (fun (r : List (Nat)) (g : Unit) => match r, g with | l56, _ => ⟨(.exit 0), [(3, .slice (some ⟨b9, 0, none⟩) x1.toNat x1.toNat)], [.arr b9 1 x1.toNat (l56.map (eN .u64)) .own]⟩) ?_ (fun _ _ => rfl) (fun r d => by intro e; cases e) _ _ _ h77 ()
    clear hF h77
    rintro ⟨l32, v33⟩ ⟨⟩ r hF
    unfold L75_1 at hF
    refine Wk.seq ?_
    refine Wk.region ?_
    refine Wo.od (o_bi rfl rfl (bin_lss _ _ _)) rfl ?_
    refine Wo.nil ?_
    refine At.tn ?_
    refine Wk.seq ?_
    rcases br_some hF with ⟨h57, hF⟩ | ⟨h57, hF⟩
    · refine Wk.condT rfl h57 ?_
      refine Wk.skip ?_
      refine At.tn ?_
      refine Wk.seq ?_
      refine Wk.block ?_
      refine Wk.seq ?_
      refine Wk.region ?_
      obtain ⟨h58, hF⟩ := gd_some hF
      replace h58 := inB_some h58
      refine Wo.openr (k := 1) rfl (pos_of h58) ?_
      rintro b59 o60 rfl
      refine Wo.og (o_ixs s23 rfl rfl h58) gn rfl ?_
      obtain ⟨⟨x61, x62⟩, h63, hF⟩ := ob_some hF
      refine Wo.od (o_ldr (k := 0) t26 rfl rfl (map_at h63) rfl rfl) rfl ?_
      refine Wo.x (o_al z26 rfl) gn rfl fun b64 => ?_
      refine Wo.o0 (o_st (k := 0) t26 rfl rfl rfl rfl rfl) ?_
      refine Wo.nil ?_
      refine At.tn ?_
      refine Wk.seq ?_
      refine Wk.draw (by kernel_rfl) ?_
      refine Wo.od (o_mv rfl) rfl ?_
      refine Wo.od (o_ia (r := ptr b64 0) rfl rfl (ia_c ar26 (i := 0) (by decide))) rfl ?_
      refine Wo.od (o_ld (k := 0) t3 rfl rfl rfl) rfl ?_
      obtain ⟨h65, hF⟩ := gd_some hF
      replace h65 := inB_some h65
      refine Wo.og (o_ixa s36 rfl rfl h65) gn rfl ?_
      obtain ⟨x66, h67, hF⟩ := ob_some hF
      refine Wo.od (o_lda (k := 2) t28 rfl rfl (map_at h67) rfl rfl) rfl ?_
      refine Wo.od (o_ia (r := ptr b64 1) rfl rfl (ia_c ar26 (i := 1) (by decide))) rfl ?_
      refine Wo.od (o_ld (k := 0) t3 rfl rfl rfl) rfl ?_
      obtain ⟨h68, hF⟩ := gd_some hF
      refine Wo.od (o_bi rfl rfl (ub_shl rfl _ _ h68)) rfl ?_
      refine Wo.od (o_bi rfl rfl (ub_or rfl _ _)) rfl ?_
      obtain ⟨h69, hF⟩ := gd_some hF
      replace h69 := inB_some h69
      refine Wo.og (o_ixa s36 rfl rfl h69) gn rfl ?_
      refine Wo.o0 (o_stl (k := 2) (x1 := x66) (x2 := uw .u64 (uw .u64 x66 ||| uw .u64 (ushl .u64 1 x62.toNat))) t28 rfl rfl rfl h67 rfl) ?_
      refine Wo.nil ?_
      refine At.tn ?_
      refine Wk.draw (by kernel_rfl) ?_
      refine Wo.od (o_mv rfl) rfl ?_
      refine Wo.od (o_ia (r := ptr b64 1) rfl rfl (ia_c ar26 (i := 1) (by decide))) rfl ?_
      refine Wo.od (o_ld (k := 0) t3 rfl rfl rfl) rfl ?_
      obtain ⟨h71, hF⟩ := gd_some hF
      replace h71 := inB_some h71
      refine Wo.og (o_ixa s36 rfl rfl h71) gn rfl ?_
      obtain ⟨x72, h73, hF⟩ := ob_some hF
      refine Wo.od (o_lda (k := 2) t28 rfl rfl (map_at h73) rfl rfl) rfl ?_
      refine Wo.od (o_ia (r := ptr b64 0) rfl rfl (ia_c ar26 (i := 0) (by decide))) rfl ?_
      refine Wo.od (o_ld (k := 0) t3 rfl rfl rfl) rfl ?_
      obtain ⟨h74, hF⟩ := gd_some hF
      refine Wo.od (o_bi rfl rfl (ub_shl rfl _ _ h74)) rfl ?_
      refine Wo.od (o_bi rfl rfl (ub_or rfl _ _)) rfl ?_
      obtain ⟨h75, hF⟩ := gd_some hF
      replace h75 := inB_some h75
      refine Wo.og (o_ixa s36 rfl rfl h75) gn rfl ?_
      refine Wo.o0 (o_stl (k := 2) (x1 := x72) (x2 := uw .u64 (uw .u64 x72 ||| uw .u64 (ushl .u64 1 x61.toNat))) t28 rfl rfl rfl h73 rfl) ?_
      refine Wo.nil ?_
      refine At.bn ?_
      refine At.tn ?_
      refine Wk.region ?_
      refine Wo.od (o_bi rfl rfl (bin_add _ _ _)) rfl ?_
      refine Wo.od (o_mv rfl) rfl ?_
      refine Wo.nil ?_
      cases hF
      exact At.en () rfl (sc rfl (sc rfl (sc rfl (sc rfl sn)))) (Turn.picks [2, 3] rfl rfl)
    · refine Wk.condF rfl h57 ?_
      refine Wk.exit ?_
      refine At.te ?_
      cases hF
      exact At.en () rfl (sc rfl sn) (Turn.picks [0] rfl rfl)
  · clear h77
    rintro ⟨⟩
    refine At.be ?_
    refine At.tn ?_
    refine Wk.seq ?_
    refine Wk.region ?_
    refine Wo.od (o_mv rfl) rfl ?_
    refine Wo.od (o_as rfl) rfl ?_
    refine Wo.nil ?_
    refine At.tn ?_
    refine Wk.ret ?_
    have hr := Option.some.inj hF
    subst r
    exact At.ret (.tmp rfl .nil) fun m' hm => ⟨((some ⟨b9, 0, none⟩), x1.toNat), rfl, (Turn.trans (Turn.close (k := 0) rfl) (Turn.picks [0] rfl rfl)) m' hm⟩

theorem f58_ok (n : Nat) (x1 : Int) (l2 : List (Int × Int)) (x6 : Nat) (a3 : Option Addr) (c4 : Nat) (r : List Nat) (hF : F58 n x1 l2 x6 = some r) (m : AMem) (hG : Gl m) (h5 : Rd m a3 c4 2 l2.length (l2.map (eP (eI .i64) (eI .i64)))) :
    CallA E18w 58 [.agg #[.int .i64 x1, .slice a3 l2.length c4], .int .u64 ((x6 : Nat) : Int)] m (fun v m' => ∃ x : Option Addr × Nat, v = .slice x.1 x.2 x.2 ∧ Hp m m' [.sl x.1 1 x.2 (r.map (eN .u64))]) := by
  unfold F58 at hF
  refine call_wk (m0 := m) (ps := [.rd a3 c4 2 l2.length (l2.map (eP (eI .i64) (eI .i64)))]) (N := 44) (rs := [.tmp 4]) rfl Tryd.func58 rfl rfl rfl ((Hp.start m).inn rfl h5) ?_
  refine Wk.seq ?_
  refine Wk.region ?_
  refine Wo.x (o_bx rfl) gn rfl fun b7 => ?_
  refine Wo.x (o_bx rfl) gn rfl fun b8 => ?_
  refine Wo.od (o_as rfl) rfl ?_
  refine Wo.nil ?_
  refine At.tn ?_
  refine Wk.seq ?_
  refine Wk.region ?_
  refine Wo.od (o_ld (k := 1) t25 rfl rfl rfl) rfl ?_
  obtain ⟨l10, h9, hF⟩ := ob_some hF
  refine Wo.x (o_cl rfl rfl (fun m hm => f75_ok n x1 l2 a3 c4 _ h9 m (hm.rd (k := 2) rfl (.rd _ _ _ _ _))) fun _ => rfl) gn rfl ?_
  rintro ⟨a11, n12⟩
  refine Wo.len (k := 0) (xs := l10) rfl ?_
  rintro rfl
  refine Wo.x (o_al z36 rfl) gn rfl fun b13 => ?_
  refine Wo.o0 (o_st (k := 0) t36 rfl rfl rfl rfl rfl) ?_
  refine Wo.nil ?_
  refine At.tn ?_
  refine Wk.seq ?_
  refine Wk.region ?_
  refine Wo.od (o_as rfl) rfl ?_
  refine Wo.nil ?_
  refine At.tn ?_
  refine Wk.seq ?_
  refine Wk.seq ?_
  refine Wk.region ?_
  refine Wo.od (o_ld (k := 2) t28 rfl rfl rfl) rfl ?_
  refine Wo.od (o_as rfl) rfl ?_
  refine Wo.nil ?_
  refine At.tn ?_
  refine Wk.block ?_
  obtain ⟨l686, h1020, hF⟩ := ob_some hF
  refine Wk.cut (G := (fun (r : List (Nat)) (g : Option Addr) => match r, g with | l686, a687 => ⟨(.exit 0), [(6, .slice a687 l686.length l686.length)], [.sl a687 1 l686.length (l686.map (eN .u64))]⟩) l686) ?_ ?_
  · refine Wk.weak (fs' := [(3, ptr b8 0), (5, ptr b13 0), (6, .slice none ([] : List (Nat)).length ([] : List (Nat)).length), (7, .int .u64 ((x6 : Nat) : Int))]) (ps' := [.obj b8 (.cells [.int .u64 ((x6 : Nat) : Int)] .own), .obj b13 (.cells [.slice a11 l10.length l10.length] .own), .sl a11 1 l10.length (l10.map (eN .u64)), .sl none 1 ([] : List (Nat)).length (([] : List (Nat)).map (eN .u64))]) (sc rfl (sc rfl (sc rfl (sc rfl sn)))) (Turn.trans (Turn.nil 1 rfl) (Turn.picks [3, 1, 2, 0] rfl rfl)) ?_
    refine Wk.loop (σ := List (Nat) × Nat) (ρ := List (Nat)) (γ := Option Addr) (δ := fun _ => Option Addr) _ (fun (s : List (Nat) × Nat) (g : Option Addr) => match s, g with | (l348, v350), a349 => ⟨.normal, [(3, ptr b8 0), (5, ptr b13 0), (6, .slice a349 l348.length l348.length), (7, .int .u64 ((v350 : Nat) : Int))], [.obj b8 (.cells [.int .u64 ((x6 : Nat) : Int)] .own), .obj b13 (.cells [.slice a11 l10.length l10.length] .own), .sl a11 1 l10.length (l10.map (eN .u64)), .sl a349 1 l348.length (l348.map (eN .u64))]⟩) (fun (r : List (Nat)) (g : Option Addr) => match r, g with | l686, a687 => ⟨(.exit 0), [(6, .slice a687 l686.length l686.length)], [.sl a687 1 l686.length (l686.map (eN .u64))]⟩) ?_ (fun _ _ => rfl) (fun r d => by intro e; cases e) _ _ _ h1020 none
    clear hF h1020
    rintro ⟨l348, v350⟩ a349 r hF
    unfold L58_3 at hF
    refine Wk.seq ?_
    refine Wk.seq ?_
    refine Wk.region ?_
    refine Wo.od (o_mv rfl) rfl ?_
    refine Wo.od (o_bi rfl rfl (ub_neq _ _)) rfl ?_
    refine Wo.nil ?_
    refine At.tn ?_
    rcases br_some hF with ⟨h688, hF⟩ | ⟨h688, hF⟩
    · refine Wk.condT rfl h688 ?_
      refine Wk.skip ?_
      refine At.tn ?_
      refine Wk.block ?_
      refine Wk.seq ?_
      refine Wk.region ?_
      refine Wo.od (o_mv rfl) rfl ?_
      refine Wo.od (o_mv rfl) rfl ?_
      refine Wo.od (o_un rfl (uu_neg rfl _)) rfl ?_
      refine Wo.od (o_bi rfl rfl (ub_and rfl _ _)) rfl ?_
      refine Wo.od (o_as rfl) rfl ?_
      refine Wo.nil ?_
      refine At.tn ?_
      refine Wk.seq ?_
      refine Wk.block ?_
      obtain ⟨v853, h1015, hF⟩ := ob_some hF
      refine Wk.cut (G := (fun (r : Nat) (g : Unit) => match r, g with | v853, _ => ⟨(.exit 2), [(3, ptr b8 0), (5, ptr b13 0), (6, .slice a349 l348.length l348.length), (7, .int .u64 ((v350 : Nat) : Int)), (8, .int .u64 ((v853 : Nat) : Int))], [.obj b8 (.cells [.int .u64 ((x6 : Nat) : Int)] .own), .obj b13 (.cells [.slice a11 l10.length l10.length] .own), .sl a11 1 l10.length (l10.map (eN .u64)), .sl a349 1 l348.length (l348.map (eN .u64))]⟩) v853) ?_ ?_
      · refine Wk.weak (fs' := [(3, ptr b8 0), (5, ptr b13 0), (6, .slice a349 l348.length l348.length), (7, .int .u64 ((v350 : Nat) : Int)), (8, .int .u64 (((uw .u64 (uw .u64 v350 &&& uw .u64 (uneg .u64 v350))) : Nat) : Int))]) (ps' := [.obj b8 (.cells [.int .u64 ((x6 : Nat) : Int)] .own), .obj b13 (.cells [.slice a11 l10.length l10.length] .own), .sl a11 1 l10.length (l10.map (eN .u64)), .sl a349 1 l348.length (l348.map (eN .u64))]) (sc rfl (sc rfl (sc rfl (sc rfl (sc rfl sn))))) (Turn.picks [0, 1, 2, 3] rfl rfl) ?_
        refine Wk.loop (σ := Nat) (ρ := Nat) (γ := Unit) (δ := fun _ => Unit) _ (fun (s : Nat) (g : Unit) => match s, g with | v690, _ => ⟨.normal, [(3, ptr b8 0), (5, ptr b13 0), (6, .slice a349 l348.length l348.length), (7, .int .u64 ((v350 : Nat) : Int)), (8, .int .u64 ((v690 : Nat) : Int))], [.obj b8 (.cells [.int .u64 ((x6 : Nat) : Int)] .own), .obj b13 (.cells [.slice a11 l10.length l10.length] .own), .sl a11 1 l10.length (l10.map (eN .u64)), .sl a349 1 l348.length (l348.map (eN .u64))]⟩) (fun (r : Nat) (g : Unit) => match r, g with | v853, _ => ⟨(.exit 2), [(3, ptr b8 0), (5, ptr b13 0), (6, .slice a349 l348.length l348.length), (7, .int .u64 ((v350 : Nat) : Int)), (8, .int .u64 ((v853 : Nat) : Int))], [.obj b8 (.cells [.int .u64 ((x6 : Nat) : Int)] .own), .obj b13 (.cells [.slice a11 l10.length l10.length] .own), .sl a11 1 l10.length (l10.map (eN .u64)), .sl a349 1 l348.length (l348.map (eN .u64))]⟩) ?_ (fun _ _ => rfl) (fun r d => by intro e; cases e) _ _ _ h1015 ()
        clear hF h1015
        rintro v690 ⟨⟩ r hF
        unfold L58_2 at hF
        refine Wk.block ?_
        refine Wk.seq ?_
        refine Wk.region ?_
        refine Wo.od (o_mv rfl) rfl ?_
        refine Wo.x (o_al z28 rfl) gn rfl fun b854 => ?_
        refine Wo.o0 (o_st (k := 0) t28 rfl rfl rfl rfl rfl) ?_
        refine Wo.nil ?_
        refine At.tn ?_
        refine Wk.seq ?_
        refine Wk.seq ?_
        refine Wk.region ?_
        refine Wo.od (o_mv rfl) rfl ?_
        obtain ⟨r858, h859, hF⟩ := ob_some hF
        refine Wo.x (o_cs (α := Nat) (V := fun g => (fun (r : Unit) (g : Nat) => match r, g with | _, b856 => (.func (.func 78) #[] #[ptr b856 0] : Value)) r858 g) (N := fun g => (fun (r : Unit) (g : Nat) => match r, g with | _, b856 => ([.obj b856 (.cells [.int .u64 ((v690 : Nat) : Int)] .own), .obj b8 (.cells [.int .u64 ((x6 : Nat) : Int)] .own), .obj b13 (.cells [.slice a11 l10.length l10.length] .own), .sl a11 1 l10.length (l10.map (eN .u64)), .sl a349 1 l348.length (l348.map (eN .u64)), .obj b854 (.cells [.int .u64 ((v690 : Nat) : Int)] .own)] : List Pc)) r858 g) rfl rfl (fun m hm => ?_)) gn rfl ?_
        · clear hF
          revert r858
          intro r hF
          refine call_wk (N := 4) (rs := [.tmp 2]) rfl Tryd.func61 rfl rfl rfl hm ?_
          refine Wk.seq ?_
          refine Wk.region ?_
          refine Wo.x (o_bx rfl) gn rfl fun b857 => ?_
          refine Wo.od (o_as rfl) rfl ?_
          refine Wo.nil ?_
          refine At.tn ?_
          refine Wk.seq ?_
          refine Wk.region ?_
          refine Wo.od (o_mf rfl rfl) rfl ?_
          refine Wo.od (o_as rfl) rfl ?_
          refine Wo.nil ?_
          refine At.tn ?_
          refine Wk.ret ?_
          cases hF
          exact At.ret (.tmp rfl .nil) fun m' hm => ⟨b857, rfl, (Turn.picks [0, 2, 3, 4, 5, 1] rfl rfl) m' hm⟩
        · clear h859
          rintro b856
          refine Wo.nil ?_
          refine At.tn ?_
          refine Wk.block ?_
          obtain ⟨v938, h1013, hF⟩ := ob_some hF
          refine Wk.range (N := 14) (rs := []) (γ := Unit) (X := fun g => (fun (r : Nat) (g : Unit) => (match r, g with | v938, _ => ⟨.ready, none, [.obj b8 (.cells [.int .u64 ((x6 : Nat) : Int)] .own), .obj b13 (.cells [.slice a11 l10.length l10.length] .own), .sl a11 1 l10.length (l10.map (eN .u64)), .sl a349 1 l348.length (l348.map (eN .u64)), .obj b854 (.cells [.int .u64 ((v938 : Nat) : Int)] .own)]⟩ : Rn)) v938 g) rfl rfl Tryd.func78 rfl rfl rfl ?_ (fun y => by intro e; cases e) ?_
          · clear hF
            revert v938
            intro r hF
            intro t862 l860 rc861 h863 h864
            refine Wk.block ?_
            obtain ⟨v987, h1010, hF⟩ := ob_some hF
            refine Wk.cut (G := (fun (r : Nat) (g : Unit) => match r, g with | v987, _ => ⟨(.exit 0), [], [.obj l860 (rc861 .ready none), .obj b8 (.cells [.int .u64 ((x6 : Nat) : Int)] .own), .obj b13 (.cells [.slice a11 l10.length l10.length] .own), .sl a11 1 l10.length (l10.map (eN .u64)), .sl a349 1 l348.length (l348.map (eN .u64)), .obj b854 (.cells [.int .u64 ((v987 : Nat) : Int)] .own)]⟩) v987) ?_ ?_
            · refine Wk.weak (fs' := [(0, .func (.yield l860) #[] #[]), (1, ptr b856 0)]) (ps' := [.obj l860 (rc861 .ready none), .obj b856 (.cells [.int .u64 ((v690 : Nat) : Int)] .own), .obj b8 (.cells [.int .u64 ((x6 : Nat) : Int)] .own), .obj b13 (.cells [.slice a11 l10.length l10.length] .own), .sl a11 1 l10.length (l10.map (eN .u64)), .sl a349 1 l348.length (l348.map (eN .u64)), .obj b854 (.cells [.int .u64 ((v690 : Nat) : Int)] .own)]) (sc rfl (sc rfl sn)) (Turn.picks [0, 1, 2, 3, 4, 5, 6] rfl rfl) ?_
              refine Wk.loop (σ := Nat × Nat) (ρ := Nat) (γ := Unit) (δ := fun _ => Unit) _ (fun (s : Nat × Nat) (g : Unit) => match s, g with | (v961, v962), _ => ⟨.normal, [(0, .func (.yield l860) #[] #[]), (1, ptr b856 0)], [.obj l860 (rc861 .ready none), .obj b856 (.cells [.int .u64 ((v961 : Nat) : Int)] .own), .obj b8 (.cells [.int .u64 ((x6 : Nat) : Int)] .own), .obj b13 (.cells [.slice a11 l10.length l10.length] .own), .sl a11 1 l10.length (l10.map (eN .u64)), .sl a349 1 l348.length (l348.map (eN .u64)), .obj b854 (.cells [.int .u64 ((v962 : Nat) : Int)] .own)]⟩) (fun (r : Nat) (g : Unit) => match r, g with | v987, _ => ⟨(.exit 0), [], [.obj l860 (rc861 .ready none), .obj b8 (.cells [.int .u64 ((x6 : Nat) : Int)] .own), .obj b13 (.cells [.slice a11 l10.length l10.length] .own), .sl a11 1 l10.length (l10.map (eN .u64)), .sl a349 1 l348.length (l348.map (eN .u64)), .obj b854 (.cells [.int .u64 ((v987 : Nat) : Int)] .own)]⟩) ?_ (fun _ _ => rfl) (fun r d => by intro e; cases e) _ _ _ h1010 ()
              clear hF h1010
              rintro ⟨v961, v962⟩ ⟨⟩ r hF
              unfold L58_1 at hF
              refine Wk.seq ?_
              refine Wk.seq ?_
              refine Wk.region ?_
              refine Wo.od (o_ld (k := 1) t28 rfl rfl rfl) rfl ?_
              refine Wo.od (o_bi rfl rfl (ub_neq _ _)) rfl ?_
              refine Wo.nil ?_
              refine At.tn ?_
              rcases br_some hF with ⟨h988, hF⟩ | ⟨h988, hF⟩
              · refine Wk.condT rfl h988 ?_
                refine Wk.skip ?_
                refine At.tn ?_
                refine Wk.seq ?_
                refine Wk.block ?_
                refine Wk.seq ?_
                refine Wk.region ?_
                refine Wo.od (o_mv rfl) rfl ?_
                refine Wo.od (o_ld (k := 1) t28 rfl rfl rfl) rfl ?_
                obtain ⟨r990, h989, hF⟩ := ob_some hF
                refine Wo.x (o_cl rfl rfl (fun m hm => f42_ok n v961  _ h989 m (hG.ext hm.ext) ) fun _ => rfl) gn rfl ?_
                rintro ⟨⟩
                obtain ⟨v999, h1009, hF⟩ := ob_some hF
                refine Wo.x (o_yd (k := 0) (k1 := 0) (γA := Unit) (GA := (fun g : Unit => (match g with | _ => ⟨.normal, [(3, ptr b8 0), (5, ptr b13 0), (9, ptr b854 0), (10, .int .i64 r990)], [.obj l860 (rc861 .ready none), .obj b8 (.cells [.int .u64 ((x6 : Nat) : Int)] .own), .obj b13 (.cells [.slice a11 l10.length l10.length] .own), .sl a11 1 l10.length (l10.map (eN .u64)), .obj b854 (.cells [.int .u64 ((v962 : Nat) : Int)] .own), .sl a349 1 l348.length (l348.map (eN .u64)), .obj b856 (.cells [.int .u64 ((v961 : Nat) : Int)] .own)]⟩ : En))) (γ := Unit) (G := fun g => (fun (r : Nat) (g : Unit) => (match r, g with | v999, _ => ⟨.normal, [], [.obj l860 (rc861 .busy none), .obj b8 (.cells [.int .u64 ((x6 : Nat) : Int)] .own), .obj b13 (.cells [.slice a11 l10.length l10.length] .own), .sl a11 1 l10.length (l10.map (eN .u64)), .sl a349 1 l348.length (l348.map (eN .u64)), .obj b854 (.cells [.int .u64 ((v999 : Nat) : Int)] .own), .obj b856 (.cells [.int .u64 ((v961 : Nat) : Int)] .own)]⟩ : En)) v999 g) rfl rfl rfl h864 h863 rfl ?_ (fun _ => rfl) (fun _ => rfl) ?_ (fun y => rfl)) gn rfl ?_
                · clear hF h1009
                  refine Wk.region ?_
                  refine Wo.od (o_as rfl) rfl ?_
                  refine Wo.nil ?_
                  exact At.en () rfl (sc rfl (sc rfl (sc rfl (sc rfl sn)))) (Turn.picks [0, 2, 3, 4, 6, 5, 1] rfl rfl)
                · clear hF
                  revert v999
                  intro r hF
                  rintro ⟨⟩
                  refine Wk.block ?_
                  refine Wk.draw (by kernel_rfl) ?_
                  refine Wo.od (o_ld (k := 4) t28 rfl rfl rfl) rfl ?_
                  refine Wo.od (o_ld (k := 2) t36 rfl rfl rfl) rfl ?_
                  refine Wo.od (o_mv rfl) rfl ?_
                  obtain ⟨h1000, hF⟩ := gd_some hF
                  replace h1000 := inB_some h1000
                  refine Wo.open (k := 3) rfl (pos_of h1000) ?_
                  rintro b1001 tg1002 rfl h1003
                  refine Wo.og (o_ixa s36 rfl rfl h1000) gn rfl ?_
                  obtain ⟨x1004, h1005, hF⟩ := ob_some hF
                  refine Wo.od (o_lda (k := 3) t28 rfl rfl (map_at h1005) rfl rfl) rfl ?_
                  refine Wo.od (o_ld (k := 1) t28 rfl rfl rfl) rfl ?_
                  refine Wo.od (o_bi rfl rfl (ub_and rfl _ _)) rfl ?_
                  obtain ⟨y1006, h1007, hF⟩ := ob_some hF
                  refine Wo.od (o_bi rfl rfl ((ub_or rfl _ _).trans (cN h1007))) rfl ?_
                  refine Wo.o0 (o_st (k := 4) t28 rfl rfl rfl rfl rfl) ?_
                  refine Wo.nil ?_
                  refine At.bn ?_
                  have hr := Option.some.inj hF
                  subst r
                  exact At.en () rfl sn (Turn.trans (Turn.close (k := 3) rfl) (Turn.picks [0, 1, 2, 3, 5, 4, 6] rfl rfl))
                · clear h1009
                  rintro ⟨⟩
                  refine Wo.od (o_un rfl rfl) rfl ?_
                  refine Wo.nil ?_
                  refine At.tn ?_
                  refine Wk.condF rfl rfl ?_
                  refine Wk.skip ?_
                  refine At.bn ?_
                  refine At.tn ?_
                  refine Wk.region ?_
                  refine Wo.od (o_ld (k := 6) t28 rfl rfl rfl) rfl ?_
                  refine Wo.od (o_ld (k := 6) t28 rfl rfl rfl) rfl ?_
                  refine Wo.od (o_bi rfl rfl (ub_sub rfl _ _)) rfl ?_
                  refine Wo.od (o_bi rfl rfl (ub_and rfl _ _)) rfl ?_
                  refine Wo.o0 (o_st (k := 6) t28 rfl rfl rfl rfl rfl) ?_
                  refine Wo.nil ?_
                  cases hF
                  exact At.en () rfl (sc rfl (sc rfl sn)) (Turn.picks [0, 6, 1, 2, 3, 4, 5] rfl rfl)
              · refine Wk.condF rfl h988 ?_
                refine Wk.exit ?_
                refine At.te ?_
                cases hF
                exact At.en () rfl sn (Turn.picks [0, 2, 3, 4, 5, 6] rfl rfl)
            · clear h1010
              rintro ⟨⟩
              refine At.be ?_
              have hr := Option.some.inj hF
              subst r
              exact At.fin .nil fun m' hm => ⟨(), (Turn.picks [0, 1, 2, 3, 4, 5] rfl rfl) m' hm⟩
          · clear h1013
            rintro ⟨⟩
            change At _ .normal _ _ _
            refine At.bn ?_
            refine At.tn ?_
            refine Wk.seq ?_
            refine Wk.seq ?_
            refine Wk.region ?_
            refine Wo.od (o_ld (k := 4) t28 rfl rfl rfl) rfl ?_
            refine Wo.od (o_mv rfl) rfl ?_
            refine Wo.od (o_bi rfl rfl (ub_eql _ _)) rfl ?_
            refine Wo.nil ?_
            refine At.tn ?_
            rcases br_some hF with ⟨h1014, hF⟩ | ⟨h1014, hF⟩
            · refine Wk.condT rfl h1014 ?_
              refine Wk.exit ?_
              refine At.te ?_
              refine At.bx rfl ?_
              cases hF
              exact At.en () rfl (sc rfl (sc rfl (sc rfl (sc rfl (sc rfl sn))))) (Turn.picks [0, 1, 2, 3] rfl rfl)
            · refine Wk.condF rfl h1014 ?_
              refine Wk.skip ?_
              refine At.tn ?_
              refine Wk.region ?_
              refine Wo.od (o_ld (k := 4) t28 rfl rfl rfl) rfl ?_
              refine Wo.od (o_as rfl) rfl ?_
              refine Wo.nil ?_
              refine At.bn ?_
              cases hF
              exact At.en () rfl (sc rfl (sc rfl (sc rfl (sc rfl (sc rfl sn))))) (Turn.picks [0, 1, 2, 3] rfl rfl)
      · clear h1015
        rintro ⟨⟩
        refine At.be ?_
        refine At.tn ?_
        refine Wk.seq ?_
        refine Wk.region ?_
        refine Wo.od (o_mv rfl) rfl ?_
        refine Wo.od (o_mv rfl) rfl ?_
        refine Wo.x (o_bs (es := ([v853] : List (Nat)).map (eN .u64)) s36 rfl (bs_c s36 z28 rfl rfl) rfl rfl) gn rfl fun b1017 => ?_
        obtain ⟨h1018, hF⟩ := gd_some hF
        refine Wo.x (o_apl (k := 4) (k2 := 0) (xs := (l348 : List (Nat))) (ys := ([v853] : List (Nat))) (enN .u64) s36 ⟨_, u36⟩ rfl rfl rfl (.arr _ _ _ _ _) h1018) gn rfl fun a1019 => ?_
        refine Wo.od (o_as rfl) rfl ?_
        refine Wo.nil ?_
        refine At.tn ?_
        refine Wk.region ?_
        refine Wo.od (o_mv rfl) rfl ?_
        refine Wo.od (o_mv rfl) rfl ?_
        refine Wo.od (o_bi rfl rfl (ub_andn rfl _ _)) rfl ?_
        refine Wo.od (o_as rfl) rfl ?_
        refine Wo.nil ?_
        refine At.bn ?_
        cases hF
        exact At.en a1019 rfl (sc rfl (sc rfl (sc rfl (sc rfl sn)))) (Turn.picks [1, 2, 3, 4] rfl rfl)
    · refine Wk.condF rfl h688 ?_
      refine Wk.exit ?_
      refine At.te ?_
      cases hF
      exact At.en a349 rfl (sc rfl sn) (Turn.picks [3] rfl rfl)
  · clear h1020
    rintro a687
    refine At.be ?_
    refine At.tn ?_
    refine Wk.seq ?_
    refine Wk.region ?_
    refine Wo.od (o_mv rfl) rfl ?_
    refine Wo.od (o_as rfl) rfl ?_
    refine Wo.nil ?_
    refine At.tn ?_
    refine Wk.ret ?_
    have hr := Option.some.inj hF
    subst r
    exact At.ret (.tmp rfl .nil) fun m' hm => ⟨(a687, l686.length), rfl, (Turn.picks [0] rfl rfl) m' hm⟩

theorem f17_ok (n : Nat) (x1 : Int) (l2 : List (Int × Int)) (x6 : Nat) (a3 : Option Addr) (c4 : Nat) (r : List Nat × Int) (hF : F17 n x1 l2 x6 = some r) (m : AMem) (hG : Gl m) (h5 : Rd m a3 c4 2 l2.length (l2.map (eP (eI .i64) (eI .i64)))) :
    CallA E18w 17 [.agg #[.int .i64 x1, .slice a3 l2.length c4], .int .u64 ((x6 : Nat) : Int)] m (fun v m' => ∃ x : Option Addr × Nat, v = .tuple #[.slice x.1 x.2 x.2, .int .i64 r.2] ∧ Hp m m' [.sl x.1 1 x.2 (r.1.map (eN .u64))]) := by
  unfold F17 at hF
  refine call_wk (m0 := m) (ps := [.rd a3 c4 2 l2.length (l2.map (eP (eI .i64) (eI .i64)))]) (N := 16) (rs := [.tmp 4, .tmp 5]) rfl Tryd.func17 rfl rfl rfl ((Hp.start m).inn rfl h5) ?_
  refine Wk.seq ?_
  refine Wk.region ?_
  refine Wo.x (o_bx rfl) gn rfl fun b7 => ?_
  refine Wo.od (o_as rfl) rfl ?_
  refine Wo.od (o_as rfl) rfl ?_
  refine Wo.nil ?_
  refine At.tn ?_
  refine Wk.seq ?_
  refine Wk.seq ?_
  refine Wk.region ?_
  refine Wo.od (o_ld (k := 0) t25 rfl rfl rfl) rfl ?_
  refine Wo.od (o_mv rfl) rfl ?_
  obtain ⟨r9, h8, hF⟩ := ob_some hF
  refine Wo.x (o_cl rfl rfl (fun m hm => f55_ok n x1 l2 x6 a3 c4 _ h8 m (hm.rd (k := 1) rfl (.rd _ _ _ _ _))) fun _ => rfl) gn rfl ?_
  rintro ⟨⟩
  refine Wo.od (o_as rfl) rfl ?_
  refine Wo.nil ?_
  refine At.tn ?_
  refine Wk.seq ?_
  refine Wk.region ?_
  refine Wo.od (o_mv rfl) rfl ?_
  refine Wo.od (o_bi rfl rfl (ib_neq _ _)) rfl ?_
  refine Wo.nil ?_
  refine At.tn ?_
  rcases br_some hF with ⟨h10, hF⟩ | ⟨h10, hF⟩
  · refine Wk.condT rfl h10 ?_
    refine Wk.seq ?_
    refine Wk.region ?_
    refine Wo.od (o_mv rfl) rfl ?_
    refine Wo.od (o_as rfl) rfl ?_
    refine Wo.od (o_as rfl) rfl ?_
    refine Wo.nil ?_
    refine At.tn ?_
    refine Wk.ret ?_
    refine At.tr ?_
    cases hF
    exact At.ret (.tmp rfl (.tmp rfl .nil)) fun m' hm => ⟨(none, 0), rfl, (Turn.trans (Turn.nil 1 rfl) (Turn.picks [0] rfl rfl)) m' hm⟩
  · refine Wk.condF rfl h10 ?_
    refine Wk.skip ?_
    refine At.tn ?_
    refine Wk.seq ?_
    refine Wk.region ?_
    refine Wo.od (o_ld (k := 0) t25 rfl rfl rfl) rfl ?_
    refine Wo.od (o_mv rfl) rfl ?_
    obtain ⟨l12, h11, hF⟩ := ob_some hF
    refine Wo.x (o_cl rfl rfl (fun m hm => f58_ok n x1 l2 x6 a3 c4 _ h11 m (hG.ext hm.ext) (hm.rd (k := 1) rfl (.rd _ _ _ _ _))) fun _ => rfl) gn rfl ?_
    rintro ⟨a13, n14⟩
    refine Wo.len (k := 0) (xs := l12) rfl ?_
    rintro rfl
    refine Wo.od (o_as rfl) rfl ?_
    refine Wo.od (o_as rfl) rfl ?_
    refine Wo.nil ?_
    refine At.tn ?_
    refine Wk.ret ?_
    cases hF
    exact At.ret (.tmp rfl (.tmp rfl .nil)) fun m' hm => ⟨(a13, l12.length), rfl, (Turn.picks [0] rfl rfl) m' hm⟩

theorem f16_ok (n : Nat) (x1 : Int) (l2 : List (Int × Int)) (x6 : Nat) (a3 : Option Addr) (c4 : Nat) (r : Bool × Int) (hF : F16 n x1 l2 x6 = some r) (m : AMem) (hG : Gl m) (h5 : Rd m a3 c4 2 l2.length (l2.map (eP (eI .i64) (eI .i64)))) :
    CallA E18w 16 [.agg #[.int .i64 x1, .slice a3 l2.length c4], .int .u64 ((x6 : Nat) : Int)] m (fun v m' => ∃ x : Unit, v = .tuple #[.bool r.1, .int .i64 r.2] ∧ Hp m m' []) := by
  unfold F16 at hF
  refine call_wk (m0 := m) (ps := [.rd a3 c4 2 l2.length (l2.map (eP (eI .i64) (eI .i64)))]) (N := 18) (rs := [.tmp 4, .tmp 5]) rfl Tryd.func16 rfl rfl rfl ((Hp.start m).inn rfl h5) ?_
  refine Wk.seq ?_
  refine Wk.region ?_
  refine Wo.x (o_bx rfl) gn rfl fun b7 => ?_
  refine Wo.od (o_as rfl) rfl ?_
  refine Wo.od (o_as rfl) rfl ?_
  refine Wo.nil ?_
  refine At.tn ?_
  refine Wk.seq ?_
  refine Wk.seq ?_
  refine Wk.region ?_
  refine Wo.od (o_ld (k := 0) t25 rfl rfl rfl) rfl ?_
  refine Wo.od (o_mv rfl) rfl ?_
  obtain ⟨r9, h8, hF⟩ := ob_some hF
  refine Wo.x (o_cl rfl rfl (fun m hm => f55_ok n x1 l2 x6 a3 c4 _ h8 m (hm.rd (k := 1) rfl (.rd _ _ _ _ _))) fun _ => rfl) gn rfl ?_
  rintro ⟨⟩
  refine Wo.od (o_as rfl) rfl ?_
  refine Wo.nil ?_
  refine At.tn ?_
  refine Wk.seq ?_
  refine Wk.region ?_
  refine Wo.od (o_mv rfl) rfl ?_
  refine Wo.od (o_bi rfl rfl (ib_neq _ _)) rfl ?_
  refine Wo.nil ?_
  refine At.tn ?_
  rcases br_some hF with ⟨h10, hF⟩ | ⟨h10, hF⟩
  · refine Wk.condT rfl h10 ?_
    refine Wk.seq ?_
    refine Wk.region ?_
    refine Wo.od (o_mv rfl) rfl ?_
    refine Wo.od (o_as rfl) rfl ?_
    refine Wo.od (o_as rfl) rfl ?_
    refine Wo.nil ?_
    refine At.tn ?_
    refine Wk.ret ?_
    refine At.tr ?_
    cases hF
    exact At.ret (.tmp rfl (.tmp rfl .nil)) fun m' hm => ⟨(), rfl, (Turn.picks [] rfl rfl) m' hm⟩
  · refine Wk.condF rfl h10 ?_
    refine Wk.skip ?_
    refine At.tn ?_
    refine Wk.seq ?_
    refine Wk.region ?_
    refine Wo.od (o_ld (k := 0) t25 rfl rfl rfl) rfl ?_
    refine Wo.od (o_mv rfl) rfl ?_
    obtain ⟨l12, h11, hF⟩ := ob_some hF
    refine Wo.x (o_cl rfl rfl (fun m hm => f58_ok n x1 l2 x6 a3 c4 _ h11 m (hG.ext hm.ext) (hm.rd (k := 1) rfl (.rd _ _ _ _ _))) fun _ => rfl) gn rfl ?_
    rintro ⟨a13, n14⟩
    refine Wo.len (k := 0) (xs := l12) rfl ?_
    rintro rfl
    refine Wo.od (o_ln (k := 0) u36 rfl rfl (.inl rfl)) rfl ?_
    refine Wo.od (o_bi rfl rfl (bin_eql _ _ _)) rfl ?_
    refine Wo.od (o_as rfl) rfl ?_
    refine Wo.od (o_as rfl) rfl ?_
    refine Wo.nil ?_
    refine At.tn ?_
    refine Wk.ret ?_
    cases hF
    exact At.ret (.tmp rfl (.tmp rfl .nil)) fun m' hm => ⟨(), rfl, (Turn.picks [] rfl rfl) m' hm⟩

theorem f56_ok (n : Nat) (x1 : Int) (l2 : List (Int × Int)) (x6 : Nat) (a3 : Option Addr) (c4 : Nat) (r : Nat) (hF : F56 n x1 l2 x6 = some r) (m : AMem) (hG : Gl m) (h5 : Rd m a3 c4 2 l2.length (l2.map (eP (eI .i64) (eI .i64)))) :
    CallA E18w 56 [.agg #[.int .i64 x1, .slice a3 l2.length c4], .int .u64 ((x6 : Nat) : Int)] m (fun v m' => ∃ x : Unit, v = .int .u64 ((r : Nat) : Int) ∧ Hp m m' []) := by
  unfold F56 at hF
  refine call_wk (m0 := m) (ps := [.rd a3 c4 2 l2.length (l2.map (eP (eI .i64) (eI .i64)))]) (N := 22) (rs := [.tmp 4]) rfl Tryd.func56 rfl rfl rfl ((Hp.start m).inn rfl h5) ?_
  refine Wk.seq ?_
  refine Wk.region ?_
  refine Wo.x (o_bx rfl) gn rfl fun b7 => ?_
  refine Wo.od (o_as rfl) rfl ?_
  refine Wo.nil ?_
  refine At.tn ?_
  refine Wk.seq ?_
  refine Wk.region ?_
  refine Wo.od (o_ld (k := 0) t25 rfl rfl rfl) rfl ?_
  obtain ⟨l9, h8, hF⟩ := ob_some hF
  refine Wo.x (o_cl rfl rfl (fun m hm => f75_ok n x1 l2 a3 c4 _ h8 m (hm.rd (k := 1) rfl (.rd _ _ _ _ _))) fun _ => rfl) gn rfl ?_
  rintro ⟨a10, n11⟩
  refine Wo.len (k := 0) (xs := l9) rfl ?_
  rintro rfl
  refine Wo.x (o_al z36 rfl) gn rfl fun b12 => ?_
  refine Wo.o0 (o_st (k := 0) t36 rfl rfl rfl rfl rfl) ?_
  refine Wo.nil ?_
  refine At.tn ?_
  refine Wk.seq ?_
  refine Wk.region ?_
  refine Wo.x (o_al z28 rfl) gn rfl fun b13 => ?_
  refine Wo.nil ?_
  refine At.tn ?_
  refine Wk.seq ?_
  refine Wk.seq ?_
  refine Wk.region ?_
  refine Wo.od (o_mv rfl) rfl ?_
  obtain ⟨r17, h18, hF⟩ := ob_some hF
  refine Wo.x (o_cs (α := Nat) (V := fun g => (fun (r : Unit) (g : Nat) => match r, g with | _, b15 => (.func (.func 78) #[] #[ptr b15 0] : Value)) r17 g) (N := fun g => (fun (r : Unit) (g : Nat) => match r, g with | _, b15 => ([.obj b15 (.cells [.int .u64 ((x6 : Nat) : Int)] .own), .obj b12 (.cells [.slice a10 l9.length l9.length] .own), .sl a10 1 l9.length (l9.map (eN .u64)), .obj b13 (.cells [.int .u64 ((0 : Nat) : Int)] .own)] : List Pc)) r17 g) rfl rfl (fun m hm => ?_)) gn rfl ?_
  · clear hF
    revert r17
    intro r hF
    refine call_wk (N := 4) (rs := [.tmp 2]) rfl Tryd.func61 rfl rfl rfl hm ?_
    refine Wk.seq ?_
    refine Wk.region ?_
    refine Wo.x (o_bx rfl) gn rfl fun b16 => ?_
    refine Wo.od (o_as rfl) rfl ?_
    refine Wo.nil ?_
    refine At.tn ?_
    refine Wk.seq ?_
    refine Wk.region ?_
    refine Wo.od (o_mf rfl rfl) rfl ?_
    refine Wo.od (o_as rfl) rfl ?_
    refine Wo.nil ?_
    refine At.tn ?_
    refine Wk.ret ?_
    cases hF
    exact At.ret (.tmp rfl .nil) fun m' hm => ⟨b16, rfl, (Turn.picks [0, 2, 3, 1] rfl rfl) m' hm⟩
  · clear h18
    rintro b15
    refine Wo.nil ?_
    refine At.tn ?_
    refine Wk.block ?_
    obtain ⟨v85, h148, hF⟩ := ob_some hF
    refine Wk.range (N := 14) (rs := []) (γ := Unit) (X := fun g => (fun (r : Nat) (g : Unit) => (match r, g with | v85, _ => ⟨.ready, none, [.obj b12 (.cells [.slice a10 l9.length l9.length] .own), .sl a10 1 l9.length (l9.map (eN .u64)), .obj b13 (.cells [.int .u64 ((v85 : Nat) : Int)] .own)]⟩ : Rn)) v85 g) rfl rfl Tryd.func78 rfl rfl rfl ?_ (fun y => by intro e; cases e) ?_
    · clear hF
      revert v85
      intro r hF
      intro t21 l19 rc20 h22 h23
      refine Wk.block ?_
      obtain ⟨v126, h145, hF⟩ := ob_some hF
      refine Wk.cut (G := (fun (r : Nat) (g : Unit) => match r, g with | v126, _ => ⟨(.exit 0), [], [.obj l19 (rc20 .ready none), .obj b12 (.cells [.slice a10 l9.length l9.length] .own), .sl a10 1 l9.length (l9.map (eN .u64)), .obj b13 (.cells [.int .u64 ((v126 : Nat) : Int)] .own)]⟩) v126) ?_ ?_
      · refine Wk.weak (fs' := [(0, .func (.yield l19) #[] #[]), (1, ptr b15 0)]) (ps' := [.obj l19 (rc20 .ready none), .obj b15 (.cells [.int .u64 ((x6 : Nat) : Int)] .own), .obj b12 (.cells [.slice a10 l9.length l9.length] .own), .sl a10 1 l9.length (l9.map (eN .u64)), .obj b13 (.cells [.int .u64 ((0 : Nat) : Int)] .own)]) (sc rfl (sc rfl sn)) (Turn.picks [0, 1, 2, 3, 4] rfl rfl) ?_
        refine Wk.loop (σ := Nat × Nat) (ρ := Nat) (γ := Unit) (δ := fun _ => Unit) _ (fun (s : Nat × Nat) (g : Unit) => match s, g with | (v104, v105), _ => ⟨.normal, [(0, .func (.yield l19) #[] #[]), (1, ptr b15 0)], [.obj l19 (rc20 .ready none), .obj b15 (.cells [.int .u64 ((v104 : Nat) : Int)] .own), .obj b12 (.cells [.slice a10 l9.length l9.length] .own), .sl a10 1 l9.length (l9.map (eN .u64)), .obj b13 (.cells [.int .u64 ((v105 : Nat) : Int)] .own)]⟩) (fun (r : Nat) (g : Unit) => match r, g with | v126, _ => ⟨(.exit 0), [], [.obj l19 (rc20 .ready none), .obj b12 (.cells [.slice a10 l9.length l9.length] .own), .sl a10 1 l9.length (l9.map (eN .u64)), .obj b13 (.cells [.int .u64 ((v126 : Nat) : Int)] .own)]⟩) ?_ (fun _ _ => rfl) (fun r d => by intro e; cases e) _ _ _ h145 ()
        clear hF h145
        rintro ⟨v104, v105⟩ ⟨⟩ r hF
        unfold L56_1 at hF
        refine Wk.seq ?_
        refine Wk.seq ?_
        refine Wk.region ?_
        refine Wo.od (o_ld (k := 1) t28 rfl rfl rfl) rfl ?_
        refine Wo.od (o_bi rfl rfl (ub_neq _ _)) rfl ?_
        refine Wo.nil ?_
        refine At.tn ?_
        rcases br_some hF with ⟨h127, hF⟩ | ⟨h127, hF⟩
        · refine Wk.condT rfl h127 ?_
          refine Wk.skip ?_
          refine At.tn ?_
          refine Wk.seq ?_
          refine Wk.block ?_
          refine Wk.seq ?_
          refine Wk.region ?_
          refine Wo.od (o_mv rfl) rfl ?_
          refine Wo.od (o_ld (k := 1) t28 rfl rfl rfl) rfl ?_
          obtain ⟨r129, h128, hF⟩ := ob_some hF
          refine Wo.x (o_cl rfl rfl (fun m hm => f42_ok n v104  _ h128 m (hG.ext hm.ext) ) fun _ => rfl) gn rfl ?_
          rintro ⟨⟩
          obtain ⟨v136, h144, hF⟩ := ob_some hF
          refine Wo.x (o_yd (k := 0) (k1 := 0) (γA := Unit) (GA := (fun g : Unit => (match g with | _ => ⟨.normal, [(5, ptr b12 0), (6, ptr b13 0), (7, .int .i64 r129)], [.obj l19 (rc20 .ready none), .obj b12 (.cells [.slice a10 l9.length l9.length] .own), .sl a10 1 l9.length (l9.map (eN .u64)), .obj b13 (.cells [.int .u64 ((v105 : Nat) : Int)] .own), .obj b15 (.cells [.int .u64 ((v104 : Nat) : Int)] .own)]⟩ : En))) (γ := Unit) (G := fun g => (fun (r : Nat) (g : Unit) => (match r, g with | v136, _ => ⟨.normal, [], [.obj l19 (rc20 .busy none), .obj b12 (.cells [.slice a10 l9.length l9.length] .own), .sl a10 1 l9.length (l9.map (eN .u64)), .obj b13 (.cells [.int .u64 ((v136 : Nat) : Int)] .own), .obj b15 (.cells [.int .u64 ((v104 : Nat) : Int)] .own)]⟩ : En)) v136 g) rfl rfl rfl h23 h22 rfl ?_ (fun _ => rfl) (fun _ => rfl) ?_ (fun y => rfl)) gn rfl ?_
          · clear hF h144
            refine Wk.region ?_
            refine Wo.od (o_as rfl) rfl ?_
            refine Wo.nil ?_
            exact At.en () rfl (sc rfl (sc rfl (sc rfl sn))) (Turn.picks [0, 2, 3, 4, 1] rfl rfl)
          · clear hF
            revert v136
            intro r hF
            rintro ⟨⟩
            refine Wk.block ?_
            refine Wk.draw (by kernel_rfl) ?_
            refine Wo.od (o_ld (k := 3) t28 rfl rfl rfl) rfl ?_
            refine Wo.od (o_ld (k := 1) t36 rfl rfl rfl) rfl ?_
            refine Wo.od (o_mv rfl) rfl ?_
            obtain ⟨h137, hF⟩ := gd_some hF
            replace h137 := inB_some h137
            refine Wo.open (k := 2) rfl (pos_of h137) ?_
            rintro b138 tg139 rfl h140
            refine Wo.og (o_ixa s36 rfl rfl h137) gn rfl ?_
            obtain ⟨x141, h142, hF⟩ := ob_some hF
            refine Wo.od (o_lda (k := 2) t28 rfl rfl (map_at h142) rfl rfl) rfl ?_
            refine Wo.od (o_bi rfl rfl (ub_or rfl _ _)) rfl ?_
            refine Wo.o0 (o_st (k := 3) t28 rfl rfl rfl rfl rfl) ?_
            refine Wo.nil ?_
            refine At.bn ?_
            cases hF
            exact At.en () rfl sn (Turn.trans (Turn.close (k := 2) rfl) (Turn.picks [0, 1, 2, 3, 4] rfl rfl))
          · clear h144
            rintro ⟨⟩
            refine Wo.od (o_un rfl rfl) rfl ?_
            refine Wo.nil ?_
            refine At.tn ?_
            refine Wk.condF rfl rfl ?_
            refine Wk.skip ?_
            refine At.bn ?_
            refine At.tn ?_
            refine Wk.region ?_
            refine Wo.od (o_ld (k := 4) t28 rfl rfl rfl) rfl ?_
            refine Wo.od (o_ld (k := 4) t28 rfl rfl rfl) rfl ?_
            refine Wo.od (o_bi rfl rfl (ub_sub rfl _ _)) rfl ?_
            refine Wo.od (o_bi rfl rfl (ub_and rfl _ _)) rfl ?_
            refine Wo.o0 (o_st (k := 4) t28 rfl rfl rfl rfl rfl) ?_
            refine Wo.nil ?_
            cases hF
            exact At.en () rfl (sc rfl (sc rfl sn)) (Turn.picks [0, 4, 1, 2, 3] rfl rfl)
        · refine Wk.condF rfl h127 ?_
          refine Wk.exit ?_
          refine At.te ?_
          cases hF
          exact At.en () rfl sn (Turn.picks [0, 2, 3, 4] rfl rfl)
      · clear h145
        rintro ⟨⟩
        refine At.be ?_
        have hr := Option.some.inj hF
        subst r
        exact At.fin .nil fun m' hm => ⟨(), (Turn.picks [0, 1, 2, 3] rfl rfl) m' hm⟩
    · clear h148
      rintro ⟨⟩
      change At _ .normal _ _ _
      refine At.bn ?_
      refine At.tn ?_
      refine Wk.seq ?_
      refine Wk.region ?_
      refine Wo.od (o_ld (k := 2) t28 rfl rfl rfl) rfl ?_
      refine Wo.od (o_mv rfl) rfl ?_
      refine Wo.od (o_bi rfl rfl (ub_andn rfl _ _)) rfl ?_
      refine Wo.od (o_as rfl) rfl ?_
      refine Wo.nil ?_
      refine At.tn ?_
      refine Wk.ret ?_
      cases hF
      exact At.ret (.tmp rfl .nil) fun m' hm => ⟨(), rfl, (Turn.picks [] rfl rfl) m' hm⟩

theorem f14_ok (n : Nat) (x1 : Int) (l2 : List (Int × Int)) (x6 : Nat) (a3 : Option Addr) (c4 : Nat) (r : Nat × Int) (hF : F14 n x1 l2 x6 = some r) (m : AMem) (hG : Gl m) (h5 : Rd m a3 c4 2 l2.length (l2.map (eP (eI .i64) (eI .i64)))) :
    CallA E18w 14 [.agg #[.int .i64 x1, .slice a3 l2.length c4], .int .u64 ((x6 : Nat) : Int)] m (fun v m' => ∃ x : Unit, v = .tuple #[.int .u64 ((r.1 : Nat) : Int), .int .i64 r.2] ∧ Hp m m' []) := by
  unfold F14 at hF
  refine call_wk (m0 := m) (ps := [.rd a3 c4 2 l2.length (l2.map (eP (eI .i64) (eI .i64)))]) (N := 16) (rs := [.tmp 4, .tmp 5]) rfl Tryd.func14 rfl rfl rfl ((Hp.start m).inn rfl h5) ?_
  refine Wk.seq ?_
  refine Wk.region ?_
  refine Wo.x (o_bx rfl) gn rfl fun b7 => ?_
  refine Wo.od (o_as rfl) rfl ?_
  refine Wo.od (o_as rfl) rfl ?_
  refine Wo.nil ?_
  refine At.tn ?_
  refine Wk.seq ?_
  refine Wk.seq ?_
  refine Wk.region ?_
  refine Wo.od (o_ld (k := 0) t25 rfl rfl rfl) rfl ?_
  refine Wo.od (o_mv rfl) rfl ?_
  obtain ⟨r9, h8, hF⟩ := ob_some hF
  refine Wo.x (o_cl rfl rfl (fun m hm => f55_ok n x1 l2 x6 a3 c4 _ h8 m (hm.rd (k := 1) rfl (.rd _ _ _ _ _))) fun _ => rfl) gn rfl ?_
  rintro ⟨⟩
  refine Wo.od (o_as rfl) rfl ?_
  refine Wo.nil ?_
  refine At.tn ?_
  refine Wk.seq ?_
  refine Wk.region ?_
  refine Wo.od (o_mv rfl) rfl ?_
  refine Wo.od (o_bi rfl rfl (ib_neq _ _)) rfl ?_
  refine Wo.nil ?_
  refine At.tn ?_
  rcases br_some hF with ⟨h10, hF⟩ | ⟨h10, hF⟩
  · refine Wk.condT rfl h10 ?_
    refine Wk.seq ?_
    refine Wk.region ?_
    refine Wo.od (o_mv rfl) rfl ?_
    refine Wo.od (o_as rfl) rfl ?_
    refine Wo.od (o_as rfl) rfl ?_
    refine Wo.nil ?_
    refine At.tn ?_
    refine Wk.ret ?_
    refine At.tr ?_
    cases hF
    exact At.ret (.tmp rfl (.tmp rfl .nil)) fun m' hm => ⟨(), rfl, (Turn.picks [] rfl rfl) m' hm⟩
  · refine Wk.condF rfl h10 ?_
    refine Wk.skip ?_
    refine At.tn ?_
    refine Wk.seq ?_
    refine Wk.region ?_
    refine Wo.od (o_ld (k := 0) t25 rfl rfl rfl) rfl ?_
    refine Wo.od (o_mv rfl) rfl ?_
    obtain ⟨r12, h11, hF⟩ := ob_some hF
    refine Wo.x (o_cl rfl rfl (fun m hm => f56_ok n x1 l2 x6 a3 c4 _ h11 m (hG.ext hm.ext) (hm.rd (k := 1) rfl (.rd _ _ _ _ _))) fun _ => rfl) gn rfl ?_
    rintro ⟨⟩
    refine Wo.od (o_as rfl) rfl ?_
    refine Wo.od (o_as rfl) rfl ?_
    refine Wo.nil ?_
    refine At.tn ?_
    refine Wk.ret ?_
    cases hF
    exact At.ret (.tmp rfl (.tmp rfl .nil)) fun m' hm => ⟨(), rfl, (Turn.picks [] rfl rfl) m' hm⟩

theorem f6_ok (n : Nat) (x1 : Nat) (x2 : Nat) (x3 : Nat) (l4 : List (Nat × Nat)) (x8 : Nat) (x9 : Nat) (x10 : Int) (x11 : Int) (x12 : Int) (x13 : Nat) (x14 : Nat) (x15 : Int) (x16 : Int) (x17 : Int) (x18 : Nat) (a5 : Option Addr) (c6 : Nat) (r : Bool) (hF : F6 n x1 x2 x3 l4 x8 x9 x10 x11 x12 x13 x14 x15 x16 x17 x18 = some r) (m : AMem) (hG : Gl m) (h7 : Rd m a5 c6 2 l4.length (l4.map (eP (eN .u8) (eN .u8)))) :
    CallA E18w 6 [.agg #[.int .u8 ((x1 : Nat) : Int), .int .u8 ((x2 : Nat) : Int), .int .u16 ((x3 : Nat) : Int), .slice a5 l4.length c6], .agg #[.int .u8 ((x8 : Nat) : Int), .int .u8 ((x9 : Nat) : Int), .int .i64 x10, .int .i64 x11, .int .i64 x12, .int .u8 ((x13 : Nat) : Int), .int .u8 ((x14 : Nat) : Int), .int .i64 x15, .int .i64 x16, .int .i64 x17], .int .u64 ((x18 : Nat) : Int)] m (fun v m' => ∃ x : Unit, v = .bool r ∧ Hp m m' []) := by
  unfold F6 at hF
  refine call_wk (m0 := m) (ps := [.rd a5 c6 2 l4.length (l4.map (eP (eN .u8) (eN .u8)))]) (N := 132) (rs := [.tmp 6]) rfl Tryd.func6 rfl rfl rfl ((Hp.start m).inn rfl h7) ?_
  refine Wk.seq ?_
  refine Wk.region ?_
  refine Wo.x (o_bx rfl) gn rfl fun b19 => ?_
  refine Wo.x (o_bx rfl) gn rfl fun b20 => ?_
  refine Wo.od (o_as rfl) rfl ?_
  refine Wo.nil ?_
  refine At.tn ?_
  refine Wk.seq ?_
  refine Wk.seq ?_
  obtain ⟨v55, h66, hF⟩ := ob_some hF
  refine Wk.cut (G := (fun (r : Bool) (g : Unit) => match r, g with | v55, _ => ⟨.normal, [(2, .int .u64 ((x18 : Nat) : Int)), (3, ptr b19 0), (4, ptr b20 0), (28, .bool v55)], [.obj b19 (.cells [.int .u8 ((x1 : Nat) : Int), .int .u8 ((x2 : Nat) : Int), .int .u16 ((x3 : Nat) : Int), .slice a5 l4.length c6] .own), .rd a5 c6 2 l4.length (l4.map (eP (eN .u8) (eN .u8))), .obj b20 (.cells [.int .u8 ((x8 : Nat) : Int), .int .u8 ((x9 : Nat) : Int), .int .i64 x10, .int .i64 x11, .int .i64 x12, .int .u8 ((x13 : Nat) : Int), .int .u8 ((x14 : Nat) : Int), .int .i64 x15, .int .i64 x16, .int .i64 x17] .own)]⟩) v55) ?_ ?_
  · clear hF
    revert v55
    intro r hF
    refine Wk.region ?_
    obtain ⟨r57, h56, hF⟩ := ob_some hF
    refine Wo.x (o_cl rfl rfl (fun m hm => f13_ok n   _ h56 m (hG.ext hm.ext) ) fun _ => rfl) gn rfl ?_
    rintro ⟨⟩
    refine Wo.od (o_un rfl rfl) rfl ?_
    refine Wo.od (o_mv rfl) rfl ?_
    rcases br_some hF with ⟨h58, hF⟩ | ⟨h58, hF⟩
    · refine Wo.s (gg rfl rfl (eTF h58)) rfl ?_
      refine Wo.s (gg rfl rfl (eTF h58)) rfl ?_
      refine Wo.s (gg rfl rfl (eTF h58)) rfl ?_
      refine Wo.s (gg rfl rfl (eTF h58)) rfl ?_
      refine Wo.od (o_pt rfl h58 rfl) rfl ?_
      refine Wo.nil ?_
      cases hF
      exact At.en () rfl (sc rfl (sc rfl (sc rfl (sc rfl sn)))) (Turn.picks [1, 2, 0] rfl rfl)
    · refine Wo.og (o_ld (k := 1) t55 rfl rfl rfl) (gg rfl rfl (eFF h58)) rfl ?_
      obtain ⟨⟨r60, l61⟩, h59, hF⟩ := ob_some hF
      refine Wo.x (o_cl rfl rfl (fun m hm => f40_ok n x1 x2 x3 l4 a5 c6 _ h59 m (hm.rd (k := 2) rfl (.rd _ _ _ _ _))) fun _ => rfl) (gg rfl rfl (eFF h58)) rfl ?_
      rintro ⟨a62, n63⟩
      refine Wo.len (k := 0) (xs := l61) rfl ?_
      rintro rfl
      obtain ⟨r65, h64, hF⟩ := ob_some hF
      refine Wo.x (o_cl rfl rfl (fun m hm => f23_ok n r60 l61 a62 l61.length _ h64 m (hm.rd (k := 0) rfl (.sl _ _ _ _))) fun _ => rfl) (gg rfl rfl (eFF h58)) rfl ?_
      rintro ⟨⟩
      refine Wo.og (o_bi rfl rfl (ib_neq _ _)) (gg rfl rfl (eFF h58)) rfl ?_
      refine Wo.od (o_pf rfl h58 rfl) rfl ?_
      refine Wo.nil ?_
      cases hF
      exact At.en () rfl (sc rfl (sc rfl (sc rfl (sc rfl sn)))) (Turn.picks [2, 3, 1] rfl rfl)
  · clear h66
    rintro ⟨⟩
    refine At.tn ?_
    rcases br_some hF with ⟨h68, hF⟩ | ⟨h68, hF⟩
    · refine Wk.condT rfl h68 ?_
      refine Wk.seq ?_
      refine Wk.region ?_
      refine Wo.od (o_as rfl) rfl ?_
      refine Wo.nil ?_
      refine At.tn ?_
      refine Wk.ret ?_
      refine At.tr ?_
      cases hF
      exact At.ret (.tmp rfl .nil) fun m' hm => ⟨(), rfl, (Turn.picks [] rfl rfl) m' hm⟩
    · refine Wk.condF rfl h68 ?_
      refine Wk.skip ?_
      refine At.tn ?_
      refine Wk.seq ?_
      refine Wk.seq ?_
      refine Wk.region ?_
      refine Wo.od (o_ld (k := 0) t55 rfl rfl rfl) rfl ?_
      refine Wo.od (o_ld (k := 2) t58 rfl rfl rfl) rfl ?_
      obtain ⟨l69, h70, hF⟩ := ob_some hF
      refine Wo.gs rfl rfl (fun m hm => f41_ok n x1 x2 x3 l4 x8 x9 x10 x11 x12 x13 x14 x15 x16 x17 a5 c6 _ h70 m (hm.rd (k := 1) rfl (.rd _ _ _ _ _))) rfl ?_
      intro m72 a71 h73 h74
      have hG := hG.ext h73
      refine Wo.od (o_lng u27 rfl h74) rfl ?_
      refine Wo.od (o_mv rfl) rfl ?_
      refine Wo.nil ?_
      refine At.tn ?_
      refine Wk.block ?_
      obtain ⟨r1417, h1416, hF⟩ := ob_some hF
      refine Wk.cut (G := (fun (r : (Unit) ⊕ (Unit)) (g : Unit) => match r, g with | .inl _, _ => ⟨.ret, [(6, .bool false)], []⟩ | .inr _, _ => ⟨(.exit 0), [], []⟩) r1417) ?_ ?_
      · refine Wk.weak (fs' := [(2, .int .u64 ((x18 : Nat) : Int)), (31, .slice a71 l69.length l69.length), (32, .int .i64 (l69.length : Int)), (33, .int .i64 0)]) (ps' := []) (sc rfl (sc rfl (sc rfl (sc rfl sn)))) (Turn.picks [] rfl rfl) ?_
        refine Wk.loop (σ := Int) (ρ := (Unit) ⊕ (Unit)) (γ := Unit) (δ := fun _ => Unit) _ (fun (s : Int) (g : Unit) => match s, g with | v76, _ => ⟨.normal, [(2, .int .u64 ((x18 : Nat) : Int)), (31, .slice a71 l69.length l69.length), (32, .int .i64 (l69.length : Int)), (33, .int .i64 v76)], []⟩) (fun (r : (Unit) ⊕ (Unit)) (g : Unit) => match r, g with | .inl _, _ => ⟨.ret, [(6, .bool false)], []⟩ | .inr _, _ => ⟨(.exit 0), [], []⟩) ?_ (fun _ _ => rfl) (fun r d => by rcases r with _ | _ <;> (intro e; cases e)) _ _ _ h1416 ()
        clear hF h1416
        rintro v76 ⟨⟩ r hF
        unfold L6_2 at hF
        refine Wk.seq ?_
        refine Wk.region ?_
        refine Wo.od (o_bi rfl rfl (bin_lss _ _ _)) rfl ?_
        refine Wo.nil ?_
        refine At.tn ?_
        refine Wk.seq ?_
        rcases br_some hF with ⟨h747, hF⟩ | ⟨h747, hF⟩
        · refine Wk.condT rfl h747 ?_
          refine Wk.skip ?_
          refine At.tn ?_
          refine Wk.seq ?_
          refine Wk.block ?_
          refine Wk.seq ?_
          refine Wk.region ?_
          obtain ⟨h1082, hF⟩ := gd_some hF
          replace h1082 := inB_some h1082
          refine Wo.og (o_ixg s27 rfl rfl h74 h1082) gn rfl ?_
          obtain ⟨⟨x1083, l1084⟩, h1085, hF⟩ := ob_some hF
          refine Wo.x (o_ldg t25 rfl h74 h1085) gn rfl ?_
          rintro ⟨a1086, c1087⟩
          refine Wo.x (o_al z25 rfl) gn rfl fun b1088 => ?_
          refine Wo.o0 (o_st (k := 0) t25 rfl rfl rfl rfl rfl) ?_
          refine Wo.nil ?_
          refine At.tn ?_
          refine Wk.seq ?_
          refine Wk.region ?_
          refine Wo.od (o_mv rfl) rfl ?_
          refine Wo.od (o_fa (r := ptr b1088 0) rfl (fa25_0 _ _)) rfl ?_
          refine Wo.od (o_ld (k := 0) t3 rfl rfl rfl) rfl ?_
          obtain ⟨h1089, hF⟩ := gd_some hF
          refine Wo.od (o_bi rfl rfl (ub_shl rfl _ _ h1089)) rfl ?_
          refine Wo.od (o_bi rfl rfl (ub_sub rfl _ _)) rfl ?_
          obtain ⟨y1090, h1091, hF⟩ := ob_some hF
          refine Wo.od (o_bi rfl rfl ((ub_and rfl _ _).trans (cN h1091))) rfl ?_
          refine Wo.od (o_as rfl) rfl ?_
          refine Wo.nil ?_
          refine At.tn ?_
          refine Wk.seq ?_
          refine Wk.region ?_
          refine Wo.od (o_ld (k := 0) t25 rfl rfl rfl) rfl ?_
          refine Wo.od (o_mv rfl) rfl ?_
          obtain ⟨⟨l1093, r1096⟩, h1092, hF⟩ := ob_some hF
          refine Wo.x (o_cl rfl rfl (fun m hm => f17_ok n x1083 l1084 y1090 a1086 c1087 _ h1092 m (hG.ext hm.ext) (hm.rd (k := 1) rfl (.rd _ _ _ _ _))) fun _ => rfl) gn rfl ?_
          rintro ⟨a1094, n1095⟩
          refine Wo.len (k := 0) (xs := l1093) rfl ?_
          rintro rfl
          refine Wo.od (o_mv rfl) rfl ?_
          refine Wo.od (o_ex rfl rfl) rfl ?_
          refine Wo.od (o_ex rfl rfl) rfl ?_
          refine Wo.od (o_as rfl) rfl ?_
          refine Wo.od (o_as rfl) rfl ?_
          refine Wo.nil ?_
          refine At.tn ?_
          refine Wk.seq ?_
          refine Wk.region ?_
          refine Wo.od (o_ld (k := 1) t25 rfl rfl rfl) rfl ?_
          refine Wo.od (o_mv rfl) rfl ?_
          obtain ⟨⟨r1098, r1099⟩, h1097, hF⟩ := ob_some hF
          refine Wo.x (o_cl rfl rfl (fun m hm => f16_ok n x1083 l1084 y1090 a1086 c1087 _ h1097 m (hG.ext hm.ext) (hm.rd (k := 2) rfl (.rd _ _ _ _ _))) fun _ => rfl) gn rfl ?_
          rintro ⟨⟩
          refine Wo.od (o_mv rfl) rfl ?_
          refine Wo.od (o_ex rfl rfl) rfl ?_
          refine Wo.od (o_ex rfl rfl) rfl ?_
          refine Wo.od (o_as rfl) rfl ?_
          refine Wo.od (o_as rfl) rfl ?_
          refine Wo.nil ?_
          refine At.tn ?_
          refine Wk.seq ?_
          refine Wk.seq ?_
          obtain ⟨v1110, h1113, hF⟩ := ob_some hF
          refine Wk.cut (G := (fun (r : Bool) (g : Unit) => match r, g with | v1110, _ => ⟨.normal, [(2, .int .u64 ((x18 : Nat) : Int)), (8, ptr b1088 0), (9, .int .u64 ((y1090 : Nat) : Int)), (10, .slice a1094 l1093.length l1093.length), (31, .slice a71 l69.length l69.length), (32, .int .i64 (l69.length : Int)), (33, .int .i64 v76), (67, .bool v1110)], [.obj b1088 (.cells [.int .i64 x1083, .slice a1086 l1084.length c1087] .own), .rd a1086 c1087 2 l1084.length (l1084.map (eP (eI .i64) (eI .i64))), .sl a1094 1 l1093.length (l1093.map (eN .u64))]⟩) v1110) ?_ ?_
          · clear hF
            revert v1110
            intro r hF
            refine Wk.region ?_
            refine Wo.od (o_mv rfl) rfl ?_
            refine Wo.od (o_bi rfl rfl (ib_neq _ _)) rfl ?_
            refine Wo.od (o_mv rfl) rfl ?_
            rcases br_some hF with ⟨h1111, hF⟩ | ⟨h1111, hF⟩
            · refine Wo.s (gg rfl rfl (eTF h1111)) rfl ?_
              refine Wo.s (gg rfl rfl (eTF h1111)) rfl ?_
              refine Wo.od (o_pt rfl h1111 rfl) rfl ?_
              refine Wo.od (o_mv rfl) rfl ?_
              refine Wo.s (gg rfl rfl rfl) rfl ?_
              refine Wo.s (gg rfl rfl rfl) rfl ?_
              refine Wo.s (gg rfl rfl rfl) rfl ?_
              refine Wo.s (gg rfl rfl rfl) rfl ?_
              refine Wo.s (gg rfl rfl rfl) rfl ?_
              refine Wo.od (o_pT rfl rfl) rfl ?_
              refine Wo.nil ?_
              cases hF
              exact At.en () rfl (sc rfl (sc rfl (sc rfl (sc rfl (sc rfl (sc rfl (sc rfl (sc rfl sn)))))))) (Turn.picks [1, 2, 0] rfl rfl)
            · refine Wo.og (o_mv rfl) (gg rfl rfl (eFF h1111)) rfl ?_
              refine Wo.og (o_bi rfl rfl (ib_neq _ _)) (gg rfl rfl (eFF h1111)) rfl ?_
              refine Wo.od (o_pf rfl h1111 rfl) rfl ?_
              refine Wo.od (o_mv rfl) rfl ?_
              rcases br_some hF with ⟨h1112, hF⟩ | ⟨h1112, hF⟩
              · refine Wo.s (gg rfl rfl (eTF h1112)) rfl ?_
                refine Wo.s (gg rfl rfl (eTF h1112)) rfl ?_
                refine Wo.s (gg rfl rfl (eTF h1112)) rfl ?_
                refine Wo.s (gg rfl rfl (eTF h1112)) rfl ?_
                refine Wo.s (gg rfl rfl (eTF h1112)) rfl ?_
                refine Wo.od (o_pt rfl h1112 rfl) rfl ?_
                refine Wo.nil ?_
                cases hF
                exact At.en () rfl (sc rfl (sc rfl (sc rfl (sc rfl (sc rfl (sc rfl (sc rfl (sc rfl sn)))))))) (Turn.picks [1, 2, 0] rfl rfl)
              · refine Wo.og (o_mv rfl) (gg rfl rfl (eFF h1112)) rfl ?_
                refine Wo.og (o_mv rfl) (gg rfl rfl (eFF h1112)) rfl ?_
                refine Wo.og (o_ln (k := 0) u36 rfl rfl (.inl rfl)) (gg rfl rfl (eFF h1112)) rfl ?_
                refine Wo.og (o_bi rfl rfl (bin_eql _ _ _)) (gg rfl rfl (eFF h1112)) rfl ?_
                refine Wo.og (o_bi rfl rfl (bb_ne u4)) (gg rfl rfl (eFF h1112)) rfl ?_
                refine Wo.od (o_pf rfl h1112 rfl) rfl ?_
                refine Wo.nil ?_
                cases hF
                exact At.en () rfl (sc rfl (sc rfl (sc rfl (sc rfl (sc rfl (sc rfl (sc rfl (sc rfl sn)))))))) (Turn.picks [1, 2, 0] rfl rfl)
          · clear h1113
            rintro ⟨⟩
            refine At.tn ?_
            rcases br_some hF with ⟨h1115, hF⟩ | ⟨h1115, hF⟩
            · refine Wk.condT rfl h1115 ?_
              refine Wk.seq ?_
              refine Wk.region ?_
              refine Wo.od (o_as rfl) rfl ?_
              refine Wo.nil ?_
              refine At.tn ?_
              refine Wk.ret ?_
              refine At.tr ?_
              refine At.br ?_
              refine At.tr ?_
              cases hF
              exact At.en () rfl (sc rfl sn) (Turn.picks [] rfl rfl)
            · refine Wk.condF rfl h1115 ?_
              refine Wk.skip ?_
              refine At.tn ?_
              refine Wk.seq ?_
              refine Wk.region ?_
              refine Wo.od (o_as rfl) rfl ?_
              refine Wo.nil ?_
              refine At.tn ?_
              refine Wk.seq ?_
              refine Wk.seq ?_
              refine Wk.region ?_
              refine Wo.od (o_mv rfl) rfl ?_
              refine Wo.od (o_ln (k := 2) u36 rfl rfl (.inl rfl)) rfl ?_
              refine Wo.od (o_mv rfl) rfl ?_
              refine Wo.nil ?_
              refine At.tn ?_
              refine Wk.block ?_
              obtain ⟨r1414, h1413, hF⟩ := ob_some hF
              refine Wk.cut (G := (fun (r : (Unit) ⊕ (Nat)) (g : Unit) => match r, g with | .inl _, _ => ⟨.ret, [(6, .bool false)], []⟩ | .inr v1267, _ => ⟨(.exit 2), [(2, .int .u64 ((x18 : Nat) : Int)), (9, .int .u64 ((y1090 : Nat) : Int)), (14, .int .u64 ((v1267 : Nat) : Int)), (31, .slice a71 l69.length l69.length), (32, .int .i64 (l69.length : Int)), (33, .int .i64 v76)], []⟩) r1414) ?_ ?_
              · refine Wk.weak (fs' := [(2, .int .u64 ((x18 : Nat) : Int)), (8, ptr b1088 0), (9, .int .u64 ((y1090 : Nat) : Int)), (10, .slice a1094 l1093.length l1093.length), (14, .int .u64 ((0 : Nat) : Int)), (31, .slice a71 l69.length l69.length), (32, .int .i64 (l69.length : Int)), (33, .int .i64 v76), (68, .slice a1094 l1093.length l1093.length), (69, .int .i64 (l1093.length : Int)), (70, .int .i64 0)]) (ps' := [.obj b1088 (.cells [.int .i64 x1083, .slice a1086 l1084.length c1087] .own), .rd a1086 c1087 2 l1084.length (l1084.map (eP (eI .i64) (eI .i64))), .sl a1094 1 l1093.length (l1093.map (eN .u64))]) (sc rfl (sc rfl (sc rfl (sc rfl (sc rfl (sc rfl (sc rfl (sc rfl (sc rfl (sc rfl (sc rfl sn))))))))))) (Turn.picks [0, 1, 2] rfl rfl) ?_
                refine Wk.loop (σ := Nat × Int) (ρ := (Unit) ⊕ (Nat)) (γ := Unit) (δ := fun _ => Unit) _ (fun (s : Nat × Int) (g : Unit) => match s, g with | (v1118, v1119), _ => ⟨.normal, [(2, .int .u64 ((x18 : Nat) : Int)), (8, ptr b1088 0), (9, .int .u64 ((y1090 : Nat) : Int)), (10, .slice a1094 l1093.length l1093.length), (14, .int .u64 ((v1118 : Nat) : Int)), (31, .slice a71 l69.length l69.length), (32, .int .i64 (l69.length : Int)), (33, .int .i64 v76), (68, .slice a1094 l1093.length l1093.length), (69, .int .i64 (l1093.length : Int)), (70, .int .i64 v1119)], [.obj b1088 (.cells [.int .i64 x1083, .slice a1086 l1084.length c1087] .own), .rd a1086 c1087 2 l1084.length (l1084.map (eP (eI .i64) (eI .i64))), .sl a1094 1 l1093.length (l1093.map (eN .u64))]⟩) (fun (r : (Unit) ⊕ (Nat)) (g : Unit) => match r, g with | .inl _, _ => ⟨.ret, [(6, .bool false)], []⟩ | .inr v1267, _ => ⟨(.exit 2), [(2, .int .u64 ((x18 : Nat) : Int)), (9, .int .u64 ((y1090 : Nat) : Int)), (14, .int .u64 ((v1267 : Nat) : Int)), (31, .slice a71 l69.length l69.length), (32, .int .i64 (l69.length : Int)), (33, .int .i64 v76)], []⟩) ?_ (fun _ _ => rfl) (fun r d => by rcases r with _ | _ <;> (intro e; cases e)) _ _ _ h1413 ()
                clear hF h1413
                rintro ⟨v1118, v1119⟩ ⟨⟩ r hF
                unfold L6_1 at hF
                refine Wk.seq ?_
                refine Wk.region ?_
                refine Wo.od (o_bi rfl rfl (bin_lss _ _ _)) rfl ?_
                refine Wo.nil ?_
                refine At.tn ?_
                refine Wk.seq ?_
                rcases br_some hF with ⟨h1268, hF⟩ | ⟨h1268, hF⟩
                · refine Wk.condT rfl h1268 ?_
                  refine Wk.skip ?_
                  refine At.tn ?_
                  refine Wk.seq ?_
                  refine Wk.block ?_
                  refine Wk.seq ?_
                  refine Wk.region ?_
                  refine Wo.od (o_mv rfl) rfl ?_
                  obtain ⟨h1341, hF⟩ := gd_some hF
                  replace h1341 := inB_some h1341
                  refine Wo.open (k := 2) rfl (pos_of h1341) ?_
                  rintro b1342 tg1343 rfl h1344
                  refine Wo.og (o_ixa s36 rfl rfl h1341) gn rfl ?_
                  obtain ⟨x1345, h1346, hF⟩ := ob_some hF
                  refine Wo.od (o_lda (k := 2) t28 rfl rfl (map_at h1346) rfl rfl) rfl ?_
                  refine Wo.od (o_as rfl) rfl ?_
                  refine Wo.od (o_as rfl) rfl ?_
                  refine Wo.nil ?_
                  refine At.tn ?_
                  refine Wk.seq ?_
                  refine Wk.region ?_
                  refine Wo.od (o_ld (k := 0) t25 rfl rfl rfl) rfl ?_
                  refine Wo.od (o_mv rfl) rfl ?_
                  obtain ⟨⟨r1348, r1349⟩, h1347, hF⟩ := ob_some hF
                  refine Wo.x (o_cl rfl rfl (fun m hm => f14_ok n x1083 l1084 x1345 a1086 c1087 _ h1347 m (hG.ext hm.ext) (hm.rd (k := 1) rfl (.rd _ _ _ _ _))) fun _ => rfl) gn rfl ?_
                  rintro ⟨⟩
                  refine Wo.od (o_mv rfl) rfl ?_
                  refine Wo.od (o_ex rfl rfl) rfl ?_
                  refine Wo.od (o_ex rfl rfl) rfl ?_
                  refine Wo.od (o_as rfl) rfl ?_
                  refine Wo.od (o_as rfl) rfl ?_
                  refine Wo.nil ?_
                  refine At.tn ?_
                  refine Wk.seq ?_
                  refine Wk.region ?_
                  refine Wo.od (o_ld (k := 0) t25 rfl rfl rfl) rfl ?_
                  refine Wo.od (o_mv rfl) rfl ?_
                  obtain ⟨⟨r1351, r1352⟩, h1350, hF⟩ := ob_some hF
                  refine Wo.x (o_cl rfl rfl (fun m hm => f16_ok n x1083 l1084 x1345 a1086 c1087 _ h1350 m (hG.ext hm.ext) (hm.rd (k := 1) rfl (.rd _ _ _ _ _))) fun _ => rfl) gn rfl ?_
                  rintro ⟨⟩
                  refine Wo.od (o_mv rfl) rfl ?_
                  refine Wo.od (o_ex rfl rfl) rfl ?_
                  refine Wo.od (o_ex rfl rfl) rfl ?_
                  refine Wo.od (o_as rfl) rfl ?_
                  refine Wo.od (o_as rfl) rfl ?_
                  refine Wo.nil ?_
                  refine At.tn ?_
                  refine Wk.seq ?_
                  refine Wk.seq ?_
                  obtain ⟨v1396, h1410, hF⟩ := ob_some hF
                  refine Wk.cut (G := (fun (r : Bool) (g : Unit) => match r, g with | v1396, _ => ⟨.normal, [(2, .int .u64 ((x18 : Nat) : Int)), (8, ptr b1088 0), (9, .int .u64 ((y1090 : Nat) : Int)), (10, .slice (some ⟨b1342, 0, none⟩) l1093.length l1093.length), (14, .int .u64 ((v1118 : Nat) : Int)), (16, .int .u64 ((x1345 : Nat) : Int)), (31, .slice a71 l69.length l69.length), (32, .int .i64 (l69.length : Int)), (33, .int .i64 v76), (68, .slice (some ⟨b1342, 0, none⟩) l1093.length l1093.length), (69, .int .i64 (l1093.length : Int)), (70, .int .i64 v1119), (123, .bool v1396)], [.obj b1088 (.cells [.int .i64 x1083, .slice a1086 l1084.length c1087] .own), .rd a1086 c1087 2 l1084.length (l1084.map (eP (eI .i64) (eI .i64))), .arr b1342 1 l1093.length (l1093.map (eN .u64)) tg1343]⟩) v1396) ?_ ?_
                  · clear hF
                    revert v1396
                    intro r hF
                    refine Wk.region ?_
                    refine Wo.od (o_mv rfl) rfl ?_
                    refine Wo.od (o_bi rfl rfl (ib_neq _ _)) rfl ?_
                    refine Wo.od (o_mv rfl) rfl ?_
                    rcases br_some hF with ⟨h1397, hF⟩ | ⟨h1397, hF⟩
                    · refine Wo.s (gg rfl rfl (eTF h1397)) rfl ?_
                      refine Wo.s (gg rfl rfl (eTF h1397)) rfl ?_
                      refine Wo.od (o_pt rfl h1397 rfl) rfl ?_
                      refine Wo.od (o_mv rfl) rfl ?_
                      refine Wo.s (gg rfl rfl rfl) rfl ?_
                      refine Wo.s (gg rfl rfl rfl) rfl ?_
                      refine Wo.od (o_pT rfl rfl) rfl ?_
                      refine Wo.od (o_mv rfl) rfl ?_
                      refine Wo.s (gg rfl rfl rfl) rfl ?_
                      refine Wo.s (gg rfl rfl rfl) rfl ?_
                      refine Wo.s (gg rfl rfl rfl) rfl ?_
                      refine Wo.s (gg rfl rfl rfl) rfl ?_
                      refine Wo.od (o_pT rfl rfl) rfl ?_
                      refine Wo.od (o_mv rfl) rfl ?_
                      refine Wo.s (gg rfl rfl rfl) rfl ?_
                      refine Wo.s (gg rfl rfl rfl) rfl ?_
                      refine Wo.s (gg rfl rfl rfl) rfl ?_
                      refine Wo.s (gg rfl rfl rfl) rfl ?_
                      refine Wo.od (o_pT rfl rfl) rfl ?_
                      refine Wo.od (o_mv rfl) rfl ?_
                      refine Wo.s (gg rfl rfl rfl) rfl ?_
                      refine Wo.s (gg rfl rfl rfl) rfl ?_
                      refine Wo.s (gg rfl rfl rfl) rfl ?_
                      refine Wo.s (gu rfl rfl) rfl ?_
                      refine Wo.s (gu rfl rfl) rfl ?_
                      refine Wo.s (gu rfl rfl) rfl ?_
                      refine Wo.s (gu rfl rfl) rfl ?_
                      refine Wo.s (gu rfl rfl) rfl ?_
                      refine Wo.s (gu rfl rfl) rfl ?_
                      refine Wo.s (gu rfl rfl) rfl ?_
                      refine Wo.s (gu rfl rfl) rfl ?_
                      refine Wo.s (gu rfl rfl) rfl ?_
                      refine Wo.s (gg rfl rfl rfl) rfl ?_
                      refine Wo.od (o_pT rfl rfl) rfl ?_
                      refine Wo.nil ?_
                      cases hF
                      exact At.en () rfl (sc rfl (sc rfl (sc rfl (sc rfl (sc rfl (sc rfl (sc rfl (sc rfl (sc rfl (sc rfl (sc rfl (sc rfl (sc rfl sn))))))))))))) (Turn.picks [0, 1, 2] rfl rfl)
                    · refine Wo.og (o_mv rfl) (gg rfl rfl (eFF h1397)) rfl ?_
                      refine Wo.og (o_bi rfl rfl (ib_neq _ _)) (gg rfl rfl (eFF h1397)) rfl ?_
                      refine Wo.od (o_pf rfl h1397 rfl) rfl ?_
                      refine Wo.od (o_mv rfl) rfl ?_
                      rcases br_some hF with ⟨h1398, hF⟩ | ⟨h1398, hF⟩
                      · refine Wo.s (gg rfl rfl (eTF h1398)) rfl ?_
                        refine Wo.s (gg rfl rfl (eTF h1398)) rfl ?_
                        refine Wo.od (o_pt rfl h1398 rfl) rfl ?_
                        refine Wo.od (o_mv rfl) rfl ?_
                        refine Wo.s (gg rfl rfl rfl) rfl ?_
                        refine Wo.s (gg rfl rfl rfl) rfl ?_
                        refine Wo.s (gg rfl rfl rfl) rfl ?_
                        refine Wo.s (gg rfl rfl rfl) rfl ?_
                        refine Wo.od (o_pT rfl rfl) rfl ?_
                        refine Wo.od (o_mv rfl) rfl ?_
                        refine Wo.s (gg rfl rfl rfl) rfl ?_
                        refine Wo.s (gg rfl rfl rfl) rfl ?_
                        refine Wo.s (gg rfl rfl rfl) rfl ?_
                        refine Wo.s (gg rfl rfl rfl) rfl ?_
                        refine Wo.od (o_pT rfl rfl) rfl ?_
                        refine Wo.od (o_mv rfl) rfl ?_
                        refine Wo.s (gg rfl rfl rfl) rfl ?_
                        refine Wo.s (gg rfl rfl rfl) rfl ?_
                        refine Wo.s (gg rfl rfl rfl) rfl ?_
                        refine Wo.s (gu rfl rfl) rfl ?_
                        refine Wo.s (gu rfl rfl) rfl ?_
                        refine Wo.s (gu rfl rfl) rfl ?_
                        refine Wo.s (gu rfl rfl) rfl ?_
                        refine Wo.s (gu rfl rfl) rfl ?_
                        refine Wo.s (gu rfl rfl) rfl ?_
                        refine Wo.s (gu rfl rfl) rfl ?_
                        refine Wo.s (gu rfl rfl) rfl ?_
                        refine Wo.s (gu rfl rfl) rfl ?_
                        refine Wo.s (gg rfl rfl rfl) rfl ?_
                        refine Wo.od (o_pT rfl rfl) rfl ?_
                        refine Wo.nil ?_
                        cases hF
                        exact At.en () rfl (sc rfl (sc rfl (sc rfl (sc rfl (sc rfl (sc rfl (sc rfl (sc rfl (sc rfl (sc rfl (sc rfl (sc rfl (sc rfl sn))))))))))))) (Turn.picks [0, 1, 2] rfl rfl)
                      · refine Wo.og (o_mv rfl) (gg rfl rfl (eFF h1398)) rfl ?_
                        refine Wo.og (o_un rfl rfl) (gg rfl rfl (eFF h1398)) rfl ?_
                        refine Wo.od (o_pf rfl h1398 rfl) rfl ?_
                        refine Wo.od (o_mv rfl) rfl ?_
                        rcases br_some hF with ⟨h1399, hF⟩ | ⟨h1399, hF⟩
                        · refine Wo.s (gg rfl rfl (eTF h1399)) rfl ?_
                          refine Wo.s (gg rfl rfl (eTF h1399)) rfl ?_
                          refine Wo.s (gg rfl rfl (eTF h1399)) rfl ?_
                          refine Wo.s (gg rfl rfl (eTF h1399)) rfl ?_
                          refine Wo.od (o_pt rfl h1399 rfl) rfl ?_
                          refine Wo.od (o_mv rfl) rfl ?_
                          refine Wo.s (gg rfl rfl rfl) rfl ?_
                          refine Wo.s (gg rfl rfl rfl) rfl ?_
                          refine Wo.s (gg rfl rfl rfl) rfl ?_
                          refine Wo.s (gg rfl rfl rfl) rfl ?_
                          refine Wo.od (o_pT rfl rfl) rfl ?_
                          refine Wo.od (o_mv rfl) rfl ?_
                          refine Wo.s (gg rfl rfl rfl) rfl ?_
                          refine Wo.s (gg rfl rfl rfl) rfl ?_
                          refine Wo.s (gg rfl rfl rfl) rfl ?_
                          refine Wo.s (gu rfl rfl) rfl ?_
                          refine Wo.s (gu rfl rfl) rfl ?_
                          refine Wo.s (gu rfl rfl) rfl ?_
                          refine Wo.s (gu rfl rfl) rfl ?_
                          refine Wo.s (gu rfl rfl) rfl ?_
                          refine Wo.s (gu rfl rfl) rfl ?_
                          refine Wo.s (gu rfl rfl) rfl ?_
                          refine Wo.s (gu rfl rfl) rfl ?_
                          refine Wo.s (gu rfl rfl) rfl ?_
                          refine Wo.s (gg rfl rfl rfl) rfl ?_
                          refine Wo.od (o_pT rfl rfl) rfl ?_
                          refine Wo.nil ?_
                          cases hF
                          exact At.en () rfl (sc rfl (sc rfl (sc rfl (sc rfl (sc rfl (sc rfl (sc rfl (sc rfl (sc rfl (sc rfl (sc rfl (sc rfl (sc rfl sn))))))))))))) (Turn.picks [0, 1, 2] rfl rfl)
                        · refine Wo.og (o_mv rfl) (gg rfl rfl (eFF h1399)) rfl ?_
                          refine Wo.og (o_mv rfl) (gg rfl rfl (eFF h1399)) rfl ?_
                          refine Wo.og (o_bi rfl rfl (ub_and rfl _ _)) (gg rfl rfl (eFF h1399)) rfl ?_
                          refine Wo.og (o_bi rfl rfl (ub_neq _ _)) (gg rfl rfl (eFF h1399)) rfl ?_
                          refine Wo.od (o_pf rfl h1399 rfl) rfl ?_
                          refine Wo.od (o_mv rfl) rfl ?_
                          rcases br_some hF with ⟨h1400, hF⟩ | ⟨h1400, hF⟩
                          · refine Wo.s (gg rfl rfl (eTF h1400)) rfl ?_
                            refine Wo.s (gg rfl rfl (eTF h1400)) rfl ?_
                            refine Wo.s (gg rfl rfl (eTF h1400)) rfl ?_
                            refine Wo.s (gg rfl rfl (eTF h1400)) rfl ?_
                            refine Wo.od (o_pt rfl h1400 rfl) rfl ?_
                            refine Wo.od (o_mv rfl) rfl ?_
                            refine Wo.s (gg rfl rfl rfl) rfl ?_
                            refine Wo.s (gg rfl rfl rfl) rfl ?_
                            refine Wo.s (gg rfl rfl rfl) rfl ?_
                            refine Wo.s (gu rfl rfl) rfl ?_
                            refine Wo.s (gu rfl rfl) rfl ?_
                            refine Wo.s (gu rfl rfl) rfl ?_
                            refine Wo.s (gu rfl rfl) rfl ?_
                            refine Wo.s (gu rfl rfl) rfl ?_
                            refine Wo.s (gu rfl rfl) rfl ?_
                            refine Wo.s (gu rfl rfl) rfl ?_
                            refine Wo.s (gu rfl rfl) rfl ?_
                            refine Wo.s (gu rfl rfl) rfl ?_
                            refine Wo.s (gg rfl rfl rfl) rfl ?_
                            refine Wo.od (o_pT rfl rfl) rfl ?_
                            refine Wo.nil ?_
                            cases hF
                            exact At.en () rfl (sc rfl (sc rfl (sc rfl (sc rfl (sc rfl (sc rfl (sc rfl (sc rfl (sc rfl (sc rfl (sc rfl (sc rfl (sc rfl sn))))))))))))) (Turn.picks [0, 1, 2] rfl rfl)
                          · refine Wo.og (o_mv rfl) (gg rfl rfl (eFF h1400)) rfl ?_
                            refine Wo.og (o_mv rfl) (gg rfl rfl (eFF h1400)) rfl ?_
                            refine Wo.og (o_bi rfl rfl (ub_and rfl _ _)) (gg rfl rfl (eFF h1400)) rfl ?_
                            refine Wo.og (o_bi rfl rfl (ub_neq _ _)) (gg rfl rfl (eFF h1400)) rfl ?_
                            refine Wo.od (o_pf rfl h1400 rfl) rfl ?_
                            refine Wo.od (o_mv rfl) rfl ?_
                            rcases br_some hF with ⟨h1401, hF⟩ | ⟨h1401, hF⟩
                            · refine Wo.s (gg rfl rfl (eTF h1401)) rfl ?_
                              refine Wo.s (gg rfl rfl (eTF h1401)) rfl ?_
                              refine Wo.s (gg rfl rfl (eTF h1401)) rfl ?_
                              refine Wo.s (gu rfl rfl) rfl ?_
                              refine Wo.s (gu rfl rfl) rfl ?_
                              refine Wo.s (gu rfl rfl) rfl ?_
                              refine Wo.s (gu rfl rfl) rfl ?_
                              refine Wo.s (gu rfl rfl) rfl ?_
                              refine Wo.s (gu rfl rfl) rfl ?_
                              refine Wo.s (gu rfl rfl) rfl ?_
                              refine Wo.s (gu rfl rfl) rfl ?_
                              refine Wo.s (gu rfl rfl) rfl ?_
                              refine Wo.s (gg rfl rfl (eTF h1401)) rfl ?_
                              refine Wo.od (o_pt rfl h1401 rfl) rfl ?_
                              refine Wo.nil ?_
                              cases hF
                              exact At.en () rfl (sc rfl (sc rfl (sc rfl (sc rfl (sc rfl (sc rfl (sc rfl (sc rfl (sc rfl (sc rfl (sc rfl (sc rfl (sc rfl sn))))))))))))) (Turn.picks [0, 1, 2] rfl rfl)
                            · refine Wo.og (o_mv rfl) (gg rfl rfl (eFF h1401)) rfl ?_
                              refine Wo.og (o_bi rfl rfl (bin_gtr _ _ _)) (gg rfl rfl (eFF h1401)) rfl ?_
                              refine Wo.og (o_mv rfl) (gg rfl rfl (eFF h1401)) rfl ?_
                              rcases br_some hF with ⟨h1402, hF⟩ | ⟨h1402, hF⟩
                              · refine Wo.og (o_mv rfl) (gg rfl rfl (eTT h1402)) rfl ?_
                                refine Wo.og (o_mv rfl) (gg rfl rfl (eTT h1402)) rfl ?_
                                refine Wo.og (o_bi rfl rfl (bin_sub _ _ _)) (gg rfl rfl (eTT h1402)) rfl ?_
                                obtain ⟨h1403, hF⟩ := gd_some hF
                                replace h1403 := inB_some h1403
                                refine Wo.og (o_ixa s36 rfl rfl h1403) (gg rfl rfl (eTT h1402)) rfl ?_
                                obtain ⟨x1404, h1405, hF⟩ := ob_some hF
                                refine Wo.og (o_lda (k := 2) t28 rfl rfl (map_at h1405) rfl rfl) (gg rfl rfl (eTT h1402)) rfl ?_
                                obtain ⟨r1407, h1406, hF⟩ := ob_some hF
                                refine Wo.x (o_cl rfl rfl (fun m hm => f42_ok n x1404  _ h1406 m (hG.ext hm.ext) ) fun _ => rfl) (gg rfl rfl (eTT h1402)) rfl ?_
                                rintro ⟨⟩
                                refine Wo.og (o_mv rfl) (gg rfl rfl (eTT h1402)) rfl ?_
                                obtain ⟨r1409, h1408, hF⟩ := ob_some hF
                                refine Wo.x (o_cl rfl rfl (fun m hm => f42_ok n x1345  _ h1408 m (hG.ext hm.ext) ) fun _ => rfl) (gg rfl rfl (eTT h1402)) rfl ?_
                                rintro ⟨⟩
                                refine Wo.og (o_bi rfl rfl (bin_geq _ _ _)) (gg rfl rfl (eTT h1402)) rfl ?_
                                refine Wo.og (o_pt rfl h1402 rfl) (gg rfl rfl (eFF h1401)) rfl ?_
                                refine Wo.od (o_pf rfl h1401 rfl) rfl ?_
                                refine Wo.nil ?_
                                cases hF
                                exact At.en () rfl (sc rfl (sc rfl (sc rfl (sc rfl (sc rfl (sc rfl (sc rfl (sc rfl (sc rfl (sc rfl (sc rfl (sc rfl (sc rfl sn))))))))))))) (Turn.picks [0, 1, 2] rfl rfl)
                              · refine Wo.s (gg rfl rfl (eFT h1402)) rfl ?_
                                refine Wo.s (gg rfl rfl (eFT h1402)) rfl ?_
                                refine Wo.s (gg rfl rfl (eFT h1402)) rfl ?_
                                refine Wo.s (gg rfl rfl (eFT h1402)) rfl ?_
                                refine Wo.s (gg rfl rfl (eFT h1402)) rfl ?_
                                refine Wo.s (gg rfl rfl (eFT h1402)) rfl ?_
                                refine Wo.s (gg rfl rfl (eFT h1402)) rfl ?_
                                refine Wo.s (gg rfl rfl (eFT h1402)) rfl ?_
                                refine Wo.s (gg rfl rfl (eFT h1402)) rfl ?_
                                refine Wo.og (o_pf rfl h1402 rfl) (gg rfl rfl (eFF h1401)) rfl ?_
                                refine Wo.od (o_pf rfl h1401 rfl) rfl ?_
                                refine Wo.nil ?_
                                cases hF
                                exact At.en () rfl (sc rfl (sc rfl (sc rfl (sc rfl (sc rfl (sc rfl (sc rfl (sc rfl (sc rfl (sc rfl (sc rfl (sc rfl (sc rfl sn))))))))))))) (Turn.picks [0, 1, 2] rfl rfl)
                  · clear h1410
                    rintro ⟨⟩
                    refine At.tn ?_
                    rcases br_some hF with ⟨h1412, hF⟩ | ⟨h1412, hF⟩
                    · refine Wk.condT rfl h1412 ?_
                      refine Wk.seq ?_
                      refine Wk.region ?_
                      refine Wo.od (o_as rfl) rfl ?_
                      refine Wo.nil ?_
                      refine At.tn ?_
                      refine Wk.ret ?_
                      refine At.tr ?_
                      refine At.br ?_
                      refine At.tr ?_
                      cases hF
                      exact At.en () rfl (sc rfl sn) (Turn.picks [] rfl rfl)
                    · refine Wk.condF rfl h1412 ?_
                      refine Wk.skip ?_
                      refine At.tn ?_
                      refine Wk.region ?_
                      refine Wo.od (o_mv rfl) rfl ?_
                      refine Wo.od (o_mv rfl) rfl ?_
                      refine Wo.od (o_bi rfl rfl (ub_or rfl _ _)) rfl ?_
                      refine Wo.od (o_as rfl) rfl ?_
                      refine Wo.nil ?_
                      refine At.bn ?_
                      refine At.tn ?_
                      refine Wk.region ?_
                      refine Wo.od (o_bi rfl rfl (bin_add _ _ _)) rfl ?_
                      refine Wo.od (o_mv rfl) rfl ?_
                      refine Wo.nil ?_
                      cases hF
                      exact At.en () rfl (sc rfl (sc rfl (sc rfl (sc rfl (sc rfl (sc rfl (sc rfl (sc rfl (sc rfl (sc rfl (sc rfl sn))))))))))) (Turn.trans (Turn.close (k := 2) rfl) (Turn.picks [0, 1, 2] rfl rfl))
                · refine Wk.condF rfl h1268 ?_
                  refine Wk.exit ?_
                  refine At.te ?_
                  cases hF
                  exact At.en () rfl (sc rfl (sc rfl (sc rfl (sc rfl (sc rfl (sc rfl sn)))))) (Turn.picks [] rfl rfl)
              · clear h1413
                rcases r1414 with _ | v1267
                · rintro ⟨⟩
                  refine At.br ?_
                  refine At.tr ?_
                  refine At.br ?_
                  refine At.tr ?_
                  cases hF
                  exact At.en () rfl (sc rfl sn) (Turn.picks [] rfl rfl)
                · rintro ⟨⟩
                  refine At.be ?_
                  refine At.tn ?_
                  refine Wk.seq ?_
                  refine Wk.region ?_
                  refine Wo.od (o_mv rfl) rfl ?_
                  refine Wo.od (o_mv rfl) rfl ?_
                  refine Wo.od (o_bi rfl rfl (ub_neq _ _)) rfl ?_
                  refine Wo.nil ?_
                  refine At.tn ?_
                  rcases br_some hF with ⟨h1415, hF⟩ | ⟨h1415, hF⟩
                  · refine Wk.condT rfl h1415 ?_
                    refine Wk.seq ?_
                    refine Wk.region ?_
                    refine Wo.od (o_as rfl) rfl ?_
                    refine Wo.nil ?_
                    refine At.tn ?_
                    refine Wk.ret ?_
                    refine At.br ?_
                    refine At.tr ?_
                    cases hF
                    exact At.en () rfl (sc rfl sn) (Turn.picks [] rfl rfl)
                  · refine Wk.condF rfl h1415 ?_
                    refine Wk.skip ?_
                    refine At.bn ?_
                    refine At.tn ?_
                    refine Wk.region ?_
                    refine Wo.od (o_bi rfl rfl (bin_add _ _ _)) rfl ?_
                    refine Wo.od (o_mv rfl) rfl ?_
                    refine Wo.nil ?_
                    cases hF
                    exact At.en () rfl (sc rfl (sc rfl (sc rfl (sc rfl sn)))) (Turn.picks [] rfl rfl)
        · refine Wk.condF rfl h747 ?_
          refine Wk.exit ?_
          refine At.te ?_
          cases hF
          exact At.en () rfl sn (Turn.picks [] rfl rfl)
      · clear h1416
        rcases r1417 with _ | _
        · rintro ⟨⟩
          refine At.br ?_
          refine At.tr ?_
          cases hF
          exact At.ret (.tmp rfl .nil) fun m' hm => ⟨(), rfl, (Hp.base h73 ((Turn.picks [] rfl rfl) m' hm))⟩
        · rintro ⟨⟩
          refine At.be ?_
          refine At.tn ?_
          refine Wk.seq ?_
          refine Wk.region ?_
          refine Wo.od (o_as rfl) rfl ?_
          refine Wo.nil ?_
          refine At.tn ?_
          refine Wk.ret ?_
          cases hF
          exact At.ret (.tmp rfl .nil) fun m' hm => ⟨(), rfl, (Hp.base h73 ((Turn.picks [] rfl rfl) m' hm))⟩

end Go.Proofs.YtpclggcpobakhaaDoor.W6
end

section
/-
  Chapter 18, plain laws over what the functions compute: loops; Check and Same.
-/
namespace Go.Proofs.YtpclggcpobakhaaDoor
open Go Go.Ab Go.Ab.W

section
variable {α β σ ρ : Type}
theorem br_t (a b : Option β) : br true a b = a := rfl
theorem br_f (a b : Option β) : br false a b = b := rfl
theorem gd_t (a : Option β) : gd true a = a := rfl
theorem ob_s (x : α) (f : α → Option β) : ob (some x) f = f x := rfl
theorem br_dt {p : Prop} [Decidable p] (h : p) (a b : Option β) : br (decide p) a b = a := by rw [decide_eq_true h]; rfl
theorem br_df {p : Prop} [Decidable p] (h : ¬ p) (a b : Option β) : br (decide p) a b = b := by rw [decide_eq_false h]; rfl
theorem br_ite (c : Bool) (a b : Option β) : br c a b = if c then a else b := by cases c <;> rfl
theorem gd_dt {p : Prop} [Decidable p] (h : p) (a : Option β) : gd (decide p) a = a := by rw [decide_eq_true h]; rfl
theorem inB_nat {i n : Nat} (h : i < n) : inB (i : Int) n = true := decide_eq_true ⟨Int.natCast_nonneg i, by simpa using h⟩
theorem wrap_in {x : Int} (h1 : -9223372036854775808 ≤ x) (h2 : x < 9223372036854775808) : IntKind.wrap .i64 x = x := wrap_i64 x h1 (by omega)
theorem wrap_succ {i : Nat} (h : i < 4611686018427387904) : IntKind.wrap .i64 ((i : Int) + 1) = ((i + 1 : Nat) : Int) := by rw [wrap_in (by omega) (by omega)]; rfl
theorem lp_next {body : σ → Option (σ ⊕ ρ)} {n : Nat} {s s' : σ} (h : body s = some (.inl s')) : lpN body (n + 1) s = lpN body n s' := by simp only [lpN, h]
theorem lp_end {body : σ → Option (σ ⊕ ρ)} {n : Nat} {s : σ} {r : ρ} (h : body s = some (.inr r)) : lpN body (n + 1) s = some r := by simp only [lpN, h]
end

theorem gd_df {p : Prop} [Decidable p] {β : Type} (h : p) (a : Option β) : gd (decide p) a = a := by rw [decide_eq_true h]; rfl

/-! ### Equal lists -/
theorem drop_len {α : Type} {l l' : List α} {i : Nat} (h : l.length = l'.length) (hi : l.length ≤ i) : l.drop i = l'.drop i := by
  rw [List.drop_of_length_le hi, List.drop_of_length_le (by omega)]
theorem L44_eq (n0 : Nat) {l2 l7 : List (Int × Int)} (h2 : l2.length = l7.length) (hl : l2.length < 4611686018427387904) : ∀ k i n, i + k = l2.length → k < n → lpN (L44_1 n0 l2 l7) n ((i : Nat) : Int) = some (if l2.drop i = l7.drop i then .inr () else .inl ()) := by
  intro k
  induction k with
  | zero =>
    intro i n hi hk
    obtain ⟨n, rfl⟩ : ∃ n', n = n' + 1 := ⟨n - 1, by omega⟩
    rw [if_pos (drop_len h2 (by omega))]
    exact lp_end (by unfold L44_1; rw [br_df (by omega)])
  | succ k ih =>
    intro i n hi hk
    obtain ⟨n, rfl⟩ : ∃ n', n = n' + 1 := ⟨n - 1, by omega⟩
    have a1 : i < l2.length := by omega
    have a2 : i < l7.length := by omega
    have e1 : l2[((i : Nat) : Int).toNat]? = some l2[i] := by simp [a1]
    have e2 : l7[((i : Nat) : Int).toNat]? = some l7[i] := by simp [a2]
    have c1 : decide (((i : Nat) : Int) < (l2.length : Int)) = true := decide_eq_true (by omega)
    have hb : i < 4611686018427387904 := by omega
    rw [List.drop_eq_getElem_cons a1, List.drop_eq_getElem_cons a2]
    generalize l2[i] = p at e1 ⊢
    generalize l7[i] = q at e2 ⊢
    obtain ⟨p1, p2⟩ := p
    obtain ⟨q1, q2⟩ := q
    by_cases hpq : p1 = q1 ∧ p2 = q2
    · obtain ⟨rfl, rfl⟩ := hpq
      rw [lp_next (s' := ((i + 1 : Nat) : Int)) (by simp only [L44_1, c1, br_t, inB_nat a1, gd_t, e1, ob_s, inB_nat a2, e2, decide_true, Bool.and_self, Bool.not_true, br_f, wrap_succ hb])]
      rw [ih (i + 1) n (by omega) (by omega)]
      simp
    · have hd : (!(decide (p1 = q1) && decide (p2 = q2))) = true := by
        by_cases h : p1 = q1 <;> simp_all
      rw [lp_end (r := .inl ()) (by simp only [L44_1, c1, br_t, inB_nat a1, gd_t, e1, ob_s, inB_nat a2, e2, hd])]
      rw [if_neg (by simp; intro h3 h4; exact absurd ⟨h3, h4⟩ hpq)]
theorem F44_eq (n : Nat) (x1 x6 : Int) (l2 l7 : List (Int × Int)) (hl : l2.length < 4611686018427387904) (hn : l2.length < n) : F44 n x1 l2 x6 l7 = some (decide (x1 = x6) && decide (l2 = l7)) := by
  unfold F44
  by_cases h1 : x1 = x6
  · rw [show (!decide (x1 = x6)) = false by simp [h1], br_f, ob_s]
    by_cases h2 : l2.length = l7.length
    · have h2' : ((l2.length : Int) = (l7.length : Int)) := by omega
      rw [show (!decide ((l2.length : Int) = (l7.length : Int))) = false by simp [h2'], br_f]
      have := L44_eq n h2 hl l2.length 0 n (by omega) hn
      simp only [List.drop_zero, Int.natCast_zero] at this
      rw [show lpN (L44_1 n l2 l7) n 0 = _ from this, ob_s]
      by_cases h3 : l2 = l7
      · simp [h1, h3]
      · simp [h1, h3]
    · have h2' : ¬ ((l2.length : Int) = (l7.length : Int)) := by omega
      have h3 : ¬ l2 = l7 := fun e => h2 (by rw [e])
      rw [show (!decide ((l2.length : Int) = (l7.length : Int))) = true by simp [h2'], br_t]
      simp [h3]
  · rw [show (!decide (x1 = x6)) = true by simp [h1], br_t, ob_s, br_t]
    simp [h1]
theorem L34_eq (n0 : Nat) {l2 l7 : List (Int × Int)} (h2 : l2.length = l7.length) (hl : l2.length < 4611686018427387904) : ∀ k i n, i + k = l2.length → k < n → lpN (L34_1 n0 l2 l7) n ((i : Nat) : Int) = some (if l2.drop i = l7.drop i then .inr () else .inl ()) := by
  intro k
  induction k with
  | zero =>
    intro i n hi hk
    obtain ⟨n, rfl⟩ : ∃ n', n = n' + 1 := ⟨n - 1, by omega⟩
    rw [if_pos (drop_len h2 (by omega))]
    exact lp_end (by unfold L34_1; rw [br_df (by omega)])
  | succ k ih =>
    intro i n hi hk
    obtain ⟨n, rfl⟩ : ∃ n', n = n' + 1 := ⟨n - 1, by omega⟩
    have a1 : i < l2.length := by omega
    have a2 : i < l7.length := by omega
    have e1 : l2[((i : Nat) : Int).toNat]? = some l2[i] := by simp [a1]
    have e2 : l7[((i : Nat) : Int).toNat]? = some l7[i] := by simp [a2]
    have c1 : decide (((i : Nat) : Int) < (l2.length : Int)) = true := decide_eq_true (by omega)
    have hb : i < 4611686018427387904 := by omega
    rw [List.drop_eq_getElem_cons a1, List.drop_eq_getElem_cons a2]
    generalize l2[i] = p at e1 ⊢
    generalize l7[i] = q at e2 ⊢
    obtain ⟨p1, p2⟩ := p
    obtain ⟨q1, q2⟩ := q
    by_cases hpq : p1 = q1 ∧ p2 = q2
    · obtain ⟨rfl, rfl⟩ := hpq
      rw [lp_next (s' := ((i + 1 : Nat) : Int)) (by simp only [L34_1, c1, br_t, inB_nat a1, gd_t, e1, ob_s, inB_nat a2, e2, decide_true, Bool.and_self, Bool.not_true, br_f, wrap_succ hb])]
      rw [ih (i + 1) n (by omega) (by omega)]
      simp
    · have hd : (!(decide (p1 = q1) && decide (p2 = q2))) = true := by
        by_cases h : p1 = q1 <;> simp_all
      rw [lp_end (r := .inl ()) (by simp only [L34_1, c1, br_t, inB_nat a1, gd_t, e1, ob_s, inB_nat a2, e2, hd])]
      rw [if_neg (by simp; intro h3 h4; exact absurd ⟨h3, h4⟩ hpq)]
theorem F34_eq (n : Nat) (l2 l7 : List (Int × Int)) (hl : l2.length < 4611686018427387904) (hn : l2.length < n) : F34 n l2 l7 = some (decide (l2 = l7)) := by
  unfold F34
  by_cases h2 : l2.length = l7.length
  · have h2' : ((l2.length : Int) = (l7.length : Int)) := by omega
    rw [show (!decide ((l2.length : Int) = (l7.length : Int))) = false by simp [h2'], br_f]
    have := L34_eq n h2 hl l2.length 0 n (by omega) hn
    simp only [List.drop_zero] at this
    rw [show lpN (L34_1 n l2 l7) n 0 = _ from this, ob_s]
    by_cases h3 : l2 = l7
    · simp [h3]
    · simp [h3]
  · have h2' : ¬ ((l2.length : Int) = (l7.length : Int)) := by omega
    have h3 : ¬ l2 = l7 := fun e => h2 (by rw [e])
    rw [show (!decide ((l2.length : Int) = (l7.length : Int))) = true by simp [h2'], br_t]
    simp [h3]
theorem F27_eq (n : Nat) (x1 x6 : Int) (l2 l7 : List (Int × Int)) (hl : l2.length < 4611686018427387904) (hn : l2.length < n) : F27 n x1 l2 x6 l7 = some (decide (x1 = x6) && decide (l2 = l7)) := by
  unfold F27
  by_cases h : x1 = x6
  · rw [br_dt h, F34_eq n l2 l7 hl hn, ob_s]; simp [h]
  · rw [br_df h]; simp [h]

/-! ### Check -/
/-- The edges are in order behind one, and within n nodes. -/
def okEp (N : Int) : Int × Int → List (Int × Int) → Bool
  | _, [] => true
  | p, e :: es => decide (0 ≤ e.1 ∧ e.1 < e.2 ∧ e.2 < N) && decide (p.1 < e.1 ∨ p.1 = e.1 ∧ p.2 < e.2) && okEp N e es
def okG (N : Int) (es : List (Int × Int)) : Bool := decide (1 ≤ N ∧ N ≤ 64 ∧ es.length ≤ 200) && okEp N (-1, -1) es
def ckG (N : Int) (es : List (Int × Int)) : Int := if okG N es then 0 else 180
theorem F94_eq (n : Nat) (x : Int) : F94 n x = some false := by unfold F94; simp
theorem F81_eq (n : Nat) (x y : Int) : F81 n x y = some (if x < y then -1 else if y < x then 1 else 0) := by
  unfold F81
  simp only [F94_eq, ob_s, br_f]
  rw [br_ite, br_ite]
  by_cases h : x < y
  · simp [h]
  · by_cases h' : y < x <;> simp [h, h']
/-- Two pairs, compared. -/
theorem F64_eq (n : Nat) (a b c d : Int) (hn : 2 < n) : F64 n [a, b] [c, d] = some (if a < c then -1 else if c < a then 1 else if b < d then -1 else if d < b then 1 else 0) := by
  obtain ⟨n, rfl⟩ : ∃ n', n = n' + 3 := ⟨n - 3, by omega⟩
  have L0 : L64_1 (n + 3) [a, b] [c, d] 0 = if a < c then some (.inr (.inl (-1))) else if c < a then some (.inr (.inl 1)) else some (.inl 1) := by
    unfold L64_1
    simp only [List.length_cons, List.length_nil]
    rw [br_dt (by decide), show inB 0 (0 + 1 + 1) = true by decide, gd_t]
    simp only [Int.toNat_zero, List.getElem?_cons_zero, ob_s]
    rw [br_df (by decide), gd_t]
    simp only [F81_eq, ob_s]
    by_cases h : a < c
    · simp [h, br_t]
    · by_cases h' : c < a
      · simp [h, h', br_t]
      · simp only [h, h', if_false, decide_true, Bool.not_true, br_f]
        rw [wrap_in (by decide) (by decide)]; rfl
  have L1 : L64_1 (n + 3) [a, b] [c, d] 1 = if b < d then some (.inr (.inl (-1))) else if d < b then some (.inr (.inl 1)) else some (.inl 2) := by
    unfold L64_1
    simp only [List.length_cons, List.length_nil]
    rw [br_dt (by decide), show inB 1 (0 + 1 + 1) = true by decide, gd_t]
    simp only [show (1 : Int).toNat = 1 from rfl, List.getElem?_cons_succ, List.getElem?_cons_zero, ob_s]
    rw [br_df (by decide), gd_t]
    simp only [F81_eq, ob_s]
    by_cases h : b < d
    · simp [h, br_t]
    · by_cases h' : d < b
      · simp [h, h', br_t]
      · simp only [h, h', if_false, decide_true, Bool.not_true, br_f]
        rw [wrap_in (by decide) (by decide)]; rfl
  have L2 : L64_1 (n + 3) [a, b] [c, d] 2 = some (.inr (.inr ())) := by
    unfold L64_1
    simp only [List.length_cons, List.length_nil]
    rw [br_df (by decide)]
  unfold F64
  by_cases h1 : a < c
  · rw [if_pos h1] at L0 ⊢
    rw [lp_end L0]; rfl
  · rw [if_neg h1] at L0 ⊢
    by_cases h2 : c < a
    · rw [if_pos h2] at L0 ⊢
      rw [lp_end L0]; rfl
    · rw [if_neg h2] at L0 ⊢
      rw [lp_next L0]
      by_cases h3 : b < d
      · rw [if_pos h3] at L1 ⊢
        rw [lp_end L1]; rfl
      · rw [if_neg h3] at L1 ⊢
        by_cases h4 : d < b
        · rw [if_pos h4] at L1 ⊢
          rw [lp_end L1]; rfl
        · rw [if_neg h4] at L1 ⊢
          rw [lp_next L1, lp_end L2, ob_s]
          simp only [List.length_cons, List.length_nil]
          rfl
def stepOk (N : Int) (p e : Int × Int) : Bool := decide (0 ≤ e.1 ∧ e.1 < e.2 ∧ e.2 < N) && decide (p.1 < e.1 ∨ p.1 = e.1 ∧ p.2 < e.2)
theorem okE_cons (N : Int) (p e : Int × Int) (es : List (Int × Int)) : okEp N p (e :: es) = (stepOk N p e && okEp N e es) := rfl
theorem L23_step (n : Nat) (l2 : List (Int × Int)) (N : Int) (p : Int × Int) (i : Nat) (e : Int × Int) (hn : 2 < n) (hi : l2[i]? = some e) (hb : i < 4611686018427387904) :
    L23_1 n l2 N (p.1, p.2, (i : Int)) = if stepOk N p e then some (.inl (e.1, e.2, ((i + 1 : Nat) : Int))) else some (.inr (.inl ())) := by
  obtain ⟨p1, p2⟩ := p
  obtain ⟨a, b⟩ := e
  have a1 : i < l2.length := (List.getElem?_eq_some_iff.1 hi).1
  have e1 : l2[((i : Nat) : Int).toNat]? = some (a, b) := by simpa using hi
  have c1 : decide (((i : Nat) : Int) < (l2.length : Int)) = true := decide_eq_true (by omega)
  simp only [L23_1, c1, br_t, inB_nat a1, gd_t, e1, ob_s, F64_eq n _ _ _ _ hn, wrap_succ hb]
  by_cases h1 : a < 0
  · have : stepOk N (p1, p2) (a, b) = false := by simp [stepOk]; omega
    rw [this, br_dt h1, ob_s, br_t]; rfl
  · rw [br_df h1]
    by_cases h2 : b ≤ a
    · have : stepOk N (p1, p2) (a, b) = false := by simp [stepOk]; omega
      rw [this, br_dt h2, ob_s, br_t]; rfl
    · rw [br_df h2]
      by_cases h3 : N ≤ b
      · have : stepOk N (p1, p2) (a, b) = false := by simp [stepOk]; omega
        rw [this, br_dt h3, ob_s, br_t]; rfl
      · rw [br_df h3, ob_s]
        by_cases h4 : p1 < a ∨ p1 = a ∧ p2 < b
        · have : stepOk N (p1, p2) (a, b) = true := by simp [stepOk]; omega
          have h5 : ¬ (0 ≤ (if p1 < a then (-1 : Int) else if a < p1 then 1 else if p2 < b then -1 else if b < p2 then 1 else 0)) := by
            rcases h4 with h4 | ⟨h4, h5⟩
            · rw [if_pos h4]; decide
            · rw [if_neg (by omega), if_neg (by omega), if_pos h5]; decide
          rw [this, br_df h5]; rfl
        · have : stepOk N (p1, p2) (a, b) = false := by simp [stepOk]; omega
          have h5 : 0 ≤ (if p1 < a then (-1 : Int) else if a < p1 then 1 else if p2 < b then -1 else if b < p2 then 1 else 0) := by
            rw [if_neg (by omega)]
            by_cases h6 : a < p1
            · rw [if_pos h6]; decide
            · rw [if_neg h6, if_neg (by omega)]; split <;> decide
          rw [this, br_dt h5]; rfl
theorem L23_eq (n0 : Nat) (l2 : List (Int × Int)) (N : Int) (hn : 2 < n0) (hl : l2.length < 4611686018427387904) : ∀ k i p n, i + k = l2.length → k < n → lpN (L23_1 n0 l2 N) n (p.1, p.2, (i : Int)) = some (if okEp N p (l2.drop i) then .inr () else .inl ()) := by
  intro k
  induction k with
  | zero =>
    intro i p n hi hk
    obtain ⟨n, rfl⟩ : ∃ n', n = n' + 1 := ⟨n - 1, by omega⟩
    rw [List.drop_of_length_le (by omega)]
    exact lp_end (by simp only [L23_1]; rw [br_df (by omega)]; rfl)
  | succ k ih =>
    intro i p n hi hk
    obtain ⟨n, rfl⟩ : ∃ n', n = n' + 1 := ⟨n - 1, by omega⟩
    have a1 : i < l2.length := by omega
    have hs := L23_step n0 l2 N p i l2[i] hn (by simp [a1]) (by omega)
    rw [List.drop_eq_getElem_cons a1, okE_cons]
    by_cases h : stepOk N p l2[i] = true
    · rw [if_pos h] at hs
      rw [lp_next hs, ih (i + 1) l2[i] n (by omega) (by omega), h, Bool.true_and]
    · rw [if_neg h] at hs
      rw [lp_end hs]
      simp only [Bool.not_eq_true] at h
      rw [h]; rfl
theorem head_eq (N : Int) (len : Nat) : (br (decide (N < 1)) (some true) (br (decide (64 < N)) (some true) (some (decide (200 < (len : Int)))))) = some (!decide (1 ≤ N ∧ N ≤ 64 ∧ len ≤ 200)) := by
  rw [br_ite, br_ite]
  by_cases h1 : N < 1
  · have : ¬ (1 ≤ N ∧ N ≤ 64 ∧ len ≤ 200) := by omega
    simp [h1, this]
  · by_cases h2 : 64 < N
    · have : ¬ (1 ≤ N ∧ N ≤ 64 ∧ len ≤ 200) := by omega
      simp [h1, h2, this]
    · by_cases h3 : 200 < (len : Int)
      · have : ¬ (1 ≤ N ∧ N ≤ 64 ∧ len ≤ 200) := by omega
        simp only [h1, h2, h3, this, decide_true, decide_false, Bool.false_eq_true, if_false, Bool.not_false]
      · have : (1 ≤ N ∧ N ≤ 64 ∧ len ≤ 200) := by omega
        simp only [h1, h2, h3, this, decide_true, decide_false, Bool.false_eq_true, if_false, Bool.not_true, and_self]
theorem F23_eq (n : Nat) (N : Int) (es : List (Int × Int)) (hn : 2 < n) (hl : es.length < 4611686018427387904) (hk : es.length < n) : F23 n N es = some (ckG N es) := by
  unfold F23
  rw [head_eq, ob_s]
  unfold ckG okG
  by_cases h : 1 ≤ N ∧ N ≤ 64 ∧ es.length ≤ 200
  · rw [decide_eq_true h, Bool.not_true, br_f, Bool.true_and]
    have := L23_eq n es N hn hl es.length 0 (-1, -1) n (by omega) hk
    rw [List.drop_zero] at this
    rw [show lpN (L23_1 n es N) n (-1, -1, 0) = _ from this, ob_s]
    by_cases h2 : okEp N (-1, -1) es = true
    · rw [if_pos h2, if_pos h2]
    · rw [if_neg h2, if_neg h2]
  · rw [decide_eq_false h, Bool.not_false, br_t, Bool.false_and]; rfl
/-- What stands ahead of place i. -/
def prevOf (l : List (Int × Int)) (i : Nat) (p : Int × Int) : Prop := (i = 0 ∧ p = (-1, -1)) ∨ (0 < i ∧ l[i - 1]? = some p)
theorem L43_step (n : Nat) (l2 : List (Int × Int)) (N : Int) (p : Int × Int) (i : Nat) (e : Int × Int) (hp : prevOf l2 i p) (hi : l2[i]? = some e) (hb : i < 4611686018427387904) :
    L43_1 n l2 N (i : Int) = if stepOk N p e then some (.inl ((i + 1 : Nat) : Int)) else some (.inr (.inl ())) := by
  obtain ⟨p1, p2⟩ := p
  obtain ⟨a, b⟩ := e
  have a1 : i < l2.length := (List.getElem?_eq_some_iff.1 hi).1
  have e1 : l2[((i : Nat) : Int).toNat]? = some (a, b) := by simpa using hi
  have c1 : decide (((i : Nat) : Int) < (l2.length : Int)) = true := decide_eq_true (by omega)
  simp only [L43_1, c1, br_t, inB_nat a1, gd_t, e1, ob_s, wrap_succ hb]
  by_cases h1 : a < 0
  · have : stepOk N (p1, p2) (a, b) = false := by simp [stepOk]; omega
    rw [this, br_dt h1, ob_s, br_t]; rfl
  · rw [br_df h1]
    by_cases h2 : b ≤ a
    · have : stepOk N (p1, p2) (a, b) = false := by simp [stepOk]; omega
      rw [this, br_dt h2, ob_s, br_t]; rfl
    · rw [br_df h2, ob_s]
      by_cases h3 : N ≤ b
      · have : stepOk N (p1, p2) (a, b) = false := by simp [stepOk]; omega
        rw [this, br_dt h3]; rfl
      · rw [br_df h3]
        rcases hp with ⟨rfl, h4⟩ | ⟨h0, h4⟩
        · cases h4
          have : stepOk N (-1, -1) (a, b) = true := by simp [stepOk]; omega
          rw [this, br_df (by omega), ob_s, br_f]; rfl
        · have w1 : IntKind.wrap .i64 ((i : Int) - 1) = ((i - 1 : Nat) : Int) := by rw [wrap_in (by omega) (by omega)]; omega
          have e2 : l2[((i - 1 : Nat) : Int).toNat]? = some (p1, p2) := by simpa using h4
          rw [br_dt (by omega), w1, inB_nat (by omega : i - 1 < l2.length), gd_t, e2, ob_s]
          simp only [gd_t]
          by_cases h5 : a < p1
          · have : stepOk N (p1, p2) (a, b) = false := by simp [stepOk]; omega
            rw [this, br_dt h5, ob_s, br_t]; rfl
          · rw [br_df h5]
            by_cases h6 : p1 = a
            · rw [br_dt h6, ob_s]
              by_cases h7 : b ≤ p2
              · have : stepOk N (p1, p2) (a, b) = false := by simp [stepOk]; omega
                rw [this, br_dt h7]; rfl
              · have : stepOk N (p1, p2) (a, b) = true := by simp [stepOk]; omega
                rw [this, br_df h7]; rfl
            · have : stepOk N (p1, p2) (a, b) = true := by simp [stepOk]; omega
              rw [this, br_df h6, ob_s, br_f]; rfl
theorem L43_eq (n0 : Nat) (l2 : List (Int × Int)) (N : Int) (hl : l2.length < 4611686018427387904) : ∀ k i p n, prevOf l2 i p → i + k = l2.length → k < n → lpN (L43_1 n0 l2 N) n (i : Int) = some (if okEp N p (l2.drop i) then .inr () else .inl ()) := by
  intro k
  induction k with
  | zero =>
    intro i p n hp hi hk
    obtain ⟨n, rfl⟩ : ∃ n', n = n' + 1 := ⟨n - 1, by omega⟩
    rw [List.drop_of_length_le (by omega)]
    exact lp_end (by simp only [L43_1]; rw [br_df (by omega)]; rfl)
  | succ k ih =>
    intro i p n hp hi hk
    obtain ⟨n, rfl⟩ : ∃ n', n = n' + 1 := ⟨n - 1, by omega⟩
    have a1 : i < l2.length := by omega
    have hs := L43_step n0 l2 N p i l2[i] hp (by simp [a1]) (by omega)
    rw [List.drop_eq_getElem_cons a1, okE_cons]
    by_cases h : stepOk N p l2[i] = true
    · rw [if_pos h] at hs
      rw [lp_next hs, ih (i + 1) l2[i] n (.inr ⟨by omega, by simp [a1]⟩) (by omega) (by omega), h, Bool.true_and]
    · rw [if_neg h] at hs
      rw [lp_end hs]
      simp only [Bool.not_eq_true] at h
      rw [h]; rfl
theorem F43_eq (n : Nat) (N : Int) (es : List (Int × Int)) (hl : es.length < 4611686018427387904) (hk : es.length < n) : F43 n N es = some (ckG N es) := by
  unfold F43
  rw [head_eq, ob_s]
  unfold ckG okG
  by_cases h : 1 ≤ N ∧ N ≤ 64 ∧ es.length ≤ 200
  · rw [decide_eq_true h, Bool.not_true, br_f, Bool.true_and]
    have := L43_eq n es N hl es.length 0 (-1, -1) n (.inl ⟨rfl, rfl⟩) (by omega) hk
    rw [List.drop_zero] at this
    rw [show lpN (L43_1 n es N) n 0 = _ from this, ob_s]
    by_cases h2 : okEp N (-1, -1) es = true
    · rw [if_pos h2, if_pos h2]
    · rw [if_neg h2, if_neg h2]
  · rw [decide_eq_false h, Bool.not_false, br_t, Bool.false_and]; rfl
end Go.Proofs.YtpclggcpobakhaaDoor
end

section
/-
  Chapter 18, plain laws: drafts and bends come to some graph.
-/
namespace Go.Proofs.YtpclggcpobakhaaDoor
open Go Go.Ab Go.Ab.W

theorem lp_tot {σ ρ : Type} {body : σ → Option (σ ⊕ ρ)} {R : ρ → Prop} (I : Nat → σ → Prop) (h : ∀ k s, I k s → (∃ s', body s = some (.inl s') ∧ ∃ k', k' < k ∧ I k' s') ∨ ∃ r, body s = some (.inr r) ∧ R r) : ∀ k s n, I k s → k < n → ∃ r, lpN body n s = some r ∧ R r := by
  intro k
  induction k using Nat.strongRecOn with
  | _ k ih =>
    intro s n hI hk
    obtain ⟨n, rfl⟩ : ∃ n', n = n' + 1 := ⟨n - 1, by omega⟩
    rcases h k s hI with ⟨s', h1, k', h2, h3⟩ | ⟨r, h1, h2⟩
    · obtain ⟨r, h4, h5⟩ := ih k' h2 s' n h3 (by omega)
      exact ⟨r, by rw [lp_next h1]; exact h4, h5⟩
    · exact ⟨r, lp_end h1, h2⟩
/-- Some bool. -/
theorem br_bool {c : Bool} {a b : Option Bool} (ha : c = true → ∃ x, a = some x) (hb : c = false → ∃ x, b = some x) : ∃ x, br c a b = some x := by
  cases c with
  | true => exact ha rfl
  | false => exact hb rfl
theorem some_b (x : Bool) : ∃ y, some x = some y := ⟨x, rfl⟩
theorem lim_of {n : Nat} (h : n ≤ 1073741824) : lim n = true := Nat.ble_eq_true_of_le h

theorem L40_1_tot (n0 : Nat) (l4 : List (Nat × Nat)) (N a b : Int) (hN : N ≠ 0) (v : Bool) (n : Nat) (hn : 3 < n) : ∃ r, lpN (L40_1 n0 l4 N a b) n (v, 0) = some r := by
  obtain ⟨r, h, _⟩ := lp_tot (body := L40_1 n0 l4 N a b) (R := fun _ => True) (fun k s => 0 ≤ s.2 ∧ s.2 + k = 3) (fun k s hI => by
    obtain ⟨v, i⟩ := s
    obtain ⟨h1, h2⟩ := hI
    simp only at h1 h2
    simp only [L40_1]
    by_cases c1 : i < (l4.length : Int)
    · rw [br_dt c1, ob_s]
      by_cases c2 : i < 3
      · rw [decide_eq_true c2, br_t]
        have hb : inB i l4.length = true := decide_eq_true ⟨h1, by omega⟩
        have hlt : i.toNat < l4.length := by omega
        have he : l4[i.toNat]? = some l4[i.toNat] := by simp [hlt]
        rw [hb, gd_t, he, ob_s]
        generalize l4[i.toNat] = e
        obtain ⟨x, y⟩ := e
        simp only [gd_t]
        rw [gd_dt hN, gd_dt hN]
        have : ∃ z, br v (some true) (br (decide (Int.tmod (IntKind.wrap .i64 ((x : Nat) : Int)) N = a)) (br (decide (Int.tmod (IntKind.wrap .i64 ((y : Nat) : Int)) N = b)) (some true) (br (decide (Int.tmod (IntKind.wrap .i64 ((x : Nat) : Int)) N = b)) (some (decide (Int.tmod (IntKind.wrap .i64 ((y : Nat) : Int)) N = a))) (some false))) (br (decide (Int.tmod (IntKind.wrap .i64 ((x : Nat) : Int)) N = b)) (some (decide (Int.tmod (IntKind.wrap .i64 ((y : Nat) : Int)) N = a))) (some false))) = some z :=
          br_bool (fun _ => some_b _) fun _ => br_bool (fun _ => br_bool (fun _ => some_b _) fun _ => br_bool (fun _ => some_b _) fun _ => some_b _) fun _ => br_bool (fun _ => some_b _) fun _ => some_b _
        obtain ⟨z, hz⟩ := this
        refine .inl ⟨(z, i + 1), ?_, k - 1, by omega, by simp only; omega, by simp only; omega⟩
        rw [hz, ob_s, wrap_in (by omega) (by omega)]
      · rw [decide_eq_false c2, br_f]; exact .inr ⟨v, rfl, trivial⟩
    · rw [br_df c1, ob_s, br_f]; exact .inr ⟨v, rfl, trivial⟩) 3 (v, 0) n ⟨by simp, by simp⟩ hn
  exact ⟨r, h⟩
theorem L40_2_tot (n0 : Nat) (N a w : Int) (x3 : Nat) (l4 : List (Nat × Nat)) (hN : 1 ≤ N ∧ N ≤ 12) (hw : w ≠ 0) (l : List (Int × Int)) (c b : Int) (M : Nat) (hl : l.length ≤ M) (hM : M ≤ 1000) (hb : 0 ≤ b ∧ b ≤ N) (n : Nat) (hn : 12 < n) (hn0 : 3 < n0) :
    ∃ r, lpN (L40_2 n0 N a w x3 l4) n (l, c, b) = some r ∧ r.1.length ≤ M + 12 := by
  refine lp_tot (body := L40_2 n0 N a w x3 l4) (R := fun r => r.1.length ≤ M + 12) (fun k s => 0 ≤ s.2.2 ∧ s.2.2 + k = N ∧ s.1.length + k ≤ M + 12) (fun k s hI => ?_) (N - b).toNat (l, c, b) n ⟨hb.1, by simp only; omega, by simp only; omega⟩ (by omega)
  obtain ⟨l, c, b⟩ := s
  obtain ⟨h1, h2, h3⟩ := hI
  simp only at h1 h2 h3
  simp only [L40_2]
  by_cases c1 : b < N
  · rw [br_dt c1]
    have e1 : ∃ z, br (decide (b = IntKind.wrap .i64 (a + w))) (some true) (br (decide (b = IntKind.wrap .i64 (a + 1))) (gd (decide (w ≠ 0)) (some (!decide (Int.tmod b w = 0)))) (some false)) = some z :=
      br_bool (fun _ => some_b _) fun _ => br_bool (fun _ => ⟨_, gd_dt hw _⟩) fun _ => some_b _
    obtain ⟨z, hz⟩ := e1
    rw [hz, ob_s]
    have e2 : ∃ c' z', br z (ob (ob (br (decide (Int.tmod c 2 = 1)) (ob (some (ushr .u16 x3 (ui .u64 (Int.tmod (IntKind.wrap .i64 (Int.tdiv c 2)) 16)))) fun y2906 => some (decide (uw .u16 (uw .u16 y2906 &&& uw .u16 1) = 1))) (some false)) fun v2904 => br v2904 (some false) (some z)) fun v2900 => some (IntKind.wrap .i64 (c + 1), v2900)) (some (c, z)) = some (c', z') := by
      cases z with
      | false => exact ⟨c, false, rfl⟩
      | true =>
        rw [br_t]
        have : ∃ q, (ob (br (decide (Int.tmod c 2 = 1)) (ob (some (ushr .u16 x3 (ui .u64 (Int.tmod (IntKind.wrap .i64 (Int.tdiv c 2)) 16)))) fun y2906 => some (decide (uw .u16 (uw .u16 y2906 &&& uw .u16 1) = 1))) (some false)) fun v2904 => br v2904 (some false) (some true)) = some q := by
          by_cases h : Int.tmod c 2 = 1
          · rw [br_dt h, ob_s, ob_s]; exact br_bool (fun _ => some_b _) fun _ => some_b _
          · rw [br_df h, ob_s]; exact br_bool (fun _ => some_b _) fun _ => some_b _
        obtain ⟨q, hq⟩ := this
        exact ⟨_, q, by rw [hq, ob_s]⟩
    obtain ⟨c', z', hz'⟩ := e2
    rw [hz', ob_s]
    obtain ⟨q, hq⟩ := L40_1_tot n0 l4 N a b (by omega) z' n0 hn0
    simp only [hq, ob_s]
    cases q with
    | false =>
      refine .inl ⟨(l, c', b + 1), ?_, k - 1, by omega, by simp only; omega, by simp only; omega, by simp only; omega⟩
      rw [br_f, ob_s, wrap_in (by omega) (by omega)]
    | true =>
      refine .inl ⟨(l ++ [(a, b)], c', b + 1), ?_, k - 1, by omega, by simp only; omega, by simp only; omega, by simp; omega⟩
      rw [br_t, lim_of (by simp; omega), gd_t, ob_s, wrap_in (by omega) (by omega)]
  · rw [br_df c1]; exact .inr ⟨(l, c), rfl, by simp only; omega⟩
theorem L40_3_tot (n0 : Nat) (N w : Int) (x3 : Nat) (l4 : List (Nat × Nat)) (hN : 1 ≤ N ∧ N ≤ 12) (hw : w ≠ 0) (n : Nat) (hn : 12 < n) (hn0 : 12 < n0) :
    ∃ r, lpN (L40_3 n0 N x3 l4) n (w, [], 0, 0) = some r ∧ r.length ≤ 200 := by
  refine lp_tot (body := L40_3 n0 N x3 l4) (R := fun r => r.length ≤ 200) (fun k s => s.1 = w ∧ 0 ≤ s.2.2.2 ∧ s.2.2.2 + k = N ∧ s.2.1.length + 12 * k ≤ 144) (fun k s hI => ?_) N.toNat (w, [], 0, 0) n ⟨rfl, by simp, by simp only; omega, by simp; omega⟩ (by omega)
  obtain ⟨w', l, c, a⟩ := s
  obtain ⟨rfl, h1, h2, h3⟩ := hI
  simp only at h1 h2 h3 hw
  simp only [L40_3]
  by_cases c1 : a < N
  · rw [br_dt c1]
    obtain ⟨r, hr, hrl⟩ := L40_2_tot n0 N a w' x3 l4 hN hw l c (IntKind.wrap .i64 (a + 1)) l.length (Nat.le_refl _) (by omega) (by rw [wrap_in (by omega) (by omega)]; omega) n0 hn0 (by omega)
    obtain ⟨l', c'⟩ := r
    simp only [hr, ob_s]
    exact .inl ⟨(w', l', c', a + 1), by rw [wrap_in (by omega) (by omega)], k - 1, by omega, rfl, by simp only; omega, by simp only; omega, by simp only at hrl ⊢; omega⟩
  · rw [br_df c1]; exact .inr ⟨l, rfl, by omega⟩
theorem F40_tot (n x1 x2 x3 : Nat) (l4 : List (Nat × Nat)) (hn : 12 < n) : ∃ N es, F40 n x1 x2 x3 l4 = some (N, es) ∧ es.length ≤ 200 := by
  unfold F40
  have w1 : IntKind.wrap .i64 ((x1 % 4 : Nat) : Int) = ((x1 % 4 : Nat) : Int) := wrap_in (by omega) (by omega)
  have w2 : IntKind.wrap .i64 ((x2 % 3 : Nat) : Int) = ((x2 % 3 : Nat) : Int) := wrap_in (by omega) (by omega)
  have w3 : IntKind.wrap .i64 (1 + ((x1 % 4 : Nat) : Int)) = 1 + ((x1 % 4 : Nat) : Int) := wrap_in (by omega) (by omega)
  have w4 : IntKind.wrap .i64 (1 + ((x2 % 3 : Nat) : Int)) = 1 + ((x2 % 3 : Nat) : Int) := wrap_in (by omega) (by omega)
  rw [w1, w2, w3, w4, ob_s]
  have hN : ∀ a b : Nat, a < 4 → b < 3 → 1 ≤ (1 + (a : Int)) * (1 + (b : Int)) ∧ (1 + (a : Int)) * (1 + (b : Int)) ≤ 12 := by
    intro a b ha hb
    have h1 : a = 0 ∨ a = 1 ∨ a = 2 ∨ a = 3 := by omega
    have h2 : b = 0 ∨ b = 1 ∨ b = 2 := by omega
    rcases h1 with rfl | rfl | rfl | rfl <;> rcases h2 with rfl | rfl | rfl <;> decide
  have hN' := hN (x1 % 4) (x2 % 3) (Nat.mod_lt _ (by omega)) (Nat.mod_lt _ (by omega))
  rw [wrap_in (by omega) (by omega)]
  obtain ⟨r, hr, hl⟩ := L40_3_tot n ((1 + ((x1 % 4 : Nat) : Int)) * (1 + ((x2 % 3 : Nat) : Int))) (1 + ((x1 % 4 : Nat) : Int)) x3 l4 hN' (by omega) n hn hn
  exact ⟨_, r, by rw [hr, ob_s], hl⟩
end Go.Proofs.YtpclggcpobakhaaDoor
end

section
/-
  Chapter 18, plain laws: bends come to some graph; GraphChecks.
-/
namespace Go.Proofs.YtpclggcpobakhaaDoor
open Go Go.Ab Go.Ab.W

theorem L65_1_tot (n0 : Nat) (a : Int) (x2 : Nat) (l : List (Int × Int)) (b : Int) (ha : 0 ≤ a ∧ a < 64) (hb : 0 ≤ b ∧ b ≤ 65) (hl : l.length ≤ 201) (n : Nat) (hn : 65 < n) : ∃ r, lpN (L65_1 n0 a x2) n (l, b) = some r ∧ r.length ≤ 201 := by
  refine lp_tot (body := L65_1 n0 a x2) (R := fun r => r.length ≤ 201) (fun k s => 0 ≤ s.2 ∧ s.2 + k = 65 ∧ s.1.length ≤ 201) (fun k s hI => ?_) (65 - b).toNat (l, b) n ⟨hb.1, by simp only; omega, hl⟩ (by omega)
  obtain ⟨l, b⟩ := s
  obtain ⟨h1, h2, h3⟩ := hI
  simp only at h1 h2 h3
  have hmi : mi (IntKind.wrap .i64 (a + 5)) (64 : Int) ≤ 64 := by unfold mi; split <;> omega
  have w2 : IntKind.wrap .i64 ((x2 % 3 : Nat) : Int) = ((x2 % 3 : Nat) : Int) := wrap_in (by omega) (by omega)
  have w3 : IntKind.wrap .i64 (199 + ((x2 % 3 : Nat) : Int)) = 199 + ((x2 % 3 : Nat) : Int) := wrap_in (by omega) (by omega)
  simp only [L65_1, w2, w3]
  by_cases c1 : b < mi (IntKind.wrap .i64 (a + 5)) (64 : Int)
  · rw [br_dt c1, ob_s]
    by_cases c2 : (l.length : Int) < 199 + ((x2 % 3 : Nat) : Int)
    · rw [decide_eq_true c2, br_t]
      have : x2 % 3 < 3 := Nat.mod_lt _ (by omega)
      rw [lim_of (by simp; omega), gd_t, wrap_in (by omega) (by omega)]
      exact .inl ⟨(l ++ [(a, b)], b + 1), rfl, k - 1, by omega, by simp only; omega, by simp only; omega, by simp; omega⟩
    · rw [decide_eq_false c2, br_f]; exact .inr ⟨l, rfl, h3⟩
  · rw [br_df c1, ob_s, br_f]; exact .inr ⟨l, rfl, h3⟩
theorem L65_2_tot (n0 : Nat) (x2 : Nat) (n : Nat) (hn : 65 < n) (hn0 : 65 < n0) : ∃ r, lpN (L65_2 n0 x2) n ([], 0) = some r ∧ r.length ≤ 201 := by
  refine lp_tot (body := L65_2 n0 x2) (R := fun r => r.length ≤ 201) (fun k s => 0 ≤ s.2 ∧ s.2 + k = 64 ∧ s.1.length ≤ 201) (fun k s hI => ?_) 64 ([], 0) n ⟨by simp, by simp, by simp⟩ (by omega)
  obtain ⟨l, a⟩ := s
  obtain ⟨h1, h2, h3⟩ := hI
  simp only at h1 h2 h3
  simp only [L65_2]
  by_cases c1 : a < 64
  · rw [br_dt c1, wrap_in (by omega) (by omega)]
    obtain ⟨r, hr, hrl⟩ := L65_1_tot n0 a x2 l (a + 1) ⟨h1, c1⟩ ⟨by omega, by omega⟩ h3 n0 hn0
    rw [hr, ob_s]
    exact .inl ⟨(r, a + 1), rfl, k - 1, by omega, by simp only; omega, by simp only; omega, hrl⟩
  · rw [br_df c1]; exact .inr ⟨l, rfl, h3⟩
theorem okB_of {lo hi : Int} {n : Nat} (h : 0 ≤ lo ∧ lo ≤ hi ∧ hi ≤ (n : Int)) : okB lo hi n = true := decide_eq_true h
theorem F65_tot (n x1 x2 : Nat) (x3 x4 x5 N : Int) (l7 : List (Int × Int)) (hx : x2 < 256) (hl : l7.length ≤ 1000000) (hn : 65 < n) : ∃ N' es, F65 n x1 x2 x3 x4 x5 N l7 = some (N', es) ∧ es.length ≤ 300 := by
  unfold F65
  have hmi : 0 ≤ mi (l7.length : Int) (210 : Int) ∧ mi (l7.length : Int) (210 : Int) ≤ (l7.length : Int) ∧ mi (l7.length : Int) (210 : Int) ≤ 210 := by unfold mi; split <;> omega
  rw [okB_of ⟨by omega, hmi.1, hmi.2.1⟩, gd_t]
  generalize hL : ((l7.drop (0 : Int).toNat).take ((mi (l7.length : Int) (210 : Int) : Int).toNat - (0 : Int).toNat)) = L
  have hLl : L.length ≤ 210 := by
    rw [← hL, List.length_take]
    have := hmi.2.2
    omega
  unfold F26
  rw [lim_of (by omega), gd_t, ob_s]
  have w1 : IntKind.wrap .i64 ((L.length : Int) + 1) = (L.length : Int) + 1 := wrap_in (by omega) (by omega)
  rw [w1, gd_dt (by omega)]
  have w2 : IntKind.wrap .i64 ((x2 : Nat) : Int) = ((x2 : Nat) : Int) := wrap_in (by omega) (by omega)
  rw [w2, ob_s]
  obtain ⟨y, hy⟩ : ∃ y, y = Int.tmod ((x2 : Nat) : Int) ((L.length : Int) + 1) := ⟨_, rfl⟩
  have hy1 : 0 ≤ y ∧ y ≤ L.length := by
    rw [hy, Int.tmod_eq_emod_of_nonneg (Int.natCast_nonneg _)]
    have h1 := Int.emod_nonneg ((x2 : Nat) : Int) (show ((L.length : Int) + 1) ≠ 0 by omega)
    have h2 := Int.emod_lt_of_pos ((x2 : Nat) : Int) (show 0 < ((L.length : Int) + 1) by omega)
    omega
  rw [← hy]
  have fin : ∀ (q : Option (Int × List (Int × Int) × Nat)), (∃ N' es k, q = some (N', es, k) ∧ es.length ≤ 300) → ∃ N' es, (ob q fun (v256, l257, n259) => some (v256, l257)) = some (N', es) ∧ es.length ≤ 300 := by
    rintro q ⟨N', es, k, rfl, h⟩
    exact ⟨N', es, rfl, h⟩
  have ins : ∀ p : Int × Int, F82 n L y [p] = some (L.take y.toNat ++ [p] ++ L.drop y.toNat) ∧ (L.take y.toNat ++ [p] ++ L.drop y.toNat).length ≤ 300 := by
    intro p
    refine ⟨?_, by simp; omega⟩
    unfold F82
    rw [okB_of ⟨hy1.1, hy1.2, Int.le_refl _⟩, gd_t, lim_of (by simp; omega), gd_t]
  refine fin _ ?_
  have case1 : ∀ {p : Prop} [Decidable p] {a b : Option (Int × List (Int × Int) × Nat)}, (p → ∃ N' es k, a = some (N', es, k) ∧ es.length ≤ 300) → (¬ p → ∃ N' es k, b = some (N', es, k) ∧ es.length ≤ 300) → ∃ N' es k, br (decide p) a b = some (N', es, k) ∧ es.length ≤ 300 := by
    intro p _ a b ha hb
    by_cases h : p
    · rw [br_dt h]; exact ha h
    · rw [br_df h]; exact hb h
  have base : ∀ (N' : Int) (k : Nat), ∃ N'' es k', (some (N', L, k) : Option (Int × List (Int × Int) × Nat)) = some (N'', es, k') ∧ es.length ≤ 300 := fun N' k => ⟨_, _, _, rfl, by omega⟩
  refine case1 (fun _ => base _ _) fun _ => case1 (fun _ => ?_) fun _ => case1 (fun _ => case1 (fun h => ?_) fun _ => base _ _) fun _ => case1 (fun _ => case1 (fun h => ?_) fun _ => base _ _) fun _ => case1 (fun _ => case1 (fun h => ?_) fun _ => base _ _) fun _ => case1 (fun _ => base _ _) fun _ => case1 (fun _ => ?_) fun _ => base _ _
  · rw [(ins _).1, ob_s]; exact ⟨_, _, _, rfl, (ins _).2⟩
  · unfold F49
    rw [wrap_in (by omega) (by omega), okB_of ⟨hy1.1, by omega, by omega⟩, gd_t, decide_eq_true (show y < y + 1 by omega), gd_t, lim_of (by omega), gd_t, ob_s]
    exact ⟨_, _, _, rfl, by simp; omega⟩
  · have hb : inB y L.length = true := decide_eq_true ⟨hy1.1, by omega⟩
    have hlt : y.toNat < L.length := by omega
    have he : L[y.toNat]? = some L[y.toNat] := by simp [hlt]
    rw [hb, gd_t, he, ob_s]
    generalize L[y.toNat] = e
    obtain ⟨u, v⟩ := e
    have he2 : (L.set y.toNat (v, v))[y.toNat]? = some (v, v) := by simp [hlt]
    simp only [gd_t, he2, ob_s]
    exact ⟨_, _, _, rfl, by simp; omega⟩
  · have hb : inB y L.length = true := decide_eq_true ⟨hy1.1, by omega⟩
    have hlt : y.toNat < L.length := by omega
    have he : L[y.toNat]? = some L[y.toNat] := by simp [hlt]
    rw [hb, gd_t, he, ob_s]
    generalize L[y.toNat] = e
    obtain ⟨u, v⟩ := e
    simp only [(ins _).1, ob_s]
    exact ⟨_, _, _, rfl, (ins _).2⟩
  · obtain ⟨r, hr, hrl⟩ := L65_2_tot n x2 n hn hn
    rw [hr, ob_s]; exact ⟨_, _, _, rfl, by omega⟩
theorem F28_tot (n x1 x2 x3 : Nat) (l4 : List (Nat × Nat)) (x8 x9 : Nat) (x10 x11 x12 : Int) (x13 x14 : Nat) (x15 x16 x17 : Int) (h9 : x9 < 256) (h14 : x14 < 256) (hn : 65 < n) :
    ∃ N1 e1 N2 e2 N3 e3, F28 n x1 x2 x3 l4 x8 x9 x10 x11 x12 x13 x14 x15 x16 x17 = some (N1, e1, N2, e2, N3, e3) ∧ e1.length ≤ 300 ∧ e2.length ≤ 300 ∧ e3.length ≤ 300 ∧ F40 n x1 x2 x3 l4 = some (N1, e1) := by
  obtain ⟨N1, e1, h1, g1⟩ := F40_tot n x1 x2 x3 l4 (by omega)
  obtain ⟨N2, e2, h2, g2⟩ := F65_tot n x8 x9 x10 x11 x12 N1 e1 h9 (by omega) hn
  obtain ⟨N3, e3, h3, g3⟩ := F65_tot n x13 x14 x15 x16 x17 N2 e2 h14 (by omega) hn
  refine ⟨N1, e1, N2, e2, N3, e3, ?_, by omega, g2, g3, h1⟩
  unfold F28
  simp only [h1, ob_s, h2, h3]

/-! ### GraphChecks -/
theorem L7_1_eq (n0 : Nat) (N1 N2 N3 N4 : Int) (e1 e2 e3 l19 : List (Int × Int)) (N : Int) (es : List (Int × Int)) (hes : es.length ≤ 300) (hn0 : 300 < n0) (n : Nat) (hn : 5 < n) :
    lpN (L7_1 n0 N1 e1 N2 e2 N3 e3 N4 l19 N es) n 0 = some (.inr ()) := by
  obtain ⟨r, h1, h2⟩ := lp_tot (body := L7_1 n0 N1 e1 N2 e2 N3 e3 N4 l19 N es) (R := fun r => r = .inr ()) (fun k s => 0 ≤ s ∧ s + k = 4) (fun k s hI => by
    obtain ⟨g1, g2⟩ := hI
    simp only [L7_1]
    by_cases c : s < 4
    · rw [br_dt c]
      have hb : inB s 4 = true := decide_eq_true ⟨g1, by omega⟩
      rw [hb, gd_t]
      generalize hl : ([(N1, e1), (N2, e2), (N3, e3), (N4, ((l19.drop (0 : Int).toNat).take ((mi (l19.length : Int) (5 : Int) : Int).toNat - (0 : Int).toNat)))] : List (Int × List (Int × Int))) = gs
      have hgl : gs.length = 4 := by rw [← hl]; rfl
      have hlt : s.toNat < gs.length := by omega
      have he : gs[s.toNat]? = some gs[s.toNat] := by simp [hlt]
      rw [he, ob_s]
      generalize gs[s.toNat] = g
      obtain ⟨N', es'⟩ := g
      simp only [F27_eq n0 N N' es es' (by omega) (by omega), F44_eq n0 N N' es es' (by omega) (by omega), ob_s]
      refine .inl ⟨s + 1, ?_, k - 1, by omega, by omega, by omega⟩
      rw [show (!((decide (N = N') && decide (es = es')) == (decide (N = N') && decide (es = es')))) = false by simp, br_f, wrap_in (by omega) (by omega)]
    · rw [br_df c]; exact .inr ⟨_, rfl, rfl⟩) 4 0 n ⟨by omega, by omega⟩ (by omega)
  rw [h1, h2]
theorem L7_2_eq (n0 : Nat) (N1 N2 N3 N4 : Int) (e1 e2 e3 l19 : List (Int × Int)) (h1 : e1.length ≤ 300) (h2 : e2.length ≤ 300) (h3 : e3.length ≤ 300) (hn0 : 300 < n0) (n : Nat) (hn : 5 < n) :
    lpN (L7_2 n0 N1 e1 N2 e2 N3 e3 N4 l19) n 0 = some (.inr ()) := by
  obtain ⟨r, k1, k2⟩ := lp_tot (body := L7_2 n0 N1 e1 N2 e2 N3 e3 N4 l19) (R := fun r => r = .inr ()) (fun k s => 0 ≤ s ∧ s + k = 4) (fun k s hI => by
    obtain ⟨g1, g2⟩ := hI
    simp only [L7_2]
    by_cases c : s < 4
    · rw [br_dt c]
      have hb : inB s 4 = true := decide_eq_true ⟨g1, by omega⟩
      rw [hb, gd_t]
      have hR : ((l19.drop (0 : Int).toNat).take ((mi (l19.length : Int) (5 : Int) : Int).toNat - (0 : Int).toNat)).length ≤ 300 := by
        rw [List.length_take]
        have : mi (l19.length : Int) (5 : Int) ≤ 5 := by unfold mi; split <;> omega
        omega
      have hgs : ∀ g ∈ ([(N1, e1), (N2, e2), (N3, e3), (N4, ((l19.drop (0 : Int).toNat).take ((mi (l19.length : Int) (5 : Int) : Int).toNat - (0 : Int).toNat)))] : List (Int × List (Int × Int))), g.2.length ≤ 300 := by
        intro g hg
        simp only [List.mem_cons, List.not_mem_nil, or_false] at hg
        rcases hg with rfl | rfl | rfl | rfl
        · exact h1
        · exact h2
        · exact h3
        · exact hR
      generalize hl : ([(N1, e1), (N2, e2), (N3, e3), (N4, ((l19.drop (0 : Int).toNat).take ((mi (l19.length : Int) (5 : Int) : Int).toNat - (0 : Int).toNat)))] : List (Int × List (Int × Int))) = gs at hgs ⊢
      have hgl : gs.length = 4 := by rw [← hl]; rfl
      have hlt : s.toNat < gs.length := by omega
      have he : gs[s.toNat]? = some gs[s.toNat] := by simp [hlt]
      have hg := hgs gs[s.toNat] (List.getElem_mem hlt)
      rw [he, ob_s]
      generalize gs[s.toNat] = g at hg
      obtain ⟨N', es'⟩ := g
      simp only at hg
      simp only [F23_eq n0 N' es' (by omega) (by omega) (by omega), F43_eq n0 N' es' (by omega) (by omega), ob_s]
      simp only [decide_true, Bool.not_true, br_f]
      rw [L7_1_eq n0 N1 N2 N3 N4 e1 e2 e3 l19 N' es' hg hn0 n0 (by omega), ob_s]
      exact .inl ⟨s + 1, by simp only; rw [wrap_in (by omega) (by omega)], k - 1, by omega, by omega, by omega⟩
    · rw [br_df c]; exact .inr ⟨_, rfl, rfl⟩) 4 0 n ⟨by omega, by omega⟩ (by omega)
  rw [k1, k2]
theorem F7_true (n x1 x2 x3 : Nat) (l4 : List (Nat × Nat)) (x8 x9 : Nat) (x10 x11 x12 : Int) (x13 x14 : Nat) (x15 x16 x17 x18 : Int) (l19 : List (Int × Int)) (h9 : x9 < 256) (h14 : x14 < 256) (hn : 300 < n) :
    F7 n x1 x2 x3 l4 x8 x9 x10 x11 x12 x13 x14 x15 x16 x17 x18 l19 = some true := by
  obtain ⟨N1, e1, N2, e2, N3, e3, h1, g1, g2, g3, _⟩ := F28_tot n x1 x2 x3 l4 x8 x9 x10 x11 x12 x13 x14 x15 x16 x17 h9 h14 (by omega)
  unfold F7
  have hmi : 0 ≤ mi (l19.length : Int) (5 : Int) ∧ mi (l19.length : Int) (5 : Int) ≤ (l19.length : Int) := by unfold mi; split <;> omega
  rw [okB_of ⟨by omega, hmi.1, hmi.2⟩, gd_t, h1, ob_s]
  simp only [L7_2_eq n N1 N2 N3 x18 e1 e2 e3 l19 g1 g2 g3 hn n (by omega), ob_s]
  rfl
end Go.Proofs.YtpclggcpobakhaaDoor
end

section
/-
  Words of 64 bits ars sets of numbers: what the operations of the walks' plain functions do to their bits.
-/
namespace Go.Ab.W
open Go Go.Ab

abbrev W64 : Nat := 2 ^ 64
theorem uM64 : uM .u64 = 2 ^ 64 := rfl
theorem uw_id {a : Nat} (h : a < 2 ^ 64) : uw .u64 a = a := Nat.mod_eq_of_lt h
theorem tb_lt {a : Nat} (h : a < 2 ^ 64) {i : Nat} (hi : a.testBit i = true) : i < 64 := by
  rcases Nat.lt_or_ge i 64 with h1 | h1
  · exact h1
  · have : a < 2 ^ i := Nat.lt_of_lt_of_le h (Nat.pow_le_pow_right (by decide) h1)
    rw [Nat.testBit_lt_two_pow this] at hi; cases hi
theorem lt_of_tb {a : Nat} (h : ∀ i, a.testBit i = true → i < 64) : a < 2 ^ 64 := Nat.lt_pow_two_of_testBit a fun i hi => by
  cases e : a.testBit i with
  | false => rfl
  | true => have := h i e; omega
theorem word_and {a b : Nat} (ha : a < 2 ^ 64) (hb : b < 2 ^ 64) : uw .u64 (uw .u64 a &&& uw .u64 b) = a &&& b := by
  rw [uw_id ha, uw_id hb, uw_id (Nat.lt_of_le_of_lt Nat.and_le_left ha)]
theorem word_or {a b : Nat} (ha : a < 2 ^ 64) (hb : b < 2 ^ 64) : uw .u64 (uw .u64 a ||| uw .u64 b) = a ||| b := by
  rw [uw_id ha, uw_id hb, uw_id (Nat.or_lt_two_pow ha hb)]
theorem and_lt' {a b : Nat} (ha : a < 2 ^ 64) : a &&& b < 2 ^ 64 := Nat.lt_of_le_of_lt Nat.and_le_left ha
theorem or_lt' {a b : Nat} (ha : a < 2 ^ 64) (hb : b < 2 ^ 64) : a ||| b < 2 ^ 64 := Nat.or_lt_two_pow ha hb
theorem word_andn {a b : Nat} (ha : a < 2 ^ 64) (hb : b < 2 ^ 64) : uandn .u64 a b = a ^^^ (a &&& b) := by
  unfold uandn
  rw [uw_id ha, uw_id hb, uw_id (Nat.xor_lt_two_pow ha (and_lt' ha))]
theorem tb_andn {a b : Nat} (ha : a < 2 ^ 64) (hb : b < 2 ^ 64) (i : Nat) : (uandn .u64 a b).testBit i = (a.testBit i && !b.testBit i) := by
  rw [word_andn ha hb, Nat.testBit_xor, Nat.testBit_and]
  cases a.testBit i <;> cases b.testBit i <;> rfl
theorem andn_lt {a b : Nat} (ha : a < 2 ^ 64) (hb : b < 2 ^ 64) : uandn .u64 a b < 2 ^ 64 := by
  rw [word_andn ha hb]; exact Nat.xor_lt_two_pow ha (and_lt' ha)
/-- One bit. -/
theorem word_one {k : Nat} (h : k < 64) : ushl .u64 1 k = 2 ^ k := by
  unfold ushl
  rw [Nat.min_eq_left (Nat.le_of_lt (show k < IntKind.bits .u64 from h)), Nat.one_mul]
  exact uw_id (Nat.pow_lt_pow_right (by decide) h)
theorem one_lt {k : Nat} (h : k < 64) : 2 ^ k < 2 ^ 64 := Nat.pow_lt_pow_right (by decide) h
theorem tb_one (k i : Nat) : (2 ^ k).testBit i = decide (i = k) := by
  rw [Nat.testBit_two_pow]
  by_cases h : k = i
  · simp [h]
  · simp [h, Ne.symm h]
theorem ui_nn {k : Int} (h0 : 0 ≤ k) (h1 : k < 64) : ui .u64 k = k.toNat := by
  unfold ui
  rw [Int.emod_eq_of_lt h0 (by rw [uM64]; omega)]
theorem word_shr {a k : Nat} (h : k ≤ 64) : ushr .u64 a k = a >>> k := by
  unfold ushr
  rw [Nat.min_eq_left (show k ≤ IntKind.bits .u64 from h), Nat.shiftRight_eq_div_pow]
theorem bit_at {a k : Nat} (ha : a < 2 ^ 64) (h : k ≤ 64) : decide (uw .u64 (uw .u64 (ushr .u64 a k) &&& uw .u64 1) = 1) = a.testBit k := by
  have hs : a >>> k < 2 ^ 64 := Nat.lt_of_le_of_lt (by rw [Nat.shiftRight_eq_div_pow]; exact Nat.div_le_self _ _) ha
  rw [word_shr h, word_and hs (by decide), Nat.testBit]
  rw [Nat.and_comm]
  have h2 : 1 &&& a >>> k = (a >>> k) % 2 := by rw [Nat.and_comm, Nat.and_one_is_mod]
  rw [h2]
  rcases Nat.mod_two_eq_zero_or_one (a >>> k) with h3 | h3 <;> rw [h3] <;> rfl
theorem word_ext {a b : Nat} (h : ∀ i, a.testBit i = true ↔ b.testBit i = true) : a = b := Nat.eq_of_testBit_eq fun i => by
  have := h i
  cases ha : a.testBit i <;> cases hb : b.testBit i <;> simp_all
theorem word_zero {a : Nat} : a = 0 ↔ ∀ i, a.testBit i = false := ⟨fun h => by subst h; exact fun i => Nat.zero_testBit i, fun h => Nat.eq_of_testBit_eq fun i => by rw [h, Nat.zero_testBit]⟩

/-! ### The lowest bit -/
theorem tz_bit {x : Nat} (h0 : 0 < x) (h1 : x < 2 ^ 64) : x.testBit (tz x) = true ∧ ∀ i, i < tz x → x.testBit i = false := by
  obtain ⟨h2, _, q, hq⟩ := tz_low h0 h1
  have key : ∀ i, x.testBit i = (decide (tz x ≤ i) && (2 * q + 1).testBit (i - tz x)) := fun i => by
    conv => lhs; rw [hq]
    rw [Nat.testBit_two_pow_mul]
  refine ⟨?_, fun i hi => ?_⟩
  · rw [key, Nat.sub_self]
    simp [Nat.testBit_zero]
  · rw [key, decide_eq_false (by omega)]; rfl
theorem low_word {x : Nat} (h0 : 0 < x) (h1 : x < 2 ^ 64) : uw .u64 (uw .u64 x &&& uw .u64 (uneg .u64 x)) = 2 ^ tz x := by
  obtain ⟨h2, h3, _⟩ := tz_low h0 h1
  have hn : uneg .u64 x = 2 ^ 64 - x := by
    unfold uneg
    rw [uw_id h1, uM64, uw_id (by omega)]
  rw [hn, word_and h1 (by omega), h3]
/-- The lowest bit is struck. -/
def clr (x : Nat) : Nat := uw .u64 (uw .u64 x &&& uw .u64 (usub .u64 x 1))
theorem clr_eq {x : Nat} (h0 : 0 < x) (h1 : x < 2 ^ 64) : clr x = x &&& (x - 1) := by
  have : usub .u64 x 1 = x - 1 := by
    unfold usub
    rw [uM64, uw_id (show (1 : Nat) < 2 ^ 64 by decide)]
    show (x + (2 ^ 64 - 1)) % 2 ^ 64 = x - 1
    omega
  unfold clr
  rw [this, word_and h1 (by omega)]
theorem pred_bit (t q i : Nat) : (2 ^ t * (2 * q + 1) - 1).testBit i = if i < t then true else if i = t then false else (2 ^ t * (2 * q + 1)).testBit i := by
  have e : 2 ^ t * (2 * q + 1) - 1 = 2 ^ t * (2 * q) + (2 ^ t - 1) := by
    rw [Nat.mul_add, Nat.mul_one]
    have := Nat.two_pow_pos t
    omega
  rw [e, Nat.testBit_two_pow_mul_add _ (by have := Nat.two_pow_pos t; omega)]
  by_cases h : i < t
  · rw [if_pos h, if_pos h, Nat.testBit_two_pow_sub_one]; simp [h]
  · rw [if_neg h, if_neg h]
    by_cases h' : i = t
    · subst h'; simp [Nat.testBit_zero]
    · rw [if_neg h', Nat.testBit_two_pow_mul]
      obtain ⟨d, hd⟩ : ∃ d, i - t = d + 1 := ⟨i - t - 1, by omega⟩
      rw [hd, Nat.testBit_succ, Nat.testBit_succ]
      have : (2 * q + 1) / 2 = 2 * q / 2 := by omega
      rw [this]
      simp; omega
theorem clr_bit {x : Nat} (h0 : 0 < x) (h1 : x < 2 ^ 64) (i : Nat) : (clr x).testBit i = (x.testBit i && !decide (i = tz x)) := by
  rw [clr_eq h0 h1, Nat.testBit_and]
  obtain ⟨_, _, q, hq⟩ := tz_low h0 h1
  obtain ⟨hb, hl⟩ := tz_bit h0 h1
  have := pred_bit (tz x) q i
  rw [← hq] at this
  rw [this]
  by_cases h : i < tz x
  · rw [hl i h]; rfl
  · rw [if_neg h]
    by_cases h' : i = tz x
    · simp [h']
    · simp [h']
theorem clr_lt {x : Nat} (h0 : 0 < x) (h1 : x < 2 ^ 64) : clr x < 2 ^ 64 := by rw [clr_eq h0 h1]; exact and_lt' h1

/-! ### The bits of a word, in order -/
def bitsOf (x : Nat) : List Nat := (List.range 64).filter fun i => x.testBit i
theorem mem_bitsOf {x i : Nat} (h : x < 2 ^ 64) : i ∈ bitsOf x ↔ x.testBit i = true := by
  unfold bitsOf
  rw [List.mem_filter, List.mem_range]
  exact ⟨fun h => h.2, fun hi => ⟨tb_lt h hi, hi⟩⟩
theorem bitsOf_len (x : Nat) : (bitsOf x).length ≤ 64 := by
  unfold bitsOf
  exact Nat.le_trans (List.length_filter_le _ _) (by simp)
theorem bitsOf_zero : bitsOf 0 = [] := by
  unfold bitsOf
  simp
theorem filter_range_cons (p q : Nat → Bool) (t : Nat) : ∀ (n s : Nat), s ≤ t → t < s + n → p t = true → (∀ i, s ≤ i → i < t → p i = false) → (∀ i, t < i → p i = q i) → (∀ i, s ≤ i → i ≤ t → q i = false) →
    (List.range' s n).filter p = t :: (List.range' s n).filter q
  | 0, s, h1, h2, _, _, _, _ => by omega
  | n + 1, s, h1, h2, hp, hl, hg, hq => by
    rw [List.range'_succ]
    by_cases h : s = t
    · subst h
      rw [List.filter_cons_of_pos hp, List.filter_cons_of_neg (by rw [hq s (Nat.le_refl _) (Nat.le_refl _)]; decide)]
      congr 1
      apply List.filter_congr
      intro i hi
      rw [List.mem_range'_1] at hi
      exact hg i (by omega)
    · rw [List.filter_cons_of_neg (by rw [hl s (Nat.le_refl _) (by omega)]; decide), List.filter_cons_of_neg (by rw [hq s (Nat.le_refl _) (by omega)]; decide)]
      exact filter_range_cons p q t n (s + 1) (by omega) (by omega) hp (fun i a b => hl i (by omega) b) hg (fun i a b => hq i (by omega) b)
theorem bitsOf_cons {x : Nat} (h0 : 0 < x) (h1 : x < 2 ^ 64) : bitsOf x = tz x :: bitsOf (clr x) := by
  obtain ⟨hb, hl⟩ := tz_bit h0 h1
  unfold bitsOf
  rw [List.range_eq_range']
  refine filter_range_cons _ _ (tz x) 64 0 (Nat.zero_le _) (by have := (tz_low h0 h1).1; omega) hb (fun i _ h => hl i h) (fun i h => ?_) (fun i _ h => ?_)
  · show x.testBit i = (clr x).testBit i
    rw [clr_bit h0 h1]
    have : i ≠ tz x := by omega
    simp [this]
  · show (clr x).testBit i = false
    rw [clr_bit h0 h1]
    by_cases e : i = tz x
    · simp [e]
    · rw [hl i (by omega)]; rfl

/-! ### Loops -/
section
variable {σ ρ τ : Type}
/-- A loop over the bits of a word. -/
theorem lp_bits {body : τ → Option (τ ⊕ ρ)} (mk : Nat → σ → τ) (step : σ → Nat → σ) (fin : σ → ρ) (I : σ → Prop) (x0 : Nat)
    (hs : ∀ r s, 0 < r → r < 2 ^ 64 → x0.testBit (tz r) = true → I s → body (mk r s) = some (.inl (mk (clr r) (step s (tz r)))) ∧ I (step s (tz r))) (he : ∀ s, I s → body (mk 0 s) = some (.inr (fin s))) :
    ∀ (n : Nat) (r : Nat) (s : σ), r < 2 ^ 64 → (∀ i, r.testBit i = true → x0.testBit i = true) → I s → (bitsOf r).length < n → lpN body n (mk r s) = some (fin ((bitsOf r).foldl step s)) := by
  intro n
  induction n with
  | zero => intro r s _ _ _ h; exact absurd h (Nat.not_lt_zero _)
  | succ n ih =>
    intro r s hr hx hI hn
    rcases Nat.eq_zero_or_pos r with h0 | h0
    · subst h0
      rw [bitsOf_zero]
      simp only [lpN, he s hI, List.foldl_nil]
    · obtain ⟨h1, h2⟩ := hs r s h0 hr (hx _ (tz_bit h0 hr).1) hI
      rw [bitsOf_cons h0 hr, List.foldl_cons]
      simp only [lpN, h1]
      refine ih _ _ (clr_lt h0 hr) (fun i hi => hx i ?_) h2 (by rw [bitsOf_cons h0 hr] at hn; simpa using hn)
      rw [clr_bit h0 hr] at hi
      simp only [Bool.and_eq_true] at hi
      exact hi.1
/-- A loop over a list by numbers. -/
theorem lp_list {α : Type} {body : τ → Option (τ ⊕ ρ)} (l : List α) (mk : σ → Int → τ) (step : σ → α → σ) (fin : σ → ρ) (I : Nat → σ → Prop)
    (hs : ∀ s i x, l[i]? = some x → I i s → body (mk s (i : Int)) = some (.inl (mk (step s x) ((i + 1 : Nat) : Int))) ∧ I (i + 1) (step s x)) (he : ∀ s, I l.length s → body (mk s (l.length : Int)) = some (.inr (fin s))) :
    ∀ (k i n : Nat) (s : σ), i + k = l.length → I i s → k < n → lpN body n (mk s (i : Int)) = some (fin ((l.drop i).foldl step s)) ∧ I l.length ((l.drop i).foldl step s) := by
  intro k
  induction k with
  | zero =>
    intro i n s hi hI hn
    obtain ⟨n, rfl⟩ : ∃ n', n = n' + 1 := ⟨n - 1, by omega⟩
    have : i = l.length := by omega
    subst this
    rw [List.drop_length]
    exact ⟨by simp only [lpN, he s hI, List.foldl_nil], hI⟩
  | succ k ih =>
    intro i n s hi hI hn
    obtain ⟨n, rfl⟩ : ∃ n', n = n' + 1 := ⟨n - 1, by omega⟩
    have hlt : i < l.length := by omega
    obtain ⟨h1, h2⟩ := hs s i l[i] (List.getElem?_eq_getElem hlt) hI
    rw [List.drop_eq_getElem_cons hlt, List.foldl_cons]
    simp only [lpN, h1]
    exact ih (i + 1) n _ (by omega) h2 (by omega)
theorem lp_list0 {α : Type} {body : τ → Option (τ ⊕ ρ)} (l : List α) (mk : σ → Int → τ) (step : σ → α → σ) (fin : σ → ρ) (I : Nat → σ → Prop)
    (hs : ∀ s i x, l[i]? = some x → I i s → body (mk s (i : Int)) = some (.inl (mk (step s x) ((i + 1 : Nat) : Int))) ∧ I (i + 1) (step s x)) (he : ∀ s, I l.length s → body (mk s (l.length : Int)) = some (.inr (fin s)))
    {n : Nat} {s : σ} (hI : I 0 s) (hn : l.length < n) : lpN body n (mk s 0) = some (fin (l.foldl step s)) ∧ I l.length (l.foldl step s) := by
  have := lp_list l mk step fin I hs he l.length 0 n s (by omega) hI hn
  simpa using this
/-- A loop by numbers below a bound. -/
theorem lp_upto {body : τ → Option (τ ⊕ ρ)} (N : Nat) (mk : σ → Int → τ) (step : σ → Nat → σ) (fin : σ → ρ) (I : Nat → σ → Prop)
    (hs : ∀ s i, i < N → I i s → body (mk s (i : Int)) = some (.inl (mk (step s i) ((i + 1 : Nat) : Int))) ∧ I (i + 1) (step s i)) (he : ∀ s, I N s → body (mk s (N : Int)) = some (.inr (fin s)))
    {n : Nat} {s : σ} (hI : I 0 s) (hn : N < n) : lpN body n (mk s 0) = some (fin ((List.range N).foldl step s)) ∧ I N ((List.range N).foldl step s) := by
  have := lp_list0 (List.range N) mk step fin I (fun s i x hx hI => by
    have hlt := (List.getElem?_eq_some_iff.1 hx).1
    have hx' : x = i := by rw [List.getElem?_eq_getElem hlt] at hx; simp at hx; exact hx.symm
    subst hx'
    exact hs s x (by simpa using hlt) hI) (by simpa using he) hI (by simpa using hn)
  simpa using this
end
theorem foldl_or (f : Nat → Nat) : ∀ (l : List Nat) (s i : Nat), (l.foldl (fun s k => s ||| f k) s).testBit i = true ↔ s.testBit i = true ∨ ∃ k ∈ l, (f k).testBit i = true
  | [], s, i => by simp
  | x :: l, s, i => by
    rw [List.foldl_cons, foldl_or f l, Nat.testBit_or, Bool.or_eq_true]
    simp only [List.mem_cons]
    constructor
    · rintro ((h | h) | ⟨k, hk, h⟩)
      · exact .inl h
      · exact .inr ⟨x, .inl rfl, h⟩
      · exact .inr ⟨k, .inr hk, h⟩
    · rintro (h | ⟨k, rfl | hk, h⟩)
      · exact .inl (.inl h)
      · exact .inl (.inr h)
      · exact .inr ⟨k, hk, h⟩
theorem foldl_or_lt (f : Nat → Nat) : ∀ (l : List Nat) (s : Nat), s < 2 ^ 64 → (∀ k ∈ l, f k < 2 ^ 64) → l.foldl (fun s k => s ||| f k) s < 2 ^ 64
  | [], s, h, _ => h
  | x :: l, s, h, hf => foldl_or_lt f l _ (or_lt' h (hf x (by simp))) fun k hk => hf k (by simp [hk])
end Go.Ab.W
end

section
/-
  Chapter 18, plain laws: what the graph's functions and the reference's compute: sets, neighbours, borders.
-/
namespace Go.Proofs.YtpclggcpobakhaaDoor
open Go Go.Ab Go.Ab.W

def adj (es : List (Int × Int)) (i j : Nat) : Prop := ((i : Int), (j : Int)) ∈ es ∨ ((j : Int), (i : Int)) ∈ es
theorem adj_symm {es : List (Int × Int)} {i j : Nat} (h : adj es i j) : adj es j i := h.symm
theorem okE_mem {N : Int} : ∀ {es : List (Int × Int)} {p : Int × Int}, okEp N p es = true → ∀ e ∈ es, 0 ≤ e.1 ∧ e.1 < e.2 ∧ e.2 < N
  | [], _, _, e, he => by cases he
  | x :: es, p, h, e, he => by
    rw [okE_cons, Bool.and_eq_true] at h
    rcases List.mem_cons.1 he with rfl | he
    · simp only [stepOk, Bool.and_eq_true, decide_eq_true_eq] at h
      exact h.1.1
    · exact okE_mem h.2 e he
structure Okay (N : Nat) (es : List (Int × Int)) : Prop where
  pos : 1 ≤ N
  le : N ≤ 64
  len : es.length ≤ 200
  mem : ∀ e ∈ es, ∃ a b : Nat, e = ((a : Int), (b : Int)) ∧ a < b ∧ b < N
theorem okay_of {N : Int} {es : List (Int × Int)} (h : okG N es = true) : ∃ M : Nat, N = (M : Int) ∧ Okay M es := by
  simp only [okG, Bool.and_eq_true, decide_eq_true_eq] at h
  obtain ⟨⟨h1, h2, h3⟩, h4⟩ := h
  obtain ⟨M, rfl⟩ := Int.eq_ofNat_of_zero_le (show 0 ≤ N by omega)
  refine ⟨M, rfl, by omega, by omega, h3, fun e he => ?_⟩
  obtain ⟨g1, g2, g3⟩ := okE_mem h4 e he
  obtain ⟨a, b⟩ := e
  obtain ⟨a, rfl⟩ := Int.eq_ofNat_of_zero_le (show 0 ≤ a from g1)
  obtain ⟨b, rfl⟩ := Int.eq_ofNat_of_zero_le (show 0 ≤ b by simp only at g1 g2; omega)
  exact ⟨a, b, rfl, by simp only at g2; omega, by simp only at g3; omega⟩
theorem Okay.adj {N : Nat} {es : List (Int × Int)} (h : Okay N es) {i j : Nat} (ha : adj es i j) : i < N ∧ j < N ∧ i ≠ j := by
  rcases ha with ha | ha
  · obtain ⟨a, b, e, h1, h2⟩ := h.mem _ ha
    simp only [Prod.mk.injEq, Int.natCast_inj] at e
    omega
  · obtain ⟨a, b, e, h1, h2⟩ := h.mem _ ha
    simp only [Prod.mk.injEq, Int.natCast_inj] at e
    omega

/-! ### Lengths of words, errors -/
def bl (x : Nat) : Nat := if x = 0 then 0 else Nat.log2 x + 1
theorem lt_bl {x k : Nat} : k < bl x ↔ 2 ^ k ≤ x := by
  unfold bl
  by_cases h : x = 0
  · subst h
    rw [if_pos rfl]
    have := Nat.two_pow_pos k
    omega
  · rw [if_neg h, Nat.lt_succ_iff, Nat.le_log2 h]
theorem bl_unique {x m : Nat} (h : ∀ k, k < m ↔ 2 ^ k ≤ x) : m = bl x := by
  rcases Nat.lt_trichotomy m (bl x) with h1 | h1 | h1
  · have := (h m).2 (lt_bl.1 h1); omega
  · exact h1
  · have := lt_bl.2 ((h (bl x)).1 h1); omega
theorem bl_shift {x s : Nat} (h : 2 ^ s ≤ x) : bl (x >>> s) + s = bl x := by
  refine bl_unique fun k => ?_
  rw [Nat.shiftRight_eq_div_pow]
  by_cases hk : k < s
  · have : 2 ^ k ≤ 2 ^ s := Nat.pow_le_pow_right (by decide) (by omega)
    constructor
    · intro _; omega
    · intro _; omega
  · obtain ⟨d, rfl⟩ : ∃ d, k = d + s := ⟨k - s, by omega⟩
    have h1 := lt_bl (x := x / 2 ^ s) (k := d)
    have h2 : 2 ^ (d + s) ≤ x ↔ 2 ^ d ≤ x / 2 ^ s := by rw [Nat.pow_add, Nat.le_div_iff_mul_le (Nat.two_pow_pos s)]
    rw [h2, ← h1]; omega
theorem tab_bl : ∀ y : Fin 256, tab256_482390[y.val]? = some (bl y.val) := by decide +kernel
theorem bl_le {x s : Nat} (h : x < 2 ^ s) : bl x ≤ s := by
  rcases Nat.lt_or_ge s (bl x) with h1 | h1
  · have := lt_bl.1 h1; omega
  · exact h1
theorem len_step (s y m : Nat) (hs : s ≤ 32) (hy : y < 2 ^ (2 * s)) (hm : m ≤ 64) : ∃ y' m' : Nat, br (decide (2 ^ s ≤ y)) (some (ushr .u64 y s, IntKind.wrap .i64 ((m : Int) + (s : Int)))) (some (y, (m : Int))) = some (y', (m' : Int)) ∧ y' < 2 ^ s ∧ bl y' + m' = bl y + m ∧ m' ≤ m + s := by
  by_cases h : 2 ^ s ≤ y
  · refine ⟨y >>> s, m + s, ?_, ?_, ?_, Nat.le_refl _⟩
    · rw [br_dt h, word_shr (by omega), wrap_in (by omega) (by omega)]; rfl
    · rw [Nat.shiftRight_eq_div_pow, Nat.div_lt_iff_lt_mul (Nat.two_pow_pos s), ← Nat.pow_add]
      rw [Nat.two_mul] at hy; exact hy
    · have := bl_shift h; omega
  · exact ⟨y, m, br_df h _ _, by omega, rfl, by omega⟩
theorem F51_eq (n x : Nat) (hx : x < 2 ^ 64) : F51 n x = some ((bl x : Nat) : Int) := by
  unfold F51
  obtain ⟨y1, m1, e1, h1, b1, g1⟩ := len_step 32 x 0 (by omega) hx (by omega)
  have e1' : br (decide (4294967296 ≤ x)) (some (ushr .u64 x 32, (32 : Int))) (some (x, 0)) = some (y1, (m1 : Int)) := e1
  rw [e1', ob_s]
  obtain ⟨y2, m2, e2, h2, b2, g2⟩ := len_step 16 y1 m1 (by omega) h1 (by omega)
  have e2' : br (decide (65536 ≤ y1)) (some (ushr .u64 y1 16, IntKind.wrap .i64 ((m1 : Int) + 16))) (some (y1, (m1 : Int))) = some (y2, (m2 : Int)) := e2
  simp only [e2', ob_s]
  obtain ⟨y3, m3, e3, h3, b3, g3⟩ := len_step 8 y2 m2 (by omega) h2 (by omega)
  have e3' : br (decide (256 ≤ y2)) (some (ushr .u64 y2 8, IntKind.wrap .i64 ((m2 : Int) + 8))) (some (y2, (m2 : Int))) = some (y3, (m3 : Int)) := e3
  simp only [e3', ob_s]
  have h3 : y3 < 256 := h3
  have e : uw .u8 y3 = y3 := Nat.mod_eq_of_lt h3
  have h8 : bl y3 ≤ 8 := bl_le h3
  have ht : tab256_482390[y3]? = some (bl y3) := tab_bl ⟨y3, h3⟩
  have w1 : IntKind.wrap .i64 ((bl y3 : Nat) : Int) = ((bl y3 : Nat) : Int) := wrap_in (by omega) (by omega)
  rw [e, inB_nat h3, gd_t, Int.toNat_natCast, ht, ob_s, w1, wrap_in (by omega) (by omega)]
  simp only [Option.some.injEq]; omega
theorem F42_eq {n x : Nat} (h : x < 2 ^ 64) : F42 n x = some ((tz x : Nat) : Int) := by unfold F42; rw [decide_eq_true h, gd_t]
/-- What is wrong with a graph and a set. -/
def ckF (N : Int) (es : List (Int × Int)) (x : Nat) : Int := if okG N es then (if 2 ^ N.toNat ≤ x then 2 else 0) else 180
theorem F55_eq (n : Nat) (N : Int) (es : List (Int × Int)) (x : Nat) (hx : x < 2 ^ 64) (hn : 2 < n) (hl : es.length < 4611686018427387904) (hk : es.length < n) : F55 n N es x = some (ckF N es x) := by
  unfold F55 ckF
  rw [F23_eq n N es hn hl hk, ob_s]
  unfold ckG
  by_cases h : okG N es = true
  · obtain ⟨M, rfl, hM⟩ := okay_of h
    rw [if_pos h, if_pos h]
    simp only [decide_true, Bool.not_true, br_f, F51_eq n x hx, ob_s, Int.toNat_natCast]
    by_cases h2 : 2 ^ M ≤ x
    · have := lt_bl.2 h2
      rw [if_pos h2, br_dt (by omega)]
    · have : ¬ M < bl x := fun h => h2 (lt_bl.1 h)
      rw [if_neg h2, br_df (by omega)]
  · rw [if_neg h, if_neg h]; rfl
theorem F66_eq (n : Nat) (N : Int) (es : List (Int × Int)) (x : Nat) (hx : x < 2 ^ 64) (hl : es.length < 4611686018427387904) (hk : es.length < n) : F66 n N es x = some (ckF N es x) := by
  unfold F66 ckF
  rw [F43_eq n N es hl hk, ob_s]
  unfold ckG
  by_cases h : okG N es = true
  · obtain ⟨M, rfl, hM⟩ := okay_of h
    rw [if_pos h, if_pos h]
    simp only [decide_true, Bool.not_true, br_f, Int.toNat_natCast]
    by_cases h64 : M < 64
    · have hu : ui .u64 (M : Int) = M := (ui_nn (by omega) (by omega)).trans (Int.toNat_natCast M)
      rw [br_dt (by omega), ob_s, hu, word_shr (by omega), Nat.shiftRight_eq_div_pow]
      by_cases h2 : 2 ^ M ≤ x
      · have : 0 < x / 2 ^ M := Nat.div_pos h2 (Nat.two_pow_pos _)
        rw [if_pos h2, decide_eq_false (by omega)]; rfl
      · have : x / 2 ^ M = 0 := Nat.div_eq_of_lt (by omega)
        rw [if_neg h2, decide_eq_true this]; rfl
    · have hM64 : M = 64 := by have := hM.le; omega
      subst hM64
      rw [br_df (by omega), ob_s, if_neg (by omega)]; rfl
  · rw [if_neg h, if_neg h]; rfl
/-- A set that fits. -/
theorem ckF_ok {N : Int} {es : List (Int × Int)} {x : Nat} (h : ckF N es x = 0) : ∃ M : Nat, N = (M : Int) ∧ Okay M es ∧ x < 2 ^ M := by
  unfold ckF at h
  split at h
  · rename_i hk
    obtain ⟨M, rfl, hM⟩ := okay_of hk
    split at h
    · cases h
    · rename_i h2
      rw [Int.toNat_natCast] at h2
      exact ⟨M, rfl, hM, by omega⟩
  · cases h
theorem F67_eq (n x i : Nat) (hx : x < 2 ^ 64) (hi : i < 64) : F67 n x ((i : Nat) : Int) = some (x.testBit i) := by
  unfold F67
  rw [ui_nn (by omega) (by omega), Int.toNat_natCast, bit_at hx (by omega)]
theorem F57_eq (n x i : Nat) (hx : x < 2 ^ 64) (hi : i < 64) : F57 n x ((i : Nat) : Int) = some (x.testBit i) := by
  unfold F57
  rw [decide_eq_true (show (0 : Int) ≤ (i : Int) by omega), gd_t, Int.toNat_natCast, bit_at hx (by omega)]
theorem F68_eq (n i : Nat) (hi : i < 64) : F68 n ((i : Nat) : Int) = some (2 ^ i) := by
  unfold F68
  rw [ui_nn (by omega) (by omega), Int.toNat_natCast, word_one hi]
theorem lt64 {x N : Nat} (h : x < 2 ^ N) (hN : N ≤ 64) : x < 2 ^ 64 := Nat.lt_of_lt_of_le h (Nat.pow_le_pow_right (by decide) hN)
theorem tb_ltN {x N i : Nat} (h : x < 2 ^ N) (hi : x.testBit i = true) : i < N := by
  rcases Nat.lt_or_ge i N with h1 | h1
  · exact h1
  · rw [Nat.testBit_lt_two_pow (Nat.lt_of_lt_of_le h (Nat.pow_le_pow_right (by decide) h1))] at hi; cases hi

/-! ### The neighbours of each node -/
def addA (L : List Nat) (e : Int × Int) : List Nat :=
  let L1 := L.set e.1.toNat (L.getD e.1.toNat 0 ||| 2 ^ e.2.toNat)
  L1.set e.2.toNat (L1.getD e.2.toNat 0 ||| 2 ^ e.1.toNat)
def AroundOk (N : Nat) (es : List (Int × Int)) (L : List Nat) : Prop := L.length = N ∧ ∀ k, k < N → ∃ w, L[k]? = some w ∧ w < 2 ^ 64 ∧ ∀ i, w.testBit i = true ↔ adj es k i
theorem adj_snoc {es : List (Int × Int)} {a b k i : Nat} : adj (es ++ [((a : Int), (b : Int))]) k i ↔ adj es k i ∨ (k = a ∧ i = b) ∨ (k = b ∧ i = a) := by
  unfold adj
  simp only [List.mem_append, List.mem_singleton, Prod.mk.injEq, Int.natCast_inj]
  constructor
  · rintro ((h | h) | (h | h))
    · exact .inl (.inl h)
    · exact .inr (.inl h)
    · exact .inl (.inr h)
    · exact .inr (.inr ⟨h.2, h.1⟩)
  · rintro ((h | h) | (h | h))
    · exact .inl (.inl h)
    · exact .inr (.inl h)
    · exact .inl (.inr h)
    · exact .inr (.inr ⟨h.2, h.1⟩)
theorem around_step {N : Nat} {es : List (Int × Int)} {L : List Nat} (h : AroundOk N es L) {a b : Nat} (hab : a < b) (hb : b < N) (hN : N ≤ 64) : AroundOk N (es ++ [((a : Int), (b : Int))]) (addA L ((a : Int), (b : Int))) := by
  obtain ⟨hl, hw⟩ := h
  obtain ⟨wa, ha1, ha2, ha3⟩ := hw a (by omega)
  obtain ⟨wb, hb1, hb2, hb3⟩ := hw b hb
  have e1 : L.getD a 0 = wa := by simp [List.getD, ha1]
  have hset : (L.set a (wa ||| 2 ^ b))[b]? = some wb := by rw [List.getElem?_set_ne (by omega)]; exact hb1
  have e2 : (L.set a (wa ||| 2 ^ b)).getD b 0 = wb := by simp only [List.getD, hset]; rfl
  unfold addA
  simp only [Int.toNat_natCast, e1, e2]
  refine ⟨by simp [hl], fun k hk => ?_⟩
  by_cases hkb : k = b
  · subst hkb
    refine ⟨wb ||| 2 ^ a, by rw [List.getElem?_set_self (by simp [hl]; exact hk)], or_lt' hb2 (one_lt (by omega)), fun i => ?_⟩
    rw [Nat.testBit_or, Bool.or_eq_true, hb3, tb_one, decide_eq_true_eq, adj_snoc]
    constructor
    · rintro (h | h)
      · exact .inl h
      · exact .inr (.inr ⟨rfl, h⟩)
    · rintro (h | ⟨h, _⟩ | ⟨_, h⟩)
      · exact .inl h
      · omega
      · exact .inr h
  · by_cases hka : k = a
    · subst hka
      refine ⟨wa ||| 2 ^ b, by rw [List.getElem?_set_ne (by omega), List.getElem?_set_self (by simp [hl]; exact hk)], or_lt' ha2 (one_lt (by omega)), fun i => ?_⟩
      rw [Nat.testBit_or, Bool.or_eq_true, ha3, tb_one, decide_eq_true_eq, adj_snoc]
      constructor
      · rintro (h | h)
        · exact .inl h
        · exact .inr (.inl ⟨rfl, h⟩)
      · rintro (h | ⟨_, h⟩ | ⟨h, _⟩)
        · exact .inl h
        · exact .inr h
        · omega
    · obtain ⟨w, h1, h2, h3⟩ := hw k hk
      refine ⟨w, by rw [List.getElem?_set_ne (by omega), List.getElem?_set_ne (by omega)]; exact h1, h2, fun i => ?_⟩
      rw [h3, adj_snoc]
      constructor
      · exact .inl
      · rintro (h | ⟨h, _⟩ | ⟨h, _⟩)
        · exact h
        · omega
        · omega
theorem F75_eq (n N : Nat) (es : List (Int × Int)) (h : Okay N es) (hn : 200 < n) : ∃ L, F75 n (N : Int) es = some L ∧ AroundOk N es L := by
  have hN := h.le
  have hlen := h.len
  unfold F75
  rw [decide_eq_true (show (0 : Int) ≤ (N : Int) by omega), gd_t, Int.toNat_natCast, lim_of (by omega), gd_t]
  have := lp_list0 (body := L75_1 n es (N : Int)) es (fun (L : List Nat) (v : Int) => (L, v)) addA id (fun i L => AroundOk N (es.take i) L) (fun L i x hx hI => ?_) (fun L _ => ?_) (n := n) (s := List.replicate N 0) ⟨by simp, fun k hk => ⟨0, by simp [hk], by decide, fun i => by simp [adj]⟩⟩ (by omega)
  · obtain ⟨h1, h2⟩ := this
    rw [h1, ob_s]
    rw [List.take_length] at h2
    exact ⟨_, rfl, h2⟩
  · have hi : i < es.length := (List.getElem?_eq_some_iff.1 hx).1
    obtain ⟨a, b, rfl, hab, hbN⟩ := h.mem x (List.mem_of_getElem? hx)
    have hstep := around_step hI hab hbN hN
    have htk : es.take (i + 1) = es.take i ++ [((a : Int), (b : Int))] := by rw [List.take_add_one, hx]; rfl
    obtain ⟨hl, hw⟩ := hI
    obtain ⟨wa, ha1, ha2, ha3⟩ := hw a (by omega)
    obtain ⟨wb, hb1, hb2, hb3⟩ := hw b hbN
    have e1 : L.getD a 0 = wa := by simp [List.getD, ha1]
    have hset : (L.set a (wa ||| 2 ^ b))[b]? = some wb := by rw [List.getElem?_set_ne (by omega)]; exact hb1
    have e2 : (L.set a (wa ||| 2 ^ b)).getD b 0 = wb := by simp only [List.getD, hset]; rfl
    refine ⟨?_, by rw [htk]; exact hstep⟩
    simp only [L75_1, Int.toNat_natCast, hx, ob_s, ha1, word_one (show b < 64 by omega), word_one (show a < 64 by omega), inB_nat hi, inB_nat (show a < N by omega), inB_nat hbN, gd_t, word_or ha2 (one_lt (show b < 64 by omega)), hset, word_or hb2 (one_lt (show a < 64 by omega)), wrap_succ (show i < 4611686018427387904 by omega), addA, e1, e2]
    rw [br_dt (by omega), decide_eq_true (show (0 : Int) ≤ (b : Int) by omega), gd_t, decide_eq_true (show (0 : Int) ≤ (a : Int) by omega), gd_t]
  · simp only [L75_1]
    rw [br_df (by omega)]; rfl

/-! ### The neighbours of a set -/
def nbP (es : List (Int × Int)) (x i : Nat) : Prop := (∃ k, x.testBit k = true ∧ adj es k i) ∧ x.testBit i = false
theorem F56_eq (n N : Nat) (es : List (Int × Int)) (x : Nat) (h : Okay N es) (hx : x < 2 ^ N) (hn : 200 < n) : ∃ w, F56 n (N : Int) es x = some w ∧ w < 2 ^ 64 ∧ ∀ i, w.testBit i = true ↔ nbP es x i := by
  have hx64 := lt64 hx h.le
  obtain ⟨L, hL, hlen, hw⟩ := F75_eq n N es h hn
  unfold F56
  rw [hL, ob_s, ob_s]
  have hat : ∀ k, x.testBit k = true → ∃ w, L[k]? = some w ∧ L.getD k 0 = w ∧ w < 2 ^ 64 ∧ ∀ i, w.testBit i = true ↔ adj es k i := fun k hk => by
    obtain ⟨w, h1, h2, h3⟩ := hw k (tb_ltN hx hk)
    exact ⟨w, h1, by simp [List.getD, h1], h2, h3⟩
  have := lp_bits (body := L56_1 n L) (fun (r s : Nat) => (r, s)) (fun s k => s ||| L.getD k 0) id (fun s => s < 2 ^ 64) x (fun r s h0 hr hb hs => ?_) (fun s _ => ?_) n x 0 hx64 (fun i hi => hi) (by decide) (by have := bitsOf_len x; omega)
  · simp only [this, ob_s, id_eq]
    have hlt := foldl_or_lt (fun k => L.getD k 0) (bitsOf x) 0 (by decide) fun k hk => by
      obtain ⟨w, _, h2, h3, _⟩ := hat k ((mem_bitsOf hx64).1 hk)
      rw [h2]; exact h3
    refine ⟨_, rfl, andn_lt hlt hx64, fun i => ?_⟩
    rw [tb_andn hlt hx64, Bool.and_eq_true, foldl_or, nbP]
    simp only [Nat.zero_testBit, Bool.false_eq_true, false_or, Bool.not_eq_true', mem_bitsOf hx64]
    constructor
    · rintro ⟨⟨k, hk, h1⟩, h2⟩
      obtain ⟨w, _, e, _, h3⟩ := hat k hk
      rw [e] at h1
      exact ⟨⟨k, hk, (h3 i).1 h1⟩, h2⟩
    · rintro ⟨⟨k, hk, h1⟩, h2⟩
      obtain ⟨w, _, e, _, h3⟩ := hat k hk
      exact ⟨⟨k, hk, by rw [e]; exact (h3 i).2 h1⟩, h2⟩
  · obtain ⟨w, h1, h2, h3, h4⟩ := hat _ hb
    have hkN := tb_ltN hx hb
    refine ⟨?_, by rw [h2]; exact or_lt' hs h3⟩
    simp only [L56_1, F42_eq hr, ob_s, Int.toNat_natCast, h1, h2, word_or hs h3]
    rw [show (!decide (r = 0)) = true by simp; omega, br_t, inB_nat (by omega), gd_t]
    rfl
  · simp only [L56_1]
    rfl
theorem nb_mem {N : Nat} {es : List (Int × Int)} (h : Okay N es) {x i : Nat} : nbP es x i ↔ ∃ a b : Nat, ((a : Int), (b : Int)) ∈ es ∧ ((x.testBit a = true ∧ x.testBit b = false ∧ i = b) ∨ (x.testBit b = true ∧ x.testBit a = false ∧ i = a)) := by
  unfold nbP adj
  constructor
  · rintro ⟨⟨k, hk, h1 | h1⟩, h2⟩
    · exact ⟨k, i, h1, .inl ⟨hk, h2, rfl⟩⟩
    · exact ⟨i, k, h1, .inr ⟨hk, h2, rfl⟩⟩
  · rintro ⟨a, b, hm, ⟨h1, h2, rfl⟩ | ⟨h1, h2, rfl⟩⟩
    · exact ⟨⟨a, h1, .inl hm⟩, h2⟩
    · exact ⟨⟨b, h1, .inr hm⟩, h2⟩
theorem F30_body (n : Nat) (es : List (Int × Int)) (x : Nat) (v i a b : Nat) (hx : x < 2 ^ 64) (hv : v < 2 ^ 64) (he : es[i]? = some ((a : Int), (b : Int))) (ha : a < 64) (hb : b < 64) (hi : i < 4611686018427387904) :
    L30_1 n es x (v, (i : Int)) = some (.inl ((let v1 := if x.testBit a && !x.testBit b then v ||| 2 ^ b else v; if x.testBit b && !x.testBit a then v1 ||| 2 ^ a else v1), ((i + 1 : Nat) : Int))) := by
  have hlt : i < es.length := (List.getElem?_eq_some_iff.1 he).1
  have h1 : ∀ u, u < 2 ^ 64 → uw .u64 (uw .u64 u ||| uw .u64 (2 ^ b)) = u ||| 2 ^ b := fun u hu => word_or hu (one_lt hb)
  have h2 : ∀ u, u < 2 ^ 64 → uw .u64 (uw .u64 u ||| uw .u64 (2 ^ a)) = u ||| 2 ^ a := fun u hu => word_or hu (one_lt ha)
  have hvb : v ||| 2 ^ b < 2 ^ 64 := or_lt' hv (one_lt hb)
  unfold L30_1
  simp only [Int.toNat_natCast, he, ob_s, F67_eq n x a hx ha, F67_eq n x b hx hb, F68_eq n a ha, F68_eq n b hb, inB_nat hlt, gd_t, wrap_succ hi]
  rw [br_dt (by omega)]
  cases x.testBit a <;> cases x.testBit b <;> simp only [br_t, br_f, ob_s, Bool.not_true, Bool.not_false, Bool.and_self, Bool.and_true, Bool.and_false, Bool.true_and, Bool.false_and, if_true, Bool.false_eq_true, if_false, h1 v hv, h2 v hv]
theorem F30_nb (n N : Nat) (es : List (Int × Int)) (x : Nat) (h : Okay N es) (hx : x < 2 ^ N) (hn : 200 < n) : ∃ w, lpN (L30_1 n es x) n (0, 0) = some w ∧ w < 2 ^ 64 ∧ ∀ i, w.testBit i = true ↔ nbP es x i := by
  have hx64 := lt64 hx h.le
  have hN := h.le
  have hlen := h.len
  have := lp_list0 (body := L30_1 n es x) es (fun (s : Nat) (v : Int) => (s, v)) (fun v e => (let v1 := if x.testBit e.1.toNat && !x.testBit e.2.toNat then v ||| 2 ^ e.2.toNat else v; if x.testBit e.2.toNat && !x.testBit e.1.toNat then v1 ||| 2 ^ e.1.toNat else v1)) id
    (fun k s => s < 2 ^ 64 ∧ ∀ i, s.testBit i = true ↔ ∃ a b : Nat, ((a : Int), (b : Int)) ∈ es.take k ∧ ((x.testBit a = true ∧ x.testBit b = false ∧ i = b) ∨ (x.testBit b = true ∧ x.testBit a = false ∧ i = a))) (fun s k e he hI => ?_) (fun s _ => ?_) (n := n) (s := 0) ⟨by decide, fun i => by simp⟩ (by omega)
  · obtain ⟨h1, h2, h3⟩ := this
    rw [List.take_length] at h3
    exact ⟨_, h1, h2, fun i => (h3 i).trans (nb_mem h).symm⟩
  · have hi : k < es.length := (List.getElem?_eq_some_iff.1 he).1
    obtain ⟨a, b, rfl, hab, hbN⟩ := h.mem e (List.mem_of_getElem? he)
    have htk : es.take (k + 1) = es.take k ++ [((a : Int), (b : Int))] := by rw [List.take_add_one, he]; rfl
    obtain ⟨hs, hb⟩ := hI
    simp only [Int.toNat_natCast]
    refine ⟨F30_body n es x s k a b hx64 hs he (by omega) (by omega) (by omega), ?_, fun i => ?_⟩
    · cases x.testBit a <;> cases x.testBit b <;> simp only [Bool.not_true, Bool.not_false, Bool.and_self, Bool.and_true, Bool.and_false, if_true, Bool.false_eq_true, if_false]
      · exact hs
      · exact or_lt' hs (one_lt (by omega))
      · exact or_lt' hs (one_lt (by omega))
      · exact hs
    · rw [htk]
      simp only [List.mem_append, List.mem_singleton, Prod.mk.injEq, Int.natCast_inj]
      have key : (∃ a' b' : Nat, (((a' : Int), (b' : Int)) ∈ es.take k ∨ (a' = a ∧ b' = b)) ∧ ((x.testBit a' = true ∧ x.testBit b' = false ∧ i = b') ∨ (x.testBit b' = true ∧ x.testBit a' = false ∧ i = a'))) ↔ s.testBit i = true ∨ ((x.testBit a = true ∧ x.testBit b = false ∧ i = b) ∨ (x.testBit b = true ∧ x.testBit a = false ∧ i = a)) := by
        rw [hb i]
        constructor
        · rintro ⟨a', b', h1 | ⟨rfl, rfl⟩, h2⟩
          · exact .inl ⟨a', b', h1, h2⟩
          · exact .inr h2
        · rintro (⟨a', b', h1, h2⟩ | h2)
          · exact ⟨a', b', .inl h1, h2⟩
          · exact ⟨a, b, .inr ⟨rfl, rfl⟩, h2⟩
      rw [key]
      cases x.testBit a <;> cases x.testBit b <;> simp [Nat.testBit_or, tb_one]
  · simp only [L30_1]
    rw [br_df (by omega)]; rfl
/-- Neighbours: both. -/
theorem nb_both (n : Nat) (N : Int) (es : List (Int × Int)) (x : Nat) (hx : x < 2 ^ 64) (hn : 200 < n) (hl : es.length < 4611686018427387904) (hk : es.length < n) :
    ∃ w, F14 n N es x = some (w, ckF N es x) ∧ F30 n N es x = some (w, ckF N es x) ∧ (ckF N es x = 0 → w < 2 ^ 64 ∧ ∀ i, w.testBit i = true ↔ nbP es x i) := by
  unfold F14 F30
  rw [F55_eq n N es x hx (by omega) hl hk, F66_eq n N es x hx hl hk, ob_s, ob_s]
  by_cases h : ckF N es x = 0
  · obtain ⟨M, rfl, hM, hxM⟩ := ckF_ok h
    obtain ⟨w1, h1, g1, e1⟩ := F56_eq n M es x hM hxM hn
    obtain ⟨w2, h2, g2, e2⟩ := F30_nb n M es x hM hxM hn
    have : w1 = w2 := word_ext fun i => by rw [e1, e2]
    subst this
    refine ⟨w1, ?_, ?_, fun _ => ⟨g1, e1⟩⟩
    · rw [h, decide_eq_true rfl, Bool.not_true, br_f, h1, ob_s]
    · rw [h, decide_eq_true rfl, Bool.not_true, br_f, h2, ob_s]
  · refine ⟨0, ?_, ?_, fun h' => absurd h' h⟩
    · rw [decide_eq_false h, Bool.not_false, br_t]
    · rw [decide_eq_false h, Bool.not_false, br_t]

/-! ### The border of a set -/
def cross (x : Nat) (e : Int × Int) : Bool := !(x.testBit e.1.toNat == x.testBit e.2.toNat)
theorem border_loop {n N : Nat} {es : List (Int × Int)} {x : Nat} (h : Okay N es) (body : (List (Int × Int) × Int) → Option ((List (Int × Int) × Int) ⊕ (List (Int × Int))))
    (hb : ∀ (s : List (Int × Int)) (k a b : Nat), es[k]? = some ((a : Int), (b : Int)) → a < 64 → b < 64 → s.length ≤ k → k < 200 → body (s, (k : Int)) = some (.inl ((if cross x ((a : Int), (b : Int)) then s ++ [((a : Int), (b : Int))] else s), ((k + 1 : Nat) : Int)))) (he : ∀ s, body (s, (es.length : Int)) = some (.inr s)) (hn : 200 < n) :
    lpN body n ([], 0) = some (es.filter (cross x)) := by
  have hN := h.le
  have hlen := h.len
  have := lp_list0 (body := body) es (fun (s : List (Int × Int)) (v : Int) => (s, v)) (fun s e => if cross x e then s ++ [e] else s) id (fun k s => s.length ≤ k ∧ s = (es.take k).filter (cross x)) (fun s k e he' hI => ?_) (fun s _ => he s) (n := n) (s := []) ⟨by simp, by simp⟩ (by omega)
  · obtain ⟨h1, h2, h3⟩ := this
    rw [h1, h3, List.take_length]; rfl
  · have hi : k < es.length := (List.getElem?_eq_some_iff.1 he').1
    obtain ⟨a, b, rfl, hab, hbN⟩ := h.mem e (List.mem_of_getElem? he')
    have htk : es.take (k + 1) = es.take k ++ [((a : Int), (b : Int))] := by rw [List.take_add_one, he']; rfl
    refine ⟨hb s k a b he' (by omega) (by omega) hI.1 (by omega), ?_, ?_⟩
    · split
      · simp; have := hI.1; omega
      · have := hI.1; omega
    · rw [htk, List.filter_append, ← hI.2]
      by_cases hc : cross x ((a : Int), (b : Int)) = true
      · rw [if_pos hc, List.filter_cons_of_pos hc]; rfl
      · rw [if_neg hc, List.filter_cons_of_neg hc]; simp
theorem border_both (n : Nat) (N : Int) (es : List (Int × Int)) (x : Nat) (hx : x < 2 ^ 64) (hn : 200 < n) (hl : es.length < 4611686018427387904) (hk : es.length < n) :
    ∃ l, F15 n N es x = some (l, ckF N es x) ∧ F31 n N es x = some (l, ckF N es x) ∧ l.length ≤ 300 ∧ (ckF N es x = 0 → l = es.filter (cross x)) := by
  unfold F15 F31
  rw [F55_eq n N es x hx (by omega) hl hk, F66_eq n N es x hx hl hk, ob_s, ob_s]
  by_cases h : ckF N es x = 0
  · obtain ⟨M, rfl, hM, hxM⟩ := ckF_ok h
    have hlen := hM.len
    have h1 : lpN (L15_1 n es x) n ([], 0) = some (es.filter (cross x)) := border_loop hM _ (fun s k a b he ha hb hs hk => by
      have hi : k < es.length := (List.getElem?_eq_some_iff.1 he).1
      unfold L15_1
      simp only [Int.toNat_natCast, he, ob_s, F57_eq n x a hx ha, F57_eq n x b hx hb, inB_nat hi, gd_t, wrap_succ (show k < 4611686018427387904 by omega), cross]
      rw [br_dt (by omega)]
      rcases Bool.eq_false_or_eq_true (x.testBit a == x.testBit b) with hc | hc
      · simp only [hc, Bool.not_true, br_f, ob_s, Bool.false_eq_true, if_false]
      · simp only [hc, Bool.not_false, br_t, ob_s, if_true]
        rw [lim_of (by simp; omega), gd_t, ob_s]) (fun s => by
      unfold L15_1
      simp only
      rw [br_df (by omega)]) hn
    have h2 : lpN (L31_1 n es x) n ([], 0) = some (es.filter (cross x)) := border_loop hM _ (fun s k a b he ha hb hs hk => by
      have hi : k < es.length := (List.getElem?_eq_some_iff.1 he).1
      unfold L31_1
      simp only [Int.toNat_natCast, he, ob_s, F67_eq n x a hx ha, F67_eq n x b hx hb, inB_nat hi, gd_t, wrap_succ (show k < 4611686018427387904 by omega), cross]
      rw [br_dt (by omega)]
      rcases Bool.eq_false_or_eq_true (x.testBit a == x.testBit b) with hc | hc
      · simp only [hc, Bool.not_true, br_f, ob_s, Bool.false_eq_true, if_false]
      · simp only [hc, Bool.not_false, br_t, ob_s, if_true]
        rw [lim_of (by simp; omega), gd_t, ob_s]) (fun s => by
      unfold L31_1
      simp only
      rw [br_df (by omega)]) hn
    refine ⟨es.filter (cross x), ?_, ?_, Nat.le_trans (List.length_filter_le _ _) (by omega), fun _ => rfl⟩
    · rw [h, decide_eq_true rfl, Bool.not_true, br_f, h1, ob_s]
    · rw [h, decide_eq_true rfl, Bool.not_true, br_f, h2, ob_s]
  · refine ⟨[], ?_, ?_, by simp, fun h' => absurd h' h⟩
    · rw [decide_eq_false h, Bool.not_false, br_t]
    · rw [decide_eq_false h, Bool.not_false, br_t]
end Go.Proofs.YtpclggcpobakhaaDoor
end

section
/-
  Chapter 18, plain laws: components.
-/
namespace Go.Proofs.YtpclggcpobakhaaDoor
open Go Go.Ab Go.Ab.W

/-- What can be reached within a set. -/
inductive Rch (es : List (Int × Int)) (S : Nat) (i : Nat) : Nat → Prop
  | refl : Rch es S i i
  | step {j k : Nat} (h : Rch es S i j) (ha : adj es j k) (hk : S.testBit k = true) : Rch es S i k
theorem Rch.mem {es : List (Int × Int)} {S i j : Nat} (h : Rch es S i j) (hi : S.testBit i = true) : S.testBit j = true := by
  cases h with
  | refl => exact hi
  | step _ _ hk => exact hk
theorem Rch.trans {es : List (Int × Int)} {S i j k : Nat} (h : Rch es S i j) (h' : Rch es S j k) : Rch es S i k := by
  induction h' with
  | refl => exact h
  | step _ ha hk ih => exact .step ih ha hk
theorem Rch.symm {es : List (Int × Int)} {S i j : Nat} (h : Rch es S i j) (hi : S.testBit i = true) : Rch es S j i := by
  induction h with
  | refl => exact .refl
  | step h' ha _ ih => exact Rch.trans (.step .refl (adj_symm ha) (h'.mem hi)) ih
/-- A component, ars a word. -/
def IsCl (es : List (Int × Int)) (S i w : Nat) : Prop := w < 2 ^ 64 ∧ ∀ j, w.testBit j = true ↔ Rch es S i j
theorem IsCl.unique {es : List (Int × Int)} {S i w w' : Nat} (h : IsCl es S i w) (h' : IsCl es S i w') : w = w' := word_ext fun j => by rw [h.2, h'.2]
/-- What is closed, holds the start and holds nothing but what is reached is the component. -/
theorem IsCl.of {es : List (Int × Int)} {S i w : Nat} (hw : w < 2 ^ 64) (hi : w.testBit i = true) (hr : ∀ j, w.testBit j = true → Rch es S i j) (hc : ∀ j k, w.testBit j = true → adj es j k → S.testBit k = true → w.testBit k = true) : IsCl es S i w := by
  refine ⟨hw, fun j => ⟨hr j, fun h => ?_⟩⟩
  induction h with
  | refl => exact hi
  | step _ ha hk ih => exact hc _ _ ih ha hk
/-- The components of what is left, in order. -/
inductive Cs (es : List (Int × Int)) (S : Nat) : Nat → List Nat → Prop
  | nil : Cs es S 0 []
  | cons {r w : Nat} {L : List Nat} (h0 : 0 < r) (hr : r < 2 ^ 64) (hw : IsCl es S (tz r) w) (t : Cs es S (uandn .u64 r w) L) : Cs es S r (w :: L)
theorem Cs.unique {es : List (Int × Int)} {S : Nat} {L : List Nat} : ∀ {r : Nat} {L' : List Nat}, Cs es S r L → Cs es S r L' → L = L' := by
  intro r L' h
  induction h generalizing L' with
  | nil => intro h'; cases h' with
    | nil => rfl
    | cons h0 => exact absurd h0 (Nat.lt_irrefl 0)
  | cons h0 hr hw _ ih => intro h'; cases h' with
    | nil => exact absurd h0 (Nat.lt_irrefl 0)
    | cons _ _ hw' t' =>
      have := hw.unique hw'
      subst this
      rw [ih t']

/-! ### Counting bits -/
def cnt (x : Nat) : Nat := (bitsOf x).length
theorem filter_le {p q : Nat → Bool} : ∀ {l : List Nat}, (∀ i ∈ l, p i = true → q i = true) → (l.filter p).length ≤ (l.filter q).length
  | [], _ => Nat.le_refl _
  | x :: l, h => by
    have ih := filter_le (p := p) (q := q) (l := l) fun i hi => h i (by simp [hi])
    by_cases hp : p x = true
    · rw [List.filter_cons_of_pos hp, List.filter_cons_of_pos (h x (by simp) hp)]
      simp only [List.length_cons]; omega
    · rw [List.filter_cons_of_neg hp]
      by_cases hq : q x = true
      · rw [List.filter_cons_of_pos hq, List.length_cons]; omega
      · rw [List.filter_cons_of_neg hq]; exact ih
theorem filter_lt {p q : Nat → Bool} {a : Nat} : ∀ {l : List Nat}, a ∈ l → (∀ i ∈ l, p i = true → q i = true) → p a = false → q a = true → (l.filter p).length < (l.filter q).length
  | x :: l, ha, h, h1, h2 => by
    by_cases hx : x = a
    · subst hx
      rw [List.filter_cons_of_neg (by rw [h1]; decide), List.filter_cons_of_pos h2, List.length_cons]
      have := filter_le (p := p) (q := q) (l := l) fun i hi => h i (by simp [hi])
      omega
    · have ha' : a ∈ l := by
        rcases List.mem_cons.1 ha with e | e
        · exact absurd e.symm hx
        · exact e
      have ih := filter_lt ha' (fun i hi => h i (by simp [hi])) h1 h2
      by_cases hp : p x = true
      · rw [List.filter_cons_of_pos hp, List.filter_cons_of_pos (h x (by simp) hp)]
        simp only [List.length_cons]; omega
      · rw [List.filter_cons_of_neg hp]
        by_cases hq : q x = true
        · rw [List.filter_cons_of_pos hq, List.length_cons]; omega
        · rw [List.filter_cons_of_neg hq]; exact ih
theorem cnt_lt {a b i : Nat} (hb : b < 2 ^ 64) (h : ∀ i, a.testBit i = true → b.testBit i = true) (h1 : a.testBit i = false) (h2 : b.testBit i = true) : cnt a < cnt b :=
  filter_lt (by have := tb_lt hb h2; simpa using this) (fun i _ h' => h i h') h1 h2

/-! ### The program's components -/
theorem L58_1_eq (n N : Nat) (es : List (Int × Int)) (L : List Nat) (S p : Nat) (hL : AroundOk N es L) (hS : S < 2 ^ 64) (hp : p < 2 ^ N) (hN : N ≤ 64) (hn : 64 < n) :
    ∃ q, lpN (L58_1 n L S) n (p, p) = some q ∧ q < 2 ^ 64 ∧ ∀ i, q.testBit i = true ↔ p.testBit i = true ∨ ∃ k, p.testBit k = true ∧ adj es k i ∧ S.testBit i = true := by
  have hp64 := lt64 hp hN
  have hat : ∀ k, p.testBit k = true → ∃ w, L[k]? = some w ∧ L.getD k 0 = w ∧ w < 2 ^ 64 ∧ ∀ i, w.testBit i = true ↔ adj es k i := fun k hk => by
    obtain ⟨w, h1, h2, h3⟩ := hL.2 k (tb_ltN hp hk)
    exact ⟨w, h1, by simp [List.getD, h1], h2, h3⟩
  have := lp_bits (body := L58_1 n L S) (fun (r s : Nat) => (r, s)) (fun s k => s ||| (L.getD k 0 &&& S)) id (fun s => s < 2 ^ 64) p (fun r s h0 hr hb hs => ?_) (fun s _ => ?_) n p p hp64 (fun i hi => hi) hp64 (by have := bitsOf_len p; omega)
  · refine ⟨_, this, foldl_or_lt _ _ _ hp64 fun k hk => ?_, fun i => ?_⟩
    · obtain ⟨w, _, h2, h3, _⟩ := hat k ((mem_bitsOf hp64).1 hk)
      rw [h2]; exact and_lt' h3
    · rw [id_eq, foldl_or]
      simp only [mem_bitsOf hp64, Nat.testBit_and, Bool.and_eq_true]
      constructor
      · rintro (h | ⟨k, hk, h1, h2⟩)
        · exact .inl h
        · obtain ⟨w, _, e, _, h3⟩ := hat k hk
          rw [e] at h1
          exact .inr ⟨k, hk, (h3 i).1 h1, h2⟩
      · rintro (h | ⟨k, hk, h1, h2⟩)
        · exact .inl h
        · obtain ⟨w, _, e, _, h3⟩ := hat k hk
          exact .inr ⟨k, hk, by rw [e]; exact (h3 i).2 h1, h2⟩
  · obtain ⟨w, h1, h2, h3, h4⟩ := hat _ hb
    have hkN := tb_ltN hp hb
    refine ⟨?_, by rw [h2]; exact or_lt' hs (and_lt' h3)⟩
    have hlen := hL.1
    simp only [L58_1, F42_eq hr, ob_s, Int.toNat_natCast, h1, h2, word_and h3 hS, word_or hs (and_lt' (b := S) h3)]
    rw [show (!decide (r = 0)) = true by simp; omega, br_t, inB_nat (by omega), gd_t]
    rfl
  · simp only [L58_1]
    rfl
theorem L58_2_eq (n N : Nat) (es : List (Int × Int)) (L : List Nat) (S i : Nat) (hok : Okay N es) (hL : AroundOk N es L) (hS : S < 2 ^ N) (hi : S.testBit i = true) (hn : 64 < n) :
    ∀ (m p k : Nat), p < 2 ^ N → p.testBit i = true → (∀ j, p.testBit j = true → Rch es S i j) → 64 - cnt p < m → k = m → ∃ w, lpN (L58_2 n L S) k p = some w ∧ IsCl es S i w := by
  intro m
  have hN := hok.le
  have hS64 := lt64 hS hN
  induction m with
  | zero => intro p k _ _ _ h; exact absurd h (Nat.not_lt_zero _)
  | succ m ih =>
    rintro p k hp hpi hr hm rfl
    have hp64 := lt64 hp hN
    obtain ⟨q, h1, h2, h3⟩ := L58_1_eq n N es L S p hL hS64 hp hN hn
    have hbody : L58_2 n L S p = br (decide (q = p)) (some (.inr p)) (some (.inl q)) := by
      unfold L58_2
      rw [ob_s, h1, ob_s, ob_s]
    by_cases hq : q = p
    · rw [hq, decide_eq_true rfl, br_t] at hbody
      rw [hq] at h3
      exact ⟨p, lp_end hbody, IsCl.of hp64 hpi hr fun j k hj ha hk => (h3 k).2 (.inr ⟨j, hj, ha, hk⟩)⟩
    · rw [br_df hq] at hbody
      rw [lp_next hbody]
      have hsub : ∀ j, p.testBit j = true → q.testBit j = true := fun j hj => (h3 j).2 (.inl hj)
      have hqr : ∀ j, q.testBit j = true → Rch es S i j := fun j hj => by
        rcases (h3 j).1 hj with h | ⟨k, hk, ha, hs⟩
        · exact hr j h
        · exact .step (hr k hk) ha hs
      have hqN : q < 2 ^ N := by
        have : ∀ j, q.testBit j = true → S.testBit j = true := fun j hj => (hqr j hj).mem hi
        refine Nat.lt_pow_two_of_testBit q fun j hj => ?_
        cases e : q.testBit j with
        | false => rfl
        | true => have := tb_ltN hS (this j e); omega
      obtain ⟨j, hj1, hj2⟩ : ∃ j, p.testBit j = false ∧ q.testBit j = true := by
        apply Classical.byContradiction
        intro hno
        refine hq (word_ext fun j => ⟨fun hj => ?_, hsub j⟩)
        cases e : p.testBit j with
        | true => rfl
        | false => exact absurd ⟨j, e, hj⟩ hno
      have hc := cnt_lt h2 hsub hj1 hj2
      have hcl : cnt q ≤ 64 := bitsOf_len q
      exact ih q m hqN (hsub i hpi) hqr (by omega) rfl
theorem L58_3_eq (n N : Nat) (es : List (Int × Int)) (L : List Nat) (S : Nat) (hok : Okay N es) (hL : AroundOk N es L) (hS : S < 2 ^ N) (hn : 65 < n) :
    ∀ (m r k : Nat) (acc : List Nat), (∀ i, r.testBit i = true → S.testBit i = true) → r < 2 ^ 64 → cnt r < m → m ≤ k → acc.length + cnt r ≤ 64 → ∃ l, lpN (L58_3 n L S) k (acc, r) = some (acc ++ l) ∧ Cs es S r l ∧ l.length ≤ cnt r := by
  intro m
  have hN := hok.le
  induction m with
  | zero => intro r k acc _ _ h; exact absurd h (Nat.not_lt_zero _)
  | succ m ih =>
    intro r k acc hsub hr hm hk hacc
    obtain ⟨k, rfl⟩ : ∃ k', k = k' + 1 := ⟨k - 1, by omega⟩
    rcases Nat.eq_zero_or_pos r with h0 | h0
    · subst h0
      refine ⟨[], ?_, .nil, Nat.zero_le _⟩
      rw [List.append_nil]
      exact lp_end (by simp only [L58_3]; rfl)
    · obtain ⟨hb, _⟩ := tz_bit h0 hr
      have hSi := hsub _ hb
      have hiN := tb_ltN hS hSi
      obtain ⟨w, h1, hw⟩ := L58_2_eq n N es L S (tz r) hok hL hS hSi (by omega) n (2 ^ tz r) n (Nat.pow_lt_pow_right (by decide) hiN) (by rw [tb_one]; simp) (fun j hj => by
        rw [tb_one, decide_eq_true_eq] at hj; subst hj; exact .refl) (by omega) rfl
      have hwi : w.testBit (tz r) = true := (hw.2 _).2 .refl
      have hlt : cnt (uandn .u64 r w) < cnt r := cnt_lt (i := tz r) hr (fun i hi => by
        rw [tb_andn hr hw.1, Bool.and_eq_true] at hi; exact hi.1) (by rw [tb_andn hr hw.1, hwi]; simp) hb
      obtain ⟨l, h2, h3, h4⟩ := ih (uandn .u64 r w) k (acc ++ [w]) (fun i hi => by
        rw [tb_andn hr hw.1, Bool.and_eq_true] at hi; exact hsub i hi.1) (andn_lt hr hw.1) (by omega) (by omega) (by simp; omega)
      refine ⟨w :: l, ?_, .cons h0 hr hw h3, by simp; omega⟩
      rw [lp_next (s' := (acc ++ [w], uandn .u64 r w)) ?_, h2, List.append_assoc]; rfl
      simp only [L58_3]
      rw [show (!decide (r = 0)) = true by simp; omega, br_t, low_word h0 hr, h1, ob_s, lim_of (by simp; omega), gd_t]
theorem F58_eq (n N : Nat) (es : List (Int × Int)) (S : Nat) (hok : Okay N es) (hS : S < 2 ^ N) (hn : 200 < n) : ∃ l, F58 n (N : Int) es S = some l ∧ Cs es S S l ∧ l.length ≤ 64 := by
  obtain ⟨L, hL, hA⟩ := F75_eq n N es hok hn
  have hS64 := lt64 hS hok.le
  have hc : cnt S ≤ 64 := bitsOf_len S
  obtain ⟨l, h1, h2, h3⟩ := L58_3_eq n N es L S hok hA hS (by omega) (cnt S + 1) S n [] (fun i h => h) hS64 (by omega) (by omega) (by simpa using hc)
  refine ⟨l, ?_, h2, by omega⟩
  unfold F58
  rw [hL, ob_s, h1, ob_s]; rfl

/-! ### The reference's components -/
def rnd1 (S : Nat) (v : Nat) (e : Int × Int) : Nat := if S.testBit e.1.toNat && S.testBit e.2.toNat && (v.testBit e.1.toNat || v.testBit e.2.toNat) then v ||| 2 ^ e.1.toNat ||| 2 ^ e.2.toNat else v
theorem L71_body (n : Nat) (es : List (Int × Int)) (S v k a b : Nat) (hS : S < 2 ^ 64) (hv : v < 2 ^ 64) (he : es[k]? = some ((a : Int), (b : Int))) (ha : a < 64) (hb : b < 64) (hk : k < 200) :
    L71_1 n es (-1) S (v, (k : Int)) = some (.inl (rnd1 S v ((a : Int), (b : Int)), ((k + 1 : Nat) : Int))) := by
  have hlt : k < es.length := (List.getElem?_eq_some_iff.1 he).1
  have h1 : uw .u64 (uw .u64 (uw .u64 (uw .u64 v ||| uw .u64 (2 ^ a))) ||| uw .u64 (2 ^ b)) = v ||| 2 ^ a ||| 2 ^ b := by rw [word_or hv (one_lt ha), word_or (or_lt' hv (one_lt ha)) (one_lt hb)]
  have hne : (!decide ((k : Int) = -1)) = true := by rw [decide_eq_false (by omega)]; rfl
  unfold L71_1
  simp only [Int.toNat_natCast, he, ob_s, F67_eq n S a hS ha, F67_eq n S b hS hb, F67_eq n v a hv ha, F67_eq n v b hv hb, F68_eq n a ha, F68_eq n b hb, inB_nat hlt, gd_t, wrap_succ (show k < 4611686018427387904 by omega), hne, br_t, h1]
  rw [br_dt (by omega)]
  unfold rnd1
  simp only [Int.toNat_natCast]
  rcases Bool.eq_false_or_eq_true (S.testBit a) with e1 | e1 <;> rcases Bool.eq_false_or_eq_true (S.testBit b) with e2 | e2 <;> rcases Bool.eq_false_or_eq_true (v.testBit a) with e3 | e3 <;> rcases Bool.eq_false_or_eq_true (v.testBit b) with e4 | e4 <;>
    simp only [e1, e2, e3, e4, br_t, br_f, ob_s, Bool.and_self, Bool.and_true, Bool.and_false, Bool.true_and, Bool.or_self, Bool.or_true, Bool.or_false, Bool.true_or, if_true, Bool.false_eq_true, if_false]
theorem rnd1_lt {S v : Nat} {a b : Nat} (hv : v < 2 ^ 64) (ha : a < 64) (hb : b < 64) : rnd1 S v ((a : Int), (b : Int)) < 2 ^ 64 := by
  unfold rnd1
  simp only [Int.toNat_natCast]
  split
  · exact or_lt' (or_lt' hv (one_lt ha)) (one_lt hb)
  · exact hv
theorem rnd1_bit {S v a b i : Nat} : (rnd1 S v ((a : Int), (b : Int))).testBit i = true ↔ v.testBit i = true ∨ ((S.testBit a = true ∧ S.testBit b = true ∧ (v.testBit a = true ∨ v.testBit b = true)) ∧ (i = a ∨ i = b)) := by
  unfold rnd1
  simp only [Int.toNat_natCast]
  split
  · rename_i h
    simp only [Bool.and_eq_true, Bool.or_eq_true] at h
    rw [Nat.testBit_or, Nat.testBit_or, Bool.or_eq_true, Bool.or_eq_true, tb_one, tb_one, decide_eq_true_eq, decide_eq_true_eq]
    constructor
    · rintro ((h1 | h1) | h1)
      · exact .inl h1
      · exact .inr ⟨⟨h.1.1, h.1.2, h.2⟩, .inl h1⟩
      · exact .inr ⟨⟨h.1.1, h.1.2, h.2⟩, .inr h1⟩
    · rintro (h1 | ⟨_, h1 | h1⟩)
      · exact .inl (.inl h1)
      · exact .inl (.inr h1)
      · exact .inr h1
  · rename_i h
    constructor
    · exact .inl
    · rintro (h1 | ⟨⟨h1, h2, h3⟩, _⟩)
      · exact h1
      · exact absurd (by simp [h1, h2, h3]) h
/-- One round. -/
def rnd (es : List (Int × Int)) (S v : Nat) : Nat := es.foldl (rnd1 S) v
/-- Edges with both ends in a set. -/
def inn (es : List (Int × Int)) (v : Nat) : Nat := (es.filter fun e => v.testBit e.1.toNat && v.testBit e.2.toNat).length
theorem inn_le (es : List (Int × Int)) (v : Nat) : inn es v ≤ es.length := List.length_filter_le _ _
theorem rnd_sub {S : Nat} : ∀ {es : List (Int × Int)} {v i : Nat}, (∀ e ∈ es, ∃ a b : Nat, e = ((a : Int), (b : Int)) ∧ a < 64 ∧ b < 64) → v.testBit i = true → (es.foldl (rnd1 S) v).testBit i = true
  | [], _, _, _, h => h
  | e :: es, v, i, hm, h => by
    obtain ⟨a, b, rfl, _, _⟩ := hm e (by simp)
    rw [List.foldl_cons]
    exact rnd_sub (fun e he => hm e (by simp [he])) (rnd1_bit.2 (.inl h))
theorem rnd_lt {S : Nat} : ∀ {es : List (Int × Int)} {v : Nat}, (∀ e ∈ es, ∃ a b : Nat, e = ((a : Int), (b : Int)) ∧ a < 64 ∧ b < 64) → v < 2 ^ 64 → es.foldl (rnd1 S) v < 2 ^ 64
  | [], _, _, h => h
  | e :: es, v, hm, h => by
    obtain ⟨a, b, rfl, ha, hb⟩ := hm e (by simp)
    rw [List.foldl_cons]
    exact rnd_lt (fun e he => hm e (by simp [he])) (rnd1_lt h ha hb)
theorem rnd_rch {es0 : List (Int × Int)} {S i : Nat} : ∀ {es : List (Int × Int)} {v : Nat}, (∀ e ∈ es, e ∈ es0 ∧ ∃ a b : Nat, e = ((a : Int), (b : Int)) ∧ a < 64 ∧ b < 64) → (∀ j, v.testBit j = true → Rch es0 S i j) → ∀ j, (es.foldl (rnd1 S) v).testBit j = true → Rch es0 S i j
  | [], _, _, h, j, hj => h j hj
  | e :: es, v, hm, h, j, hj => by
    obtain ⟨hin, a, b, rfl, ha, hb⟩ := hm e (by simp)
    rw [List.foldl_cons] at hj
    refine rnd_rch (fun e he => hm e (by simp [he])) (fun k hk => ?_) j hj
    rcases rnd1_bit.1 hk with h1 | ⟨⟨s1, s2, h1 | h1⟩, rfl | rfl⟩
    · exact h k h1
    · exact h _ h1
    · exact .step (h a h1) (.inl hin) s2
    · exact .step (h b h1) (.inr hin) s1
    · exact h _ h1
/-- A round that changes something takes in an edge more. -/
theorem rnd_grow {S : Nat} {es : List (Int × Int)} (hm : ∀ e ∈ es, ∃ a b : Nat, e = ((a : Int), (b : Int)) ∧ a < 64 ∧ b < 64) (v : Nat) :
    (∀ e ∈ es, S.testBit e.1.toNat = true → S.testBit e.2.toNat = true → (v.testBit e.1.toNat = true ∨ v.testBit e.2.toNat = true) → v.testBit e.1.toNat = true ∧ v.testBit e.2.toNat = true) ∨ inn es v < inn es (rnd es S v) := by
  by_cases h : ∀ e ∈ es, S.testBit e.1.toNat = true → S.testBit e.2.toNat = true → (v.testBit e.1.toNat = true ∨ v.testBit e.2.toNat = true) → v.testBit e.1.toNat = true ∧ v.testBit e.2.toNat = true
  · exact .inl h
  · right
    obtain ⟨e, he, s1, s2, h1, h2⟩ : ∃ e, e ∈ es ∧ S.testBit e.1.toNat = true ∧ S.testBit e.2.toNat = true ∧ (v.testBit e.1.toNat = true ∨ v.testBit e.2.toNat = true) ∧ ¬ (v.testBit e.1.toNat = true ∧ v.testBit e.2.toNat = true) := by
      apply Classical.byContradiction
      intro hno
      refine h fun e he s1 s2 h1 => ?_
      apply Classical.byContradiction
      intro h2
      exact hno ⟨e, he, s1, s2, h1, h2⟩
    obtain ⟨l1, l2, rfl⟩ := List.append_of_mem he
    obtain ⟨a, b, rfl, ha, hb⟩ := hm e he
    simp only [Int.toNat_natCast] at s1 s2 h1 h2
    -- behind this edge both ends are in
    have hboth : (rnd (l1 ++ ((a : Int), (b : Int)) :: l2) S v).testBit a = true ∧ (rnd (l1 ++ ((a : Int), (b : Int)) :: l2) S v).testBit b = true := by
      unfold rnd
      rw [List.foldl_append, List.foldl_cons]
      have hm1 : ∀ e ∈ l1, ∃ a b : Nat, e = ((a : Int), (b : Int)) ∧ a < 64 ∧ b < 64 := fun e he => hm e (by simp [he])
      have hm2 : ∀ e ∈ l2, ∃ a b : Nat, e = ((a : Int), (b : Int)) ∧ a < 64 ∧ b < 64 := fun e he => hm e (by simp [he])
      have hc : (l1.foldl (rnd1 S) v).testBit a = true ∨ (l1.foldl (rnd1 S) v).testBit b = true := h1.imp (rnd_sub hm1) (rnd_sub hm1)
      exact ⟨rnd_sub hm2 (rnd1_bit.2 (.inr ⟨⟨s1, s2, hc⟩, .inl rfl⟩)), rnd_sub hm2 (rnd1_bit.2 (.inr ⟨⟨s1, s2, hc⟩, .inr rfl⟩))⟩
    generalize hes : l1 ++ ((a : Int), (b : Int)) :: l2 = es at hm he hboth ⊢
    unfold inn
    -- counted
    have key : ∀ (l : List (Int × Int)) (p q : Int × Int → Bool), (∀ e ∈ l, p e = true → q e = true) → (l.filter p).length ≤ (l.filter q).length ∧ ((∃ e ∈ l, p e = false ∧ q e = true) → (l.filter p).length < (l.filter q).length) := by
      intro l p q
      induction l with
      | nil => intro _; exact ⟨Nat.le_refl _, fun ⟨e, h, _⟩ => by cases h⟩
      | cons x l ih =>
        intro hpq
        obtain ⟨ih1, ih2⟩ := ih fun e he => hpq e (by simp [he])
        have hx := hpq x (by simp)
        by_cases hp : p x = true
        · rw [List.filter_cons_of_pos hp, List.filter_cons_of_pos (hx hp)]
          refine ⟨by simp only [List.length_cons]; omega, fun ⟨e, he, h1, h2⟩ => ?_⟩
          rcases List.mem_cons.1 he with rfl | he
          · rw [h1] at hp; cases hp
          · have := ih2 ⟨e, he, h1, h2⟩
            simp only [List.length_cons]; omega
        · rw [List.filter_cons_of_neg hp]
          by_cases hq : q x = true
          · rw [List.filter_cons_of_pos hq, List.length_cons]
            exact ⟨by omega, fun _ => by omega⟩
          · rw [List.filter_cons_of_neg hq]
            refine ⟨ih1, fun ⟨e, he, h1, h2⟩ => ?_⟩
            rcases List.mem_cons.1 he with rfl | he
            · exact absurd h2 hq
            · exact ih2 ⟨e, he, h1, h2⟩
    refine (key es _ _ fun e he' h => ?_).2 ⟨_, he, ?_, ?_⟩
    · simp only [Bool.and_eq_true] at h ⊢
      exact ⟨rnd_sub hm h.1, rnd_sub hm h.2⟩
    · simp only [Int.toNat_natCast]
      cases e1 : v.testBit a <;> cases e2 : v.testBit b <;> simp_all
    · simp only [Int.toNat_natCast, hboth.1, hboth.2, Bool.and_self]
end Go.Proofs.YtpclggcpobakhaaDoor
end

section
/-
  Chapter 18, plain laws: components by the reference; GraphParts.
-/
namespace Go.Proofs.YtpclggcpobakhaaDoor
open Go Go.Ab Go.Ab.W

theorem Okay.mem64 {N : Nat} {es : List (Int × Int)} (h : Okay N es) : ∀ e ∈ es, ∃ a b : Nat, e = ((a : Int), (b : Int)) ∧ a < 64 ∧ b < 64 := fun e he => by
  obtain ⟨a, b, e1, h1, h2⟩ := h.mem e he
  have := h.le
  exact ⟨a, b, e1, by omega, by omega⟩
/-- No edge within S leads out. -/
def Closed (es : List (Int × Int)) (S v : Nat) : Prop := ∀ e ∈ es, S.testBit e.1.toNat = true → S.testBit e.2.toNat = true → (v.testBit e.1.toNat = true ∨ v.testBit e.2.toNat = true) → v.testBit e.1.toNat = true ∧ v.testBit e.2.toNat = true
theorem rnd_closed {S v : Nat} : ∀ {es es0 : List (Int × Int)}, (∀ e ∈ es, e ∈ es0 ∧ ∃ a b : Nat, e = ((a : Int), (b : Int)) ∧ a < 64 ∧ b < 64) → Closed es0 S v → es.foldl (rnd1 S) v = v
  | [], _, _, _ => rfl
  | e :: es, es0, hm, h => by
    obtain ⟨hin, a, b, rfl, ha, hb⟩ := hm e (by simp)
    have h1 : rnd1 S v ((a : Int), (b : Int)) = v := word_ext fun i => by
      rw [rnd1_bit]
      constructor
      · rintro (h1 | ⟨⟨s1, s2, h1⟩, rfl | rfl⟩)
        · exact h1
        · have := h _ hin (by simpa using s1) (by simpa using s2) (by simpa using h1)
          simpa using this.1
        · have := h _ hin (by simpa using s1) (by simpa using s2) (by simpa using h1)
          simpa using this.2
      · exact .inl
    rw [List.foldl_cons, h1]
    exact rnd_closed (fun e he => hm e (by simp [he])) h
theorem F71_eq (n N : Nat) (es : List (Int × Int)) (S i : Nat) (hok : Okay N es) (hS : S < 2 ^ N) (hi : S.testBit i = true) (hn : 200 < n) : ∃ w, F71 n (N : Int) es S ((i : Nat) : Int) (-1) = some w ∧ IsCl es S i w := by
  have hN := hok.le
  have hlen := hok.len
  have hS64 := lt64 hS hN
  have hi64 := tb_lt hS64 hi
  have hm := hok.mem64
  have hinner : ∀ v, v < 2 ^ 64 → lpN (L71_1 n es (-1) S) n (v, 0) = some (rnd es S v) := fun v hv => by
    have := lp_list0 (body := L71_1 n es (-1) S) es (fun (s : Nat) (k : Int) => (s, k)) (rnd1 S) id (fun _ s => s < 2 ^ 64) (fun s k e he hI => ?_) (fun s _ => ?_) (n := n) (s := v) hv (by omega)
    · exact this.1
    · have hk : k < es.length := (List.getElem?_eq_some_iff.1 he).1
      obtain ⟨a, b, rfl, ha, hb⟩ := hm e (List.mem_of_getElem? he)
      exact ⟨L71_body n es S s k a b hS64 hI he ha hb (by omega), rnd1_lt hI ha hb⟩
    · simp only [L71_1]
      rw [br_df (by omega)]; rfl
  have hout := lp_upto (body := L71_2 n es (-1) S) es.length (fun (s : Nat) (k : Int) => (s, k)) (fun s _ => rnd es S s) id
    (fun k s => s < 2 ^ 64 ∧ s.testBit i = true ∧ (∀ j, s.testBit j = true → Rch es S i j) ∧ (Closed es S s ∨ k ≤ inn es s)) (fun s k hk hI => ?_) (fun s _ => ?_) (n := n) (s := 2 ^ i) ⟨one_lt hi64, by rw [tb_one]; simp, fun j hj => by
      rw [tb_one, decide_eq_true_eq] at hj; subst hj; exact .refl, .inr (Nat.zero_le _)⟩ (by omega)
  · obtain ⟨h1, h2, h3, h4, h5⟩ := hout
    refine ⟨_, by unfold F71; rw [F68_eq n i hi64, ob_s]; simp only [h1, ob_s, id_eq]; rfl, ?_⟩
    have hcl : Closed es S ((List.range es.length).foldl (fun s _ => rnd es S s) (2 ^ i)) := by
      rcases h5 with h5 | h5
      · exact h5
      · intro e he _ _ _
        have hall : (es.filter fun e => ((List.range es.length).foldl (fun s _ => rnd es S s) (2 ^ i)).testBit e.1.toNat && ((List.range es.length).foldl (fun s _ => rnd es S s) (2 ^ i)).testBit e.2.toNat).length = es.length := Nat.le_antisymm (List.length_filter_le _ _) h5
        have := List.length_filter_eq_length_iff.1 hall e he
        simpa using this
    refine IsCl.of h2 h3 h4 fun j k hj ha hk => ?_
    have hjS := (h4 j hj).mem hi
    rcases ha with ha | ha
    · have := hcl _ ha (by simpa using hjS) (by simpa using hk) (.inl (by simpa using hj))
      simpa using this.2
    · have := hcl _ ha (by simpa using hk) (by simpa using hjS) (.inr (by simpa using hj))
      simpa using this.1
  · obtain ⟨g1, g2, g3, g4⟩ := hI
    refine ⟨?_, rnd_lt hm g1, rnd_sub hm g2, rnd_rch (fun e he => ⟨he, hm e he⟩) g3, ?_⟩
    · simp only [L71_2]
      rw [br_dt (by omega), hinner s g1, ob_s, wrap_succ (by omega)]
    · rcases g4 with g4 | g4
      · have e : rnd es S s = s := rnd_closed (fun e he => ⟨he, hm e he⟩) g4
        rw [e]; exact .inl g4
      · rcases rnd_grow hm s with h | h
        · have e : rnd es S s = s := rnd_closed (fun e he => ⟨he, hm e he⟩) h
          rw [e]; exact .inl h
        · exact .inr (by omega)
  · simp only [L71_2]
    rw [br_df (by omega)]; rfl
theorem andn_or {a b c : Nat} (ha : a < 2 ^ 64) (hb : b < 2 ^ 64) (hc : c < 2 ^ 64) : uandn .u64 a (b ||| c) = uandn .u64 (uandn .u64 a b) c := word_ext fun i => by
  rw [tb_andn ha (or_lt' hb hc), tb_andn (andn_lt ha hb) hc, tb_andn ha hb, Nat.testBit_or]
  cases a.testBit i <;> cases b.testBit i <;> cases c.testBit i <;> decide
theorem tz_unique {x i : Nat} (hx : x < 2 ^ 64) (hi : x.testBit i = true) (hl : ∀ j, x.testBit j = true → i ≤ j) : 0 < x ∧ tz x = i := by
  have h0 : 0 < x := by
    rcases Nat.eq_zero_or_pos x with h | h
    · subst h; rw [Nat.zero_testBit] at hi; cases hi
    · exact h
  obtain ⟨h1, h2⟩ := tz_bit h0 hx
  refine ⟨h0, ?_⟩
  rcases Nat.lt_trichotomy (tz x) i with h | h | h
  · have := hl _ h1; omega
  · exact h
  · have := h2 i h; rw [hi] at this; cases this
theorem L70_eq (n N : Nat) (es : List (Int × Int)) (S : Nat) (hok : Okay N es) (hS : S < 2 ^ N) (hn : 200 < n) :
    ∀ (k i m : Nat) (acc : List Nat) (done : Nat), i + k = N → done < 2 ^ 64 → (∀ j, (uandn .u64 S done).testBit j = true → i ≤ j) → acc.length ≤ i → k < m →
      ∃ l, lpN (L70_1 n (N : Int) S es) m (acc, done, (i : Int)) = some (acc ++ l) ∧ Cs es S (uandn .u64 S done) l := by
  intro k
  have hN := hok.le
  have hS64 := lt64 hS hN
  induction k with
  | zero =>
    intro i m acc done hi hd hl ha hm
    obtain ⟨m, rfl⟩ : ∃ m', m = m' + 1 := ⟨m - 1, by omega⟩
    have hz : uandn .u64 S done = 0 := word_zero.2 fun j => by
      cases e : (uandn .u64 S done).testBit j with
      | false => rfl
      | true =>
        have h1 := hl j e
        rw [tb_andn hS64 hd, Bool.and_eq_true] at e
        have := tb_ltN hS e.1
        omega
    rw [hz]
    refine ⟨[], ?_, .nil⟩
    rw [List.append_nil]
    exact lp_end (by simp only [L70_1]; rw [br_df (by omega)])
  | succ k ih =>
    intro i m acc done hi hd hl ha hm
    obtain ⟨m, rfl⟩ : ∃ m', m = m' + 1 := ⟨m - 1, by omega⟩
    have hi64 : i < 64 := by omega
    have hbit := tb_andn hS64 hd i
    have hcond : (ob (ob (F67 n S (i : Int)) fun r140 => br r140 (ob (F67 n done (i : Int)) fun r143 => some (!r143)) (some false)) fun v138 => br v138 (ob (F71 n (N : Int) es S (i : Int) (-1)) fun r148 => gd (lim (acc ++ [r148]).length) (some ((acc ++ [r148]), uw .u64 (uw .u64 done ||| uw .u64 r148)))) (some (acc, done)))
        = br (S.testBit i && !done.testBit i) (ob (F71 n (N : Int) es S (i : Int) (-1)) fun r148 => gd (lim (acc ++ [r148]).length) (some ((acc ++ [r148]), uw .u64 (uw .u64 done ||| uw .u64 r148)))) (some (acc, done)) := by
      rw [F67_eq n S i hS64 hi64, F67_eq n done i hd hi64, ob_s]
      rcases Bool.eq_false_or_eq_true (S.testBit i) with h | h <;> simp only [h, br_t, br_f, ob_s, Bool.true_and, Bool.false_and]
    have hbody : L70_1 n (N : Int) S es (acc, done, (i : Int)) = ob (br (S.testBit i && !done.testBit i) (ob (F71 n (N : Int) es S (i : Int) (-1)) fun r148 => gd (lim (acc ++ [r148]).length) (some ((acc ++ [r148]), uw .u64 (uw .u64 done ||| uw .u64 r148)))) (some (acc, done))) fun x => some (.inl (x.1, x.2, ((i + 1 : Nat) : Int))) := by
      simp only [L70_1]
      rw [br_dt (by omega), hcond, wrap_succ (by omega)]
    by_cases hc : (S.testBit i && !done.testBit i) = true
    · rw [hc, br_t] at hbody
      have hSi : S.testBit i = true := by simp only [Bool.and_eq_true] at hc; exact hc.1
      obtain ⟨w, h1, hw⟩ := F71_eq n N es S i hok hS hSi hn
      rw [h1, ob_s, lim_of (by simp; omega), gd_t, ob_s, word_or hd hw.1] at hbody
      rw [hc] at hbit
      obtain ⟨h0, htz⟩ := tz_unique (andn_lt hS64 hd) hbit hl
      have hwi : w.testBit i = true := (hw.2 i).2 .refl
      obtain ⟨l, h2, h3⟩ := ih (i + 1) m (acc ++ [w]) (done ||| w) (by omega) (or_lt' hd hw.1) (fun j hj => by
        rw [andn_or hS64 hd hw.1, tb_andn (andn_lt hS64 hd) hw.1, Bool.and_eq_true] at hj
        have := hl j hj.1
        have : j ≠ i := fun e => by subst e; rw [hwi] at hj; cases hj.2
        omega) (by simp; omega) (by omega)
      refine ⟨w :: l, ?_, ?_⟩
      · rw [lp_next hbody, h2, List.append_assoc]; rfl
      · rw [andn_or hS64 hd hw.1] at h3
        exact .cons h0 (andn_lt hS64 hd) (by rw [htz]; exact hw) h3
    · rw [Bool.not_eq_true] at hc
      rw [hc, br_f, ob_s] at hbody
      rw [hc] at hbit
      obtain ⟨l, h2, h3⟩ := ih (i + 1) m acc done (by omega) hd (fun j hj => by
        have := hl j hj
        have : j ≠ i := fun e => by subst e; rw [hbit] at hj; cases hj
        omega) (by omega) (by omega)
      exact ⟨l, by rw [lp_next hbody, h2], h3⟩
theorem F70_eq (n N : Nat) (es : List (Int × Int)) (S : Nat) (hok : Okay N es) (hS : S < 2 ^ N) (hn : 200 < n) : ∃ l, F70 n (N : Int) es S = some l ∧ Cs es S S l := by
  have hN := hok.le
  have hS64 := lt64 hS hN
  have e : uandn .u64 S 0 = S := word_ext fun i => by rw [tb_andn hS64 (by decide), Nat.zero_testBit]; simp
  obtain ⟨l, h1, h2⟩ := L70_eq n N es S hok hS hn N 0 n [] 0 (by omega) (by decide) (fun j _ => Nat.zero_le j) (by simp) (by omega)
  rw [e] at h2
  refine ⟨l, ?_, h2⟩
  unfold F70
  have h1' : lpN (L70_1 n (N : Int) S es) n ([], 0, 0) = some l := h1
  rw [h1', ob_s]
/-- Components: both. -/
theorem comps_both (n : Nat) (N : Int) (es : List (Int × Int)) (x : Nat) (hx : x < 2 ^ 64) (hn : 200 < n) (hl : es.length < 4611686018427387904) (hk : es.length < n) :
    ∃ l, F17 n N es x = some (l, ckF N es x) ∧ F33 n N es x = some (l, ckF N es x) ∧ F16 n N es x = some (decide (ckF N es x = 0) && decide (l.length = 1), ckF N es x) ∧ F32 n N es x = some (decide (ckF N es x = 0) && decide (l.length = 1), ckF N es x) ∧ l.length ≤ 64 ∧ (ckF N es x = 0 → Cs es x x l) := by
  unfold F17 F33 F16 F32
  rw [F55_eq n N es x hx (by omega) hl hk, F66_eq n N es x hx hl hk, ob_s, ob_s, ob_s, ob_s]
  by_cases h : ckF N es x = 0
  · obtain ⟨M, rfl, hM, hxM⟩ := ckF_ok h
    obtain ⟨l1, h1, c1, b1⟩ := F58_eq n M es x hM hxM hn
    obtain ⟨l2, h2, c2⟩ := F70_eq n M es x hM hxM hn
    have := c1.unique c2
    subst this
    have e : decide (((l1.length : Nat) : Int) = 1) = decide (l1.length = 1) := by
      by_cases h : l1.length = 1
      · rw [decide_eq_true h, decide_eq_true (by omega)]
      · rw [decide_eq_false h, decide_eq_false (by omega)]
    refine ⟨l1, ?_, ?_, ?_, ?_, b1, fun _ => c1⟩
    · rw [h, decide_eq_true rfl, Bool.not_true, br_f, h1, ob_s]
    · rw [h, decide_eq_true rfl, Bool.not_true, br_f, h2, ob_s]
    · rw [h, decide_eq_true rfl, Bool.not_true, br_f, h1, ob_s, e]; rfl
    · unfold F69
      rw [h, decide_eq_true rfl, Bool.not_true, br_f, h2, ob_s, ob_s, e]; rfl
  · refine ⟨[], ?_, ?_, ?_, ?_, by simp, fun h' => absurd h' h⟩
    · rw [decide_eq_false h, Bool.not_false, br_t]
    · rw [decide_eq_false h, Bool.not_false, br_t]
    · rw [decide_eq_false h, Bool.not_false, br_t, Bool.false_and]
    · rw [decide_eq_false h, Bool.not_false, br_t, Bool.false_and]

/-! ### GraphParts -/
theorem L35_self (n0 : Nat) (l : List Nat) (hl : l.length < 4611686018427387904) : ∀ k i n, i + k = l.length → k < n → lpN (L35_1 n0 l l) n ((i : Nat) : Int) = some (.inr ()) := by
  intro k
  induction k with
  | zero =>
    intro i n hi hk
    obtain ⟨n, rfl⟩ : ∃ n', n = n' + 1 := ⟨n - 1, by omega⟩
    exact lp_end (by unfold L35_1; rw [br_df (by omega)])
  | succ k ih =>
    intro i n hi hk
    obtain ⟨n, rfl⟩ : ∃ n', n = n' + 1 := ⟨n - 1, by omega⟩
    have a1 : i < l.length := by omega
    have e1 : l[((i : Nat) : Int).toNat]? = some l[i] := by simp [a1]
    rw [lp_next (s' := ((i + 1 : Nat) : Int)) ?_]
    · exact ih (i + 1) n (by omega) (by omega)
    · simp only [L35_1, e1, inB_nat a1, gd_t, ob_s, decide_true, Bool.not_true, br_f, wrap_succ (show i < 4611686018427387904 by omega)]
      rw [br_dt (by omega)]
theorem F35_self (n : Nat) (l : List Nat) (hl : l.length < 4611686018427387904) (hn : l.length < n) : F35 n l l = some true := by
  unfold F35
  rw [decide_eq_true rfl, Bool.not_true, br_f]
  have := L35_self n l hl l.length 0 n (by omega) hn
  rw [show lpN (L35_1 n l l) n 0 = _ from this, ob_s]
theorem L4_1_eq (n r1 r2 : Nat) (N : Int) (es : List (Int × Int)) (h1 : r1 < 2 ^ 64) (h2 : r2 < 2 ^ 64) (hn : 300 < n) (hl : es.length ≤ 300) : lpN (L4_1 n r1 r2 N es) n 0 = some (.inr ()) := by
  have one : ∀ (i x : Nat), i < 2 → [r1, r2][i]? = some x → x < 2 ^ 64 → L4_1 n r1 r2 N es (i : Int) = some (.inl ((i + 1 : Nat) : Int)) := by
    intro i x hi hx hx64
    obtain ⟨w, a1, a2, _⟩ := nb_both n N es x hx64 (by omega) (by omega) (by omega)
    obtain ⟨l, b1, b2, bl, _⟩ := border_both n N es x hx64 (by omega) (by omega) (by omega)
    obtain ⟨c, c1, c2, c3, c4, cl, _⟩ := comps_both n N es x hx64 (by omega) (by omega) (by omega)
    unfold L4_1
    simp only [Int.toNat_natCast, hx, ob_s, inB_nat hi, gd_t, a1, a2, b1, b2, c1, c2, c3, c4, decide_true, Bool.not_true, br_f, F34_eq n l l (by omega) (by omega), beq_self_eq_true, F35_self n c (by omega) (by omega), wrap_succ (show i < 4611686018427387904 by omega)]
    rw [br_dt (by omega)]
  obtain ⟨n', rfl⟩ : ∃ n', n = n' + 3 := ⟨n - 3, by omega⟩
  have s0 : L4_1 (n' + 3) r1 r2 N es 0 = some (.inl 1) := one 0 r1 (by omega) rfl h1
  have s1 : L4_1 (n' + 3) r1 r2 N es 1 = some (.inl 2) := one 1 r2 (by omega) rfl h2
  have s2 : L4_1 (n' + 3) r1 r2 N es 2 = some (.inr (.inr ())) := by unfold L4_1; rw [br_df (by decide)]
  rw [lp_next (s' := 1) s0, lp_next (s' := 2) s1, lp_end s2]
theorem F29_eq (n : Nat) (N : Int) (es : List (Int × Int)) (x : Nat) (hx : x < 2 ^ 64) : ∃ y, F29 n N es x = some (x, y) ∧ y < 2 ^ 64 ∧ (1 ≤ N → N ≤ 63 → y = x % 2 ^ N.toNat) := by
  unfold F29
  by_cases h1 : N < 1
  · rw [br_dt h1, ob_s, br_t]; exact ⟨x, rfl, hx, fun h => by omega⟩
  · rw [br_df h1, ob_s]
    by_cases h2 : 63 < N
    · rw [decide_eq_true h2, br_t]; exact ⟨x, rfl, hx, fun _ h => by omega⟩
    · rw [decide_eq_false h2, br_f, decide_eq_true (show (0 : Int) ≤ N by omega), gd_t]
      obtain ⟨M, rfl⟩ := Int.eq_ofNat_of_zero_le (show 0 ≤ N by omega)
      have hM : M < 64 := by omega
      have hp := Nat.two_pow_pos M
      have hpl := one_lt hM
      have hs : usub .u64 (2 ^ M) 1 = 2 ^ M - 1 := by
        unfold usub
        rw [uM64, uw_id (show (1 : Nat) < 2 ^ 64 by decide)]
        show (2 ^ M + (2 ^ 64 - 1)) % 2 ^ 64 = 2 ^ M - 1
        omega
      rw [Int.toNat_natCast, word_one hM, hs, word_and hx (by omega), Nat.and_two_pow_sub_one_eq_mod]
      exact ⟨_, rfl, Nat.lt_of_le_of_lt (Nat.mod_le _ _) hx, fun _ _ => rfl⟩
theorem L4_2_eq (n : Nat) (N1 N2 N3 : Int) (e1 e2 e3 : List (Int × Int)) (x : Nat) (hx : x < 2 ^ 64) (hn : 300 < n) (h1 : e1.length ≤ 300) (h2 : e2.length ≤ 300) (h3 : e3.length ≤ 300) : lpN (L4_2 n N1 e1 N2 e2 N3 e3 x) n 0 = some (.inr ()) := by
  have one : ∀ (i : Nat) (N : Int) (es : List (Int × Int)), i < 3 → [(N1, e1), (N2, e2), (N3, e3)][i]? = some (N, es) → es.length ≤ 300 → L4_2 n N1 e1 N2 e2 N3 e3 x (i : Int) = some (.inl ((i + 1 : Nat) : Int)) := by
    intro i N es hi hx' hl
    obtain ⟨y, f1, f2, _⟩ := F29_eq n N es x hx
    unfold L4_2
    simp only [Int.toNat_natCast, hx', ob_s, inB_nat hi, gd_t, f1, L4_1_eq n x y N es hx f2 hn hl, wrap_succ (show i < 4611686018427387904 by omega)]
    rw [br_dt (by omega)]
  obtain ⟨n', rfl⟩ : ∃ n', n = n' + 4 := ⟨n - 4, by omega⟩
  have s0 : L4_2 (n' + 4) N1 e1 N2 e2 N3 e3 x 0 = some (.inl 1) := one 0 N1 e1 (by omega) rfl h1
  have s1 : L4_2 (n' + 4) N1 e1 N2 e2 N3 e3 x 1 = some (.inl 2) := one 1 N2 e2 (by omega) rfl h2
  have s2 : L4_2 (n' + 4) N1 e1 N2 e2 N3 e3 x 2 = some (.inl 3) := one 2 N3 e3 (by omega) rfl h3
  have s3 : L4_2 (n' + 4) N1 e1 N2 e2 N3 e3 x 3 = some (.inr (.inr ())) := by unfold L4_2; rw [br_df (by decide)]
  rw [lp_next (s' := 1) s0, lp_next (s' := 2) s1, lp_next (s' := 3) s2, lp_end s3]
theorem F4_true (n x1 x2 x3 : Nat) (l4 : List (Nat × Nat)) (x8 x9 : Nat) (x10 x11 x12 : Int) (x13 x14 : Nat) (x15 x16 x17 : Int) (x18 : Nat) (h9 : x9 < 256) (h14 : x14 < 256) (h18 : x18 < 2 ^ 64) (hn : 300 < n) :
    F4 n x1 x2 x3 l4 x8 x9 x10 x11 x12 x13 x14 x15 x16 x17 x18 = some true := by
  obtain ⟨N1, e1, N2, e2, N3, e3, h1, g1, g2, g3, _⟩ := F28_tot n x1 x2 x3 l4 x8 x9 x10 x11 x12 x13 x14 x15 x16 x17 h9 h14 (by omega)
  unfold F4
  rw [h1, ob_s]
  simp only [L4_2_eq n N1 N2 N3 e1 e2 e3 x18 h18 hn g1 g2 g3, ob_s]
  rfl
end Go.Proofs.YtpclggcpobakhaaDoor
end

section
/-
  Chapter 18, plain laws: the graphs that a law goes through; GraphBorders.
-/
namespace Go.Proofs.YtpclggcpobakhaaDoor
open Go Go.Ab Go.Ab.W

theorem L41_eq (n : Nat) (N1 N2 N3 : Int) (l1 l2 l3 : List (Int × Int)) (hn : 300 < n) (h1 : l1.length ≤ 300) (h2 : l2.length ≤ 300) (h3 : l3.length ≤ 300) :
    ∃ J, lpN (L41_1 n N1 l1 N2 l2 N3 l3) n ([], 0) = some J ∧ J.length ≤ 3 ∧ ∀ j ∈ J, okG (gOf N1 l1 N2 l2 N3 l3 j).1 (gOf N1 l1 N2 l2 N3 l3 j).2 = true := by
  have hl : ∀ j, (gOf N1 l1 N2 l2 N3 l3 j).2.length ≤ 300 := fun j => by
    match j with
    | 0 => exact h1
    | 1 => exact h2
    | _ + 2 => exact h3
  have := lp_upto (body := L41_1 n N1 l1 N2 l2 N3 l3) 3 (fun (J : List Nat) (v : Int) => (J, v)) (fun J i => if okG (gOf N1 l1 N2 l2 N3 l3 i).1 (gOf N1 l1 N2 l2 N3 l3 i).2 then J ++ [i] else J) id
    (fun i J => J.length ≤ i ∧ ∀ j ∈ J, okG (gOf N1 l1 N2 l2 N3 l3 j).1 (gOf N1 l1 N2 l2 N3 l3 j).2 = true) (fun J i hi hI => ?_) (fun J _ => ?_) (n := n) (s := []) ⟨Nat.le_refl _, fun j hj => by cases hj⟩ (by omega)
  · exact ⟨_, this.1, this.2.1, this.2.2⟩
  · have hg := hl i
    have hF := F23_eq n (gOf N1 l1 N2 l2 N3 l3 i).1 (gOf N1 l1 N2 l2 N3 l3 i).2 (by omega) (by omega) (by omega)
    have hlen := hI.1
    by_cases hk : okG (gOf N1 l1 N2 l2 N3 l3 i).1 (gOf N1 l1 N2 l2 N3 l3 i).2 = true
    · rw [if_pos hk]
      refine ⟨?_, by simp; omega, fun j hj => ?_⟩
      · have hc : ckG (gOf N1 l1 N2 l2 N3 l3 i).1 (gOf N1 l1 N2 l2 N3 l3 i).2 = 0 := by unfold ckG; rw [if_pos hk]
        unfold L41_1
        simp only [Int.toNat_natCast, inB_nat hi, gd_t, hF, ob_s, hc, decide_true, br_t, lim_of (show J.length + 1 ≤ 1073741824 by omega), wrap_succ (show i < 4611686018427387904 by omega)]
        rw [br_dt (by omega)]
      · rcases List.mem_append.1 hj with hj | hj
        · exact hI.2 j hj
        · rw [List.mem_singleton.1 hj]; exact hk
    · rw [if_neg hk]
      refine ⟨?_, by omega, hI.2⟩
      have hc : ckG (gOf N1 l1 N2 l2 N3 l3 i).1 (gOf N1 l1 N2 l2 N3 l3 i).2 = 180 := by unfold ckG; rw [if_neg hk]
      unfold L41_1
      simp only [Int.toNat_natCast, inB_nat hi, gd_t, hF, ob_s, hc, wrap_succ (show i < 4611686018427387904 by omega)]
      rw [br_dt (by omega), br_df (by decide)]
  · simp only [L41_1]
    rw [br_df (by omega)]; rfl
/-- The graphs that fit are valid. -/
theorem F41_eq (n x1 x2 x3 : Nat) (l4 : List (Nat × Nat)) (x8 x9 : Nat) (x10 x11 x12 : Int) (x13 x14 : Nat) (x15 x16 x17 : Int) (h9 : x9 < 256) (h14 : x14 < 256) (hn : 300 < n) :
    ∃ gs, F41 n x1 x2 x3 l4 x8 x9 x10 x11 x12 x13 x14 x15 x16 x17 = some gs ∧ gs.length ≤ 3 ∧ ∀ g ∈ gs, okG g.1 g.2 = true ∧ ∃ M : Nat, g.1 = (M : Int) ∧ Okay M g.2 := by
  obtain ⟨N1, e1, N2, e2, N3, e3, h1, g1, g2, g3, _⟩ := F28_tot n x1 x2 x3 l4 x8 x9 x10 x11 x12 x13 x14 x15 x16 x17 h9 h14 (by omega)
  obtain ⟨J, h2, hJ, h3⟩ := L41_eq n N1 N2 N3 e1 e2 e3 hn g1 g2 g3
  refine ⟨J.map (gOf N1 e1 N2 e2 N3 e3), ?_, by simpa using hJ, fun g hg => ?_⟩
  · unfold F41
    rw [h1, ob_s]
    simp only [h2, ob_s]
  · obtain ⟨j, hj, rfl⟩ := List.mem_map.1 hg
    exact ⟨h3 j hj, okay_of (h3 j hj)⟩
/-- A mask of the least bits. -/
theorem mask_eq {M : Nat} (h : M ≤ 64) : usub .u64 (ushl .u64 1 M) 1 = 2 ^ M - 1 := by
  have hp := Nat.two_pow_pos M
  have hpl : 2 ^ M ≤ 2 ^ 64 := Nat.pow_le_pow_right (by decide) h
  unfold usub ushl
  rw [uw_id (show (1 : Nat) < 2 ^ 64 by decide), Nat.one_mul, Nat.min_eq_left (show M ≤ IntKind.bits .u64 from h)]
  show (uw .u64 (2 ^ M) + (2 ^ 64 - 1)) % 2 ^ 64 = 2 ^ M - 1
  rcases Nat.lt_or_ge M 64 with h1 | h1
  · have := one_lt h1
    rw [uw_id this]; omega
  · have : M = 64 := by omega
    subst this
    decide
theorem masked {M x : Nat} (h : M ≤ 64) (hx : x < 2 ^ 64) : uw .u64 (uw .u64 x &&& uw .u64 (usub .u64 (ushl .u64 1 M) 1)) = x % 2 ^ M ∧ x % 2 ^ M < 2 ^ M := by
  have hp := Nat.two_pow_pos M
  have hpl : 2 ^ M ≤ 2 ^ 64 := Nat.pow_le_pow_right (by decide) h
  rw [mask_eq h, word_and hx (by omega), Nat.and_two_pow_sub_one_eq_mod]
  exact ⟨rfl, Nat.mod_lt _ hp⟩
theorem ckF_fit {M : Nat} {es : List (Int × Int)} {x : Nat} (h : Okay M es) (hk : okG (M : Int) es = true) (hx : x < 2 ^ M) : ckF (M : Int) es x = 0 := by
  unfold ckF
  rw [if_pos hk, Int.toNat_natCast, if_neg (by omega)]
theorem bitval {y a : Nat} (hy : y < 2 ^ 64) (ha : a ≤ 64) : uw .u64 (uw .u64 (ushr .u64 y a) &&& uw .u64 1) = (y.testBit a).toNat := by
  have h := bit_at hy ha
  have h2 : uw .u64 (uw .u64 (ushr .u64 y a) &&& uw .u64 1) < 2 := by
    have hs : y >>> a < 2 ^ 64 := Nat.lt_of_le_of_lt (by rw [Nat.shiftRight_eq_div_pow]; exact Nat.div_le_self _ _) hy
    rw [word_shr ha, word_and hs (by decide), Nat.and_one_is_mod]
    omega
  generalize uw .u64 (uw .u64 (ushr .u64 y a) &&& uw .u64 1) = X at h h2
  rw [← h]
  have : X = 0 ∨ X = 1 := by omega
  rcases this with rfl | rfl <;> rfl
/-! ### Contains -/
theorem L73_eq (n0 : Nat) (l : List (Int × Int)) (a b : Int) (hl : l.length < 4611686018427387904) : ∀ k i n, i + k = l.length → k < n → (∃ j, i ≤ j ∧ l[j]? = some (a, b)) → ∃ j : Nat, lpN (L73_1 n0 l a b) n ((i : Nat) : Int) = some (.inl (j : Int)) := by
  intro k
  induction k with
  | zero =>
    rintro i n hi hk ⟨j, hj, h⟩
    have := (List.getElem?_eq_some_iff.1 h).1
    omega
  | succ k ih =>
    rintro i n hi hk ⟨j, hj, h⟩
    obtain ⟨n, rfl⟩ : ∃ n', n = n' + 1 := ⟨n - 1, by omega⟩
    have a1 : i < l.length := by omega
    have e1 : l[((i : Nat) : Int).toNat]? = some l[i] := by simp [a1]
    have hbody : L73_1 n0 l a b (i : Int) = br (decide (a = l[i].1) && decide (b = l[i].2)) (some (.inr (.inl (i : Int)))) (some (.inl ((i + 1 : Nat) : Int))) := by
      simp only [L73_1, e1, inB_nat a1, gd_t, ob_s, wrap_succ (show i < 4611686018427387904 by omega)]
      rw [br_dt (by omega)]
    by_cases hc : (decide (a = l[i].1) && decide (b = l[i].2)) = true
    · rw [hc, br_t] at hbody
      exact ⟨i, lp_end hbody⟩
    · rw [Bool.not_eq_true] at hc
      rw [hc, br_f] at hbody
      rw [lp_next hbody]
      refine ih (i + 1) n (by omega) (by omega) ⟨j, ?_, h⟩
      rcases Nat.lt_or_ge i j with h1 | h1
      · exact h1
      · have : i = j := by omega
        subst this
        rw [List.getElem?_eq_getElem a1] at h
        have := Option.some.inj h
        rw [this] at hc
        simp at hc
theorem F48_mem (n : Nat) (l : List (Int × Int)) (a b : Int) (hl : l.length < 4611686018427387904) (hn : l.length < n) (h : (a, b) ∈ l) : F48 n l a b = some true := by
  obtain ⟨j, hj⟩ := List.mem_iff_getElem?.1 h
  obtain ⟨k, hk⟩ := L73_eq n l a b hl l.length 0 n (by omega) hn ⟨j, Nat.zero_le _, hj⟩
  unfold F48 F73
  rw [show lpN (L73_1 n l a b) n 0 = _ from hk, ob_s, ob_s, decide_eq_true (by omega)]

/-! ### GraphBorders -/
theorem comp_bit {M y : Nat} (hM : M ≤ 64) (hy : y < 2 ^ M) (i : Nat) : (uandn .u64 (usub .u64 (ushl .u64 1 M) 1) y).testBit i = (decide (i < M) && !y.testBit i) := by
  have hp := Nat.two_pow_pos M
  have hpl : 2 ^ M ≤ 2 ^ 64 := Nat.pow_le_pow_right (by decide) hM
  rw [mask_eq hM, tb_andn (by omega) (lt64 hy hM), Nat.testBit_two_pow_sub_one]
theorem comp_lt {M y : Nat} (hM : M ≤ 64) (hy : y < 2 ^ M) : uandn .u64 (usub .u64 (ushl .u64 1 M) 1) y < 2 ^ M := Nat.lt_pow_two_of_testBit _ fun i hi => by
  rw [comp_bit hM hy, decide_eq_false (by omega)]; rfl
theorem cross_comp {M y : Nat} {es : List (Int × Int)} (h : Okay M es) (hy : y < 2 ^ M) : es.filter (cross (uandn .u64 (usub .u64 (ushl .u64 1 M) 1) y)) = es.filter (cross y) := by
  apply List.filter_congr
  intro e he
  obtain ⟨a, b, rfl, hab, hb⟩ := h.mem e he
  unfold cross
  simp only [Int.toNat_natCast]
  rw [comp_bit h.le hy, comp_bit h.le hy, decide_eq_true (show a < M by omega), decide_eq_true hb]
  cases y.testBit a <;> cases y.testBit b <;> rfl
theorem L9_1_eq (n M y : Nat) (es : List (Int × Int)) (h : Okay M es) (hy : y < 2 ^ M) (hn : 300 < n) :
    ∃ v, lpN (L9_1 n (es.filter (cross y)) es y) n (0, 0) = some (.inr v) ∧ v < 2 ^ 64 ∧ ∀ i, v.testBit i = true ↔ ∃ a b : Nat, ((a : Int), (b : Int)) ∈ es ∧ cross y ((a : Int), (b : Int)) = true ∧ (i = a ∨ i = b) := by
  have hM := h.le
  have hy64 := lt64 hy hM
  have hlen := h.len
  have hfl : (es.filter (cross y)).length ≤ es.length := List.length_filter_le _ _
  have := lp_list0 (body := L9_1 n (es.filter (cross y)) es y) (es.filter (cross y)) (fun (s : Nat) (k : Int) => (s, k)) (fun s e => s ||| (2 ^ e.1.toNat ||| 2 ^ e.2.toNat)) Sum.inr
    (fun k s => s < 2 ^ 64 ∧ ∀ i, s.testBit i = true ↔ ∃ a b : Nat, ((a : Int), (b : Int)) ∈ (es.filter (cross y)).take k ∧ (i = a ∨ i = b)) (fun s k e he hI => ?_) (fun s _ => ?_) (n := n) (s := 0) ⟨by decide, fun i => by simp⟩ (by omega)
  · obtain ⟨h1, h2, h3⟩ := this
    rw [List.take_length] at h3
    refine ⟨_, h1, h2, fun i => ?_⟩
    rw [h3]
    simp only [List.mem_filter, and_assoc]
  · have hk : k < (es.filter (cross y)).length := (List.getElem?_eq_some_iff.1 he).1
    have hmem := List.mem_of_getElem? he
    obtain ⟨hin, hcr⟩ := List.mem_filter.1 hmem
    obtain ⟨a, b, rfl, hab, hb⟩ := h.mem e hin
    have htk : (es.filter (cross y)).take (k + 1) = (es.filter (cross y)).take k ++ [((a : Int), (b : Int))] := by rw [List.take_add_one, he]; rfl
    obtain ⟨g1, g2⟩ := hI
    have hor : 2 ^ a ||| 2 ^ b < 2 ^ 64 := or_lt' (one_lt (by omega)) (one_lt (by omega))
    refine ⟨?_, or_lt' g1 hor, fun i => ?_⟩
    · have hne : decide ((y.testBit a).toNat = (y.testBit b).toNat) = false := by
        unfold cross at hcr
        simp only [Int.toNat_natCast] at hcr
        revert hcr
        cases y.testBit a <;> cases y.testBit b <;> decide
      unfold L9_1
      simp only [Int.toNat_natCast, he, ob_s, inB_nat hk, gd_t, F48_mem n es a b (by omega) (by omega) hin, Bool.not_true, br_f, bitval hy64 (show a ≤ 64 by omega), bitval hy64 (show b ≤ 64 by omega), hne, word_one (show a < 64 by omega), word_one (show b < 64 by omega), word_or (one_lt (show a < 64 by omega)) (one_lt (show b < 64 by omega)), word_or g1 hor, wrap_succ (show k < 4611686018427387904 by omega), decide_eq_true (show (0 : Int) ≤ (a : Int) by omega), decide_eq_true (show (0 : Int) ≤ (b : Int) by omega)]
      rw [br_dt (by omega)]
    · simp only [Int.toNat_natCast]
      rw [htk, Nat.testBit_or, Nat.testBit_or, Bool.or_eq_true, Bool.or_eq_true, g2, tb_one, tb_one, decide_eq_true_eq, decide_eq_true_eq]
      simp only [List.mem_append, List.mem_singleton, Prod.mk.injEq, Int.natCast_inj]
      constructor
      · rintro (⟨a', b', h1, h2⟩ | h1)
        · exact ⟨a', b', .inl h1, h2⟩
        · exact ⟨a, b, .inr ⟨rfl, rfl⟩, h1⟩
      · rintro ⟨a', b', h1 | ⟨rfl, rfl⟩, h2⟩
        · exact .inl ⟨a', b', h1, h2⟩
        · exact .inr h2
  · simp only [L9_1]
    rw [br_df (by omega)]
theorem okG_of {M : Nat} {es : List (Int × Int)} (h : ∃ M' : Nat, (M : Int) = (M' : Int) ∧ Okay M' es) : Okay M es := by
  obtain ⟨M', e, h⟩ := h
  have : M = M' := by omega
  subst this; exact h
theorem L9_2_body (n x : Nat) (gs : List (Int × List (Int × Int))) (k M : Nat) (es : List (Int × Int)) (hx : x < 2 ^ 64) (hk : gs[k]? = some ((M : Int), es)) (hok : okG (M : Int) es = true) (h : Okay M es) (hn : 300 < n) (hk3 : k < 3) : L9_2 n gs x (k : Int) = some (.inl ((k + 1 : Nat) : Int)) := by
  have hM := h.le
  have hlen := h.len
  have hlt : k < gs.length := (List.getElem?_eq_some_iff.1 hk).1
  obtain ⟨e1, hy⟩ := masked hM hx
  have hy64 := lt64 hy hM
  have hc64 := lt64 (comp_lt hM hy) hM
  have c1 := ckF_fit h hok hy
  have c2 := ckF_fit h hok (comp_lt hM hy)
  obtain ⟨l, b1, _, _, b3⟩ := border_both n (M : Int) es _ hy64 (by omega) (by omega) (by omega)
  obtain ⟨l', d1, _, _, d3⟩ := border_both n (M : Int) es _ hc64 (by omega) (by omega) (by omega)
  obtain ⟨w, w1, _, w3⟩ := nb_both n (M : Int) es _ hy64 (by omega) (by omega) (by omega)
  rw [c1] at b1 w1
  rw [c2] at d1
  obtain ⟨wl, wb⟩ := w3 c1
  have hl := b3 c1
  have hl' := d3 c2
  rw [cross_comp h hy, ← hl] at hl'
  subst hl'
  have hand : w &&& (x % 2 ^ M) = 0 := word_zero.2 fun i => by
    rw [Nat.testBit_and]
    cases e : w.testBit i with
    | false => rfl
    | true => rw [((wb i).1 e).2]; rfl
  obtain ⟨v, v1, v2, v3⟩ := L9_1_eq n M _ es h hy hn
  rw [← hl] at v1
  have hvw : uandn .u64 v (x % 2 ^ M) = w := word_ext fun i => by
    rw [tb_andn v2 hy64, Bool.and_eq_true, v3, wb, nb_mem h]
    simp only [Bool.not_eq_true']
    unfold cross
    simp only [Int.toNat_natCast]
    constructor
    · rintro ⟨⟨a, b, hin, hc, rfl | rfl⟩, hi⟩
      · refine ⟨i, b, hin, .inr ⟨?_, hi, rfl⟩⟩
        rw [hi] at hc
        revert hc; cases (x % 2 ^ M).testBit b <;> simp
      · refine ⟨a, i, hin, .inl ⟨?_, hi, rfl⟩⟩
        rw [hi] at hc
        revert hc; cases (x % 2 ^ M).testBit a <;> simp
    · rintro ⟨a, b, hin, ⟨h1, h2, rfl⟩ | ⟨h1, h2, rfl⟩⟩
      · exact ⟨⟨a, i, hin, by rw [h1, h2]; rfl, .inr rfl⟩, h2⟩
      · exact ⟨⟨i, b, hin, by rw [h1, h2]; rfl, .inl rfl⟩, h2⟩
  have hll : l'.length ≤ 200 := by rw [hl]; exact Nat.le_trans (List.length_filter_le _ _) hlen
  unfold L9_2
  simp only [Int.toNat_natCast, hk, ob_s, inB_nat hlt, gd_t, decide_eq_true (show (0 : Int) ≤ (M : Int) by omega), e1, b1, d1, w1, decide_true, Bool.not_true, br_f, F34_eq n l' l' (by omega) (by omega), word_and wl hy64, hand, v1, hvw, wrap_succ (show k < 4611686018427387904 by omega)]
  rw [br_dt (by omega)]
theorem F9_true (n x1 x2 x3 : Nat) (l4 : List (Nat × Nat)) (x8 x9 : Nat) (x10 x11 x12 : Int) (x13 x14 : Nat) (x15 x16 x17 : Int) (x18 : Nat) (h9 : x9 < 256) (h14 : x14 < 256) (h18 : x18 < 2 ^ 64) (hn : 300 < n) :
    F9 n x1 x2 x3 l4 x8 x9 x10 x11 x12 x13 x14 x15 x16 x17 x18 = some true := by
  obtain ⟨gs, h1, h2, h3⟩ := F41_eq n x1 x2 x3 l4 x8 x9 x10 x11 x12 x13 x14 x15 x16 x17 h9 h14 hn
  have hlp := lp_list0 (body := L9_2 n gs x18) gs (fun (_ : Unit) (v : Int) => v) (fun _ _ => ()) (fun _ => Sum.inr ()) (fun _ _ => True) (fun s k g hg _ => ?_) (fun s _ => ?_) (n := n) (s := ()) trivial (by omega)
  · unfold F9 F13
    rw [ob_s, Bool.not_true, br_f, h1, ob_s]
    simp only [hlp.1, ob_s]
  · have hk : k < gs.length := (List.getElem?_eq_some_iff.1 hg).1
    obtain ⟨hok, M, hM, h⟩ := h3 g (List.mem_of_getElem? hg)
    obtain ⟨N, es⟩ := g
    simp only at hok hM h
    subst hM
    exact ⟨L9_2_body n x18 gs k M es h18 hg hok h hn (by omega), trivial⟩
  · unfold L9_2
    rw [br_df (by omega)]
end Go.Proofs.YtpclggcpobakhaaDoor
end
