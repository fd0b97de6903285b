/- Texts of the abstract machine and of the walks, joined: S18W0 S18F2 S18Fit. -/
import Derived.Test.YtpclggcpobakhaaDoorGq4
section
namespace Go.Proofs.YtpclggcpobakhaaDoor.W0
open Go Go.Ab Go.Ab.W Go.Proofs.YtpclggcpobakhaaDoor
set_option maxRecDepth 10000
set_option maxHeartbeats 4000000
attribute [local irreducible] Tm.at Trie.set Trie.get AMem.get AMem.set AMem.alloc AMem.ww AMem.kill
theorem z59 : zeroA E18w.P 59 = some (.agg #[.int .i64 0, .slice none 0 0, .int .i64 0, .slice none 0 0, .int .i64 0, .slice none 0 0]) := by kernel_rfl
theorem t55 : TyI E18w.P 55 true 4 := ⟨by kernel_rfl, by kernel_rfl, by kernel_rfl⟩
theorem z25 : zeroA E18w.P 25 = some (.agg #[.int .i64 0, .slice none 0 0]) := by kernel_rfl
theorem fa55_0 : ∀ b o, fieldAddrA E18w.P 55 (ptr b o) 0 = some (ptr b (o + 0)) := fun _ _ => by kernel_rfl
theorem t5 : TyI E18w.P 5 false 1 := ⟨by kernel_rfl, by kernel_rfl, by kernel_rfl⟩
theorem u5 : E18w.P.underlying 5 = some (.int .u8) := by kernel_rfl
theorem u3 : E18w.P.underlying 3 = some (.int .i64) := by kernel_rfl
theorem fa55_1 : ∀ b o, fieldAddrA E18w.P 55 (ptr b o) 1 = some (ptr b (o + 1)) := fun _ _ => by kernel_rfl
theorem bs25 : BdT E18w.P 25 (.agg #[.int .i64 0, .slice none 0 0]) [(0, 1), (1, 1)] := .mk' (by kernel_rfl) (by kernel_rfl)
theorem t25 : TyI E18w.P 25 true 2 := ⟨by kernel_rfl, by kernel_rfl, by kernel_rfl⟩
theorem fa25_0 : ∀ b o, fieldAddrA E18w.P 25 (ptr b o) 0 = some (ptr b (o + 0)) := fun _ _ => by kernel_rfl
theorem t3 : TyI E18w.P 3 false 1 := ⟨by kernel_rfl, by kernel_rfl, by kernel_rfl⟩
theorem fa55_2 : ∀ b o, fieldAddrA E18w.P 55 (ptr b o) 2 = some (ptr b (o + 2)) := fun _ _ => by kernel_rfl
theorem t52 : TyI E18w.P 52 false 1 := ⟨by kernel_rfl, by kernel_rfl, by kernel_rfl⟩
theorem u102 : E18w.P.underlying 102 = some (.int .u64) := by kernel_rfl
theorem fa55_3 : ∀ b o, fieldAddrA E18w.P 55 (ptr b o) 3 = some (ptr b (o + 3)) := fun _ _ => by kernel_rfl
theorem t53 : TyI E18w.P 53 false 1 := ⟨by kernel_rfl, by kernel_rfl, by kernel_rfl⟩
theorem u53 : E18w.P.underlying 53 = some (.slice 103) := by kernel_rfl
theorem s53 : SlT E18w.P 53 103 2 := SlT.of (by kernel_rfl)
theorem ar103 : ArT E18w.P 103 5 2 1 := ⟨by kernel_rfl, by kernel_rfl, by kernel_rfl⟩
theorem fa25_1 : ∀ b o, fieldAddrA E18w.P 25 (ptr b o) 1 = some (ptr b (o + 1)) := fun _ _ => by kernel_rfl
theorem t23 : TyI E18w.P 23 false 1 := ⟨by kernel_rfl, by kernel_rfl, by kernel_rfl⟩
theorem z26 : zeroA E18w.P 26 = some (.agg #[.int .i64 0, .int .i64 0]) := by kernel_rfl
theorem bs26 : BdT E18w.P 26 (.agg #[.int .i64 0, .int .i64 0]) [(0, 1), (1, 1)] := .mk' (by kernel_rfl) (by kernel_rfl)
theorem u23 : E18w.P.underlying 23 = some (.slice 26) := by kernel_rfl
theorem s23 : SlT E18w.P 23 26 2 := SlT.of (by kernel_rfl)
theorem ar58 : ArT E18w.P 58 57 2 5 := ⟨by kernel_rfl, by kernel_rfl, by kernel_rfl⟩
theorem t57 : TyI E18w.P 57 true 5 := ⟨by kernel_rfl, by kernel_rfl, by kernel_rfl⟩
theorem fa57_1 : ∀ b o, fieldAddrA E18w.P 57 (ptr b o) 1 = some (ptr b (o + 1)) := fun _ _ => by kernel_rfl
theorem fa57_0 : ∀ b o, fieldAddrA E18w.P 57 (ptr b o) 0 = some (ptr b (o + 0)) := fun _ _ => by kernel_rfl
theorem fa57_2 : ∀ b o, fieldAddrA E18w.P 57 (ptr b o) 2 = some (ptr b (o + 2)) := fun _ _ => by kernel_rfl
theorem fa57_3 : ∀ b o, fieldAddrA E18w.P 57 (ptr b o) 3 = some (ptr b (o + 3)) := fun _ _ => by kernel_rfl
theorem t26 : TyI E18w.P 26 true 2 := ⟨by kernel_rfl, by kernel_rfl, by kernel_rfl⟩
theorem ar26 : ArT E18w.P 26 3 2 1 := ⟨by kernel_rfl, by kernel_rfl, by kernel_rfl⟩
theorem bs59 : BdT E18w.P 59 (.agg #[.int .i64 0, .slice none 0 0, .int .i64 0, .slice none 0 0, .int .i64 0, .slice none 0 0]) [(0, 2), (2, 2), (4, 2)] := .mk' (by kernel_rfl) (by kernel_rfl)
theorem t59 : TyI E18w.P 59 true 6 := ⟨by kernel_rfl, by kernel_rfl, by kernel_rfl⟩
theorem u39 : E18w.P.underlying 39 = some (.slice 3) := by kernel_rfl
theorem s39 : SlT E18w.P 39 3 1 := SlT.of (by kernel_rfl)
theorem f40_ok (n : Nat) (x1 : Nat) (x2 : Nat) (x3 : Nat) (l4 : List (Nat × Nat)) (a5 : Option Addr) (c6 : Nat) (r : Int × List (Int × Int)) (hF : F40 n x1 x2 x3 l4 = some r) (m : AMem) (h7 : Rd m a5 c6 2 l4.length (l4.map (eP (eN .u8) (eN .u8)))) :
    CallA E18w 40 [.agg #[.int .u8 ((x1 : Nat) : Int), .int .u8 ((x2 : Nat) : Int), .int .u16 ((x3 : Nat) : Int), .slice a5 l4.length c6]] m (fun v m' => ∃ x : Option Addr × Nat, v = .agg #[.int .i64 r.1, .slice x.1 x.2 x.2] ∧ Hp m m' [.sl x.1 2 x.2 (r.2.map (eP (eI .i64) (eI .i64)))]) := by
  unfold F40 at hF
  refine call_wk (m0 := m) (ps := [.rd a5 c6 2 l4.length (l4.map (eP (eN .u8) (eN .u8)))]) (N := 137) (rs := [.cell 2 25]) rfl Tryd.func40 rfl rfl rfl ((Hp.start m).inn rfl h7) ?_
  refine Wk.seq ?_
  refine Wk.region ?_
  refine Wo.x (o_bx rfl) gn rfl fun b8 => ?_
  refine Wo.x (o_al z25 rfl) gn rfl fun b9 => ?_
  refine Wo.nil ?_
  refine At.tn ?_
  refine Wk.seq ?_
  refine Wk.draw (by kernel_rfl) ?_
  refine Wo.od (o_fa (r := ptr b8 0) rfl (fa55_0 _ _)) rfl ?_
  refine Wo.od (o_ld (k := 1) t5 rfl rfl rfl) rfl ?_
  refine Wo.od (o_bi rfl rfl (ub_rem _ _ (by decide))) rfl ?_
  refine Wo.od (o_cv rfl (cv_i (by rw [u5]; rfl) u3)) rfl ?_
  refine Wo.od (o_bi rfl rfl (bin_add _ _ _)) rfl ?_
  refine Wo.od (o_fa (r := ptr b8 1) rfl (fa55_1 _ _)) rfl ?_
  refine Wo.od (o_ld (k := 1) t5 rfl rfl rfl) rfl ?_
  refine Wo.od (o_bi rfl rfl (ub_rem _ _ (by decide))) rfl ?_
  refine Wo.od (o_cv rfl (cv_i (by rw [u5]; rfl) u3)) rfl ?_
  refine Wo.od (o_bi rfl rfl (bin_add _ _ _)) rfl ?_
  refine Wo.od (o_as rfl) rfl ?_
  refine Wo.od (o_as rfl) rfl ?_
  refine Wo.nil ?_
  refine At.tn ?_
  refine Wk.seq ?_
  refine Wk.region ?_
  refine Wo.od (o_mv rfl) rfl ?_
  refine Wo.od (o_mv rfl) rfl ?_
  obtain ⟨y10, h11, hF⟩ := ob_some hF
  refine Wo.od (o_bi rfl rfl ((bin_mul _ _ _).trans (cI h11))) rfl ?_
  refine Wo.od (o_bd rfl z25 rfl (bd_s bs25 rfl rfl rfl)) rfl ?_
  refine Wo.x (o_al z25 rfl) gn rfl fun b12 => ?_
  refine Wo.o0 (o_st (k := 0) t25 rfl rfl rfl rfl rfl) ?_
  refine Wo.nil ?_
  refine At.tn ?_
  refine Wk.seq ?_
  refine Wk.region ?_
  refine Wo.od (o_as rfl) rfl ?_
  refine Wo.nil ?_
  refine At.tn ?_
  refine Wk.seq ?_
  refine Wk.seq ?_
  refine Wk.region ?_
  refine Wo.od (o_as rfl) rfl ?_
  refine Wo.nil ?_
  refine At.tn ?_
  refine Wk.block ?_
  obtain ⟨l2020, h3018, hF⟩ := ob_some hF
  refine Wk.cut (G := (fun (r : List (Int × Int)) (g : Option Addr) => match r, g with | l2020, a2021 => ⟨(.exit 0), [(2, ptr b9 0), (5, ptr b12 0)], [.obj b9 (.cells [.int .i64 0, .slice none 0 0] .own), .obj b12 (.cells [.int .i64 y10, .slice a2021 l2020.length l2020.length] .own), .sl a2021 2 l2020.length (l2020.map (eP (eI .i64) (eI .i64)))]⟩) l2020) ?_ ?_
  · refine Wk.weak (fs' := [(1, ptr b8 0), (2, ptr b9 0), (3, .int .i64 (IntKind.wrap .i64 (1 + (IntKind.wrap .i64 ((x1 % 4 : Nat) : Int))))), (5, ptr b12 0), (6, .int .i64 0), (7, .int .i64 0)]) (ps' := [.obj b8 (.cells [.int .u8 ((x1 : Nat) : Int), .int .u8 ((x2 : Nat) : Int), .int .u16 ((x3 : Nat) : Int), .slice a5 l4.length c6] .own), .rd a5 c6 2 l4.length (l4.map (eP (eN .u8) (eN .u8))), .obj b9 (.cells [.int .i64 0, .slice none 0 0] .own), .obj b12 (.cells [.int .i64 y10, .slice none ([] : List (Int × Int)).length ([] : List (Int × Int)).length] .own), .sl none 2 ([] : List (Int × Int)).length (([] : List (Int × Int)).map (eP (eI .i64) (eI .i64)))]) (sc rfl (sc rfl (sc rfl (sc rfl (sc rfl (sc rfl sn)))))) (Turn.trans (Turn.nil 2 rfl) (Turn.picks [3, 4, 2, 1, 0] rfl rfl)) ?_
    refine Wk.loop (σ := Int × List (Int × Int) × Int × Int) (ρ := List (Int × Int)) (γ := Option Addr) (δ := fun _ => Option Addr) _ (fun (s : Int × List (Int × Int) × Int × Int) (g : Option Addr) => match s, g with | (v1014, l1015, v1017, v1018), a1016 => ⟨.normal, [(1, ptr b8 0), (2, ptr b9 0), (3, .int .i64 v1014), (5, ptr b12 0), (6, .int .i64 v1017), (7, .int .i64 v1018)], [.obj b8 (.cells [.int .u8 ((x1 : Nat) : Int), .int .u8 ((x2 : Nat) : Int), .int .u16 ((x3 : Nat) : Int), .slice a5 l4.length c6] .own), .rd a5 c6 2 l4.length (l4.map (eP (eN .u8) (eN .u8))), .obj b9 (.cells [.int .i64 0, .slice none 0 0] .own), .obj b12 (.cells [.int .i64 y10, .slice a1016 l1015.length l1015.length] .own), .sl a1016 2 l1015.length (l1015.map (eP (eI .i64) (eI .i64)))]⟩) (fun (r : List (Int × Int)) (g : Option Addr) => match r, g with | l2020, a2021 => ⟨(.exit 0), [(2, ptr b9 0), (5, ptr b12 0)], [.obj b9 (.cells [.int .i64 0, .slice none 0 0] .own), .obj b12 (.cells [.int .i64 y10, .slice a2021 l2020.length l2020.length] .own), .sl a2021 2 l2020.length (l2020.map (eP (eI .i64) (eI .i64)))]⟩) ?_ (fun _ _ => rfl) (fun r d => by intro e; cases e) _ _ _ h3018 none
    clear hF h3018
    rintro ⟨v1014, l1015, v1017, v1018⟩ a1016 r hF
    unfold L40_3 at hF
    refine Wk.seq ?_
    refine Wk.seq ?_
    refine Wk.region ?_
    refine Wo.od (o_mv rfl) rfl ?_
    refine Wo.od (o_fa (r := ptr b12 0) rfl (fa25_0 _ _)) rfl ?_
    refine Wo.od (o_ld (k := 3) t3 rfl rfl rfl) rfl ?_
    refine Wo.od (o_bi rfl rfl (bin_lss _ _ _)) rfl ?_
    refine Wo.nil ?_
    refine At.tn ?_
    rcases br_some hF with ⟨h2022, hF⟩ | ⟨h2022, hF⟩
    · refine Wk.condT rfl h2022 ?_
      refine Wk.skip ?_
      refine At.tn ?_
      refine Wk.seq ?_
      refine Wk.block ?_
      refine Wk.seq ?_
      refine Wk.region ?_
      refine Wo.od (o_mv rfl) rfl ?_
      refine Wo.od (o_bi rfl rfl (bin_add _ _ _)) rfl ?_
      refine Wo.od (o_as rfl) rfl ?_
      refine Wo.nil ?_
      refine At.tn ?_
      refine Wk.block ?_
      obtain ⟨r3017, h3016, hF⟩ := ob_some hF
      refine Wk.cut (G := (fun (r : List (Int × Int) × Int) (g : Option Addr) => match r, g with | (l2687, v2689), a2688 => ⟨(.exit 2), [(1, ptr b8 0), (2, ptr b9 0), (3, .int .i64 v1014), (5, ptr b12 0), (6, .int .i64 v2689), (7, .int .i64 v1018)], [.obj b8 (.cells [.int .u8 ((x1 : Nat) : Int), .int .u8 ((x2 : Nat) : Int), .int .u16 ((x3 : Nat) : Int), .slice a5 l4.length c6] .own), .rd a5 c6 2 l4.length (l4.map (eP (eN .u8) (eN .u8))), .obj b9 (.cells [.int .i64 0, .slice none 0 0] .own), .obj b12 (.cells [.int .i64 y10, .slice a2688 l2687.length l2687.length] .own), .sl a2688 2 l2687.length (l2687.map (eP (eI .i64) (eI .i64)))]⟩) r3017) ?_ ?_
      · refine Wk.weak (fs' := [(1, ptr b8 0), (2, ptr b9 0), (3, .int .i64 v1014), (5, ptr b12 0), (6, .int .i64 v1017), (7, .int .i64 v1018), (8, .int .i64 (IntKind.wrap .i64 (v1018 + 1)))]) (ps' := [.obj b8 (.cells [.int .u8 ((x1 : Nat) : Int), .int .u8 ((x2 : Nat) : Int), .int .u16 ((x3 : Nat) : Int), .slice a5 l4.length c6] .own), .rd a5 c6 2 l4.length (l4.map (eP (eN .u8) (eN .u8))), .obj b9 (.cells [.int .i64 0, .slice none 0 0] .own), .obj b12 (.cells [.int .i64 y10, .slice a1016 l1015.length l1015.length] .own), .sl a1016 2 l1015.length (l1015.map (eP (eI .i64) (eI .i64)))]) (sc rfl (sc rfl (sc rfl (sc rfl (sc rfl (sc rfl (sc rfl sn))))))) (Turn.picks [0, 1, 2, 3, 4] rfl rfl) ?_
        refine Wk.loop (σ := List (Int × Int) × Int × Int) (ρ := List (Int × Int) × Int) (γ := Option Addr) (δ := fun _ => Option Addr) _ (fun (s : List (Int × Int) × Int × Int) (g : Option Addr) => match s, g with | (l2353, v2355, v2356), a2354 => ⟨.normal, [(1, ptr b8 0), (2, ptr b9 0), (3, .int .i64 v1014), (5, ptr b12 0), (6, .int .i64 v2355), (7, .int .i64 v1018), (8, .int .i64 v2356)], [.obj b8 (.cells [.int .u8 ((x1 : Nat) : Int), .int .u8 ((x2 : Nat) : Int), .int .u16 ((x3 : Nat) : Int), .slice a5 l4.length c6] .own), .rd a5 c6 2 l4.length (l4.map (eP (eN .u8) (eN .u8))), .obj b9 (.cells [.int .i64 0, .slice none 0 0] .own), .obj b12 (.cells [.int .i64 y10, .slice a2354 l2353.length l2353.length] .own), .sl a2354 2 l2353.length (l2353.map (eP (eI .i64) (eI .i64)))]⟩) (fun (r : List (Int × Int) × Int) (g : Option Addr) => match r, g with | (l2687, v2689), a2688 => ⟨(.exit 2), [(1, ptr b8 0), (2, ptr b9 0), (3, .int .i64 v1014), (5, ptr b12 0), (6, .int .i64 v2689), (7, .int .i64 v1018)], [.obj b8 (.cells [.int .u8 ((x1 : Nat) : Int), .int .u8 ((x2 : Nat) : Int), .int .u16 ((x3 : Nat) : Int), .slice a5 l4.length c6] .own), .rd a5 c6 2 l4.length (l4.map (eP (eN .u8) (eN .u8))), .obj b9 (.cells [.int .i64 0, .slice none 0 0] .own), .obj b12 (.cells [.int .i64 y10, .slice a2688 l2687.length l2687.length] .own), .sl a2688 2 l2687.length (l2687.map (eP (eI .i64) (eI .i64)))]⟩) ?_ (fun _ _ => rfl) (fun r d => by intro e; cases e) _ _ _ h3016 a1016
        clear hF h3016
        rintro ⟨l2353, v2355, v2356⟩ a2354 r hF
        unfold L40_2 at hF
        refine Wk.seq ?_
        refine Wk.seq ?_
        refine Wk.region ?_
        refine Wo.od (o_mv rfl) rfl ?_
        refine Wo.od (o_fa (r := ptr b12 0) rfl (fa25_0 _ _)) rfl ?_
        refine Wo.od (o_ld (k := 3) t3 rfl rfl rfl) rfl ?_
        refine Wo.od (o_bi rfl rfl (bin_lss _ _ _)) rfl ?_
        refine Wo.nil ?_
        refine At.tn ?_
        rcases br_some hF with ⟨h2690, hF⟩ | ⟨h2690, hF⟩
        · refine Wk.condT rfl h2690 ?_
          refine Wk.skip ?_
          refine At.tn ?_
          refine Wk.seq ?_
          obtain ⟨r3015, h3014, hF⟩ := ob_some hF
          refine Wk.cut (G := (fun (r : List (Int × Int) × Int) (g : Option Addr) => match r, g with | (l2851, v2853), a2852 => ⟨.normal, [(1, ptr b8 0), (2, ptr b9 0), (3, .int .i64 v1014), (5, ptr b12 0), (6, .int .i64 v2853), (7, .int .i64 v1018), (8, .int .i64 v2356)], [.obj b8 (.cells [.int .u8 ((x1 : Nat) : Int), .int .u8 ((x2 : Nat) : Int), .int .u16 ((x3 : Nat) : Int), .slice a5 l4.length c6] .own), .rd a5 c6 2 l4.length (l4.map (eP (eN .u8) (eN .u8))), .obj b9 (.cells [.int .i64 0, .slice none 0 0] .own), .obj b12 (.cells [.int .i64 y10, .slice a2852 l2851.length l2851.length] .own), .sl a2852 2 l2851.length (l2851.map (eP (eI .i64) (eI .i64)))]⟩) r3015) ?_ ?_
          · clear hF
            revert r3015
            intro r hF
            refine Wk.block ?_
            refine Wk.seq ?_
            obtain ⟨v2857, h2861, hF⟩ := ob_some hF
            refine Wk.cut (G := (fun (r : Bool) (g : Unit) => match r, g with | v2857, _ => ⟨.normal, [(1, ptr b8 0), (2, ptr b9 0), (3, .int .i64 v1014), (5, ptr b12 0), (6, .int .i64 v2355), (7, .int .i64 v1018), (8, .int .i64 v2356), (9, .bool v2857)], [.obj b8 (.cells [.int .u8 ((x1 : Nat) : Int), .int .u8 ((x2 : Nat) : Int), .int .u16 ((x3 : Nat) : Int), .slice a5 l4.length c6] .own), .rd a5 c6 2 l4.length (l4.map (eP (eN .u8) (eN .u8))), .obj b9 (.cells [.int .i64 0, .slice none 0 0] .own), .obj b12 (.cells [.int .i64 y10, .slice a2354 l2353.length l2353.length] .own), .sl a2354 2 l2353.length (l2353.map (eP (eI .i64) (eI .i64)))]⟩) v2857) ?_ ?_
            · clear hF
              revert v2857
              intro r hF
              refine Wk.region ?_
              refine Wo.od (o_mv rfl) rfl ?_
              refine Wo.od (o_mv rfl) rfl ?_
              refine Wo.od (o_mv rfl) rfl ?_
              refine Wo.od (o_bi rfl rfl (bin_add _ _ _)) rfl ?_
              refine Wo.od (o_bi rfl rfl (bin_eql _ _ _)) rfl ?_
              refine Wo.od (o_mv rfl) rfl ?_
              rcases br_some hF with ⟨h2858, hF⟩ | ⟨h2858, hF⟩
              · refine Wo.s (gg rfl rfl (eTF h2858)) rfl ?_
                refine Wo.s (gg rfl rfl (eTF h2858)) rfl ?_
                refine Wo.s (gg rfl rfl (eTF h2858)) rfl ?_
                refine Wo.s (gg rfl rfl (eTF h2858)) rfl ?_
                refine Wo.s (gg rfl rfl (eTF h2858)) rfl ?_
                refine Wo.s (gu rfl rfl) rfl ?_
                refine Wo.s (gu rfl rfl) rfl ?_
                refine Wo.s (gu rfl rfl) rfl ?_
                refine Wo.s (gu rfl rfl) rfl ?_
                refine Wo.s (gg rfl rfl (eTF h2858)) rfl ?_
                refine Wo.od (o_pt rfl h2858 rfl) rfl ?_
                refine Wo.od (o_as rfl) rfl ?_
                refine Wo.nil ?_
                cases hF
                exact At.en () rfl (sc rfl (sc rfl (sc rfl (sc rfl (sc rfl (sc rfl (sc rfl (sc rfl sn)))))))) (Turn.picks [0, 1, 2, 3, 4] rfl rfl)
              · refine Wo.og (o_mv rfl) (gg rfl rfl (eFF h2858)) rfl ?_
                refine Wo.og (o_mv rfl) (gg rfl rfl (eFF h2858)) rfl ?_
                refine Wo.og (o_bi rfl rfl (bin_add _ _ _)) (gg rfl rfl (eFF h2858)) rfl ?_
                refine Wo.og (o_bi rfl rfl (bin_eql _ _ _)) (gg rfl rfl (eFF h2858)) rfl ?_
                refine Wo.og (o_mv rfl) (gg rfl rfl (eFF h2858)) rfl ?_
                rcases br_some hF with ⟨h2859, hF⟩ | ⟨h2859, hF⟩
                · refine Wo.og (o_mv rfl) (gg rfl rfl (eTT h2859)) rfl ?_
                  refine Wo.og (o_mv rfl) (gg rfl rfl (eTT h2859)) rfl ?_
                  obtain ⟨h2860, hF⟩ := gd_some hF
                  refine Wo.og (o_bi rfl rfl (ib_rem _ _ h2860)) (gg rfl rfl (eTT h2859)) rfl ?_
                  refine Wo.og (o_bi rfl rfl (ib_neq _ _)) (gg rfl rfl (eTT h2859)) rfl ?_
                  refine Wo.og (o_pt rfl h2859 rfl) (gg rfl rfl (eFF h2858)) rfl ?_
                  refine Wo.od (o_pf rfl h2858 rfl) rfl ?_
                  refine Wo.od (o_as rfl) rfl ?_
                  refine Wo.nil ?_
                  cases hF
                  exact At.en () rfl (sc rfl (sc rfl (sc rfl (sc rfl (sc rfl (sc rfl (sc rfl (sc rfl sn)))))))) (Turn.picks [0, 1, 2, 3, 4] rfl rfl)
                · refine Wo.s (gg rfl rfl (eFT h2859)) rfl ?_
                  refine Wo.s (gg rfl rfl (eFT h2859)) rfl ?_
                  refine Wo.s (gg rfl rfl (eFT h2859)) rfl ?_
                  refine Wo.s (gg rfl rfl (eFT h2859)) rfl ?_
                  refine Wo.og (o_pf rfl h2859 rfl) (gg rfl rfl (eFF h2858)) rfl ?_
                  refine Wo.od (o_pf rfl h2858 rfl) rfl ?_
                  refine Wo.od (o_as rfl) rfl ?_
                  refine Wo.nil ?_
                  cases hF
                  exact At.en () rfl (sc rfl (sc rfl (sc rfl (sc rfl (sc rfl (sc rfl (sc rfl (sc rfl sn)))))))) (Turn.picks [0, 1, 2, 3, 4] rfl rfl)
            · clear h2861
              rintro ⟨⟩
              refine At.tn ?_
              refine Wk.seq ?_
              obtain ⟨r2914, h2913, hF⟩ := ob_some hF
              refine Wk.cut (G := (fun (r : Int × Bool) (g : Unit) => match r, g with | (v2887, v2888), _ => ⟨.normal, [(1, ptr b8 0), (2, ptr b9 0), (3, .int .i64 v1014), (5, ptr b12 0), (6, .int .i64 v2887), (7, .int .i64 v1018), (8, .int .i64 v2356), (9, .bool v2888)], [.obj b8 (.cells [.int .u8 ((x1 : Nat) : Int), .int .u8 ((x2 : Nat) : Int), .int .u16 ((x3 : Nat) : Int), .slice a5 l4.length c6] .own), .rd a5 c6 2 l4.length (l4.map (eP (eN .u8) (eN .u8))), .obj b9 (.cells [.int .i64 0, .slice none 0 0] .own), .obj b12 (.cells [.int .i64 y10, .slice a2354 l2353.length l2353.length] .own), .sl a2354 2 l2353.length (l2353.map (eP (eI .i64) (eI .i64)))]⟩) r2914) ?_ ?_
              · clear hF
                revert r2914
                intro r hF
                refine Wk.seq ?_
                refine Wk.region ?_
                refine Wo.od (o_mv rfl) rfl ?_
                refine Wo.nil ?_
                refine At.tn ?_
                rcases br_some hF with ⟨h2889, hF⟩ | ⟨h2889, hF⟩
                · refine Wk.condT rfl h2889 ?_
                  refine Wk.seq ?_
                  obtain ⟨v2900, h2911, hF⟩ := ob_some hF
                  refine Wk.cut (G := (fun (r : Bool) (g : Unit) => match r, g with | v2900, _ => ⟨.normal, [(1, ptr b8 0), (2, ptr b9 0), (3, .int .i64 v1014), (5, ptr b12 0), (6, .int .i64 v2355), (7, .int .i64 v1018), (8, .int .i64 v2356), (9, .bool v2900)], [.obj b8 (.cells [.int .u8 ((x1 : Nat) : Int), .int .u8 ((x2 : Nat) : Int), .int .u16 ((x3 : Nat) : Int), .slice a5 l4.length c6] .own), .rd a5 c6 2 l4.length (l4.map (eP (eN .u8) (eN .u8))), .obj b9 (.cells [.int .i64 0, .slice none 0 0] .own), .obj b12 (.cells [.int .i64 y10, .slice a2354 l2353.length l2353.length] .own), .sl a2354 2 l2353.length (l2353.map (eP (eI .i64) (eI .i64)))]⟩) v2900) ?_ ?_
                  · clear hF
                    revert v2900
                    intro r hF
                    refine Wk.seq ?_
                    obtain ⟨v2904, h2908, hF⟩ := ob_some hF
                    refine Wk.cut (G := (fun (r : Bool) (g : Unit) => match r, g with | v2904, _ => ⟨.normal, [(1, ptr b8 0), (2, ptr b9 0), (3, .int .i64 v1014), (5, ptr b12 0), (6, .int .i64 v2355), (7, .int .i64 v1018), (8, .int .i64 v2356), (9, .bool v2857), (72, .bool v2904)], [.obj b8 (.cells [.int .u8 ((x1 : Nat) : Int), .int .u8 ((x2 : Nat) : Int), .int .u16 ((x3 : Nat) : Int), .slice a5 l4.length c6] .own), .rd a5 c6 2 l4.length (l4.map (eP (eN .u8) (eN .u8))), .obj b9 (.cells [.int .i64 0, .slice none 0 0] .own), .obj b12 (.cells [.int .i64 y10, .slice a2354 l2353.length l2353.length] .own), .sl a2354 2 l2353.length (l2353.map (eP (eI .i64) (eI .i64)))]⟩) v2904) ?_ ?_
                    · clear hF
                      revert v2904
                      intro r hF
                      refine Wk.region ?_
                      refine Wo.od (o_mv rfl) rfl ?_
                      refine Wo.od (o_bi rfl rfl (ib_rem _ _ (by decide))) rfl ?_
                      refine Wo.od (o_bi rfl rfl (bin_eql _ _ _)) rfl ?_
                      refine Wo.od (o_mv rfl) rfl ?_
                      rcases br_some hF with ⟨h2905, hF⟩ | ⟨h2905, hF⟩
                      · refine Wo.og (o_fa (r := ptr b8 2) rfl (fa55_2 _ _)) (gg rfl rfl (eTT h2905)) rfl ?_
                        refine Wo.og (o_ld (k := 0) t52 rfl rfl rfl) (gg rfl rfl (eTT h2905)) rfl ?_
                        refine Wo.og (o_mv rfl) (gg rfl rfl (eTT h2905)) rfl ?_
                        refine Wo.og (o_bi rfl rfl (ib_quo _ _ (by decide))) (gg rfl rfl (eTT h2905)) rfl ?_
                        refine Wo.og (o_bi rfl rfl (ib_rem _ _ (by decide))) (gg rfl rfl (eTT h2905)) rfl ?_
                        refine Wo.og (o_cv rfl (cv_u (by rw [u3]; rfl) u102 rfl)) (gg rfl rfl (eTT h2905)) rfl ?_
                        obtain ⟨y2906, h2907, hF⟩ := ob_some hF
                        refine Wo.og (o_bi rfl rfl ((ub_shr _ _ (nn _)).trans (cN h2907))) (gg rfl rfl (eTT h2905)) rfl ?_
                        refine Wo.og (o_bi rfl rfl (ub_and rfl _ _)) (gg rfl rfl (eTT h2905)) rfl ?_
                        refine Wo.og (o_bi rfl rfl (ub_eql _ _)) (gg rfl rfl (eTT h2905)) rfl ?_
                        refine Wo.od (o_pt rfl h2905 rfl) rfl ?_
                        refine Wo.nil ?_
                        cases hF
                        exact At.en () rfl (sc rfl (sc rfl (sc rfl (sc rfl (sc rfl (sc rfl (sc rfl (sc rfl (sc rfl sn))))))))) (Turn.picks [0, 1, 2, 3, 4] rfl rfl)
                      · refine Wo.s (gg rfl rfl (eFT h2905)) rfl ?_
                        refine Wo.s (gg rfl rfl (eFT h2905)) rfl ?_
                        refine Wo.s (gg rfl rfl (eFT h2905)) rfl ?_
                        refine Wo.s (gg rfl rfl (eFT h2905)) rfl ?_
                        refine Wo.s (gg rfl rfl (eFT h2905)) rfl ?_
                        refine Wo.s (gg rfl rfl (eFT h2905)) rfl ?_
                        refine Wo.s (gg rfl rfl (eFT h2905)) rfl ?_
                        refine Wo.s (gg rfl rfl (eFT h2905)) rfl ?_
                        refine Wo.s (gg rfl rfl (eFT h2905)) rfl ?_
                        refine Wo.od (o_pf rfl h2905 rfl) rfl ?_
                        refine Wo.nil ?_
                        cases hF
                        exact At.en () rfl (sc rfl (sc rfl (sc rfl (sc rfl (sc rfl (sc rfl (sc rfl (sc rfl (sc rfl sn))))))))) (Turn.picks [0, 1, 2, 3, 4] rfl rfl)
                    · clear h2908
                      rintro ⟨⟩
                      refine At.tn ?_
                      rcases br_some hF with ⟨h2910, hF⟩ | ⟨h2910, hF⟩
                      · refine Wk.condT rfl h2910 ?_
                        refine Wk.region ?_
                        refine Wo.od (o_as rfl) rfl ?_
                        refine Wo.nil ?_
                        cases hF
                        exact At.en () rfl (sc rfl (sc rfl (sc rfl (sc rfl (sc rfl (sc rfl (sc rfl (sc rfl sn)))))))) (Turn.picks [0, 1, 2, 3, 4] rfl rfl)
                      · refine Wk.condF rfl h2910 ?_
                        refine Wk.skip ?_
                        have hr := Option.some.inj hF
                        subst r
                        exact At.en () rfl (sc rfl (sc rfl (sc rfl (sc rfl (sc rfl (sc rfl (sc rfl (sc rfl sn)))))))) (Turn.picks [0, 1, 2, 3, 4] rfl rfl)
                  · clear h2911
                    rintro ⟨⟩
                    refine At.tn ?_
                    refine Wk.region ?_
                    refine Wo.od (o_mv rfl) rfl ?_
                    refine Wo.od (o_bi rfl rfl (bin_add _ _ _)) rfl ?_
                    refine Wo.od (o_as rfl) rfl ?_
                    refine Wo.nil ?_
                    cases hF
                    exact At.en () rfl (sc rfl (sc rfl (sc rfl (sc rfl (sc rfl (sc rfl (sc rfl (sc rfl sn)))))))) (Turn.picks [0, 1, 2, 3, 4] rfl rfl)
                · refine Wk.condF rfl h2889 ?_
                  refine Wk.skip ?_
                  cases hF
                  exact At.en () rfl (sc rfl (sc rfl (sc rfl (sc rfl (sc rfl (sc rfl (sc rfl (sc rfl sn)))))))) (Turn.picks [0, 1, 2, 3, 4] rfl rfl)
              · clear h2913
                obtain ⟨v2887, v2888⟩ := r2914
                rintro ⟨⟩
                refine At.tn ?_
                refine Wk.seq ?_
                refine Wk.seq ?_
                refine Wk.region ?_
                refine Wo.od (o_as rfl) rfl ?_
                refine Wo.nil ?_
                refine At.tn ?_
                refine Wk.block ?_
                obtain ⟨v2964, h3008, hF⟩ := ob_some hF
                refine Wk.cut (G := (fun (r : Bool) (g : Unit) => match r, g with | v2964, _ => ⟨(.exit 4), [(1, ptr b8 0), (2, ptr b9 0), (3, .int .i64 v1014), (5, ptr b12 0), (6, .int .i64 v2887), (7, .int .i64 v1018), (8, .int .i64 v2356), (9, .bool v2964)], [.obj b8 (.cells [.int .u8 ((x1 : Nat) : Int), .int .u8 ((x2 : Nat) : Int), .int .u16 ((x3 : Nat) : Int), .slice a5 l4.length c6] .own), .rd a5 c6 2 l4.length (l4.map (eP (eN .u8) (eN .u8))), .obj b9 (.cells [.int .i64 0, .slice none 0 0] .own), .obj b12 (.cells [.int .i64 y10, .slice a2354 l2353.length l2353.length] .own), .sl a2354 2 l2353.length (l2353.map (eP (eI .i64) (eI .i64)))]⟩) v2964) ?_ ?_
                · refine Wk.weak (fs' := [(1, ptr b8 0), (2, ptr b9 0), (3, .int .i64 v1014), (5, ptr b12 0), (6, .int .i64 v2887), (7, .int .i64 v1018), (8, .int .i64 v2356), (9, .bool v2888), (10, .int .i64 0)]) (ps' := [.obj b8 (.cells [.int .u8 ((x1 : Nat) : Int), .int .u8 ((x2 : Nat) : Int), .int .u16 ((x3 : Nat) : Int), .slice a5 l4.length c6] .own), .rd a5 c6 2 l4.length (l4.map (eP (eN .u8) (eN .u8))), .obj b9 (.cells [.int .i64 0, .slice none 0 0] .own), .obj b12 (.cells [.int .i64 y10, .slice a2354 l2353.length l2353.length] .own), .sl a2354 2 l2353.length (l2353.map (eP (eI .i64) (eI .i64)))]) (sc rfl (sc rfl (sc rfl (sc rfl (sc rfl (sc rfl (sc rfl (sc rfl (sc rfl sn))))))))) (Turn.picks [0, 1, 2, 3, 4] rfl rfl) ?_
                  refine Wk.loop (σ := Bool × Int) (ρ := Bool) (γ := Unit) (δ := fun _ => Unit) _ (fun (s : Bool × Int) (g : Unit) => match s, g with | (v2917, v2918), _ => ⟨.normal, [(1, ptr b8 0), (2, ptr b9 0), (3, .int .i64 v1014), (5, ptr b12 0), (6, .int .i64 v2887), (7, .int .i64 v1018), (8, .int .i64 v2356), (9, .bool v2917), (10, .int .i64 v2918)], [.obj b8 (.cells [.int .u8 ((x1 : Nat) : Int), .int .u8 ((x2 : Nat) : Int), .int .u16 ((x3 : Nat) : Int), .slice a5 l4.length c6] .own), .rd a5 c6 2 l4.length (l4.map (eP (eN .u8) (eN .u8))), .obj b9 (.cells [.int .i64 0, .slice none 0 0] .own), .obj b12 (.cells [.int .i64 y10, .slice a2354 l2353.length l2353.length] .own), .sl a2354 2 l2353.length (l2353.map (eP (eI .i64) (eI .i64)))]⟩) (fun (r : Bool) (g : Unit) => match r, g with | v2964, _ => ⟨(.exit 4), [(1, ptr b8 0), (2, ptr b9 0), (3, .int .i64 v1014), (5, ptr b12 0), (6, .int .i64 v2887), (7, .int .i64 v1018), (8, .int .i64 v2356), (9, .bool v2964)], [.obj b8 (.cells [.int .u8 ((x1 : Nat) : Int), .int .u8 ((x2 : Nat) : Int), .int .u16 ((x3 : Nat) : Int), .slice a5 l4.length c6] .own), .rd a5 c6 2 l4.length (l4.map (eP (eN .u8) (eN .u8))), .obj b9 (.cells [.int .i64 0, .slice none 0 0] .own), .obj b12 (.cells [.int .i64 y10, .slice a2354 l2353.length l2353.length] .own), .sl a2354 2 l2353.length (l2353.map (eP (eI .i64) (eI .i64)))]⟩) ?_ (fun _ _ => rfl) (fun r d => by intro e; cases e) _ _ _ h3008 ()
                  clear hF h3008
                  rintro ⟨v2917, v2918⟩ ⟨⟩ r hF
                  unfold L40_1 at hF
                  refine Wk.seq ?_
                  refine Wk.seq ?_
                  obtain ⟨v2972, h2974, hF⟩ := ob_some hF
                  refine Wk.cut (G := (fun (r : Bool) (g : Unit) => match r, g with | v2972, _ => ⟨.normal, [(1, ptr b8 0), (2, ptr b9 0), (3, .int .i64 v1014), (5, ptr b12 0), (6, .int .i64 v2887), (7, .int .i64 v1018), (8, .int .i64 v2356), (9, .bool v2917), (10, .int .i64 v2918), (83, .bool v2972)], [.obj b8 (.cells [.int .u8 ((x1 : Nat) : Int), .int .u8 ((x2 : Nat) : Int), .int .u16 ((x3 : Nat) : Int), .slice a5 l4.length c6] .own), .rd a5 c6 2 l4.length (l4.map (eP (eN .u8) (eN .u8))), .obj b9 (.cells [.int .i64 0, .slice none 0 0] .own), .obj b12 (.cells [.int .i64 y10, .slice a2354 l2353.length l2353.length] .own), .sl a2354 2 l2353.length (l2353.map (eP (eI .i64) (eI .i64)))]⟩) v2972) ?_ ?_
                  · clear hF
                    revert v2972
                    intro r hF
                    refine Wk.region ?_
                    refine Wo.od (o_mv rfl) rfl ?_
                    refine Wo.od (o_fa (r := ptr b8 3) rfl (fa55_3 _ _)) rfl ?_
                    refine Wo.od (o_ld (k := 0) t53 rfl rfl rfl) rfl ?_
                    refine Wo.od (o_ln (k := 1) u53 rfl rfl (.inl rfl)) rfl ?_
                    refine Wo.od (o_bi rfl rfl (bin_lss _ _ _)) rfl ?_
                    refine Wo.od (o_mv rfl) rfl ?_
                    rcases br_some hF with ⟨h2973, hF⟩ | ⟨h2973, hF⟩
                    · refine Wo.og (o_mv rfl) (gg rfl rfl (eTT h2973)) rfl ?_
                      refine Wo.og (o_bi rfl rfl (bin_lss _ _ _)) (gg rfl rfl (eTT h2973)) rfl ?_
                      refine Wo.od (o_pt rfl h2973 rfl) rfl ?_
                      refine Wo.nil ?_
                      cases hF
                      exact At.en () rfl (sc rfl (sc rfl (sc rfl (sc rfl (sc rfl (sc rfl (sc rfl (sc rfl (sc rfl (sc rfl sn)))))))))) (Turn.picks [0, 1, 2, 3, 4] rfl rfl)
                    · refine Wo.s (gg rfl rfl (eFT h2973)) rfl ?_
                      refine Wo.s (gg rfl rfl (eFT h2973)) rfl ?_
                      refine Wo.od (o_pf rfl h2973 rfl) rfl ?_
                      refine Wo.nil ?_
                      cases hF
                      exact At.en () rfl (sc rfl (sc rfl (sc rfl (sc rfl (sc rfl (sc rfl (sc rfl (sc rfl (sc rfl (sc rfl sn)))))))))) (Turn.picks [0, 1, 2, 3, 4] rfl rfl)
                  · clear h2974
                    rintro ⟨⟩
                    refine At.tn ?_
                    rcases br_some hF with ⟨h2976, hF⟩ | ⟨h2976, hF⟩
                    · refine Wk.condT rfl h2976 ?_
                      refine Wk.skip ?_
                      refine At.tn ?_
                      refine Wk.seq ?_
                      obtain ⟨v2991, h3006, hF⟩ := ob_some hF
                      refine Wk.cut (G := (fun (r : Bool) (g : Unit) => match r, g with | v2991, _ => ⟨.normal, [(1, ptr b8 0), (2, ptr b9 0), (3, .int .i64 v1014), (5, ptr b12 0), (6, .int .i64 v2887), (7, .int .i64 v1018), (8, .int .i64 v2356), (9, .bool v2991), (10, .int .i64 v2918)], [.obj b8 (.cells [.int .u8 ((x1 : Nat) : Int), .int .u8 ((x2 : Nat) : Int), .int .u16 ((x3 : Nat) : Int), .slice a5 l4.length c6] .own), .rd a5 c6 2 l4.length (l4.map (eP (eN .u8) (eN .u8))), .obj b9 (.cells [.int .i64 0, .slice none 0 0] .own), .obj b12 (.cells [.int .i64 y10, .slice a2354 l2353.length l2353.length] .own), .sl a2354 2 l2353.length (l2353.map (eP (eI .i64) (eI .i64)))]⟩) v2991) ?_ ?_
                      · clear hF
                        revert v2991
                        intro r hF
                        refine Wk.block ?_
                        refine Wk.seq ?_
                        refine Wk.draw (by kernel_rfl) ?_
                        refine Wo.od (o_fa (r := ptr b8 3) rfl (fa55_3 _ _)) rfl ?_
                        refine Wo.od (o_ld (k := 0) t53 rfl rfl rfl) rfl ?_
                        refine Wo.od (o_mv rfl) rfl ?_
                        obtain ⟨h2992, hF⟩ := gd_some hF
                        replace h2992 := inB_some h2992
                        refine Wo.openr (k := 1) rfl (pos_of h2992) ?_
                        rintro b2993 o2994 rfl
                        refine Wo.og (o_ixs s53 rfl rfl h2992) gn rfl ?_
                        refine Wo.od (o_ia (r := ptr b2993 (o2994 + v2918.toNat * 2 + 0)) rfl rfl (ia_c ar103 (i := 0) (by decide))) rfl ?_
                        obtain ⟨⟨x2995, x2996⟩, h2997, hF⟩ := ob_some hF
                        refine Wo.od (o_ldr (k := 0) t5 rfl rfl (map_at h2997) rfl rfl) rfl ?_
                        refine Wo.od (o_cv rfl (cv_i (by rw [u5]; rfl) u3)) rfl ?_
                        refine Wo.od (o_fa (r := ptr b12 0) rfl (fa25_0 _ _)) rfl ?_
                        refine Wo.od (o_ld (k := 4) t3 rfl rfl rfl) rfl ?_
                        obtain ⟨h2998, hF⟩ := gd_some hF
                        refine Wo.od (o_bi rfl rfl (ib_rem _ _ h2998)) rfl ?_
                        refine Wo.od (o_fa (r := ptr b8 3) rfl (fa55_3 _ _)) rfl ?_
                        refine Wo.od (o_ld (k := 1) t53 rfl rfl rfl) rfl ?_
                        refine Wo.od (o_mv rfl) rfl ?_
                        obtain ⟨h2999, hF⟩ := gd_some hF
                        replace h2999 := inB_some h2999
                        refine Wo.og (o_ixs s53 rfl rfl h2999) gn rfl ?_
                        refine Wo.od (o_ia (r := ptr b2993 (o2994 + v2918.toNat * 2 + 1)) rfl rfl (ia_c ar103 (i := 1) (by decide))) rfl ?_
                        refine Wo.od (o_ldr (k := 0) t5 rfl rfl (map_at h2997) rfl rfl) rfl ?_
                        refine Wo.od (o_cv rfl (cv_i (by rw [u5]; rfl) u3)) rfl ?_
                        refine Wo.od (o_fa (r := ptr b12 0) rfl (fa25_0 _ _)) rfl ?_
                        refine Wo.od (o_ld (k := 4) t3 rfl rfl rfl) rfl ?_
                        obtain ⟨h3000, hF⟩ := gd_some hF
                        refine Wo.od (o_bi rfl rfl (ib_rem _ _ h3000)) rfl ?_
                        refine Wo.od (o_as rfl) rfl ?_
                        refine Wo.od (o_as rfl) rfl ?_
                        refine Wo.nil ?_
                        refine At.tn ?_
                        refine Wk.region ?_
                        refine Wo.od (o_mv rfl) rfl ?_
                        refine Wo.od (o_mv rfl) rfl ?_
                        rcases br_some hF with ⟨h3001, hF⟩ | ⟨h3001, hF⟩
                        · refine Wo.s (gg rfl rfl (eTF h3001)) rfl ?_
                          refine Wo.s (gg rfl rfl (eTF h3001)) rfl ?_
                          refine Wo.s (gg rfl rfl (eTF h3001)) rfl ?_
                          refine Wo.s (gg rfl rfl (eTF h3001)) rfl ?_
                          refine Wo.s (gu rfl rfl) rfl ?_
                          refine Wo.s (gu rfl rfl) rfl ?_
                          refine Wo.s (gu rfl rfl) rfl ?_
                          refine Wo.s (gg rfl rfl (eTF h3001)) rfl ?_
                          refine Wo.od (o_pt rfl h3001 rfl) rfl ?_
                          refine Wo.od (o_mv rfl) rfl ?_
                          refine Wo.s (gg rfl rfl rfl) rfl ?_
                          refine Wo.s (gg rfl rfl rfl) rfl ?_
                          refine Wo.s (gg rfl rfl rfl) rfl ?_
                          refine Wo.s (gg rfl rfl rfl) rfl ?_
                          refine Wo.s (gu rfl rfl) rfl ?_
                          refine Wo.s (gu rfl rfl) rfl ?_
                          refine Wo.s (gu rfl rfl) rfl ?_
                          refine Wo.s (gg rfl rfl rfl) rfl ?_
                          refine Wo.od (o_pT rfl rfl) rfl ?_
                          refine Wo.od (o_as rfl) rfl ?_
                          refine Wo.nil ?_
                          refine At.bn ?_
                          cases hF
                          exact At.en () rfl (sc rfl (sc rfl (sc rfl (sc rfl (sc rfl (sc rfl (sc rfl (sc rfl (sc rfl sn))))))))) (Turn.picks [1, 2, 3, 4, 5] rfl rfl)
                        · refine Wo.og (o_mv rfl) (gg rfl rfl (eFF h3001)) rfl ?_
                          refine Wo.og (o_mv rfl) (gg rfl rfl (eFF h3001)) rfl ?_
                          refine Wo.og (o_bi rfl rfl (bin_eql _ _ _)) (gg rfl rfl (eFF h3001)) rfl ?_
                          refine Wo.og (o_mv rfl) (gg rfl rfl (eFF h3001)) rfl ?_
                          rcases br_some hF with ⟨h3002, hF⟩ | ⟨h3002, hF⟩
                          · refine Wo.og (o_mv rfl) (gg rfl rfl (eTT h3002)) rfl ?_
                            refine Wo.og (o_mv rfl) (gg rfl rfl (eTT h3002)) rfl ?_
                            refine Wo.og (o_bi rfl rfl (bin_eql _ _ _)) (gg rfl rfl (eTT h3002)) rfl ?_
                            refine Wo.og (o_pt rfl h3002 rfl) (gg rfl rfl (eFF h3001)) rfl ?_
                            refine Wo.od (o_pf rfl h3001 rfl) rfl ?_
                            refine Wo.od (o_mv rfl) rfl ?_
                            rcases br_some hF with ⟨h3003, hF⟩ | ⟨h3003, hF⟩
                            · refine Wo.s (gg rfl rfl (eTF h3003)) rfl ?_
                              refine Wo.s (gg rfl rfl (eTF h3003)) rfl ?_
                              refine Wo.s (gg rfl rfl (eTF h3003)) rfl ?_
                              refine Wo.s (gg rfl rfl (eTF h3003)) rfl ?_
                              refine Wo.s (gu rfl rfl) rfl ?_
                              refine Wo.s (gu rfl rfl) rfl ?_
                              refine Wo.s (gu rfl rfl) rfl ?_
                              refine Wo.s (gg rfl rfl (eTF h3003)) rfl ?_
                              refine Wo.od (o_pt rfl h3003 rfl) rfl ?_
                              refine Wo.od (o_as rfl) rfl ?_
                              refine Wo.nil ?_
                              refine At.bn ?_
                              cases hF
                              exact At.en () rfl (sc rfl (sc rfl (sc rfl (sc rfl (sc rfl (sc rfl (sc rfl (sc rfl (sc rfl sn))))))))) (Turn.picks [1, 2, 3, 4, 5] rfl rfl)
                            · refine Wo.og (o_mv rfl) (gg rfl rfl (eFF h3003)) rfl ?_
                              refine Wo.og (o_mv rfl) (gg rfl rfl (eFF h3003)) rfl ?_
                              refine Wo.og (o_bi rfl rfl (bin_eql _ _ _)) (gg rfl rfl (eFF h3003)) rfl ?_
                              refine Wo.og (o_mv rfl) (gg rfl rfl (eFF h3003)) rfl ?_
                              rcases br_some hF with ⟨h3004, hF⟩ | ⟨h3004, hF⟩
                              · refine Wo.og (o_mv rfl) (gg rfl rfl (eTT h3004)) rfl ?_
                                refine Wo.og (o_mv rfl) (gg rfl rfl (eTT h3004)) rfl ?_
                                refine Wo.og (o_bi rfl rfl (bin_eql _ _ _)) (gg rfl rfl (eTT h3004)) rfl ?_
                                refine Wo.og (o_pt rfl h3004 rfl) (gg rfl rfl (eFF h3003)) rfl ?_
                                refine Wo.od (o_pf rfl h3003 rfl) rfl ?_
                                refine Wo.od (o_as rfl) rfl ?_
                                refine Wo.nil ?_
                                refine At.bn ?_
                                cases hF
                                exact At.en () rfl (sc rfl (sc rfl (sc rfl (sc rfl (sc rfl (sc rfl (sc rfl (sc rfl (sc rfl sn))))))))) (Turn.picks [1, 2, 3, 4, 5] rfl rfl)
                              · refine Wo.s (gg rfl rfl (eFT h3004)) rfl ?_
                                refine Wo.s (gg rfl rfl (eFT h3004)) rfl ?_
                                refine Wo.s (gg rfl rfl (eFT h3004)) rfl ?_
                                refine Wo.og (o_pf rfl h3004 rfl) (gg rfl rfl (eFF h3003)) rfl ?_
                                refine Wo.od (o_pf rfl h3003 rfl) rfl ?_
                                refine Wo.od (o_as rfl) rfl ?_
                                refine Wo.nil ?_
                                refine At.bn ?_
                                cases hF
                                exact At.en () rfl (sc rfl (sc rfl (sc rfl (sc rfl (sc rfl (sc rfl (sc rfl (sc rfl (sc rfl sn))))))))) (Turn.picks [1, 2, 3, 4, 5] rfl rfl)
                          · refine Wo.s (gg rfl rfl (eFT h3002)) rfl ?_
                            refine Wo.s (gg rfl rfl (eFT h3002)) rfl ?_
                            refine Wo.s (gg rfl rfl (eFT h3002)) rfl ?_
                            refine Wo.og (o_pf rfl h3002 rfl) (gg rfl rfl (eFF h3001)) rfl ?_
                            refine Wo.od (o_pf rfl h3001 rfl) rfl ?_
                            refine Wo.od (o_mv rfl) rfl ?_
                            refine Wo.og (o_mv rfl) (gg rfl rfl rfl) rfl ?_
                            refine Wo.og (o_mv rfl) (gg rfl rfl rfl) rfl ?_
                            refine Wo.og (o_bi rfl rfl (bin_eql _ _ _)) (gg rfl rfl rfl) rfl ?_
                            refine Wo.og (o_mv rfl) (gg rfl rfl rfl) rfl ?_
                            rcases br_some hF with ⟨h3005, hF⟩ | ⟨h3005, hF⟩
                            · refine Wo.og (o_mv rfl) (gg rfl rfl (eTT h3005)) rfl ?_
                              refine Wo.og (o_mv rfl) (gg rfl rfl (eTT h3005)) rfl ?_
                              refine Wo.og (o_bi rfl rfl (bin_eql _ _ _)) (gg rfl rfl (eTT h3005)) rfl ?_
                              refine Wo.og (o_pt rfl h3005 rfl) (gg rfl rfl rfl) rfl ?_
                              refine Wo.od (o_pF rfl rfl) rfl ?_
                              refine Wo.od (o_as rfl) rfl ?_
                              refine Wo.nil ?_
                              refine At.bn ?_
                              cases hF
                              exact At.en () rfl (sc rfl (sc rfl (sc rfl (sc rfl (sc rfl (sc rfl (sc rfl (sc rfl (sc rfl sn))))))))) (Turn.picks [1, 2, 3, 4, 5] rfl rfl)
                            · refine Wo.s (gg rfl rfl (eFT h3005)) rfl ?_
                              refine Wo.s (gg rfl rfl (eFT h3005)) rfl ?_
                              refine Wo.s (gg rfl rfl (eFT h3005)) rfl ?_
                              refine Wo.og (o_pf rfl h3005 rfl) (gg rfl rfl rfl) rfl ?_
                              refine Wo.od (o_pF rfl rfl) rfl ?_
                              refine Wo.od (o_as rfl) rfl ?_
                              refine Wo.nil ?_
                              refine At.bn ?_
                              cases hF
                              exact At.en () rfl (sc rfl (sc rfl (sc rfl (sc rfl (sc rfl (sc rfl (sc rfl (sc rfl (sc rfl sn))))))))) (Turn.picks [1, 2, 3, 4, 5] rfl rfl)
                      · clear h3006
                        rintro ⟨⟩
                        refine At.tn ?_
                        refine Wk.region ?_
                        refine Wo.od (o_mv rfl) rfl ?_
                        refine Wo.od (o_bi rfl rfl (bin_add _ _ _)) rfl ?_
                        refine Wo.od (o_as rfl) rfl ?_
                        refine Wo.nil ?_
                        cases hF
                        exact At.en () rfl (sc rfl (sc rfl (sc rfl (sc rfl (sc rfl (sc rfl (sc rfl (sc rfl (sc rfl sn))))))))) (Turn.picks [0, 1, 2, 3, 4] rfl rfl)
                    · refine Wk.condF rfl h2976 ?_
                      refine Wk.exit ?_
                      refine At.te ?_
                      cases hF
                      exact At.en () rfl (sc rfl (sc rfl (sc rfl (sc rfl (sc rfl (sc rfl (sc rfl (sc rfl sn)))))))) (Turn.picks [0, 1, 2, 3, 4] rfl rfl)
                · clear h3008
                  rintro ⟨⟩
                  refine At.be ?_
                  refine At.tn ?_
                  refine Wk.seq ?_
                  refine Wk.region ?_
                  refine Wo.od (o_mv rfl) rfl ?_
                  refine Wo.nil ?_
                  refine At.tn ?_
                  rcases br_some hF with ⟨h3010, hF⟩ | ⟨h3010, hF⟩
                  · refine Wk.condT rfl h3010 ?_
                    refine Wk.region ?_
                    refine Wo.od (o_fa (r := ptr b12 1) rfl (fa25_1 _ _)) rfl ?_
                    refine Wo.od (o_ld (k := 3) t23 rfl rfl rfl) rfl ?_
                    refine Wo.od (o_mv rfl) rfl ?_
                    refine Wo.od (o_mv rfl) rfl ?_
                    refine Wo.od (o_bd rfl z26 rfl (bd_s bs26 rfl rfl rfl)) rfl ?_
                    refine Wo.x (o_bs (es := ([(v1018, v2356)] : List (Int × Int)).map (eP (eI .i64) (eI .i64))) s23 rfl (bs_c s23 z26 rfl rfl) rfl rfl) gn rfl fun b3011 => ?_
                    obtain ⟨h3012, hF⟩ := gd_some hF
                    refine Wo.x (o_apl (k := 5) (k2 := 0) (xs := (l2353 : List (Int × Int))) (ys := ([(v1018, v2356)] : List (Int × Int))) (enP (enI .i64) (enI .i64)) s23 ⟨_, u23⟩ rfl rfl rfl (.arr _ _ _ _ _) h3012) gn rfl fun a3013 => ?_
                    refine Wo.od (o_fa (r := ptr b12 1) rfl (fa25_1 _ _)) rfl ?_
                    refine Wo.o0 (o_st (k := 4) t23 rfl rfl rfl rfl rfl) ?_
                    refine Wo.nil ?_
                    refine At.bn ?_
                    cases hF
                    exact At.en a3013 rfl (sc rfl (sc rfl (sc rfl (sc rfl (sc rfl (sc rfl (sc rfl sn))))))) (Turn.picks [1, 2, 3, 4, 5] rfl rfl)
                  · refine Wk.condF rfl h3010 ?_
                    refine Wk.skip ?_
                    refine At.bn ?_
                    cases hF
                    exact At.en a2354 rfl (sc rfl (sc rfl (sc rfl (sc rfl (sc rfl (sc rfl (sc rfl sn))))))) (Turn.picks [0, 1, 2, 3, 4] rfl rfl)
          · clear h3014
            obtain ⟨l2851, v2853⟩ := r3015
            rintro a2852
            refine At.tn ?_
            refine Wk.region ?_
            refine Wo.od (o_mv rfl) rfl ?_
            refine Wo.od (o_bi rfl rfl (bin_add _ _ _)) rfl ?_
            refine Wo.od (o_as rfl) rfl ?_
            refine Wo.nil ?_
            cases hF
            exact At.en a2852 rfl (sc rfl (sc rfl (sc rfl (sc rfl (sc rfl (sc rfl (sc rfl sn))))))) (Turn.picks [0, 1, 2, 3, 4] rfl rfl)
        · refine Wk.condF rfl h2690 ?_
          refine Wk.exit ?_
          refine At.te ?_
          cases hF
          exact At.en a2354 rfl (sc rfl (sc rfl (sc rfl (sc rfl (sc rfl (sc rfl sn)))))) (Turn.picks [0, 1, 2, 3, 4] rfl rfl)
      · clear h3016
        obtain ⟨l2687, v2689⟩ := r3017
        rintro a2688
        refine At.be ?_
        refine At.bn ?_
        refine At.tn ?_
        refine Wk.region ?_
        refine Wo.od (o_mv rfl) rfl ?_
        refine Wo.od (o_bi rfl rfl (bin_add _ _ _)) rfl ?_
        refine Wo.od (o_as rfl) rfl ?_
        refine Wo.nil ?_
        cases hF
        exact At.en a2688 rfl (sc rfl (sc rfl (sc rfl (sc rfl (sc rfl (sc rfl sn)))))) (Turn.picks [0, 1, 2, 3, 4] rfl rfl)
    · refine Wk.condF rfl h2022 ?_
      refine Wk.exit ?_
      refine At.te ?_
      cases hF
      exact At.en a1016 rfl (sc rfl (sc rfl sn)) (Turn.picks [2, 3, 4] rfl rfl)
  · clear h3018
    rintro a2021
    refine At.be ?_
    refine At.tn ?_
    refine Wk.seq ?_
    refine Wk.region ?_
    refine Wo.od (o_ld (k := 1) t25 rfl rfl rfl) rfl ?_
    refine Wo.o0 (o_st (k := 0) t25 rfl rfl rfl rfl rfl) ?_
    refine Wo.nil ?_
    refine At.tn ?_
    refine Wk.ret ?_
    cases hF
    exact At.ret (.cell (k := 0) t25 rfl rfl rfl .nil) fun m' hm => ⟨(a2021, l2020.length), rfl, (Turn.picks [2] rfl rfl) m' hm⟩

theorem f65_ok (n : Nat) (x1 : Nat) (x2 : Nat) (x3 : Int) (x4 : Int) (x5 : Int) (x6 : Int) (l7 : List (Int × Int)) (a8 : Option Addr) (c9 : Nat) (r : Int × List (Int × Int)) (hF : F65 n x1 x2 x3 x4 x5 x6 l7 = some r) (m : AMem) (h10 : Rd m a8 c9 2 l7.length (l7.map (eP (eI .i64) (eI .i64)))) :
    CallA E18w 65 [.agg #[.int .u8 ((x1 : Nat) : Int), .int .u8 ((x2 : Nat) : Int), .int .i64 x3, .int .i64 x4, .int .i64 x5], .agg #[.int .i64 x6, .slice a8 l7.length c9]] m (fun v m' => ∃ x : Option Addr × Nat, v = .agg #[.int .i64 r.1, .slice x.1 x.2 x.2] ∧ Hp m m' [.sl x.1 2 x.2 (r.2.map (eP (eI .i64) (eI .i64)))]) := by
  unfold F65 at hF
  refine call_wk (m0 := m) (ps := [.rd a8 c9 2 l7.length (l7.map (eP (eI .i64) (eI .i64)))]) (N := 145) (rs := [.cell 4 25]) rfl Tryd.func65 rfl rfl rfl ((Hp.start m).inn rfl h10) ?_
  refine Wk.seq ?_
  refine Wk.region ?_
  refine Wo.x (o_bx rfl) gn rfl fun b11 => ?_
  refine Wo.x (o_bx rfl) gn rfl fun b12 => ?_
  refine Wo.x (o_al z25 rfl) gn rfl fun b13 => ?_
  refine Wo.nil ?_
  refine At.tn ?_
  refine Wk.seq ?_
  refine Wk.region ?_
  refine Wo.od (o_fa (r := ptr b12 1) rfl (fa25_1 _ _)) rfl ?_
  refine Wo.od (o_ld (k := 1) t23 rfl rfl rfl) rfl ?_
  refine Wo.od (o_fa (r := ptr b12 1) rfl (fa25_1 _ _)) rfl ?_
  refine Wo.od (o_ld (k := 1) t23 rfl rfl rfl) rfl ?_
  refine Wo.od (o_ln (k := 3) u23 rfl rfl (.inl rfl)) rfl ?_
  refine Wo.od (o_bu rfl rfl (bu_mi _ _)) rfl ?_
  obtain ⟨h14, hF⟩ := gd_some hF
  refine Wo.x (o_srl (k := 3) (lo := 0) (hi := mi (l7.length : Int) (210 : Int)) s23 rfl rfl rfl rfl h14 (.inl ⟨rfl, rfl⟩) (.inr ⟨_, rfl⟩)) gn rfl ?_
  rintro ⟨a15, c16⟩
  obtain ⟨l18, h17, hF⟩ := ob_some hF
  refine Wo.x (o_cl rfl rfl (fun m hm => f26_ok n ((l7.drop (0 : Int).toNat).take ((mi (l7.length : Int) (210 : Int) : Int).toNat - (0 : Int).toNat)) a15 c16 _ h17 m (hm.rd (k := 0) rfl (.rd _ _ _ _ _))) fun _ => rfl) gn rfl ?_
  rintro ⟨a19, n20⟩
  refine Wo.len (k := 0) (xs := l18) rfl ?_
  rintro rfl
  refine Wo.od (o_fa (r := ptr b12 1) rfl (fa25_1 _ _)) rfl ?_
  refine Wo.o0 (o_st (k := 3) t23 rfl rfl rfl rfl rfl) ?_
  refine Wo.nil ?_
  refine At.tn ?_
  refine Wk.seq ?_
  refine Wk.region ?_
  refine Wo.od (o_fa (r := ptr b12 1) rfl (fa25_1 _ _)) rfl ?_
  refine Wo.od (o_ld (k := 3) t23 rfl rfl rfl) rfl ?_
  refine Wo.od (o_ln (k := 0) u23 rfl rfl (.inl rfl)) rfl ?_
  refine Wo.od (o_as rfl) rfl ?_
  refine Wo.nil ?_
  refine At.tn ?_
  refine Wk.seq ?_
  refine Wk.region ?_
  refine Wo.od (o_fa (r := ptr b11 1) rfl (fa57_1 _ _)) rfl ?_
  refine Wo.od (o_ld (k := 4) t5 rfl rfl rfl) rfl ?_
  refine Wo.od (o_cv rfl (cv_i (by rw [u5]; rfl) u3)) rfl ?_
  refine Wo.od (o_mv rfl) rfl ?_
  refine Wo.od (o_bi rfl rfl (bin_add _ _ _)) rfl ?_
  obtain ⟨h21, hF⟩ := gd_some hF
  obtain ⟨y22, h23, hF⟩ := ob_some hF
  refine Wo.od (o_bi rfl rfl ((ib_rem _ _ h21).trans (cI h23))) rfl ?_
  refine Wo.od (o_as rfl) rfl ?_
  refine Wo.nil ?_
  refine At.tn ?_
  refine Wk.seq ?_
  obtain ⟨r493, h492, hF⟩ := ob_some hF
  refine Wk.cut (G := (fun (r : Int × List (Int × Int) × Nat) (g : Option Addr) => match r, g with | (v256, l257, n259), a258 => ⟨.normal, [(3, ptr b12 0), (4, ptr b13 0)], [.obj b12 (.cells [.int .i64 v256, .slice a258 n259 n259] .own), .sl a258 2 n259 (l257.map (eP (eI .i64) (eI .i64))), .obj b13 (.cells [.int .i64 0, .slice none 0 0] .own)]⟩) r493) ?_ ?_
  · clear hF
    revert r493
    intro r hF
    refine Wk.seq ?_
    refine Wk.region ?_
    refine Wo.od (o_fa (r := ptr b11 0) rfl (fa57_0 _ _)) rfl ?_
    refine Wo.od (o_ld (k := 4) t5 rfl rfl rfl) rfl ?_
    refine Wo.od (o_bi rfl rfl (ub_rem _ _ (by decide))) rfl ?_
    refine Wo.nil ?_
    refine At.tn ?_
    refine Wk.block ?_
    refine Wk.seq ?_
    refine Wk.region ?_
    refine Wo.od (o_bi rfl rfl (ub_eql _ _)) rfl ?_
    refine Wo.od (o_as rfl) rfl ?_
    refine Wo.nil ?_
    refine At.tn ?_
    rcases br_some hF with ⟨h260, hF⟩ | ⟨h260, hF⟩
    · refine Wk.condT rfl h260 ?_
      refine Wk.region ?_
      refine Wo.od (o_fa (r := ptr b11 2) rfl (fa57_2 _ _)) rfl ?_
      refine Wo.od (o_ld (k := 4) t3 rfl rfl rfl) rfl ?_
      refine Wo.od (o_fa (r := ptr b12 0) rfl (fa25_0 _ _)) rfl ?_
      refine Wo.o0 (o_st (k := 3) t3 rfl rfl rfl rfl rfl) ?_
      refine Wo.nil ?_
      refine At.bn ?_
      cases hF
      exact At.en a19 rfl (sc rfl (sc rfl sn)) (Turn.picks [3, 0, 2] rfl rfl)
    · refine Wk.condF rfl h260 ?_
      refine Wk.seq ?_
      refine Wk.region ?_
      refine Wo.od (o_bi rfl rfl (ub_eql _ _)) rfl ?_
      refine Wo.od (o_as rfl) rfl ?_
      refine Wo.nil ?_
      refine At.tn ?_
      rcases br_some hF with ⟨h261, hF⟩ | ⟨h261, hF⟩
      · refine Wk.condT rfl h261 ?_
        refine Wk.region ?_
        refine Wo.od (o_fa (r := ptr b12 1) rfl (fa25_1 _ _)) rfl ?_
        refine Wo.od (o_ld (k := 3) t23 rfl rfl rfl) rfl ?_
        refine Wo.od (o_mv rfl) rfl ?_
        refine Wo.od (o_fa (r := ptr b11 3) rfl (fa57_3 _ _)) rfl ?_
        refine Wo.od (o_ld (k := 4) t26 rfl rfl rfl) rfl ?_
        refine Wo.x (o_bs (es := ([(x4, x5)] : List (Int × Int)).map (eP (eI .i64) (eI .i64))) s23 rfl (bs_c s23 z26 rfl rfl) rfl rfl) gn rfl fun b262 => ?_
        obtain ⟨l263, h264, hF⟩ := ob_some hF
        refine Wo.x (o_cs (α := Option Addr × Nat) (V := fun y => .slice y.1 y.2 y.2) (N := fun y => pset [.arr b262 2 1 (([(x4, x5)]).map (eP (eI .i64) (eI .i64))) .own, .sl a19 2 l18.length (l18.map (eP (eI .i64) (eI .i64))), .rd a15 c16 2 (((l7.drop (0 : Int).toNat).take ((mi (l7.length : Int) (210 : Int) : Int).toNat - (0 : Int).toNat)).length) (((l7.drop (0 : Int).toNat).take ((mi (l7.length : Int) (210 : Int) : Int).toNat - (0 : Int).toNat)).map (eP (eI .i64) (eI .i64))), .obj b13 (.cells [.int .i64 0, .slice none 0 0] .own), .obj b12 (.cells [.int .i64 x6, .slice a19 l18.length l18.length] .own), .obj b11 (.cells [.int .u8 ((x1 : Nat) : Int), .int .u8 ((x2 : Nat) : Int), .int .i64 x3, .int .i64 x4, .int .i64 x5] .own), .rd a8 c9 2 l7.length (l7.map (eP (eI .i64) (eI .i64)))] 1 (.sl y.1 2 y.2 (l263.map (eP (eI .i64) (eI .i64))))) rfl rfl (fun m hm => f82_use n hm (k := 1) rfl (k2 := 0) rfl rfl h264)) gn rfl ?_
        rintro ⟨a265, n266⟩
        refine Wo.len (k := 1) (xs := l263) rfl ?_
        rintro rfl
        refine Wo.od (o_fa (r := ptr b12 1) rfl (fa25_1 _ _)) rfl ?_
        refine Wo.o0 (o_st (k := 4) t23 rfl rfl rfl rfl rfl) ?_
        refine Wo.nil ?_
        refine At.bn ?_
        cases hF
        exact At.en a265 rfl (sc rfl (sc rfl sn)) (Turn.picks [4, 1, 3] rfl rfl)
      · refine Wk.condF rfl h261 ?_
        refine Wk.seq ?_
        refine Wk.region ?_
        refine Wo.od (o_bi rfl rfl (ub_eql _ _)) rfl ?_
        refine Wo.od (o_as rfl) rfl ?_
        refine Wo.nil ?_
        refine At.tn ?_
        rcases br_some hF with ⟨h267, hF⟩ | ⟨h267, hF⟩
        · refine Wk.condT rfl h267 ?_
          refine Wk.seq ?_
          refine Wk.region ?_
          refine Wo.od (o_mv rfl) rfl ?_
          refine Wo.od (o_mv rfl) rfl ?_
          refine Wo.od (o_bi rfl rfl (bin_lss _ _ _)) rfl ?_
          refine Wo.nil ?_
          refine At.tn ?_
          rcases br_some hF with ⟨h268, hF⟩ | ⟨h268, hF⟩
          · refine Wk.condT rfl h268 ?_
            refine Wk.region ?_
            refine Wo.od (o_fa (r := ptr b12 1) rfl (fa25_1 _ _)) rfl ?_
            refine Wo.od (o_ld (k := 3) t23 rfl rfl rfl) rfl ?_
            refine Wo.od (o_mv rfl) rfl ?_
            refine Wo.od (o_mv rfl) rfl ?_
            refine Wo.od (o_bi rfl rfl (bin_add _ _ _)) rfl ?_
            obtain ⟨l269, h270, hF⟩ := ob_some hF
            refine Wo.x (o_cs (α := Option Addr × Nat) (V := fun y => .slice y.1 y.2 y.2) (N := fun y => pset [.sl a19 2 l18.length (l18.map (eP (eI .i64) (eI .i64))), .rd a15 c16 2 (((l7.drop (0 : Int).toNat).take ((mi (l7.length : Int) (210 : Int) : Int).toNat - (0 : Int).toNat)).length) (((l7.drop (0 : Int).toNat).take ((mi (l7.length : Int) (210 : Int) : Int).toNat - (0 : Int).toNat)).map (eP (eI .i64) (eI .i64))), .obj b13 (.cells [.int .i64 0, .slice none 0 0] .own), .obj b12 (.cells [.int .i64 x6, .slice a19 l18.length l18.length] .own), .obj b11 (.cells [.int .u8 ((x1 : Nat) : Int), .int .u8 ((x2 : Nat) : Int), .int .i64 x3, .int .i64 x4, .int .i64 x5] .own), .rd a8 c9 2 l7.length (l7.map (eP (eI .i64) (eI .i64)))] 0 (.sl y.1 2 y.2 (l269.map (eP (eI .i64) (eI .i64))))) rfl rfl (fun m hm => f49_use n hm (k := 0) rfl h270)) gn rfl ?_
            rintro ⟨a271, n272⟩
            refine Wo.len (k := 0) (xs := l269) rfl ?_
            rintro rfl
            refine Wo.od (o_fa (r := ptr b12 1) rfl (fa25_1 _ _)) rfl ?_
            refine Wo.o0 (o_st (k := 3) t23 rfl rfl rfl rfl rfl) ?_
            refine Wo.nil ?_
            refine At.bn ?_
            cases hF
            exact At.en a271 rfl (sc rfl (sc rfl sn)) (Turn.picks [3, 0, 2] rfl rfl)
          · refine Wk.condF rfl h268 ?_
            refine Wk.skip ?_
            refine At.bn ?_
            cases hF
            exact At.en a19 rfl (sc rfl (sc rfl sn)) (Turn.picks [3, 0, 2] rfl rfl)
        · refine Wk.condF rfl h267 ?_
          refine Wk.seq ?_
          refine Wk.region ?_
          refine Wo.od (o_bi rfl rfl (ub_eql _ _)) rfl ?_
          refine Wo.od (o_as rfl) rfl ?_
          refine Wo.nil ?_
          refine At.tn ?_
          rcases br_some hF with ⟨h273, hF⟩ | ⟨h273, hF⟩
          · refine Wk.condT rfl h273 ?_
            refine Wk.seq ?_
            refine Wk.region ?_
            refine Wo.od (o_mv rfl) rfl ?_
            refine Wo.od (o_mv rfl) rfl ?_
            refine Wo.od (o_bi rfl rfl (bin_lss _ _ _)) rfl ?_
            refine Wo.nil ?_
            refine At.tn ?_
            rcases br_some hF with ⟨h274, hF⟩ | ⟨h274, hF⟩
            · refine Wk.condT rfl h274 ?_
              refine Wk.drawc (prs := [(4, 20)]) (by kernel_rfl) ?_
              refine Wn.od (o_fa (r := ptr b12 1) rfl (fa25_1 _ _)) rfl ?_
              refine Wn.od (o_ld (k := 3) t23 rfl rfl rfl) rfl ?_
              refine Wn.od (o_mv rfl) rfl ?_
              refine Wn.od (o_fa (r := ptr b12 1) rfl (fa25_1 _ _)) rfl ?_
              refine Wn.odr rfl (o_ld (k := 3) t23 rfl rfl rfl) rfl ?_
              refine Wn.od (o_mv rfl) rfl ?_
              refine Wn.od (o_fa (r := ptr b12 1) rfl (fa25_1 _ _)) rfl ?_
              refine Wn.od (o_ld (k := 3) t23 rfl rfl rfl) rfl ?_
              refine Wn.od (o_mv rfl) rfl ?_
              obtain ⟨h275, hF⟩ := gd_some hF
              replace h275 := inB_some h275
              refine Wn.open (k := 0) rfl (pos_of h275) ?_
              rintro b276 tg277 rfl h278
              refine Wn.og (o_ixa s23 rfl rfl h275) gn rfl ?_
              refine Wn.od (o_ia (r := ptr b276 (y22.toNat * 2 + 1)) rfl rfl (ia_c ar26 (i := 1) (by decide))) rfl ?_
              obtain ⟨⟨x279, x280⟩, h281, hF⟩ := ob_some hF
              refine Wn.od (o_lda (k := 0) t3 rfl rfl (map_at h281) rfl rfl) rfl ?_
              refine Wn.od (o_fa (r := ptr b12 1) rfl (fa25_1 _ _)) rfl ?_
              refine Wn.od (o_ld (k := 3) t23 rfl rfl rfl) rfl ?_
              refine Wn.od (o_mv rfl) rfl ?_
              obtain ⟨h282, hF⟩ := gd_some hF
              replace h282 := inB_some h282
              refine Wn.og (o_ixa s23 rfl rfl h282) gn rfl ?_
              refine Wn.od (o_ia (r := ptr b276 (y22.toNat * 2 + 0)) rfl rfl (ia_c ar26 (i := 0) (by decide))) rfl ?_
              refine Wn.od (o_lda (k := 0) t3 rfl rfl (map_at h281) rfl rfl) rfl ?_
              obtain ⟨h283, hF⟩ := gd_some hF
              replace h283 := inB_some h283
              refine Wn.og (o_ixa s23 rfl rfl h283) gn rfl ?_
              refine Wn.od (o_ia (r := ptr b276 (y22.toNat * 2 + 0)) rfl rfl (ia_c ar26 (i := 0) (by decide))) rfl ?_
              refine Wn.o0w rfl (o_stl (k := 0) (x1 := (x279, x280)) (x2 := (x280, x280)) t3 rfl rfl rfl h281 rfl) ?_
              obtain ⟨h285, hF⟩ := gd_some hF
              replace h285 := inB_some h285
              refine Wn.og (o_ixa s23 rfl rfl h285) gn rfl ?_
              refine Wn.od (o_ia (r := ptr b276 (y22.toNat * 2 + 1)) rfl rfl (ia_c ar26 (i := 1) (by decide))) rfl ?_
              obtain ⟨⟨x286, x287⟩, h288, hF⟩ := ob_some hF
              refine Wn.o0 (o_stl (k := 0) (x1 := (x286, x287)) (x2 := (x286, x279)) t3 rfl rfl rfl h288 rfl) ?_
              refine Wn.nil (fun m hm => (OkP.rw rfl rfl rfl (hm.ne (i := 3) (j := 0) rfl rfl rfl rfl (by decide) rfl) OkP.nil)) ?_
              refine At.bn ?_
              cases hF
              exact At.en (some ⟨b276, 0, none⟩) rfl (sc rfl (sc rfl sn)) (Turn.trans (Turn.close (k := 0) rfl) (Turn.picks [3, 0, 2] rfl rfl))
            · refine Wk.condF rfl h274 ?_
              refine Wk.skip ?_
              refine At.bn ?_
              cases hF
              exact At.en a19 rfl (sc rfl (sc rfl sn)) (Turn.picks [3, 0, 2] rfl rfl)
          · refine Wk.condF rfl h273 ?_
            refine Wk.seq ?_
            refine Wk.region ?_
            refine Wo.od (o_bi rfl rfl (ub_eql _ _)) rfl ?_
            refine Wo.od (o_as rfl) rfl ?_
            refine Wo.nil ?_
            refine At.tn ?_
            rcases br_some hF with ⟨h290, hF⟩ | ⟨h290, hF⟩
            · refine Wk.condT rfl h290 ?_
              refine Wk.seq ?_
              refine Wk.region ?_
              refine Wo.od (o_mv rfl) rfl ?_
              refine Wo.od (o_mv rfl) rfl ?_
              refine Wo.od (o_bi rfl rfl (bin_lss _ _ _)) rfl ?_
              refine Wo.nil ?_
              refine At.tn ?_
              rcases br_some hF with ⟨h291, hF⟩ | ⟨h291, hF⟩
              · refine Wk.condT rfl h291 ?_
                refine Wk.draw (by kernel_rfl) ?_
                refine Wo.od (o_fa (r := ptr b12 1) rfl (fa25_1 _ _)) rfl ?_
                refine Wo.od (o_ld (k := 3) t23 rfl rfl rfl) rfl ?_
                refine Wo.od (o_mv rfl) rfl ?_
                refine Wo.od (o_fa (r := ptr b12 1) rfl (fa25_1 _ _)) rfl ?_
                refine Wo.od (o_ld (k := 3) t23 rfl rfl rfl) rfl ?_
                refine Wo.od (o_mv rfl) rfl ?_
                obtain ⟨h292, hF⟩ := gd_some hF
                replace h292 := inB_some h292
                refine Wo.open (k := 0) rfl (pos_of h292) ?_
                rintro b293 tg294 rfl h295
                refine Wo.og (o_ixa s23 rfl rfl h292) gn rfl ?_
                obtain ⟨⟨x296, x297⟩, h298, hF⟩ := ob_some hF
                refine Wo.od (o_lda (k := 0) t26 rfl rfl (map_at h298) rfl rfl) rfl ?_
                refine Wo.x (o_bs (es := ([(x296, x297)] : List (Int × Int)).map (eP (eI .i64) (eI .i64))) s23 rfl (bs_c s23 z26 rfl rfl) rfl rfl) gn rfl fun b299 => ?_
                obtain ⟨l300, h301, hF⟩ := ob_some hF
                refine Wo.turn (Turn.close (k := 1) rfl) ?_
                refine Wo.x (o_cs (α := Option Addr × Nat) (V := fun y => .slice y.1 y.2 y.2) (N := fun y => pset [.arr b299 2 1 (([(x296, x297)]).map (eP (eI .i64) (eI .i64))) .own, .sl (some ⟨b293, 0, none⟩) 2 l18.length (l18.map (eP (eI .i64) (eI .i64))), .rd a15 c16 2 (((l7.drop (0 : Int).toNat).take ((mi (l7.length : Int) (210 : Int) : Int).toNat - (0 : Int).toNat)).length) (((l7.drop (0 : Int).toNat).take ((mi (l7.length : Int) (210 : Int) : Int).toNat - (0 : Int).toNat)).map (eP (eI .i64) (eI .i64))), .obj b13 (.cells [.int .i64 0, .slice none 0 0] .own), .obj b12 (.cells [.int .i64 x6, .slice (some ⟨b293, 0, none⟩) l18.length l18.length] .own), .obj b11 (.cells [.int .u8 ((x1 : Nat) : Int), .int .u8 ((x2 : Nat) : Int), .int .i64 x3, .int .i64 x4, .int .i64 x5] .own), .rd a8 c9 2 l7.length (l7.map (eP (eI .i64) (eI .i64)))] 1 (.sl y.1 2 y.2 (l300.map (eP (eI .i64) (eI .i64))))) rfl rfl (fun m hm => f82_use n hm (k := 1) rfl (k2 := 0) rfl rfl h301)) gn rfl ?_
                rintro ⟨a302, n303⟩
                refine Wo.len (k := 1) (xs := l300) rfl ?_
                rintro rfl
                refine Wo.od (o_fa (r := ptr b12 1) rfl (fa25_1 _ _)) rfl ?_
                refine Wo.o0 (o_st (k := 4) t23 rfl rfl rfl rfl rfl) ?_
                refine Wo.nil ?_
                refine At.bn ?_
                cases hF
                exact At.en a302 rfl (sc rfl (sc rfl sn)) (Turn.picks [4, 1, 3] rfl rfl)
              · refine Wk.condF rfl h291 ?_
                refine Wk.skip ?_
                refine At.bn ?_
                cases hF
                exact At.en a19 rfl (sc rfl (sc rfl sn)) (Turn.picks [3, 0, 2] rfl rfl)
            · refine Wk.condF rfl h290 ?_
              refine Wk.seq ?_
              refine Wk.region ?_
              refine Wo.od (o_bi rfl rfl (ub_eql _ _)) rfl ?_
              refine Wo.od (o_as rfl) rfl ?_
              refine Wo.nil ?_
              refine At.tn ?_
              rcases br_some hF with ⟨h304, hF⟩ | ⟨h304, hF⟩
              · refine Wk.condT rfl h304 ?_
                refine Wk.region ?_
                refine Wo.od (o_fa (r := ptr b12 0) rfl (fa25_0 _ _)) rfl ?_
                refine Wo.od (o_ld (k := 3) t3 rfl rfl rfl) rfl ?_
                refine Wo.od (o_bu rfl rfl (bu_ma _ _)) rfl ?_
                refine Wo.od (o_bi rfl rfl (ib_rem _ _ (by decide))) rfl ?_
                refine Wo.od (o_bi rfl rfl (bin_add _ _ _)) rfl ?_
                refine Wo.od (o_fa (r := ptr b12 0) rfl (fa25_0 _ _)) rfl ?_
                refine Wo.o0 (o_st (k := 3) t3 rfl rfl rfl rfl rfl) ?_
                refine Wo.nil ?_
                refine At.bn ?_
                cases hF
                exact At.en a19 rfl (sc rfl (sc rfl sn)) (Turn.picks [3, 0, 2] rfl rfl)
              · refine Wk.condF rfl h304 ?_
                refine Wk.seq ?_
                refine Wk.region ?_
                refine Wo.od (o_bi rfl rfl (ub_eql _ _)) rfl ?_
                refine Wo.od (o_as rfl) rfl ?_
                refine Wo.nil ?_
                refine At.tn ?_
                rcases br_some hF with ⟨h305, hF⟩ | ⟨h305, hF⟩
                · refine Wk.condT rfl h305 ?_
                  refine Wk.seq ?_
                  refine Wk.region ?_
                  refine Wo.od (o_fa (r := ptr b12 0) rfl (fa25_0 _ _)) rfl ?_
                  refine Wo.o0 (o_st (k := 3) t3 rfl rfl rfl rfl rfl) ?_
                  refine Wo.od (o_fa (r := ptr b12 1) rfl (fa25_1 _ _)) rfl ?_
                  refine Wo.o0 (o_st (k := 3) t23 rfl rfl rfl rfl rfl) ?_
                  refine Wo.nil ?_
                  refine At.tn ?_
                  refine Wk.seq ?_
                  refine Wk.region ?_
                  refine Wo.od (o_mv rfl) rfl ?_
                  refine Wo.nil ?_
                  refine At.tn ?_
                  refine Wk.block ?_
                  obtain ⟨l430, h490, hF⟩ := ob_some hF
                  refine Wk.cut (G := (fun (r : List (Int × Int)) (g : Option Addr) => match r, g with | l430, a431 => ⟨(.exit 1), [(3, ptr b12 0), (4, ptr b13 0)], [.obj b12 (.cells [.int .i64 64, .slice a431 l430.length l430.length] .own), .sl a431 2 l430.length (l430.map (eP (eI .i64) (eI .i64))), .obj b13 (.cells [.int .i64 0, .slice none 0 0] .own)]⟩) l430) ?_ ?_
                  · refine Wk.weak (fs' := [(2, ptr b11 0), (3, ptr b12 0), (4, ptr b13 0), (112, .int .i64 0)]) (ps' := [.obj b11 (.cells [.int .u8 ((x1 : Nat) : Int), .int .u8 ((x2 : Nat) : Int), .int .i64 x3, .int .i64 x4, .int .i64 x5] .own), .obj b12 (.cells [.int .i64 64, .slice none ([] : List (Int × Int)).length ([] : List (Int × Int)).length] .own), .sl none 2 ([] : List (Int × Int)).length (([] : List (Int × Int)).map (eP (eI .i64) (eI .i64))), .obj b13 (.cells [.int .i64 0, .slice none 0 0] .own)]) (sc rfl (sc rfl (sc rfl (sc rfl sn)))) (Turn.trans (Turn.nil 2 rfl) (Turn.picks [5, 4, 0, 3] rfl rfl)) ?_
                    refine Wk.loop (σ := List (Int × Int) × Int) (ρ := List (Int × Int)) (γ := Option Addr) (δ := fun _ => Option Addr) _ (fun (s : List (Int × Int) × Int) (g : Option Addr) => match s, g with | (l366, v368), a367 => ⟨.normal, [(2, ptr b11 0), (3, ptr b12 0), (4, ptr b13 0), (112, .int .i64 v368)], [.obj b11 (.cells [.int .u8 ((x1 : Nat) : Int), .int .u8 ((x2 : Nat) : Int), .int .i64 x3, .int .i64 x4, .int .i64 x5] .own), .obj b12 (.cells [.int .i64 64, .slice a367 l366.length l366.length] .own), .sl a367 2 l366.length (l366.map (eP (eI .i64) (eI .i64))), .obj b13 (.cells [.int .i64 0, .slice none 0 0] .own)]⟩) (fun (r : List (Int × Int)) (g : Option Addr) => match r, g with | l430, a431 => ⟨(.exit 1), [(3, ptr b12 0), (4, ptr b13 0)], [.obj b12 (.cells [.int .i64 64, .slice a431 l430.length l430.length] .own), .sl a431 2 l430.length (l430.map (eP (eI .i64) (eI .i64))), .obj b13 (.cells [.int .i64 0, .slice none 0 0] .own)]⟩) ?_ (fun _ _ => rfl) (fun r d => by intro e; cases e) _ _ _ h490 none
                    clear hF h490
                    rintro ⟨l366, v368⟩ a367 r hF
                    unfold L65_2 at hF
                    refine Wk.seq ?_
                    refine Wk.region ?_
                    refine Wo.od (o_bi rfl rfl (bin_lss _ _ _)) rfl ?_
                    refine Wo.nil ?_
                    refine At.tn ?_
                    refine Wk.seq ?_
                    rcases br_some hF with ⟨h432, hF⟩ | ⟨h432, hF⟩
                    · refine Wk.condT rfl h432 ?_
                      refine Wk.skip ?_
                      refine At.tn ?_
                      refine Wk.seq ?_
                      refine Wk.block ?_
                      refine Wk.seq ?_
                      refine Wk.region ?_
                      refine Wo.od (o_mv rfl) rfl ?_
                      refine Wo.od (o_as rfl) rfl ?_
                      refine Wo.nil ?_
                      refine At.tn ?_
                      refine Wk.seq ?_
                      refine Wk.region ?_
                      refine Wo.od (o_mv rfl) rfl ?_
                      refine Wo.od (o_bi rfl rfl (bin_add _ _ _)) rfl ?_
                      refine Wo.od (o_as rfl) rfl ?_
                      refine Wo.nil ?_
                      refine At.tn ?_
                      refine Wk.block ?_
                      obtain ⟨l471, h488, hF⟩ := ob_some hF
                      refine Wk.cut (G := (fun (r : List (Int × Int)) (g : Option Addr) => match r, g with | l471, a472 => ⟨(.exit 3), [(2, ptr b11 0), (3, ptr b12 0), (4, ptr b13 0), (112, .int .i64 v368)], [.obj b11 (.cells [.int .u8 ((x1 : Nat) : Int), .int .u8 ((x2 : Nat) : Int), .int .i64 x3, .int .i64 x4, .int .i64 x5] .own), .obj b12 (.cells [.int .i64 64, .slice a472 l471.length l471.length] .own), .sl a472 2 l471.length (l471.map (eP (eI .i64) (eI .i64))), .obj b13 (.cells [.int .i64 0, .slice none 0 0] .own)]⟩) l471) ?_ ?_
                      · refine Wk.weak (fs' := [(2, ptr b11 0), (3, ptr b12 0), (4, ptr b13 0), (7, .int .i64 v368), (8, .int .i64 (IntKind.wrap .i64 (v368 + 1))), (112, .int .i64 v368)]) (ps' := [.obj b11 (.cells [.int .u8 ((x1 : Nat) : Int), .int .u8 ((x2 : Nat) : Int), .int .i64 x3, .int .i64 x4, .int .i64 x5] .own), .obj b12 (.cells [.int .i64 64, .slice a367 l366.length l366.length] .own), .sl a367 2 l366.length (l366.map (eP (eI .i64) (eI .i64))), .obj b13 (.cells [.int .i64 0, .slice none 0 0] .own)]) (sc rfl (sc rfl (sc rfl (sc rfl (sc rfl (sc rfl sn)))))) (Turn.picks [0, 1, 2, 3] rfl rfl) ?_
                        refine Wk.loop (σ := List (Int × Int) × Int) (ρ := List (Int × Int)) (γ := Option Addr) (δ := fun _ => Option Addr) _ (fun (s : List (Int × Int) × Int) (g : Option Addr) => match s, g with | (l450, v452), a451 => ⟨.normal, [(2, ptr b11 0), (3, ptr b12 0), (4, ptr b13 0), (7, .int .i64 v368), (8, .int .i64 v452), (112, .int .i64 v368)], [.obj b11 (.cells [.int .u8 ((x1 : Nat) : Int), .int .u8 ((x2 : Nat) : Int), .int .i64 x3, .int .i64 x4, .int .i64 x5] .own), .obj b12 (.cells [.int .i64 64, .slice a451 l450.length l450.length] .own), .sl a451 2 l450.length (l450.map (eP (eI .i64) (eI .i64))), .obj b13 (.cells [.int .i64 0, .slice none 0 0] .own)]⟩) (fun (r : List (Int × Int)) (g : Option Addr) => match r, g with | l471, a472 => ⟨(.exit 3), [(2, ptr b11 0), (3, ptr b12 0), (4, ptr b13 0), (112, .int .i64 v368)], [.obj b11 (.cells [.int .u8 ((x1 : Nat) : Int), .int .u8 ((x2 : Nat) : Int), .int .i64 x3, .int .i64 x4, .int .i64 x5] .own), .obj b12 (.cells [.int .i64 64, .slice a472 l471.length l471.length] .own), .sl a472 2 l471.length (l471.map (eP (eI .i64) (eI .i64))), .obj b13 (.cells [.int .i64 0, .slice none 0 0] .own)]⟩) ?_ (fun _ _ => rfl) (fun r d => by intro e; cases e) _ _ _ h488 a367
                        clear hF h488
                        rintro ⟨l450, v452⟩ a451 r hF
                        unfold L65_1 at hF
                        refine Wk.seq ?_
                        refine Wk.seq ?_
                        obtain ⟨v480, h482, hF⟩ := ob_some hF
                        refine Wk.cut (G := (fun (r : Bool) (g : Unit) => match r, g with | v480, _ => ⟨.normal, [(2, ptr b11 0), (3, ptr b12 0), (4, ptr b13 0), (7, .int .i64 v368), (8, .int .i64 v452), (112, .int .i64 v368), (132, .bool v480)], [.obj b11 (.cells [.int .u8 ((x1 : Nat) : Int), .int .u8 ((x2 : Nat) : Int), .int .i64 x3, .int .i64 x4, .int .i64 x5] .own), .obj b12 (.cells [.int .i64 64, .slice a451 l450.length l450.length] .own), .sl a451 2 l450.length (l450.map (eP (eI .i64) (eI .i64))), .obj b13 (.cells [.int .i64 0, .slice none 0 0] .own)]⟩) v480) ?_ ?_
                        · clear hF
                          revert v480
                          intro r hF
                          refine Wk.region ?_
                          refine Wo.od (o_mv rfl) rfl ?_
                          refine Wo.od (o_mv rfl) rfl ?_
                          refine Wo.od (o_bi rfl rfl (bin_add _ _ _)) rfl ?_
                          refine Wo.od (o_bu rfl rfl (bu_mi _ _)) rfl ?_
                          refine Wo.od (o_bi rfl rfl (bin_lss _ _ _)) rfl ?_
                          refine Wo.od (o_mv rfl) rfl ?_
                          rcases br_some hF with ⟨h481, hF⟩ | ⟨h481, hF⟩
                          · refine Wo.og (o_fa (r := ptr b12 1) rfl (fa25_1 _ _)) (gg rfl rfl (eTT h481)) rfl ?_
                            refine Wo.og (o_ld (k := 1) t23 rfl rfl rfl) (gg rfl rfl (eTT h481)) rfl ?_
                            refine Wo.og (o_ln (k := 2) u23 rfl rfl (.inl rfl)) (gg rfl rfl (eTT h481)) rfl ?_
                            refine Wo.og (o_fa (r := ptr b11 1) rfl (fa57_1 _ _)) (gg rfl rfl (eTT h481)) rfl ?_
                            refine Wo.og (o_ld (k := 0) t5 rfl rfl rfl) (gg rfl rfl (eTT h481)) rfl ?_
                            refine Wo.og (o_bi rfl rfl (ub_rem _ _ (by decide))) (gg rfl rfl (eTT h481)) rfl ?_
                            refine Wo.og (o_cv rfl (cv_i (by rw [u5]; rfl) u3)) (gg rfl rfl (eTT h481)) rfl ?_
                            refine Wo.og (o_bi rfl rfl (bin_add _ _ _)) (gg rfl rfl (eTT h481)) rfl ?_
                            refine Wo.og (o_bi rfl rfl (bin_lss _ _ _)) (gg rfl rfl (eTT h481)) rfl ?_
                            refine Wo.od (o_pt rfl h481 rfl) rfl ?_
                            refine Wo.nil ?_
                            cases hF
                            exact At.en () rfl (sc rfl (sc rfl (sc rfl (sc rfl (sc rfl (sc rfl (sc rfl sn))))))) (Turn.picks [0, 1, 2, 3] rfl rfl)
                          · refine Wo.s (gg rfl rfl (eFT h481)) rfl ?_
                            refine Wo.s (gg rfl rfl (eFT h481)) rfl ?_
                            refine Wo.s (gg rfl rfl (eFT h481)) rfl ?_
                            refine Wo.s (gg rfl rfl (eFT h481)) rfl ?_
                            refine Wo.s (gg rfl rfl (eFT h481)) rfl ?_
                            refine Wo.s (gg rfl rfl (eFT h481)) rfl ?_
                            refine Wo.s (gg rfl rfl (eFT h481)) rfl ?_
                            refine Wo.s (gg rfl rfl (eFT h481)) rfl ?_
                            refine Wo.s (gg rfl rfl (eFT h481)) rfl ?_
                            refine Wo.od (o_pf rfl h481 rfl) rfl ?_
                            refine Wo.nil ?_
                            cases hF
                            exact At.en () rfl (sc rfl (sc rfl (sc rfl (sc rfl (sc rfl (sc rfl (sc rfl sn))))))) (Turn.picks [0, 1, 2, 3] rfl rfl)
                        · clear h482
                          rintro ⟨⟩
                          refine At.tn ?_
                          rcases br_some hF with ⟨h484, hF⟩ | ⟨h484, hF⟩
                          · refine Wk.condT rfl h484 ?_
                            refine Wk.skip ?_
                            refine At.tn ?_
                            refine Wk.seq ?_
                            refine Wk.block ?_
                            refine Wk.region ?_
                            refine Wo.od (o_fa (r := ptr b12 1) rfl (fa25_1 _ _)) rfl ?_
                            refine Wo.od (o_ld (k := 1) t23 rfl rfl rfl) rfl ?_
                            refine Wo.od (o_mv rfl) rfl ?_
                            refine Wo.od (o_mv rfl) rfl ?_
                            refine Wo.od (o_bd rfl z26 rfl (bd_s bs26 rfl rfl rfl)) rfl ?_
                            refine Wo.x (o_bs (es := ([(v368, v452)] : List (Int × Int)).map (eP (eI .i64) (eI .i64))) s23 rfl (bs_c s23 z26 rfl rfl) rfl rfl) gn rfl fun b485 => ?_
                            obtain ⟨h486, hF⟩ := gd_some hF
                            refine Wo.x (o_apl (k := 3) (k2 := 0) (xs := (l450 : List (Int × Int))) (ys := ([(v368, v452)] : List (Int × Int))) (enP (enI .i64) (enI .i64)) s23 ⟨_, u23⟩ rfl rfl rfl (.arr _ _ _ _ _) h486) gn rfl fun a487 => ?_
                            refine Wo.od (o_fa (r := ptr b12 1) rfl (fa25_1 _ _)) rfl ?_
                            refine Wo.o0 (o_st (k := 2) t23 rfl rfl rfl rfl rfl) ?_
                            refine Wo.nil ?_
                            refine At.bn ?_
                            refine At.tn ?_
                            refine Wk.region ?_
                            refine Wo.od (o_mv rfl) rfl ?_
                            refine Wo.od (o_bi rfl rfl (bin_add _ _ _)) rfl ?_
                            refine Wo.od (o_as rfl) rfl ?_
                            refine Wo.nil ?_
                            cases hF
                            exact At.en a487 rfl (sc rfl (sc rfl (sc rfl (sc rfl (sc rfl (sc rfl sn)))))) (Turn.picks [1, 2, 3, 4] rfl rfl)
                          · refine Wk.condF rfl h484 ?_
                            refine Wk.exit ?_
                            refine At.te ?_
                            cases hF
                            exact At.en a451 rfl (sc rfl (sc rfl (sc rfl (sc rfl sn)))) (Turn.picks [0, 1, 2, 3] rfl rfl)
                      · clear h488
                        rintro a472
                        refine At.be ?_
                        refine At.bn ?_
                        refine At.tn ?_
                        refine Wk.region ?_
                        refine Wo.od (o_bi rfl rfl (bin_add _ _ _)) rfl ?_
                        refine Wo.od (o_mv rfl) rfl ?_
                        refine Wo.nil ?_
                        cases hF
                        exact At.en a472 rfl (sc rfl (sc rfl (sc rfl (sc rfl sn)))) (Turn.picks [0, 1, 2, 3] rfl rfl)
                    · refine Wk.condF rfl h432 ?_
                      refine Wk.exit ?_
                      refine At.te ?_
                      cases hF
                      exact At.en a367 rfl (sc rfl (sc rfl sn)) (Turn.picks [1, 2, 3] rfl rfl)
                  · clear h490
                    rintro a431
                    refine At.be ?_
                    refine At.bn ?_
                    cases hF
                    exact At.en a431 rfl (sc rfl (sc rfl sn)) (Turn.picks [0, 1, 2] rfl rfl)
                · refine Wk.condF rfl h305 ?_
                  refine Wk.skip ?_
                  refine At.bn ?_
                  cases hF
                  exact At.en a19 rfl (sc rfl (sc rfl sn)) (Turn.picks [3, 0, 2] rfl rfl)
  · clear h492
    obtain ⟨v256, l257, n259⟩ := r493
    rintro a258
    refine At.tn ?_
    refine Wk.seq ?_
    refine Wk.region ?_
    refine Wo.od (o_ld (k := 0) t25 rfl rfl rfl) rfl ?_
    refine Wo.o0 (o_st (k := 2) t25 rfl rfl rfl rfl rfl) ?_
    refine Wo.nil ?_
    refine At.tn ?_
    refine Wk.ret ?_
    cases hF
    exact At.ret (.cell (k := 2) t25 rfl rfl rfl .nil) fun m' hm => ⟨(a258, n259), rfl, (Turn.picks [1] rfl rfl) m' hm⟩

theorem f28_ok (n : Nat) (x1 : Nat) (x2 : Nat) (x3 : Nat) (l4 : List (Nat × Nat)) (x8 : Nat) (x9 : Nat) (x10 : Int) (x11 : Int) (x12 : Int) (x13 : Nat) (x14 : Nat) (x15 : Int) (x16 : Int) (x17 : Int) (a5 : Option Addr) (c6 : Nat) (r : Int × List (Int × Int) × Int × List (Int × Int) × Int × List (Int × Int)) (hF : F28 n x1 x2 x3 l4 x8 x9 x10 x11 x12 x13 x14 x15 x16 x17 = some r) (m : AMem) (h7 : Rd m a5 c6 2 l4.length (l4.map (eP (eN .u8) (eN .u8)))) :
    CallA E18w 28 [.agg #[.int .u8 ((x1 : Nat) : Int), .int .u8 ((x2 : Nat) : Int), .int .u16 ((x3 : Nat) : Int), .slice a5 l4.length c6], .agg #[.int .u8 ((x8 : Nat) : Int), .int .u8 ((x9 : Nat) : Int), .int .i64 x10, .int .i64 x11, .int .i64 x12, .int .u8 ((x13 : Nat) : Int), .int .u8 ((x14 : Nat) : Int), .int .i64 x15, .int .i64 x16, .int .i64 x17]] m (fun v m' => ∃ x : Option Addr × Nat × Option Addr × Nat × Option Addr × Nat, v = .agg #[.int .i64 r.1, .slice x.1 x.2.1 x.2.1, .int .i64 r.2.2.1, .slice x.2.2.1 x.2.2.2.1 x.2.2.2.1, .int .i64 r.2.2.2.2.1, .slice x.2.2.2.2.1 x.2.2.2.2.2 x.2.2.2.2.2] ∧ Hp m m' [.sl x.1 2 x.2.1 (r.2.1.map (eP (eI .i64) (eI .i64))), .sl x.2.2.1 2 x.2.2.2.1 (r.2.2.2.1.map (eP (eI .i64) (eI .i64))), .sl x.2.2.2.2.1 2 x.2.2.2.2.2 (r.2.2.2.2.2.map (eP (eI .i64) (eI .i64)))]) := by
  unfold F28 at hF
  refine call_wk (m0 := m) (ps := [.rd a5 c6 2 l4.length (l4.map (eP (eN .u8) (eN .u8)))]) (N := 20) (rs := [.cell 4 59]) rfl Tryd.func28 rfl rfl rfl ((Hp.start m).inn rfl h7) ?_
  refine Wk.seq ?_
  refine Wk.region ?_
  refine Wo.x (o_bx rfl) gn rfl fun b18 => ?_
  refine Wo.x (o_bx rfl) gn rfl fun b19 => ?_
  refine Wo.x (o_al z59 rfl) gn rfl fun b20 => ?_
  refine Wo.nil ?_
  refine At.tn ?_
  refine Wk.seq ?_
  refine Wk.region ?_
  refine Wo.od (o_ld (k := 2) t55 rfl rfl rfl) rfl ?_
  obtain ⟨⟨r22, l23⟩, h21, hF⟩ := ob_some hF
  refine Wo.x (o_cl rfl rfl (fun m hm => f40_ok n x1 x2 x3 l4 a5 c6 _ h21 m (hm.rd (k := 3) rfl (.rd _ _ _ _ _))) fun _ => rfl) gn rfl ?_
  rintro ⟨a24, n25⟩
  refine Wo.len (k := 0) (xs := l23) rfl ?_
  rintro rfl
  refine Wo.x (o_al z25 rfl) gn rfl fun b26 => ?_
  refine Wo.o0 (o_st (k := 0) t25 rfl rfl rfl rfl rfl) ?_
  refine Wo.nil ?_
  refine At.tn ?_
  refine Wk.seq ?_
  refine Wk.region ?_
  refine Wo.od (o_ia (r := ptr b19 0) rfl rfl (ia_c ar58 (i := 0) (by decide))) rfl ?_
  refine Wo.od (o_ld (k := 3) t57 rfl rfl rfl) rfl ?_
  refine Wo.od (o_ld (k := 0) t25 rfl rfl rfl) rfl ?_
  obtain ⟨⟨r28, l29⟩, h27, hF⟩ := ob_some hF
  refine Wo.x (o_cl rfl rfl (fun m hm => f65_ok n x8 x9 x10 x11 x12 r22 l23 a24 l23.length _ h27 m (hm.rd (k := 1) rfl (.sl _ _ _ _))) fun _ => rfl) gn rfl ?_
  rintro ⟨a30, n31⟩
  refine Wo.len (k := 0) (xs := l29) rfl ?_
  rintro rfl
  refine Wo.x (o_al z25 rfl) gn rfl fun b32 => ?_
  refine Wo.o0 (o_st (k := 0) t25 rfl rfl rfl rfl rfl) ?_
  refine Wo.nil ?_
  refine At.tn ?_
  refine Wk.seq ?_
  refine Wk.drawc (prs := [(0, 5), (1, 5)]) (by kernel_rfl) ?_
  refine Wn.od (o_ld (k := 2) t25 rfl rfl rfl) rfl ?_
  refine Wn.od (o_ld (k := 0) t25 rfl rfl rfl) rfl ?_
  refine Wn.od (o_ia (r := ptr b19 5) rfl rfl (ia_c ar58 (i := 1) (by decide))) rfl ?_
  refine Wn.od (o_ld (k := 5) t57 rfl rfl rfl) rfl ?_
  refine Wn.od (o_ld (k := 0) t25 rfl rfl rfl) rfl ?_
  obtain ⟨⟨r34, l35⟩, h33, hF⟩ := ob_some hF
  refine Wn.c (o_ce rfl rfl (fun m hm => f65_ok n x13 x14 x15 x16 x17 r28 l29 a30 l29.length _ h33 m (hm.rd (k := 1) rfl (.sl _ _ _ _))) fun _ => rfl) gn rfl ?_
  rintro ⟨a36, n37⟩
  refine Wn.len (k := 0) (xs := l35) rfl ?_
  rintro rfl
  refine Wn.od (o_bd rfl z59 rfl (bd_s bs59 rfl rfl rfl)) rfl ?_
  refine Wn.o0 (o_st (k := 5) t59 rfl rfl rfl rfl rfl) ?_
  refine Wn.nil (fun m hm => OkP.all rfl) ?_
  refine At.tn ?_
  refine Wk.ret ?_
  cases hF
  exact At.ret (.cell (k := 5) t59 rfl rfl rfl .nil) fun m' hm => ⟨(a24, l23.length, a30, l29.length, a36, l35.length), rfl, (Turn.picks [4, 2, 0] rfl rfl) m' hm⟩

theorem f94_ok (n : Nat) (x1 : Int)  (r : Bool) (hF : F94 n x1 = some r) (m : AMem)  :
    CallA E18w 94 [.int .i64 x1] m (fun v m' => ∃ x : Unit, v = .bool r ∧ Hp m m' []) := by
  unfold F94 at hF
  refine call_wk (m0 := m) (ps := []) (N := 6) (rs := [.tmp 2]) rfl Tryd.func94 rfl rfl rfl (Hp.start m) ?_
  refine Wk.seq ?_
  refine Wk.region ?_
  refine Wo.od (o_as rfl) rfl ?_
  refine Wo.nil ?_
  refine At.tn ?_
  refine Wk.seq ?_
  refine Wk.region ?_
  refine Wo.od (o_mv rfl) rfl ?_
  refine Wo.od (o_mv rfl) rfl ?_
  refine Wo.od (o_bi rfl rfl (ib_neq _ _)) rfl ?_
  refine Wo.od (o_as rfl) rfl ?_
  refine Wo.nil ?_
  refine At.tn ?_
  refine Wk.ret ?_
  cases hF
  exact At.ret (.tmp rfl .nil) fun m' hm => ⟨(), rfl, (Turn.picks [] rfl rfl) m' hm⟩

theorem f81_ok (n : Nat) (x1 : Int) (x2 : Int)  (r : Int) (hF : F81 n x1 x2 = some r) (m : AMem)  :
    CallA E18w 81 [.int .i64 x1, .int .i64 x2] m (fun v m' => ∃ x : Unit, v = .int .i64 r ∧ Hp m m' []) := by
  unfold F81 at hF
  refine call_wk (m0 := m) (ps := []) (N := 20) (rs := [.tmp 4]) rfl Tryd.func81 rfl rfl rfl (Hp.start m) ?_
  refine Wk.seq ?_
  refine Wk.region ?_
  refine Wo.od (o_as rfl) rfl ?_
  refine Wo.nil ?_
  refine At.tn ?_
  refine Wk.seq ?_
  refine Wk.region ?_
  refine Wo.od (o_mv rfl) rfl ?_
  obtain ⟨r4, h3, hF⟩ := ob_some hF
  refine Wo.x (o_cl rfl rfl (fun m hm => f94_ok n x1  _ h3 m ) fun _ => rfl) gn rfl ?_
  rintro ⟨⟩
  refine Wo.od (o_as rfl) rfl ?_
  refine Wo.nil ?_
  refine At.tn ?_
  refine Wk.seq ?_
  refine Wk.region ?_
  refine Wo.od (o_mv rfl) rfl ?_
  obtain ⟨r6, h5, hF⟩ := ob_some hF
  refine Wo.x (o_cl rfl rfl (fun m hm => f94_ok n x2  _ h5 m ) fun _ => rfl) gn rfl ?_
  rintro ⟨⟩
  refine Wo.od (o_as rfl) rfl ?_
  refine Wo.nil ?_
  refine At.tn ?_
  refine Wk.seq ?_
  refine Wk.seq ?_
  refine Wk.region ?_
  refine Wo.od (o_mv rfl) rfl ?_
  refine Wo.nil ?_
  refine At.tn ?_
  rcases br_some hF with ⟨h7, hF⟩ | ⟨h7, hF⟩
  · refine Wk.condT rfl h7 ?_
    refine Wk.seq ?_
    refine Wk.seq ?_
    refine Wk.region ?_
    refine Wo.od (o_mv rfl) rfl ?_
    refine Wo.nil ?_
    refine At.tn ?_
    rcases br_some hF with ⟨h8, hF⟩ | ⟨h8, hF⟩
    · refine Wk.condT rfl h8 ?_
      refine Wk.seq ?_
      refine Wk.region ?_
      refine Wo.od (o_as rfl) rfl ?_
      refine Wo.nil ?_
      refine At.tn ?_
      refine Wk.ret ?_
      refine At.tr ?_
      refine At.tr ?_
      cases hF
      exact At.ret (.tmp rfl .nil) fun m' hm => ⟨(), rfl, (Turn.picks [] rfl rfl) m' hm⟩
    · refine Wk.condF rfl h8 ?_
      refine Wk.skip ?_
      refine At.tn ?_
      refine Wk.seq ?_
      refine Wk.region ?_
      refine Wo.od (o_as rfl) rfl ?_
      refine Wo.nil ?_
      refine At.tn ?_
      refine Wk.ret ?_
      refine At.tr ?_
      cases hF
      exact At.ret (.tmp rfl .nil) fun m' hm => ⟨(), rfl, (Turn.picks [] rfl rfl) m' hm⟩
  · refine Wk.condF rfl h7 ?_
    refine Wk.skip ?_
    refine At.tn ?_
    refine Wk.seq ?_
    refine Wk.seq ?_
    refine Wk.region ?_
    refine Wo.od (o_mv rfl) rfl ?_
    refine Wo.nil ?_
    refine At.tn ?_
    rcases br_some hF with ⟨h9, hF⟩ | ⟨h9, hF⟩
    · refine Wk.condT rfl h9 ?_
      refine Wk.seq ?_
      refine Wk.region ?_
      refine Wo.od (o_as rfl) rfl ?_
      refine Wo.nil ?_
      refine At.tn ?_
      refine Wk.ret ?_
      refine At.tr ?_
      cases hF
      exact At.ret (.tmp rfl .nil) fun m' hm => ⟨(), rfl, (Turn.picks [] rfl rfl) m' hm⟩
    · refine Wk.condF rfl h9 ?_
      refine Wk.skip ?_
      refine At.tn ?_
      refine Wk.seq ?_
      refine Wk.seq ?_
      refine Wk.region ?_
      refine Wo.od (o_mv rfl) rfl ?_
      refine Wo.od (o_mv rfl) rfl ?_
      refine Wo.od (o_bi rfl rfl (bin_lss _ _ _)) rfl ?_
      refine Wo.nil ?_
      refine At.tn ?_
      rcases br_some hF with ⟨h10, hF⟩ | ⟨h10, hF⟩
      · refine Wk.condT rfl h10 ?_
        refine Wk.seq ?_
        refine Wk.region ?_
        refine Wo.od (o_as rfl) rfl ?_
        refine Wo.nil ?_
        refine At.tn ?_
        refine Wk.ret ?_
        refine At.tr ?_
        cases hF
        exact At.ret (.tmp rfl .nil) fun m' hm => ⟨(), rfl, (Turn.picks [] rfl rfl) m' hm⟩
      · refine Wk.condF rfl h10 ?_
        refine Wk.skip ?_
        refine At.tn ?_
        refine Wk.seq ?_
        refine Wk.seq ?_
        refine Wk.region ?_
        refine Wo.od (o_mv rfl) rfl ?_
        refine Wo.od (o_mv rfl) rfl ?_
        refine Wo.od (o_bi rfl rfl (bin_gtr _ _ _)) rfl ?_
        refine Wo.nil ?_
        refine At.tn ?_
        rcases br_some hF with ⟨h11, hF⟩ | ⟨h11, hF⟩
        · refine Wk.condT rfl h11 ?_
          refine Wk.seq ?_
          refine Wk.region ?_
          refine Wo.od (o_as rfl) rfl ?_
          refine Wo.nil ?_
          refine At.tn ?_
          refine Wk.ret ?_
          refine At.tr ?_
          cases hF
          exact At.ret (.tmp rfl .nil) fun m' hm => ⟨(), rfl, (Turn.picks [] rfl rfl) m' hm⟩
        · refine Wk.condF rfl h11 ?_
          refine Wk.skip ?_
          refine At.tn ?_
          refine Wk.seq ?_
          refine Wk.region ?_
          refine Wo.od (o_as rfl) rfl ?_
          refine Wo.nil ?_
          refine At.tn ?_
          refine Wk.ret ?_
          cases hF
          exact At.ret (.tmp rfl .nil) fun m' hm => ⟨(), rfl, (Turn.picks [] rfl rfl) m' hm⟩

theorem f64_ok (n : Nat) (l1 : List (Int)) (l5 : List (Int)) (a2 : Option Addr) (c3 : Nat) (a6 : Option Addr) (c7 : Nat) (r : Int) (hF : F64 n l1 l5 = some r) (m : AMem) (h4 : Rd m a2 c3 1 l1.length (l1.map (eI .i64))) (h8 : Rd m a6 c7 1 l5.length (l5.map (eI .i64))) :
    CallA E18w 64 [.slice a2 l1.length c3, .slice a6 l5.length c7] m (fun v m' => ∃ x : Unit, v = .int .i64 r ∧ Hp m m' []) := by
  unfold F64 at hF
  refine call_wk (m0 := m) (ps := [.rd a6 c7 1 l5.length (l5.map (eI .i64)), .rd a2 c3 1 l1.length (l1.map (eI .i64))]) (N := 36) (rs := [.tmp 4]) rfl Tryd.func64 rfl rfl rfl (((Hp.start m).inn rfl h4).inn rfl h8) ?_
  refine Wk.seq ?_
  refine Wk.region ?_
  refine Wo.od (o_as rfl) rfl ?_
  refine Wo.nil ?_
  refine At.tn ?_
  refine Wk.seq ?_
  refine Wk.seq ?_
  refine Wk.region ?_
  refine Wo.od (o_mv rfl) rfl ?_
  refine Wo.od (o_ln (k := 1) u39 rfl rfl (.inl rfl)) rfl ?_
  refine Wo.od (o_mv rfl) rfl ?_
  refine Wo.nil ?_
  refine At.tn ?_
  refine Wk.block ?_
  obtain ⟨r44, h43, hF⟩ := ob_some hF
  refine Wk.cut (G := (fun (r : (Int) ⊕ (Unit)) (g : Unit) => match r, g with | .inl v27, _ => ⟨.ret, [(4, .int .i64 v27)], []⟩ | .inr _, _ => ⟨(.exit 0), [(0, .slice a2 l1.length c3), (1, .slice a6 l5.length c7)], [.rd a2 c3 1 l1.length (l1.map (eI .i64)), .rd a6 c7 1 l5.length (l5.map (eI .i64))]⟩) r44) ?_ ?_
  · refine Wk.weak (fs' := [(0, .slice a2 l1.length c3), (1, .slice a6 l5.length c7), (9, .slice a2 l1.length c3), (10, .int .i64 (l1.length : Int)), (11, .int .i64 0)]) (ps' := [.rd a2 c3 1 l1.length (l1.map (eI .i64)), .rd a6 c7 1 l5.length (l5.map (eI .i64))]) (sc rfl (sc rfl (sc rfl (sc rfl (sc rfl sn))))) (Turn.picks [1, 0] rfl rfl) ?_
    refine Wk.loop (σ := Int) (ρ := (Int) ⊕ (Unit)) (γ := Unit) (δ := fun _ => Unit) _ (fun (s : Int) (g : Unit) => match s, g with | v10, _ => ⟨.normal, [(0, .slice a2 l1.length c3), (1, .slice a6 l5.length c7), (9, .slice a2 l1.length c3), (10, .int .i64 (l1.length : Int)), (11, .int .i64 v10)], [.rd a2 c3 1 l1.length (l1.map (eI .i64)), .rd a6 c7 1 l5.length (l5.map (eI .i64))]⟩) (fun (r : (Int) ⊕ (Unit)) (g : Unit) => match r, g with | .inl v27, _ => ⟨.ret, [(4, .int .i64 v27)], []⟩ | .inr _, _ => ⟨(.exit 0), [(0, .slice a2 l1.length c3), (1, .slice a6 l5.length c7)], [.rd a2 c3 1 l1.length (l1.map (eI .i64)), .rd a6 c7 1 l5.length (l5.map (eI .i64))]⟩) ?_ (fun _ _ => rfl) (fun r d => by rcases r with _ | _ <;> (intro e; cases e)) _ _ _ h43 ()
    clear hF h43
    rintro v10 ⟨⟩ r hF
    unfold L64_1 at hF
    refine Wk.seq ?_
    refine Wk.region ?_
    refine Wo.od (o_bi rfl rfl (bin_lss _ _ _)) rfl ?_
    refine Wo.nil ?_
    refine At.tn ?_
    refine Wk.seq ?_
    rcases br_some hF with ⟨h28, hF⟩ | ⟨h28, hF⟩
    · refine Wk.condT rfl h28 ?_
      refine Wk.skip ?_
      refine At.tn ?_
      refine Wk.seq ?_
      refine Wk.block ?_
      refine Wk.seq ?_
      refine Wk.region ?_
      refine Wo.od (o_mv rfl) rfl ?_
      obtain ⟨h29, hF⟩ := gd_some hF
      replace h29 := inB_some h29
      refine Wo.openr (k := 0) rfl (pos_of h29) ?_
      rintro b30 o31 rfl
      refine Wo.og (o_ixs s39 rfl rfl h29) gn rfl ?_
      obtain ⟨x32, h33, hF⟩ := ob_some hF
      refine Wo.od (o_ldr (k := 0) t3 rfl rfl (map_at h33) rfl rfl) rfl ?_
      refine Wo.od (o_as rfl) rfl ?_
      refine Wo.od (o_as rfl) rfl ?_
      refine Wo.nil ?_
      refine At.tn ?_
      refine Wk.seq ?_
      refine Wk.seq ?_
      refine Wk.region ?_
      refine Wo.od (o_mv rfl) rfl ?_
      refine Wo.od (o_mv rfl) rfl ?_
      refine Wo.od (o_ln (k := 2) u39 rfl rfl (.inl rfl)) rfl ?_
      refine Wo.od (o_bi rfl rfl (bin_geq _ _ _)) rfl ?_
      refine Wo.nil ?_
      refine At.tn ?_
      rcases br_some hF with ⟨h34, hF⟩ | ⟨h34, hF⟩
      · refine Wk.condT rfl h34 ?_
        refine Wk.seq ?_
        refine Wk.region ?_
        refine Wo.od (o_as rfl) rfl ?_
        refine Wo.nil ?_
        refine At.tn ?_
        refine Wk.ret ?_
        refine At.tr ?_
        refine At.br ?_
        refine At.tr ?_
        cases hF
        exact At.en () rfl (sc rfl sn) (Turn.picks [] rfl rfl)
      · refine Wk.condF rfl h34 ?_
        refine Wk.skip ?_
        refine At.tn ?_
        refine Wk.seq ?_
        refine Wk.region ?_
        refine Wo.od (o_mv rfl) rfl ?_
        refine Wo.od (o_mv rfl) rfl ?_
        obtain ⟨h35, hF⟩ := gd_some hF
        replace h35 := inB_some h35
        refine Wo.openr (k := 2) rfl (pos_of h35) ?_
        rintro b36 o37 rfl
        refine Wo.og (o_ixs s39 rfl rfl h35) gn rfl ?_
        obtain ⟨x38, h39, hF⟩ := ob_some hF
        refine Wo.od (o_ldr (k := 0) t3 rfl rfl (map_at h39) rfl rfl) rfl ?_
        refine Wo.od (o_as rfl) rfl ?_
        refine Wo.nil ?_
        refine At.tn ?_
        refine Wk.seq ?_
        refine Wk.region ?_
        refine Wo.od (o_mv rfl) rfl ?_
        refine Wo.od (o_mv rfl) rfl ?_
        obtain ⟨r41, h40, hF⟩ := ob_some hF
        refine Wo.x (o_cl rfl rfl (fun m hm => f81_ok n x32 x38  _ h40 m ) fun _ => rfl) gn rfl ?_
        rintro ⟨⟩
        refine Wo.od (o_as rfl) rfl ?_
        refine Wo.nil ?_
        refine At.tn ?_
        refine Wk.seq ?_
        refine Wk.region ?_
        refine Wo.od (o_mv rfl) rfl ?_
        refine Wo.od (o_bi rfl rfl (ib_neq _ _)) rfl ?_
        refine Wo.nil ?_
        refine At.tn ?_
        rcases br_some hF with ⟨h42, hF⟩ | ⟨h42, hF⟩
        · refine Wk.condT rfl h42 ?_
          refine Wk.seq ?_
          refine Wk.region ?_
          refine Wo.od (o_mv rfl) rfl ?_
          refine Wo.od (o_as rfl) rfl ?_
          refine Wo.nil ?_
          refine At.tn ?_
          refine Wk.ret ?_
          refine At.br ?_
          refine At.tr ?_
          cases hF
          exact At.en () rfl (sc rfl sn) (Turn.picks [] rfl rfl)
        · refine Wk.condF rfl h42 ?_
          refine Wk.skip ?_
          refine At.bn ?_
          refine At.tn ?_
          refine Wk.region ?_
          refine Wo.od (o_bi rfl rfl (bin_add _ _ _)) rfl ?_
          refine Wo.od (o_mv rfl) rfl ?_
          refine Wo.nil ?_
          cases hF
          exact At.en () rfl (sc rfl (sc rfl (sc rfl (sc rfl (sc rfl sn))))) (Turn.picks [2, 3] rfl rfl)
    · refine Wk.condF rfl h28 ?_
      refine Wk.exit ?_
      refine At.te ?_
      cases hF
      exact At.en () rfl (sc rfl (sc rfl sn)) (Turn.picks [0, 1] rfl rfl)
  · clear h43
    rcases r44 with v27 | _
    · rintro ⟨⟩
      refine At.br ?_
      refine At.tr ?_
      have hr := Option.some.inj hF
      subst r
      exact At.ret (.tmp rfl .nil) fun m' hm => ⟨(), rfl, (Turn.picks [] rfl rfl) m' hm⟩
    · rintro ⟨⟩
      refine At.be ?_
      refine At.tn ?_
      refine Wk.seq ?_
      refine Wk.seq ?_
      refine Wk.region ?_
      refine Wo.od (o_mv rfl) rfl ?_
      refine Wo.od (o_ln (k := 0) u39 rfl rfl (.inl rfl)) rfl ?_
      refine Wo.od (o_mv rfl) rfl ?_
      refine Wo.od (o_ln (k := 1) u39 rfl rfl (.inl rfl)) rfl ?_
      refine Wo.od (o_bi rfl rfl (bin_lss _ _ _)) rfl ?_
      refine Wo.nil ?_
      refine At.tn ?_
      rcases br_some hF with ⟨h45, hF⟩ | ⟨h45, hF⟩
      · refine Wk.condT rfl h45 ?_
        refine Wk.seq ?_
        refine Wk.region ?_
        refine Wo.od (o_as rfl) rfl ?_
        refine Wo.nil ?_
        refine At.tn ?_
        refine Wk.ret ?_
        refine At.tr ?_
        cases hF
        exact At.ret (.tmp rfl .nil) fun m' hm => ⟨(), rfl, (Turn.picks [] rfl rfl) m' hm⟩
      · refine Wk.condF rfl h45 ?_
        refine Wk.skip ?_
        refine At.tn ?_
        refine Wk.seq ?_
        refine Wk.region ?_
        refine Wo.od (o_as rfl) rfl ?_
        refine Wo.nil ?_
        refine At.tn ?_
        refine Wk.ret ?_
        cases hF
        exact At.ret (.tmp rfl .nil) fun m' hm => ⟨(), rfl, (Turn.picks [] rfl rfl) m' hm⟩

theorem f23_ok (n : Nat) (x1 : Int) (l2 : List (Int × Int)) (a3 : Option Addr) (c4 : Nat) (r : Int) (hF : F23 n x1 l2 = some r) (m : AMem) (h5 : Rd m a3 c4 2 l2.length (l2.map (eP (eI .i64) (eI .i64)))) :
    CallA E18w 23 [.agg #[.int .i64 x1, .slice a3 l2.length c4]] m (fun v m' => ∃ x : Unit, v = .int .i64 r ∧ Hp m m' []) := by
  unfold F23 at hF
  refine call_wk (m0 := m) (ps := [.rd a3 c4 2 l2.length (l2.map (eP (eI .i64) (eI .i64)))]) (N := 53) (rs := [.tmp 2]) rfl Tryd.func23 rfl rfl rfl ((Hp.start m).inn rfl h5) ?_
  refine Wk.seq ?_
  refine Wk.region ?_
  refine Wo.x (o_bx rfl) gn rfl fun b6 => ?_
  refine Wo.od (o_as rfl) rfl ?_
  refine Wo.nil ?_
  refine At.tn ?_
  refine Wk.seq ?_
  refine Wk.seq ?_
  obtain ⟨v17, h20, hF⟩ := ob_some hF
  refine Wk.cut (G := (fun (r : Bool) (g : Unit) => match r, g with | v17, _ => ⟨.normal, [(1, ptr b6 0), (19, .bool v17)], [.obj b6 (.cells [.int .i64 x1, .slice a3 l2.length c4] .own), .rd a3 c4 2 l2.length (l2.map (eP (eI .i64) (eI .i64)))]⟩) v17) ?_ ?_
  · clear hF
    revert v17
    intro r hF
    refine Wk.region ?_
    refine Wo.od (o_fa (r := ptr b6 0) rfl (fa25_0 _ _)) rfl ?_
    refine Wo.od (o_ld (k := 0) t3 rfl rfl rfl) rfl ?_
    refine Wo.od (o_bi rfl rfl (bin_lss _ _ _)) rfl ?_
    refine Wo.od (o_mv rfl) rfl ?_
    rcases br_some hF with ⟨h18, hF⟩ | ⟨h18, hF⟩
    · refine Wo.s (gg rfl rfl (eTF h18)) rfl ?_
      refine Wo.s (gg rfl rfl (eTF h18)) rfl ?_
      refine Wo.s (gg rfl rfl (eTF h18)) rfl ?_
      refine Wo.od (o_pt rfl h18 rfl) rfl ?_
      refine Wo.od (o_mv rfl) rfl ?_
      refine Wo.s (gg rfl rfl rfl) rfl ?_
      refine Wo.s (gg rfl rfl rfl) rfl ?_
      refine Wo.s (gg rfl rfl rfl) rfl ?_
      refine Wo.s (gg rfl rfl rfl) rfl ?_
      refine Wo.od (o_pT rfl rfl) rfl ?_
      refine Wo.nil ?_
      cases hF
      exact At.en () rfl (sc rfl (sc rfl sn)) (Turn.picks [0, 1] rfl rfl)
    · refine Wo.og (o_fa (r := ptr b6 0) rfl (fa25_0 _ _)) (gg rfl rfl (eFF h18)) rfl ?_
      refine Wo.og (o_ld (k := 0) t3 rfl rfl rfl) (gg rfl rfl (eFF h18)) rfl ?_
      refine Wo.og (o_bi rfl rfl (bin_gtr _ _ _)) (gg rfl rfl (eFF h18)) rfl ?_
      refine Wo.od (o_pf rfl h18 rfl) rfl ?_
      refine Wo.od (o_mv rfl) rfl ?_
      rcases br_some hF with ⟨h19, hF⟩ | ⟨h19, hF⟩
      · refine Wo.s (gg rfl rfl (eTF h19)) rfl ?_
        refine Wo.s (gg rfl rfl (eTF h19)) rfl ?_
        refine Wo.s (gg rfl rfl (eTF h19)) rfl ?_
        refine Wo.s (gg rfl rfl (eTF h19)) rfl ?_
        refine Wo.od (o_pt rfl h19 rfl) rfl ?_
        refine Wo.nil ?_
        cases hF
        exact At.en () rfl (sc rfl (sc rfl sn)) (Turn.picks [0, 1] rfl rfl)
      · refine Wo.og (o_fa (r := ptr b6 1) rfl (fa25_1 _ _)) (gg rfl rfl (eFF h19)) rfl ?_
        refine Wo.og (o_ld (k := 0) t23 rfl rfl rfl) (gg rfl rfl (eFF h19)) rfl ?_
        refine Wo.og (o_ln (k := 1) u23 rfl rfl (.inl rfl)) (gg rfl rfl (eFF h19)) rfl ?_
        refine Wo.og (o_bi rfl rfl (bin_gtr _ _ _)) (gg rfl rfl (eFF h19)) rfl ?_
        refine Wo.od (o_pf rfl h19 rfl) rfl ?_
        refine Wo.nil ?_
        cases hF
        exact At.en () rfl (sc rfl (sc rfl sn)) (Turn.picks [0, 1] rfl rfl)
  · clear h20
    rintro ⟨⟩
    refine At.tn ?_
    rcases br_some hF with ⟨h22, hF⟩ | ⟨h22, hF⟩
    · refine Wk.condT rfl h22 ?_
      refine Wk.seq ?_
      refine Wk.region ?_
      refine Wo.od (o_as rfl) rfl ?_
      refine Wo.nil ?_
      refine At.tn ?_
      refine Wk.ret ?_
      refine At.tr ?_
      cases hF
      exact At.ret (.tmp rfl .nil) fun m' hm => ⟨(), rfl, (Turn.picks [] rfl rfl) m' hm⟩
    · refine Wk.condF rfl h22 ?_
      refine Wk.skip ?_
      refine At.tn ?_
      refine Wk.seq ?_
      refine Wk.region ?_
      refine Wo.od (o_bd rfl z26 rfl (bd_s bs26 rfl rfl rfl)) rfl ?_
      refine Wo.x (o_al z26 rfl) gn rfl fun b23 => ?_
      refine Wo.o0 (o_st (k := 0) t26 rfl rfl rfl rfl rfl) ?_
      refine Wo.nil ?_
      refine At.tn ?_
      refine Wk.seq ?_
      refine Wk.seq ?_
      refine Wk.region ?_
      refine Wo.od (o_fa (r := ptr b6 1) rfl (fa25_1 _ _)) rfl ?_
      refine Wo.od (o_ld (k := 1) t23 rfl rfl rfl) rfl ?_
      refine Wo.od (o_ln (k := 2) u23 rfl rfl (.inl rfl)) rfl ?_
      refine Wo.od (o_mv rfl) rfl ?_
      refine Wo.nil ?_
      refine At.tn ?_
      refine Wk.block ?_
      obtain ⟨r246, h245, hF⟩ := ob_some hF
      refine Wk.cut (G := (fun (r : (Unit) ⊕ (Unit)) (g : Unit) => match r, g with | .inl _, _ => ⟨.ret, [(2, .int .i64 180)], []⟩ | .inr _, _ => ⟨(.exit 0), [], []⟩) r246) ?_ ?_
      · refine Wk.weak (fs' := [(1, ptr b6 0), (3, ptr b23 0), (22, .slice a3 l2.length c4), (23, .int .i64 (l2.length : Int)), (24, .int .i64 0)]) (ps' := [.obj b6 (.cells [.int .i64 x1, .slice a3 l2.length c4] .own), .rd a3 c4 2 l2.length (l2.map (eP (eI .i64) (eI .i64))), .obj b23 (.cells [.int .i64 (-1), .int .i64 (-1)] .own)]) (sc rfl (sc rfl (sc rfl (sc rfl (sc rfl sn))))) (Turn.picks [1, 2, 0] rfl rfl) ?_
        refine Wk.loop (σ := Int × Int × Int) (ρ := (Unit) ⊕ (Unit)) (γ := Unit) (δ := fun _ => Unit) _ (fun (s : Int × Int × Int) (g : Unit) => match s, g with | (v97, v98, v99), _ => ⟨.normal, [(1, ptr b6 0), (3, ptr b23 0), (22, .slice a3 l2.length c4), (23, .int .i64 (l2.length : Int)), (24, .int .i64 v99)], [.obj b6 (.cells [.int .i64 x1, .slice a3 l2.length c4] .own), .rd a3 c4 2 l2.length (l2.map (eP (eI .i64) (eI .i64))), .obj b23 (.cells [.int .i64 v97, .int .i64 v98] .own)]⟩) (fun (r : (Unit) ⊕ (Unit)) (g : Unit) => match r, g with | .inl _, _ => ⟨.ret, [(2, .int .i64 180)], []⟩ | .inr _, _ => ⟨(.exit 0), [], []⟩) ?_ (fun _ _ => rfl) (fun r d => by rcases r with _ | _ <;> (intro e; cases e)) _ _ _ h245 ()
        clear hF h245
        rintro ⟨v97, v98, v99⟩ ⟨⟩ r hF
        unfold L23_1 at hF
        refine Wk.seq ?_
        refine Wk.region ?_
        refine Wo.od (o_bi rfl rfl (bin_lss _ _ _)) rfl ?_
        refine Wo.nil ?_
        refine At.tn ?_
        refine Wk.seq ?_
        rcases br_some hF with ⟨h174, hF⟩ | ⟨h174, hF⟩
        · refine Wk.condT rfl h174 ?_
          refine Wk.skip ?_
          refine At.tn ?_
          refine Wk.seq ?_
          refine Wk.block ?_
          refine Wk.seq ?_
          refine Wk.region ?_
          obtain ⟨h210, hF⟩ := gd_some hF
          replace h210 := inB_some h210
          refine Wo.openr (k := 1) rfl (pos_of h210) ?_
          rintro b211 o212 rfl
          refine Wo.og (o_ixs s23 rfl rfl h210) gn rfl ?_
          obtain ⟨⟨x213, x214⟩, h215, hF⟩ := ob_some hF
          refine Wo.od (o_ldr (k := 0) t26 rfl rfl (map_at h215) rfl rfl) rfl ?_
          refine Wo.x (o_al z26 rfl) gn rfl fun b216 => ?_
          refine Wo.o0 (o_st (k := 0) t26 rfl rfl rfl rfl rfl) ?_
          refine Wo.nil ?_
          refine At.tn ?_
          refine Wk.seq ?_
          refine Wk.seq ?_
          obtain ⟨v236, h242, hF⟩ := ob_some hF
          refine Wk.cut (G := (fun (r : Bool) (g : Unit) => match r, g with | v236, _ => ⟨.normal, [(1, ptr b6 0), (3, ptr b23 0), (5, ptr b216 0), (22, .slice (some ⟨b211, o212, none⟩) l2.length c4), (23, .int .i64 (l2.length : Int)), (24, .int .i64 v99), (50, .bool v236)], [.obj b6 (.cells [.int .i64 x1, .slice (some ⟨b211, o212, none⟩) l2.length c4] .own), .ro b211 o212 2 l2.length (l2.map (eP (eI .i64) (eI .i64))), .rd (some ⟨b211, o212, none⟩) c4 2 l2.length (l2.map (eP (eI .i64) (eI .i64))), .obj b23 (.cells [.int .i64 v97, .int .i64 v98] .own), .obj b216 (.cells [.int .i64 x213, .int .i64 x214] .own)]⟩) v236) ?_ ?_
          · clear hF
            revert v236
            intro r hF
            refine Wk.draw (by kernel_rfl) ?_
            refine Wo.od (o_ia (r := ptr b216 0) rfl rfl (ia_c ar26 (i := 0) (by decide))) rfl ?_
            refine Wo.od (o_ld (k := 0) t3 rfl rfl rfl) rfl ?_
            refine Wo.od (o_bi rfl rfl (bin_lss _ _ _)) rfl ?_
            refine Wo.od (o_mv rfl) rfl ?_
            rcases br_some hF with ⟨h237, hF⟩ | ⟨h237, hF⟩
            · refine Wo.s (gg rfl rfl (eTF h237)) rfl ?_
              refine Wo.s (gg rfl rfl (eTF h237)) rfl ?_
              refine Wo.s (gg rfl rfl (eTF h237)) rfl ?_
              refine Wo.s (gg rfl rfl (eTF h237)) rfl ?_
              refine Wo.s (gg rfl rfl (eTF h237)) rfl ?_
              refine Wo.od (o_pt rfl h237 rfl) rfl ?_
              refine Wo.od (o_mv rfl) rfl ?_
              refine Wo.s (gg rfl rfl rfl) rfl ?_
              refine Wo.s (gg rfl rfl rfl) rfl ?_
              refine Wo.s (gg rfl rfl rfl) rfl ?_
              refine Wo.s (gg rfl rfl rfl) rfl ?_
              refine Wo.s (gg rfl rfl rfl) rfl ?_
              refine Wo.od (o_pT rfl rfl) rfl ?_
              refine Wo.od (o_mv rfl) rfl ?_
              refine Wo.s (gg rfl rfl rfl) rfl ?_
              refine Wo.s (gg rfl rfl rfl) rfl ?_
              refine Wo.s (gg rfl rfl rfl) rfl ?_
              refine Wo.s (gg rfl rfl rfl) rfl ?_
              refine Wo.od (o_pT rfl rfl) rfl ?_
              refine Wo.nil ?_
              cases hF
              exact At.en () rfl (sc rfl (sc rfl (sc rfl (sc rfl (sc rfl (sc rfl (sc rfl sn))))))) (Turn.picks [2, 1, 3, 4, 0] rfl rfl)
            · refine Wo.og (o_ia (r := ptr b216 0) rfl rfl (ia_c ar26 (i := 0) (by decide))) (gg rfl rfl (eFF h237)) rfl ?_
              refine Wo.og (o_ld (k := 0) t3 rfl rfl rfl) (gg rfl rfl (eFF h237)) rfl ?_
              refine Wo.og (o_ia (r := ptr b216 1) rfl rfl (ia_c ar26 (i := 1) (by decide))) (gg rfl rfl (eFF h237)) rfl ?_
              refine Wo.og (o_ld (k := 0) t3 rfl rfl rfl) (gg rfl rfl (eFF h237)) rfl ?_
              refine Wo.og (o_bi rfl rfl (bin_geq _ _ _)) (gg rfl rfl (eFF h237)) rfl ?_
              refine Wo.od (o_pf rfl h237 rfl) rfl ?_
              refine Wo.od (o_mv rfl) rfl ?_
              rcases br_some hF with ⟨h238, hF⟩ | ⟨h238, hF⟩
              · refine Wo.s (gg rfl rfl (eTF h238)) rfl ?_
                refine Wo.s (gg rfl rfl (eTF h238)) rfl ?_
                refine Wo.s (gg rfl rfl (eTF h238)) rfl ?_
                refine Wo.s (gg rfl rfl (eTF h238)) rfl ?_
                refine Wo.s (gg rfl rfl (eTF h238)) rfl ?_
                refine Wo.od (o_pt rfl h238 rfl) rfl ?_
                refine Wo.od (o_mv rfl) rfl ?_
                refine Wo.s (gg rfl rfl rfl) rfl ?_
                refine Wo.s (gg rfl rfl rfl) rfl ?_
                refine Wo.s (gg rfl rfl rfl) rfl ?_
                refine Wo.s (gg rfl rfl rfl) rfl ?_
                refine Wo.od (o_pT rfl rfl) rfl ?_
                refine Wo.nil ?_
                cases hF
                exact At.en () rfl (sc rfl (sc rfl (sc rfl (sc rfl (sc rfl (sc rfl (sc rfl sn))))))) (Turn.picks [2, 1, 3, 4, 0] rfl rfl)
              · refine Wo.og (o_ia (r := ptr b216 1) rfl rfl (ia_c ar26 (i := 1) (by decide))) (gg rfl rfl (eFF h238)) rfl ?_
                refine Wo.og (o_ld (k := 0) t3 rfl rfl rfl) (gg rfl rfl (eFF h238)) rfl ?_
                refine Wo.og (o_fa (r := ptr b6 0) rfl (fa25_0 _ _)) (gg rfl rfl (eFF h238)) rfl ?_
                refine Wo.og (o_ld (k := 2) t3 rfl rfl rfl) (gg rfl rfl (eFF h238)) rfl ?_
                refine Wo.og (o_bi rfl rfl (bin_geq _ _ _)) (gg rfl rfl (eFF h238)) rfl ?_
                refine Wo.od (o_pf rfl h238 rfl) rfl ?_
                refine Wo.od (o_mv rfl) rfl ?_
                rcases br_some hF with ⟨h239, hF⟩ | ⟨h239, hF⟩
                · refine Wo.s (gg rfl rfl (eTF h239)) rfl ?_
                  refine Wo.s (gg rfl rfl (eTF h239)) rfl ?_
                  refine Wo.s (gg rfl rfl (eTF h239)) rfl ?_
                  refine Wo.s (gg rfl rfl (eTF h239)) rfl ?_
                  refine Wo.od (o_pt rfl h239 rfl) rfl ?_
                  refine Wo.nil ?_
                  cases hF
                  exact At.en () rfl (sc rfl (sc rfl (sc rfl (sc rfl (sc rfl (sc rfl (sc rfl sn))))))) (Turn.picks [2, 1, 3, 4, 0] rfl rfl)
                · refine Wo.og (o_sa (k := 4) ar26 rfl rfl rfl rfl) (gg rfl rfl (eFF h239)) rfl ?_
                  refine Wo.og (o_sa (k := 0) ar26 rfl rfl rfl rfl) (gg rfl rfl (eFF h239)) rfl ?_
                  obtain ⟨r241, h240, hF⟩ := ob_some hF
                  refine Wo.x (o_cl rfl rfl (fun m hm => f64_ok n [v97, v98] [x213, x214] (some ⟨b23, 0, none⟩) 2 (some ⟨b216, 0, none⟩) 2 _ h240 m (hm.rdo (k := 4) (xs := [v97, v98]) (f := eI .i64) rfl rfl rfl rfl (enI .i64)) (hm.rdo (k := 0) (xs := [x213, x214]) (f := eI .i64) rfl rfl rfl rfl (enI .i64))) fun _ => rfl) (gg rfl rfl (eFF h239)) rfl ?_
                  rintro ⟨⟩
                  refine Wo.og (o_bi rfl rfl (bin_geq _ _ _)) (gg rfl rfl (eFF h239)) rfl ?_
                  refine Wo.od (o_pf rfl h239 rfl) rfl ?_
                  refine Wo.nil ?_
                  cases hF
                  exact At.en () rfl (sc rfl (sc rfl (sc rfl (sc rfl (sc rfl (sc rfl (sc rfl sn))))))) (Turn.picks [2, 1, 3, 4, 0] rfl rfl)
          · clear h242
            rintro ⟨⟩
            refine At.tn ?_
            rcases br_some hF with ⟨h244, hF⟩ | ⟨h244, hF⟩
            · refine Wk.condT rfl h244 ?_
              refine Wk.seq ?_
              refine Wk.region ?_
              refine Wo.od (o_as rfl) rfl ?_
              refine Wo.nil ?_
              refine At.tn ?_
              refine Wk.ret ?_
              refine At.tr ?_
              refine At.br ?_
              refine At.tr ?_
              cases hF
              exact At.en () rfl (sc rfl sn) (Turn.picks [] rfl rfl)
            · refine Wk.condF rfl h244 ?_
              refine Wk.skip ?_
              refine At.tn ?_
              refine Wk.region ?_
              refine Wo.od (o_ld (k := 4) t26 rfl rfl rfl) rfl ?_
              refine Wo.o0 (o_st (k := 3) t26 rfl rfl rfl rfl rfl) ?_
              refine Wo.nil ?_
              refine At.bn ?_
              refine At.tn ?_
              refine Wk.region ?_
              refine Wo.od (o_bi rfl rfl (bin_add _ _ _)) rfl ?_
              refine Wo.od (o_mv rfl) rfl ?_
              refine Wo.nil ?_
              cases hF
              exact At.en () rfl (sc rfl (sc rfl (sc rfl (sc rfl (sc rfl sn))))) (Turn.picks [0, 2, 3] rfl rfl)
        · refine Wk.condF rfl h174 ?_
          refine Wk.exit ?_
          refine At.te ?_
          cases hF
          exact At.en () rfl sn (Turn.picks [] rfl rfl)
      · clear h245
        rcases r246 with _ | _
        · rintro ⟨⟩
          refine At.br ?_
          refine At.tr ?_
          cases hF
          exact At.ret (.tmp rfl .nil) fun m' hm => ⟨(), rfl, (Turn.picks [] rfl rfl) m' hm⟩
        · rintro ⟨⟩
          refine At.be ?_
          refine At.tn ?_
          refine Wk.seq ?_
          refine Wk.region ?_
          refine Wo.od (o_as rfl) rfl ?_
          refine Wo.nil ?_
          refine At.tn ?_
          refine Wk.ret ?_
          cases hF
          exact At.ret (.tmp rfl .nil) fun m' hm => ⟨(), rfl, (Turn.picks [] rfl rfl) m' hm⟩

end Go.Proofs.YtpclggcpobakhaaDoor.W0
end

section
namespace Go.Proofs.YtpclggcpobakhaaDoor
open Go Go.Ab Go.Ab.W
/-- wardmotelaw18.fitting: by hand (S18Fit) -/
def gOf (N1 : Int) (l1 : List (Int × Int)) (N2 : Int) (l2 : List (Int × Int)) (N3 : Int) (l3 : List (Int × Int)) (j : Nat) : Int × List (Int × Int) :=
  match j with
  | 0 => (N1, l1)
  | 1 => (N2, l2)
  | _ => (N3, l3)
def L41_1 (n : Nat) (N1 : Int) (l1 : List (Int × Int)) (N2 : Int) (l2 : List (Int × Int)) (N3 : Int) (l3 : List (Int × Int)) : (List Nat × Int) → Option ((List Nat × Int) ⊕ (List Nat)) := fun (J, v) =>
br (decide (v < 3)) (
gd (inB v 3) (
ob (F23 n (gOf N1 l1 N2 l2 N3 l3 v.toNat).1 (gOf N1 l1 N2 l2 N3 l3 v.toNat).2) fun r =>
br (decide (r = 0)) (
gd (lim (J.length + 1)) (
some (.inl (J ++ [v.toNat], IntKind.wrap .i64 (v + 1))))) (
some (.inl (J, IntKind.wrap .i64 (v + 1)))))) (
some (.inr J))
def F41 (n : Nat) (x1 : Nat) (x2 : Nat) (x3 : Nat) (l4 : List (Nat × Nat)) (x8 : Nat) (x9 : Nat) (x10 : Int) (x11 : Int) (x12 : Int) (x13 : Nat) (x14 : Nat) (x15 : Int) (x16 : Int) (x17 : Int) : Option (List (Int × List (Int × Int))) :=
ob (F28 n x1 x2 x3 l4 x8 x9 x10 x11 x12 x13 x14 x15 x16 x17) fun (N1, l1, N2, l2, N3, l3) =>
ob (lpN (L41_1 n N1 l1 N2 l2 N3 l3) n ([], 0)) fun J =>
some (J.map (gOf N1 l1 N2 l2 N3 l3))
/-- slices.Repeat of one number: by hand (S18Rep) -/
def F60r (n : Nat) (l : List Int) (k : Int) : Option (List Int) :=
  match l with
  | [x] => gd (decide (1 ≤ k)) (gd (lim k.toNat) (some (List.replicate k.toNat x)))
  | _ => none
/-- slices.Index[[][2]int,[2]int] -/
def L73_1 (n : Nat) (l1 : List (Int × Int)) (x5 : Int) (x6 : Int) : Int → Option ((Int) ⊕ ((Int) ⊕ (Unit))) := fun v9 =>
br (decide (v9 < (l1.length : Int))) (
gd (inB v9 l1.length) (
ob (l1[v9.toNat]?) fun (x24, x25) =>
br ((decide (x5 = x24) && decide (x6 = x25))) (
some (.inr (.inl v9))) (
some (.inl (IntKind.wrap .i64 (v9 + 1)))))) (
some (.inr (.inr ())))
def F73 (n : Nat) (l1 : List (Int × Int)) (x5 : Int) (x6 : Int) : Option (Int) :=
ob (α := (Int) ⊕ (Unit)) (
lpN (L73_1 n l1 x5 x6) n 0) fun r29 => match r29 with
| .inl v19 =>
some v19
| .inr _ =>
some (-1)

/-- slices.Contains[[][2]int,[2]int] -/
def F48 (n : Nat) (l1 : List (Int × Int)) (x5 : Int) (x6 : Int) : Option (Bool) :=
ob (F73 n l1 x5 x6) fun r9 =>
some (decide (0 ≤ r9))

/-- wardmote/wardmotelaw18.GraphBorders -/
def L9_1 (n : Nat) (l727 : List (Int × Int)) (l718 : List (Int × Int)) (y724 : Nat) : (Nat × Int) → Option ((Nat × Int) ⊕ ((Unit) ⊕ (Nat))) := fun (v773, v774) =>
br (decide (v774 < (l727.length : Int))) (
gd (inB v774 l727.length) (
ob (l727[v774.toNat]?) fun (x904, x905) =>
ob (
ob (F48 n l718 x904 x905) fun r929 =>
br (!r929) (
some true) (
gd (decide (0 ≤ x904)) (
gd (decide (0 ≤ x905)) (
some (decide (uw .u64 (uw .u64 (ushr .u64 y724 x904.toNat) &&& uw .u64 1) = uw .u64 (uw .u64 (ushr .u64 y724 x905.toNat) &&& uw .u64 1))))))) fun v927 =>
br (v927) (
some (.inr (.inl ()))) (
gd (decide (0 ≤ x904)) (
gd (decide (0 ≤ x905)) (
ob (some (uw .u64 (uw .u64 (ushl .u64 1 x904.toNat) ||| uw .u64 (ushl .u64 1 x905.toNat)))) fun y938 =>
some (.inl (uw .u64 (uw .u64 v773 ||| uw .u64 y938), IntKind.wrap .i64 (v774 + 1)))))))) (
some (.inr (.inr v773)))
def L9_2 (n : Nat) (l24 : List (Int × List (Int × Int))) (x18 : Nat) : Int → Option ((Int) ⊕ ((Unit) ⊕ (Unit))) := fun v31 =>
br (decide (v31 < (l24.length : Int))) (
gd (inB v31 l24.length) (
ob (l24[v31.toNat]?) fun (x717, l718) =>
gd (decide (0 ≤ x717)) (
ob (some (uw .u64 (uw .u64 x18 &&& uw .u64 (usub .u64 (ushl .u64 1 x717.toNat) 1)))) fun y724 =>
ob (F15 n x717 l718 y724) fun (l727, r730) =>
ob (F15 n x717 l718 (uandn .u64 (usub .u64 (ushl .u64 1 x717.toNat) 1) y724)) fun (l732, r735) =>
ob (F14 n x717 l718 y724) fun (r737, r738) =>
ob (
br (!decide (r730 = 0)) (
some true) (
br (!decide (r735 = 0)) (
some true) (
br (!decide (r738 = 0)) (
some true) (
ob (F34 n l727 l732) fun r766 =>
br (!r766) (
some true) (
some (!decide (uw .u64 (uw .u64 r737 &&& uw .u64 y724) = 0))))))) fun v761 =>
br (v761) (
some (.inr (.inl ()))) (
ob (α := (Unit) ⊕ (Nat)) (
lpN (L9_1 n l727 l718 y724) n (0, 0)) fun r941 => match r941 with
| .inl _ =>
some (.inr (.inl ()))
| .inr v858 =>
br (!decide (uandn .u64 v858 y724 = r737)) (
some (.inr (.inl ()))) (
some (.inl (IntKind.wrap .i64 (v31 + 1)))))))) (
some (.inr (.inr ())))
def F9 (n : Nat) (x1 : Nat) (x2 : Nat) (x3 : Nat) (l4 : List (Nat × Nat)) (x8 : Nat) (x9 : Nat) (x10 : Int) (x11 : Int) (x12 : Int) (x13 : Nat) (x14 : Nat) (x15 : Int) (x16 : Int) (x17 : Int) (x18 : Nat) : Option (Bool) :=
ob (F13 n ) fun r22 =>
br (!r22) (
some false) (
ob (F41 n x1 x2 x3 l4 x8 x9 x10 x11 x12 x13 x14 x15 x16 x17) fun l24 =>
ob (α := (Unit) ⊕ (Unit)) (
lpN (L9_2 n l24 x18) n 0) fun r944 => match r944 with
| .inl _ =>
some false
| .inr _ =>
some true)

/-- wardmote/wardmotelaw18.GraphPartitions -/
def L6_1 (n : Nat) (l1093 : List Nat) (x1083 : Int) (l1084 : List (Int × Int)) (y1090 : Nat) : (Nat × Int) → Option ((Nat × Int) ⊕ ((Unit) ⊕ (Nat))) := fun (v1118, v1119) =>
br (decide (v1119 < (l1093.length : Int))) (
gd (inB v1119 l1093.length) (
ob (l1093[v1119.toNat]?) fun x1345 =>
ob (F14 n x1083 l1084 x1345) fun (r1348, r1349) =>
ob (F16 n x1083 l1084 x1345) fun (r1351, r1352) =>
ob (
br (!decide (r1349 = 0)) (
some true) (
br (!decide (r1352 = 0)) (
some true) (
br (!r1351) (
some true) (
br (!decide (uw .u64 (uw .u64 x1345 &&& uw .u64 v1118) = 0)) (
some true) (
br (!decide (uw .u64 (uw .u64 r1348 &&& uw .u64 y1090) = 0)) (
some true) (
br (decide (0 < v1119)) (
gd (inB (IntKind.wrap .i64 (v1119 - 1)) l1093.length) (
ob (l1093[(IntKind.wrap .i64 (v1119 - 1)).toNat]?) fun x1404 =>
ob (F42 n x1404) fun r1407 =>
ob (F42 n x1345) fun r1409 =>
some (decide (r1409 ≤ r1407)))) (
some false))))))) fun v1396 =>
br (v1396) (
some (.inr (.inl ()))) (
some (.inl (uw .u64 (uw .u64 v1118 ||| uw .u64 x1345), IntKind.wrap .i64 (v1119 + 1)))))) (
some (.inr (.inr v1118)))
def L6_2 (n : Nat) (l69 : List (Int × List (Int × Int))) (x18 : Nat) : Int → Option ((Int) ⊕ ((Unit) ⊕ (Unit))) := fun v76 =>
br (decide (v76 < (l69.length : Int))) (
gd (inB v76 l69.length) (
ob (l69[v76.toNat]?) fun (x1083, l1084) =>
gd (decide (0 ≤ x1083)) (
ob (some (uw .u64 (uw .u64 x18 &&& uw .u64 (usub .u64 (ushl .u64 1 x1083.toNat) 1)))) fun y1090 =>
ob (F17 n x1083 l1084 y1090) fun (l1093, r1096) =>
ob (F16 n x1083 l1084 y1090) fun (r1098, r1099) =>
ob (
br (!decide (r1096 = 0)) (
some true) (
br (!decide (r1099 = 0)) (
some true) (
some (!(r1098 == (decide ((l1093.length : Int) = 1))))))) fun v1110 =>
br (v1110) (
some (.inr (.inl ()))) (
ob (α := (Unit) ⊕ (Nat)) (
lpN (L6_1 n l1093 x1083 l1084 y1090) n (0, 0)) fun r1414 => match r1414 with
| .inl _ =>
some (.inr (.inl ()))
| .inr v1267 =>
br (!decide (v1267 = y1090)) (
some (.inr (.inl ()))) (
some (.inl (IntKind.wrap .i64 (v76 + 1)))))))) (
some (.inr (.inr ())))
def F6 (n : Nat) (x1 : Nat) (x2 : Nat) (x3 : Nat) (l4 : List (Nat × Nat)) (x8 : Nat) (x9 : Nat) (x10 : Int) (x11 : Int) (x12 : Int) (x13 : Nat) (x14 : Nat) (x15 : Int) (x16 : Int) (x17 : Int) (x18 : Nat) : Option (Bool) :=
ob (
ob (F13 n ) fun r57 =>
br (!r57) (
some true) (
ob (F40 n x1 x2 x3 l4) fun (r60, l61) =>
ob (F23 n r60 l61) fun r65 =>
some (!decide (r65 = 0)))) fun v55 =>
br (v55) (
some false) (
ob (F41 n x1 x2 x3 l4 x8 x9 x10 x11 x12 x13 x14 x15 x16 x17) fun l69 =>
ob (α := (Unit) ⊕ (Unit)) (
lpN (L6_2 n l69 x18) n 0) fun r1417 => match r1417 with
| .inl _ =>
some false
| .inr _ =>
some true)

/-- math/bits.Mul64 -/
def F84 (n : Nat) (x1 : Nat) (x2 : Nat) : Option (Nat × Nat) :=
ob (some (uw .u64 ((uw .u64 (uw .u64 x1 &&& uw .u64 4294967295)) * (uw .u64 (uw .u64 x2 &&& uw .u64 4294967295))))) fun y3 =>
ob (some (uw .u64 ((ushr .u64 x1 32) * (uw .u64 (uw .u64 x2 &&& uw .u64 4294967295))))) fun y5 =>
ob (some (uw .u64 (uw .u64 (uw .u64 (y5 + (ushr .u64 y3 32))) &&& uw .u64 4294967295))) fun y7 =>
ob (some (uw .u64 ((uw .u64 (uw .u64 x1 &&& uw .u64 4294967295)) * (ushr .u64 x2 32)))) fun y9 =>
ob (some (uw .u64 ((uw .u64 ((ushr .u64 x1 32) * (ushr .u64 x2 32))) + (ushr .u64 (uw .u64 (y5 + (ushr .u64 y3 32))) 32)))) fun y11 =>
some (uw .u64 (y11 + (ushr .u64 (uw .u64 (y7 + y9)) 32)), uw .u64 (x1 * x2))

/-- math/bits.Mul -/
def F77 (n : Nat) (x1 : Nat) (x2 : Nat) : Option (Nat × Nat) :=
ob (F84 n x1 x2) fun (r4, r5) =>
some (r4, r5)

/-- wardmote/graph.Distances -/
def L20_1 (n : Nat) (l38 : List Int) (v196 : Int) : (Nat × List (Int)) → Option ((Nat × List (Int)) ⊕ (List (Int))) := fun (v442, l443) =>
br (!decide (v442 = 0)) (
ob (F42 n v442) fun r468 =>
ob (
gd (inB r468 l38.length) (
ob (l443[r468.toNat]?) fun x480 =>
some ())) fun _ =>
some (.inl (uw .u64 (uw .u64 v442 &&& uw .u64 (usub .u64 v442 1)), (l443.set r468.toNat v196)))) (
some (.inr l443))
def L20_2 (n : Nat) (l38 : List Int) (x1 : Int) (l2 : List (Int × Int)) (x6 : Nat) : (List (Int) × Nat × Int × Nat) → Option ((List (Int) × Nat × Int × Nat) ⊕ (List (Int))) := fun (l193, v194, v196, v197) =>
br (!decide (v197 = 0)) (
ob (
some ()) fun _ =>
ob (
ob (
lpN (L20_1 n l38 v196) n (v197, l193)) fun l465 =>
some l465) fun l423 =>
ob (F56 n x1 l2 v194) fun r490 =>
ob (some (uw .u64 (uw .u64 v194 ||| uw .u64 (uw .u64 (uw .u64 r490 &&& uw .u64 x6))))) fun y491 =>
some (.inl (l423, y491, IntKind.wrap .i64 (v196 + 1), uw .u64 (uw .u64 r490 &&& uw .u64 x6)))) (
some (.inr l193))
def F20 (n : Nat) (x1 : Int) (l2 : List (Int × Int)) (x6 : Nat) (x7 : Int) : Option (List Int × Int) :=
ob (F55 n x1 l2 x6) fun r10 =>
br (!decide (r10 = 0)) (
some ([], r10)) (
ob (
br (decide (x7 < 0)) (
some true) (
br (decide (x1 ≤ x7)) (
some true) (
ob (F57 n x6 x7) fun r32 =>
some (!r32)))) fun v28 =>
br (v28) (
some ([], 2)) (
ob (F60r n ([-1]) x1) fun l38 =>
gd (decide (0 ≤ x7)) (
ob (
lpN (L20_2 n l38 x1 l2 x6) n (l38, ushl .u64 1 x7.toNat, 0, ushl .u64 1 x7.toNat)) fun l348 =>
some (l348, 0))))

/-- slices.Index[[]uint64,uint64] -/
def L74_1 (n : Nat) (l1 : List (Nat)) (x5 : Nat) : Int → Option ((Int) ⊕ ((Int) ⊕ (Unit))) := fun v7 =>
br (decide (v7 < (l1.length : Int))) (
gd (inB v7 l1.length) (
ob (l1[v7.toNat]?) fun x21 =>
br (decide (x5 = x21)) (
some (.inr (.inl v7))) (
some (.inl (IntKind.wrap .i64 (v7 + 1)))))) (
some (.inr (.inr ())))
def F74 (n : Nat) (l1 : List (Nat)) (x5 : Nat) : Option (Int) :=
ob (α := (Int) ⊕ (Unit)) (
lpN (L74_1 n l1 x5) n 0) fun r25 => match r25 with
| .inl v16 =>
some v16
| .inr _ =>
some (-1)

/-- slices.Contains[[]uint64,uint64] -/
def F50 (n : Nat) (l1 : List (Nat)) (x5 : Nat) : Option (Bool) :=
ob (F74 n l1 x5) fun r7 =>
some (decide (0 ≤ r7))

/-- wardmote/wardmotelaw18.GraphWays -/
def L11_1 (n : Nat) (l3828 : List (Int × Int)) (y3835 : Nat) (y3838 : Nat) (l3841 : List Int) (x3827 : Int) : (List (Bool) × Int) → Option ((List (Bool) × Int) ⊕ ((Unit) ⊕ (List (Bool)))) := fun (l4204, v4205) =>
br (decide (v4205 < (l3828.length : Int))) (
ob (α := (List (Bool)) ⊕ (Unit)) (
gd (inB v4205 l3828.length) (
ob (l3828[v4205.toNat]?) fun (x4725, x4726) =>
ob (
gd (decide (0 ≤ x4725)) (
ob (some (uw .u64 (uw .u64 (ushr .u64 (uw .u64 (uw .u64 y3835 ||| uw .u64 y3838)) x4725.toNat) &&& uw .u64 1))) fun y4756 =>
br (decide (y4756 = 0)) (
some true) (
gd (decide (0 ≤ x4726)) (
ob (some (uw .u64 (uw .u64 (ushr .u64 (uw .u64 (uw .u64 y3835 ||| uw .u64 y3838)) x4726.toNat) &&& uw .u64 1))) fun y4760 =>
some (decide (y4760 = 0)))))) fun v4754 =>
br (v4754) (
some (.inl l4204)) (
ob (
gd (inB x4725 l3841.length) (
ob (l3841[x4725.toNat]?) fun x4822 =>
gd (inB x4726 l3841.length) (
ob (l3841[x4726.toNat]?) fun x4825 =>
br (!((decide (x4822 < 0)) == (decide (x4825 < 0)))) (
some true) (
gd (inB x4725 l3841.length) (
gd (inB x4726 l3841.length) (
gd (inB x4726 l3841.length) (
gd (inB x4725 l3841.length) (
ob (some (ma (IntKind.wrap .i64 (x4822 - x4825)) (IntKind.wrap .i64 (x4825 - x4822)))) fun y4832 =>
some (decide (1 < y4832)))))))))) fun v4817 =>
br (v4817) (
some (.inr ())) (
ob (
gd (inB x4725 x3827.toNat) (
ob (l4204[x4725.toNat]?) fun x4856 =>
br (x4856) (
gd (inB x4725 x3827.toNat) (
some (l4204.set x4725.toNat true))) (
gd (inB x4726 l3841.length) (
ob (l3841[x4726.toNat]?) fun x4865 =>
gd (inB x4725 l3841.length) (
ob (l3841[x4725.toNat]?) fun x4868 =>
gd (inB x4725 x3827.toNat) (
some (l4204.set x4725.toNat (decide (x4865 = IntKind.wrap .i64 (x4868 - 1)))))))))) fun l4854 =>
gd (inB x4726 x3827.toNat) (
ob (l4854[x4726.toNat]?) fun x4875 =>
br (x4875) (
gd (inB x4726 x3827.toNat) (
some (.inl (l4854.set x4726.toNat true)))) (
gd (inB x4725 l3841.length) (
ob (l3841[x4725.toNat]?) fun x4884 =>
gd (inB x4726 l3841.length) (
ob (l3841[x4726.toNat]?) fun x4887 =>
gd (inB x4726 x3827.toNat) (
some (.inl (l4854.set x4726.toNat (decide (x4884 = IntKind.wrap .i64 (x4887 - 1)))))))))))))) fun r4892 => match r4892 with
| .inl l4721 =>
some (.inl (l4721, IntKind.wrap .i64 (v4205 + 1)))
| .inr _ =>
some (.inr (.inl ()))) (
some (.inr (.inr l4204)))
def L11_2 (n : Nat) (l3841 : List Int) (x19 : Nat) (x3827 : Int) (l4550 : List (Bool)) : (Nat × Int) → Option ((Nat × Int) ⊕ ((Unit) ⊕ (Nat))) := fun (v4897, v4898) =>
br (decide (v4898 < (l3841.length : Int))) (
ob (α := (Unit) ⊕ (Nat)) (
gd (inB v4898 l3841.length) (
ob (l3841[v4898.toNat]?) fun x5032 =>
ob (
br (!((decide (x5032 = 0)) == (decide (v4898 = Int.tmod (IntKind.wrap .i64 ((x19 : Nat) : Int)) x3827)))) (
some true) (
br (decide (0 < x5032)) (
gd (inB v4898 x3827.toNat) (
ob (l4550[v4898.toNat]?) fun x5060 =>
br (!x5060) (
some true) (
some (decide (x5032 < -1))))) (
some (decide (x5032 < -1))))) fun v5056 =>
br (v5056) (
some (.inl ())) (
br (decide (0 ≤ x5032)) (
gd (decide (0 ≤ v4898)) (
some (.inr (uw .u64 (uw .u64 v4897 ||| uw .u64 (ushl .u64 1 v4898.toNat)))))) (
some (.inr v4897))))) fun r5069 => match r5069 with
| .inl _ =>
some (.inr (.inl ()))
| .inr v5027 =>
some (.inl (v5027, IntKind.wrap .i64 (v4898 + 1)))) (
some (.inr (.inr v4897)))
def L11_3 (n : Nat) (l25 : List (Int × List (Int × Int))) (x18 : Nat) (x19 : Nat) : Int → Option ((Int) ⊕ ((Unit) ⊕ (Unit))) := fun v32 =>
br (decide (v32 < (l25.length : Int))) (
gd (inB v32 l25.length) (
ob (l25[v32.toNat]?) fun (x3827, l3828) =>
gd (decide (x3827 ≠ 0)) (
gd (decide (0 ≤ x3827)) (
ob (some (uw .u64 (uw .u64 x18 &&& uw .u64 (usub .u64 (ushl .u64 1 x3827.toNat) 1)))) fun y3835 =>
gd (decide (0 ≤ Int.tmod (IntKind.wrap .i64 ((x19 : Nat) : Int)) x3827)) (
ob (some (ushl .u64 1 (Int.tmod (IntKind.wrap .i64 ((x19 : Nat) : Int)) x3827).toNat)) fun y3838 =>
ob (F20 n x3827 l3828 (uw .u64 (uw .u64 y3835 ||| uw .u64 y3838)) (Int.tmod (IntKind.wrap .i64 ((x19 : Nat) : Int)) x3827)) fun (l3841, r3844) =>
ob (
br (!decide (r3844 = 0)) (
some true) (
some (!decide ((l3841.length : Int) = x3827)))) fun v3852 =>
br (v3852) (
some (.inr (.inl ()))) (
gd (decide (0 ≤ x3827)) (gd (lim x3827.toNat) (
ob (α := (Unit) ⊕ (List (Bool))) (
lpN (L11_1 n l3828 y3835 y3838 l3841 x3827) n ((List.replicate x3827.toNat false), 0)) fun r4894 => match r4894 with
| .inl _ =>
some (.inr (.inl ()))
| .inr l4550 =>
ob (α := (Unit) ⊕ (Nat)) (
lpN (L11_2 n l3841 x19 x3827 l4550) n (0, 0)) fun r5071 => match r5071 with
| .inl _ =>
some (.inr (.inl ()))
| .inr v4985 =>
ob (F17 n x3827 l3828 (uw .u64 (uw .u64 y3835 ||| uw .u64 y3838))) fun (l5073, r5076) =>
ob (
br (!decide (r5076 = 0)) (
some true) (
ob (F50 n l5073 v4985) fun r5093 =>
some (!r5093))) fun v5090 =>
br (v5090) (
some (.inr (.inl ()))) (
ob (F51 n v4985) fun r5098 =>
ob (F20 n x3827 l3828 (uw .u64 (uw .u64 y3835 ||| uw .u64 y3838)) (IntKind.wrap .i64 (r5098 - 1))) fun (l5100, r5103) =>
ob (
br (!decide (r5103 = 0)) (
some true) (
br (!decide ((l5100.length : Int) = x3827)) (
some true) (
gd (inB (Int.tmod (IntKind.wrap .i64 ((x19 : Nat) : Int)) x3827) l5100.length) (
ob (l5100[(Int.tmod (IntKind.wrap .i64 ((x19 : Nat) : Int)) x3827).toNat]?) fun x5125 =>
gd (inB (IntKind.wrap .i64 (r5098 - 1)) l3841.length) (
ob (l3841[(IntKind.wrap .i64 (r5098 - 1)).toNat]?) fun x5131 =>
some (!decide (x5125 = x5131))))))) fun v5118 =>
br (v5118) (
some (.inr (.inl ()))) (
some (.inl (IntKind.wrap .i64 (v32 + 1))))))))))))) (
some (.inr (.inr ())))
def F11 (n : Nat) (x1 : Nat) (x2 : Nat) (x3 : Nat) (l4 : List (Nat × Nat)) (x8 : Nat) (x9 : Nat) (x10 : Int) (x11 : Int) (x12 : Int) (x13 : Nat) (x14 : Nat) (x15 : Int) (x16 : Int) (x17 : Int) (x18 : Nat) (x19 : Nat) : Option (Bool) :=
ob (F13 n ) fun r23 =>
br (!r23) (
some false) (
ob (F41 n x1 x2 x3 l4 x8 x9 x10 x11 x12 x13 x14 x15 x16 x17) fun l25 =>
ob (α := (Unit) ⊕ (Unit)) (
lpN (L11_3 n l25 x18 x19) n 0) fun r5137 => match r5137 with
| .inl _ =>
some false
| .inr _ =>
some true)

end Go.Proofs.YtpclggcpobakhaaDoor
end

section
/-
  Chapter 18: fitting, by hand: the valid ones of three graphs.
-/
namespace Go.Proofs.YtpclggcpobakhaaDoor.W0
open Go Go.Ab Go.Ab.W Go.Proofs.YtpclggcpobakhaaDoor
set_option maxRecDepth 10000
set_option maxHeartbeats 4000000
attribute [local irreducible] Tm.at Trie.set Trie.get AMem.get AMem.set AMem.alloc AMem.ww AMem.kill

theorem fu27 : E18w.P.underlying 27 = some (.slice 25) := by kernel_rfl
theorem fs27 : SlT E18w.P 27 25 2 := SlT.of (by kernel_rfl)
theorem fz25 : zeroA E18w.P 25 = some (.agg #[.int .i64 0, .slice none 0 0]) := by kernel_rfl
theorem ft25 : TyI E18w.P 25 true 2 := ⟨by kernel_rfl, by kernel_rfl, by kernel_rfl⟩
theorem ft55 : TyI E18w.P 55 true 4 := ⟨by kernel_rfl, by kernel_rfl, by kernel_rfl⟩
theorem ft58 : TyI E18w.P 58 true 10 := ⟨by kernel_rfl, by kernel_rfl, by kernel_rfl⟩
theorem far59 : ArT E18w.P 59 25 3 2 := ⟨by kernel_rfl, by kernel_rfl, by kernel_rfl⟩

abbrev enE : Int × Int → List Value := eP (eI .i64) (eI .i64)
/-- The cells of a graph. -/
def cOf (N1 : Int) (a1 : Option Addr) (l1 : List (Int × Int)) (N2 : Int) (a2 : Option Addr) (l2 : List (Int × Int)) (N3 : Int) (a3 : Option Addr) (l3 : List (Int × Int)) (j : Nat) : List Value :=
  match j with
  | 0 => [.int .i64 N1, .slice a1 l1.length l1.length]
  | 1 => [.int .i64 N2, .slice a2 l2.length l2.length]
  | _ => [.int .i64 N3, .slice a3 l3.length l3.length]
theorem cOf_two (N1 : Int) (a1 : Option Addr) (l1 : List (Int × Int)) (N2 : Int) (a2 : Option Addr) (l2 : List (Int × Int)) (N3 : Int) (a3 : Option Addr) (l3 : List (Int × Int)) (j : Nat) : (cOf N1 a1 l1 N2 a2 l2 N3 a3 l3 j).length = 2 ∧ (cOf N1 a1 l1 N2 a2 l2 N3 a3 l3 j).all oneC = true := by
  unfold cOf
  split <;> exact ⟨rfl, rfl⟩

section
variable {m0 : AMem} {n : Nat} {N1 N2 N3 : Int} {a1 a2 a3 : Option Addr} {l1 l2 l3 : List (Int × Int)}
abbrev AGG (N1 : Int) (a1 : Option Addr) (l1 : List (Int × Int)) (N2 : Int) (a2 : Option Addr) (l2 : List (Int × Int)) (N3 : Int) (a3 : Option Addr) (l3 : List (Int × Int)) : Value := .agg #[.int .i64 N1, .slice a1 l1.length l1.length, .int .i64 N2, .slice a2 l2.length l2.length, .int .i64 N3, .slice a3 l3.length l3.length]
abbrev iFs (N1 : Int) (a1 : Option Addr) (l1 : List (Int × Int)) (N2 : Int) (a2 : Option Addr) (l2 : List (Int × Int)) (N3 : Int) (a3 : Option Addr) (l3 : List (Int × Int)) (o : Option Addr) (J : List Nat) (i : Int) : Fs := [(5, .slice o J.length J.length), (10, AGG N1 a1 l1 N2 a2 l2 N3 a3 l3), (11, .int .i64 i)]
abbrev iPs (N1 : Int) (a1 : Option Addr) (l1 : List (Int × Int)) (N2 : Int) (a2 : Option Addr) (l2 : List (Int × Int)) (N3 : Int) (a3 : Option Addr) (l3 : List (Int × Int)) (o : Option Addr) (J : List Nat) : List Pc := [.sl o 2 J.length (J.map (cOf N1 a1 l1 N2 a2 l2 N3 a3 l3)), .rd a1 l1.length 2 l1.length (l1.map enE), .rd a2 l2.length 2 l2.length (l2.map enE), .rd a3 l3.length 2 l3.length (l3.map enE)]
def aOf (a1 a2 a3 : Option Addr) (j : Nat) : Option Addr :=
  match j with
  | 0 => a1
  | 1 => a2
  | _ => a3
theorem ix59 : ∀ j : Nat, j < 3 → indexA E18w.P 59 (AGG N1 a1 l1 N2 a2 l2 N3 a3 l3) (.int .i64 (j : Int)) = some (.agg #[.int .i64 (gOf N1 l1 N2 l2 N3 l3 j).1, .slice (aOf a1 a2 a3 j) (gOf N1 l1 N2 l2 N3 l3 j).2.length (gOf N1 l1 N2 l2 N3 l3 j).2.length])
  | 0, _ => ix_c far59 (i := 0) (by decide) (part_a ft25 rfl)
  | 1, _ => ix_c far59 (i := 1) (by decide) (part_a ft25 rfl)
  | 2, _ => ix_c far59 (i := 2) (by decide) (part_a ft25 rfl)
theorem pk59 {o : Option Addr} {J : List Nat} : ∀ j : Nat, j < 3 → pk (iPs N1 a1 l1 N2 a2 l2 N3 a3 l3 o J) (j + 1) = some (.rd (aOf a1 a2 a3 j) (gOf N1 l1 N2 l2 N3 l3 j).2.length 2 (gOf N1 l1 N2 l2 N3 l3 j).2.length ((gOf N1 l1 N2 l2 N3 l3 j).2.map enE))
  | 0, _ => rfl
  | 1, _ => rfl
  | 2, _ => rfl
theorem cOf_eq (j : Nat) : cOf N1 a1 l1 N2 a2 l2 N3 a3 l3 j = [.int .i64 (gOf N1 l1 N2 l2 N3 l3 j).1, .slice (aOf a1 a2 a3 j) (gOf N1 l1 N2 l2 N3 l3 j).2.length (gOf N1 l1 N2 l2 N3 l3 j).2.length] := by
  match j with
  | 0 => rfl
  | 1 => rfl
  | _ + 2 => rfl
theorem enC : Enc (cOf N1 a1 l1 N2 a2 l2 N3 a3 l3) 2 := ⟨fun j => (cOf_two N1 a1 l1 N2 a2 l2 N3 a3 l3 j).1, fun j => (cOf_two N1 a1 l1 N2 a2 l2 N3 a3 l3 j).2⟩
def fitI (N1 : Int) (a1 : Option Addr) (l1 : List (Int × Int)) (N2 : Int) (a2 : Option Addr) (l2 : List (Int × Int)) (N3 : Int) (a3 : Option Addr) (l3 : List (Int × Int)) (s : List Nat × Int) (o : Option Addr) : En := ⟨.normal, iFs N1 a1 l1 N2 a2 l2 N3 a3 l3 o s.1 s.2, iPs N1 a1 l1 N2 a2 l2 N3 a3 l3 o s.1⟩
def fitX (N1 : Int) (a1 : Option Addr) (l1 : List (Int × Int)) (N2 : Int) (a2 : Option Addr) (l2 : List (Int × Int)) (N3 : Int) (a3 : Option Addr) (l3 : List (Int × Int)) (J : List Nat) (o : Option Addr) : En := ⟨.exit 0, [(5, .slice o J.length J.length)], iPs N1 a1 l1 N2 a2 l2 N3 a3 l3 o J⟩
end
theorem f41_ok (n : Nat) (x1 : Nat) (x2 : Nat) (x3 : Nat) (l4 : List (Nat × Nat)) (x8 : Nat) (x9 : Nat) (x10 : Int) (x11 : Int) (x12 : Int) (x13 : Nat) (x14 : Nat) (x15 : Int) (x16 : Int) (x17 : Int) (a5 : Option Addr) (c6 : Nat) (r : List (Int × List (Int × Int))) (hF : F41 n x1 x2 x3 l4 x8 x9 x10 x11 x12 x13 x14 x15 x16 x17 = some r) (m : AMem) (h7 : Rd m a5 c6 2 l4.length (l4.map (eP (eN .u8) (eN .u8)))) :
    CallA E18w 41 [.agg #[.int .u8 ((x1 : Nat) : Int), .int .u8 ((x2 : Nat) : Int), .int .u16 ((x3 : Nat) : Int), .slice a5 l4.length c6], .agg #[.int .u8 ((x8 : Nat) : Int), .int .u8 ((x9 : Nat) : Int), .int .i64 x10, .int .i64 x11, .int .i64 x12, .int .u8 ((x13 : Nat) : Int), .int .u8 ((x14 : Nat) : Int), .int .i64 x15, .int .i64 x16, .int .i64 x17]] m (fun v m' => ∃ a : Option Addr, v = .slice a r.length r.length ∧ Ext m m' ∧ Gs m' a r.length r.length r) := by
  unfold F41 at hF
  refine call_wk (m0 := m) (ps := [.rd a5 c6 2 l4.length (l4.map (eP (eN .u8) (eN .u8)))]) (N := 23) (rs := [.tmp 4]) rfl Tryd.func41 rfl rfl rfl ((Hp.start m).inn rfl h7) ?_
  refine Wk.seq ?_
  refine Wk.region ?_
  refine Wo.x (o_bx rfl) gn rfl fun b19 => ?_
  refine Wo.x (o_bx rfl) gn rfl fun b20 => ?_
  refine Wo.od (o_as rfl) rfl ?_
  refine Wo.nil ?_
  refine At.tn ?_
  refine Wk.seq ?_
  refine Wk.region ?_
  refine Wo.od (o_as rfl) rfl ?_
  refine Wo.nil ?_
  refine At.tn ?_
  refine Wk.seq ?_
  refine Wk.seq ?_
  refine Wk.region ?_
  refine Wo.od (o_ld (k := 1) ft55 rfl rfl rfl) rfl ?_
  refine Wo.od (o_ld (k := 0) ft58 rfl rfl rfl) rfl ?_
  obtain ⟨⟨N1, l1, N2, l2, N3, l3⟩, h21, hF⟩ := ob_some hF
  refine Wo.x (o_cl rfl rfl (fun m hm => f28_ok n x1 x2 x3 l4 x8 x9 x10 x11 x12 x13 x14 x15 x16 x17 a5 c6 _ h21 m (hm.rd (k := 2) rfl (.rd _ _ _ _ _))) fun _ => rfl) gn rfl ?_
  rintro ⟨a1, n1, a2, n2, a3, n3⟩
  refine Wo.len (k := 0) (xs := l1) rfl ?_
  rintro rfl
  refine Wo.len (k := 1) (xs := l2) rfl ?_
  rintro rfl
  refine Wo.len (k := 2) (xs := l3) rfl ?_
  rintro rfl
  refine Wo.od (o_mv rfl) rfl ?_
  refine Wo.nil ?_
  refine At.tn ?_
  refine Wk.block ?_
  obtain ⟨J, h22, hF⟩ := ob_some hF
  cases hF
  refine Wk.cut (G := fitX N1 a1 l1 N2 a2 l2 N3 a3 l3 J) ?_ ?_
  · refine Wk.weak (fs' := iFs N1 a1 l1 N2 a2 l2 N3 a3 l3 none [] 0) (ps' := iPs N1 a1 l1 N2 a2 l2 N3 a3 l3 none []) (sc rfl (sc rfl (sc rfl sn))) (Turn.trans (Turn.freeze (k := 0) rfl) (Turn.trans (Turn.freeze (k := 1) rfl) (Turn.trans (Turn.freeze (k := 2) rfl) (Turn.trans (Turn.nil 2 rfl) (Turn.picks [0, 1, 2, 3] rfl rfl))))) ?_
    refine Wk.loop (σ := List Nat × Int) (ρ := List Nat) (γ := Option Addr) (δ := fun _ => Option Addr) _ (fitI N1 a1 l1 N2 a2 l2 N3 a3 l3) (fitX N1 a1 l1 N2 a2 l2 N3 a3 l3) ?_ (fun _ _ => rfl) (fun r d => by intro e; cases e) _ _ _ h22 none
    clear h22
    rintro ⟨J, i⟩ o r hF
    unfold L41_1 at hF
    show Wk _ _ _ _ _ _ _ (iFs N1 a1 l1 N2 a2 l2 N3 a3 l3 o J i) (iPs N1 a1 l1 N2 a2 l2 N3 a3 l3 o J)
    refine Wk.seq ?_
    refine Wk.region ?_
    refine Wo.od (o_bi rfl rfl (bin_lss _ _ _)) rfl ?_
    refine Wo.nil ?_
    refine At.tn ?_
    refine Wk.seq ?_
    rcases br_some hF with ⟨h23, hF⟩ | ⟨h23, hF⟩
    · refine Wk.condT rfl h23 ?_
      refine Wk.skip ?_
      refine At.tn ?_
      obtain ⟨h24, hF⟩ := gd_some hF
      obtain ⟨hi0, hi3⟩ := inB_some h24
      obtain ⟨j, rfl⟩ := Int.eq_ofNat_of_zero_le hi0
      rw [Int.toNat_natCast] at hF hi3
      have hix := ix59 (N1 := N1) (N2 := N2) (N3 := N3) (a1 := a1) (a2 := a2) (a3 := a3) (l1 := l1) (l2 := l2) (l3 := l3) j hi3
      have hpk := pk59 (N1 := N1) (N2 := N2) (N3 := N3) (a1 := a1) (a2 := a2) (a3 := a3) (l1 := l1) (l2 := l2) (l3 := l3) (o := o) (J := J) j hi3
      have hce := cOf_eq (N1 := N1) (N2 := N2) (N3 := N3) (a1 := a1) (a2 := a2) (a3 := a3) (l1 := l1) (l2 := l2) (l3 := l3) j
      generalize gOf N1 l1 N2 l2 N3 l3 j = g at hF hix hpk hce
      generalize aOf a1 a2 a3 j = aj at hix hpk hce
      obtain ⟨N, l⟩ := g
      simp only at hF hix hpk hce
      refine Wk.seq ?_
      refine Wk.block ?_
      refine Wk.seq ?_
      refine Wk.region ?_
      refine Wo.od (o_ix rfl rfl hix) rfl ?_
      refine Wo.x (o_al fz25 rfl) gn rfl fun b => ?_
      refine Wo.o0 (o_st (k := 0) ft25 rfl rfl rfl rfl rfl) ?_
      refine Wo.nil ?_
      refine At.tn ?_
      refine Wk.seq ?_
      refine Wk.region ?_
      refine Wo.od (o_ld (k := 0) ft25 rfl rfl rfl) rfl ?_
      obtain ⟨e, h25, hF⟩ := ob_some hF
      refine Wo.x (o_cl rfl rfl (fun m hm => f23_ok n N l aj l.length _ h25 m (hm.rd (k := j + 2) hpk (.rd _ _ _ _ _))) fun _ => rfl) gn rfl ?_
      rintro ⟨⟩
      refine Wo.od (o_bi rfl rfl (bin_eql _ _ _)) rfl ?_
      refine Wo.nil ?_
      refine At.tn ?_
      rcases br_some hF with ⟨h26, hF⟩ | ⟨h26, hF⟩
      · obtain ⟨h27, hF⟩ := gd_some hF
        refine Wk.condT rfl h26 ?_
        refine Wk.region ?_
        refine Wo.od (o_mv rfl) rfl ?_
        refine Wo.od (o_ld (k := 0) ft25 rfl rfl rfl) rfl ?_
        refine Wo.x (o_bs (es := ([j] : List Nat).map (cOf N1 a1 l1 N2 a2 l2 N3 a3 l3)) fs27 rfl (bs_c fs27 fz25 rfl (by simp only [List.map_cons, List.map_nil, List.flatten_cons, List.flatten_nil, hce]; rfl)) rfl (by simp only [List.map_cons, List.map_nil, hce]; rfl)) gn rfl fun b2 => ?_
        refine Wo.turn (Turn.close (k := 0) rfl) ?_
        refine Wo.x (o_apl (k := 2) (k2 := 0) (xs := J) (ys := [j]) enC fs27 ⟨_, fu27⟩ rfl rfl rfl (.sl _ _ _ _) (by simpa using h27)) gn rfl fun o2 => ?_
        refine Wo.od (o_as rfl) rfl ?_
        refine Wo.nil ?_
        refine At.bn ?_
        refine At.tn ?_
        refine Wk.region ?_
        refine Wo.od (o_bi rfl rfl (bin_add _ _ _)) rfl ?_
        refine Wo.od (o_mv rfl) rfl ?_
        refine Wo.nil ?_
        cases hF
        exact At.en o2 rfl (sc rfl (sc rfl (sc rfl sn))) (Turn.picks [2, 3, 4, 5] rfl rfl)
      · refine Wk.condF rfl h26 ?_
        refine Wk.skip ?_
        refine At.bn ?_
        refine At.tn ?_
        refine Wk.region ?_
        refine Wo.od (o_bi rfl rfl (bin_add _ _ _)) rfl ?_
        refine Wo.od (o_mv rfl) rfl ?_
        refine Wo.nil ?_
        cases hF
        exact At.en o rfl (sc rfl (sc rfl (sc rfl sn))) (Turn.picks [1, 2, 3, 4] rfl rfl)
    · refine Wk.condF rfl h23 ?_
      refine Wk.exit ?_
      refine At.te ?_
      cases hF
      exact At.en o rfl (sc rfl sn) Turn.refl
  · intro o
    show At _ (.exit 0) _ [(5, .slice o J.length J.length)] (iPs N1 a1 l1 N2 a2 l2 N3 a3 l3 o J)
    refine At.be ?_
    refine At.tn ?_
    refine Wk.seq ?_
    refine Wk.region ?_
    refine Wo.od (o_mv rfl) rfl ?_
    refine Wo.od (o_as rfl) rfl ?_
    refine Wo.nil ?_
    refine At.tn ?_
    refine Wk.ret ?_
    refine At.ret (.tmp rfl .nil) fun m' hm => ⟨o, by rw [List.length_map]; rfl, hm.ext, ?_⟩
    rw [List.length_map]
    refine ⟨List.length_map _, Nat.le_refl _, ?_⟩
    have hrd : ∀ j, Rd m' (aOf a1 a2 a3 j) (gOf N1 l1 N2 l2 N3 l3 j).2.length 2 (gOf N1 l1 N2 l2 N3 l3 j).2.length ((gOf N1 l1 N2 l2 N3 l3 j).2.map enE) := fun j => by
      match j with
      | 0 => exact hm.get (k := 1) rfl
      | 1 => exact hm.get (k := 2) rfl
      | _ + 2 => exact hm.get (k := 3) rfl
    rcases hm.get (k := 0) rfl with ⟨h0, _, h2, _⟩ | ⟨b, tg, rfl, hown⟩
    · exact .inl ⟨h2, h0⟩
    · obtain ⟨hb, all, tg', h1, h2, h3⟩ := hown.lies
      refine .inr ⟨b, 0, rfl, hb, all, tg', h1, h2, fun i g hg => ?_⟩
      rw [List.getElem?_map] at hg
      obtain ⟨j, hj, rfl⟩ := Option.map_eq_some_iff.1 hg
      have := (h3 i (cOf N1 a1 l1 N2 a2 l2 N3 a3 l3 j) (by rw [List.getElem?_map, hj]; rfl)).1
      rw [cOf_eq] at this
      exact ⟨_, _, this, hrd j⟩
end Go.Proofs.YtpclggcpobakhaaDoor.W0
end
