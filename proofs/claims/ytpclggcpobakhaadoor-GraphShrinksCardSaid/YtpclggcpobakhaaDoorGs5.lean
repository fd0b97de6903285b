/- Texts of the abstract machine and of the walks, joined: S18W0 S18F3 S18SortS S18F2 S18F4 S18W52 S18Fit S18W12a. -/
import Derived.Test.YtpclggcpobakhaaDoorGs4
section
namespace Go.Proofs.YtpclggcpobakhaaDoor.W0
open Go Go.Ab Go.Ab.W Go.Proofs.YtpclggcpobakhaaDoor
set_option maxRecDepth 10000
set_option maxHeartbeats 4000000
attribute [local irreducible] Tm.at Trie.set Trie.get AMem.get AMem.set AMem.alloc AMem.ww AMem.kill
theorem z59 : zeroA E18w.P 59 = some (.agg #[.int .i64 0, .slice none 0 0, .int .i64 0, .slice none 0 0, .int .i64 0, .slice none 0 0]) := by kernel_rfl
theorem t55 : TyI E18w.P 55 true 4 := ⟨by kernel_rfl, by kernel_rfl, by kernel_rfl⟩
theorem z25 : zeroA E18w.P 25 = some (.agg #[.int .i64 0, .slice none 0 0]) := by kernel_rfl
theorem fa55_0 : ∀ b o, fieldAddrA E18w.P 55 (ptr b o) 0 = some (ptr b (o + 0)) := fun _ _ => by kernel_rfl
theorem t5 : TyI E18w.P 5 false 1 := ⟨by kernel_rfl, by kernel_rfl, by kernel_rfl⟩
theorem u5 : E18w.P.underlying 5 = some (.int .u8) := by kernel_rfl
theorem u3 : E18w.P.underlying 3 = some (.int .i64) := by kernel_rfl
theorem fa55_1 : ∀ b o, fieldAddrA E18w.P 55 (ptr b o) 1 = some (ptr b (o + 1)) := fun _ _ => by kernel_rfl
theorem bs25 : BdT E18w.P 25 (.agg #[.int .i64 0, .slice none 0 0]) [(0, 1), (1, 1)] := .mk' (by kernel_rfl) (by kernel_rfl)
theorem t25 : TyI E18w.P 25 true 2 := ⟨by kernel_rfl, by kernel_rfl, by kernel_rfl⟩
theorem fa25_0 : ∀ b o, fieldAddrA E18w.P 25 (ptr b o) 0 = some (ptr b (o + 0)) := fun _ _ => by kernel_rfl
theorem t3 : TyI E18w.P 3 false 1 := ⟨by kernel_rfl, by kernel_rfl, by kernel_rfl⟩
theorem fa55_2 : ∀ b o, fieldAddrA E18w.P 55 (ptr b o) 2 = some (ptr b (o + 2)) := fun _ _ => by kernel_rfl
theorem t52 : TyI E18w.P 52 false 1 := ⟨by kernel_rfl, by kernel_rfl, by kernel_rfl⟩
theorem u102 : E18w.P.underlying 102 = some (.int .u64) := by kernel_rfl
theorem fa55_3 : ∀ b o, fieldAddrA E18w.P 55 (ptr b o) 3 = some (ptr b (o + 3)) := fun _ _ => by kernel_rfl
theorem t53 : TyI E18w.P 53 false 1 := ⟨by kernel_rfl, by kernel_rfl, by kernel_rfl⟩
theorem u53 : E18w.P.underlying 53 = some (.slice 103) := by kernel_rfl
theorem s53 : SlT E18w.P 53 103 2 := SlT.of (by kernel_rfl)
theorem ar103 : ArT E18w.P 103 5 2 1 := ⟨by kernel_rfl, by kernel_rfl, by kernel_rfl⟩
theorem fa25_1 : ∀ b o, fieldAddrA E18w.P 25 (ptr b o) 1 = some (ptr b (o + 1)) := fun _ _ => by kernel_rfl
theorem t23 : TyI E18w.P 23 false 1 := ⟨by kernel_rfl, by kernel_rfl, by kernel_rfl⟩
theorem z26 : zeroA E18w.P 26 = some (.agg #[.int .i64 0, .int .i64 0]) := by kernel_rfl
theorem bs26 : BdT E18w.P 26 (.agg #[.int .i64 0, .int .i64 0]) [(0, 1), (1, 1)] := .mk' (by kernel_rfl) (by kernel_rfl)
theorem u23 : E18w.P.underlying 23 = some (.slice 26) := by kernel_rfl
theorem s23 : SlT E18w.P 23 26 2 := SlT.of (by kernel_rfl)
theorem ar58 : ArT E18w.P 58 57 2 5 := ⟨by kernel_rfl, by kernel_rfl, by kernel_rfl⟩
theorem t57 : TyI E18w.P 57 true 5 := ⟨by kernel_rfl, by kernel_rfl, by kernel_rfl⟩
theorem fa57_1 : ∀ b o, fieldAddrA E18w.P 57 (ptr b o) 1 = some (ptr b (o + 1)) := fun _ _ => by kernel_rfl
theorem fa57_0 : ∀ b o, fieldAddrA E18w.P 57 (ptr b o) 0 = some (ptr b (o + 0)) := fun _ _ => by kernel_rfl
theorem fa57_2 : ∀ b o, fieldAddrA E18w.P 57 (ptr b o) 2 = some (ptr b (o + 2)) := fun _ _ => by kernel_rfl
theorem fa57_3 : ∀ b o, fieldAddrA E18w.P 57 (ptr b o) 3 = some (ptr b (o + 3)) := fun _ _ => by kernel_rfl
theorem t26 : TyI E18w.P 26 true 2 := ⟨by kernel_rfl, by kernel_rfl, by kernel_rfl⟩
theorem ar26 : ArT E18w.P 26 3 2 1 := ⟨by kernel_rfl, by kernel_rfl, by kernel_rfl⟩
theorem bs59 : BdT E18w.P 59 (.agg #[.int .i64 0, .slice none 0 0, .int .i64 0, .slice none 0 0, .int .i64 0, .slice none 0 0]) [(0, 2), (2, 2), (4, 2)] := .mk' (by kernel_rfl) (by kernel_rfl)
theorem t59 : TyI E18w.P 59 true 6 := ⟨by kernel_rfl, by kernel_rfl, by kernel_rfl⟩
theorem u39 : E18w.P.underlying 39 = some (.slice 3) := by kernel_rfl
theorem s39 : SlT E18w.P 39 3 1 := SlT.of (by kernel_rfl)
theorem f40_ok (n : Nat) (x1 : Nat) (x2 : Nat) (x3 : Nat) (l4 : List (Nat × Nat)) (a5 : Option Addr) (c6 : Nat) (r : Int × List (Int × Int)) (hF : F40 n x1 x2 x3 l4 = some r) (m : AMem) (h7 : Rd m a5 c6 2 l4.length (l4.map (eP (eN .u8) (eN .u8)))) :
  CallA E18w 40 [.agg #[.int .u8 ((x1 : Nat) : Int), .int .u8 ((x2 : Nat) : Int), .int .u16 ((x3 : Nat) : Int), .slice a5 l4.length c6]] m (fun v m' => ∃ x : Option Addr × Nat, v = .agg #[.int .i64 r.1, .slice x.1 x.2 x.2] ∧ Hp m m' [.sl x.1 2 x.2 (r.2.map (eP (eI .i64) (eI .i64)))]) := by
 unfold F40 at hF
 refine call_wk (m0 := m) (ps := [.rd a5 c6 2 l4.length (l4.map (eP (eN .u8) (eN .u8)))]) (N := 137) (rs := [.cell 2 25]) rfl Tryd.func40 rfl rfl rfl ((Hp.start m).inn rfl h7) ?_
 refine Wk.seq <| Wk.region <| Wo.x (o_bx rfl) gn rfl fun b8 => ?_
 refine Wo.x (o_al z25 rfl) gn rfl fun b9 => ?_
 refine Wo.nil <| At.tn <| Wk.seq <| Wk.draw (by kernel_rfl) ?_
 refine Wo.od (o_fa (r := ptr b8 0) rfl (fa55_0 _ _)) rfl ?_
 refine Wo.od (o_ld (k := 1) t5 rfl rfl rfl) rfl ?_
 refine Wo.od (o_bi rfl rfl (ub_rem _ _ (by decide))) rfl ?_
 refine Wo.od (o_cv rfl (cv_i (by rw [u5]; rfl) u3)) rfl ?_
 refine Wo.od (o_bi rfl rfl (bin_add _ _ _)) rfl ?_
 refine Wo.od (o_fa (r := ptr b8 1) rfl (fa55_1 _ _)) rfl ?_
 refine Wo.od (o_ld (k := 1) t5 rfl rfl rfl) rfl ?_
 refine Wo.od (o_bi rfl rfl (ub_rem _ _ (by decide))) rfl ?_
 refine Wo.od (o_cv rfl (cv_i (by rw [u5]; rfl) u3)) rfl ?_
 refine Wo.od (o_bi rfl rfl (bin_add _ _ _)) rfl ?_
 refine Wo.od (o_as rfl) rfl ?_
 refine Wo.od (o_as rfl) rfl ?_
 refine Wo.nil <| At.tn <| Wk.seq <| Wk.region <| Wo.od (o_mv rfl) rfl ?_
 refine Wo.od (o_mv rfl) rfl ?_
 obtain ⟨y10, h11, hF⟩ := ob_some hF
 refine Wo.od (o_bi rfl rfl ((bin_mul _ _ _).trans (cI h11))) rfl ?_
 refine Wo.od (o_bd rfl z25 rfl (bd_s bs25 rfl rfl rfl)) rfl ?_
 refine Wo.x (o_al z25 rfl) gn rfl fun b12 => ?_
 refine Wo.o0 (o_st (k := 0) t25 rfl rfl rfl rfl rfl) ?_
 refine Wo.nil <| At.tn <| Wk.seq <| Wk.region <| Wo.od (o_as rfl) rfl ?_
 refine Wo.nil <| At.tn <| Wk.seq <| Wk.seq <| Wk.region <| Wo.od (o_as rfl) rfl ?_
 refine Wo.nil <| At.tn <| Wk.block ?_
 obtain ⟨l2020, h3018, hF⟩ := ob_some hF
 refine Wk.cut (G := (fun (r : List (Int × Int)) (g : Option Addr) => match r, g with | l2020, a2021 => ⟨(.exit 0), [(2, ptr b9 0), (5, ptr b12 0)], [.obj b9 (.cells [.int .i64 0, .slice none 0 0] .own), .obj b12 (.cells [.int .i64 y10, .slice a2021 l2020.length l2020.length] .own), .sl a2021 2 l2020.length (l2020.map (eP (eI .i64) (eI .i64)))]⟩) l2020) ?_ ?_
 ·refine Wk.weak (fs' := [(1, ptr b8 0), (2, ptr b9 0), (3, .int .i64 (IntKind.wrap .i64 (1 + (IntKind.wrap .i64 ((x1 % 4 : Nat) : Int))))), (5, ptr b12 0), (6, .int .i64 0), (7, .int .i64 0)]) (ps' := [.obj b8 (.cells [.int .u8 ((x1 : Nat) : Int), .int .u8 ((x2 : Nat) : Int), .int .u16 ((x3 : Nat) : Int), .slice a5 l4.length c6] .own), .rd a5 c6 2 l4.length (l4.map (eP (eN .u8) (eN .u8))), .obj b9 (.cells [.int .i64 0, .slice none 0 0] .own), .obj b12 (.cells [.int .i64 y10, .slice none ([] : List (Int × Int)).length ([] : List (Int × Int)).length] .own), .sl none 2 ([] : List (Int × Int)).length (([] : List (Int × Int)).map (eP (eI .i64) (eI .i64)))]) (sc rfl (sc rfl (sc rfl (sc rfl (sc rfl (sc rfl sn)))))) (Turn.trans (Turn.nil 2 rfl) (Turn.picks [3, 4, 2, 1, 0] rfl rfl)) ?_
  refine Wk.loop (σ := Int × List (Int × Int) × Int × Int) (ρ := List (Int × Int)) (γ := Option Addr) (δ := fun _ => Option Addr) _ (fun (s : Int × List (Int × Int) × Int × Int) (g : Option Addr) => match s, g with | (v1014, l1015, v1017, v1018), a1016 => ⟨.normal, [(1, ptr b8 0), (2, ptr b9 0), (3, .int .i64 v1014), (5, ptr b12 0), (6, .int .i64 v1017), (7, .int .i64 v1018)], [.obj b8 (.cells [.int .u8 ((x1 : Nat) : Int), .int .u8 ((x2 : Nat) : Int), .int .u16 ((x3 : Nat) : Int), .slice a5 l4.length c6] .own), .rd a5 c6 2 l4.length (l4.map (eP (eN .u8) (eN .u8))), .obj b9 (.cells [.int .i64 0, .slice none 0 0] .own), .obj b12 (.cells [.int .i64 y10, .slice a1016 l1015.length l1015.length] .own), .sl a1016 2 l1015.length (l1015.map (eP (eI .i64) (eI .i64)))]⟩) (fun (r : List (Int × Int)) (g : Option Addr) => match r, g with | l2020, a2021 => ⟨(.exit 0), [(2, ptr b9 0), (5, ptr b12 0)], [.obj b9 (.cells [.int .i64 0, .slice none 0 0] .own), .obj b12 (.cells [.int .i64 y10, .slice a2021 l2020.length l2020.length] .own), .sl a2021 2 l2020.length (l2020.map (eP (eI .i64) (eI .i64)))]⟩) ?_ (fun _ _ => rfl) (fun r d => by intro e; cases e) _ _ _ h3018 none
  clear hF h3018
  rintro ⟨v1014, l1015, v1017, v1018⟩ a1016 r hF
  unfold L40_3 at hF
  refine Wk.seq <| Wk.seq <| Wk.region <| Wo.od (o_mv rfl) rfl ?_
  refine Wo.od (o_fa (r := ptr b12 0) rfl (fa25_0 _ _)) rfl ?_
  refine Wo.od (o_ld (k := 3) t3 rfl rfl rfl) rfl ?_
  refine Wo.od (o_bi rfl rfl (bin_lss _ _ _)) rfl ?_
  refine Wo.nil <| At.tn ?_
  rcases br_some hF with ⟨h2022, hF⟩ | ⟨h2022, hF⟩
  ·refine Wk.condT rfl h2022 ?_
   refine Wk.skip <| At.tn <| Wk.seq <| Wk.block <| Wk.seq <| Wk.region <| Wo.od (o_mv rfl) rfl ?_
   refine Wo.od (o_bi rfl rfl (bin_add _ _ _)) rfl ?_
   refine Wo.od (o_as rfl) rfl ?_
   refine Wo.nil <| At.tn <| Wk.block ?_
   obtain ⟨r3017, h3016, hF⟩ := ob_some hF
   refine Wk.cut (G := (fun (r : List (Int × Int) × Int) (g : Option Addr) => match r, g with | (l2687, v2689), a2688 => ⟨(.exit 2), [(1, ptr b8 0), (2, ptr b9 0), (3, .int .i64 v1014), (5, ptr b12 0), (6, .int .i64 v2689), (7, .int .i64 v1018)], [.obj b8 (.cells [.int .u8 ((x1 : Nat) : Int), .int .u8 ((x2 : Nat) : Int), .int .u16 ((x3 : Nat) : Int), .slice a5 l4.length c6] .own), .rd a5 c6 2 l4.length (l4.map (eP (eN .u8) (eN .u8))), .obj b9 (.cells [.int .i64 0, .slice none 0 0] .own), .obj b12 (.cells [.int .i64 y10, .slice a2688 l2687.length l2687.length] .own), .sl a2688 2 l2687.length (l2687.map (eP (eI .i64) (eI .i64)))]⟩) r3017) ?_ ?_
   ·refine Wk.weak (fs' := [(1, ptr b8 0), (2, ptr b9 0), (3, .int .i64 v1014), (5, ptr b12 0), (6, .int .i64 v1017), (7, .int .i64 v1018), (8, .int .i64 (IntKind.wrap .i64 (v1018 + 1)))]) (ps' := [.obj b8 (.cells [.int .u8 ((x1 : Nat) : Int), .int .u8 ((x2 : Nat) : Int), .int .u16 ((x3 : Nat) : Int), .slice a5 l4.length c6] .own), .rd a5 c6 2 l4.length (l4.map (eP (eN .u8) (eN .u8))), .obj b9 (.cells [.int .i64 0, .slice none 0 0] .own), .obj b12 (.cells [.int .i64 y10, .slice a1016 l1015.length l1015.length] .own), .sl a1016 2 l1015.length (l1015.map (eP (eI .i64) (eI .i64)))]) (sc rfl (sc rfl (sc rfl (sc rfl (sc rfl (sc rfl (sc rfl sn))))))) (Turn.picks [0, 1, 2, 3, 4] rfl rfl) ?_
    refine Wk.loop (σ := List (Int × Int) × Int × Int) (ρ := List (Int × Int) × Int) (γ := Option Addr) (δ := fun _ => Option Addr) _ (fun (s : List (Int × Int) × Int × Int) (g : Option Addr) => match s, g with | (l2353, v2355, v2356), a2354 => ⟨.normal, [(1, ptr b8 0), (2, ptr b9 0), (3, .int .i64 v1014), (5, ptr b12 0), (6, .int .i64 v2355), (7, .int .i64 v1018), (8, .int .i64 v2356)], [.obj b8 (.cells [.int .u8 ((x1 : Nat) : Int), .int .u8 ((x2 : Nat) : Int), .int .u16 ((x3 : Nat) : Int), .slice a5 l4.length c6] .own), .rd a5 c6 2 l4.length (l4.map (eP (eN .u8) (eN .u8))), .obj b9 (.cells [.int .i64 0, .slice none 0 0] .own), .obj b12 (.cells [.int .i64 y10, .slice a2354 l2353.length l2353.length] .own), .sl a2354 2 l2353.length (l2353.map (eP (eI .i64) (eI .i64)))]⟩) (fun (r : List (Int × Int) × Int) (g : Option Addr) => match r, g with | (l2687, v2689), a2688 => ⟨(.exit 2), [(1, ptr b8 0), (2, ptr b9 0), (3, .int .i64 v1014), (5, ptr b12 0), (6, .int .i64 v2689), (7, .int .i64 v1018)], [.obj b8 (.cells [.int .u8 ((x1 : Nat) : Int), .int .u8 ((x2 : Nat) : Int), .int .u16 ((x3 : Nat) : Int), .slice a5 l4.length c6] .own), .rd a5 c6 2 l4.length (l4.map (eP (eN .u8) (eN .u8))), .obj b9 (.cells [.int .i64 0, .slice none 0 0] .own), .obj b12 (.cells [.int .i64 y10, .slice a2688 l2687.length l2687.length] .own), .sl a2688 2 l2687.length (l2687.map (eP (eI .i64) (eI .i64)))]⟩) ?_ (fun _ _ => rfl) (fun r d => by intro e; cases e) _ _ _ h3016 a1016
    clear hF h3016
    rintro ⟨l2353, v2355, v2356⟩ a2354 r hF
    unfold L40_2 at hF
    refine Wk.seq <| Wk.seq <| Wk.region <| Wo.od (o_mv rfl) rfl ?_
    refine Wo.od (o_fa (r := ptr b12 0) rfl (fa25_0 _ _)) rfl ?_
    refine Wo.od (o_ld (k := 3) t3 rfl rfl rfl) rfl ?_
    refine Wo.od (o_bi rfl rfl (bin_lss _ _ _)) rfl ?_
    refine Wo.nil <| At.tn ?_
    rcases br_some hF with ⟨h2690, hF⟩ | ⟨h2690, hF⟩
    ·refine Wk.condT rfl h2690 ?_
     refine Wk.skip <| At.tn <| Wk.seq ?_
     obtain ⟨r3015, h3014, hF⟩ := ob_some hF
     refine Wk.cut (G := (fun (r : List (Int × Int) × Int) (g : Option Addr) => match r, g with | (l2851, v2853), a2852 => ⟨.normal, [(1, ptr b8 0), (2, ptr b9 0), (3, .int .i64 v1014), (5, ptr b12 0), (6, .int .i64 v2853), (7, .int .i64 v1018), (8, .int .i64 v2356)], [.obj b8 (.cells [.int .u8 ((x1 : Nat) : Int), .int .u8 ((x2 : Nat) : Int), .int .u16 ((x3 : Nat) : Int), .slice a5 l4.length c6] .own), .rd a5 c6 2 l4.length (l4.map (eP (eN .u8) (eN .u8))), .obj b9 (.cells [.int .i64 0, .slice none 0 0] .own), .obj b12 (.cells [.int .i64 y10, .slice a2852 l2851.length l2851.length] .own), .sl a2852 2 l2851.length (l2851.map (eP (eI .i64) (eI .i64)))]⟩) r3015) ?_ ?_
     ·clear hF
      revert r3015
      intro r hF
      refine Wk.block <| Wk.seq ?_
      obtain ⟨v2857, h2861, hF⟩ := ob_some hF
      refine Wk.cut (G := (fun (r : Bool) (g : Unit) => match r, g with | v2857, _ => ⟨.normal, [(1, ptr b8 0), (2, ptr b9 0), (3, .int .i64 v1014), (5, ptr b12 0), (6, .int .i64 v2355), (7, .int .i64 v1018), (8, .int .i64 v2356), (9, .bool v2857)], [.obj b8 (.cells [.int .u8 ((x1 : Nat) : Int), .int .u8 ((x2 : Nat) : Int), .int .u16 ((x3 : Nat) : Int), .slice a5 l4.length c6] .own), .rd a5 c6 2 l4.length (l4.map (eP (eN .u8) (eN .u8))), .obj b9 (.cells [.int .i64 0, .slice none 0 0] .own), .obj b12 (.cells [.int .i64 y10, .slice a2354 l2353.length l2353.length] .own), .sl a2354 2 l2353.length (l2353.map (eP (eI .i64) (eI .i64)))]⟩) v2857) ?_ ?_
      ·clear hF
       revert v2857
       intro r hF
       refine Wk.region <| Wo.od (o_mv rfl) rfl ?_
       refine Wo.od (o_mv rfl) rfl ?_
       refine Wo.od (o_mv rfl) rfl ?_
       refine Wo.od (o_bi rfl rfl (bin_add _ _ _)) rfl ?_
       refine Wo.od (o_bi rfl rfl (bin_eql _ _ _)) rfl ?_
       refine Wo.od (o_mv rfl) rfl ?_
       rcases br_some hF with ⟨h2858, hF⟩ | ⟨h2858, hF⟩
       ·refine Wo.s (gg rfl rfl (eTF h2858)) rfl ?_
        refine Wo.s (gg rfl rfl (eTF h2858)) rfl ?_
        refine Wo.s (gg rfl rfl (eTF h2858)) rfl ?_
        refine Wo.s (gg rfl rfl (eTF h2858)) rfl ?_
        refine Wo.s (gg rfl rfl (eTF h2858)) rfl ?_
        refine Wo.s (gu rfl rfl) rfl ?_
        refine Wo.s (gu rfl rfl) rfl ?_
        refine Wo.s (gu rfl rfl) rfl ?_
        refine Wo.s (gu rfl rfl) rfl ?_
        refine Wo.s (gg rfl rfl (eTF h2858)) rfl ?_
        refine Wo.od (o_pt rfl h2858 rfl) rfl ?_
        refine Wo.od (o_as rfl) rfl ?_
        refine Wo.nil ?_
        cases hF
        exact At.en () rfl (sc rfl (sc rfl (sc rfl (sc rfl (sc rfl (sc rfl (sc rfl (sc rfl sn)))))))) (Turn.picks [0, 1, 2, 3, 4] rfl rfl)
       ·refine Wo.og (o_mv rfl) (gg rfl rfl (eFF h2858)) rfl ?_
        refine Wo.og (o_mv rfl) (gg rfl rfl (eFF h2858)) rfl ?_
        refine Wo.og (o_bi rfl rfl (bin_add _ _ _)) (gg rfl rfl (eFF h2858)) rfl ?_
        refine Wo.og (o_bi rfl rfl (bin_eql _ _ _)) (gg rfl rfl (eFF h2858)) rfl ?_
        refine Wo.og (o_mv rfl) (gg rfl rfl (eFF h2858)) rfl ?_
        rcases br_some hF with ⟨h2859, hF⟩ | ⟨h2859, hF⟩
        ·refine Wo.og (o_mv rfl) (gg rfl rfl (eTT h2859)) rfl ?_
         refine Wo.og (o_mv rfl) (gg rfl rfl (eTT h2859)) rfl ?_
         obtain ⟨h2860, hF⟩ := gd_some hF
         refine Wo.og (o_bi rfl rfl (ib_rem _ _ h2860)) (gg rfl rfl (eTT h2859)) rfl ?_
         refine Wo.og (o_bi rfl rfl (ib_neq _ _)) (gg rfl rfl (eTT h2859)) rfl ?_
         refine Wo.og (o_pt rfl h2859 rfl) (gg rfl rfl (eFF h2858)) rfl ?_
         refine Wo.od (o_pf rfl h2858 rfl) rfl ?_
         refine Wo.od (o_as rfl) rfl ?_
         refine Wo.nil ?_
         cases hF
         exact At.en () rfl (sc rfl (sc rfl (sc rfl (sc rfl (sc rfl (sc rfl (sc rfl (sc rfl sn)))))))) (Turn.picks [0, 1, 2, 3, 4] rfl rfl)
        ·refine Wo.s (gg rfl rfl (eFT h2859)) rfl ?_
         refine Wo.s (gg rfl rfl (eFT h2859)) rfl ?_
         refine Wo.s (gg rfl rfl (eFT h2859)) rfl ?_
         refine Wo.s (gg rfl rfl (eFT h2859)) rfl ?_
         refine Wo.og (o_pf rfl h2859 rfl) (gg rfl rfl (eFF h2858)) rfl ?_
         refine Wo.od (o_pf rfl h2858 rfl) rfl ?_
         refine Wo.od (o_as rfl) rfl ?_
         refine Wo.nil ?_
         cases hF
         exact At.en () rfl (sc rfl (sc rfl (sc rfl (sc rfl (sc rfl (sc rfl (sc rfl (sc rfl sn)))))))) (Turn.picks [0, 1, 2, 3, 4] rfl rfl)
      ·clear h2861
       rintro ⟨⟩
       refine At.tn <| Wk.seq ?_
       obtain ⟨r2914, h2913, hF⟩ := ob_some hF
       refine Wk.cut (G := (fun (r : Int × Bool) (g : Unit) => match r, g with | (v2887, v2888), _ => ⟨.normal, [(1, ptr b8 0), (2, ptr b9 0), (3, .int .i64 v1014), (5, ptr b12 0), (6, .int .i64 v2887), (7, .int .i64 v1018), (8, .int .i64 v2356), (9, .bool v2888)], [.obj b8 (.cells [.int .u8 ((x1 : Nat) : Int), .int .u8 ((x2 : Nat) : Int), .int .u16 ((x3 : Nat) : Int), .slice a5 l4.length c6] .own), .rd a5 c6 2 l4.length (l4.map (eP (eN .u8) (eN .u8))), .obj b9 (.cells [.int .i64 0, .slice none 0 0] .own), .obj b12 (.cells [.int .i64 y10, .slice a2354 l2353.length l2353.length] .own), .sl a2354 2 l2353.length (l2353.map (eP (eI .i64) (eI .i64)))]⟩) r2914) ?_ ?_
       ·clear hF
        revert r2914
        intro r hF
        refine Wk.seq <| Wk.region <| Wo.od (o_mv rfl) rfl ?_
        refine Wo.nil <| At.tn ?_
        rcases br_some hF with ⟨h2889, hF⟩ | ⟨h2889, hF⟩
        ·refine Wk.condT rfl h2889 ?_
         refine Wk.seq ?_
         obtain ⟨v2900, h2911, hF⟩ := ob_some hF
         refine Wk.cut (G := (fun (r : Bool) (g : Unit) => match r, g with | v2900, _ => ⟨.normal, [(1, ptr b8 0), (2, ptr b9 0), (3, .int .i64 v1014), (5, ptr b12 0), (6, .int .i64 v2355), (7, .int .i64 v1018), (8, .int .i64 v2356), (9, .bool v2900)], [.obj b8 (.cells [.int .u8 ((x1 : Nat) : Int), .int .u8 ((x2 : Nat) : Int), .int .u16 ((x3 : Nat) : Int), .slice a5 l4.length c6] .own), .rd a5 c6 2 l4.length (l4.map (eP (eN .u8) (eN .u8))), .obj b9 (.cells [.int .i64 0, .slice none 0 0] .own), .obj b12 (.cells [.int .i64 y10, .slice a2354 l2353.length l2353.length] .own), .sl a2354 2 l2353.length (l2353.map (eP (eI .i64) (eI .i64)))]⟩) v2900) ?_ ?_
         ·clear hF
          revert v2900
          intro r hF
          refine Wk.seq ?_
          obtain ⟨v2904, h2908, hF⟩ := ob_some hF
          refine Wk.cut (G := (fun (r : Bool) (g : Unit) => match r, g with | v2904, _ => ⟨.normal, [(1, ptr b8 0), (2, ptr b9 0), (3, .int .i64 v1014), (5, ptr b12 0), (6, .int .i64 v2355), (7, .int .i64 v1018), (8, .int .i64 v2356), (9, .bool v2857), (72, .bool v2904)], [.obj b8 (.cells [.int .u8 ((x1 : Nat) : Int), .int .u8 ((x2 : Nat) : Int), .int .u16 ((x3 : Nat) : Int), .slice a5 l4.length c6] .own), .rd a5 c6 2 l4.length (l4.map (eP (eN .u8) (eN .u8))), .obj b9 (.cells [.int .i64 0, .slice none 0 0] .own), .obj b12 (.cells [.int .i64 y10, .slice a2354 l2353.length l2353.length] .own), .sl a2354 2 l2353.length (l2353.map (eP (eI .i64) (eI .i64)))]⟩) v2904) ?_ ?_
          ·clear hF
           revert v2904
           intro r hF
           refine Wk.region <| Wo.od (o_mv rfl) rfl ?_
           refine Wo.od (o_bi rfl rfl (ib_rem _ _ (by decide))) rfl ?_
           refine Wo.od (o_bi rfl rfl (bin_eql _ _ _)) rfl ?_
           refine Wo.od (o_mv rfl) rfl ?_
           rcases br_some hF with ⟨h2905, hF⟩ | ⟨h2905, hF⟩
           ·refine Wo.og (o_fa (r := ptr b8 2) rfl (fa55_2 _ _)) (gg rfl rfl (eTT h2905)) rfl ?_
            refine Wo.og (o_ld (k := 0) t52 rfl rfl rfl) (gg rfl rfl (eTT h2905)) rfl ?_
            refine Wo.og (o_mv rfl) (gg rfl rfl (eTT h2905)) rfl ?_
            refine Wo.og (o_bi rfl rfl (ib_quo _ _ (by decide))) (gg rfl rfl (eTT h2905)) rfl ?_
            refine Wo.og (o_bi rfl rfl (ib_rem _ _ (by decide))) (gg rfl rfl (eTT h2905)) rfl ?_
            refine Wo.og (o_cv rfl (cv_u (by rw [u3]; rfl) u102 rfl)) (gg rfl rfl (eTT h2905)) rfl ?_
            obtain ⟨y2906, h2907, hF⟩ := ob_some hF
            refine Wo.og (o_bi rfl rfl ((ub_shr _ _ (nn _)).trans (cN h2907))) (gg rfl rfl (eTT h2905)) rfl ?_
            refine Wo.og (o_bi rfl rfl (ub_and rfl _ _)) (gg rfl rfl (eTT h2905)) rfl ?_
            refine Wo.og (o_bi rfl rfl (ub_eql _ _)) (gg rfl rfl (eTT h2905)) rfl ?_
            refine Wo.od (o_pt rfl h2905 rfl) rfl ?_
            refine Wo.nil ?_
            cases hF
            exact At.en () rfl (sc rfl (sc rfl (sc rfl (sc rfl (sc rfl (sc rfl (sc rfl (sc rfl (sc rfl sn))))))))) (Turn.picks [0, 1, 2, 3, 4] rfl rfl)
           ·refine Wo.s (gg rfl rfl (eFT h2905)) rfl ?_
            refine Wo.s (gg rfl rfl (eFT h2905)) rfl ?_
            refine Wo.s (gg rfl rfl (eFT h2905)) rfl ?_
            refine Wo.s (gg rfl rfl (eFT h2905)) rfl ?_
            refine Wo.s (gg rfl rfl (eFT h2905)) rfl ?_
            refine Wo.s (gg rfl rfl (eFT h2905)) rfl ?_
            refine Wo.s (gg rfl rfl (eFT h2905)) rfl ?_
            refine Wo.s (gg rfl rfl (eFT h2905)) rfl ?_
            refine Wo.s (gg rfl rfl (eFT h2905)) rfl ?_
            refine Wo.od (o_pf rfl h2905 rfl) rfl ?_
            refine Wo.nil ?_
            cases hF
            exact At.en () rfl (sc rfl (sc rfl (sc rfl (sc rfl (sc rfl (sc rfl (sc rfl (sc rfl (sc rfl sn))))))))) (Turn.picks [0, 1, 2, 3, 4] rfl rfl)
          ·clear h2908
           rintro ⟨⟩
           refine At.tn ?_
           rcases br_some hF with ⟨h2910, hF⟩ | ⟨h2910, hF⟩
           ·refine Wk.condT rfl h2910 ?_
            refine Wk.region <| Wo.od (o_as rfl) rfl ?_
            refine Wo.nil ?_
            cases hF
            exact At.en () rfl (sc rfl (sc rfl (sc rfl (sc rfl (sc rfl (sc rfl (sc rfl (sc rfl sn)))))))) (Turn.picks [0, 1, 2, 3, 4] rfl rfl)
           ·refine Wk.condF rfl h2910 ?_
            refine Wk.skip ?_
            have hr := Option.some.inj hF
            subst r
            exact At.en () rfl (sc rfl (sc rfl (sc rfl (sc rfl (sc rfl (sc rfl (sc rfl (sc rfl sn)))))))) (Turn.picks [0, 1, 2, 3, 4] rfl rfl)
         ·clear h2911
          rintro ⟨⟩
          refine At.tn <| Wk.region <| Wo.od (o_mv rfl) rfl ?_
          refine Wo.od (o_bi rfl rfl (bin_add _ _ _)) rfl ?_
          refine Wo.od (o_as rfl) rfl ?_
          refine Wo.nil ?_
          cases hF
          exact At.en () rfl (sc rfl (sc rfl (sc rfl (sc rfl (sc rfl (sc rfl (sc rfl (sc rfl sn)))))))) (Turn.picks [0, 1, 2, 3, 4] rfl rfl)
        ·refine Wk.condF rfl h2889 ?_
         refine Wk.skip ?_
         cases hF
         exact At.en () rfl (sc rfl (sc rfl (sc rfl (sc rfl (sc rfl (sc rfl (sc rfl (sc rfl sn)))))))) (Turn.picks [0, 1, 2, 3, 4] rfl rfl)
       ·clear h2913
        obtain ⟨v2887, v2888⟩ := r2914
        rintro ⟨⟩
        refine At.tn <| Wk.seq <| Wk.seq <| Wk.region <| Wo.od (o_as rfl) rfl ?_
        refine Wo.nil <| At.tn <| Wk.block ?_
        obtain ⟨v2964, h3008, hF⟩ := ob_some hF
        refine Wk.cut (G := (fun (r : Bool) (g : Unit) => match r, g with | v2964, _ => ⟨(.exit 4), [(1, ptr b8 0), (2, ptr b9 0), (3, .int .i64 v1014), (5, ptr b12 0), (6, .int .i64 v2887), (7, .int .i64 v1018), (8, .int .i64 v2356), (9, .bool v2964)], [.obj b8 (.cells [.int .u8 ((x1 : Nat) : Int), .int .u8 ((x2 : Nat) : Int), .int .u16 ((x3 : Nat) : Int), .slice a5 l4.length c6] .own), .rd a5 c6 2 l4.length (l4.map (eP (eN .u8) (eN .u8))), .obj b9 (.cells [.int .i64 0, .slice none 0 0] .own), .obj b12 (.cells [.int .i64 y10, .slice a2354 l2353.length l2353.length] .own), .sl a2354 2 l2353.length (l2353.map (eP (eI .i64) (eI .i64)))]⟩) v2964) ?_ ?_
        ·refine Wk.weak (fs' := [(1, ptr b8 0), (2, ptr b9 0), (3, .int .i64 v1014), (5, ptr b12 0), (6, .int .i64 v2887), (7, .int .i64 v1018), (8, .int .i64 v2356), (9, .bool v2888), (10, .int .i64 0)]) (ps' := [.obj b8 (.cells [.int .u8 ((x1 : Nat) : Int), .int .u8 ((x2 : Nat) : Int), .int .u16 ((x3 : Nat) : Int), .slice a5 l4.length c6] .own), .rd a5 c6 2 l4.length (l4.map (eP (eN .u8) (eN .u8))), .obj b9 (.cells [.int .i64 0, .slice none 0 0] .own), .obj b12 (.cells [.int .i64 y10, .slice a2354 l2353.length l2353.length] .own), .sl a2354 2 l2353.length (l2353.map (eP (eI .i64) (eI .i64)))]) (sc rfl (sc rfl (sc rfl (sc rfl (sc rfl (sc rfl (sc rfl (sc rfl (sc rfl sn))))))))) (Turn.picks [0, 1, 2, 3, 4] rfl rfl) ?_
         refine Wk.loop (σ := Bool × Int) (ρ := Bool) (γ := Unit) (δ := fun _ => Unit) _ (fun (s : Bool × Int) (g : Unit) => match s, g with | (v2917, v2918), _ => ⟨.normal, [(1, ptr b8 0), (2, ptr b9 0), (3, .int .i64 v1014), (5, ptr b12 0), (6, .int .i64 v2887), (7, .int .i64 v1018), (8, .int .i64 v2356), (9, .bool v2917), (10, .int .i64 v2918)], [.obj b8 (.cells [.int .u8 ((x1 : Nat) : Int), .int .u8 ((x2 : Nat) : Int), .int .u16 ((x3 : Nat) : Int), .slice a5 l4.length c6] .own), .rd a5 c6 2 l4.length (l4.map (eP (eN .u8) (eN .u8))), .obj b9 (.cells [.int .i64 0, .slice none 0 0] .own), .obj b12 (.cells [.int .i64 y10, .slice a2354 l2353.length l2353.length] .own), .sl a2354 2 l2353.length (l2353.map (eP (eI .i64) (eI .i64)))]⟩) (fun (r : Bool) (g : Unit) => match r, g with | v2964, _ => ⟨(.exit 4), [(1, ptr b8 0), (2, ptr b9 0), (3, .int .i64 v1014), (5, ptr b12 0), (6, .int .i64 v2887), (7, .int .i64 v1018), (8, .int .i64 v2356), (9, .bool v2964)], [.obj b8 (.cells [.int .u8 ((x1 : Nat) : Int), .int .u8 ((x2 : Nat) : Int), .int .u16 ((x3 : Nat) : Int), .slice a5 l4.length c6] .own), .rd a5 c6 2 l4.length (l4.map (eP (eN .u8) (eN .u8))), .obj b9 (.cells [.int .i64 0, .slice none 0 0] .own), .obj b12 (.cells [.int .i64 y10, .slice a2354 l2353.length l2353.length] .own), .sl a2354 2 l2353.length (l2353.map (eP (eI .i64) (eI .i64)))]⟩) ?_ (fun _ _ => rfl) (fun r d => by intro e; cases e) _ _ _ h3008 ()
         clear hF h3008
         rintro ⟨v2917, v2918⟩ ⟨⟩ r hF
         unfold L40_1 at hF
         refine Wk.seq <| Wk.seq ?_
         obtain ⟨v2972, h2974, hF⟩ := ob_some hF
         refine Wk.cut (G := (fun (r : Bool) (g : Unit) => match r, g with | v2972, _ => ⟨.normal, [(1, ptr b8 0), (2, ptr b9 0), (3, .int .i64 v1014), (5, ptr b12 0), (6, .int .i64 v2887), (7, .int .i64 v1018), (8, .int .i64 v2356), (9, .bool v2917), (10, .int .i64 v2918), (83, .bool v2972)], [.obj b8 (.cells [.int .u8 ((x1 : Nat) : Int), .int .u8 ((x2 : Nat) : Int), .int .u16 ((x3 : Nat) : Int), .slice a5 l4.length c6] .own), .rd a5 c6 2 l4.length (l4.map (eP (eN .u8) (eN .u8))), .obj b9 (.cells [.int .i64 0, .slice none 0 0] .own), .obj b12 (.cells [.int .i64 y10, .slice a2354 l2353.length l2353.length] .own), .sl a2354 2 l2353.length (l2353.map (eP (eI .i64) (eI .i64)))]⟩) v2972) ?_ ?_
         ·clear hF
          revert v2972
          intro r hF
          refine Wk.region <| Wo.od (o_mv rfl) rfl ?_
          refine Wo.od (o_fa (r := ptr b8 3) rfl (fa55_3 _ _)) rfl ?_
          refine Wo.od (o_ld (k := 0) t53 rfl rfl rfl) rfl ?_
          refine Wo.od (o_ln (k := 1) u53 rfl rfl (.inl rfl)) rfl ?_
          refine Wo.od (o_bi rfl rfl (bin_lss _ _ _)) rfl ?_
          refine Wo.od (o_mv rfl) rfl ?_
          rcases br_some hF with ⟨h2973, hF⟩ | ⟨h2973, hF⟩
          ·refine Wo.og (o_mv rfl) (gg rfl rfl (eTT h2973)) rfl ?_
           refine Wo.og (o_bi rfl rfl (bin_lss _ _ _)) (gg rfl rfl (eTT h2973)) rfl ?_
           refine Wo.od (o_pt rfl h2973 rfl) rfl ?_
           refine Wo.nil ?_
           cases hF
           exact At.en () rfl (sc rfl (sc rfl (sc rfl (sc rfl (sc rfl (sc rfl (sc rfl (sc rfl (sc rfl (sc rfl sn)))))))))) (Turn.picks [0, 1, 2, 3, 4] rfl rfl)
          ·refine Wo.s (gg rfl rfl (eFT h2973)) rfl ?_
           refine Wo.s (gg rfl rfl (eFT h2973)) rfl ?_
           refine Wo.od (o_pf rfl h2973 rfl) rfl ?_
           refine Wo.nil ?_
           cases hF
           exact At.en () rfl (sc rfl (sc rfl (sc rfl (sc rfl (sc rfl (sc rfl (sc rfl (sc rfl (sc rfl (sc rfl sn)))))))))) (Turn.picks [0, 1, 2, 3, 4] rfl rfl)
         ·clear h2974
          rintro ⟨⟩
          refine At.tn ?_
          rcases br_some hF with ⟨h2976, hF⟩ | ⟨h2976, hF⟩
          ·refine Wk.condT rfl h2976 ?_
           refine Wk.skip <| At.tn <| Wk.seq ?_
           obtain ⟨v2991, h3006, hF⟩ := ob_some hF
           refine Wk.cut (G := (fun (r : Bool) (g : Unit) => match r, g with | v2991, _ => ⟨.normal, [(1, ptr b8 0), (2, ptr b9 0), (3, .int .i64 v1014), (5, ptr b12 0), (6, .int .i64 v2887), (7, .int .i64 v1018), (8, .int .i64 v2356), (9, .bool v2991), (10, .int .i64 v2918)], [.obj b8 (.cells [.int .u8 ((x1 : Nat) : Int), .int .u8 ((x2 : Nat) : Int), .int .u16 ((x3 : Nat) : Int), .slice a5 l4.length c6] .own), .rd a5 c6 2 l4.length (l4.map (eP (eN .u8) (eN .u8))), .obj b9 (.cells [.int .i64 0, .slice none 0 0] .own), .obj b12 (.cells [.int .i64 y10, .slice a2354 l2353.length l2353.length] .own), .sl a2354 2 l2353.length (l2353.map (eP (eI .i64) (eI .i64)))]⟩) v2991) ?_ ?_
           ·clear hF
            revert v2991
            intro r hF
            refine Wk.block <| Wk.seq <| Wk.draw (by kernel_rfl) ?_
            refine Wo.od (o_fa (r := ptr b8 3) rfl (fa55_3 _ _)) rfl ?_
            refine Wo.od (o_ld (k := 0) t53 rfl rfl rfl) rfl ?_
            refine Wo.od (o_mv rfl) rfl ?_
            obtain ⟨h2992, hF⟩ := gd_some hF
            replace h2992 := inB_some h2992
            refine Wo.openr (k := 1) rfl (pos_of h2992) ?_
            rintro b2993 o2994 rfl
            refine Wo.og (o_ixs s53 rfl rfl h2992) gn rfl ?_
            refine Wo.od (o_ia (r := ptr b2993 (o2994 + v2918.toNat * 2 + 0)) rfl rfl (ia_c ar103 (i := 0) (by decide))) rfl ?_
            obtain ⟨⟨x2995, x2996⟩, h2997, hF⟩ := ob_some hF
            refine Wo.od (o_ldr (k := 0) t5 rfl rfl (map_at h2997) rfl rfl) rfl ?_
            refine Wo.od (o_cv rfl (cv_i (by rw [u5]; rfl) u3)) rfl ?_
            refine Wo.od (o_fa (r := ptr b12 0) rfl (fa25_0 _ _)) rfl ?_
            refine Wo.od (o_ld (k := 4) t3 rfl rfl rfl) rfl ?_
            obtain ⟨h2998, hF⟩ := gd_some hF
            refine Wo.od (o_bi rfl rfl (ib_rem _ _ h2998)) rfl ?_
            refine Wo.od (o_fa (r := ptr b8 3) rfl (fa55_3 _ _)) rfl ?_
            refine Wo.od (o_ld (k := 1) t53 rfl rfl rfl) rfl ?_
            refine Wo.od (o_mv rfl) rfl ?_
            obtain ⟨h2999, hF⟩ := gd_some hF
            replace h2999 := inB_some h2999
            refine Wo.og (o_ixs s53 rfl rfl h2999) gn rfl ?_
            refine Wo.od (o_ia (r := ptr b2993 (o2994 + v2918.toNat * 2 + 1)) rfl rfl (ia_c ar103 (i := 1) (by decide))) rfl ?_
            refine Wo.od (o_ldr (k := 0) t5 rfl rfl (map_at h2997) rfl rfl) rfl ?_
            refine Wo.od (o_cv rfl (cv_i (by rw [u5]; rfl) u3)) rfl ?_
            refine Wo.od (o_fa (r := ptr b12 0) rfl (fa25_0 _ _)) rfl ?_
            refine Wo.od (o_ld (k := 4) t3 rfl rfl rfl) rfl ?_
            obtain ⟨h3000, hF⟩ := gd_some hF
            refine Wo.od (o_bi rfl rfl (ib_rem _ _ h3000)) rfl ?_
            refine Wo.od (o_as rfl) rfl ?_
            refine Wo.od (o_as rfl) rfl ?_
            refine Wo.nil <| At.tn <| Wk.region <| Wo.od (o_mv rfl) rfl ?_
            refine Wo.od (o_mv rfl) rfl ?_
            rcases br_some hF with ⟨h3001, hF⟩ | ⟨h3001, hF⟩
            ·refine Wo.s (gg rfl rfl (eTF h3001)) rfl ?_
             refine Wo.s (gg rfl rfl (eTF h3001)) rfl ?_
             refine Wo.s (gg rfl rfl (eTF h3001)) rfl ?_
             refine Wo.s (gg rfl rfl (eTF h3001)) rfl ?_
             refine Wo.s (gu rfl rfl) rfl ?_
             refine Wo.s (gu rfl rfl) rfl ?_
             refine Wo.s (gu rfl rfl) rfl ?_
             refine Wo.s (gg rfl rfl (eTF h3001)) rfl ?_
             refine Wo.od (o_pt rfl h3001 rfl) rfl ?_
             refine Wo.od (o_mv rfl) rfl ?_
             refine Wo.s (gg rfl rfl rfl) rfl ?_
             refine Wo.s (gg rfl rfl rfl) rfl ?_
             refine Wo.s (gg rfl rfl rfl) rfl ?_
             refine Wo.s (gg rfl rfl rfl) rfl ?_
             refine Wo.s (gu rfl rfl) rfl ?_
             refine Wo.s (gu rfl rfl) rfl ?_
             refine Wo.s (gu rfl rfl) rfl ?_
             refine Wo.s (gg rfl rfl rfl) rfl ?_
             refine Wo.od (o_pT rfl rfl) rfl ?_
             refine Wo.od (o_as rfl) rfl ?_
             refine Wo.nil <| At.bn ?_
             cases hF
             exact At.en () rfl (sc rfl (sc rfl (sc rfl (sc rfl (sc rfl (sc rfl (sc rfl (sc rfl (sc rfl sn))))))))) (Turn.picks [1, 2, 3, 4, 5] rfl rfl)
            ·refine Wo.og (o_mv rfl) (gg rfl rfl (eFF h3001)) rfl ?_
             refine Wo.og (o_mv rfl) (gg rfl rfl (eFF h3001)) rfl ?_
             refine Wo.og (o_bi rfl rfl (bin_eql _ _ _)) (gg rfl rfl (eFF h3001)) rfl ?_
             refine Wo.og (o_mv rfl) (gg rfl rfl (eFF h3001)) rfl ?_
             rcases br_some hF with ⟨h3002, hF⟩ | ⟨h3002, hF⟩
             ·refine Wo.og (o_mv rfl) (gg rfl rfl (eTT h3002)) rfl ?_
              refine Wo.og (o_mv rfl) (gg rfl rfl (eTT h3002)) rfl ?_
              refine Wo.og (o_bi rfl rfl (bin_eql _ _ _)) (gg rfl rfl (eTT h3002)) rfl ?_
              refine Wo.og (o_pt rfl h3002 rfl) (gg rfl rfl (eFF h3001)) rfl ?_
              refine Wo.od (o_pf rfl h3001 rfl) rfl ?_
              refine Wo.od (o_mv rfl) rfl ?_
              rcases br_some hF with ⟨h3003, hF⟩ | ⟨h3003, hF⟩
              ·refine Wo.s (gg rfl rfl (eTF h3003)) rfl ?_
               refine Wo.s (gg rfl rfl (eTF h3003)) rfl ?_
               refine Wo.s (gg rfl rfl (eTF h3003)) rfl ?_
               refine Wo.s (gg rfl rfl (eTF h3003)) rfl ?_
               refine Wo.s (gu rfl rfl) rfl ?_
               refine Wo.s (gu rfl rfl) rfl ?_
               refine Wo.s (gu rfl rfl) rfl ?_
               refine Wo.s (gg rfl rfl (eTF h3003)) rfl ?_
               refine Wo.od (o_pt rfl h3003 rfl) rfl ?_
               refine Wo.od (o_as rfl) rfl ?_
               refine Wo.nil <| At.bn ?_
               cases hF
               exact At.en () rfl (sc rfl (sc rfl (sc rfl (sc rfl (sc rfl (sc rfl (sc rfl (sc rfl (sc rfl sn))))))))) (Turn.picks [1, 2, 3, 4, 5] rfl rfl)
              ·refine Wo.og (o_mv rfl) (gg rfl rfl (eFF h3003)) rfl ?_
               refine Wo.og (o_mv rfl) (gg rfl rfl (eFF h3003)) rfl ?_
               refine Wo.og (o_bi rfl rfl (bin_eql _ _ _)) (gg rfl rfl (eFF h3003)) rfl ?_
               refine Wo.og (o_mv rfl) (gg rfl rfl (eFF h3003)) rfl ?_
               rcases br_some hF with ⟨h3004, hF⟩ | ⟨h3004, hF⟩
               ·refine Wo.og (o_mv rfl) (gg rfl rfl (eTT h3004)) rfl ?_
                refine Wo.og (o_mv rfl) (gg rfl rfl (eTT h3004)) rfl ?_
                refine Wo.og (o_bi rfl rfl (bin_eql _ _ _)) (gg rfl rfl (eTT h3004)) rfl ?_
                refine Wo.og (o_pt rfl h3004 rfl) (gg rfl rfl (eFF h3003)) rfl ?_
                refine Wo.od (o_pf rfl h3003 rfl) rfl ?_
                refine Wo.od (o_as rfl) rfl ?_
                refine Wo.nil <| At.bn ?_
                cases hF
                exact At.en () rfl (sc rfl (sc rfl (sc rfl (sc rfl (sc rfl (sc rfl (sc rfl (sc rfl (sc rfl sn))))))))) (Turn.picks [1, 2, 3, 4, 5] rfl rfl)
               ·refine Wo.s (gg rfl rfl (eFT h3004)) rfl ?_
                refine Wo.s (gg rfl rfl (eFT h3004)) rfl ?_
                refine Wo.s (gg rfl rfl (eFT h3004)) rfl ?_
                refine Wo.og (o_pf rfl h3004 rfl) (gg rfl rfl (eFF h3003)) rfl ?_
                refine Wo.od (o_pf rfl h3003 rfl) rfl ?_
                refine Wo.od (o_as rfl) rfl ?_
                refine Wo.nil <| At.bn ?_
                cases hF
                exact At.en () rfl (sc rfl (sc rfl (sc rfl (sc rfl (sc rfl (sc rfl (sc rfl (sc rfl (sc rfl sn))))))))) (Turn.picks [1, 2, 3, 4, 5] rfl rfl)
             ·refine Wo.s (gg rfl rfl (eFT h3002)) rfl ?_
              refine Wo.s (gg rfl rfl (eFT h3002)) rfl ?_
              refine Wo.s (gg rfl rfl (eFT h3002)) rfl ?_
              refine Wo.og (o_pf rfl h3002 rfl) (gg rfl rfl (eFF h3001)) rfl ?_
              refine Wo.od (o_pf rfl h3001 rfl) rfl ?_
              refine Wo.od (o_mv rfl) rfl ?_
              refine Wo.og (o_mv rfl) (gg rfl rfl rfl) rfl ?_
              refine Wo.og (o_mv rfl) (gg rfl rfl rfl) rfl ?_
              refine Wo.og (o_bi rfl rfl (bin_eql _ _ _)) (gg rfl rfl rfl) rfl ?_
              refine Wo.og (o_mv rfl) (gg rfl rfl rfl) rfl ?_
              rcases br_some hF with ⟨h3005, hF⟩ | ⟨h3005, hF⟩
              ·refine Wo.og (o_mv rfl) (gg rfl rfl (eTT h3005)) rfl ?_
               refine Wo.og (o_mv rfl) (gg rfl rfl (eTT h3005)) rfl ?_
               refine Wo.og (o_bi rfl rfl (bin_eql _ _ _)) (gg rfl rfl (eTT h3005)) rfl ?_
               refine Wo.og (o_pt rfl h3005 rfl) (gg rfl rfl rfl) rfl ?_
               refine Wo.od (o_pF rfl rfl) rfl ?_
               refine Wo.od (o_as rfl) rfl ?_
               refine Wo.nil <| At.bn ?_
               cases hF
               exact At.en () rfl (sc rfl (sc rfl (sc rfl (sc rfl (sc rfl (sc rfl (sc rfl (sc rfl (sc rfl sn))))))))) (Turn.picks [1, 2, 3, 4, 5] rfl rfl)
              ·refine Wo.s (gg rfl rfl (eFT h3005)) rfl ?_
               refine Wo.s (gg rfl rfl (eFT h3005)) rfl ?_
               refine Wo.s (gg rfl rfl (eFT h3005)) rfl ?_
               refine Wo.og (o_pf rfl h3005 rfl) (gg rfl rfl rfl) rfl ?_
               refine Wo.od (o_pF rfl rfl) rfl ?_
               refine Wo.od (o_as rfl) rfl ?_
               refine Wo.nil <| At.bn ?_
               cases hF
               exact At.en () rfl (sc rfl (sc rfl (sc rfl (sc rfl (sc rfl (sc rfl (sc rfl (sc rfl (sc rfl sn))))))))) (Turn.picks [1, 2, 3, 4, 5] rfl rfl)
           ·clear h3006
            rintro ⟨⟩
            refine At.tn <| Wk.region <| Wo.od (o_mv rfl) rfl ?_
            refine Wo.od (o_bi rfl rfl (bin_add _ _ _)) rfl ?_
            refine Wo.od (o_as rfl) rfl ?_
            refine Wo.nil ?_
            cases hF
            exact At.en () rfl (sc rfl (sc rfl (sc rfl (sc rfl (sc rfl (sc rfl (sc rfl (sc rfl (sc rfl sn))))))))) (Turn.picks [0, 1, 2, 3, 4] rfl rfl)
          ·refine Wk.condF rfl h2976 ?_
           refine Wk.exit <| At.te ?_
           cases hF
           exact At.en () rfl (sc rfl (sc rfl (sc rfl (sc rfl (sc rfl (sc rfl (sc rfl (sc rfl sn)))))))) (Turn.picks [0, 1, 2, 3, 4] rfl rfl)
        ·clear h3008
         rintro ⟨⟩
         refine At.be <| At.tn <| Wk.seq <| Wk.region <| Wo.od (o_mv rfl) rfl ?_
         refine Wo.nil <| At.tn ?_
         rcases br_some hF with ⟨h3010, hF⟩ | ⟨h3010, hF⟩
         ·refine Wk.condT rfl h3010 ?_
          refine Wk.region <| Wo.od (o_fa (r := ptr b12 1) rfl (fa25_1 _ _)) rfl ?_
          refine Wo.od (o_ld (k := 3) t23 rfl rfl rfl) rfl ?_
          refine Wo.od (o_mv rfl) rfl ?_
          refine Wo.od (o_mv rfl) rfl ?_
          refine Wo.od (o_bd rfl z26 rfl (bd_s bs26 rfl rfl rfl)) rfl ?_
          refine Wo.x (o_bs (es := ([(v1018, v2356)] : List (Int × Int)).map (eP (eI .i64) (eI .i64))) s23 rfl (bs_c s23 z26 rfl rfl) rfl rfl) gn rfl fun b3011 => ?_
          obtain ⟨h3012, hF⟩ := gd_some hF
          refine Wo.x (o_apl (k := 5) (k2 := 0) (xs := (l2353 : List (Int × Int))) (ys := ([(v1018, v2356)] : List (Int × Int))) (enP (enI .i64) (enI .i64)) s23 ⟨_, u23⟩ rfl rfl rfl (.arr _ _ _ _ _) h3012) gn rfl fun a3013 => ?_
          refine Wo.od (o_fa (r := ptr b12 1) rfl (fa25_1 _ _)) rfl ?_
          refine Wo.o0 (o_st (k := 4) t23 rfl rfl rfl rfl rfl) ?_
          refine Wo.nil <| At.bn ?_
          cases hF
          exact At.en a3013 rfl (sc rfl (sc rfl (sc rfl (sc rfl (sc rfl (sc rfl (sc rfl sn))))))) (Turn.picks [1, 2, 3, 4, 5] rfl rfl)
         ·refine Wk.condF rfl h3010 ?_
          refine Wk.skip <| At.bn ?_
          cases hF
          exact At.en a2354 rfl (sc rfl (sc rfl (sc rfl (sc rfl (sc rfl (sc rfl (sc rfl sn))))))) (Turn.picks [0, 1, 2, 3, 4] rfl rfl)
     ·clear h3014
      obtain ⟨l2851, v2853⟩ := r3015
      rintro a2852
      refine At.tn <| Wk.region <| Wo.od (o_mv rfl) rfl ?_
      refine Wo.od (o_bi rfl rfl (bin_add _ _ _)) rfl ?_
      refine Wo.od (o_as rfl) rfl ?_
      refine Wo.nil ?_
      cases hF
      exact At.en a2852 rfl (sc rfl (sc rfl (sc rfl (sc rfl (sc rfl (sc rfl (sc rfl sn))))))) (Turn.picks [0, 1, 2, 3, 4] rfl rfl)
    ·refine Wk.condF rfl h2690 ?_
     refine Wk.exit <| At.te ?_
     cases hF
     exact At.en a2354 rfl (sc rfl (sc rfl (sc rfl (sc rfl (sc rfl (sc rfl sn)))))) (Turn.picks [0, 1, 2, 3, 4] rfl rfl)
   ·clear h3016
    obtain ⟨l2687, v2689⟩ := r3017
    rintro a2688
    refine At.be <| At.bn <| At.tn <| Wk.region <| Wo.od (o_mv rfl) rfl ?_
    refine Wo.od (o_bi rfl rfl (bin_add _ _ _)) rfl ?_
    refine Wo.od (o_as rfl) rfl ?_
    refine Wo.nil ?_
    cases hF
    exact At.en a2688 rfl (sc rfl (sc rfl (sc rfl (sc rfl (sc rfl (sc rfl sn)))))) (Turn.picks [0, 1, 2, 3, 4] rfl rfl)
  ·refine Wk.condF rfl h2022 ?_
   refine Wk.exit <| At.te ?_
   cases hF
   exact At.en a1016 rfl (sc rfl (sc rfl sn)) (Turn.picks [2, 3, 4] rfl rfl)
 ·clear h3018
  rintro a2021
  refine At.be <| At.tn <| Wk.seq <| Wk.region <| Wo.od (o_ld (k := 1) t25 rfl rfl rfl) rfl ?_
  refine Wo.o0 (o_st (k := 0) t25 rfl rfl rfl rfl rfl) ?_
  refine Wo.nil <| At.tn <| Wk.ret ?_
  cases hF
  exact At.ret (.cell (k := 0) t25 rfl rfl rfl .nil) fun m' hm => ⟨(a2021, l2020.length), rfl, (Turn.picks [2] rfl rfl) m' hm⟩
theorem f65_ok (n : Nat) (x1 : Nat) (x2 : Nat) (x3 : Int) (x4 : Int) (x5 : Int) (x6 : Int) (l7 : List (Int × Int)) (a8 : Option Addr) (c9 : Nat) (r : Int × List (Int × Int)) (hF : F65 n x1 x2 x3 x4 x5 x6 l7 = some r) (m : AMem) (h10 : Rd m a8 c9 2 l7.length (l7.map (eP (eI .i64) (eI .i64)))) :
  CallA E18w 65 [.agg #[.int .u8 ((x1 : Nat) : Int), .int .u8 ((x2 : Nat) : Int), .int .i64 x3, .int .i64 x4, .int .i64 x5], .agg #[.int .i64 x6, .slice a8 l7.length c9]] m (fun v m' => ∃ x : Option Addr × Nat, v = .agg #[.int .i64 r.1, .slice x.1 x.2 x.2] ∧ Hp m m' [.sl x.1 2 x.2 (r.2.map (eP (eI .i64) (eI .i64)))]) := by
 unfold F65 at hF
 refine call_wk (m0 := m) (ps := [.rd a8 c9 2 l7.length (l7.map (eP (eI .i64) (eI .i64)))]) (N := 145) (rs := [.cell 4 25]) rfl Tryd.func65 rfl rfl rfl ((Hp.start m).inn rfl h10) ?_
 refine Wk.seq <| Wk.region <| Wo.x (o_bx rfl) gn rfl fun b11 => ?_
 refine Wo.x (o_bx rfl) gn rfl fun b12 => ?_
 refine Wo.x (o_al z25 rfl) gn rfl fun b13 => ?_
 refine Wo.nil <| At.tn <| Wk.seq <| Wk.region <| Wo.od (o_fa (r := ptr b12 1) rfl (fa25_1 _ _)) rfl ?_
 refine Wo.od (o_ld (k := 1) t23 rfl rfl rfl) rfl ?_
 refine Wo.od (o_fa (r := ptr b12 1) rfl (fa25_1 _ _)) rfl ?_
 refine Wo.od (o_ld (k := 1) t23 rfl rfl rfl) rfl ?_
 refine Wo.od (o_ln (k := 3) u23 rfl rfl (.inl rfl)) rfl ?_
 refine Wo.od (o_bu rfl rfl (bu_mi _ _)) rfl ?_
 obtain ⟨h14, hF⟩ := gd_some hF
 refine Wo.x (o_srl (k := 3) (lo := 0) (hi := mi (l7.length : Int) (210 : Int)) s23 rfl rfl rfl rfl h14 (.inl ⟨rfl, rfl⟩) (.inr ⟨_, rfl⟩)) gn rfl ?_
 rintro ⟨a15, c16⟩
 obtain ⟨l18, h17, hF⟩ := ob_some hF
 refine Wo.x (o_cl rfl rfl (fun m hm => f26_ok n ((l7.drop (0 : Int).toNat).take ((mi (l7.length : Int) (210 : Int) : Int).toNat - (0 : Int).toNat)) a15 c16 _ h17 m (hm.rd (k := 0) rfl (.rd _ _ _ _ _))) fun _ => rfl) gn rfl ?_
 rintro ⟨a19, n20⟩
 refine Wo.len (k := 0) (xs := l18) rfl ?_
 rintro rfl
 refine Wo.od (o_fa (r := ptr b12 1) rfl (fa25_1 _ _)) rfl ?_
 refine Wo.o0 (o_st (k := 3) t23 rfl rfl rfl rfl rfl) ?_
 refine Wo.nil <| At.tn <| Wk.seq <| Wk.region <| Wo.od (o_fa (r := ptr b12 1) rfl (fa25_1 _ _)) rfl ?_
 refine Wo.od (o_ld (k := 3) t23 rfl rfl rfl) rfl ?_
 refine Wo.od (o_ln (k := 0) u23 rfl rfl (.inl rfl)) rfl ?_
 refine Wo.od (o_as rfl) rfl ?_
 refine Wo.nil <| At.tn <| Wk.seq <| Wk.region <| Wo.od (o_fa (r := ptr b11 1) rfl (fa57_1 _ _)) rfl ?_
 refine Wo.od (o_ld (k := 4) t5 rfl rfl rfl) rfl ?_
 refine Wo.od (o_cv rfl (cv_i (by rw [u5]; rfl) u3)) rfl ?_
 refine Wo.od (o_mv rfl) rfl ?_
 refine Wo.od (o_bi rfl rfl (bin_add _ _ _)) rfl ?_
 obtain ⟨h21, hF⟩ := gd_some hF
 obtain ⟨y22, h23, hF⟩ := ob_some hF
 refine Wo.od (o_bi rfl rfl ((ib_rem _ _ h21).trans (cI h23))) rfl ?_
 refine Wo.od (o_as rfl) rfl ?_
 refine Wo.nil <| At.tn <| Wk.seq ?_
 obtain ⟨r493, h492, hF⟩ := ob_some hF
 refine Wk.cut (G := (fun (r : Int × List (Int × Int) × Nat) (g : Option Addr) => match r, g with | (v256, l257, n259), a258 => ⟨.normal, [(3, ptr b12 0), (4, ptr b13 0)], [.obj b12 (.cells [.int .i64 v256, .slice a258 n259 n259] .own), .sl a258 2 n259 (l257.map (eP (eI .i64) (eI .i64))), .obj b13 (.cells [.int .i64 0, .slice none 0 0] .own)]⟩) r493) ?_ ?_
 ·clear hF
  revert r493
  intro r hF
  refine Wk.seq <| Wk.region <| Wo.od (o_fa (r := ptr b11 0) rfl (fa57_0 _ _)) rfl ?_
  refine Wo.od (o_ld (k := 4) t5 rfl rfl rfl) rfl ?_
  refine Wo.od (o_bi rfl rfl (ub_rem _ _ (by decide))) rfl ?_
  refine Wo.nil <| At.tn <| Wk.block <| Wk.seq <| Wk.region <| Wo.od (o_bi rfl rfl (ub_eql _ _)) rfl ?_
  refine Wo.od (o_as rfl) rfl ?_
  refine Wo.nil <| At.tn ?_
  rcases br_some hF with ⟨h260, hF⟩ | ⟨h260, hF⟩
  ·refine Wk.condT rfl h260 ?_
   refine Wk.region <| Wo.od (o_fa (r := ptr b11 2) rfl (fa57_2 _ _)) rfl ?_
   refine Wo.od (o_ld (k := 4) t3 rfl rfl rfl) rfl ?_
   refine Wo.od (o_fa (r := ptr b12 0) rfl (fa25_0 _ _)) rfl ?_
   refine Wo.o0 (o_st (k := 3) t3 rfl rfl rfl rfl rfl) ?_
   refine Wo.nil <| At.bn ?_
   cases hF
   exact At.en a19 rfl (sc rfl (sc rfl sn)) (Turn.picks [3, 0, 2] rfl rfl)
  ·refine Wk.condF rfl h260 ?_
   refine Wk.seq <| Wk.region <| Wo.od (o_bi rfl rfl (ub_eql _ _)) rfl ?_
   refine Wo.od (o_as rfl) rfl ?_
   refine Wo.nil <| At.tn ?_
   rcases br_some hF with ⟨h261, hF⟩ | ⟨h261, hF⟩
   ·refine Wk.condT rfl h261 ?_
    refine Wk.region <| Wo.od (o_fa (r := ptr b12 1) rfl (fa25_1 _ _)) rfl ?_
    refine Wo.od (o_ld (k := 3) t23 rfl rfl rfl) rfl ?_
    refine Wo.od (o_mv rfl) rfl ?_
    refine Wo.od (o_fa (r := ptr b11 3) rfl (fa57_3 _ _)) rfl ?_
    refine Wo.od (o_ld (k := 4) t26 rfl rfl rfl) rfl ?_
    refine Wo.x (o_bs (es := ([(x4, x5)] : List (Int × Int)).map (eP (eI .i64) (eI .i64))) s23 rfl (bs_c s23 z26 rfl rfl) rfl rfl) gn rfl fun b262 => ?_
    obtain ⟨l263, h264, hF⟩ := ob_some hF
    refine Wo.x (o_cs (α := Option Addr × Nat) (V := fun y => .slice y.1 y.2 y.2) (N := fun y => pset [.arr b262 2 1 (([(x4, x5)]).map (eP (eI .i64) (eI .i64))) .own, .sl a19 2 l18.length (l18.map (eP (eI .i64) (eI .i64))), .rd a15 c16 2 (((l7.drop (0 : Int).toNat).take ((mi (l7.length : Int) (210 : Int) : Int).toNat - (0 : Int).toNat)).length) (((l7.drop (0 : Int).toNat).take ((mi (l7.length : Int) (210 : Int) : Int).toNat - (0 : Int).toNat)).map (eP (eI .i64) (eI .i64))), .obj b13 (.cells [.int .i64 0, .slice none 0 0] .own), .obj b12 (.cells [.int .i64 x6, .slice a19 l18.length l18.length] .own), .obj b11 (.cells [.int .u8 ((x1 : Nat) : Int), .int .u8 ((x2 : Nat) : Int), .int .i64 x3, .int .i64 x4, .int .i64 x5] .own), .rd a8 c9 2 l7.length (l7.map (eP (eI .i64) (eI .i64)))] 1 (.sl y.1 2 y.2 (l263.map (eP (eI .i64) (eI .i64))))) rfl rfl (fun m hm => f82_use n hm (k := 1) rfl (k2 := 0) rfl rfl h264)) gn rfl ?_
    rintro ⟨a265, n266⟩
    refine Wo.len (k := 1) (xs := l263) rfl ?_
    rintro rfl
    refine Wo.od (o_fa (r := ptr b12 1) rfl (fa25_1 _ _)) rfl ?_
    refine Wo.o0 (o_st (k := 4) t23 rfl rfl rfl rfl rfl) ?_
    refine Wo.nil <| At.bn ?_
    cases hF
    exact At.en a265 rfl (sc rfl (sc rfl sn)) (Turn.picks [4, 1, 3] rfl rfl)
   ·refine Wk.condF rfl h261 ?_
    refine Wk.seq <| Wk.region <| Wo.od (o_bi rfl rfl (ub_eql _ _)) rfl ?_
    refine Wo.od (o_as rfl) rfl ?_
    refine Wo.nil <| At.tn ?_
    rcases br_some hF with ⟨h267, hF⟩ | ⟨h267, hF⟩
    ·refine Wk.condT rfl h267 ?_
     refine Wk.seq <| Wk.region <| Wo.od (o_mv rfl) rfl ?_
     refine Wo.od (o_mv rfl) rfl ?_
     refine Wo.od (o_bi rfl rfl (bin_lss _ _ _)) rfl ?_
     refine Wo.nil <| At.tn ?_
     rcases br_some hF with ⟨h268, hF⟩ | ⟨h268, hF⟩
     ·refine Wk.condT rfl h268 ?_
      refine Wk.region <| Wo.od (o_fa (r := ptr b12 1) rfl (fa25_1 _ _)) rfl ?_
      refine Wo.od (o_ld (k := 3) t23 rfl rfl rfl) rfl ?_
      refine Wo.od (o_mv rfl) rfl ?_
      refine Wo.od (o_mv rfl) rfl ?_
      refine Wo.od (o_bi rfl rfl (bin_add _ _ _)) rfl ?_
      obtain ⟨l269, h270, hF⟩ := ob_some hF
      refine Wo.x (o_cs (α := Option Addr × Nat) (V := fun y => .slice y.1 y.2 y.2) (N := fun y => pset [.sl a19 2 l18.length (l18.map (eP (eI .i64) (eI .i64))), .rd a15 c16 2 (((l7.drop (0 : Int).toNat).take ((mi (l7.length : Int) (210 : Int) : Int).toNat - (0 : Int).toNat)).length) (((l7.drop (0 : Int).toNat).take ((mi (l7.length : Int) (210 : Int) : Int).toNat - (0 : Int).toNat)).map (eP (eI .i64) (eI .i64))), .obj b13 (.cells [.int .i64 0, .slice none 0 0] .own), .obj b12 (.cells [.int .i64 x6, .slice a19 l18.length l18.length] .own), .obj b11 (.cells [.int .u8 ((x1 : Nat) : Int), .int .u8 ((x2 : Nat) : Int), .int .i64 x3, .int .i64 x4, .int .i64 x5] .own), .rd a8 c9 2 l7.length (l7.map (eP (eI .i64) (eI .i64)))] 0 (.sl y.1 2 y.2 (l269.map (eP (eI .i64) (eI .i64))))) rfl rfl (fun m hm => f49_use n hm (k := 0) rfl h270)) gn rfl ?_
      rintro ⟨a271, n272⟩
      refine Wo.len (k := 0) (xs := l269) rfl ?_
      rintro rfl
      refine Wo.od (o_fa (r := ptr b12 1) rfl (fa25_1 _ _)) rfl ?_
      refine Wo.o0 (o_st (k := 3) t23 rfl rfl rfl rfl rfl) ?_
      refine Wo.nil <| At.bn ?_
      cases hF
      exact At.en a271 rfl (sc rfl (sc rfl sn)) (Turn.picks [3, 0, 2] rfl rfl)
     ·refine Wk.condF rfl h268 ?_
      refine Wk.skip <| At.bn ?_
      cases hF
      exact At.en a19 rfl (sc rfl (sc rfl sn)) (Turn.picks [3, 0, 2] rfl rfl)
    ·refine Wk.condF rfl h267 ?_
     refine Wk.seq <| Wk.region <| Wo.od (o_bi rfl rfl (ub_eql _ _)) rfl ?_
     refine Wo.od (o_as rfl) rfl ?_
     refine Wo.nil <| At.tn ?_
     rcases br_some hF with ⟨h273, hF⟩ | ⟨h273, hF⟩
     ·refine Wk.condT rfl h273 ?_
      refine Wk.seq <| Wk.region <| Wo.od (o_mv rfl) rfl ?_
      refine Wo.od (o_mv rfl) rfl ?_
      refine Wo.od (o_bi rfl rfl (bin_lss _ _ _)) rfl ?_
      refine Wo.nil <| At.tn ?_
      rcases br_some hF with ⟨h274, hF⟩ | ⟨h274, hF⟩
      ·refine Wk.condT rfl h274 ?_
       refine Wk.drawc (prs := [(4, 20)]) (by kernel_rfl) ?_
       refine Wn.od (o_fa (r := ptr b12 1) rfl (fa25_1 _ _)) rfl ?_
       refine Wn.od (o_ld (k := 3) t23 rfl rfl rfl) rfl ?_
       refine Wn.od (o_mv rfl) rfl ?_
       refine Wn.od (o_fa (r := ptr b12 1) rfl (fa25_1 _ _)) rfl ?_
       refine Wn.odr rfl (o_ld (k := 3) t23 rfl rfl rfl) rfl ?_
       refine Wn.od (o_mv rfl) rfl ?_
       refine Wn.od (o_fa (r := ptr b12 1) rfl (fa25_1 _ _)) rfl ?_
       refine Wn.od (o_ld (k := 3) t23 rfl rfl rfl) rfl ?_
       refine Wn.od (o_mv rfl) rfl ?_
       obtain ⟨h275, hF⟩ := gd_some hF
       replace h275 := inB_some h275
       refine Wn.open (k := 0) rfl (pos_of h275) ?_
       rintro b276 tg277 rfl h278
       refine Wn.og (o_ixa s23 rfl rfl h275) gn rfl ?_
       refine Wn.od (o_ia (r := ptr b276 (y22.toNat * 2 + 1)) rfl rfl (ia_c ar26 (i := 1) (by decide))) rfl ?_
       obtain ⟨⟨x279, x280⟩, h281, hF⟩ := ob_some hF
       refine Wn.od (o_lda (k := 0) t3 rfl rfl (map_at h281) rfl rfl) rfl ?_
       refine Wn.od (o_fa (r := ptr b12 1) rfl (fa25_1 _ _)) rfl ?_
       refine Wn.od (o_ld (k := 3) t23 rfl rfl rfl) rfl ?_
       refine Wn.od (o_mv rfl) rfl ?_
       obtain ⟨h282, hF⟩ := gd_some hF
       replace h282 := inB_some h282
       refine Wn.og (o_ixa s23 rfl rfl h282) gn rfl ?_
       refine Wn.od (o_ia (r := ptr b276 (y22.toNat * 2 + 0)) rfl rfl (ia_c ar26 (i := 0) (by decide))) rfl ?_
       refine Wn.od (o_lda (k := 0) t3 rfl rfl (map_at h281) rfl rfl) rfl ?_
       obtain ⟨h283, hF⟩ := gd_some hF
       replace h283 := inB_some h283
       refine Wn.og (o_ixa s23 rfl rfl h283) gn rfl ?_
       refine Wn.od (o_ia (r := ptr b276 (y22.toNat * 2 + 0)) rfl rfl (ia_c ar26 (i := 0) (by decide))) rfl ?_
       refine Wn.o0w rfl (o_stl (k := 0) (x1 := (x279, x280)) (x2 := (x280, x280)) t3 rfl rfl rfl h281 rfl) ?_
       obtain ⟨h285, hF⟩ := gd_some hF
       replace h285 := inB_some h285
       refine Wn.og (o_ixa s23 rfl rfl h285) gn rfl ?_
       refine Wn.od (o_ia (r := ptr b276 (y22.toNat * 2 + 1)) rfl rfl (ia_c ar26 (i := 1) (by decide))) rfl ?_
       obtain ⟨⟨x286, x287⟩, h288, hF⟩ := ob_some hF
       refine Wn.o0 (o_stl (k := 0) (x1 := (x286, x287)) (x2 := (x286, x279)) t3 rfl rfl rfl h288 rfl) ?_
       refine Wn.nil (fun m hm => (OkP.rw rfl rfl rfl (hm.ne (i := 3) (j := 0) rfl rfl rfl rfl (by decide) rfl) OkP.nil)) ?_
       refine At.bn ?_
       cases hF
       exact At.en (some ⟨b276, 0, none⟩) rfl (sc rfl (sc rfl sn)) (Turn.trans (Turn.close (k := 0) rfl) (Turn.picks [3, 0, 2] rfl rfl))
      ·refine Wk.condF rfl h274 ?_
       refine Wk.skip <| At.bn ?_
       cases hF
       exact At.en a19 rfl (sc rfl (sc rfl sn)) (Turn.picks [3, 0, 2] rfl rfl)
     ·refine Wk.condF rfl h273 ?_
      refine Wk.seq <| Wk.region <| Wo.od (o_bi rfl rfl (ub_eql _ _)) rfl ?_
      refine Wo.od (o_as rfl) rfl ?_
      refine Wo.nil <| At.tn ?_
      rcases br_some hF with ⟨h290, hF⟩ | ⟨h290, hF⟩
      ·refine Wk.condT rfl h290 ?_
       refine Wk.seq <| Wk.region <| Wo.od (o_mv rfl) rfl ?_
       refine Wo.od (o_mv rfl) rfl ?_
       refine Wo.od (o_bi rfl rfl (bin_lss _ _ _)) rfl ?_
       refine Wo.nil <| At.tn ?_
       rcases br_some hF with ⟨h291, hF⟩ | ⟨h291, hF⟩
       ·refine Wk.condT rfl h291 ?_
        refine Wk.draw (by kernel_rfl) ?_
        refine Wo.od (o_fa (r := ptr b12 1) rfl (fa25_1 _ _)) rfl ?_
        refine Wo.od (o_ld (k := 3) t23 rfl rfl rfl) rfl ?_
        refine Wo.od (o_mv rfl) rfl ?_
        refine Wo.od (o_fa (r := ptr b12 1) rfl (fa25_1 _ _)) rfl ?_
        refine Wo.od (o_ld (k := 3) t23 rfl rfl rfl) rfl ?_
        refine Wo.od (o_mv rfl) rfl ?_
        obtain ⟨h292, hF⟩ := gd_some hF
        replace h292 := inB_some h292
        refine Wo.open (k := 0) rfl (pos_of h292) ?_
        rintro b293 tg294 rfl h295
        refine Wo.og (o_ixa s23 rfl rfl h292) gn rfl ?_
        obtain ⟨⟨x296, x297⟩, h298, hF⟩ := ob_some hF
        refine Wo.od (o_lda (k := 0) t26 rfl rfl (map_at h298) rfl rfl) rfl ?_
        refine Wo.x (o_bs (es := ([(x296, x297)] : List (Int × Int)).map (eP (eI .i64) (eI .i64))) s23 rfl (bs_c s23 z26 rfl rfl) rfl rfl) gn rfl fun b299 => ?_
        obtain ⟨l300, h301, hF⟩ := ob_some hF
        refine Wo.turn (Turn.close (k := 1) rfl) ?_
        refine Wo.x (o_cs (α := Option Addr × Nat) (V := fun y => .slice y.1 y.2 y.2) (N := fun y => pset [.arr b299 2 1 (([(x296, x297)]).map (eP (eI .i64) (eI .i64))) .own, .sl (some ⟨b293, 0, none⟩) 2 l18.length (l18.map (eP (eI .i64) (eI .i64))), .rd a15 c16 2 (((l7.drop (0 : Int).toNat).take ((mi (l7.length : Int) (210 : Int) : Int).toNat - (0 : Int).toNat)).length) (((l7.drop (0 : Int).toNat).take ((mi (l7.length : Int) (210 : Int) : Int).toNat - (0 : Int).toNat)).map (eP (eI .i64) (eI .i64))), .obj b13 (.cells [.int .i64 0, .slice none 0 0] .own), .obj b12 (.cells [.int .i64 x6, .slice (some ⟨b293, 0, none⟩) l18.length l18.length] .own), .obj b11 (.cells [.int .u8 ((x1 : Nat) : Int), .int .u8 ((x2 : Nat) : Int), .int .i64 x3, .int .i64 x4, .int .i64 x5] .own), .rd a8 c9 2 l7.length (l7.map (eP (eI .i64) (eI .i64)))] 1 (.sl y.1 2 y.2 (l300.map (eP (eI .i64) (eI .i64))))) rfl rfl (fun m hm => f82_use n hm (k := 1) rfl (k2 := 0) rfl rfl h301)) gn rfl ?_
        rintro ⟨a302, n303⟩
        refine Wo.len (k := 1) (xs := l300) rfl ?_
        rintro rfl
        refine Wo.od (o_fa (r := ptr b12 1) rfl (fa25_1 _ _)) rfl ?_
        refine Wo.o0 (o_st (k := 4) t23 rfl rfl rfl rfl rfl) ?_
        refine Wo.nil <| At.bn ?_
        cases hF
        exact At.en a302 rfl (sc rfl (sc rfl sn)) (Turn.picks [4, 1, 3] rfl rfl)
       ·refine Wk.condF rfl h291 ?_
        refine Wk.skip <| At.bn ?_
        cases hF
        exact At.en a19 rfl (sc rfl (sc rfl sn)) (Turn.picks [3, 0, 2] rfl rfl)
      ·refine Wk.condF rfl h290 ?_
       refine Wk.seq <| Wk.region <| Wo.od (o_bi rfl rfl (ub_eql _ _)) rfl ?_
       refine Wo.od (o_as rfl) rfl ?_
       refine Wo.nil <| At.tn ?_
       rcases br_some hF with ⟨h304, hF⟩ | ⟨h304, hF⟩
       ·refine Wk.condT rfl h304 ?_
        refine Wk.region <| Wo.od (o_fa (r := ptr b12 0) rfl (fa25_0 _ _)) rfl ?_
        refine Wo.od (o_ld (k := 3) t3 rfl rfl rfl) rfl ?_
        refine Wo.od (o_bu rfl rfl (bu_ma _ _)) rfl ?_
        refine Wo.od (o_bi rfl rfl (ib_rem _ _ (by decide))) rfl ?_
        refine Wo.od (o_bi rfl rfl (bin_add _ _ _)) rfl ?_
        refine Wo.od (o_fa (r := ptr b12 0) rfl (fa25_0 _ _)) rfl ?_
        refine Wo.o0 (o_st (k := 3) t3 rfl rfl rfl rfl rfl) ?_
        refine Wo.nil <| At.bn ?_
        cases hF
        exact At.en a19 rfl (sc rfl (sc rfl sn)) (Turn.picks [3, 0, 2] rfl rfl)
       ·refine Wk.condF rfl h304 ?_
        refine Wk.seq <| Wk.region <| Wo.od (o_bi rfl rfl (ub_eql _ _)) rfl ?_
        refine Wo.od (o_as rfl) rfl ?_
        refine Wo.nil <| At.tn ?_
        rcases br_some hF with ⟨h305, hF⟩ | ⟨h305, hF⟩
        ·refine Wk.condT rfl h305 ?_
         refine Wk.seq <| Wk.region <| Wo.od (o_fa (r := ptr b12 0) rfl (fa25_0 _ _)) rfl ?_
         refine Wo.o0 (o_st (k := 3) t3 rfl rfl rfl rfl rfl) ?_
         refine Wo.od (o_fa (r := ptr b12 1) rfl (fa25_1 _ _)) rfl ?_
         refine Wo.o0 (o_st (k := 3) t23 rfl rfl rfl rfl rfl) ?_
         refine Wo.nil <| At.tn <| Wk.seq <| Wk.region <| Wo.od (o_mv rfl) rfl ?_
         refine Wo.nil <| At.tn <| Wk.block ?_
         obtain ⟨l430, h490, hF⟩ := ob_some hF
         refine Wk.cut (G := (fun (r : List (Int × Int)) (g : Option Addr) => match r, g with | l430, a431 => ⟨(.exit 1), [(3, ptr b12 0), (4, ptr b13 0)], [.obj b12 (.cells [.int .i64 64, .slice a431 l430.length l430.length] .own), .sl a431 2 l430.length (l430.map (eP (eI .i64) (eI .i64))), .obj b13 (.cells [.int .i64 0, .slice none 0 0] .own)]⟩) l430) ?_ ?_
         ·refine Wk.weak (fs' := [(2, ptr b11 0), (3, ptr b12 0), (4, ptr b13 0), (112, .int .i64 0)]) (ps' := [.obj b11 (.cells [.int .u8 ((x1 : Nat) : Int), .int .u8 ((x2 : Nat) : Int), .int .i64 x3, .int .i64 x4, .int .i64 x5] .own), .obj b12 (.cells [.int .i64 64, .slice none ([] : List (Int × Int)).length ([] : List (Int × Int)).length] .own), .sl none 2 ([] : List (Int × Int)).length (([] : List (Int × Int)).map (eP (eI .i64) (eI .i64))), .obj b13 (.cells [.int .i64 0, .slice none 0 0] .own)]) (sc rfl (sc rfl (sc rfl (sc rfl sn)))) (Turn.trans (Turn.nil 2 rfl) (Turn.picks [5, 4, 0, 3] rfl rfl)) ?_
          refine Wk.loop (σ := List (Int × Int) × Int) (ρ := List (Int × Int)) (γ := Option Addr) (δ := fun _ => Option Addr) _ (fun (s : List (Int × Int) × Int) (g : Option Addr) => match s, g with | (l366, v368), a367 => ⟨.normal, [(2, ptr b11 0), (3, ptr b12 0), (4, ptr b13 0), (112, .int .i64 v368)], [.obj b11 (.cells [.int .u8 ((x1 : Nat) : Int), .int .u8 ((x2 : Nat) : Int), .int .i64 x3, .int .i64 x4, .int .i64 x5] .own), .obj b12 (.cells [.int .i64 64, .slice a367 l366.length l366.length] .own), .sl a367 2 l366.length (l366.map (eP (eI .i64) (eI .i64))), .obj b13 (.cells [.int .i64 0, .slice none 0 0] .own)]⟩) (fun (r : List (Int × Int)) (g : Option Addr) => match r, g with | l430, a431 => ⟨(.exit 1), [(3, ptr b12 0), (4, ptr b13 0)], [.obj b12 (.cells [.int .i64 64, .slice a431 l430.length l430.length] .own), .sl a431 2 l430.length (l430.map (eP (eI .i64) (eI .i64))), .obj b13 (.cells [.int .i64 0, .slice none 0 0] .own)]⟩) ?_ (fun _ _ => rfl) (fun r d => by intro e; cases e) _ _ _ h490 none
          clear hF h490
          rintro ⟨l366, v368⟩ a367 r hF
          unfold L65_2 at hF
          refine Wk.seq <| Wk.region <| Wo.od (o_bi rfl rfl (bin_lss _ _ _)) rfl ?_
          refine Wo.nil <| At.tn <| Wk.seq ?_
          rcases br_some hF with ⟨h432, hF⟩ | ⟨h432, hF⟩
          ·refine Wk.condT rfl h432 ?_
           refine Wk.skip <| At.tn <| Wk.seq <| Wk.block <| Wk.seq <| Wk.region <| Wo.od (o_mv rfl) rfl ?_
           refine Wo.od (o_as rfl) rfl ?_
           refine Wo.nil <| At.tn <| Wk.seq <| Wk.region <| Wo.od (o_mv rfl) rfl ?_
           refine Wo.od (o_bi rfl rfl (bin_add _ _ _)) rfl ?_
           refine Wo.od (o_as rfl) rfl ?_
           refine Wo.nil <| At.tn <| Wk.block ?_
           obtain ⟨l471, h488, hF⟩ := ob_some hF
           refine Wk.cut (G := (fun (r : List (Int × Int)) (g : Option Addr) => match r, g with | l471, a472 => ⟨(.exit 3), [(2, ptr b11 0), (3, ptr b12 0), (4, ptr b13 0), (112, .int .i64 v368)], [.obj b11 (.cells [.int .u8 ((x1 : Nat) : Int), .int .u8 ((x2 : Nat) : Int), .int .i64 x3, .int .i64 x4, .int .i64 x5] .own), .obj b12 (.cells [.int .i64 64, .slice a472 l471.length l471.length] .own), .sl a472 2 l471.length (l471.map (eP (eI .i64) (eI .i64))), .obj b13 (.cells [.int .i64 0, .slice none 0 0] .own)]⟩) l471) ?_ ?_
           ·refine Wk.weak (fs' := [(2, ptr b11 0), (3, ptr b12 0), (4, ptr b13 0), (7, .int .i64 v368), (8, .int .i64 (IntKind.wrap .i64 (v368 + 1))), (112, .int .i64 v368)]) (ps' := [.obj b11 (.cells [.int .u8 ((x1 : Nat) : Int), .int .u8 ((x2 : Nat) : Int), .int .i64 x3, .int .i64 x4, .int .i64 x5] .own), .obj b12 (.cells [.int .i64 64, .slice a367 l366.length l366.length] .own), .sl a367 2 l366.length (l366.map (eP (eI .i64) (eI .i64))), .obj b13 (.cells [.int .i64 0, .slice none 0 0] .own)]) (sc rfl (sc rfl (sc rfl (sc rfl (sc rfl (sc rfl sn)))))) (Turn.picks [0, 1, 2, 3] rfl rfl) ?_
            refine Wk.loop (σ := List (Int × Int) × Int) (ρ := List (Int × Int)) (γ := Option Addr) (δ := fun _ => Option Addr) _ (fun (s : List (Int × Int) × Int) (g : Option Addr) => match s, g with | (l450, v452), a451 => ⟨.normal, [(2, ptr b11 0), (3, ptr b12 0), (4, ptr b13 0), (7, .int .i64 v368), (8, .int .i64 v452), (112, .int .i64 v368)], [.obj b11 (.cells [.int .u8 ((x1 : Nat) : Int), .int .u8 ((x2 : Nat) : Int), .int .i64 x3, .int .i64 x4, .int .i64 x5] .own), .obj b12 (.cells [.int .i64 64, .slice a451 l450.length l450.length] .own), .sl a451 2 l450.length (l450.map (eP (eI .i64) (eI .i64))), .obj b13 (.cells [.int .i64 0, .slice none 0 0] .own)]⟩) (fun (r : List (Int × Int)) (g : Option Addr) => match r, g with | l471, a472 => ⟨(.exit 3), [(2, ptr b11 0), (3, ptr b12 0), (4, ptr b13 0), (112, .int .i64 v368)], [.obj b11 (.cells [.int .u8 ((x1 : Nat) : Int), .int .u8 ((x2 : Nat) : Int), .int .i64 x3, .int .i64 x4, .int .i64 x5] .own), .obj b12 (.cells [.int .i64 64, .slice a472 l471.length l471.length] .own), .sl a472 2 l471.length (l471.map (eP (eI .i64) (eI .i64))), .obj b13 (.cells [.int .i64 0, .slice none 0 0] .own)]⟩) ?_ (fun _ _ => rfl) (fun r d => by intro e; cases e) _ _ _ h488 a367
            clear hF h488
            rintro ⟨l450, v452⟩ a451 r hF
            unfold L65_1 at hF
            refine Wk.seq <| Wk.seq ?_
            obtain ⟨v480, h482, hF⟩ := ob_some hF
            refine Wk.cut (G := (fun (r : Bool) (g : Unit) => match r, g with | v480, _ => ⟨.normal, [(2, ptr b11 0), (3, ptr b12 0), (4, ptr b13 0), (7, .int .i64 v368), (8, .int .i64 v452), (112, .int .i64 v368), (132, .bool v480)], [.obj b11 (.cells [.int .u8 ((x1 : Nat) : Int), .int .u8 ((x2 : Nat) : Int), .int .i64 x3, .int .i64 x4, .int .i64 x5] .own), .obj b12 (.cells [.int .i64 64, .slice a451 l450.length l450.length] .own), .sl a451 2 l450.length (l450.map (eP (eI .i64) (eI .i64))), .obj b13 (.cells [.int .i64 0, .slice none 0 0] .own)]⟩) v480) ?_ ?_
            ·clear hF
             revert v480
             intro r hF
             refine Wk.region <| Wo.od (o_mv rfl) rfl ?_
             refine Wo.od (o_mv rfl) rfl ?_
             refine Wo.od (o_bi rfl rfl (bin_add _ _ _)) rfl ?_
             refine Wo.od (o_bu rfl rfl (bu_mi _ _)) rfl ?_
             refine Wo.od (o_bi rfl rfl (bin_lss _ _ _)) rfl ?_
             refine Wo.od (o_mv rfl) rfl ?_
             rcases br_some hF with ⟨h481, hF⟩ | ⟨h481, hF⟩
             ·refine Wo.og (o_fa (r := ptr b12 1) rfl (fa25_1 _ _)) (gg rfl rfl (eTT h481)) rfl ?_
              refine Wo.og (o_ld (k := 1) t23 rfl rfl rfl) (gg rfl rfl (eTT h481)) rfl ?_
              refine Wo.og (o_ln (k := 2) u23 rfl rfl (.inl rfl)) (gg rfl rfl (eTT h481)) rfl ?_
              refine Wo.og (o_fa (r := ptr b11 1) rfl (fa57_1 _ _)) (gg rfl rfl (eTT h481)) rfl ?_
              refine Wo.og (o_ld (k := 0) t5 rfl rfl rfl) (gg rfl rfl (eTT h481)) rfl ?_
              refine Wo.og (o_bi rfl rfl (ub_rem _ _ (by decide))) (gg rfl rfl (eTT h481)) rfl ?_
              refine Wo.og (o_cv rfl (cv_i (by rw [u5]; rfl) u3)) (gg rfl rfl (eTT h481)) rfl ?_
              refine Wo.og (o_bi rfl rfl (bin_add _ _ _)) (gg rfl rfl (eTT h481)) rfl ?_
              refine Wo.og (o_bi rfl rfl (bin_lss _ _ _)) (gg rfl rfl (eTT h481)) rfl ?_
              refine Wo.od (o_pt rfl h481 rfl) rfl ?_
              refine Wo.nil ?_
              cases hF
              exact At.en () rfl (sc rfl (sc rfl (sc rfl (sc rfl (sc rfl (sc rfl (sc rfl sn))))))) (Turn.picks [0, 1, 2, 3] rfl rfl)
             ·refine Wo.s (gg rfl rfl (eFT h481)) rfl ?_
              refine Wo.s (gg rfl rfl (eFT h481)) rfl ?_
              refine Wo.s (gg rfl rfl (eFT h481)) rfl ?_
              refine Wo.s (gg rfl rfl (eFT h481)) rfl ?_
              refine Wo.s (gg rfl rfl (eFT h481)) rfl ?_
              refine Wo.s (gg rfl rfl (eFT h481)) rfl ?_
              refine Wo.s (gg rfl rfl (eFT h481)) rfl ?_
              refine Wo.s (gg rfl rfl (eFT h481)) rfl ?_
              refine Wo.s (gg rfl rfl (eFT h481)) rfl ?_
              refine Wo.od (o_pf rfl h481 rfl) rfl ?_
              refine Wo.nil ?_
              cases hF
              exact At.en () rfl (sc rfl (sc rfl (sc rfl (sc rfl (sc rfl (sc rfl (sc rfl sn))))))) (Turn.picks [0, 1, 2, 3] rfl rfl)
            ·clear h482
             rintro ⟨⟩
             refine At.tn ?_
             rcases br_some hF with ⟨h484, hF⟩ | ⟨h484, hF⟩
             ·refine Wk.condT rfl h484 ?_
              refine Wk.skip <| At.tn <| Wk.seq <| Wk.block <| Wk.region <| Wo.od (o_fa (r := ptr b12 1) rfl (fa25_1 _ _)) rfl ?_
              refine Wo.od (o_ld (k := 1) t23 rfl rfl rfl) rfl ?_
              refine Wo.od (o_mv rfl) rfl ?_
              refine Wo.od (o_mv rfl) rfl ?_
              refine Wo.od (o_bd rfl z26 rfl (bd_s bs26 rfl rfl rfl)) rfl ?_
              refine Wo.x (o_bs (es := ([(v368, v452)] : List (Int × Int)).map (eP (eI .i64) (eI .i64))) s23 rfl (bs_c s23 z26 rfl rfl) rfl rfl) gn rfl fun b485 => ?_
              obtain ⟨h486, hF⟩ := gd_some hF
              refine Wo.x (o_apl (k := 3) (k2 := 0) (xs := (l450 : List (Int × Int))) (ys := ([(v368, v452)] : List (Int × Int))) (enP (enI .i64) (enI .i64)) s23 ⟨_, u23⟩ rfl rfl rfl (.arr _ _ _ _ _) h486) gn rfl fun a487 => ?_
              refine Wo.od (o_fa (r := ptr b12 1) rfl (fa25_1 _ _)) rfl ?_
              refine Wo.o0 (o_st (k := 2) t23 rfl rfl rfl rfl rfl) ?_
              refine Wo.nil <| At.bn <| At.tn <| Wk.region <| Wo.od (o_mv rfl) rfl ?_
              refine Wo.od (o_bi rfl rfl (bin_add _ _ _)) rfl ?_
              refine Wo.od (o_as rfl) rfl ?_
              refine Wo.nil ?_
              cases hF
              exact At.en a487 rfl (sc rfl (sc rfl (sc rfl (sc rfl (sc rfl (sc rfl sn)))))) (Turn.picks [1, 2, 3, 4] rfl rfl)
             ·refine Wk.condF rfl h484 ?_
              refine Wk.exit <| At.te ?_
              cases hF
              exact At.en a451 rfl (sc rfl (sc rfl (sc rfl (sc rfl sn)))) (Turn.picks [0, 1, 2, 3] rfl rfl)
           ·clear h488
            rintro a472
            refine At.be <| At.bn <| At.tn <| Wk.region <| Wo.od (o_bi rfl rfl (bin_add _ _ _)) rfl ?_
            refine Wo.od (o_mv rfl) rfl ?_
            refine Wo.nil ?_
            cases hF
            exact At.en a472 rfl (sc rfl (sc rfl (sc rfl (sc rfl sn)))) (Turn.picks [0, 1, 2, 3] rfl rfl)
          ·refine Wk.condF rfl h432 ?_
           refine Wk.exit <| At.te ?_
           cases hF
           exact At.en a367 rfl (sc rfl (sc rfl sn)) (Turn.picks [1, 2, 3] rfl rfl)
         ·clear h490
          rintro a431
          refine At.be <| At.bn ?_
          cases hF
          exact At.en a431 rfl (sc rfl (sc rfl sn)) (Turn.picks [0, 1, 2] rfl rfl)
        ·refine Wk.condF rfl h305 ?_
         refine Wk.skip <| At.bn ?_
         cases hF
         exact At.en a19 rfl (sc rfl (sc rfl sn)) (Turn.picks [3, 0, 2] rfl rfl)
 ·clear h492
  obtain ⟨v256, l257, n259⟩ := r493
  rintro a258
  refine At.tn <| Wk.seq <| Wk.region <| Wo.od (o_ld (k := 0) t25 rfl rfl rfl) rfl ?_
  refine Wo.o0 (o_st (k := 2) t25 rfl rfl rfl rfl rfl) ?_
  refine Wo.nil <| At.tn <| Wk.ret ?_
  cases hF
  exact At.ret (.cell (k := 2) t25 rfl rfl rfl .nil) fun m' hm => ⟨(a258, n259), rfl, (Turn.picks [1] rfl rfl) m' hm⟩
theorem f28_ok (n : Nat) (x1 : Nat) (x2 : Nat) (x3 : Nat) (l4 : List (Nat × Nat)) (x8 : Nat) (x9 : Nat) (x10 : Int) (x11 : Int) (x12 : Int) (x13 : Nat) (x14 : Nat) (x15 : Int) (x16 : Int) (x17 : Int) (a5 : Option Addr) (c6 : Nat) (r : Int × List (Int × Int) × Int × List (Int × Int) × Int × List (Int × Int)) (hF : F28 n x1 x2 x3 l4 x8 x9 x10 x11 x12 x13 x14 x15 x16 x17 = some r) (m : AMem) (h7 : Rd m a5 c6 2 l4.length (l4.map (eP (eN .u8) (eN .u8)))) :
  CallA E18w 28 [.agg #[.int .u8 ((x1 : Nat) : Int), .int .u8 ((x2 : Nat) : Int), .int .u16 ((x3 : Nat) : Int), .slice a5 l4.length c6], .agg #[.int .u8 ((x8 : Nat) : Int), .int .u8 ((x9 : Nat) : Int), .int .i64 x10, .int .i64 x11, .int .i64 x12, .int .u8 ((x13 : Nat) : Int), .int .u8 ((x14 : Nat) : Int), .int .i64 x15, .int .i64 x16, .int .i64 x17]] m (fun v m' => ∃ x : Option Addr × Nat × Option Addr × Nat × Option Addr × Nat, v = .agg #[.int .i64 r.1, .slice x.1 x.2.1 x.2.1, .int .i64 r.2.2.1, .slice x.2.2.1 x.2.2.2.1 x.2.2.2.1, .int .i64 r.2.2.2.2.1, .slice x.2.2.2.2.1 x.2.2.2.2.2 x.2.2.2.2.2] ∧ Hp m m' [.sl x.1 2 x.2.1 (r.2.1.map (eP (eI .i64) (eI .i64))), .sl x.2.2.1 2 x.2.2.2.1 (r.2.2.2.1.map (eP (eI .i64) (eI .i64))), .sl x.2.2.2.2.1 2 x.2.2.2.2.2 (r.2.2.2.2.2.map (eP (eI .i64) (eI .i64)))]) := by
 unfold F28 at hF
 refine call_wk (m0 := m) (ps := [.rd a5 c6 2 l4.length (l4.map (eP (eN .u8) (eN .u8)))]) (N := 20) (rs := [.cell 4 59]) rfl Tryd.func28 rfl rfl rfl ((Hp.start m).inn rfl h7) ?_
 refine Wk.seq <| Wk.region <| Wo.x (o_bx rfl) gn rfl fun b18 => ?_
 refine Wo.x (o_bx rfl) gn rfl fun b19 => ?_
 refine Wo.x (o_al z59 rfl) gn rfl fun b20 => ?_
 refine Wo.nil <| At.tn <| Wk.seq <| Wk.region <| Wo.od (o_ld (k := 2) t55 rfl rfl rfl) rfl ?_
 obtain ⟨⟨r22, l23⟩, h21, hF⟩ := ob_some hF
 refine Wo.x (o_cl rfl rfl (fun m hm => f40_ok n x1 x2 x3 l4 a5 c6 _ h21 m (hm.rd (k := 3) rfl (.rd _ _ _ _ _))) fun _ => rfl) gn rfl ?_
 rintro ⟨a24, n25⟩
 refine Wo.len (k := 0) (xs := l23) rfl ?_
 rintro rfl
 refine Wo.x (o_al z25 rfl) gn rfl fun b26 => ?_
 refine Wo.o0 (o_st (k := 0) t25 rfl rfl rfl rfl rfl) ?_
 refine Wo.nil <| At.tn <| Wk.seq <| Wk.region <| Wo.od (o_ia (r := ptr b19 0) rfl rfl (ia_c ar58 (i := 0) (by decide))) rfl ?_
 refine Wo.od (o_ld (k := 3) t57 rfl rfl rfl) rfl ?_
 refine Wo.od (o_ld (k := 0) t25 rfl rfl rfl) rfl ?_
 obtain ⟨⟨r28, l29⟩, h27, hF⟩ := ob_some hF
 refine Wo.x (o_cl rfl rfl (fun m hm => f65_ok n x8 x9 x10 x11 x12 r22 l23 a24 l23.length _ h27 m (hm.rd (k := 1) rfl (.sl _ _ _ _))) fun _ => rfl) gn rfl ?_
 rintro ⟨a30, n31⟩
 refine Wo.len (k := 0) (xs := l29) rfl ?_
 rintro rfl
 refine Wo.x (o_al z25 rfl) gn rfl fun b32 => ?_
 refine Wo.o0 (o_st (k := 0) t25 rfl rfl rfl rfl rfl) ?_
 refine Wo.nil <| At.tn <| Wk.seq <| Wk.drawc (prs := [(0, 5), (1, 5)]) (by kernel_rfl) ?_
 refine Wn.od (o_ld (k := 2) t25 rfl rfl rfl) rfl ?_
 refine Wn.od (o_ld (k := 0) t25 rfl rfl rfl) rfl ?_
 refine Wn.od (o_ia (r := ptr b19 5) rfl rfl (ia_c ar58 (i := 1) (by decide))) rfl ?_
 refine Wn.od (o_ld (k := 5) t57 rfl rfl rfl) rfl ?_
 refine Wn.od (o_ld (k := 0) t25 rfl rfl rfl) rfl ?_
 obtain ⟨⟨r34, l35⟩, h33, hF⟩ := ob_some hF
 refine Wn.c (o_ce rfl rfl (fun m hm => f65_ok n x13 x14 x15 x16 x17 r28 l29 a30 l29.length _ h33 m (hm.rd (k := 1) rfl (.sl _ _ _ _))) fun _ => rfl) gn rfl ?_
 rintro ⟨a36, n37⟩
 refine Wn.len (k := 0) (xs := l35) rfl ?_
 rintro rfl
 refine Wn.od (o_bd rfl z59 rfl (bd_s bs59 rfl rfl rfl)) rfl ?_
 refine Wn.o0 (o_st (k := 5) t59 rfl rfl rfl rfl rfl) ?_
 refine Wn.nil (fun m hm => OkP.all rfl) ?_
 refine At.tn <| Wk.ret ?_
 cases hF
 exact At.ret (.cell (k := 5) t59 rfl rfl rfl .nil) fun m' hm => ⟨(a24, l23.length, a30, l29.length, a36, l35.length), rfl, (Turn.picks [4, 2, 0] rfl rfl) m' hm⟩
theorem f94_ok (n : Nat) (x1 : Int)  (r : Bool) (hF : F94 n x1 = some r) (m : AMem)  :
  CallA E18w 94 [.int .i64 x1] m (fun v m' => ∃ x : Unit, v = .bool r ∧ Hp m m' []) := by
 unfold F94 at hF
 refine call_wk (m0 := m) (ps := []) (N := 6) (rs := [.tmp 2]) rfl Tryd.func94 rfl rfl rfl (Hp.start m) ?_
 refine Wk.seq <| Wk.region <| Wo.od (o_as rfl) rfl ?_
 refine Wo.nil <| At.tn <| Wk.seq <| Wk.region <| Wo.od (o_mv rfl) rfl ?_
 refine Wo.od (o_mv rfl) rfl ?_
 refine Wo.od (o_bi rfl rfl (ib_neq _ _)) rfl ?_
 refine Wo.od (o_as rfl) rfl ?_
 refine Wo.nil <| At.tn <| Wk.ret ?_
 cases hF
 exact At.ret (.tmp rfl .nil) fun m' hm => ⟨(), rfl, (Turn.picks [] rfl rfl) m' hm⟩
theorem f81_ok (n : Nat) (x1 : Int) (x2 : Int)  (r : Int) (hF : F81 n x1 x2 = some r) (m : AMem)  :
  CallA E18w 81 [.int .i64 x1, .int .i64 x2] m (fun v m' => ∃ x : Unit, v = .int .i64 r ∧ Hp m m' []) := by
 unfold F81 at hF
 refine call_wk (m0 := m) (ps := []) (N := 20) (rs := [.tmp 4]) rfl Tryd.func81 rfl rfl rfl (Hp.start m) ?_
 refine Wk.seq <| Wk.region <| Wo.od (o_as rfl) rfl ?_
 refine Wo.nil <| At.tn <| Wk.seq <| Wk.region <| Wo.od (o_mv rfl) rfl ?_
 obtain ⟨r4, h3, hF⟩ := ob_some hF
 refine Wo.x (o_cl rfl rfl (fun m hm => f94_ok n x1  _ h3 m ) fun _ => rfl) gn rfl ?_
 rintro ⟨⟩
 refine Wo.od (o_as rfl) rfl ?_
 refine Wo.nil <| At.tn <| Wk.seq <| Wk.region <| Wo.od (o_mv rfl) rfl ?_
 obtain ⟨r6, h5, hF⟩ := ob_some hF
 refine Wo.x (o_cl rfl rfl (fun m hm => f94_ok n x2  _ h5 m ) fun _ => rfl) gn rfl ?_
 rintro ⟨⟩
 refine Wo.od (o_as rfl) rfl ?_
 refine Wo.nil <| At.tn <| Wk.seq <| Wk.seq <| Wk.region <| Wo.od (o_mv rfl) rfl ?_
 refine Wo.nil <| At.tn ?_
 rcases br_some hF with ⟨h7, hF⟩ | ⟨h7, hF⟩
 ·refine Wk.condT rfl h7 ?_
  refine Wk.seq <| Wk.seq <| Wk.region <| Wo.od (o_mv rfl) rfl ?_
  refine Wo.nil <| At.tn ?_
  rcases br_some hF with ⟨h8, hF⟩ | ⟨h8, hF⟩
  ·refine Wk.condT rfl h8 ?_
   refine Wk.seq <| Wk.region <| Wo.od (o_as rfl) rfl ?_
   refine Wo.nil <| At.tn <| Wk.ret <| At.tr <| At.tr ?_
   cases hF
   exact At.ret (.tmp rfl .nil) fun m' hm => ⟨(), rfl, (Turn.picks [] rfl rfl) m' hm⟩
  ·refine Wk.condF rfl h8 ?_
   refine Wk.skip <| At.tn <| Wk.seq <| Wk.region <| Wo.od (o_as rfl) rfl ?_
   refine Wo.nil <| At.tn <| Wk.ret <| At.tr ?_
   cases hF
   exact At.ret (.tmp rfl .nil) fun m' hm => ⟨(), rfl, (Turn.picks [] rfl rfl) m' hm⟩
 ·refine Wk.condF rfl h7 ?_
  refine Wk.skip <| At.tn <| Wk.seq <| Wk.seq <| Wk.region <| Wo.od (o_mv rfl) rfl ?_
  refine Wo.nil <| At.tn ?_
  rcases br_some hF with ⟨h9, hF⟩ | ⟨h9, hF⟩
  ·refine Wk.condT rfl h9 ?_
   refine Wk.seq <| Wk.region <| Wo.od (o_as rfl) rfl ?_
   refine Wo.nil <| At.tn <| Wk.ret <| At.tr ?_
   cases hF
   exact At.ret (.tmp rfl .nil) fun m' hm => ⟨(), rfl, (Turn.picks [] rfl rfl) m' hm⟩
  ·refine Wk.condF rfl h9 ?_
   refine Wk.skip <| At.tn <| Wk.seq <| Wk.seq <| Wk.region <| Wo.od (o_mv rfl) rfl ?_
   refine Wo.od (o_mv rfl) rfl ?_
   refine Wo.od (o_bi rfl rfl (bin_lss _ _ _)) rfl ?_
   refine Wo.nil <| At.tn ?_
   rcases br_some hF with ⟨h10, hF⟩ | ⟨h10, hF⟩
   ·refine Wk.condT rfl h10 ?_
    refine Wk.seq <| Wk.region <| Wo.od (o_as rfl) rfl ?_
    refine Wo.nil <| At.tn <| Wk.ret <| At.tr ?_
    cases hF
    exact At.ret (.tmp rfl .nil) fun m' hm => ⟨(), rfl, (Turn.picks [] rfl rfl) m' hm⟩
   ·refine Wk.condF rfl h10 ?_
    refine Wk.skip <| At.tn <| Wk.seq <| Wk.seq <| Wk.region <| Wo.od (o_mv rfl) rfl ?_
    refine Wo.od (o_mv rfl) rfl ?_
    refine Wo.od (o_bi rfl rfl (bin_gtr _ _ _)) rfl ?_
    refine Wo.nil <| At.tn ?_
    rcases br_some hF with ⟨h11, hF⟩ | ⟨h11, hF⟩
    ·refine Wk.condT rfl h11 ?_
     refine Wk.seq <| Wk.region <| Wo.od (o_as rfl) rfl ?_
     refine Wo.nil <| At.tn <| Wk.ret <| At.tr ?_
     cases hF
     exact At.ret (.tmp rfl .nil) fun m' hm => ⟨(), rfl, (Turn.picks [] rfl rfl) m' hm⟩
    ·refine Wk.condF rfl h11 ?_
     refine Wk.skip <| At.tn <| Wk.seq <| Wk.region <| Wo.od (o_as rfl) rfl ?_
     refine Wo.nil <| At.tn <| Wk.ret ?_
     cases hF
     exact At.ret (.tmp rfl .nil) fun m' hm => ⟨(), rfl, (Turn.picks [] rfl rfl) m' hm⟩
theorem f64_ok (n : Nat) (l1 : List (Int)) (l5 : List (Int)) (a2 : Option Addr) (c3 : Nat) (a6 : Option Addr) (c7 : Nat) (r : Int) (hF : F64 n l1 l5 = some r) (m : AMem) (h4 : Rd m a2 c3 1 l1.length (l1.map (eI .i64))) (h8 : Rd m a6 c7 1 l5.length (l5.map (eI .i64))) :
  CallA E18w 64 [.slice a2 l1.length c3, .slice a6 l5.length c7] m (fun v m' => ∃ x : Unit, v = .int .i64 r ∧ Hp m m' []) := by
 unfold F64 at hF
 refine call_wk (m0 := m) (ps := [.rd a6 c7 1 l5.length (l5.map (eI .i64)), .rd a2 c3 1 l1.length (l1.map (eI .i64))]) (N := 36) (rs := [.tmp 4]) rfl Tryd.func64 rfl rfl rfl (((Hp.start m).inn rfl h4).inn rfl h8) ?_
 refine Wk.seq <| Wk.region <| Wo.od (o_as rfl) rfl ?_
 refine Wo.nil <| At.tn <| Wk.seq <| Wk.seq <| Wk.region <| Wo.od (o_mv rfl) rfl ?_
 refine Wo.od (o_ln (k := 1) u39 rfl rfl (.inl rfl)) rfl ?_
 refine Wo.od (o_mv rfl) rfl ?_
 refine Wo.nil <| At.tn <| Wk.block ?_
 obtain ⟨r44, h43, hF⟩ := ob_some hF
 refine Wk.cut (G := (fun (r : (Int) ⊕ (Unit)) (g : Unit) => match r, g with | .inl v27, _ => ⟨.ret, [(4, .int .i64 v27)], []⟩ | .inr _, _ => ⟨(.exit 0), [(0, .slice a2 l1.length c3), (1, .slice a6 l5.length c7)], [.rd a2 c3 1 l1.length (l1.map (eI .i64)), .rd a6 c7 1 l5.length (l5.map (eI .i64))]⟩) r44) ?_ ?_
 ·refine Wk.weak (fs' := [(0, .slice a2 l1.length c3), (1, .slice a6 l5.length c7), (9, .slice a2 l1.length c3), (10, .int .i64 (l1.length : Int)), (11, .int .i64 0)]) (ps' := [.rd a2 c3 1 l1.length (l1.map (eI .i64)), .rd a6 c7 1 l5.length (l5.map (eI .i64))]) (sc rfl (sc rfl (sc rfl (sc rfl (sc rfl sn))))) (Turn.picks [1, 0] rfl rfl) ?_
  refine Wk.loop (σ := Int) (ρ := (Int) ⊕ (Unit)) (γ := Unit) (δ := fun _ => Unit) _ (fun (s : Int) (g : Unit) => match s, g with | v10, _ => ⟨.normal, [(0, .slice a2 l1.length c3), (1, .slice a6 l5.length c7), (9, .slice a2 l1.length c3), (10, .int .i64 (l1.length : Int)), (11, .int .i64 v10)], [.rd a2 c3 1 l1.length (l1.map (eI .i64)), .rd a6 c7 1 l5.length (l5.map (eI .i64))]⟩) (fun (r : (Int) ⊕ (Unit)) (g : Unit) => match r, g with | .inl v27, _ => ⟨.ret, [(4, .int .i64 v27)], []⟩ | .inr _, _ => ⟨(.exit 0), [(0, .slice a2 l1.length c3), (1, .slice a6 l5.length c7)], [.rd a2 c3 1 l1.length (l1.map (eI .i64)), .rd a6 c7 1 l5.length (l5.map (eI .i64))]⟩) ?_ (fun _ _ => rfl) (fun r d => by rcases r with _ | _ <;> (intro e; cases e)) _ _ _ h43 ()
  clear hF h43
  rintro v10 ⟨⟩ r hF
  unfold L64_1 at hF
  refine Wk.seq <| Wk.region <| Wo.od (o_bi rfl rfl (bin_lss _ _ _)) rfl ?_
  refine Wo.nil <| At.tn <| Wk.seq ?_
  rcases br_some hF with ⟨h28, hF⟩ | ⟨h28, hF⟩
  ·refine Wk.condT rfl h28 ?_
   refine Wk.skip <| At.tn <| Wk.seq <| Wk.block <| Wk.seq <| Wk.region <| Wo.od (o_mv rfl) rfl ?_
   obtain ⟨h29, hF⟩ := gd_some hF
   replace h29 := inB_some h29
   refine Wo.openr (k := 0) rfl (pos_of h29) ?_
   rintro b30 o31 rfl
   refine Wo.og (o_ixs s39 rfl rfl h29) gn rfl ?_
   obtain ⟨x32, h33, hF⟩ := ob_some hF
   refine Wo.od (o_ldr (k := 0) t3 rfl rfl (map_at h33) rfl rfl) rfl ?_
   refine Wo.od (o_as rfl) rfl ?_
   refine Wo.od (o_as rfl) rfl ?_
   refine Wo.nil <| At.tn <| Wk.seq <| Wk.seq <| Wk.region <| Wo.od (o_mv rfl) rfl ?_
   refine Wo.od (o_mv rfl) rfl ?_
   refine Wo.od (o_ln (k := 2) u39 rfl rfl (.inl rfl)) rfl ?_
   refine Wo.od (o_bi rfl rfl (bin_geq _ _ _)) rfl ?_
   refine Wo.nil <| At.tn ?_
   rcases br_some hF with ⟨h34, hF⟩ | ⟨h34, hF⟩
   ·refine Wk.condT rfl h34 ?_
    refine Wk.seq <| Wk.region <| Wo.od (o_as rfl) rfl ?_
    refine Wo.nil <| At.tn <| Wk.ret <| At.tr <| At.br <| At.tr ?_
    cases hF
    exact At.en () rfl (sc rfl sn) (Turn.picks [] rfl rfl)
   ·refine Wk.condF rfl h34 ?_
    refine Wk.skip <| At.tn <| Wk.seq <| Wk.region <| Wo.od (o_mv rfl) rfl ?_
    refine Wo.od (o_mv rfl) rfl ?_
    obtain ⟨h35, hF⟩ := gd_some hF
    replace h35 := inB_some h35
    refine Wo.openr (k := 2) rfl (pos_of h35) ?_
    rintro b36 o37 rfl
    refine Wo.og (o_ixs s39 rfl rfl h35) gn rfl ?_
    obtain ⟨x38, h39, hF⟩ := ob_some hF
    refine Wo.od (o_ldr (k := 0) t3 rfl rfl (map_at h39) rfl rfl) rfl ?_
    refine Wo.od (o_as rfl) rfl ?_
    refine Wo.nil <| At.tn <| Wk.seq <| Wk.region <| Wo.od (o_mv rfl) rfl ?_
    refine Wo.od (o_mv rfl) rfl ?_
    obtain ⟨r41, h40, hF⟩ := ob_some hF
    refine Wo.x (o_cl rfl rfl (fun m hm => f81_ok n x32 x38  _ h40 m ) fun _ => rfl) gn rfl ?_
    rintro ⟨⟩
    refine Wo.od (o_as rfl) rfl ?_
    refine Wo.nil <| At.tn <| Wk.seq <| Wk.region <| Wo.od (o_mv rfl) rfl ?_
    refine Wo.od (o_bi rfl rfl (ib_neq _ _)) rfl ?_
    refine Wo.nil <| At.tn ?_
    rcases br_some hF with ⟨h42, hF⟩ | ⟨h42, hF⟩
    ·refine Wk.condT rfl h42 ?_
     refine Wk.seq <| Wk.region <| Wo.od (o_mv rfl) rfl ?_
     refine Wo.od (o_as rfl) rfl ?_
     refine Wo.nil <| At.tn <| Wk.ret <| At.br <| At.tr ?_
     cases hF
     exact At.en () rfl (sc rfl sn) (Turn.picks [] rfl rfl)
    ·refine Wk.condF rfl h42 ?_
     refine Wk.skip <| At.bn <| At.tn <| Wk.region <| Wo.od (o_bi rfl rfl (bin_add _ _ _)) rfl ?_
     refine Wo.od (o_mv rfl) rfl ?_
     refine Wo.nil ?_
     cases hF
     exact At.en () rfl (sc rfl (sc rfl (sc rfl (sc rfl (sc rfl sn))))) (Turn.picks [2, 3] rfl rfl)
  ·refine Wk.condF rfl h28 ?_
   refine Wk.exit <| At.te ?_
   cases hF
   exact At.en () rfl (sc rfl (sc rfl sn)) (Turn.picks [0, 1] rfl rfl)
 ·clear h43
  rcases r44 with v27 | _
  ·rintro ⟨⟩
   refine At.br <| At.tr ?_
   have hr := Option.some.inj hF
   subst r
   exact At.ret (.tmp rfl .nil) fun m' hm => ⟨(), rfl, (Turn.picks [] rfl rfl) m' hm⟩
  ·rintro ⟨⟩
   refine At.be <| At.tn <| Wk.seq <| Wk.seq <| Wk.region <| Wo.od (o_mv rfl) rfl ?_
   refine Wo.od (o_ln (k := 0) u39 rfl rfl (.inl rfl)) rfl ?_
   refine Wo.od (o_mv rfl) rfl ?_
   refine Wo.od (o_ln (k := 1) u39 rfl rfl (.inl rfl)) rfl ?_
   refine Wo.od (o_bi rfl rfl (bin_lss _ _ _)) rfl ?_
   refine Wo.nil <| At.tn ?_
   rcases br_some hF with ⟨h45, hF⟩ | ⟨h45, hF⟩
   ·refine Wk.condT rfl h45 ?_
    refine Wk.seq <| Wk.region <| Wo.od (o_as rfl) rfl ?_
    refine Wo.nil <| At.tn <| Wk.ret <| At.tr ?_
    cases hF
    exact At.ret (.tmp rfl .nil) fun m' hm => ⟨(), rfl, (Turn.picks [] rfl rfl) m' hm⟩
   ·refine Wk.condF rfl h45 ?_
    refine Wk.skip <| At.tn <| Wk.seq <| Wk.region <| Wo.od (o_as rfl) rfl ?_
    refine Wo.nil <| At.tn <| Wk.ret ?_
    cases hF
    exact At.ret (.tmp rfl .nil) fun m' hm => ⟨(), rfl, (Turn.picks [] rfl rfl) m' hm⟩
theorem f23_ok (n : Nat) (x1 : Int) (l2 : List (Int × Int)) (a3 : Option Addr) (c4 : Nat) (r : Int) (hF : F23 n x1 l2 = some r) (m : AMem) (h5 : Rd m a3 c4 2 l2.length (l2.map (eP (eI .i64) (eI .i64)))) :
  CallA E18w 23 [.agg #[.int .i64 x1, .slice a3 l2.length c4]] m (fun v m' => ∃ x : Unit, v = .int .i64 r ∧ Hp m m' []) := by
 unfold F23 at hF
 refine call_wk (m0 := m) (ps := [.rd a3 c4 2 l2.length (l2.map (eP (eI .i64) (eI .i64)))]) (N := 53) (rs := [.tmp 2]) rfl Tryd.func23 rfl rfl rfl ((Hp.start m).inn rfl h5) ?_
 refine Wk.seq <| Wk.region <| Wo.x (o_bx rfl) gn rfl fun b6 => ?_
 refine Wo.od (o_as rfl) rfl ?_
 refine Wo.nil <| At.tn <| Wk.seq <| Wk.seq ?_
 obtain ⟨v17, h20, hF⟩ := ob_some hF
 refine Wk.cut (G := (fun (r : Bool) (g : Unit) => match r, g with | v17, _ => ⟨.normal, [(1, ptr b6 0), (19, .bool v17)], [.obj b6 (.cells [.int .i64 x1, .slice a3 l2.length c4] .own), .rd a3 c4 2 l2.length (l2.map (eP (eI .i64) (eI .i64)))]⟩) v17) ?_ ?_
 ·clear hF
  revert v17
  intro r hF
  refine Wk.region <| Wo.od (o_fa (r := ptr b6 0) rfl (fa25_0 _ _)) rfl ?_
  refine Wo.od (o_ld (k := 0) t3 rfl rfl rfl) rfl ?_
  refine Wo.od (o_bi rfl rfl (bin_lss _ _ _)) rfl ?_
  refine Wo.od (o_mv rfl) rfl ?_
  rcases br_some hF with ⟨h18, hF⟩ | ⟨h18, hF⟩
  ·refine Wo.s (gg rfl rfl (eTF h18)) rfl ?_
   refine Wo.s (gg rfl rfl (eTF h18)) rfl ?_
   refine Wo.s (gg rfl rfl (eTF h18)) rfl ?_
   refine Wo.od (o_pt rfl h18 rfl) rfl ?_
   refine Wo.od (o_mv rfl) rfl ?_
   refine Wo.s (gg rfl rfl rfl) rfl ?_
   refine Wo.s (gg rfl rfl rfl) rfl ?_
   refine Wo.s (gg rfl rfl rfl) rfl ?_
   refine Wo.s (gg rfl rfl rfl) rfl ?_
   refine Wo.od (o_pT rfl rfl) rfl ?_
   refine Wo.nil ?_
   cases hF
   exact At.en () rfl (sc rfl (sc rfl sn)) (Turn.picks [0, 1] rfl rfl)
  ·refine Wo.og (o_fa (r := ptr b6 0) rfl (fa25_0 _ _)) (gg rfl rfl (eFF h18)) rfl ?_
   refine Wo.og (o_ld (k := 0) t3 rfl rfl rfl) (gg rfl rfl (eFF h18)) rfl ?_
   refine Wo.og (o_bi rfl rfl (bin_gtr _ _ _)) (gg rfl rfl (eFF h18)) rfl ?_
   refine Wo.od (o_pf rfl h18 rfl) rfl ?_
   refine Wo.od (o_mv rfl) rfl ?_
   rcases br_some hF with ⟨h19, hF⟩ | ⟨h19, hF⟩
   ·refine Wo.s (gg rfl rfl (eTF h19)) rfl ?_
    refine Wo.s (gg rfl rfl (eTF h19)) rfl ?_
    refine Wo.s (gg rfl rfl (eTF h19)) rfl ?_
    refine Wo.s (gg rfl rfl (eTF h19)) rfl ?_
    refine Wo.od (o_pt rfl h19 rfl) rfl ?_
    refine Wo.nil ?_
    cases hF
    exact At.en () rfl (sc rfl (sc rfl sn)) (Turn.picks [0, 1] rfl rfl)
   ·refine Wo.og (o_fa (r := ptr b6 1) rfl (fa25_1 _ _)) (gg rfl rfl (eFF h19)) rfl ?_
    refine Wo.og (o_ld (k := 0) t23 rfl rfl rfl) (gg rfl rfl (eFF h19)) rfl ?_
    refine Wo.og (o_ln (k := 1) u23 rfl rfl (.inl rfl)) (gg rfl rfl (eFF h19)) rfl ?_
    refine Wo.og (o_bi rfl rfl (bin_gtr _ _ _)) (gg rfl rfl (eFF h19)) rfl ?_
    refine Wo.od (o_pf rfl h19 rfl) rfl ?_
    refine Wo.nil ?_
    cases hF
    exact At.en () rfl (sc rfl (sc rfl sn)) (Turn.picks [0, 1] rfl rfl)
 ·clear h20
  rintro ⟨⟩
  refine At.tn ?_
  rcases br_some hF with ⟨h22, hF⟩ | ⟨h22, hF⟩
  ·refine Wk.condT rfl h22 ?_
   refine Wk.seq <| Wk.region <| Wo.od (o_as rfl) rfl ?_
   refine Wo.nil <| At.tn <| Wk.ret <| At.tr ?_
   cases hF
   exact At.ret (.tmp rfl .nil) fun m' hm => ⟨(), rfl, (Turn.picks [] rfl rfl) m' hm⟩
  ·refine Wk.condF rfl h22 ?_
   refine Wk.skip <| At.tn <| Wk.seq <| Wk.region <| Wo.od (o_bd rfl z26 rfl (bd_s bs26 rfl rfl rfl)) rfl ?_
   refine Wo.x (o_al z26 rfl) gn rfl fun b23 => ?_
   refine Wo.o0 (o_st (k := 0) t26 rfl rfl rfl rfl rfl) ?_
   refine Wo.nil <| At.tn <| Wk.seq <| Wk.seq <| Wk.region <| Wo.od (o_fa (r := ptr b6 1) rfl (fa25_1 _ _)) rfl ?_
   refine Wo.od (o_ld (k := 1) t23 rfl rfl rfl) rfl ?_
   refine Wo.od (o_ln (k := 2) u23 rfl rfl (.inl rfl)) rfl ?_
   refine Wo.od (o_mv rfl) rfl ?_
   refine Wo.nil <| At.tn <| Wk.block ?_
   obtain ⟨r246, h245, hF⟩ := ob_some hF
   refine Wk.cut (G := (fun (r : (Unit) ⊕ (Unit)) (g : Unit) => match r, g with | .inl _, _ => ⟨.ret, [(2, .int .i64 180)], []⟩ | .inr _, _ => ⟨(.exit 0), [], []⟩) r246) ?_ ?_
   ·refine Wk.weak (fs' := [(1, ptr b6 0), (3, ptr b23 0), (22, .slice a3 l2.length c4), (23, .int .i64 (l2.length : Int)), (24, .int .i64 0)]) (ps' := [.obj b6 (.cells [.int .i64 x1, .slice a3 l2.length c4] .own), .rd a3 c4 2 l2.length (l2.map (eP (eI .i64) (eI .i64))), .obj b23 (.cells [.int .i64 (-1), .int .i64 (-1)] .own)]) (sc rfl (sc rfl (sc rfl (sc rfl (sc rfl sn))))) (Turn.picks [1, 2, 0] rfl rfl) ?_
    refine Wk.loop (σ := Int × Int × Int) (ρ := (Unit) ⊕ (Unit)) (γ := Unit) (δ := fun _ => Unit) _ (fun (s : Int × Int × Int) (g : Unit) => match s, g with | (v97, v98, v99), _ => ⟨.normal, [(1, ptr b6 0), (3, ptr b23 0), (22, .slice a3 l2.length c4), (23, .int .i64 (l2.length : Int)), (24, .int .i64 v99)], [.obj b6 (.cells [.int .i64 x1, .slice a3 l2.length c4] .own), .rd a3 c4 2 l2.length (l2.map (eP (eI .i64) (eI .i64))), .obj b23 (.cells [.int .i64 v97, .int .i64 v98] .own)]⟩) (fun (r : (Unit) ⊕ (Unit)) (g : Unit) => match r, g with | .inl _, _ => ⟨.ret, [(2, .int .i64 180)], []⟩ | .inr _, _ => ⟨(.exit 0), [], []⟩) ?_ (fun _ _ => rfl) (fun r d => by rcases r with _ | _ <;> (intro e; cases e)) _ _ _ h245 ()
    clear hF h245
    rintro ⟨v97, v98, v99⟩ ⟨⟩ r hF
    unfold L23_1 at hF
    refine Wk.seq <| Wk.region <| Wo.od (o_bi rfl rfl (bin_lss _ _ _)) rfl ?_
    refine Wo.nil <| At.tn <| Wk.seq ?_
    rcases br_some hF with ⟨h174, hF⟩ | ⟨h174, hF⟩
    ·refine Wk.condT rfl h174 ?_
     refine Wk.skip <| At.tn <| Wk.seq <| Wk.block <| Wk.seq <| Wk.region ?_
     obtain ⟨h210, hF⟩ := gd_some hF
     replace h210 := inB_some h210
     refine Wo.openr (k := 1) rfl (pos_of h210) ?_
     rintro b211 o212 rfl
     refine Wo.og (o_ixs s23 rfl rfl h210) gn rfl ?_
     obtain ⟨⟨x213, x214⟩, h215, hF⟩ := ob_some hF
     refine Wo.od (o_ldr (k := 0) t26 rfl rfl (map_at h215) rfl rfl) rfl ?_
     refine Wo.x (o_al z26 rfl) gn rfl fun b216 => ?_
     refine Wo.o0 (o_st (k := 0) t26 rfl rfl rfl rfl rfl) ?_
     refine Wo.nil <| At.tn <| Wk.seq <| Wk.seq ?_
     obtain ⟨v236, h242, hF⟩ := ob_some hF
     refine Wk.cut (G := (fun (r : Bool) (g : Unit) => match r, g with | v236, _ => ⟨.normal, [(1, ptr b6 0), (3, ptr b23 0), (5, ptr b216 0), (22, .slice (some ⟨b211, o212, none⟩) l2.length c4), (23, .int .i64 (l2.length : Int)), (24, .int .i64 v99), (50, .bool v236)], [.obj b6 (.cells [.int .i64 x1, .slice (some ⟨b211, o212, none⟩) l2.length c4] .own), .ro b211 o212 2 l2.length (l2.map (eP (eI .i64) (eI .i64))), .rd (some ⟨b211, o212, none⟩) c4 2 l2.length (l2.map (eP (eI .i64) (eI .i64))), .obj b23 (.cells [.int .i64 v97, .int .i64 v98] .own), .obj b216 (.cells [.int .i64 x213, .int .i64 x214] .own)]⟩) v236) ?_ ?_
     ·clear hF
      revert v236
      intro r hF
      refine Wk.draw (by kernel_rfl) ?_
      refine Wo.od (o_ia (r := ptr b216 0) rfl rfl (ia_c ar26 (i := 0) (by decide))) rfl ?_
      refine Wo.od (o_ld (k := 0) t3 rfl rfl rfl) rfl ?_
      refine Wo.od (o_bi rfl rfl (bin_lss _ _ _)) rfl ?_
      refine Wo.od (o_mv rfl) rfl ?_
      rcases br_some hF with ⟨h237, hF⟩ | ⟨h237, hF⟩
      ·refine Wo.s (gg rfl rfl (eTF h237)) rfl ?_
       refine Wo.s (gg rfl rfl (eTF h237)) rfl ?_
       refine Wo.s (gg rfl rfl (eTF h237)) rfl ?_
       refine Wo.s (gg rfl rfl (eTF h237)) rfl ?_
       refine Wo.s (gg rfl rfl (eTF h237)) rfl ?_
       refine Wo.od (o_pt rfl h237 rfl) rfl ?_
       refine Wo.od (o_mv rfl) rfl ?_
       refine Wo.s (gg rfl rfl rfl) rfl ?_
       refine Wo.s (gg rfl rfl rfl) rfl ?_
       refine Wo.s (gg rfl rfl rfl) rfl ?_
       refine Wo.s (gg rfl rfl rfl) rfl ?_
       refine Wo.s (gg rfl rfl rfl) rfl ?_
       refine Wo.od (o_pT rfl rfl) rfl ?_
       refine Wo.od (o_mv rfl) rfl ?_
       refine Wo.s (gg rfl rfl rfl) rfl ?_
       refine Wo.s (gg rfl rfl rfl) rfl ?_
       refine Wo.s (gg rfl rfl rfl) rfl ?_
       refine Wo.s (gg rfl rfl rfl) rfl ?_
       refine Wo.od (o_pT rfl rfl) rfl ?_
       refine Wo.nil ?_
       cases hF
       exact At.en () rfl (sc rfl (sc rfl (sc rfl (sc rfl (sc rfl (sc rfl (sc rfl sn))))))) (Turn.picks [2, 1, 3, 4, 0] rfl rfl)
      ·refine Wo.og (o_ia (r := ptr b216 0) rfl rfl (ia_c ar26 (i := 0) (by decide))) (gg rfl rfl (eFF h237)) rfl ?_
       refine Wo.og (o_ld (k := 0) t3 rfl rfl rfl) (gg rfl rfl (eFF h237)) rfl ?_
       refine Wo.og (o_ia (r := ptr b216 1) rfl rfl (ia_c ar26 (i := 1) (by decide))) (gg rfl rfl (eFF h237)) rfl ?_
       refine Wo.og (o_ld (k := 0) t3 rfl rfl rfl) (gg rfl rfl (eFF h237)) rfl ?_
       refine Wo.og (o_bi rfl rfl (bin_geq _ _ _)) (gg rfl rfl (eFF h237)) rfl ?_
       refine Wo.od (o_pf rfl h237 rfl) rfl ?_
       refine Wo.od (o_mv rfl) rfl ?_
       rcases br_some hF with ⟨h238, hF⟩ | ⟨h238, hF⟩
       ·refine Wo.s (gg rfl rfl (eTF h238)) rfl ?_
        refine Wo.s (gg rfl rfl (eTF h238)) rfl ?_
        refine Wo.s (gg rfl rfl (eTF h238)) rfl ?_
        refine Wo.s (gg rfl rfl (eTF h238)) rfl ?_
        refine Wo.s (gg rfl rfl (eTF h238)) rfl ?_
        refine Wo.od (o_pt rfl h238 rfl) rfl ?_
        refine Wo.od (o_mv rfl) rfl ?_
        refine Wo.s (gg rfl rfl rfl) rfl ?_
        refine Wo.s (gg rfl rfl rfl) rfl ?_
        refine Wo.s (gg rfl rfl rfl) rfl ?_
        refine Wo.s (gg rfl rfl rfl) rfl ?_
        refine Wo.od (o_pT rfl rfl) rfl ?_
        refine Wo.nil ?_
        cases hF
        exact At.en () rfl (sc rfl (sc rfl (sc rfl (sc rfl (sc rfl (sc rfl (sc rfl sn))))))) (Turn.picks [2, 1, 3, 4, 0] rfl rfl)
       ·refine Wo.og (o_ia (r := ptr b216 1) rfl rfl (ia_c ar26 (i := 1) (by decide))) (gg rfl rfl (eFF h238)) rfl ?_
        refine Wo.og (o_ld (k := 0) t3 rfl rfl rfl) (gg rfl rfl (eFF h238)) rfl ?_
        refine Wo.og (o_fa (r := ptr b6 0) rfl (fa25_0 _ _)) (gg rfl rfl (eFF h238)) rfl ?_
        refine Wo.og (o_ld (k := 2) t3 rfl rfl rfl) (gg rfl rfl (eFF h238)) rfl ?_
        refine Wo.og (o_bi rfl rfl (bin_geq _ _ _)) (gg rfl rfl (eFF h238)) rfl ?_
        refine Wo.od (o_pf rfl h238 rfl) rfl ?_
        refine Wo.od (o_mv rfl) rfl ?_
        rcases br_some hF with ⟨h239, hF⟩ | ⟨h239, hF⟩
        ·refine Wo.s (gg rfl rfl (eTF h239)) rfl ?_
         refine Wo.s (gg rfl rfl (eTF h239)) rfl ?_
         refine Wo.s (gg rfl rfl (eTF h239)) rfl ?_
         refine Wo.s (gg rfl rfl (eTF h239)) rfl ?_
         refine Wo.od (o_pt rfl h239 rfl) rfl ?_
         refine Wo.nil ?_
         cases hF
         exact At.en () rfl (sc rfl (sc rfl (sc rfl (sc rfl (sc rfl (sc rfl (sc rfl sn))))))) (Turn.picks [2, 1, 3, 4, 0] rfl rfl)
        ·refine Wo.og (o_sa (k := 4) ar26 rfl rfl rfl rfl) (gg rfl rfl (eFF h239)) rfl ?_
         refine Wo.og (o_sa (k := 0) ar26 rfl rfl rfl rfl) (gg rfl rfl (eFF h239)) rfl ?_
         obtain ⟨r241, h240, hF⟩ := ob_some hF
         refine Wo.x (o_cl rfl rfl (fun m hm => f64_ok n [v97, v98] [x213, x214] (some ⟨b23, 0, none⟩) 2 (some ⟨b216, 0, none⟩) 2 _ h240 m (hm.rdo (k := 4) (xs := [v97, v98]) (f := eI .i64) rfl rfl rfl rfl (enI .i64)) (hm.rdo (k := 0) (xs := [x213, x214]) (f := eI .i64) rfl rfl rfl rfl (enI .i64))) fun _ => rfl) (gg rfl rfl (eFF h239)) rfl ?_
         rintro ⟨⟩
         refine Wo.og (o_bi rfl rfl (bin_geq _ _ _)) (gg rfl rfl (eFF h239)) rfl ?_
         refine Wo.od (o_pf rfl h239 rfl) rfl ?_
         refine Wo.nil ?_
         cases hF
         exact At.en () rfl (sc rfl (sc rfl (sc rfl (sc rfl (sc rfl (sc rfl (sc rfl sn))))))) (Turn.picks [2, 1, 3, 4, 0] rfl rfl)
     ·clear h242
      rintro ⟨⟩
      refine At.tn ?_
      rcases br_some hF with ⟨h244, hF⟩ | ⟨h244, hF⟩
      ·refine Wk.condT rfl h244 ?_
       refine Wk.seq <| Wk.region <| Wo.od (o_as rfl) rfl ?_
       refine Wo.nil <| At.tn <| Wk.ret <| At.tr <| At.br <| At.tr ?_
       cases hF
       exact At.en () rfl (sc rfl sn) (Turn.picks [] rfl rfl)
      ·refine Wk.condF rfl h244 ?_
       refine Wk.skip <| At.tn <| Wk.region <| Wo.od (o_ld (k := 4) t26 rfl rfl rfl) rfl ?_
       refine Wo.o0 (o_st (k := 3) t26 rfl rfl rfl rfl rfl) ?_
       refine Wo.nil <| At.bn <| At.tn <| Wk.region <| Wo.od (o_bi rfl rfl (bin_add _ _ _)) rfl ?_
       refine Wo.od (o_mv rfl) rfl ?_
       refine Wo.nil ?_
       cases hF
       exact At.en () rfl (sc rfl (sc rfl (sc rfl (sc rfl (sc rfl sn))))) (Turn.picks [0, 2, 3] rfl rfl)
    ·refine Wk.condF rfl h174 ?_
     refine Wk.exit <| At.te ?_
     cases hF
     exact At.en () rfl sn (Turn.picks [] rfl rfl)
   ·clear h245
    rcases r246 with _ | _
    ·rintro ⟨⟩
     refine At.br <| At.tr ?_
     cases hF
     exact At.ret (.tmp rfl .nil) fun m' hm => ⟨(), rfl, (Turn.picks [] rfl rfl) m' hm⟩
    ·rintro ⟨⟩
     refine At.be <| At.tn <| Wk.seq <| Wk.region <| Wo.od (o_as rfl) rfl ?_
     refine Wo.nil <| At.tn <| Wk.ret ?_
     cases hF
     exact At.ret (.tmp rfl .nil) fun m' hm => ⟨(), rfl, (Turn.picks [] rfl rfl) m' hm⟩
end Go.Proofs.YtpclggcpobakhaaDoor.W0
end

section
namespace Go.Proofs.YtpclggcpobakhaaDoor
open Go Go.Ab Go.Ab.W
def L21_1 (n : Nat)  : (Nat × List (Int) × List (Int × Int)) → Option ((Nat × List (Int) × List (Int × Int)) ⊕ (List (Int) × List (Int × Int))) := fun (v95, l96, l98) =>
br (!decide (v95 = 0)) (
ob (F42 n v95) fun r121 =>
ob (
gd (lim (l96 ++ [r121]).length) (
some (l96 ++ [r121]))) fun l125 =>
some (.inl (uw .u64 (uw .u64 v95 &&& uw .u64 (usub .u64 v95 1)), l125, (mput l98 r121 (l96.length : Int))))) (
some (.inr (l96, l98)))
def L21_2 (n : Nat) (l2 : List (Int × Int)) (x6 : Nat) (l81 : List (Int × Int)) : (List (Int × Int) × Int) → Option ((List (Int × Int) × Int) ⊕ (List (Int × Int))) := fun (l199, v201) =>
br (decide (v201 < (l2.length : Int))) (
ob (
gd (inB v201 l2.length) (
ob (l2[v201.toNat]?) fun (x302, x303) =>
ob (
ob (F57 n x6 x302) fun r313 =>
br (r313) (
ob (F57 n x6 x303) fun r316 =>
some r316) (
some false)) fun v311 =>
br (v311) (
ob (some ((mget l81 x302).getD (0 : Int))) fun y320 =>
ob (some ((mget l81 x303).getD (0 : Int))) fun y322 =>
gd (lim (l199 ++ [(y320, y322)]).length) (
some (l199 ++ [(y320, y322)]))) (
some l199))) fun l297 =>
some (.inl (l297, IntKind.wrap .i64 (v201 + 1)))) (
some (.inr l199))
def F21 (n : Nat) (x1 : Int) (l2 : List (Int × Int)) (x6 : Nat) : Option (Int × List (Int × Int) × List Int × Int) :=
ob (F55 n x1 l2 x6) fun r11 =>
br (!decide (r11 = 0)) (
some (0, [], [], r11)) (
br (decide (x6 = 0)) (
some (0, [], [], 2)) (
ob (
some ([] : List (Int × Int))) fun l18 =>
ob (
ob (
lpN (L21_1 n) n (x6, ([] : List (Int)), l18)) fun (l116, l118) =>
some (l116, l118)) fun (l79, l81) =>
ob (
lpN (L21_2 n l2 x6 l81) n (([] : List (Int × Int)), 0)) fun l266 =>
some ((l79.length : Int), l266, l79, 0)))
def L45_1 (n : Nat) (x1 : Int) (x6 : Nat) : (List (Int) × List (Int) × Int) → Option ((List (Int) × List (Int) × Int) ⊕ (List (Int) × List (Int))) := fun (l43, l45, v46) =>
br (decide (v46 < x1)) (
ob (
gd (inB v46 x1.toNat) (
ob (l45[v46.toNat]?) fun x93 =>
ob (F67 n x6 v46) fun r97 =>
br (r97) (
gd (lim (l43 ++ [v46]).length) (
some (l43 ++ [v46]))) (
some l43))) fun l90 =>
some (.inl (l90, (l45.set v46.toNat (l43.length : Int)), IntKind.wrap .i64 (v46 + 1)))) (
some (.inr (l43, l45)))
def L45_2 (n : Nat) (l2 : List (Int × Int)) (x6 : Nat) (x1 : Int) (l78 : List (Int)) : (List (Int × Int) × Int) → Option ((List (Int × Int) × Int) ⊕ (List (Int × Int))) := fun (l174, v176) =>
br (decide (v176 < (l2.length : Int))) (
ob (
gd (inB v176 l2.length) (
ob (l2[v176.toNat]?) fun (x283, x284) =>
gd (inB v176 l2.length) (
ob (
ob (F67 n x6 x283) fun r294 =>
br (r294) (
ob (F67 n x6 x284) fun r297 =>
some r297) (
some false)) fun v292 =>
br (v292) (
gd (inB x283 x1.toNat) (
ob (l78[x283.toNat]?) fun x302 =>
gd (inB x284 x1.toNat) (
ob (l78[x284.toNat]?) fun x305 =>
gd (lim (l174 ++ [(x302, x305)]).length) (
some (l174 ++ [(x302, x305)]))))) (
some l174)))) fun l278 =>
some (.inl (l278, IntKind.wrap .i64 (v176 + 1)))) (
some (.inr l174))
def F45 (n : Nat) (x1 : Int) (l2 : List (Int × Int)) (x6 : Nat) : Option (Int × List (Int × Int) × List Int × Int) :=
ob (F66 n x1 l2 x6) fun r10 =>
br (!decide (r10 = 0)) (
some (0, [], [], r10)) (
br (decide (x6 = 0)) (
some (0, [], [], 2)) (
gd (decide (0 ≤ x1)) (gd (lim x1.toNat) (
ob (
lpN (L45_1 n x1 x6) n (([] : List (Int)), (List.replicate x1.toNat 0), 0)) fun (l76, l78) =>
ob (
lpN (L45_2 n l2 x6 x1 l78) n (([] : List (Int × Int)), 0)) fun l245 =>
some ((l76.length : Int), l245, l76, 0)))))
def L39_1 (n : Nat) (l1 : List (Int)) (l5 : List (Int)) : Int → Option ((Int) ⊕ ((Unit) ⊕ (Unit))) := fun v11 =>
br (decide (v11 < (l1.length : Int))) (
gd (inB v11 l1.length) (
ob (l1[v11.toNat]?) fun x29 =>
gd (inB v11 l5.length) (
ob (l5[v11.toNat]?) fun x34 =>
br (!decide (x29 = x34)) (
some (.inr (.inl ()))) (
some (.inl (IntKind.wrap .i64 (v11 + 1))))))) (
some (.inr (.inr ())))
def F39 (n : Nat) (l1 : List (Int)) (l5 : List (Int)) : Option (Bool) :=
br (!decide ((l1.length : Int) = (l5.length : Int))) (
some false) (
ob (α := (Unit) ⊕ (Unit)) (
lpN (L39_1 n l1 l5) n 0) fun r38 => match r38 with
| .inl _ =>
some false
| .inr _ =>
some true)
def L22_1 (n : Nat) (l6 : List (Int)) (x1 : Int) : (Nat × Int) → Option ((Nat × Int) ⊕ ((Unit) ⊕ (Nat))) := fun (v18, v19) =>
br (decide (v19 < (l6.length : Int))) (
gd (inB v19 l6.length) (
ob (l6[v19.toNat]?) fun x82 =>
ob (
br (decide (x82 < 0)) (
some true) (
some (decide (x1 ≤ x82)))) fun v91 =>
br (v91) (
some (.inr (.inl ()))) (
gd (decide (0 ≤ x82)) (
some (.inl (uw .u64 (uw .u64 v18 ||| uw .u64 (ushl .u64 1 x82.toNat)), IntKind.wrap .i64 (v19 + 1))))))) (
some (.inr (.inr v18)))
def L22_2 (n : Nat) (l162 : List (Int × Int)) (x323 : Int) (x326 : Int) : Int → Option ((Int) ⊕ ((Unit) ⊕ (Unit))) := fun v331 =>
br (decide (v331 < (l162.length : Int))) (
gd (inB v331 l162.length) (
ob (l162[v331.toNat]?) fun (x348, x349) =>
br ((decide (x348 = mi x323 x326) && decide (x349 = ma x323 x326))) (
some (.inr (.inl ()))) (
some (.inl (IntKind.wrap .i64 (v331 + 1)))))) (
some (.inr (.inr ())))
def L22_3 (n : Nat) (l2 : List (Int × Int)) (l6 : List (Int)) : (List (Int × Int) × Int) → Option ((List (Int × Int) × Int) ⊕ (List (Int × Int))) := fun (l162, v164) =>
br (decide (v164 < (l2.length : Int))) (
ob (
gd (inB v164 l2.length) (
ob (l2[v164.toNat]?) fun (x316, x317) =>
gd (inB x316 l6.length) (
ob (l6[x316.toNat]?) fun x323 =>
gd (inB x317 l6.length) (
ob (l6[x317.toNat]?) fun x326 =>
br (decide (x323 = x326)) (
some l162) (
ob (α := (Unit) ⊕ (Unit)) (
lpN (L22_2 n l162 x323 x326) n 0) fun r354 => match r354 with
| .inl _ =>
some l162
| .inr _ =>
gd (lim (l162 ++ [(mi x323 x326, ma x323 x326)]).length) (
some (l162 ++ [(mi x323 x326, ma x323 x326)]))))))) fun l311 =>
some (.inl (l311, IntKind.wrap .i64 (v164 + 1)))) (
some (.inr l162))
def F22 (n : Nat) (x1 : Int) (l2 : List (Int × Int)) (l6 : List (Int)) : Option (Int × List (Int × Int) × Int) :=
ob (F23 n x1 l2) fun r13 =>
br (!decide (r13 = 0)) (
some (0, [], r13)) (
br (!decide ((l6.length : Int) = x1)) (
some (0, [], 2)) (
ob (α := (Unit) ⊕ (Nat)) (
lpN (L22_1 n l6 x1) n (0, 0)) fun r98 => match r98 with
| .inl _ =>
some (0, [], 2)
| .inr v59 =>
br (!decide (uw .u64 (uw .u64 v59 &&& uw .u64 (uw .u64 (v59 + 1))) = 0)) (
some (0, [], 2)) (
ob (F51 n v59) fun r101 =>
ob (
lpN (L22_3 n l2 l6) n (([] : List (Int × Int)), 0)) fun l263 =>
ob (F62 n l263) fun l362 =>
some (r101, l362, 0))))
def L72_1 (n : Nat) (x1 : Nat) : (Int × Int) → Option ((Int × Int) ⊕ (Int)) := fun (v4, v5) =>
br (decide (v5 < 64)) (
ob (
ob (F67 n x1 v5) fun r25 =>
br (r25) (
some (IntKind.wrap .i64 (v4 + 1))) (
some v4)) fun v23 =>
some (.inl (v23, IntKind.wrap .i64 (v5 + 1)))) (
some (.inr v4))
def F72 (n : Nat) (x1 : Nat) : Option (Int) :=
ob (
lpN (L72_1 n x1) n (0, 0)) fun v18 =>
some v18
def L47_1 (n : Nat) (x1 : Int) (l6 : List (Int)) : (Int × Nat × Int) → Option ((Int × Nat × Int) ⊕ ((Unit) ⊕ (Int × Nat))) := fun (v19, v20, v21) =>
br (decide (v21 < x1)) (
ob (
gd (inB v21 l6.length) (
ob (l6[v21.toNat]?) fun x190 =>
br (decide (x190 < 0)) (
some true) (
gd (inB v21 l6.length) (
some (decide (x1 ≤ x190)))))) fun v186 =>
br (v186) (
some (.inr (.inl ()))) (
gd (inB v21 l6.length) (
ob (l6[v21.toNat]?) fun x200 =>
gd (inB v21 l6.length) (
ob (F68 n x200) fun r204 =>
some (.inl (ma v19 (IntKind.wrap .i64 (x200 + 1)), uw .u64 (uw .u64 v20 ||| uw .u64 r204), IntKind.wrap .i64 (v21 + 1))))))) (
some (.inr (.inr (v19, v20))))
def L47_2 (n : Nat) (l2 : List (Int × Int)) (l6 : List (Int)) (v849 : Int) (v1701 : Int) : (Bool × Int) → Option ((Bool × Int) ⊕ (Bool)) := fun (v2020, v2021) =>
br (decide (v2021 < (l2.length : Int))) (
ob (
gd (inB v2021 l2.length) (
ob (l2[v2021.toNat]?) fun (x2094, x2095) =>
gd (inB x2094 l6.length) (
ob (l6[x2094.toNat]?) fun x2100 =>
gd (inB v2021 l2.length) (
gd (inB x2095 l6.length) (
ob (l6[x2095.toNat]?) fun x2104 =>
br (v2020) (
some true) (
br (decide (x2100 = v849)) (
br (decide (x2104 = v1701)) (
some true) (
br (decide (x2100 = v1701)) (
some (decide (x2104 = v849))) (
some false))) (
br (decide (x2100 = v1701)) (
some (decide (x2104 = v849))) (
some false)))))))) fun v2090 =>
some (.inl (v2090, IntKind.wrap .i64 (v2021 + 1)))) (
some (.inr v2020))
def L47_3 (n : Nat) (v114 : Int) (l2 : List (Int × Int)) (l6 : List (Int)) (v849 : Int) : (List (Int × Int) × Int) → Option ((List (Int × Int) × Int) ⊕ (List (Int × Int))) := fun (l1699, v1701) =>
br (decide (v1701 < v114)) (
ob (
ob (
lpN (L47_2 n l2 l6 v849 v1701) n (false, 0)) fun v2068 =>
br (v2068) (
gd (lim (l1699 ++ [(v849, v1701)]).length) (
some (l1699 ++ [(v849, v1701)]))) (
some l1699)) fun l2016 =>
some (.inl (l2016, IntKind.wrap .i64 (v1701 + 1)))) (
some (.inr l1699))
def L47_4 (n : Nat) (v114 : Int) (l2 : List (Int × Int)) (l6 : List (Int)) : (List (Int × Int) × Int) → Option ((List (Int × Int) × Int) ⊕ (List (Int × Int))) := fun (l847, v849) =>
br (decide (v849 < v114)) (
ob (
lpN (L47_3 n v114 l2 l6 v849) n (l847, IntKind.wrap .i64 (v849 + 1))) fun l1912 =>
some (.inl (l1912, IntKind.wrap .i64 (v849 + 1)))) (
some (.inr l847))
def F47 (n : Nat) (x1 : Int) (l2 : List (Int × Int)) (l6 : List (Int)) : Option (Int × List (Int × Int) × Int) :=
ob (F43 n x1 l2) fun r13 =>
br (!decide (r13 = 0)) (
some (0, [], r13)) (
br (!decide ((l6.length : Int) = x1)) (
some (0, [], 2)) (
ob (α := (Unit) ⊕ (Int × Nat)) (
lpN (L47_1 n x1 l6) n (0, 0, 0)) fun r206 => match r206 with
| .inl _ =>
some (0, [], 2)
| .inr (v114, v115) =>
ob (F72 n v115) fun r208 =>
br (!decide (r208 = v114)) (
some (0, [], 2)) (
ob (
lpN (L47_4 n v114 l2 l6) n (([] : List (Int × Int)), 0)) fun l1487 =>
some (v114, l1487, 0))))
def L8_1 (n : Nat) (r2860 : Nat) (r2861 : Nat) (x2852 : Int) (l2853 : List (Int × Int)) : Int → Option ((Int) ⊕ ((Unit) ⊕ (Unit))) := fun v2863 =>
br (decide (v2863 < 2)) (
gd (inB v2863 2) (
ob ([r2860, r2861][v2863.toNat]?) fun x3002 =>
ob (F21 n x2852 l2853 x3002) fun (r3006, l3007, l3010, r3013) =>
ob (F45 n x2852 l2853 x3002) fun (r3016, l3017, l3020, r3023) =>
ob (
br (!decide (r3013 = r3023)) (
some true) (
ob (F27 n r3006 l3007 r3016 l3017) fun r3037 =>
br (!r3037) (
some true) (
ob (F44 n r3006 l3007 r3016 l3017) fun r3040 =>
br (!r3040) (
some true) (
ob (F39 n l3010 l3020) fun r3043 =>
some (!r3043))))) fun v3034 =>
br (v3034) (
some (.inr (.inl ()))) (
some (.inl (IntKind.wrap .i64 (v2863 + 1)))))) (
some (.inr (.inr ())))
def L8_2 (n : Nat) (x2852 : Int) (l19 : List (Nat)) : (List (Int) × Int) → Option ((List (Int) × Int) ⊕ (List (Int))) := fun (l3092, v3094) =>
br (decide (v3094 < ma (mi x2852 (64 : Int)) (0 : Int))) (
ob (
br (decide (0 < (l19.length : Int))) (
gd (decide ((l19.length : Int) ≠ 0)) (
gd (inB (Int.tmod v3094 (l19.length : Int)) l19.length) (
ob (l19[(Int.tmod v3094 (l19.length : Int)).toNat]?) fun x3175 =>
some (Int.tmod (IntKind.wrap .i64 ((x3175 : Nat) : Int)) 4)))) (
some 0)) fun v3169 =>
gd (lim (l3092 ++ [v3169]).length) (
some (.inl ((l3092 ++ [v3169]), IntKind.wrap .i64 (v3094 + 1))))) (
some (.inr l3092))
def L8_3 (n : Nat) (l3139 : List (Int)) (l23 : List (Int)) (l3207 : List (Int)) (x2852 : Int) (l2853 : List (Int × Int)) : Int → Option ((Int) ⊕ ((Unit) ⊕ (Unit))) := fun v3290 =>
br (decide (v3290 < 3)) (
gd (inB v3290 3) (
ob ([l3139, ((l23.drop (0 : Int).toNat).take ((mi (l23.length : Int) (66 : Int) : Int).toNat - (0 : Int).toNat)), l3207][v3290.toNat]?) fun l3381 =>
ob (F22 n x2852 l2853 l3381) fun (r3387, l3388, r3391) =>
ob (F47 n x2852 l2853 l3381) fun (r3394, l3395, r3398) =>
ob (
br (!decide (r3391 = r3398)) (
some true) (
ob (F44 n r3387 l3388 r3394 l3395) fun r3406 =>
some (!r3406))) fun v3403 =>
br (v3403) (
some (.inr (.inl ()))) (
some (.inl (IntKind.wrap .i64 (v3290 + 1)))))) (
some (.inr (.inr ())))
def L8_4 (n : Nat) (r33 : Int) (l34 : List (Int × Int)) (r37 : Int) (l38 : List (Int × Int)) (r41 : Int) (l42 : List (Int × Int)) (x18 : Nat) (l19 : List (Nat)) (l23 : List (Int)) : Int → Option ((Int) ⊕ ((Unit) ⊕ (Unit))) := fun v1168 =>
br (decide (v1168 < 3)) (
gd (inB v1168 3) (
ob ([(r33, l34), (r37, l38), (r41, l42)][v1168.toNat]?) fun (x2852, l2853) =>
ob (F29 n x2852 l2853 x18) fun (r2860, r2861) =>
ob (α := (Unit) ⊕ (Unit)) (
lpN (L8_1 n r2860 r2861 x2852 l2853) n 0) fun r3048 => match r3048 with
| .inl _ =>
some (.inr (.inl ()))
| .inr _ =>
ob (
lpN (L8_2 n x2852 l19) n (([] : List (Int)), 0)) fun l3139 =>
ob (F46 n l3139) fun l3185 =>
ob (
ob (
br (decide (0 < (l3185.length : Int))) (
some (decide (0 < (((l23.drop (0 : Int).toNat).take ((mi (l23.length : Int) (66 : Int) : Int).toNat - (0 : Int).toNat)).length : Int)))) (
some false)) fun v3209 =>
br (v3209) (
gd (decide ((l3185.length : Int) ≠ 0)) (
gd (inB 0 (((l23.drop (0 : Int).toNat).take ((mi (l23.length : Int) (66 : Int) : Int).toNat - (0 : Int).toNat)).length)) (
ob (((l23.drop (0 : Int).toNat).take ((mi (l23.length : Int) (66 : Int) : Int).toNat - (0 : Int).toNat))[(0 : Int).toNat]?) fun x3218 =>
gd (inB (Int.tmod (l19.length : Int) (l3185.length : Int)) l3185.length) (
ob (l3185[(Int.tmod (l19.length : Int) (l3185.length : Int)).toNat]?) fun x3224 =>
some (l3185.set ((Int.tmod (l19.length : Int) (l3185.length : Int)).toNat) x3218))))) (
some l3185)) fun l3207 =>
ob (α := (Unit) ⊕ (Unit)) (
lpN (L8_3 n l3139 l23 l3207 x2852 l2853) n 0) fun r3411 => match r3411 with
| .inl _ =>
some (.inr (.inl ()))
| .inr _ =>
some (.inl (IntKind.wrap .i64 (v1168 + 1))))) (
some (.inr (.inr ())))
def F8 (n : Nat) (x1 : Nat) (x2 : Nat) (x3 : Nat) (l4 : List (Nat × Nat)) (x8 : Nat) (x9 : Nat) (x10 : Int) (x11 : Int) (x12 : Int) (x13 : Nat) (x14 : Nat) (x15 : Int) (x16 : Int) (x17 : Int) (x18 : Nat) (l19 : List (Nat)) (l23 : List (Int)) : Option (Bool) :=
gd (okB 0 (mi (l23.length : Int) (66 : Int)) l23.length) (
ob (F28 n x1 x2 x3 l4 x8 x9 x10 x11 x12 x13 x14 x15 x16 x17) fun (r33, l34, r37, l38, r41, l42) =>
ob (α := (Unit) ⊕ (Unit)) (
lpN (L8_4 n r33 l34 r37 l38 r41 l42 x18 l19 l23) n 0) fun r3413 => match r3413 with
| .inl _ =>
some false
| .inr _ =>
ob (F13 n ) fun r3415 =>
some r3415)
end Go.Proofs.YtpclggcpobakhaaDoor
end

section
namespace Go.Proofs.YtpclggcpobakhaaDoor
open Go Go.Ab Go.Ab.W
set_option maxRecDepth 10000
theorem f62_use (n : Nat) {m0 m : AMem} {ps : List Pc} (h : Hp m0 m ps) {k nn : Nat} {a : Option Addr} {l r : List (Int × Int)} (hp : pk ps k = some (.sl a 2 nn (l.map (eP (eI .i64) (eI .i64))))) (hF : F62 n l = some r) :
  CallA E18w 62 [.slice a nn nn, .func (.func 63) #[] #[]] m (fun v m' => ∃ _ : Unit, v = .tuple #[] ∧ Hp m0 m' (pset ps k (.sl a 2 nn (r.map (eP (eI .i64) (eI .i64)))))) := by
 unfold F62 at hF
 obtain ⟨hlim, hF⟩ := gd_some hF
 cases hF
 rcases h.get hp with ⟨rfl, e2, rfl, _⟩ | ⟨b, tg, rfl, hO⟩
 ·have hl : l = [] := List.map_eq_nil_iff.1 e2
  subst hl
  refine CallA.prim (p := ⟨sortRun⟩) rfl (v := .tuple #[]) (m' := m) rfl ⟨(), rfl, ?_⟩
  rw [List.mergeSort_nil, pset_self _ _ _ hp]
  exact h
 ·obtain ⟨h1, h2, h3, h4, h5, h6, h7⟩ := hO
  have hn : l.length = nn := by simpa using h4
  subst hn
  have hw : wholeT m b l.length l.length = some ((l.map encP).flatten, tg) := by
   unfold wholeT
   rcases h6 with rfl | rfl <;> simp only [h3] <;> rw [if_pos ⟨trivial, len_enc, plain_enc⟩]
  refine CallA.prim (p := ⟨sortRun⟩) rfl (v := .tuple #[]) (m' := m.set b (.cells ((l.mergeSort lexLe).map encP).flatten tg)) ?_ ⟨(), rfl, ?_⟩
  ·show sortRun [.slice (some ⟨b, 0, none⟩) l.length l.length, .func (.func 63) #[] #[]] m = _
   simp only [sortRun, hw, pairsOf_enc]
   rw [if_pos ⟨⟨rfl, rfl⟩, hlim⟩]
  ·refine h.write hp rfl rfl rfl rfl (.inr ⟨b, tg, rfl, h1, ?_, ?_, ?_, ?_, h6, h7⟩)
   ·rw [AMem.next_set]; exact h2
   ·rw [AMem.get_set, if_pos rfl]
   ·simp
   ·intro e he
    obtain ⟨x, _, rfl⟩ := List.mem_map.1 he
    rfl
end Go.Proofs.YtpclggcpobakhaaDoor
end

section
namespace Go.Proofs.YtpclggcpobakhaaDoor
open Go Go.Ab Go.Ab.W
def gOf (N1 : Int) (l1 : List (Int × Int)) (N2 : Int) (l2 : List (Int × Int)) (N3 : Int) (l3 : List (Int × Int)) (j : Nat) : Int × List (Int × Int) :=
 match j with
 | 0 => (N1, l1)
 | 1 => (N2, l2)
 | _ => (N3, l3)
def L41_1 (n : Nat) (N1 : Int) (l1 : List (Int × Int)) (N2 : Int) (l2 : List (Int × Int)) (N3 : Int) (l3 : List (Int × Int)) : (List Nat × Int) → Option ((List Nat × Int) ⊕ (List Nat)) := fun (J, v) =>
br (decide (v < 3)) (
gd (inB v 3) (
ob (F23 n (gOf N1 l1 N2 l2 N3 l3 v.toNat).1 (gOf N1 l1 N2 l2 N3 l3 v.toNat).2) fun r =>
br (decide (r = 0)) (
gd (lim (J.length + 1)) (
some (.inl (J ++ [v.toNat], IntKind.wrap .i64 (v + 1))))) (
some (.inl (J, IntKind.wrap .i64 (v + 1)))))) (
some (.inr J))
def F41 (n : Nat) (x1 : Nat) (x2 : Nat) (x3 : Nat) (l4 : List (Nat × Nat)) (x8 : Nat) (x9 : Nat) (x10 : Int) (x11 : Int) (x12 : Int) (x13 : Nat) (x14 : Nat) (x15 : Int) (x16 : Int) (x17 : Int) : Option (List (Int × List (Int × Int))) :=
ob (F28 n x1 x2 x3 l4 x8 x9 x10 x11 x12 x13 x14 x15 x16 x17) fun (N1, l1, N2, l2, N3, l3) =>
ob (lpN (L41_1 n N1 l1 N2 l2 N3 l3) n ([], 0)) fun J =>
some (J.map (gOf N1 l1 N2 l2 N3 l3))
def L73_1 (n : Nat) (l1 : List (Int × Int)) (x5 : Int) (x6 : Int) : Int → Option ((Int) ⊕ ((Int) ⊕ (Unit))) := fun v9 =>
br (decide (v9 < (l1.length : Int))) (
gd (inB v9 l1.length) (
ob (l1[v9.toNat]?) fun (x24, x25) =>
br ((decide (x5 = x24) && decide (x6 = x25))) (
some (.inr (.inl v9))) (
some (.inl (IntKind.wrap .i64 (v9 + 1)))))) (
some (.inr (.inr ())))
def F73 (n : Nat) (l1 : List (Int × Int)) (x5 : Int) (x6 : Int) : Option (Int) :=
ob (α := (Int) ⊕ (Unit)) (
lpN (L73_1 n l1 x5 x6) n 0) fun r29 => match r29 with
| .inl v19 =>
some v19
| .inr _ =>
some (-1)
def F48 (n : Nat) (l1 : List (Int × Int)) (x5 : Int) (x6 : Int) : Option (Bool) :=
ob (F73 n l1 x5 x6) fun r9 =>
some (decide (0 ≤ r9))
end Go.Proofs.YtpclggcpobakhaaDoor
end

section
namespace Go.Proofs.YtpclggcpobakhaaDoor
open Go Go.Ab Go.Ab.W
def F54 (n : Nat) (x1 : Nat) : Option (Int) :=
ob (some (uw .u64 ((uw .u64 (uw .u64 (ushr .u64 x1 1) &&& uw .u64 6148914691236517205)) + (uw .u64 (uw .u64 x1 &&& uw .u64 6148914691236517205))))) fun y2 =>
ob (some (uw .u64 ((uw .u64 (uw .u64 (ushr .u64 y2 2) &&& uw .u64 3689348814741910323)) + (uw .u64 (uw .u64 y2 &&& uw .u64 3689348814741910323))))) fun y4 =>
ob (some (uw .u64 (uw .u64 (uw .u64 ((ushr .u64 y4 4) + y4)) &&& uw .u64 1085102592571150095))) fun y6 =>
ob (some (uw .u64 ((uw .u64 (y6 + (ushr .u64 y6 8))) + (ushr .u64 (uw .u64 (y6 + (ushr .u64 y6 8))) 16)))) fun y8 =>
ob (some (iand .i64 (IntKind.wrap .i64 ((uw .u64 (y8 + (ushr .u64 y8 32)) : Nat) : Int)) 127)) fun y10 =>
some y10
def F25 (n : Nat) (x1 : Int) (l2 : List (Int × Int)) (x6 : Nat) : Option (Int) :=
ob (F17 n x1 l2 x6) fun (l9, r12) =>
br (!decide (r12 = 0)) (
some (-1)) (
some (l9.length : Int))
def L12_1 (n : Nat) (l1959 : List Nat) (v2041 : Int) : Int → Option ((Int) ⊕ ((Int) ⊕ (Unit))) := fun v2158 =>
br (decide (v2158 < (l1959.length : Int))) (
gd (inB v2158 l1959.length) (
ob (l1959[v2158.toNat]?) fun x2178 =>
ob (
gd (decide (0 ≤ v2041)) (
some ())) fun _ =>
br (decide (uw .u64 (uw .u64 (ushr .u64 x2178 v2041.toNat) &&& uw .u64 1) = 1)) (
some (.inr (.inl v2158))) (
some (.inl (IntKind.wrap .i64 (v2158 + 1)))))) (
some (.inr (.inr ())))
def L12_2 (n : Nat) (x1945 : Int) (l1959 : List Nat) : (List (Int) × List (Int) × Int) → Option ((List (Int) × List (Int) × Int) ⊕ (List (Int) × List (Int))) := fun (l2039, l2040, v2041) =>
br (decide (v2041 < (x1945.toNat : Int))) (
gd (inB v2041 x1945.toNat) (
ob (l2039[v2041.toNat]?) fun x2123 =>
ob (
ob (α := (Int) ⊕ (Unit)) (
lpN (L12_1 n l1959 v2041) n 0) fun r2186 => match r2186 with
| .inl v2172 =>
some v2172
| .inr _ =>
some (-1)) fun v2156 =>
gd (inB v2041 x1945.toNat) (
ob (l2040[v2041.toNat]?) fun x2190 =>
some (.inl ((l2039.set v2041.toNat v2041), (l2040.set v2041.toNat v2156), IntKind.wrap .i64 (v2041 + 1)))))) (
some (.inr (l2039, l2040)))
def L12_3 (n : Nat) (l1946 : List (Int × Int)) (y2241 : Nat) : (Int × Int) → Option ((Int × Int) ⊕ (Int)) := fun (v2262, v2263) =>
br (decide (v2263 < (l1946.length : Int))) (
ob (
gd (inB v2263 l1946.length) (
ob (l1946[v2263.toNat]?) fun (x2327, x2328) =>
ob (
gd (decide (0 ≤ x2327)) (
br (decide (uw .u64 (uw .u64 (ushr .u64 y2241 x2327.toNat) &&& uw .u64 1) = 0)) (
gd (decide (0 ≤ x2328)) (
some (decide (uw .u64 (uw .u64 (ushr .u64 y2241 x2328.toNat) &&& uw .u64 1) = 0)))) (
some false))) fun v2334 =>
br (v2334) (
some (IntKind.wrap .i64 (v2262 + 1))) (
some v2262))) fun v2323 =>
some (.inl (v2323, IntKind.wrap .i64 (v2263 + 1)))) (
some (.inr v2262))
def L12_4 (n : Nat) (l2248 : List Int) (y2241 : Nat) : Int → Option ((Int) ⊕ ((Unit) ⊕ (Unit))) := fun v2422 =>
br (decide (v2422 < (l2248.length : Int))) (
gd (inB v2422 l2248.length) (
ob (l2248[v2422.toNat]?) fun x2496 =>
ob (
gd (decide (0 ≤ x2496)) (
br (decide (uw .u64 (uw .u64 (ushr .u64 y2241 x2496.toNat) &&& uw .u64 1) = 0)) (
some true) (
br (decide (0 < v2422)) (
gd (inB (IntKind.wrap .i64 (v2422 - 1)) l2248.length) (
ob (l2248[(IntKind.wrap .i64 (v2422 - 1)).toNat]?) fun x2509 =>
some (decide (x2496 ≤ x2509)))) (
some false)))) fun v2504 =>
br (v2504) (
some (.inr (.inl ()))) (
some (.inl (IntKind.wrap .i64 (v2422 + 1)))))) (
some (.inr (.inr ())))
def L12_5 (n : Nat) (l2245 : List (Int × Int)) (l2248 : List Int) (l1946 : List (Int × Int)) : Int → Option ((Int) ⊕ ((Unit) ⊕ (Unit))) := fun v2517 =>
br (decide (v2517 < (l2245.length : Int))) (
gd (inB v2517 l2245.length) (
ob (l2245[v2517.toNat]?) fun (x2545, x2546) =>
gd (inB x2545 l2248.length) (
ob (l2248[x2545.toNat]?) fun x2553 =>
gd (inB x2546 l2248.length) (
ob (l2248[x2546.toNat]?) fun x2556 =>
ob (F48 n l1946 x2553 x2556) fun r2559 =>
br (!r2559) (
some (.inr (.inl ()))) (
some (.inl (IntKind.wrap .i64 (v2517 + 1)))))))) (
some (.inr (.inr ())))
def L12_6 (n : Nat) (l24 : List (Int × List (Int × Int))) (x18 : Nat) : Int → Option ((Int) ⊕ ((Unit) ⊕ (Unit))) := fun v31 =>
br (decide (v31 < (l24.length : Int))) (
ob (α := (Unit) ⊕ (Unit)) (
gd (inB v31 l24.length) (
ob (l24[v31.toNat]?) fun (x1945, l1946) =>
gd (decide (0 ≤ x1945)) (
gd (decide (0 ≤ x1945)) (gd (lim x1945.toNat) (
gd (decide (0 ≤ x1945)) (gd (lim x1945.toNat) (
ob (F17 n x1945 l1946 (usub .u64 (ushl .u64 1 x1945.toNat) 1)) fun (l1959, r1962) =>
br (!decide (r1962 = 0)) (
some (.inl ())) (
ob (
lpN (L12_2 n x1945 l1959) n ((List.replicate x1945.toNat 0), (List.replicate x1945.toNat 0), 0)) fun (l2118, l2119) =>
ob (F22 n x1945 l1946 l2118) fun (r2196, l2197, r2200) =>
ob (F22 n x1945 l1946 l2119) fun (r2203, l2204, r2207) =>
ob (
br (!decide (r2200 = 0)) (
some true) (
br (!decide (r2207 = 0)) (
some true) (
ob (F27 n x1945 l1946 r2196 l2197) fun r2235 =>
br (!r2235) (
some true) (
br (!decide (r2203 = (l1959.length : Int))) (
some true) (
some (!decide ((l2204.length : Int) = 0))))))) fun v2231 =>
br (v2231) (
some (.inl ())) (
ob (some (uw .u64 (uw .u64 x18 &&& uw .u64 (usub .u64 (ushl .u64 1 x1945.toNat) 1)))) fun y2241 =>
ob (F21 n x1945 l1946 y2241) fun (r2244, l2245, l2248, r2251) =>
br (decide (y2241 = 0)) (
br (!decide (r2251 = 2)) (
some (.inl ())) (
some (.inr ()))) (
ob (F15 n x1945 l1946 y2241) fun (l2256, r2259) =>
ob (
lpN (L12_3 n l1946 y2241) n (0, 0)) fun v2304 =>
ob (
br (!decide (r2251 = 0)) (
some true) (
br (!decide (r2259 = 0)) (
some true) (
ob (F54 n y2241) fun r2404 =>
br (!decide (r2244 = r2404)) (
some true) (
br (!decide ((l2248.length : Int) = r2244)) (
some true) (
ob (some (IntKind.wrap .i64 ((IntKind.wrap .i64 ((l2245.length : Int) + (l2256.length : Int))) + v2304))) fun y2407 =>
br (!decide (y2407 = (l1946.length : Int))) (
some true) (
ob (F23 n r2244 l2245) fun r2411 =>
br (!decide (r2411 = 0)) (
some true) (
gd (decide (0 ≤ r2244)) (
ob (F25 n r2244 l2245 (usub .u64 (ushl .u64 1 r2244.toNat) 1)) fun r2415 =>
ob (F25 n x1945 l1946 y2241) fun r2417 =>
some (!decide (r2415 = r2417)))))))))) fun v2400 =>
br (v2400) (
some (.inl ())) (
ob (α := (Unit) ⊕ (Unit)) (
lpN (L12_4 n l2248 y2241) n 0) fun r2515 => match r2515 with
| .inl _ =>
some (.inl ())
| .inr _ =>
ob (α := (Unit) ⊕ (Unit)) (
lpN (L12_5 n l2245 l2248 l1946) n 0) fun r2562 => match r2562 with
| .inl _ =>
some (.inl ())
| .inr _ =>
some (.inr ())))))))))))) fun r2564 => match r2564 with
| .inl _ =>
some (.inr (.inl ()))
| .inr _ =>
some (.inl (IntKind.wrap .i64 (v31 + 1)))) (
some (.inr (.inr ())))
def F12 (n : Nat) (x1 : Nat) (x2 : Nat) (x3 : Nat) (l4 : List (Nat × Nat)) (x8 : Nat) (x9 : Nat) (x10 : Int) (x11 : Int) (x12 : Int) (x13 : Nat) (x14 : Nat) (x15 : Int) (x16 : Int) (x17 : Int) (x18 : Nat) : Option (Bool) :=
ob (F13 n ) fun r22 =>
br (!r22) (
some false) (
ob (F41 n x1 x2 x3 l4 x8 x9 x10 x11 x12 x13 x14 x15 x16 x17) fun l24 =>
ob (α := (Unit) ⊕ (Unit)) (
lpN (L12_6 n l24 x18) n 0) fun r2566 => match r2566 with
| .inl _ =>
some false
| .inr _ =>
some true)
end Go.Proofs.YtpclggcpobakhaaDoor
end

section
namespace Go.Proofs.YtpclggcpobakhaaDoor.W52
open Go Go.Ab Go.Ab.W Go.Proofs.YtpclggcpobakhaaDoor
set_option maxRecDepth 10000
set_option maxHeartbeats 4000000
attribute [local irreducible] Tm.at Trie.set Trie.get AMem.get AMem.set AMem.alloc AMem.ww AMem.kill
theorem _root_.Go.Ab.W.Wo.lenA {dr : Bool} {E : Env} {n : Nat} {ops : Array Oper} {K : Tm → AMem → Prop} {os : List Oper} {m0 : AMem} {fs : Fs} {ps : List Pc} {α : Type} {f : α → List Value} {k w l b : Nat} {tg : Tag} {xs : List α} (hp : pk ps k = some (.arr b w l (xs.map f) tg)) (h : xs.length = l → Wo dr E n ops K os m0 fs ps) : Wo dr E n ops K os m0 fs ps := by
  have key : ∀ m, Hp m0 m ps → xs.length = l := fun m hm => by
    have := (hm.get hp).2.2.2.1
    simpa using this
  cases dr with
  | false => exact fun t m hf hm => h (key m hm) t m hf hm
  | true => exact fun t m w hf hm hw => h (key m hm) t m w hf hm hw
theorem u36 : E18w.P.underlying 36 = some (.slice 28) := by kernel_rfl
theorem s36 : SlT E18w.P 36 28 1 := SlT.of (by kernel_rfl)
theorem t28 : TyI E18w.P 28 false 1 := ⟨by kernel_rfl, by kernel_rfl, by kernel_rfl⟩
theorem t3 : TyI E18w.P 3 false 1 := ⟨by kernel_rfl, by kernel_rfl, by kernel_rfl⟩
theorem f53_use (x : Nat) (v : Int) (b : Nat) (h0 : decide (0 ≤ v) = true) (m : AMem) (h1 : Rd m (some ⟨b, 0, none⟩) 1 1 1 ([v].map (eI .i64))) :
    CallA E18w 53 [.int .u64 ((x : Nat) : Int), ptr b 0] m (fun w m' => ∃ _ : Unit, w = .bool (decide (uw .u64 (uw .u64 (ushr .u64 x v.toNat) &&& uw .u64 1) = 1)) ∧ Hp m m' []) := by
  refine call_wk (m0 := m) (ps := [.rd (some ⟨b, 0, none⟩) 1 1 1 ([v].map (eI .i64))]) (N := 9) (rs := [.tmp 3]) rfl Tryd.func53 rfl rfl rfl ((Hp.start m).inn rfl h1) ?_
  refine Wk.seq ?_
  refine Wk.region ?_
  refine Wo.od (o_as rfl) rfl ?_
  refine Wo.nil ?_
  refine At.tn ?_
  refine Wk.seq ?_
  refine Wk.region ?_
  refine Wo.od (o_mv rfl) rfl ?_
  refine Wo.openr (k := 0) rfl (by decide) ?_
  rintro b' o' e
  obtain ⟨rfl, rfl⟩ : b = b' ∧ 0 = o' := by simpa using e
  refine Wo.od (o_ldr (k := 0) (j := 0) (o := 0) (c := 0) t3 rfl rfl rfl rfl rfl) rfl ?_
  refine Wo.od (o_bi rfl rfl (ub_shr _ _ h0)) rfl ?_
  refine Wo.od (o_bi rfl rfl (ub_and rfl _ _)) rfl ?_
  refine Wo.od (o_bi rfl rfl (ub_eql _ _)) rfl ?_
  refine Wo.od (o_as rfl) rfl ?_
  refine Wo.nil ?_
  refine At.tn ?_
  refine Wk.ret ?_
  exact At.ret (.tmp rfl .nil) fun m' hm => ⟨(), rfl, (Turn.picks [] rfl rfl) m' hm⟩
theorem f52_use (n : Nat) (l : List Nat) (v : Int) (a : Option Addr) (c b : Nat) (r : Int)
    (hF : (ob (α := (Int) ⊕ (Unit)) (lpN (L12_1 n l v) n 0) fun r2186 => match r2186 with | .inl v2172 => some v2172 | .inr _ => some (-1)) = some r) (m : AMem) (h1 : Rd m a c 1 l.length (l.map (eN .u64))) (h2 : Rd m (some ⟨b, 0, none⟩) 1 1 1 ([v].map (eI .i64))) :
    CallA E18w 52 [.slice a l.length c, .func (.func 53) #[] #[ptr b 0]] m (fun w m' => ∃ _ : Unit, w = .int .i64 r ∧ Hp m m' []) := by
  refine call_wk (m0 := m) (ps := [.rd a c 1 l.length (l.map (eN .u64)), .rd (some ⟨b, 0, none⟩) 1 1 1 ([v].map (eI .i64))]) (N := 19) (rs := [.tmp 4]) rfl Tryd.func52 rfl rfl rfl (((Hp.start m).inn rfl h2).inn rfl h1) ?_
  refine Wk.seq ?_
  refine Wk.region ?_
  refine Wo.od (o_as rfl) rfl ?_
  refine Wo.nil ?_
  refine At.tn ?_
  refine Wk.seq ?_
  refine Wk.seq ?_
  refine Wk.region ?_
  refine Wo.od (o_mv rfl) rfl ?_
  refine Wo.od (o_ln (k := 0) u36 rfl rfl (.inl rfl)) rfl ?_
  refine Wo.od (o_mv rfl) rfl ?_
  refine Wo.nil ?_
  refine At.tn ?_
  refine Wk.block ?_
  obtain ⟨r2186, h2185, hF⟩ := ob_some hF
  refine Wk.cut (G := (fun (r : (Int) ⊕ (Unit)) (g : Unit) => match r, g with | .inl v2172, _ => ⟨.ret, [(4, .int .i64 v2172)], []⟩ | .inr _, _ => ⟨(.exit 0), [], []⟩) r2186) ?_ ?_
  · refine Wk.weak (fs' := [(0, .slice a l.length c), (1, .func (.func 53) #[] #[ptr b 0]), (7, .int .i64 (l.length : Int)), (8, .int .i64 0)]) (ps' := [.rd a c 1 l.length (l.map (eN .u64)), .rd (some ⟨b, 0, none⟩) 1 1 1 ([v].map (eI .i64))]) (sc rfl (sc rfl (sc rfl (sc rfl sn)))) (Turn.picks [0, 1] rfl rfl) ?_
    refine Wk.loop (σ := Int) (ρ := (Int) ⊕ (Unit)) (γ := Unit) (δ := fun _ => Unit) _ (fun (s : Int) (g : Unit) => match s, g with | v2158, _ => ⟨.normal, [(0, .slice a l.length c), (1, .func (.func 53) #[] #[ptr b 0]), (7, .int .i64 (l.length : Int)), (8, .int .i64 v2158)], [.rd a c 1 l.length (l.map (eN .u64)), .rd (some ⟨b, 0, none⟩) 1 1 1 ([v].map (eI .i64))]⟩) (fun (r : (Int) ⊕ (Unit)) (g : Unit) => match r, g with | .inl v2172, _ => ⟨.ret, [(4, .int .i64 v2172)], []⟩ | .inr _, _ => ⟨(.exit 0), [], []⟩) ?_ (fun _ _ => rfl) (fun r d => by intro e; rcases r with _ | _ <;> cases e) _ _ _ h2185 ()
    clear hF h2185
    rintro v2158 ⟨⟩ r hF
    unfold L12_1 at hF
    refine Wk.seq ?_
    refine Wk.region ?_
    refine Wo.od (o_bi rfl rfl (bin_lss _ _ _)) rfl ?_
    refine Wo.nil ?_
    refine At.tn ?_
    refine Wk.seq ?_
    rcases br_some hF with ⟨h2173, hF⟩ | ⟨h2173, hF⟩
    · refine Wk.condT rfl h2173 ?_
      refine Wk.skip ?_
      refine At.tn ?_
      refine Wk.seq ?_
      refine Wk.block ?_
      refine Wk.seq ?_
      refine Wk.region ?_
      refine Wo.od (o_mv rfl) rfl ?_
      refine Wo.od (o_as rfl) rfl ?_
      refine Wo.nil ?_
      refine At.tn ?_
      refine Wk.seq ?_
      refine Wk.region ?_
      refine Wo.od (o_mv rfl) rfl ?_
      refine Wo.od (o_mv rfl) rfl ?_
      refine Wo.od (o_mv rfl) rfl ?_
      obtain ⟨h2174, hF⟩ := gd_some hF
      replace h2174 := inB_some h2174
      refine Wo.openr (k := 0) rfl (pos_of h2174) ?_
      rintro b2175 o2176 rfl
      refine Wo.og (o_ixs s36 rfl rfl h2174) gn rfl ?_
      obtain ⟨x2178, h2179, hF⟩ := ob_some hF
      refine Wo.od (o_ldr (k := 0) t28 rfl rfl (map_at h2179) rfl rfl) rfl ?_
      obtain ⟨r2182, h2183, hF⟩ := ob_some hF
      obtain ⟨h2181, _⟩ := gd_some h2183
      refine Wo.x (o_cs (α := Unit) (V := fun _ => .bool (decide (uw .u64 (uw .u64 (ushr .u64 x2178 v.toNat) &&& uw .u64 1) = 1))) (N := fun _ => [.ro b2175 o2176 1 l.length (l.map (eN .u64)), .rd (some ⟨b2175, o2176, none⟩) c 1 l.length (l.map (eN .u64)), .rd (some ⟨b, 0, none⟩) 1 1 1 ([v].map (eI .i64))]) rfl rfl fun m2 hm => (f53_use x2178 v b h2181 m2 (hm.rd (k := 2) rfl (.rd _ _ _ _ _))).mono fun w m' ⟨x, e, h⟩ => ⟨x, e, hm.after h fun p hp => (by cases hp)⟩) gn rfl ?_
      rintro ⟨⟩
      refine Wo.nil ?_
      refine At.tn ?_
      rcases br_some hF with ⟨h2184, hF⟩ | ⟨h2184, hF⟩
      · refine Wk.condT rfl h2184 ?_
        refine Wk.seq ?_
        refine Wk.region ?_
        refine Wo.od (o_mv rfl) rfl ?_
        refine Wo.od (o_as rfl) rfl ?_
        refine Wo.nil ?_
        refine At.tn ?_
        refine Wk.ret ?_
        refine At.br ?_
        refine At.tr ?_
        cases hF
        exact At.en () rfl (sc rfl sn) (Turn.picks [] rfl rfl)
      · refine Wk.condF rfl h2184 ?_
        refine Wk.skip ?_
        refine At.bn ?_
        refine At.tn ?_
        refine Wk.region ?_
        refine Wo.od (o_bi rfl rfl (bin_add _ _ _)) rfl ?_
        refine Wo.od (o_mv rfl) rfl ?_
        refine Wo.nil ?_
        cases hF
        exact At.en () rfl (sc rfl (sc rfl (sc rfl (sc rfl sn)))) (Turn.picks [1, 2] rfl rfl)
    · refine Wk.condF rfl h2173 ?_
      refine Wk.exit ?_
      refine At.te ?_
      cases hF
      exact At.en () rfl sn (Turn.picks [] rfl rfl)
  · clear h2185
    rcases r2186 with v2172 | _
    · rintro ⟨⟩
      refine At.br ?_
      refine At.tr ?_
      have hr := Option.some.inj hF
      subst r
      exact At.ret (.tmp rfl .nil) fun m' hm => ⟨(), rfl, (Turn.picks [] rfl rfl) m' hm⟩
    · rintro ⟨⟩
      refine At.be ?_
      refine At.tn ?_
      refine Wk.seq ?_
      refine Wk.region ?_
      refine Wo.od (o_as rfl) rfl ?_
      refine Wo.nil ?_
      refine At.tn ?_
      refine Wk.ret ?_
      cases hF
      exact At.ret (.tmp rfl .nil) fun m' hm => ⟨(), rfl, (Turn.picks [] rfl rfl) m' hm⟩
end Go.Proofs.YtpclggcpobakhaaDoor.W52
end

section
namespace Go.Proofs.YtpclggcpobakhaaDoor.W0
open Go Go.Ab Go.Ab.W Go.Proofs.YtpclggcpobakhaaDoor
set_option maxRecDepth 10000
set_option maxHeartbeats 4000000
attribute [local irreducible] Tm.at Trie.set Trie.get AMem.get AMem.set AMem.alloc AMem.ww AMem.kill
theorem fu27 : E18w.P.underlying 27 = some (.slice 25) := by kernel_rfl
theorem fs27 : SlT E18w.P 27 25 2 := SlT.of (by kernel_rfl)
theorem fz25 : zeroA E18w.P 25 = some (.agg #[.int .i64 0, .slice none 0 0]) := by kernel_rfl
theorem ft25 : TyI E18w.P 25 true 2 := ⟨by kernel_rfl, by kernel_rfl, by kernel_rfl⟩
theorem ft55 : TyI E18w.P 55 true 4 := ⟨by kernel_rfl, by kernel_rfl, by kernel_rfl⟩
theorem ft58 : TyI E18w.P 58 true 10 := ⟨by kernel_rfl, by kernel_rfl, by kernel_rfl⟩
theorem far59 : ArT E18w.P 59 25 3 2 := ⟨by kernel_rfl, by kernel_rfl, by kernel_rfl⟩
abbrev enE : Int × Int → List Value := eP (eI .i64) (eI .i64)
def cOf (N1 : Int) (a1 : Option Addr) (l1 : List (Int × Int)) (N2 : Int) (a2 : Option Addr) (l2 : List (Int × Int)) (N3 : Int) (a3 : Option Addr) (l3 : List (Int × Int)) (j : Nat) : List Value :=
 match j with
 | 0 => [.int .i64 N1, .slice a1 l1.length l1.length]
 | 1 => [.int .i64 N2, .slice a2 l2.length l2.length]
 | _ => [.int .i64 N3, .slice a3 l3.length l3.length]
theorem cOf_two (N1 : Int) (a1 : Option Addr) (l1 : List (Int × Int)) (N2 : Int) (a2 : Option Addr) (l2 : List (Int × Int)) (N3 : Int) (a3 : Option Addr) (l3 : List (Int × Int)) (j : Nat) : (cOf N1 a1 l1 N2 a2 l2 N3 a3 l3 j).length = 2 ∧ (cOf N1 a1 l1 N2 a2 l2 N3 a3 l3 j).all oneC = true := by
 unfold cOf
 split <;> exact ⟨rfl, rfl⟩
section
variable {m0 : AMem} {n : Nat} {N1 N2 N3 : Int} {a1 a2 a3 : Option Addr} {l1 l2 l3 : List (Int × Int)}
abbrev AGG (N1 : Int) (a1 : Option Addr) (l1 : List (Int × Int)) (N2 : Int) (a2 : Option Addr) (l2 : List (Int × Int)) (N3 : Int) (a3 : Option Addr) (l3 : List (Int × Int)) : Value := .agg #[.int .i64 N1, .slice a1 l1.length l1.length, .int .i64 N2, .slice a2 l2.length l2.length, .int .i64 N3, .slice a3 l3.length l3.length]
abbrev iFs (N1 : Int) (a1 : Option Addr) (l1 : List (Int × Int)) (N2 : Int) (a2 : Option Addr) (l2 : List (Int × Int)) (N3 : Int) (a3 : Option Addr) (l3 : List (Int × Int)) (o : Option Addr) (J : List Nat) (i : Int) : Fs := [(5, .slice o J.length J.length), (10, AGG N1 a1 l1 N2 a2 l2 N3 a3 l3), (11, .int .i64 i)]
abbrev iPs (N1 : Int) (a1 : Option Addr) (l1 : List (Int × Int)) (N2 : Int) (a2 : Option Addr) (l2 : List (Int × Int)) (N3 : Int) (a3 : Option Addr) (l3 : List (Int × Int)) (o : Option Addr) (J : List Nat) : List Pc := [.sl o 2 J.length (J.map (cOf N1 a1 l1 N2 a2 l2 N3 a3 l3)), .rd a1 l1.length 2 l1.length (l1.map enE), .rd a2 l2.length 2 l2.length (l2.map enE), .rd a3 l3.length 2 l3.length (l3.map enE)]
def aOf (a1 a2 a3 : Option Addr) (j : Nat) : Option Addr :=
 match j with
 | 0 => a1
 | 1 => a2
 | _ => a3
theorem ix59 : ∀ j : Nat, j < 3 → indexA E18w.P 59 (AGG N1 a1 l1 N2 a2 l2 N3 a3 l3) (.int .i64 (j : Int)) = some (.agg #[.int .i64 (gOf N1 l1 N2 l2 N3 l3 j).1, .slice (aOf a1 a2 a3 j) (gOf N1 l1 N2 l2 N3 l3 j).2.length (gOf N1 l1 N2 l2 N3 l3 j).2.length])
 | 0, _ => ix_c far59 (i := 0) (by decide) (part_a ft25 rfl)
 | 1, _ => ix_c far59 (i := 1) (by decide) (part_a ft25 rfl)
 | 2, _ => ix_c far59 (i := 2) (by decide) (part_a ft25 rfl)
theorem pk59 {o : Option Addr} {J : List Nat} : ∀ j : Nat, j < 3 → pk (iPs N1 a1 l1 N2 a2 l2 N3 a3 l3 o J) (j + 1) = some (.rd (aOf a1 a2 a3 j) (gOf N1 l1 N2 l2 N3 l3 j).2.length 2 (gOf N1 l1 N2 l2 N3 l3 j).2.length ((gOf N1 l1 N2 l2 N3 l3 j).2.map enE))
 | 0, _ => rfl
 | 1, _ => rfl
 | 2, _ => rfl
theorem cOf_eq (j : Nat) : cOf N1 a1 l1 N2 a2 l2 N3 a3 l3 j = [.int .i64 (gOf N1 l1 N2 l2 N3 l3 j).1, .slice (aOf a1 a2 a3 j) (gOf N1 l1 N2 l2 N3 l3 j).2.length (gOf N1 l1 N2 l2 N3 l3 j).2.length] := by
 match j with
 | 0 => rfl
 | 1 => rfl
 | _ + 2 => rfl
theorem enC : Enc (cOf N1 a1 l1 N2 a2 l2 N3 a3 l3) 2 := ⟨fun j => (cOf_two N1 a1 l1 N2 a2 l2 N3 a3 l3 j).1, fun j => (cOf_two N1 a1 l1 N2 a2 l2 N3 a3 l3 j).2⟩
def fitI (N1 : Int) (a1 : Option Addr) (l1 : List (Int × Int)) (N2 : Int) (a2 : Option Addr) (l2 : List (Int × Int)) (N3 : Int) (a3 : Option Addr) (l3 : List (Int × Int)) (s : List Nat × Int) (o : Option Addr) : En := ⟨.normal, iFs N1 a1 l1 N2 a2 l2 N3 a3 l3 o s.1 s.2, iPs N1 a1 l1 N2 a2 l2 N3 a3 l3 o s.1⟩
def fitX (N1 : Int) (a1 : Option Addr) (l1 : List (Int × Int)) (N2 : Int) (a2 : Option Addr) (l2 : List (Int × Int)) (N3 : Int) (a3 : Option Addr) (l3 : List (Int × Int)) (J : List Nat) (o : Option Addr) : En := ⟨.exit 0, [(5, .slice o J.length J.length)], iPs N1 a1 l1 N2 a2 l2 N3 a3 l3 o J⟩
end
theorem f41_ok (n : Nat) (x1 : Nat) (x2 : Nat) (x3 : Nat) (l4 : List (Nat × Nat)) (x8 : Nat) (x9 : Nat) (x10 : Int) (x11 : Int) (x12 : Int) (x13 : Nat) (x14 : Nat) (x15 : Int) (x16 : Int) (x17 : Int) (a5 : Option Addr) (c6 : Nat) (r : List (Int × List (Int × Int))) (hF : F41 n x1 x2 x3 l4 x8 x9 x10 x11 x12 x13 x14 x15 x16 x17 = some r) (m : AMem) (h7 : Rd m a5 c6 2 l4.length (l4.map (eP (eN .u8) (eN .u8)))) :
  CallA E18w 41 [.agg #[.int .u8 ((x1 : Nat) : Int), .int .u8 ((x2 : Nat) : Int), .int .u16 ((x3 : Nat) : Int), .slice a5 l4.length c6], .agg #[.int .u8 ((x8 : Nat) : Int), .int .u8 ((x9 : Nat) : Int), .int .i64 x10, .int .i64 x11, .int .i64 x12, .int .u8 ((x13 : Nat) : Int), .int .u8 ((x14 : Nat) : Int), .int .i64 x15, .int .i64 x16, .int .i64 x17]] m (fun v m' => ∃ a : Option Addr, v = .slice a r.length r.length ∧ Ext m m' ∧ Gs m' a r.length r.length r) := by
 unfold F41 at hF
 refine call_wk (m0 := m) (ps := [.rd a5 c6 2 l4.length (l4.map (eP (eN .u8) (eN .u8)))]) (N := 23) (rs := [.tmp 4]) rfl Tryd.func41 rfl rfl rfl ((Hp.start m).inn rfl h7) ?_
 refine Wk.seq ?_
 refine Wk.region ?_
 refine Wo.x (o_bx rfl) gn rfl fun b19 => ?_
 refine Wo.x (o_bx rfl) gn rfl fun b20 => ?_
 refine Wo.od (o_as rfl) rfl ?_
 refine Wo.nil ?_
 refine At.tn ?_
 refine Wk.seq ?_
 refine Wk.region ?_
 refine Wo.od (o_as rfl) rfl ?_
 refine Wo.nil ?_
 refine At.tn ?_
 refine Wk.seq ?_
 refine Wk.seq ?_
 refine Wk.region ?_
 refine Wo.od (o_ld (k := 1) ft55 rfl rfl rfl) rfl ?_
 refine Wo.od (o_ld (k := 0) ft58 rfl rfl rfl) rfl ?_
 obtain ⟨⟨N1, l1, N2, l2, N3, l3⟩, h21, hF⟩ := ob_some hF
 refine Wo.x (o_cl rfl rfl (fun m hm => f28_ok n x1 x2 x3 l4 x8 x9 x10 x11 x12 x13 x14 x15 x16 x17 a5 c6 _ h21 m (hm.rd (k := 2) rfl (.rd _ _ _ _ _))) fun _ => rfl) gn rfl ?_
 rintro ⟨a1, n1, a2, n2, a3, n3⟩
 refine Wo.len (k := 0) (xs := l1) rfl ?_
 rintro rfl
 refine Wo.len (k := 1) (xs := l2) rfl ?_
 rintro rfl
 refine Wo.len (k := 2) (xs := l3) rfl ?_
 rintro rfl
 refine Wo.od (o_mv rfl) rfl ?_
 refine Wo.nil ?_
 refine At.tn ?_
 refine Wk.block ?_
 obtain ⟨J, h22, hF⟩ := ob_some hF
 cases hF
 refine Wk.cut (G := fitX N1 a1 l1 N2 a2 l2 N3 a3 l3 J) ?_ ?_
 ·refine Wk.weak (fs' := iFs N1 a1 l1 N2 a2 l2 N3 a3 l3 none [] 0) (ps' := iPs N1 a1 l1 N2 a2 l2 N3 a3 l3 none []) (sc rfl (sc rfl (sc rfl sn))) (Turn.trans (Turn.freeze (k := 0) rfl) (Turn.trans (Turn.freeze (k := 1) rfl) (Turn.trans (Turn.freeze (k := 2) rfl) (Turn.trans (Turn.nil 2 rfl) (Turn.picks [0, 1, 2, 3] rfl rfl))))) ?_
  refine Wk.loop (σ := List Nat × Int) (ρ := List Nat) (γ := Option Addr) (δ := fun _ => Option Addr) _ (fitI N1 a1 l1 N2 a2 l2 N3 a3 l3) (fitX N1 a1 l1 N2 a2 l2 N3 a3 l3) ?_ (fun _ _ => rfl) (fun r d => by intro e; cases e) _ _ _ h22 none
  clear h22
  rintro ⟨J, i⟩ o r hF
  unfold L41_1 at hF
  show Wk _ _ _ _ _ _ _ (iFs N1 a1 l1 N2 a2 l2 N3 a3 l3 o J i) (iPs N1 a1 l1 N2 a2 l2 N3 a3 l3 o J)
  refine Wk.seq ?_
  refine Wk.region ?_
  refine Wo.od (o_bi rfl rfl (bin_lss _ _ _)) rfl ?_
  refine Wo.nil ?_
  refine At.tn ?_
  refine Wk.seq ?_
  rcases br_some hF with ⟨h23, hF⟩ | ⟨h23, hF⟩
  ·refine Wk.condT rfl h23 ?_
   refine Wk.skip ?_
   refine At.tn ?_
   obtain ⟨h24, hF⟩ := gd_some hF
   obtain ⟨hi0, hi3⟩ := inB_some h24
   obtain ⟨j, rfl⟩ := Int.eq_ofNat_of_zero_le hi0
   rw [Int.toNat_natCast] at hF hi3
   have hix := ix59 (N1 := N1) (N2 := N2) (N3 := N3) (a1 := a1) (a2 := a2) (a3 := a3) (l1 := l1) (l2 := l2) (l3 := l3) j hi3
   have hpk := pk59 (N1 := N1) (N2 := N2) (N3 := N3) (a1 := a1) (a2 := a2) (a3 := a3) (l1 := l1) (l2 := l2) (l3 := l3) (o := o) (J := J) j hi3
   have hce := cOf_eq (N1 := N1) (N2 := N2) (N3 := N3) (a1 := a1) (a2 := a2) (a3 := a3) (l1 := l1) (l2 := l2) (l3 := l3) j
   generalize gOf N1 l1 N2 l2 N3 l3 j = g at hF hix hpk hce
   generalize aOf a1 a2 a3 j = aj at hix hpk hce
   obtain ⟨N, l⟩ := g
   simp only at hF hix hpk hce
   refine Wk.seq ?_
   refine Wk.block ?_
   refine Wk.seq ?_
   refine Wk.region ?_
   refine Wo.od (o_ix rfl rfl hix) rfl ?_
   refine Wo.x (o_al fz25 rfl) gn rfl fun b => ?_
   refine Wo.o0 (o_st (k := 0) ft25 rfl rfl rfl rfl rfl) ?_
   refine Wo.nil ?_
   refine At.tn ?_
   refine Wk.seq ?_
   refine Wk.region ?_
   refine Wo.od (o_ld (k := 0) ft25 rfl rfl rfl) rfl ?_
   obtain ⟨e, h25, hF⟩ := ob_some hF
   refine Wo.x (o_cl rfl rfl (fun m hm => f23_ok n N l aj l.length _ h25 m (hm.rd (k := j + 2) hpk (.rd _ _ _ _ _))) fun _ => rfl) gn rfl ?_
   rintro ⟨⟩
   refine Wo.od (o_bi rfl rfl (bin_eql _ _ _)) rfl ?_
   refine Wo.nil ?_
   refine At.tn ?_
   rcases br_some hF with ⟨h26, hF⟩ | ⟨h26, hF⟩
   ·obtain ⟨h27, hF⟩ := gd_some hF
    refine Wk.condT rfl h26 ?_
    refine Wk.region ?_
    refine Wo.od (o_mv rfl) rfl ?_
    refine Wo.od (o_ld (k := 0) ft25 rfl rfl rfl) rfl ?_
    refine Wo.x (o_bs (es := ([j] : List Nat).map (cOf N1 a1 l1 N2 a2 l2 N3 a3 l3)) fs27 rfl (bs_c fs27 fz25 rfl (by simp only [List.map_cons, List.map_nil, List.flatten_cons, List.flatten_nil, hce]; rfl)) rfl (by simp only [List.map_cons, List.map_nil, hce]; rfl)) gn rfl fun b2 => ?_
    refine Wo.turn (Turn.close (k := 0) rfl) ?_
    refine Wo.x (o_apl (k := 2) (k2 := 0) (xs := J) (ys := [j]) enC fs27 ⟨_, fu27⟩ rfl rfl rfl (.sl _ _ _ _) (by simpa using h27)) gn rfl fun o2 => ?_
    refine Wo.od (o_as rfl) rfl ?_
    refine Wo.nil ?_
    refine At.bn ?_
    refine At.tn ?_
    refine Wk.region ?_
    refine Wo.od (o_bi rfl rfl (bin_add _ _ _)) rfl ?_
    refine Wo.od (o_mv rfl) rfl ?_
    refine Wo.nil ?_
    cases hF
    exact At.en o2 rfl (sc rfl (sc rfl (sc rfl sn))) (Turn.picks [2, 3, 4, 5] rfl rfl)
   ·refine Wk.condF rfl h26 ?_
    refine Wk.skip ?_
    refine At.bn ?_
    refine At.tn ?_
    refine Wk.region ?_
    refine Wo.od (o_bi rfl rfl (bin_add _ _ _)) rfl ?_
    refine Wo.od (o_mv rfl) rfl ?_
    refine Wo.nil ?_
    cases hF
    exact At.en o rfl (sc rfl (sc rfl (sc rfl sn))) (Turn.picks [1, 2, 3, 4] rfl rfl)
  ·refine Wk.condF rfl h23 ?_
   refine Wk.exit ?_
   refine At.te ?_
   cases hF
   exact At.en o rfl (sc rfl sn) Turn.refl
 ·intro o
  show At _ (.exit 0) _ [(5, .slice o J.length J.length)] (iPs N1 a1 l1 N2 a2 l2 N3 a3 l3 o J)
  refine At.be ?_
  refine At.tn ?_
  refine Wk.seq ?_
  refine Wk.region ?_
  refine Wo.od (o_mv rfl) rfl ?_
  refine Wo.od (o_as rfl) rfl ?_
  refine Wo.nil ?_
  refine At.tn ?_
  refine Wk.ret ?_
  refine At.ret (.tmp rfl .nil) fun m' hm => ⟨o, by rw [List.length_map]; rfl, hm.ext, ?_⟩
  rw [List.length_map]
  refine ⟨List.length_map _, Nat.le_refl _, ?_⟩
  have hrd : ∀ j, Rd m' (aOf a1 a2 a3 j) (gOf N1 l1 N2 l2 N3 l3 j).2.length 2 (gOf N1 l1 N2 l2 N3 l3 j).2.length ((gOf N1 l1 N2 l2 N3 l3 j).2.map enE) := fun j => by
   match j with
   | 0 => exact hm.get (k := 1) rfl
   | 1 => exact hm.get (k := 2) rfl
   | _ + 2 => exact hm.get (k := 3) rfl
  rcases hm.get (k := 0) rfl with ⟨h0, _, h2, _⟩ | ⟨b, tg, rfl, hown⟩
  ·exact .inl ⟨h2, h0⟩
  ·obtain ⟨hb, all, tg', h1, h2, h3⟩ := hown.lies
   refine .inr ⟨b, 0, rfl, hb, all, tg', h1, h2, fun i g hg => ?_⟩
   rw [List.getElem?_map] at hg
   obtain ⟨j, hj, rfl⟩ := Option.map_eq_some_iff.1 hg
   have := (h3 i (cOf N1 a1 l1 N2 a2 l2 N3 a3 l3 j) (by rw [List.getElem?_map, hj]; rfl)).1
   rw [cOf_eq] at this
   exact ⟨_, _, this, hrd j⟩
end Go.Proofs.YtpclggcpobakhaaDoor.W0
end

section
namespace Go.Proofs.YtpclggcpobakhaaDoor.W12
open Go Go.Ab Go.Ab.W Go.Proofs.YtpclggcpobakhaaDoor Go.Proofs.YtpclggcpobakhaaDoor.W0
set_option maxRecDepth 10000
set_option maxHeartbeats 4000000
attribute [local irreducible] Tm.at Trie.set Trie.get AMem.get AMem.set AMem.alloc AMem.ww AMem.kill
theorem t55 : TyI E18w.P 55 true 4 := ⟨by kernel_rfl, by kernel_rfl, by kernel_rfl⟩
theorem t58 : TyI E18w.P 58 true 10 := ⟨by kernel_rfl, by kernel_rfl, by kernel_rfl⟩
theorem u27 : E18w.P.underlying 27 = some (.slice 25) := by kernel_rfl
theorem z25 : zeroA E18w.P 25 = some (.agg #[.int .i64 0, .slice none 0 0]) := by kernel_rfl
theorem t25 : TyI E18w.P 25 true 2 := ⟨by kernel_rfl, by kernel_rfl, by kernel_rfl⟩
theorem fa25_0 : ∀ b o, fieldAddrA E18w.P 25 (ptr b o) 0 = some (ptr b (o + 0)) := fun _ _ => by kernel_rfl
theorem t3 : TyI E18w.P 3 false 1 := ⟨by kernel_rfl, by kernel_rfl, by kernel_rfl⟩
theorem z3 : zeroA E18w.P 3 = some (.int .i64 0) := by kernel_rfl
theorem u28 : E18w.P.underlying 28 = some (.int .u64) := by kernel_rfl
theorem u5 : E18w.P.underlying 5 = some (.int .u8) := by kernel_rfl
theorem u9 : E18w.P.underlying 9 = some (.string) := by kernel_rfl
theorem u3 : E18w.P.underlying 3 = some (.int .i64) := by kernel_rfl
theorem z28 : zeroA E18w.P 28 = some (.int .u64 ((0 : Nat) : Int)) := by kernel_rfl
theorem fa25_1 : ∀ b o, fieldAddrA E18w.P 25 (ptr b o) 1 = some (ptr b (o + 1)) := fun _ _ => by kernel_rfl
theorem t23 : TyI E18w.P 23 false 1 := ⟨by kernel_rfl, by kernel_rfl, by kernel_rfl⟩
theorem u23 : E18w.P.underlying 23 = some (.slice 26) := by kernel_rfl
theorem s23 : SlT E18w.P 23 26 2 := SlT.of (by kernel_rfl)
theorem t26 : TyI E18w.P 26 true 2 := ⟨by kernel_rfl, by kernel_rfl, by kernel_rfl⟩
theorem z26 : zeroA E18w.P 26 = some (.agg #[.int .i64 0, .int .i64 0]) := by kernel_rfl
theorem ar26 : ArT E18w.P 26 3 2 1 := ⟨by kernel_rfl, by kernel_rfl, by kernel_rfl⟩
theorem s36 : SlT E18w.P 36 28 1 := SlT.of (by kernel_rfl)
theorem t28 : TyI E18w.P 28 false 1 := ⟨by kernel_rfl, by kernel_rfl, by kernel_rfl⟩
theorem z36 : zeroA E18w.P 36 = some (.slice none 0 0) := by kernel_rfl
theorem t36 : TyI E18w.P 36 false 1 := ⟨by kernel_rfl, by kernel_rfl, by kernel_rfl⟩
theorem u36 : E18w.P.underlying 36 = some (.slice 28) := by kernel_rfl
theorem u39 : E18w.P.underlying 39 = some (.slice 3) := by kernel_rfl
theorem s39 : SlT E18w.P 39 3 1 := SlT.of (by kernel_rfl)
theorem bs25 : BdT E18w.P 25 (.agg #[.int .i64 0, .slice none 0 0]) [(0, 1), (1, 1)] := .mk' (by kernel_rfl) (by kernel_rfl)
theorem bs26 : BdT E18w.P 26 (.agg #[.int .i64 0, .int .i64 0]) [(0, 1), (1, 1)] := .mk' (by kernel_rfl) (by kernel_rfl)
theorem u26 : E18w.P.underlying 26 = some (.array 2 3) := by kernel_rfl
theorem eq26 : ∀ (x0 y0 : Int) (x1 y1 : Int), eqA E18w.P Op.maxDepth 26 (.agg #[.int .i64 x0, .int .i64 x1]) (.agg #[.int .i64 y0, .int .i64 y1]) = some (decide (x0 = y0) && decide (x1 = y1)) := fun x0 y0 x1 y1 => eq_i2 u26 t3.known t3.size t3.agg u3 x0 x1 y0 y1
theorem eg26 : E18w.P.eqGuardType E18w.P.depth 26 = false := by kernel_rfl
theorem z39 : zeroA E18w.P 39 = some (.slice none 0 0) := by kernel_rfl
theorem t39 : TyI E18w.P 39 false 1 := ⟨by kernel_rfl, by kernel_rfl, by kernel_rfl⟩
theorem z94 : zeroA E18w.P 94 = some (.map none) := by kernel_rfl
theorem t94 : TyI E18w.P 94 false 1 := ⟨by kernel_rfl, by kernel_rfl, by kernel_rfl⟩
theorem u94 : E18w.P.underlying 94 = some (.map 3 3) := by kernel_rfl
theorem u4 : E18w.P.underlying 4 = some (.bool) := by kernel_rfl
theorem s27 : SlT E18w.P 27 25 2 := SlT.of (by kernel_rfl)
theorem f51_ok (n : Nat) (x1 : Nat)  (r : Int) (hF : F51 n x1 = some r) (m : AMem)  :
  CallA E18w 51 [.int .u64 ((x1 : Nat) : Int)] m (fun v m' => ∃ x : Unit, v = .int .i64 r ∧ Hp m m' []) := by
 unfold F51 at hF
 refine call_wk (m0 := m) (ps := []) (N := 25) (rs := [.tmp 2]) rfl Tryd.func51 rfl rfl rfl (Hp.start m) ?_
 refine Wk.seq <| Wk.region <| Wo.od (o_as rfl) rfl ?_
 refine Wo.nil <| At.tn <| Wk.seq ?_
 obtain ⟨r7, h6, hF⟩ := ob_some hF
 refine Wk.cut (G := (fun (r : Nat × Int) (g : Unit) => match r, g with | (v3, v4), _ => ⟨.normal, [(0, .int .u64 ((v3 : Nat) : Int)), (2, .int .i64 v4)], []⟩) r7) ?_ ?_
 ·clear hF
  revert r7
  intro r hF
  refine Wk.seq <| Wk.region <| Wo.od (o_mv rfl) rfl ?_
  refine Wo.od (o_bi rfl rfl (ub_geq _ _)) rfl ?_
  refine Wo.nil <| At.tn ?_
  rcases br_some hF with ⟨h5, hF⟩ | ⟨h5, hF⟩
  ·refine Wk.condT rfl h5 ?_
   refine Wk.seq <| Wk.region <| Wo.od (o_mv rfl) rfl ?_
   refine Wo.od (o_bi rfl rfl (ub_shr _ _ rfl)) rfl ?_
   refine Wo.od (o_as rfl) rfl ?_
   refine Wo.nil <| At.tn <| Wk.region <| Wo.od (o_as rfl) rfl ?_
   refine Wo.nil ?_
   cases hF
   exact At.en () rfl (sc rfl (sc rfl sn)) (Turn.picks [] rfl rfl)
  ·refine Wk.condF rfl h5 ?_
   refine Wk.skip ?_
   cases hF
   exact At.en () rfl (sc rfl (sc rfl sn)) (Turn.picks [] rfl rfl)
 ·clear h6
  obtain ⟨v3, v4⟩ := r7
  rintro ⟨⟩
  refine At.tn <| Wk.seq ?_
  obtain ⟨r13, h12, hF⟩ := ob_some hF
  refine Wk.cut (G := (fun (r : Nat × Int) (g : Unit) => match r, g with | (v9, v10), _ => ⟨.normal, [(0, .int .u64 ((v9 : Nat) : Int)), (2, .int .i64 v10)], []⟩) r13) ?_ ?_
  ·clear hF
   revert r13
   intro r hF
   refine Wk.seq <| Wk.region <| Wo.od (o_mv rfl) rfl ?_
   refine Wo.od (o_bi rfl rfl (ub_geq _ _)) rfl ?_
   refine Wo.nil <| At.tn ?_
   rcases br_some hF with ⟨h11, hF⟩ | ⟨h11, hF⟩
   ·refine Wk.condT rfl h11 ?_
    refine Wk.seq <| Wk.region <| Wo.od (o_mv rfl) rfl ?_
    refine Wo.od (o_bi rfl rfl (ub_shr _ _ rfl)) rfl ?_
    refine Wo.od (o_as rfl) rfl ?_
    refine Wo.nil <| At.tn <| Wk.region <| Wo.od (o_mv rfl) rfl ?_
    refine Wo.od (o_bi rfl rfl (bin_add _ _ _)) rfl ?_
    refine Wo.od (o_as rfl) rfl ?_
    refine Wo.nil ?_
    cases hF
    exact At.en () rfl (sc rfl (sc rfl sn)) (Turn.picks [] rfl rfl)
   ·refine Wk.condF rfl h11 ?_
    refine Wk.skip ?_
    cases hF
    exact At.en () rfl (sc rfl (sc rfl sn)) (Turn.picks [] rfl rfl)
  ·clear h12
   obtain ⟨v9, v10⟩ := r13
   rintro ⟨⟩
   refine At.tn <| Wk.seq ?_
   obtain ⟨r19, h18, hF⟩ := ob_some hF
   refine Wk.cut (G := (fun (r : Nat × Int) (g : Unit) => match r, g with | (v15, v16), _ => ⟨.normal, [(0, .int .u64 ((v15 : Nat) : Int)), (2, .int .i64 v16)], []⟩) r19) ?_ ?_
   ·clear hF
    revert r19
    intro r hF
    refine Wk.seq <| Wk.region <| Wo.od (o_mv rfl) rfl ?_
    refine Wo.od (o_bi rfl rfl (ub_geq _ _)) rfl ?_
    refine Wo.nil <| At.tn ?_
    rcases br_some hF with ⟨h17, hF⟩ | ⟨h17, hF⟩
    ·refine Wk.condT rfl h17 ?_
     refine Wk.seq <| Wk.region <| Wo.od (o_mv rfl) rfl ?_
     refine Wo.od (o_bi rfl rfl (ub_shr _ _ rfl)) rfl ?_
     refine Wo.od (o_as rfl) rfl ?_
     refine Wo.nil <| At.tn <| Wk.region <| Wo.od (o_mv rfl) rfl ?_
     refine Wo.od (o_bi rfl rfl (bin_add _ _ _)) rfl ?_
     refine Wo.od (o_as rfl) rfl ?_
     refine Wo.nil ?_
     cases hF
     exact At.en () rfl (sc rfl (sc rfl sn)) (Turn.picks [] rfl rfl)
    ·refine Wk.condF rfl h17 ?_
     refine Wk.skip ?_
     cases hF
     exact At.en () rfl (sc rfl (sc rfl sn)) (Turn.picks [] rfl rfl)
   ·clear h18
    obtain ⟨v15, v16⟩ := r19
    rintro ⟨⟩
    refine At.tn <| Wk.seq <| Wk.region <| Wo.od (o_mv rfl) rfl ?_
    refine Wo.od (o_mv rfl) rfl ?_
    refine Wo.od (o_cv rfl (cv_uu (by rw [u28]; rfl) u5 rfl)) rfl ?_
    obtain ⟨h20, hF⟩ := gd_some hF
    obtain ⟨y22, h21, hF⟩ := ob_some hF
    refine Wo.od (o_ixt tab256_482390 u9 rfl (by rfl) rfl h20 h21) rfl ?_
    refine Wo.od (o_cv rfl (cv_i (by rw [u5]; rfl) u3)) rfl ?_
    refine Wo.od (o_bi rfl rfl (bin_add _ _ _)) rfl ?_
    refine Wo.od (o_as rfl) rfl ?_
    refine Wo.nil <| At.tn <| Wk.ret ?_
    cases hF
    exact At.ret (.tmp rfl .nil) fun m' hm => ⟨(), rfl, (Turn.picks [] rfl rfl) m' hm⟩
theorem f55_ok (n : Nat) (x1 : Int) (l2 : List (Int × Int)) (x6 : Nat) (a3 : Option Addr) (c4 : Nat) (r : Int) (hF : F55 n x1 l2 x6 = some r) (m : AMem) (h5 : Rd m a3 c4 2 l2.length (l2.map (eP (eI .i64) (eI .i64)))) :
  CallA E18w 55 [.agg #[.int .i64 x1, .slice a3 l2.length c4], .int .u64 ((x6 : Nat) : Int)] m (fun v m' => ∃ x : Unit, v = .int .i64 r ∧ Hp m m' []) := by
 unfold F55 at hF
 refine call_wk (m0 := m) (ps := [.rd a3 c4 2 l2.length (l2.map (eP (eI .i64) (eI .i64)))]) (N := 16) (rs := [.tmp 4]) rfl Tryd.func55 rfl rfl rfl ((Hp.start m).inn rfl h5) ?_
 refine Wk.seq <| Wk.region <| Wo.x (o_bx rfl) gn rfl fun b7 => ?_
 refine Wo.od (o_as rfl) rfl ?_
 refine Wo.nil <| At.tn <| Wk.seq <| Wk.seq <| Wk.region <| Wo.od (o_ld (k := 0) t25 rfl rfl rfl) rfl ?_
 obtain ⟨r9, h8, hF⟩ := ob_some hF
 refine Wo.x (o_cl rfl rfl (fun m hm => f23_ok n x1 l2 a3 c4 _ h8 m (hm.rd (k := 1) rfl (.rd _ _ _ _ _))) fun _ => rfl) gn rfl ?_
 rintro ⟨⟩
 refine Wo.od (o_as rfl) rfl ?_
 refine Wo.nil <| At.tn <| Wk.seq <| Wk.region <| Wo.od (o_mv rfl) rfl ?_
 refine Wo.od (o_bi rfl rfl (ib_neq _ _)) rfl ?_
 refine Wo.nil <| At.tn ?_
 rcases br_some hF with ⟨h10, hF⟩ | ⟨h10, hF⟩
 ·refine Wk.condT rfl h10 ?_
  refine Wk.seq <| Wk.region <| Wo.od (o_mv rfl) rfl ?_
  refine Wo.od (o_as rfl) rfl ?_
  refine Wo.nil <| At.tn <| Wk.ret <| At.tr ?_
  have hr := Option.some.inj hF
  subst r
  exact At.ret (.tmp rfl .nil) fun m' hm => ⟨(), rfl, (Turn.picks [] rfl rfl) m' hm⟩
 ·refine Wk.condF rfl h10 ?_
  refine Wk.skip <| At.tn <| Wk.seq <| Wk.seq <| Wk.drawc (prs := [(1, 3)]) (by kernel_rfl) ?_
  refine Wn.od (o_mv rfl) rfl ?_
  obtain ⟨r12, h11, hF⟩ := ob_some hF
  refine Wn.c (o_ce rfl rfl (fun m hm => f51_ok n x6  _ h11 m ) fun _ => rfl) gn rfl ?_
  rintro ⟨⟩
  refine Wn.od (o_fa (r := ptr b7 0) rfl (fa25_0 _ _)) rfl ?_
  refine Wn.od (o_ld (k := 0) t3 rfl rfl rfl) rfl ?_
  refine Wn.od (o_bi rfl rfl (bin_gtr _ _ _)) rfl ?_
  refine Wn.nil (fun m hm => OkP.all rfl) ?_
  refine At.tn ?_
  rcases br_some hF with ⟨h13, hF⟩ | ⟨h13, hF⟩
  ·refine Wk.condT rfl h13 ?_
   refine Wk.seq <| Wk.region <| Wo.od (o_as rfl) rfl ?_
   refine Wo.nil <| At.tn <| Wk.ret <| At.tr ?_
   cases hF
   exact At.ret (.tmp rfl .nil) fun m' hm => ⟨(), rfl, (Turn.picks [] rfl rfl) m' hm⟩
  ·refine Wk.condF rfl h13 ?_
   refine Wk.skip <| At.tn <| Wk.seq <| Wk.region <| Wo.od (o_as rfl) rfl ?_
   refine Wo.nil <| At.tn <| Wk.ret ?_
   cases hF
   exact At.ret (.tmp rfl .nil) fun m' hm => ⟨(), rfl, (Turn.picks [] rfl rfl) m' hm⟩
theorem f75_ok (n : Nat) (x1 : Int) (l2 : List (Int × Int)) (a3 : Option Addr) (c4 : Nat) (r : List Nat) (hF : F75 n x1 l2 = some r) (m : AMem) (h5 : Rd m a3 c4 2 l2.length (l2.map (eP (eI .i64) (eI .i64)))) :
  CallA E18w 75 [.agg #[.int .i64 x1, .slice a3 l2.length c4]] m (fun v m' => ∃ x : Option Addr × Nat, v = .slice x.1 x.2 x.2 ∧ Hp m m' [.sl x.1 1 x.2 (r.map (eN .u64))]) := by
 unfold F75 at hF
 refine call_wk (m0 := m) (ps := [.rd a3 c4 2 l2.length (l2.map (eP (eI .i64) (eI .i64)))]) (N := 38) (rs := [.tmp 2]) rfl Tryd.func75 rfl rfl rfl ((Hp.start m).inn rfl h5) ?_
 refine Wk.seq <| Wk.region <| Wo.x (o_bx rfl) gn rfl fun b6 => ?_
 refine Wo.od (o_as rfl) rfl ?_
 refine Wo.nil <| At.tn <| Wk.seq <| Wk.region <| Wo.od (o_fa (r := ptr b6 0) rfl (fa25_0 _ _)) rfl ?_
 refine Wo.od (o_ld (k := 0) t3 rfl rfl rfl) rfl ?_
 obtain ⟨h7, hF⟩ := gd_some hF
 obtain ⟨h8, hF⟩ := gd_some hF
 refine Wo.x (o_msl (f := eN .u64) (z0 := 0) s36 rfl h7 h8 z28 rfl rfl) gn rfl fun b9 => ?_
 refine Wo.od (o_as rfl) rfl ?_
 refine Wo.nil <| At.tn <| Wk.seq <| Wk.seq <| Wk.region <| Wo.od (o_fa (r := ptr b6 1) rfl (fa25_1 _ _)) rfl ?_
 refine Wo.od (o_ld (k := 1) t23 rfl rfl rfl) rfl ?_
 refine Wo.od (o_ln (k := 2) u23 rfl rfl (.inl rfl)) rfl ?_
 refine Wo.od (o_mv rfl) rfl ?_
 refine Wo.nil <| At.tn <| Wk.block ?_
 obtain ⟨l56, h77, hF⟩ := ob_some hF
 refine Wk.cut (G := (fun (r : List (Nat)) (g : Unit) => match r, g with | l56, _ => ⟨(.exit 0), [(3, .slice (some ⟨b9, 0, none⟩) x1.toNat x1.toNat)], [.arr b9 1 x1.toNat (l56.map (eN .u64)) .own]⟩) l56) ?_ ?_
 ·refine Wk.weak (fs' := [(3, .slice (some ⟨b9, 0, none⟩) x1.toNat x1.toNat), (10, .slice a3 l2.length c4), (11, .int .i64 (l2.length : Int)), (12, .int .i64 0)]) (ps' := [.arr b9 1 x1.toNat ((List.replicate x1.toNat 0).map (eN .u64)) .own, .rd a3 c4 2 l2.length (l2.map (eP (eI .i64) (eI .i64)))]) (sc rfl (sc rfl (sc rfl (sc rfl sn)))) (Turn.picks [0, 2] rfl rfl) ?_
  refine Wk.loop (σ := List (Nat) × Int) (ρ := List (Nat)) (γ := Unit) (δ := fun _ => Unit) _ (fun (s : List (Nat) × Int) (g : Unit) => match s, g with | (l32, v33), _ => ⟨.normal, [(3, .slice (some ⟨b9, 0, none⟩) x1.toNat x1.toNat), (10, .slice a3 l2.length c4), (11, .int .i64 (l2.length : Int)), (12, .int .i64 v33)], [.arr b9 1 x1.toNat (l32.map (eN .u64)) .own, .rd a3 c4 2 l2.length (l2.map (eP (eI .i64) (eI .i64)))]⟩) (fun (r : List (Nat)) (g : Unit) => match r, g with | l56, _ => ⟨(.exit 0), [(3, .slice (some ⟨b9, 0, none⟩) x1.toNat x1.toNat)], [.arr b9 1 x1.toNat (l56.map (eN .u64)) .own]⟩) ?_ (fun _ _ => rfl) (fun r d => by intro e; cases e) _ _ _ h77 ()
  clear hF h77
  rintro ⟨l32, v33⟩ ⟨⟩ r hF
  unfold L75_1 at hF
  refine Wk.seq <| Wk.region <| Wo.od (o_bi rfl rfl (bin_lss _ _ _)) rfl ?_
  refine Wo.nil <| At.tn <| Wk.seq ?_
  rcases br_some hF with ⟨h57, hF⟩ | ⟨h57, hF⟩
  ·refine Wk.condT rfl h57 ?_
   refine Wk.skip <| At.tn <| Wk.seq <| Wk.block <| Wk.seq <| Wk.region ?_
   obtain ⟨h58, hF⟩ := gd_some hF
   replace h58 := inB_some h58
   refine Wo.openr (k := 1) rfl (pos_of h58) ?_
   rintro b59 o60 rfl
   refine Wo.og (o_ixs s23 rfl rfl h58) gn rfl ?_
   obtain ⟨⟨x61, x62⟩, h63, hF⟩ := ob_some hF
   refine Wo.od (o_ldr (k := 0) t26 rfl rfl (map_at h63) rfl rfl) rfl ?_
   refine Wo.x (o_al z26 rfl) gn rfl fun b64 => ?_
   refine Wo.o0 (o_st (k := 0) t26 rfl rfl rfl rfl rfl) ?_
   refine Wo.nil <| At.tn <| Wk.seq <| Wk.draw (by kernel_rfl) ?_
   refine Wo.od (o_mv rfl) rfl ?_
   refine Wo.od (o_ia (r := ptr b64 0) rfl rfl (ia_c ar26 (i := 0) (by decide))) rfl ?_
   refine Wo.od (o_ld (k := 0) t3 rfl rfl rfl) rfl ?_
   obtain ⟨h65, hF⟩ := gd_some hF
   replace h65 := inB_some h65
   refine Wo.og (o_ixa s36 rfl rfl h65) gn rfl ?_
   obtain ⟨x66, h67, hF⟩ := ob_some hF
   refine Wo.od (o_lda (k := 2) t28 rfl rfl (map_at h67) rfl rfl) rfl ?_
   refine Wo.od (o_ia (r := ptr b64 1) rfl rfl (ia_c ar26 (i := 1) (by decide))) rfl ?_
   refine Wo.od (o_ld (k := 0) t3 rfl rfl rfl) rfl ?_
   obtain ⟨h68, hF⟩ := gd_some hF
   refine Wo.od (o_bi rfl rfl (ub_shl rfl _ _ h68)) rfl ?_
   refine Wo.od (o_bi rfl rfl (ub_or rfl _ _)) rfl ?_
   obtain ⟨h69, hF⟩ := gd_some hF
   replace h69 := inB_some h69
   refine Wo.og (o_ixa s36 rfl rfl h69) gn rfl ?_
   refine Wo.o0 (o_stl (k := 2) (x1 := x66) (x2 := uw .u64 (uw .u64 x66 ||| uw .u64 (ushl .u64 1 x62.toNat))) t28 rfl rfl rfl h67 rfl) ?_
   refine Wo.nil <| At.tn <| Wk.draw (by kernel_rfl) ?_
   refine Wo.od (o_mv rfl) rfl ?_
   refine Wo.od (o_ia (r := ptr b64 1) rfl rfl (ia_c ar26 (i := 1) (by decide))) rfl ?_
   refine Wo.od (o_ld (k := 0) t3 rfl rfl rfl) rfl ?_
   obtain ⟨h71, hF⟩ := gd_some hF
   replace h71 := inB_some h71
   refine Wo.og (o_ixa s36 rfl rfl h71) gn rfl ?_
   obtain ⟨x72, h73, hF⟩ := ob_some hF
   refine Wo.od (o_lda (k := 2) t28 rfl rfl (map_at h73) rfl rfl) rfl ?_
   refine Wo.od (o_ia (r := ptr b64 0) rfl rfl (ia_c ar26 (i := 0) (by decide))) rfl ?_
   refine Wo.od (o_ld (k := 0) t3 rfl rfl rfl) rfl ?_
   obtain ⟨h74, hF⟩ := gd_some hF
   refine Wo.od (o_bi rfl rfl (ub_shl rfl _ _ h74)) rfl ?_
   refine Wo.od (o_bi rfl rfl (ub_or rfl _ _)) rfl ?_
   obtain ⟨h75, hF⟩ := gd_some hF
   replace h75 := inB_some h75
   refine Wo.og (o_ixa s36 rfl rfl h75) gn rfl ?_
   refine Wo.o0 (o_stl (k := 2) (x1 := x72) (x2 := uw .u64 (uw .u64 x72 ||| uw .u64 (ushl .u64 1 x61.toNat))) t28 rfl rfl rfl h73 rfl) ?_
   refine Wo.nil <| At.bn <| At.tn <| Wk.region <| Wo.od (o_bi rfl rfl (bin_add _ _ _)) rfl ?_
   refine Wo.od (o_mv rfl) rfl ?_
   refine Wo.nil ?_
   cases hF
   exact At.en () rfl (sc rfl (sc rfl (sc rfl (sc rfl sn)))) (Turn.picks [2, 3] rfl rfl)
  ·refine Wk.condF rfl h57 ?_
   refine Wk.exit <| At.te ?_
   cases hF
   exact At.en () rfl (sc rfl sn) (Turn.picks [0] rfl rfl)
 ·clear h77
  rintro ⟨⟩
  refine At.be <| At.tn <| Wk.seq <| Wk.region <| Wo.od (o_mv rfl) rfl ?_
  refine Wo.od (o_as rfl) rfl ?_
  refine Wo.nil <| At.tn <| Wk.ret ?_
  have hr := Option.some.inj hF
  subst r
  exact At.ret (.tmp rfl .nil) fun m' hm => ⟨((some ⟨b9, 0, none⟩), x1.toNat), rfl, (Turn.trans (Turn.close (k := 0) rfl) (Turn.picks [0] rfl rfl)) m' hm⟩
theorem f58_ok (n : Nat) (x1 : Int) (l2 : List (Int × Int)) (x6 : Nat) (a3 : Option Addr) (c4 : Nat) (r : List Nat) (hF : F58 n x1 l2 x6 = some r) (m : AMem) (hG : Gl m) (h5 : Rd m a3 c4 2 l2.length (l2.map (eP (eI .i64) (eI .i64)))) :
  CallA E18w 58 [.agg #[.int .i64 x1, .slice a3 l2.length c4], .int .u64 ((x6 : Nat) : Int)] m (fun v m' => ∃ x : Option Addr × Nat, v = .slice x.1 x.2 x.2 ∧ Hp m m' [.sl x.1 1 x.2 (r.map (eN .u64))]) := by
 unfold F58 at hF
 refine call_wk (m0 := m) (ps := [.rd a3 c4 2 l2.length (l2.map (eP (eI .i64) (eI .i64)))]) (N := 44) (rs := [.tmp 4]) rfl Tryd.func58 rfl rfl rfl ((Hp.start m).inn rfl h5) ?_
 refine Wk.seq <| Wk.region <| Wo.x (o_bx rfl) gn rfl fun b7 => ?_
 refine Wo.x (o_bx rfl) gn rfl fun b8 => ?_
 refine Wo.od (o_as rfl) rfl ?_
 refine Wo.nil <| At.tn <| Wk.seq <| Wk.region <| Wo.od (o_ld (k := 1) t25 rfl rfl rfl) rfl ?_
 obtain ⟨l10, h9, hF⟩ := ob_some hF
 refine Wo.x (o_cl rfl rfl (fun m hm => f75_ok n x1 l2 a3 c4 _ h9 m (hm.rd (k := 2) rfl (.rd _ _ _ _ _))) fun _ => rfl) gn rfl ?_
 rintro ⟨a11, n12⟩
 refine Wo.len (k := 0) (xs := l10) rfl ?_
 rintro rfl
 refine Wo.x (o_al z36 rfl) gn rfl fun b13 => ?_
 refine Wo.o0 (o_st (k := 0) t36 rfl rfl rfl rfl rfl) ?_
 refine Wo.nil <| At.tn <| Wk.seq <| Wk.region <| Wo.od (o_as rfl) rfl ?_
 refine Wo.nil <| At.tn <| Wk.seq <| Wk.seq <| Wk.region <| Wo.od (o_ld (k := 2) t28 rfl rfl rfl) rfl ?_
 refine Wo.od (o_as rfl) rfl ?_
 refine Wo.nil <| At.tn <| Wk.block ?_
 obtain ⟨l686, h1020, hF⟩ := ob_some hF
 refine Wk.cut (G := (fun (r : List (Nat)) (g : Option Addr) => match r, g with | l686, a687 => ⟨(.exit 0), [(6, .slice a687 l686.length l686.length)], [.sl a687 1 l686.length (l686.map (eN .u64))]⟩) l686) ?_ ?_
 ·refine Wk.weak (fs' := [(3, ptr b8 0), (5, ptr b13 0), (6, .slice none ([] : List (Nat)).length ([] : List (Nat)).length), (7, .int .u64 ((x6 : Nat) : Int))]) (ps' := [.obj b8 (.cells [.int .u64 ((x6 : Nat) : Int)] .own), .obj b13 (.cells [.slice a11 l10.length l10.length] .own), .sl a11 1 l10.length (l10.map (eN .u64)), .sl none 1 ([] : List (Nat)).length (([] : List (Nat)).map (eN .u64))]) (sc rfl (sc rfl (sc rfl (sc rfl sn)))) (Turn.trans (Turn.nil 1 rfl) (Turn.picks [3, 1, 2, 0] rfl rfl)) ?_
  refine Wk.loop (σ := List (Nat) × Nat) (ρ := List (Nat)) (γ := Option Addr) (δ := fun _ => Option Addr) _ (fun (s : List (Nat) × Nat) (g : Option Addr) => match s, g with | (l348, v350), a349 => ⟨.normal, [(3, ptr b8 0), (5, ptr b13 0), (6, .slice a349 l348.length l348.length), (7, .int .u64 ((v350 : Nat) : Int))], [.obj b8 (.cells [.int .u64 ((x6 : Nat) : Int)] .own), .obj b13 (.cells [.slice a11 l10.length l10.length] .own), .sl a11 1 l10.length (l10.map (eN .u64)), .sl a349 1 l348.length (l348.map (eN .u64))]⟩) (fun (r : List (Nat)) (g : Option Addr) => match r, g with | l686, a687 => ⟨(.exit 0), [(6, .slice a687 l686.length l686.length)], [.sl a687 1 l686.length (l686.map (eN .u64))]⟩) ?_ (fun _ _ => rfl) (fun r d => by intro e; cases e) _ _ _ h1020 none
  clear hF h1020
  rintro ⟨l348, v350⟩ a349 r hF
  unfold L58_3 at hF
  refine Wk.seq <| Wk.seq <| Wk.region <| Wo.od (o_mv rfl) rfl ?_
  refine Wo.od (o_bi rfl rfl (ub_neq _ _)) rfl ?_
  refine Wo.nil <| At.tn ?_
  rcases br_some hF with ⟨h688, hF⟩ | ⟨h688, hF⟩
  ·refine Wk.condT rfl h688 ?_
   refine Wk.skip <| At.tn <| Wk.block <| Wk.seq <| Wk.region <| Wo.od (o_mv rfl) rfl ?_
   refine Wo.od (o_mv rfl) rfl ?_
   refine Wo.od (o_un rfl (uu_neg rfl _)) rfl ?_
   refine Wo.od (o_bi rfl rfl (ub_and rfl _ _)) rfl ?_
   refine Wo.od (o_as rfl) rfl ?_
   refine Wo.nil <| At.tn <| Wk.seq <| Wk.block ?_
   obtain ⟨v853, h1015, hF⟩ := ob_some hF
   refine Wk.cut (G := (fun (r : Nat) (g : Unit) => match r, g with | v853, _ => ⟨(.exit 2), [(3, ptr b8 0), (5, ptr b13 0), (6, .slice a349 l348.length l348.length), (7, .int .u64 ((v350 : Nat) : Int)), (8, .int .u64 ((v853 : Nat) : Int))], [.obj b8 (.cells [.int .u64 ((x6 : Nat) : Int)] .own), .obj b13 (.cells [.slice a11 l10.length l10.length] .own), .sl a11 1 l10.length (l10.map (eN .u64)), .sl a349 1 l348.length (l348.map (eN .u64))]⟩) v853) ?_ ?_
   ·refine Wk.weak (fs' := [(3, ptr b8 0), (5, ptr b13 0), (6, .slice a349 l348.length l348.length), (7, .int .u64 ((v350 : Nat) : Int)), (8, .int .u64 (((uw .u64 (uw .u64 v350 &&& uw .u64 (uneg .u64 v350))) : Nat) : Int))]) (ps' := [.obj b8 (.cells [.int .u64 ((x6 : Nat) : Int)] .own), .obj b13 (.cells [.slice a11 l10.length l10.length] .own), .sl a11 1 l10.length (l10.map (eN .u64)), .sl a349 1 l348.length (l348.map (eN .u64))]) (sc rfl (sc rfl (sc rfl (sc rfl (sc rfl sn))))) (Turn.picks [0, 1, 2, 3] rfl rfl) ?_
    refine Wk.loop (σ := Nat) (ρ := Nat) (γ := Unit) (δ := fun _ => Unit) _ (fun (s : Nat) (g : Unit) => match s, g with | v690, _ => ⟨.normal, [(3, ptr b8 0), (5, ptr b13 0), (6, .slice a349 l348.length l348.length), (7, .int .u64 ((v350 : Nat) : Int)), (8, .int .u64 ((v690 : Nat) : Int))], [.obj b8 (.cells [.int .u64 ((x6 : Nat) : Int)] .own), .obj b13 (.cells [.slice a11 l10.length l10.length] .own), .sl a11 1 l10.length (l10.map (eN .u64)), .sl a349 1 l348.length (l348.map (eN .u64))]⟩) (fun (r : Nat) (g : Unit) => match r, g with | v853, _ => ⟨(.exit 2), [(3, ptr b8 0), (5, ptr b13 0), (6, .slice a349 l348.length l348.length), (7, .int .u64 ((v350 : Nat) : Int)), (8, .int .u64 ((v853 : Nat) : Int))], [.obj b8 (.cells [.int .u64 ((x6 : Nat) : Int)] .own), .obj b13 (.cells [.slice a11 l10.length l10.length] .own), .sl a11 1 l10.length (l10.map (eN .u64)), .sl a349 1 l348.length (l348.map (eN .u64))]⟩) ?_ (fun _ _ => rfl) (fun r d => by intro e; cases e) _ _ _ h1015 ()
    clear hF h1015
    rintro v690 ⟨⟩ r hF
    unfold L58_2 at hF
    refine Wk.block <| Wk.seq <| Wk.region <| Wo.od (o_mv rfl) rfl ?_
    refine Wo.x (o_al z28 rfl) gn rfl fun b854 => ?_
    refine Wo.o0 (o_st (k := 0) t28 rfl rfl rfl rfl rfl) ?_
    refine Wo.nil <| At.tn <| Wk.seq <| Wk.seq <| Wk.region <| Wo.od (o_mv rfl) rfl ?_
    obtain ⟨r858, h859, hF⟩ := ob_some hF
    refine Wo.x (o_cs (α := Nat) (V := fun g => (fun (r : Unit) (g : Nat) => match r, g with | _, b856 => (.func (.func 78) #[] #[ptr b856 0] : Value)) r858 g) (N := fun g => (fun (r : Unit) (g : Nat) => match r, g with | _, b856 => ([.obj b856 (.cells [.int .u64 ((v690 : Nat) : Int)] .own), .obj b8 (.cells [.int .u64 ((x6 : Nat) : Int)] .own), .obj b13 (.cells [.slice a11 l10.length l10.length] .own), .sl a11 1 l10.length (l10.map (eN .u64)), .sl a349 1 l348.length (l348.map (eN .u64)), .obj b854 (.cells [.int .u64 ((v690 : Nat) : Int)] .own)] : List Pc)) r858 g) rfl rfl (fun m hm => ?_)) gn rfl ?_
    ·clear hF
     revert r858
     intro r hF
     refine call_wk (N := 4) (rs := [.tmp 2]) rfl Tryd.func61 rfl rfl rfl hm ?_
     refine Wk.seq <| Wk.region <| Wo.x (o_bx rfl) gn rfl fun b857 => ?_
     refine Wo.od (o_as rfl) rfl ?_
     refine Wo.nil <| At.tn <| Wk.seq <| Wk.region <| Wo.od (o_mf rfl rfl) rfl ?_
     refine Wo.od (o_as rfl) rfl ?_
     refine Wo.nil <| At.tn <| Wk.ret ?_
     cases hF
     exact At.ret (.tmp rfl .nil) fun m' hm => ⟨b857, rfl, (Turn.picks [0, 2, 3, 4, 5, 1] rfl rfl) m' hm⟩
    ·clear h859
     rintro b856
     refine Wo.nil <| At.tn <| Wk.block ?_
     obtain ⟨v938, h1013, hF⟩ := ob_some hF
     refine Wk.range (N := 14) (rs := []) (γ := Unit) (X := fun g => (fun (r : Nat) (g : Unit) => (match r, g with | v938, _ => ⟨.ready, none, [.obj b8 (.cells [.int .u64 ((x6 : Nat) : Int)] .own), .obj b13 (.cells [.slice a11 l10.length l10.length] .own), .sl a11 1 l10.length (l10.map (eN .u64)), .sl a349 1 l348.length (l348.map (eN .u64)), .obj b854 (.cells [.int .u64 ((v938 : Nat) : Int)] .own)]⟩ : Rn)) v938 g) rfl rfl Tryd.func78 rfl rfl rfl ?_ (fun y => by intro e; cases e) ?_
     ·clear hF
      revert v938
      intro r hF
      intro t862 l860 rc861 h863 h864
      refine Wk.block ?_
      obtain ⟨v987, h1010, hF⟩ := ob_some hF
      refine Wk.cut (G := (fun (r : Nat) (g : Unit) => match r, g with | v987, _ => ⟨(.exit 0), [], [.obj l860 (rc861 .ready none), .obj b8 (.cells [.int .u64 ((x6 : Nat) : Int)] .own), .obj b13 (.cells [.slice a11 l10.length l10.length] .own), .sl a11 1 l10.length (l10.map (eN .u64)), .sl a349 1 l348.length (l348.map (eN .u64)), .obj b854 (.cells [.int .u64 ((v987 : Nat) : Int)] .own)]⟩) v987) ?_ ?_
      ·refine Wk.weak (fs' := [(0, .func (.yield l860) #[] #[]), (1, ptr b856 0)]) (ps' := [.obj l860 (rc861 .ready none), .obj b856 (.cells [.int .u64 ((v690 : Nat) : Int)] .own), .obj b8 (.cells [.int .u64 ((x6 : Nat) : Int)] .own), .obj b13 (.cells [.slice a11 l10.length l10.length] .own), .sl a11 1 l10.length (l10.map (eN .u64)), .sl a349 1 l348.length (l348.map (eN .u64)), .obj b854 (.cells [.int .u64 ((v690 : Nat) : Int)] .own)]) (sc rfl (sc rfl sn)) (Turn.picks [0, 1, 2, 3, 4, 5, 6] rfl rfl) ?_
       refine Wk.loop (σ := Nat × Nat) (ρ := Nat) (γ := Unit) (δ := fun _ => Unit) _ (fun (s : Nat × Nat) (g : Unit) => match s, g with | (v961, v962), _ => ⟨.normal, [(0, .func (.yield l860) #[] #[]), (1, ptr b856 0)], [.obj l860 (rc861 .ready none), .obj b856 (.cells [.int .u64 ((v961 : Nat) : Int)] .own), .obj b8 (.cells [.int .u64 ((x6 : Nat) : Int)] .own), .obj b13 (.cells [.slice a11 l10.length l10.length] .own), .sl a11 1 l10.length (l10.map (eN .u64)), .sl a349 1 l348.length (l348.map (eN .u64)), .obj b854 (.cells [.int .u64 ((v962 : Nat) : Int)] .own)]⟩) (fun (r : Nat) (g : Unit) => match r, g with | v987, _ => ⟨(.exit 0), [], [.obj l860 (rc861 .ready none), .obj b8 (.cells [.int .u64 ((x6 : Nat) : Int)] .own), .obj b13 (.cells [.slice a11 l10.length l10.length] .own), .sl a11 1 l10.length (l10.map (eN .u64)), .sl a349 1 l348.length (l348.map (eN .u64)), .obj b854 (.cells [.int .u64 ((v987 : Nat) : Int)] .own)]⟩) ?_ (fun _ _ => rfl) (fun r d => by intro e; cases e) _ _ _ h1010 ()
       clear hF h1010
       rintro ⟨v961, v962⟩ ⟨⟩ r hF
       unfold L58_1 at hF
       refine Wk.seq <| Wk.seq <| Wk.region <| Wo.od (o_ld (k := 1) t28 rfl rfl rfl) rfl ?_
       refine Wo.od (o_bi rfl rfl (ub_neq _ _)) rfl ?_
       refine Wo.nil <| At.tn ?_
       rcases br_some hF with ⟨h988, hF⟩ | ⟨h988, hF⟩
       ·refine Wk.condT rfl h988 ?_
        refine Wk.skip <| At.tn <| Wk.seq <| Wk.block <| Wk.seq <| Wk.region <| Wo.od (o_mv rfl) rfl ?_
        refine Wo.od (o_ld (k := 1) t28 rfl rfl rfl) rfl ?_
        obtain ⟨r990, h989, hF⟩ := ob_some hF
        refine Wo.x (o_cl rfl rfl (fun m hm => f42_ok n v961  _ h989 m (hG.ext hm.ext) ) fun _ => rfl) gn rfl ?_
        rintro ⟨⟩
        obtain ⟨v999, h1009, hF⟩ := ob_some hF
        refine Wo.x (o_yd (k := 0) (k1 := 0) (γA := Unit) (GA := (fun g : Unit => (match g with | _ => ⟨.normal, [(3, ptr b8 0), (5, ptr b13 0), (9, ptr b854 0), (10, .int .i64 r990)], [.obj l860 (rc861 .ready none), .obj b8 (.cells [.int .u64 ((x6 : Nat) : Int)] .own), .obj b13 (.cells [.slice a11 l10.length l10.length] .own), .sl a11 1 l10.length (l10.map (eN .u64)), .obj b854 (.cells [.int .u64 ((v962 : Nat) : Int)] .own), .sl a349 1 l348.length (l348.map (eN .u64)), .obj b856 (.cells [.int .u64 ((v961 : Nat) : Int)] .own)]⟩ : En))) (γ := Unit) (G := fun g => (fun (r : Nat) (g : Unit) => (match r, g with | v999, _ => ⟨.normal, [], [.obj l860 (rc861 .busy none), .obj b8 (.cells [.int .u64 ((x6 : Nat) : Int)] .own), .obj b13 (.cells [.slice a11 l10.length l10.length] .own), .sl a11 1 l10.length (l10.map (eN .u64)), .sl a349 1 l348.length (l348.map (eN .u64)), .obj b854 (.cells [.int .u64 ((v999 : Nat) : Int)] .own), .obj b856 (.cells [.int .u64 ((v961 : Nat) : Int)] .own)]⟩ : En)) v999 g) rfl rfl rfl h864 h863 rfl ?_ (fun _ => rfl) (fun _ => rfl) ?_ (fun y => rfl)) gn rfl ?_
        ·clear hF h1009
         refine Wk.region <| Wo.od (o_as rfl) rfl ?_
         refine Wo.nil ?_
         exact At.en () rfl (sc rfl (sc rfl (sc rfl (sc rfl sn)))) (Turn.picks [0, 2, 3, 4, 6, 5, 1] rfl rfl)
        ·clear hF
         revert v999
         intro r hF
         rintro ⟨⟩
         refine Wk.block <| Wk.draw (by kernel_rfl) ?_
         refine Wo.od (o_ld (k := 4) t28 rfl rfl rfl) rfl ?_
         refine Wo.od (o_ld (k := 2) t36 rfl rfl rfl) rfl ?_
         refine Wo.od (o_mv rfl) rfl ?_
         obtain ⟨h1000, hF⟩ := gd_some hF
         replace h1000 := inB_some h1000
         refine Wo.open (k := 3) rfl (pos_of h1000) ?_
         rintro b1001 tg1002 rfl h1003
         refine Wo.og (o_ixa s36 rfl rfl h1000) gn rfl ?_
         obtain ⟨x1004, h1005, hF⟩ := ob_some hF
         refine Wo.od (o_lda (k := 3) t28 rfl rfl (map_at h1005) rfl rfl) rfl ?_
         refine Wo.od (o_ld (k := 1) t28 rfl rfl rfl) rfl ?_
         refine Wo.od (o_bi rfl rfl (ub_and rfl _ _)) rfl ?_
         obtain ⟨y1006, h1007, hF⟩ := ob_some hF
         refine Wo.od (o_bi rfl rfl ((ub_or rfl _ _).trans (cN h1007))) rfl ?_
         refine Wo.o0 (o_st (k := 4) t28 rfl rfl rfl rfl rfl) ?_
         refine Wo.nil <| At.bn ?_
         have hr := Option.some.inj hF
         subst r
         exact At.en () rfl sn (Turn.trans (Turn.close (k := 3) rfl) (Turn.picks [0, 1, 2, 3, 5, 4, 6] rfl rfl))
        ·clear h1009
         rintro ⟨⟩
         refine Wo.od (o_un rfl rfl) rfl ?_
         refine Wo.nil <| At.tn <| Wk.condF rfl rfl ?_
         refine Wk.skip <| At.bn <| At.tn <| Wk.region <| Wo.od (o_ld (k := 6) t28 rfl rfl rfl) rfl ?_
         refine Wo.od (o_ld (k := 6) t28 rfl rfl rfl) rfl ?_
         refine Wo.od (o_bi rfl rfl (ub_sub rfl _ _)) rfl ?_
         refine Wo.od (o_bi rfl rfl (ub_and rfl _ _)) rfl ?_
         refine Wo.o0 (o_st (k := 6) t28 rfl rfl rfl rfl rfl) ?_
         refine Wo.nil ?_
         cases hF
         exact At.en () rfl (sc rfl (sc rfl sn)) (Turn.picks [0, 6, 1, 2, 3, 4, 5] rfl rfl)
       ·refine Wk.condF rfl h988 ?_
        refine Wk.exit <| At.te ?_
        cases hF
        exact At.en () rfl sn (Turn.picks [0, 2, 3, 4, 5, 6] rfl rfl)
      ·clear h1010
       rintro ⟨⟩
       refine At.be ?_
       have hr := Option.some.inj hF
       subst r
       exact At.fin .nil fun m' hm => ⟨(), (Turn.picks [0, 1, 2, 3, 4, 5] rfl rfl) m' hm⟩
     ·clear h1013
      rintro ⟨⟩
      change At _ .normal _ _ _
      refine At.bn <| At.tn <| Wk.seq <| Wk.seq <| Wk.region <| Wo.od (o_ld (k := 4) t28 rfl rfl rfl) rfl ?_
      refine Wo.od (o_mv rfl) rfl ?_
      refine Wo.od (o_bi rfl rfl (ub_eql _ _)) rfl ?_
      refine Wo.nil <| At.tn ?_
      rcases br_some hF with ⟨h1014, hF⟩ | ⟨h1014, hF⟩
      ·refine Wk.condT rfl h1014 ?_
       refine Wk.exit <| At.te <| At.bx rfl ?_
       cases hF
       exact At.en () rfl (sc rfl (sc rfl (sc rfl (sc rfl (sc rfl sn))))) (Turn.picks [0, 1, 2, 3] rfl rfl)
      ·refine Wk.condF rfl h1014 ?_
       refine Wk.skip <| At.tn <| Wk.region <| Wo.od (o_ld (k := 4) t28 rfl rfl rfl) rfl ?_
       refine Wo.od (o_as rfl) rfl ?_
       refine Wo.nil <| At.bn ?_
       cases hF
       exact At.en () rfl (sc rfl (sc rfl (sc rfl (sc rfl (sc rfl sn))))) (Turn.picks [0, 1, 2, 3] rfl rfl)
   ·clear h1015
    rintro ⟨⟩
    refine At.be <| At.tn <| Wk.seq <| Wk.region <| Wo.od (o_mv rfl) rfl ?_
    refine Wo.od (o_mv rfl) rfl ?_
    refine Wo.x (o_bs (es := ([v853] : List (Nat)).map (eN .u64)) s36 rfl (bs_c s36 z28 rfl rfl) rfl rfl) gn rfl fun b1017 => ?_
    obtain ⟨h1018, hF⟩ := gd_some hF
    refine Wo.x (o_apl (k := 4) (k2 := 0) (xs := (l348 : List (Nat))) (ys := ([v853] : List (Nat))) (enN .u64) s36 ⟨_, u36⟩ rfl rfl rfl (.arr _ _ _ _ _) h1018) gn rfl fun a1019 => ?_
    refine Wo.od (o_as rfl) rfl ?_
    refine Wo.nil <| At.tn <| Wk.region <| Wo.od (o_mv rfl) rfl ?_
    refine Wo.od (o_mv rfl) rfl ?_
    refine Wo.od (o_bi rfl rfl (ub_andn rfl _ _)) rfl ?_
    refine Wo.od (o_as rfl) rfl ?_
    refine Wo.nil <| At.bn ?_
    cases hF
    exact At.en a1019 rfl (sc rfl (sc rfl (sc rfl (sc rfl sn)))) (Turn.picks [1, 2, 3, 4] rfl rfl)
  ·refine Wk.condF rfl h688 ?_
   refine Wk.exit <| At.te ?_
   cases hF
   exact At.en a349 rfl (sc rfl sn) (Turn.picks [3] rfl rfl)
 ·clear h1020
  rintro a687
  refine At.be <| At.tn <| Wk.seq <| Wk.region <| Wo.od (o_mv rfl) rfl ?_
  refine Wo.od (o_as rfl) rfl ?_
  refine Wo.nil <| At.tn <| Wk.ret ?_
  have hr := Option.some.inj hF
  subst r
  exact At.ret (.tmp rfl .nil) fun m' hm => ⟨(a687, l686.length), rfl, (Turn.picks [0] rfl rfl) m' hm⟩
theorem f17_ok (n : Nat) (x1 : Int) (l2 : List (Int × Int)) (x6 : Nat) (a3 : Option Addr) (c4 : Nat) (r : List Nat × Int) (hF : F17 n x1 l2 x6 = some r) (m : AMem) (hG : Gl m) (h5 : Rd m a3 c4 2 l2.length (l2.map (eP (eI .i64) (eI .i64)))) :
  CallA E18w 17 [.agg #[.int .i64 x1, .slice a3 l2.length c4], .int .u64 ((x6 : Nat) : Int)] m (fun v m' => ∃ x : Option Addr × Nat, v = .tuple #[.slice x.1 x.2 x.2, .int .i64 r.2] ∧ Hp m m' [.sl x.1 1 x.2 (r.1.map (eN .u64))]) := by
 unfold F17 at hF
 refine call_wk (m0 := m) (ps := [.rd a3 c4 2 l2.length (l2.map (eP (eI .i64) (eI .i64)))]) (N := 16) (rs := [.tmp 4, .tmp 5]) rfl Tryd.func17 rfl rfl rfl ((Hp.start m).inn rfl h5) ?_
 refine Wk.seq <| Wk.region <| Wo.x (o_bx rfl) gn rfl fun b7 => ?_
 refine Wo.od (o_as rfl) rfl ?_
 refine Wo.od (o_as rfl) rfl ?_
 refine Wo.nil <| At.tn <| Wk.seq <| Wk.seq <| Wk.region <| Wo.od (o_ld (k := 0) t25 rfl rfl rfl) rfl ?_
 refine Wo.od (o_mv rfl) rfl ?_
 obtain ⟨r9, h8, hF⟩ := ob_some hF
 refine Wo.x (o_cl rfl rfl (fun m hm => f55_ok n x1 l2 x6 a3 c4 _ h8 m (hm.rd (k := 1) rfl (.rd _ _ _ _ _))) fun _ => rfl) gn rfl ?_
 rintro ⟨⟩
 refine Wo.od (o_as rfl) rfl ?_
 refine Wo.nil <| At.tn <| Wk.seq <| Wk.region <| Wo.od (o_mv rfl) rfl ?_
 refine Wo.od (o_bi rfl rfl (ib_neq _ _)) rfl ?_
 refine Wo.nil <| At.tn ?_
 rcases br_some hF with ⟨h10, hF⟩ | ⟨h10, hF⟩
 ·refine Wk.condT rfl h10 ?_
  refine Wk.seq <| Wk.region <| Wo.od (o_mv rfl) rfl ?_
  refine Wo.od (o_as rfl) rfl ?_
  refine Wo.od (o_as rfl) rfl ?_
  refine Wo.nil <| At.tn <| Wk.ret <| At.tr ?_
  cases hF
  exact At.ret (.tmp rfl (.tmp rfl .nil)) fun m' hm => ⟨(none, 0), rfl, (Turn.trans (Turn.nil 1 rfl) (Turn.picks [0] rfl rfl)) m' hm⟩
 ·refine Wk.condF rfl h10 ?_
  refine Wk.skip <| At.tn <| Wk.seq <| Wk.region <| Wo.od (o_ld (k := 0) t25 rfl rfl rfl) rfl ?_
  refine Wo.od (o_mv rfl) rfl ?_
  obtain ⟨l12, h11, hF⟩ := ob_some hF
  refine Wo.x (o_cl rfl rfl (fun m hm => f58_ok n x1 l2 x6 a3 c4 _ h11 m (hG.ext hm.ext) (hm.rd (k := 1) rfl (.rd _ _ _ _ _))) fun _ => rfl) gn rfl ?_
  rintro ⟨a13, n14⟩
  refine Wo.len (k := 0) (xs := l12) rfl ?_
  rintro rfl
  refine Wo.od (o_as rfl) rfl ?_
  refine Wo.od (o_as rfl) rfl ?_
  refine Wo.nil <| At.tn <| Wk.ret ?_
  cases hF
  exact At.ret (.tmp rfl (.tmp rfl .nil)) fun m' hm => ⟨(a13, l12.length), rfl, (Turn.picks [0] rfl rfl) m' hm⟩
theorem f22_ok (n : Nat) (x1 : Int) (l2 : List (Int × Int)) (l6 : List (Int)) (a3 : Option Addr) (c4 : Nat) (a7 : Option Addr) (c8 : Nat) (r : Int × List (Int × Int) × Int) (hF : F22 n x1 l2 l6 = some r) (m : AMem) (h5 : Rd m a3 c4 2 l2.length (l2.map (eP (eI .i64) (eI .i64)))) (h9 : Rd m a7 c8 1 l6.length (l6.map (eI .i64))) :
  CallA E18w 22 [.agg #[.int .i64 x1, .slice a3 l2.length c4], .slice a7 l6.length c8] m (fun v m' => ∃ x : Option Addr × Nat, v = .tuple #[.agg #[.int .i64 r.1, .slice x.1 x.2 x.2], .int .i64 r.2.2] ∧ Hp m m' [.sl x.1 2 x.2 (r.2.1.map (eP (eI .i64) (eI .i64)))]) := by
 unfold F22 at hF
 refine call_wk (m0 := m) (ps := [.rd a7 c8 1 l6.length (l6.map (eI .i64)), .rd a3 c4 2 l2.length (l2.map (eP (eI .i64) (eI .i64)))]) (N := 108) (rs := [.cell 4 25, .tmp 5]) rfl Tryd.func22 rfl rfl rfl (((Hp.start m).inn rfl h5).inn rfl h9) ?_
 refine Wk.seq <| Wk.region <| Wo.x (o_bx rfl) gn rfl fun b10 => ?_
 refine Wo.x (o_al z25 rfl) gn rfl fun b11 => ?_
 refine Wo.od (o_as rfl) rfl ?_
 refine Wo.nil <| At.tn <| Wk.scope <| Wk.seq <| Wk.seq <| Wk.region <| Wo.od (o_ld (k := 1) t25 rfl rfl rfl) rfl ?_
 obtain ⟨r13, h12, hF⟩ := ob_some hF
 refine Wo.x (o_cl rfl rfl (fun m hm => f23_ok n x1 l2 a3 c4 _ h12 m (hm.rd (k := 3) rfl (.rd _ _ _ _ _))) fun _ => rfl) gn rfl ?_
 rintro ⟨⟩
 refine Wo.od (o_as rfl) rfl ?_
 refine Wo.nil <| At.tn <| Wk.seq <| Wk.region <| Wo.od (o_mv rfl) rfl ?_
 refine Wo.od (o_bi rfl rfl (ib_neq _ _)) rfl ?_
 refine Wo.nil <| At.tn ?_
 rcases br_some hF with ⟨h14, hF⟩ | ⟨h14, hF⟩
 ·refine Wk.condT rfl h14 ?_
  refine Wk.seq <| Wk.region <| Wo.od (o_bd rfl z25 rfl (bd_s bs25 rfl rfl rfl)) rfl ?_
  refine Wo.od (o_mv rfl) rfl ?_
  refine Wo.o0 (o_st (k := 0) t25 rfl rfl rfl rfl rfl) ?_
  refine Wo.od (o_as rfl) rfl ?_
  refine Wo.nil <| At.tn <| Wk.ret <| At.tr ?_
  cases hF
  exact At.ret (.cell (k := 0) t25 rfl rfl rfl (.tmp rfl .nil)) fun m' hm => ⟨(none, 0), rfl, (Turn.trans (Turn.nil 2 rfl) (Turn.picks [0] rfl rfl)) m' hm⟩
 ·refine Wk.condF rfl h14 ?_
  refine Wk.skip <| At.tn <| Wk.seq <| Wk.seq <| Wk.region <| Wo.od (o_mv rfl) rfl ?_
  refine Wo.od (o_ln (k := 2) u39 rfl rfl (.inl rfl)) rfl ?_
  refine Wo.od (o_fa (r := ptr b10 0) rfl (fa25_0 _ _)) rfl ?_
  refine Wo.od (o_ld (k := 1) t3 rfl rfl rfl) rfl ?_
  refine Wo.od (o_bi rfl rfl (ib_neq _ _)) rfl ?_
  refine Wo.nil <| At.tn ?_
  rcases br_some hF with ⟨h15, hF⟩ | ⟨h15, hF⟩
  ·refine Wk.condT rfl h15 ?_
   refine Wk.seq <| Wk.region <| Wo.od (o_bd rfl z25 rfl (bd_s bs25 rfl rfl rfl)) rfl ?_
   refine Wo.o0 (o_st (k := 0) t25 rfl rfl rfl rfl rfl) ?_
   refine Wo.od (o_as rfl) rfl ?_
   refine Wo.nil <| At.tn <| Wk.ret <| At.tr ?_
   cases hF
   exact At.ret (.cell (k := 0) t25 rfl rfl rfl (.tmp rfl .nil)) fun m' hm => ⟨(none, 0), rfl, (Turn.trans (Turn.nil 2 rfl) (Turn.picks [0] rfl rfl)) m' hm⟩
  ·refine Wk.condF rfl h15 ?_
   refine Wk.skip <| At.tn <| Wk.seq <| Wk.region <| Wo.od (o_as rfl) rfl ?_
   refine Wo.nil <| At.tn <| Wk.seq <| Wk.seq <| Wk.region <| Wo.od (o_mv rfl) rfl ?_
   refine Wo.od (o_ln (k := 2) u39 rfl rfl (.inl rfl)) rfl ?_
   refine Wo.od (o_mv rfl) rfl ?_
   refine Wo.nil <| At.tn <| Wk.block ?_
   obtain ⟨r98, h97, hF⟩ := ob_some hF
   refine Wk.cut (G := (fun (r : (Unit) ⊕ (Nat)) (g : Unit) => match r, g with | .inl _, _ => ⟨.ret, [(4, ptr b11 0), (5, .int .i64 2)], [.obj b11 (.cells [.int .i64 0, .slice none 0 0] .own)]⟩ | .inr v59, _ => ⟨(.exit 0), [(1, .slice a7 l6.length c8), (2, ptr b10 0), (4, ptr b11 0), (7, .int .u64 ((v59 : Nat) : Int))], [.rd a7 c8 1 l6.length (l6.map (eI .i64)), .obj b10 (.cells [.int .i64 x1, .slice a3 l2.length c4] .own), .rd a3 c4 2 l2.length (l2.map (eP (eI .i64) (eI .i64))), .obj b11 (.cells [.int .i64 0, .slice none 0 0] .own)]⟩) r98) ?_ ?_
   ·refine Wk.weak (fs' := [(1, .slice a7 l6.length c8), (2, ptr b10 0), (4, ptr b11 0), (7, .int .u64 ((0 : Nat) : Int)), (30, .slice a7 l6.length c8), (31, .int .i64 (l6.length : Int)), (32, .int .i64 0)]) (ps' := [.rd a7 c8 1 l6.length (l6.map (eI .i64)), .obj b10 (.cells [.int .i64 x1, .slice a3 l2.length c4] .own), .rd a3 c4 2 l2.length (l2.map (eP (eI .i64) (eI .i64))), .obj b11 (.cells [.int .i64 0, .slice none 0 0] .own)]) (sc rfl (sc rfl (sc rfl (sc rfl (sc rfl (sc rfl (sc rfl sn))))))) (Turn.picks [2, 1, 3, 0] rfl rfl) ?_
    refine Wk.loop (σ := Nat × Int) (ρ := (Unit) ⊕ (Nat)) (γ := Unit) (δ := fun _ => Unit) _ (fun (s : Nat × Int) (g : Unit) => match s, g with | (v18, v19), _ => ⟨.normal, [(1, .slice a7 l6.length c8), (2, ptr b10 0), (4, ptr b11 0), (7, .int .u64 ((v18 : Nat) : Int)), (30, .slice a7 l6.length c8), (31, .int .i64 (l6.length : Int)), (32, .int .i64 v19)], [.rd a7 c8 1 l6.length (l6.map (eI .i64)), .obj b10 (.cells [.int .i64 x1, .slice a3 l2.length c4] .own), .rd a3 c4 2 l2.length (l2.map (eP (eI .i64) (eI .i64))), .obj b11 (.cells [.int .i64 0, .slice none 0 0] .own)]⟩) (fun (r : (Unit) ⊕ (Nat)) (g : Unit) => match r, g with | .inl _, _ => ⟨.ret, [(4, ptr b11 0), (5, .int .i64 2)], [.obj b11 (.cells [.int .i64 0, .slice none 0 0] .own)]⟩ | .inr v59, _ => ⟨(.exit 0), [(1, .slice a7 l6.length c8), (2, ptr b10 0), (4, ptr b11 0), (7, .int .u64 ((v59 : Nat) : Int))], [.rd a7 c8 1 l6.length (l6.map (eI .i64)), .obj b10 (.cells [.int .i64 x1, .slice a3 l2.length c4] .own), .rd a3 c4 2 l2.length (l2.map (eP (eI .i64) (eI .i64))), .obj b11 (.cells [.int .i64 0, .slice none 0 0] .own)]⟩) ?_ (fun _ _ => rfl) (fun r d => by rcases r with _ | _ <;> (intro e; cases e)) _ _ _ h97 ()
    clear hF h97
    rintro ⟨v18, v19⟩ ⟨⟩ r hF
    unfold L22_1 at hF
    refine Wk.seq <| Wk.region <| Wo.od (o_bi rfl rfl (bin_lss _ _ _)) rfl ?_
    refine Wo.nil <| At.tn <| Wk.seq ?_
    rcases br_some hF with ⟨h60, hF⟩ | ⟨h60, hF⟩
    ·refine Wk.condT rfl h60 ?_
     refine Wk.skip <| At.tn <| Wk.seq <| Wk.block <| Wk.seq <| Wk.region ?_
     obtain ⟨h79, hF⟩ := gd_some hF
     replace h79 := inB_some h79
     refine Wo.openr (k := 0) rfl (pos_of h79) ?_
     rintro b80 o81 rfl
     refine Wo.og (o_ixs s39 rfl rfl h79) gn rfl ?_
     obtain ⟨x82, h83, hF⟩ := ob_some hF
     refine Wo.od (o_ldr (k := 0) t3 rfl rfl (map_at h83) rfl rfl) rfl ?_
     refine Wo.od (o_as rfl) rfl ?_
     refine Wo.nil <| At.tn <| Wk.seq <| Wk.seq ?_
     obtain ⟨v91, h93, hF⟩ := ob_some hF
     refine Wk.cut (G := (fun (r : Bool) (g : Unit) => match r, g with | v91, _ => ⟨.normal, [(1, .slice (some ⟨b80, o81, none⟩) l6.length c8), (2, ptr b10 0), (4, ptr b11 0), (7, .int .u64 ((v18 : Nat) : Int)), (9, .int .i64 x82), (30, .slice (some ⟨b80, o81, none⟩) l6.length c8), (31, .int .i64 (l6.length : Int)), (32, .int .i64 v19), (43, .bool v91)], [.ro b80 o81 1 l6.length (l6.map (eI .i64)), .rd (some ⟨b80, o81, none⟩) c8 1 l6.length (l6.map (eI .i64)), .obj b10 (.cells [.int .i64 x1, .slice a3 l2.length c4] .own), .rd a3 c4 2 l2.length (l2.map (eP (eI .i64) (eI .i64))), .obj b11 (.cells [.int .i64 0, .slice none 0 0] .own)]⟩) v91) ?_ ?_
     ·clear hF
      revert v91
      intro r hF
      refine Wk.region <| Wo.od (o_mv rfl) rfl ?_
      refine Wo.od (o_bi rfl rfl (bin_lss _ _ _)) rfl ?_
      refine Wo.od (o_mv rfl) rfl ?_
      rcases br_some hF with ⟨h92, hF⟩ | ⟨h92, hF⟩
      ·refine Wo.s (gg rfl rfl (eTF h92)) rfl ?_
       refine Wo.s (gg rfl rfl (eTF h92)) rfl ?_
       refine Wo.s (gg rfl rfl (eTF h92)) rfl ?_
       refine Wo.s (gg rfl rfl (eTF h92)) rfl ?_
       refine Wo.od (o_pt rfl h92 rfl) rfl ?_
       refine Wo.nil ?_
       cases hF
       exact At.en () rfl (sc rfl (sc rfl (sc rfl (sc rfl (sc rfl (sc rfl (sc rfl (sc rfl (sc rfl sn))))))))) (Turn.picks [0, 1, 2, 3, 4] rfl rfl)
      ·refine Wo.og (o_mv rfl) (gg rfl rfl (eFF h92)) rfl ?_
       refine Wo.og (o_fa (r := ptr b10 0) rfl (fa25_0 _ _)) (gg rfl rfl (eFF h92)) rfl ?_
       refine Wo.og (o_ld (k := 2) t3 rfl rfl rfl) (gg rfl rfl (eFF h92)) rfl ?_
       refine Wo.og (o_bi rfl rfl (bin_geq _ _ _)) (gg rfl rfl (eFF h92)) rfl ?_
       refine Wo.od (o_pf rfl h92 rfl) rfl ?_
       refine Wo.nil ?_
       cases hF
       exact At.en () rfl (sc rfl (sc rfl (sc rfl (sc rfl (sc rfl (sc rfl (sc rfl (sc rfl (sc rfl sn))))))))) (Turn.picks [0, 1, 2, 3, 4] rfl rfl)
     ·clear h93
      rintro ⟨⟩
      refine At.tn ?_
      rcases br_some hF with ⟨h95, hF⟩ | ⟨h95, hF⟩
      ·refine Wk.condT rfl h95 ?_
       refine Wk.seq <| Wk.region <| Wo.od (o_bd rfl z25 rfl (bd_s bs25 rfl rfl rfl)) rfl ?_
       refine Wo.o0 (o_st (k := 4) t25 rfl rfl rfl rfl rfl) ?_
       refine Wo.od (o_as rfl) rfl ?_
       refine Wo.nil <| At.tn <| Wk.ret <| At.tr <| At.br <| At.tr ?_
       cases hF
       exact At.en () rfl (sc rfl (sc rfl sn)) (Turn.picks [4] rfl rfl)
      ·refine Wk.condF rfl h95 ?_
       refine Wk.skip <| At.tn <| Wk.region <| Wo.od (o_mv rfl) rfl ?_
       refine Wo.od (o_mv rfl) rfl ?_
       obtain ⟨h96, hF⟩ := gd_some hF
       refine Wo.od (o_bi rfl rfl (ub_shl rfl _ _ h96)) rfl ?_
       refine Wo.od (o_bi rfl rfl (ub_or rfl _ _)) rfl ?_
       refine Wo.od (o_as rfl) rfl ?_
       refine Wo.nil <| At.bn <| At.tn <| Wk.region <| Wo.od (o_bi rfl rfl (bin_add _ _ _)) rfl ?_
       refine Wo.od (o_mv rfl) rfl ?_
       refine Wo.nil ?_
       cases hF
       exact At.en () rfl (sc rfl (sc rfl (sc rfl (sc rfl (sc rfl (sc rfl (sc rfl sn))))))) (Turn.picks [1, 2, 3, 4] rfl rfl)
    ·refine Wk.condF rfl h60 ?_
     refine Wk.exit <| At.te ?_
     cases hF
     exact At.en () rfl (sc rfl (sc rfl (sc rfl (sc rfl sn)))) (Turn.picks [0, 1, 2, 3] rfl rfl)
   ·clear h97
    rcases r98 with _ | v59
    ·rintro ⟨⟩
     refine At.br <| At.tr ?_
     cases hF
     exact At.ret (.cell (k := 0) t25 rfl rfl rfl (.tmp rfl .nil)) fun m' hm => ⟨(none, 0), rfl, (Turn.trans (Turn.nil 2 rfl) (Turn.picks [0] rfl rfl)) m' hm⟩
    ·rintro ⟨⟩
     refine At.be <| At.tn <| Wk.seq <| Wk.seq <| Wk.region <| Wo.od (o_mv rfl) rfl ?_
     refine Wo.od (o_mv rfl) rfl ?_
     refine Wo.od (o_bi rfl rfl (ub_add rfl _ _)) rfl ?_
     refine Wo.od (o_bi rfl rfl (ub_and rfl _ _)) rfl ?_
     refine Wo.od (o_bi rfl rfl (ub_neq _ _)) rfl ?_
     refine Wo.nil <| At.tn ?_
     rcases br_some hF with ⟨h99, hF⟩ | ⟨h99, hF⟩
     ·refine Wk.condT rfl h99 ?_
      refine Wk.seq <| Wk.region <| Wo.od (o_bd rfl z25 rfl (bd_s bs25 rfl rfl rfl)) rfl ?_
      refine Wo.o0 (o_st (k := 3) t25 rfl rfl rfl rfl rfl) ?_
      refine Wo.od (o_as rfl) rfl ?_
      refine Wo.nil <| At.tn <| Wk.ret <| At.tr ?_
      cases hF
      exact At.ret (.cell (k := 3) t25 rfl rfl rfl (.tmp rfl .nil)) fun m' hm => ⟨(none, 0), rfl, (Turn.trans (Turn.nil 2 rfl) (Turn.picks [0] rfl rfl)) m' hm⟩
     ·refine Wk.condF rfl h99 ?_
      refine Wk.skip <| At.tn <| Wk.seq <| Wk.region <| Wo.od (o_mv rfl) rfl ?_
      obtain ⟨r101, h100, hF⟩ := ob_some hF
      refine Wo.x (o_cl rfl rfl (fun m hm => f51_ok n v59  _ h100 m ) fun _ => rfl) gn rfl ?_
      rintro ⟨⟩
      refine Wo.od (o_bd rfl z25 rfl (bd_s bs25 rfl rfl rfl)) rfl ?_
      refine Wo.x (o_al z25 rfl) gn rfl fun b102 => ?_
      refine Wo.o0 (o_st (k := 0) t25 rfl rfl rfl rfl rfl) ?_
      refine Wo.nil <| At.tn <| Wk.seq <| Wk.label ?_
      refine At.tn <| Wk.seq <| Wk.seq <| Wk.region <| Wo.od (o_fa (r := ptr b10 1) rfl (fa25_1 _ _)) rfl ?_
      refine Wo.od (o_ld (k := 2) t23 rfl rfl rfl) rfl ?_
      refine Wo.od (o_ln (k := 3) u23 rfl rfl (.inl rfl)) rfl ?_
      refine Wo.od (o_mv rfl) rfl ?_
      refine Wo.nil <| At.tn <| Wk.block ?_
      obtain ⟨l263, h360, hF⟩ := ob_some hF
      refine Wk.cut (G := (fun (r : List (Int × Int)) (g : Option Addr) => match r, g with | l263, a264 => ⟨(.exit 2), [(4, ptr b11 0), (10, ptr b102 0)], [.obj b11 (.cells [.int .i64 0, .slice none 0 0] .own), .obj b102 (.cells [.int .i64 r101, .slice a264 l263.length l263.length] .own), .sl a264 2 l263.length (l263.map (eP (eI .i64) (eI .i64)))]⟩) l263) ?_ ?_
      ·refine Wk.weak (fs' := [(1, .slice a7 l6.length c8), (4, ptr b11 0), (10, ptr b102 0), (60, .slice a3 l2.length c4), (61, .int .i64 (l2.length : Int)), (62, .int .i64 0)]) (ps' := [.rd a7 c8 1 l6.length (l6.map (eI .i64)), .obj b11 (.cells [.int .i64 0, .slice none 0 0] .own), .obj b102 (.cells [.int .i64 r101, .slice none ([] : List (Int × Int)).length ([] : List (Int × Int)).length] .own), .sl none 2 ([] : List (Int × Int)).length (([] : List (Int × Int)).map (eP (eI .i64) (eI .i64))), .rd a3 c4 2 l2.length (l2.map (eP (eI .i64) (eI .i64)))]) (sc rfl (sc rfl (sc rfl (sc rfl (sc rfl (sc rfl sn)))))) (Turn.trans (Turn.nil 2 rfl) (Turn.picks [2, 5, 1, 0, 4] rfl rfl)) ?_
       refine Wk.loop (σ := List (Int × Int) × Int) (ρ := List (Int × Int)) (γ := Option Addr) (δ := fun _ => Option Addr) _ (fun (s : List (Int × Int) × Int) (g : Option Addr) => match s, g with | (l162, v164), a163 => ⟨.normal, [(1, .slice a7 l6.length c8), (4, ptr b11 0), (10, ptr b102 0), (60, .slice a3 l2.length c4), (61, .int .i64 (l2.length : Int)), (62, .int .i64 v164)], [.rd a7 c8 1 l6.length (l6.map (eI .i64)), .obj b11 (.cells [.int .i64 0, .slice none 0 0] .own), .obj b102 (.cells [.int .i64 r101, .slice a163 l162.length l162.length] .own), .sl a163 2 l162.length (l162.map (eP (eI .i64) (eI .i64))), .rd a3 c4 2 l2.length (l2.map (eP (eI .i64) (eI .i64)))]⟩) (fun (r : List (Int × Int)) (g : Option Addr) => match r, g with | l263, a264 => ⟨(.exit 2), [(4, ptr b11 0), (10, ptr b102 0)], [.obj b11 (.cells [.int .i64 0, .slice none 0 0] .own), .obj b102 (.cells [.int .i64 r101, .slice a264 l263.length l263.length] .own), .sl a264 2 l263.length (l263.map (eP (eI .i64) (eI .i64)))]⟩) ?_ (fun _ _ => rfl) (fun r d => by intro e; cases e) _ _ _ h360 none
       clear hF h360
       rintro ⟨l162, v164⟩ a163 r hF
       unfold L22_3 at hF
       refine Wk.seq <| Wk.region <| Wo.od (o_bi rfl rfl (bin_lss _ _ _)) rfl ?_
       refine Wo.nil <| At.tn <| Wk.seq ?_
       rcases br_some hF with ⟨h265, hF⟩ | ⟨h265, hF⟩
       ·refine Wk.condT rfl h265 ?_
        refine Wk.skip <| At.tn <| Wk.seq ?_
        obtain ⟨l311, h358, hF⟩ := ob_some hF
        refine Wk.cut (G := (fun (r : List (Int × Int)) (g : Option Addr) => match r, g with | l311, a312 => ⟨.normal, [(1, .slice a7 l6.length c8), (4, ptr b11 0), (10, ptr b102 0), (60, .slice a3 l2.length c4), (61, .int .i64 (l2.length : Int)), (62, .int .i64 v164)], [.rd a7 c8 1 l6.length (l6.map (eI .i64)), .obj b11 (.cells [.int .i64 0, .slice none 0 0] .own), .obj b102 (.cells [.int .i64 r101, .slice a312 l311.length l311.length] .own), .sl a312 2 l311.length (l311.map (eP (eI .i64) (eI .i64))), .rd a3 c4 2 l2.length (l2.map (eP (eI .i64) (eI .i64)))]⟩) l311) ?_ ?_
        ·clear hF
         revert l311
         intro r hF
         refine Wk.block <| Wk.seq <| Wk.region ?_
         obtain ⟨h313, hF⟩ := gd_some hF
         replace h313 := inB_some h313
         refine Wo.openr (k := 4) rfl (pos_of h313) ?_
         rintro b314 o315 rfl
         refine Wo.og (o_ixs s23 rfl rfl h313) gn rfl ?_
         obtain ⟨⟨x316, x317⟩, h318, hF⟩ := ob_some hF
         refine Wo.od (o_ldr (k := 0) t26 rfl rfl (map_at h318) rfl rfl) rfl ?_
         refine Wo.x (o_al z26 rfl) gn rfl fun b319 => ?_
         refine Wo.o0 (o_st (k := 0) t26 rfl rfl rfl rfl rfl) ?_
         refine Wo.nil <| At.tn <| Wk.seq <| Wk.draw (by kernel_rfl) ?_
         refine Wo.od (o_mv rfl) rfl ?_
         refine Wo.od (o_ia (r := ptr b319 0) rfl rfl (ia_c ar26 (i := 0) (by decide))) rfl ?_
         refine Wo.od (o_ld (k := 0) t3 rfl rfl rfl) rfl ?_
         obtain ⟨h320, hF⟩ := gd_some hF
         replace h320 := inB_some h320
         refine Wo.openr (k := 2) rfl (pos_of h320) ?_
         rintro b321 o322 rfl
         refine Wo.og (o_ixs s39 rfl rfl h320) gn rfl ?_
         obtain ⟨x323, h324, hF⟩ := ob_some hF
         refine Wo.od (o_ldr (k := 0) t3 rfl rfl (map_at h324) rfl rfl) rfl ?_
         refine Wo.od (o_mv rfl) rfl ?_
         refine Wo.od (o_ia (r := ptr b319 1) rfl rfl (ia_c ar26 (i := 1) (by decide))) rfl ?_
         refine Wo.od (o_ld (k := 1) t3 rfl rfl rfl) rfl ?_
         obtain ⟨h325, hF⟩ := gd_some hF
         replace h325 := inB_some h325
         refine Wo.og (o_ixs s39 rfl rfl h325) gn rfl ?_
         obtain ⟨x326, h327, hF⟩ := ob_some hF
         refine Wo.od (o_ldr (k := 0) t3 rfl rfl (map_at h327) rfl rfl) rfl ?_
         refine Wo.od (o_as rfl) rfl ?_
         refine Wo.od (o_as rfl) rfl ?_
         refine Wo.nil <| At.tn <| Wk.seq <| Wk.region <| Wo.od (o_mv rfl) rfl ?_
         refine Wo.od (o_mv rfl) rfl ?_
         refine Wo.od (o_bu rfl rfl (bu_mi _ _)) rfl ?_
         refine Wo.od (o_mv rfl) rfl ?_
         refine Wo.od (o_mv rfl) rfl ?_
         refine Wo.od (o_bu rfl rfl (bu_ma _ _)) rfl ?_
         refine Wo.od (o_bd rfl z26 rfl (bd_s bs26 rfl rfl rfl)) rfl ?_
         refine Wo.x (o_al z26 rfl) gn rfl fun b328 => ?_
         refine Wo.o0 (o_st (k := 0) t26 rfl rfl rfl rfl rfl) ?_
         refine Wo.nil <| At.tn <| Wk.seq <| Wk.seq <| Wk.region <| Wo.od (o_mv rfl) rfl ?_
         refine Wo.od (o_mv rfl) rfl ?_
         refine Wo.od (o_bi rfl rfl (bin_eql _ _ _)) rfl ?_
         refine Wo.nil <| At.tn ?_
         rcases br_some hF with ⟨h329, hF⟩ | ⟨h329, hF⟩
         ·refine Wk.condT rfl h329 ?_
          refine Wk.exit <| At.te <| At.be ?_
          have hr := Option.some.inj hF
          subst r
          exact At.en a163 rfl (sc rfl (sc rfl (sc rfl (sc rfl (sc rfl (sc rfl sn)))))) (Turn.picks [4, 5, 6, 7, 8] rfl rfl)
         ·refine Wk.condF rfl h329 ?_
          refine Wk.skip <| At.tn <| Wk.seq <| Wk.seq <| Wk.region <| Wo.od (o_fa (r := ptr b102 1) rfl (fa25_1 _ _)) rfl ?_
          refine Wo.od (o_ld (k := 6) t23 rfl rfl rfl) rfl ?_
          refine Wo.od (o_ln (k := 7) u23 rfl rfl (.inl rfl)) rfl ?_
          refine Wo.od (o_mv rfl) rfl ?_
          refine Wo.nil <| At.tn <| Wk.block ?_
          obtain ⟨r354, h353, hF⟩ := ob_some hF
          refine Wk.cut (G := (fun (r : (Unit) ⊕ (Unit)) (g : Unit) => match r, g with | .inl _, _ => ⟨(.exit 3), [(1, .slice (some ⟨b321, o322, none⟩) l6.length c8), (4, ptr b11 0), (10, ptr b102 0), (60, .slice (some ⟨b314, o315, none⟩) l2.length c4), (61, .int .i64 (l2.length : Int)), (62, .int .i64 v164)], [.ro b321 o322 1 l6.length (l6.map (eI .i64)), .rd (some ⟨b321, o322, none⟩) c8 1 l6.length (l6.map (eI .i64)), .obj b11 (.cells [.int .i64 0, .slice none 0 0] .own), .obj b102 (.cells [.int .i64 r101, .slice a163 l162.length l162.length] .own), .sl a163 2 l162.length (l162.map (eP (eI .i64) (eI .i64))), .ro b314 o315 2 l2.length (l2.map (eP (eI .i64) (eI .i64))), .rd (some ⟨b314, o315, none⟩) c4 2 l2.length (l2.map (eP (eI .i64) (eI .i64)))]⟩ | .inr _, _ => ⟨(.exit 4), [(1, .slice (some ⟨b321, o322, none⟩) l6.length c8), (4, ptr b11 0), (10, ptr b102 0), (15, ptr b328 0), (60, .slice (some ⟨b314, o315, none⟩) l2.length c4), (61, .int .i64 (l2.length : Int)), (62, .int .i64 v164)], [.ro b321 o322 1 l6.length (l6.map (eI .i64)), .rd (some ⟨b321, o322, none⟩) c8 1 l6.length (l6.map (eI .i64)), .obj b11 (.cells [.int .i64 0, .slice none 0 0] .own), .obj b102 (.cells [.int .i64 r101, .slice a163 l162.length l162.length] .own), .sl a163 2 l162.length (l162.map (eP (eI .i64) (eI .i64))), .obj b328 (.cells [.int .i64 (mi x323 x326), .int .i64 (ma x323 x326)] .own), .ro b314 o315 2 l2.length (l2.map (eP (eI .i64) (eI .i64))), .rd (some ⟨b314, o315, none⟩) c4 2 l2.length (l2.map (eP (eI .i64) (eI .i64)))]⟩) r354) ?_ ?_
          ·refine Wk.weak (fs' := [(1, .slice (some ⟨b321, o322, none⟩) l6.length c8), (4, ptr b11 0), (10, ptr b102 0), (15, ptr b328 0), (60, .slice (some ⟨b314, o315, none⟩) l2.length c4), (61, .int .i64 (l2.length : Int)), (62, .int .i64 v164), (87, .slice a163 l162.length l162.length), (88, .int .i64 (l162.length : Int)), (89, .int .i64 0)]) (ps' := [.ro b321 o322 1 l6.length (l6.map (eI .i64)), .rd (some ⟨b321, o322, none⟩) c8 1 l6.length (l6.map (eI .i64)), .obj b11 (.cells [.int .i64 0, .slice none 0 0] .own), .obj b102 (.cells [.int .i64 r101, .slice a163 l162.length l162.length] .own), .sl a163 2 l162.length (l162.map (eP (eI .i64) (eI .i64))), .obj b328 (.cells [.int .i64 (mi x323 x326), .int .i64 (ma x323 x326)] .own), .ro b314 o315 2 l2.length (l2.map (eP (eI .i64) (eI .i64))), .rd (some ⟨b314, o315, none⟩) c4 2 l2.length (l2.map (eP (eI .i64) (eI .i64)))]) (sc rfl (sc rfl (sc rfl (sc rfl (sc rfl (sc rfl (sc rfl (sc rfl (sc rfl (sc rfl sn)))))))))) (Turn.picks [1, 4, 5, 6, 7, 0, 3, 8] rfl rfl) ?_
           refine Wk.loop (σ := Int) (ρ := (Unit) ⊕ (Unit)) (γ := Unit) (δ := fun _ => Unit) _ (fun (s : Int) (g : Unit) => match s, g with | v331, _ => ⟨.normal, [(1, .slice (some ⟨b321, o322, none⟩) l6.length c8), (4, ptr b11 0), (10, ptr b102 0), (15, ptr b328 0), (60, .slice (some ⟨b314, o315, none⟩) l2.length c4), (61, .int .i64 (l2.length : Int)), (62, .int .i64 v164), (87, .slice a163 l162.length l162.length), (88, .int .i64 (l162.length : Int)), (89, .int .i64 v331)], [.ro b321 o322 1 l6.length (l6.map (eI .i64)), .rd (some ⟨b321, o322, none⟩) c8 1 l6.length (l6.map (eI .i64)), .obj b11 (.cells [.int .i64 0, .slice none 0 0] .own), .obj b102 (.cells [.int .i64 r101, .slice a163 l162.length l162.length] .own), .sl a163 2 l162.length (l162.map (eP (eI .i64) (eI .i64))), .obj b328 (.cells [.int .i64 (mi x323 x326), .int .i64 (ma x323 x326)] .own), .ro b314 o315 2 l2.length (l2.map (eP (eI .i64) (eI .i64))), .rd (some ⟨b314, o315, none⟩) c4 2 l2.length (l2.map (eP (eI .i64) (eI .i64)))]⟩) (fun (r : (Unit) ⊕ (Unit)) (g : Unit) => match r, g with | .inl _, _ => ⟨(.exit 3), [(1, .slice (some ⟨b321, o322, none⟩) l6.length c8), (4, ptr b11 0), (10, ptr b102 0), (60, .slice (some ⟨b314, o315, none⟩) l2.length c4), (61, .int .i64 (l2.length : Int)), (62, .int .i64 v164)], [.ro b321 o322 1 l6.length (l6.map (eI .i64)), .rd (some ⟨b321, o322, none⟩) c8 1 l6.length (l6.map (eI .i64)), .obj b11 (.cells [.int .i64 0, .slice none 0 0] .own), .obj b102 (.cells [.int .i64 r101, .slice a163 l162.length l162.length] .own), .sl a163 2 l162.length (l162.map (eP (eI .i64) (eI .i64))), .ro b314 o315 2 l2.length (l2.map (eP (eI .i64) (eI .i64))), .rd (some ⟨b314, o315, none⟩) c4 2 l2.length (l2.map (eP (eI .i64) (eI .i64)))]⟩ | .inr _, _ => ⟨(.exit 4), [(1, .slice (some ⟨b321, o322, none⟩) l6.length c8), (4, ptr b11 0), (10, ptr b102 0), (15, ptr b328 0), (60, .slice (some ⟨b314, o315, none⟩) l2.length c4), (61, .int .i64 (l2.length : Int)), (62, .int .i64 v164)], [.ro b321 o322 1 l6.length (l6.map (eI .i64)), .rd (some ⟨b321, o322, none⟩) c8 1 l6.length (l6.map (eI .i64)), .obj b11 (.cells [.int .i64 0, .slice none 0 0] .own), .obj b102 (.cells [.int .i64 r101, .slice a163 l162.length l162.length] .own), .sl a163 2 l162.length (l162.map (eP (eI .i64) (eI .i64))), .obj b328 (.cells [.int .i64 (mi x323 x326), .int .i64 (ma x323 x326)] .own), .ro b314 o315 2 l2.length (l2.map (eP (eI .i64) (eI .i64))), .rd (some ⟨b314, o315, none⟩) c4 2 l2.length (l2.map (eP (eI .i64) (eI .i64)))]⟩) ?_ (fun _ _ => rfl) (fun r d => by rcases r with _ | _ <;> (intro e; cases e)) _ _ _ h353 ()
           clear hF h353
           rintro v331 ⟨⟩ r hF
           unfold L22_2 at hF
           refine Wk.seq <| Wk.region <| Wo.od (o_bi rfl rfl (bin_lss _ _ _)) rfl ?_
           refine Wo.nil <| At.tn <| Wk.seq ?_
           rcases br_some hF with ⟨h343, hF⟩ | ⟨h343, hF⟩
           ·refine Wk.condT rfl h343 ?_
            refine Wk.skip <| At.tn <| Wk.seq <| Wk.block <| Wk.seq <| Wk.region ?_
            obtain ⟨h344, hF⟩ := gd_some hF
            replace h344 := inB_some h344
            refine Wo.open (k := 4) rfl (pos_of h344) ?_
            rintro b345 tg346 rfl h347
            refine Wo.og (o_ixa s23 rfl rfl h344) gn rfl ?_
            obtain ⟨⟨x348, x349⟩, h350, hF⟩ := ob_some hF
            refine Wo.od (o_lda (k := 4) t26 rfl rfl (map_at h350) rfl rfl) rfl ?_
            refine Wo.x (o_al z26 rfl) gn rfl fun b351 => ?_
            refine Wo.o0 (o_st (k := 0) t26 rfl rfl rfl rfl rfl) ?_
            refine Wo.nil <| At.tn <| Wk.seq <| Wk.region <| Wo.od (o_ld (k := 0) t26 rfl rfl rfl) rfl ?_
            refine Wo.od (o_ld (k := 6) t26 rfl rfl rfl) rfl ?_
            refine Wo.od (o_bi rfl rfl (ag_eq eg26 (eq26 _ _ _ _))) rfl ?_
            refine Wo.nil <| At.tn ?_
            rcases br_some hF with ⟨h352, hF⟩ | ⟨h352, hF⟩
            ·refine Wk.condT rfl h352 ?_
             refine Wk.exit <| At.bx rfl <| At.te ?_
             cases hF
             exact At.en () rfl (sc rfl (sc rfl (sc rfl (sc rfl (sc rfl (sc rfl sn)))))) (Turn.trans (Turn.close (k := 5) rfl) (Turn.picks [1, 2, 3, 4, 5, 7, 8] rfl rfl))
            ·refine Wk.condF rfl h352 ?_
             refine Wk.skip <| At.bn <| At.tn <| Wk.region <| Wo.od (o_bi rfl rfl (bin_add _ _ _)) rfl ?_
             refine Wo.od (o_mv rfl) rfl ?_
             refine Wo.nil ?_
             cases hF
             exact At.en () rfl (sc rfl (sc rfl (sc rfl (sc rfl (sc rfl (sc rfl (sc rfl (sc rfl (sc rfl (sc rfl sn)))))))))) (Turn.trans (Turn.close (k := 5) rfl) (Turn.picks [1, 2, 3, 4, 5, 6, 7, 8] rfl rfl))
           ·refine Wk.condF rfl h343 ?_
            refine Wk.exit <| At.te ?_
            cases hF
            exact At.en () rfl (sc rfl (sc rfl (sc rfl (sc rfl (sc rfl (sc rfl (sc rfl sn))))))) (Turn.picks [0, 1, 2, 3, 4, 5, 6, 7] rfl rfl)
          ·clear h353
           rcases r354 with _ | _
           ·rintro ⟨⟩
            refine At.bx rfl <| At.te <| At.be ?_
            have hr := Option.some.inj hF
            subst r
            exact At.en a163 rfl (sc rfl (sc rfl (sc rfl (sc rfl (sc rfl (sc rfl sn)))))) (Turn.picks [1, 2, 3, 4, 6] rfl rfl)
           ·rintro ⟨⟩
            refine At.be <| At.tn <| Wk.region <| Wo.od (o_fa (r := ptr b102 1) rfl (fa25_1 _ _)) rfl ?_
            refine Wo.od (o_ld (k := 3) t23 rfl rfl rfl) rfl ?_
            refine Wo.od (o_ld (k := 5) t26 rfl rfl rfl) rfl ?_
            refine Wo.x (o_bs (es := ([(mi x323 x326, ma x323 x326)] : List (Int × Int)).map (eP (eI .i64) (eI .i64))) s23 rfl (bs_c s23 z26 rfl rfl) rfl rfl) gn rfl fun b355 => ?_
            obtain ⟨h356, hF⟩ := gd_some hF
            refine Wo.x (o_apl (k := 5) (k2 := 0) (xs := (l162 : List (Int × Int))) (ys := ([(mi x323 x326, ma x323 x326)] : List (Int × Int))) (enP (enI .i64) (enI .i64)) s23 ⟨_, u23⟩ rfl rfl rfl (.arr _ _ _ _ _) h356) gn rfl fun a357 => ?_
            refine Wo.od (o_fa (r := ptr b102 1) rfl (fa25_1 _ _)) rfl ?_
            refine Wo.o0 (o_st (k := 4) t23 rfl rfl rfl rfl rfl) ?_
            refine Wo.nil <| At.bn ?_
            cases hF
            exact At.en a357 rfl (sc rfl (sc rfl (sc rfl (sc rfl (sc rfl (sc rfl sn)))))) (Turn.picks [2, 3, 4, 5, 8] rfl rfl)
        ·clear h358
         rintro a312
         refine At.tn <| Wk.region <| Wo.od (o_bi rfl rfl (bin_add _ _ _)) rfl ?_
         refine Wo.od (o_mv rfl) rfl ?_
         refine Wo.nil ?_
         cases hF
         exact At.en a312 rfl (sc rfl (sc rfl (sc rfl (sc rfl (sc rfl (sc rfl sn)))))) (Turn.picks [0, 1, 2, 3, 4] rfl rfl)
       ·refine Wk.condF rfl h265 ?_
        refine Wk.exit <| At.te ?_
        cases hF
        exact At.en a163 rfl (sc rfl (sc rfl sn)) (Turn.picks [1, 2, 3] rfl rfl)
      ·clear h360
       rintro a264
       refine At.be <| At.tn <| Wk.seq <| Wk.region <| Wo.od (o_fa (r := ptr b102 1) rfl (fa25_1 _ _)) rfl ?_
       refine Wo.od (o_ld (k := 1) t23 rfl rfl rfl) rfl ?_
       obtain ⟨l362, h363, hF⟩ := ob_some hF
       refine Wo.x (o_cs (α := Unit) (V := fun _ => .tuple #[]) (N := (fun _ : Unit => pset [.obj b11 (.cells [.int .i64 0, .slice none 0 0] .own), .obj b102 (.cells [.int .i64 r101, .slice a264 l263.length l263.length] .own), .sl a264 2 l263.length (l263.map (eP (eI .i64) (eI .i64)))] 2 (.sl a264 2 l263.length (l362.map (eP (eI .i64) (eI .i64)))))) rfl rfl (fun m hm => f62_use n hm (k := 2) rfl h363)) gn rfl fun _ => ?_
       refine Wo.nil <| At.tn <| Wk.seq <| Wk.region <| Wo.od (o_ld (k := 1) t25 rfl rfl rfl) rfl ?_
       refine Wo.o0 (o_st (k := 0) t25 rfl rfl rfl rfl rfl) ?_
       refine Wo.od (o_as rfl) rfl ?_
       refine Wo.nil <| At.tn <| Wk.ret ?_
       cases hF
       exact At.ret (.cell (k := 0) t25 rfl rfl rfl (.tmp rfl .nil)) fun m' hm => ⟨(a264, l263.length), rfl, (Turn.picks [2] rfl rfl) m' hm⟩
theorem f34_ok (n : Nat) (l1 : List (Int × Int)) (l5 : List (Int × Int)) (a2 : Option Addr) (c3 : Nat) (a6 : Option Addr) (c7 : Nat) (r : Bool) (hF : F34 n l1 l5 = some r) (m : AMem) (h4 : Rd m a2 c3 2 l1.length (l1.map (eP (eI .i64) (eI .i64)))) (h8 : Rd m a6 c7 2 l5.length (l5.map (eP (eI .i64) (eI .i64)))) :
  CallA E18w 34 [.slice a2 l1.length c3, .slice a6 l5.length c7] m (fun v m' => ∃ x : Unit, v = .bool r ∧ Hp m m' []) := by
 unfold F34 at hF
 refine call_wk (m0 := m) (ps := [.rd a6 c7 2 l5.length (l5.map (eP (eI .i64) (eI .i64))), .rd a2 c3 2 l1.length (l1.map (eP (eI .i64) (eI .i64)))]) (N := 26) (rs := [.tmp 4]) rfl Tryd.func34 rfl rfl rfl (((Hp.start m).inn rfl h4).inn rfl h8) ?_
 refine Wk.seq <| Wk.region <| Wo.od (o_as rfl) rfl ?_
 refine Wo.nil <| At.tn <| Wk.seq <| Wk.seq <| Wk.region <| Wo.od (o_mv rfl) rfl ?_
 refine Wo.od (o_ln (k := 1) u23 rfl rfl (.inl rfl)) rfl ?_
 refine Wo.od (o_mv rfl) rfl ?_
 refine Wo.od (o_ln (k := 0) u23 rfl rfl (.inl rfl)) rfl ?_
 refine Wo.od (o_bi rfl rfl (ib_neq _ _)) rfl ?_
 refine Wo.nil <| At.tn ?_
 rcases br_some hF with ⟨h9, hF⟩ | ⟨h9, hF⟩
 ·refine Wk.condT rfl h9 ?_
  refine Wk.seq <| Wk.region <| Wo.od (o_as rfl) rfl ?_
  refine Wo.nil <| At.tn <| Wk.ret <| At.tr ?_
  cases hF
  exact At.ret (.tmp rfl .nil) fun m' hm => ⟨(), rfl, (Turn.picks [] rfl rfl) m' hm⟩
 ·refine Wk.condF rfl h9 ?_
  refine Wk.skip <| At.tn <| Wk.seq <| Wk.seq <| Wk.region <| Wo.od (o_mv rfl) rfl ?_
  refine Wo.od (o_ln (k := 1) u23 rfl rfl (.inl rfl)) rfl ?_
  refine Wo.od (o_mv rfl) rfl ?_
  refine Wo.nil <| At.tn <| Wk.block ?_
  obtain ⟨r42, h41, hF⟩ := ob_some hF
  refine Wk.cut (G := (fun (r : (Unit) ⊕ (Unit)) (g : Unit) => match r, g with | .inl _, _ => ⟨.ret, [(4, .bool false)], []⟩ | .inr _, _ => ⟨(.exit 0), [], []⟩) r42) ?_ ?_
  ·refine Wk.weak (fs' := [(0, .slice a2 l1.length c3), (1, .slice a6 l5.length c7), (12, .int .i64 (l1.length : Int)), (13, .int .i64 0)]) (ps' := [.rd a2 c3 2 l1.length (l1.map (eP (eI .i64) (eI .i64))), .rd a6 c7 2 l5.length (l5.map (eP (eI .i64) (eI .i64)))]) (sc rfl (sc rfl (sc rfl (sc rfl sn)))) (Turn.picks [1, 0] rfl rfl) ?_
   refine Wk.loop (σ := Int) (ρ := (Unit) ⊕ (Unit)) (γ := Unit) (δ := fun _ => Unit) _ (fun (s : Int) (g : Unit) => match s, g with | v11, _ => ⟨.normal, [(0, .slice a2 l1.length c3), (1, .slice a6 l5.length c7), (12, .int .i64 (l1.length : Int)), (13, .int .i64 v11)], [.rd a2 c3 2 l1.length (l1.map (eP (eI .i64) (eI .i64))), .rd a6 c7 2 l5.length (l5.map (eP (eI .i64) (eI .i64)))]⟩) (fun (r : (Unit) ⊕ (Unit)) (g : Unit) => match r, g with | .inl _, _ => ⟨.ret, [(4, .bool false)], []⟩ | .inr _, _ => ⟨(.exit 0), [], []⟩) ?_ (fun _ _ => rfl) (fun r d => by rcases r with _ | _ <;> (intro e; cases e)) _ _ _ h41 ()
   clear hF h41
   rintro v11 ⟨⟩ r hF
   unfold L34_1 at hF
   refine Wk.seq <| Wk.region <| Wo.od (o_bi rfl rfl (bin_lss _ _ _)) rfl ?_
   refine Wo.nil <| At.tn <| Wk.seq ?_
   rcases br_some hF with ⟨h27, hF⟩ | ⟨h27, hF⟩
   ·refine Wk.condT rfl h27 ?_
    refine Wk.skip <| At.tn <| Wk.seq <| Wk.block <| Wk.seq <| Wk.region <| Wo.od (o_mv rfl) rfl ?_
    refine Wo.od (o_as rfl) rfl ?_
    refine Wo.nil <| At.tn <| Wk.seq <| Wk.draw (by kernel_rfl) ?_
    refine Wo.od (o_mv rfl) rfl ?_
    refine Wo.od (o_mv rfl) rfl ?_
    obtain ⟨h28, hF⟩ := gd_some hF
    replace h28 := inB_some h28
    refine Wo.openr (k := 0) rfl (pos_of h28) ?_
    rintro b29 o30 rfl
    refine Wo.og (o_ixs s23 rfl rfl h28) gn rfl ?_
    obtain ⟨⟨x31, x32⟩, h33, hF⟩ := ob_some hF
    refine Wo.od (o_ldr (k := 0) t26 rfl rfl (map_at h33) rfl rfl) rfl ?_
    refine Wo.od (o_mv rfl) rfl ?_
    refine Wo.od (o_mv rfl) rfl ?_
    obtain ⟨h34, hF⟩ := gd_some hF
    replace h34 := inB_some h34
    refine Wo.openr (k := 2) rfl (pos_of h34) ?_
    rintro b35 o36 rfl
    refine Wo.og (o_ixs s23 rfl rfl h34) gn rfl ?_
    obtain ⟨⟨x37, x38⟩, h39, hF⟩ := ob_some hF
    refine Wo.od (o_ldr (k := 0) t26 rfl rfl (map_at h39) rfl rfl) rfl ?_
    refine Wo.od (o_bi rfl rfl (ag_ne eg26 (eq26 _ _ _ _))) rfl ?_
    refine Wo.nil <| At.tn ?_
    rcases br_some hF with ⟨h40, hF⟩ | ⟨h40, hF⟩
    ·refine Wk.condT rfl h40 ?_
     refine Wk.seq <| Wk.region <| Wo.od (o_as rfl) rfl ?_
     refine Wo.nil <| At.tn <| Wk.ret <| At.br <| At.tr ?_
     cases hF
     exact At.en () rfl (sc rfl sn) (Turn.picks [] rfl rfl)
    ·refine Wk.condF rfl h40 ?_
     refine Wk.skip <| At.bn <| At.tn <| Wk.region <| Wo.od (o_bi rfl rfl (bin_add _ _ _)) rfl ?_
     refine Wo.od (o_mv rfl) rfl ?_
     refine Wo.nil ?_
     cases hF
     exact At.en () rfl (sc rfl (sc rfl (sc rfl (sc rfl sn)))) (Turn.picks [2, 3] rfl rfl)
   ·refine Wk.condF rfl h27 ?_
    refine Wk.exit <| At.te ?_
    cases hF
    exact At.en () rfl sn (Turn.picks [] rfl rfl)
  ·clear h41
   rcases r42 with _ | _
   ·rintro ⟨⟩
    refine At.br <| At.tr ?_
    cases hF
    exact At.ret (.tmp rfl .nil) fun m' hm => ⟨(), rfl, (Turn.picks [] rfl rfl) m' hm⟩
   ·rintro ⟨⟩
    refine At.be <| At.tn <| Wk.seq <| Wk.region <| Wo.od (o_as rfl) rfl ?_
    refine Wo.nil <| At.tn <| Wk.ret ?_
    cases hF
    exact At.ret (.tmp rfl .nil) fun m' hm => ⟨(), rfl, (Turn.picks [] rfl rfl) m' hm⟩
theorem f27_ok (n : Nat) (x1 : Int) (l2 : List (Int × Int)) (x6 : Int) (l7 : List (Int × Int)) (a3 : Option Addr) (c4 : Nat) (a8 : Option Addr) (c9 : Nat) (r : Bool) (hF : F27 n x1 l2 x6 l7 = some r) (m : AMem) (h5 : Rd m a3 c4 2 l2.length (l2.map (eP (eI .i64) (eI .i64)))) (h10 : Rd m a8 c9 2 l7.length (l7.map (eP (eI .i64) (eI .i64)))) :
  CallA E18w 27 [.agg #[.int .i64 x1, .slice a3 l2.length c4], .agg #[.int .i64 x6, .slice a8 l7.length c9]] m (fun v m' => ∃ x : Unit, v = .bool r ∧ Hp m m' []) := by
 unfold F27 at hF
 refine call_wk (m0 := m) (ps := [.rd a8 c9 2 l7.length (l7.map (eP (eI .i64) (eI .i64))), .rd a3 c4 2 l2.length (l2.map (eP (eI .i64) (eI .i64)))]) (N := 17) (rs := [.tmp 4]) rfl Tryd.func27 rfl rfl rfl (((Hp.start m).inn rfl h5).inn rfl h10) ?_
 refine Wk.seq <| Wk.region <| Wo.x (o_bx rfl) gn rfl fun b11 => ?_
 refine Wo.x (o_bx rfl) gn rfl fun b12 => ?_
 refine Wo.od (o_as rfl) rfl ?_
 refine Wo.nil <| At.tn <| Wk.seq <| Wk.region <| Wo.od (o_fa (r := ptr b11 0) rfl (fa25_0 _ _)) rfl ?_
 refine Wo.od (o_ld (k := 1) t3 rfl rfl rfl) rfl ?_
 refine Wo.od (o_fa (r := ptr b12 0) rfl (fa25_0 _ _)) rfl ?_
 refine Wo.od (o_ld (k := 0) t3 rfl rfl rfl) rfl ?_
 refine Wo.od (o_bi rfl rfl (bin_eql _ _ _)) rfl ?_
 refine Wo.od (o_mv rfl) rfl ?_
 rcases br_some hF with ⟨h13, hF⟩ | ⟨h13, hF⟩
 ·refine Wo.og (o_fa (r := ptr b11 1) rfl (fa25_1 _ _)) (gg rfl rfl (eTT h13)) rfl ?_
  refine Wo.og (o_ld (k := 1) t23 rfl rfl rfl) (gg rfl rfl (eTT h13)) rfl ?_
  refine Wo.og (o_fa (r := ptr b12 1) rfl (fa25_1 _ _)) (gg rfl rfl (eTT h13)) rfl ?_
  refine Wo.og (o_ld (k := 0) t23 rfl rfl rfl) (gg rfl rfl (eTT h13)) rfl ?_
  obtain ⟨r15, h14, hF⟩ := ob_some hF
  refine Wo.x (o_cl rfl rfl (fun m hm => f34_ok n l2 l7 a3 c4 a8 c9 _ h14 m (hm.rd (k := 3) rfl (.rd _ _ _ _ _)) (hm.rd (k := 2) rfl (.rd _ _ _ _ _))) fun _ => rfl) (gg rfl rfl (eTT h13)) rfl ?_
  rintro ⟨⟩
  refine Wo.od (o_pt rfl h13 rfl) rfl ?_
  refine Wo.od (o_as rfl) rfl ?_
  refine Wo.nil <| At.tn <| Wk.ret ?_
  have hr := Option.some.inj hF
  subst r
  exact At.ret (.tmp rfl .nil) fun m' hm => ⟨(), rfl, (Turn.picks [] rfl rfl) m' hm⟩
 ·refine Wo.s (gg rfl rfl (eFT h13)) rfl ?_
  refine Wo.s (gg rfl rfl (eFT h13)) rfl ?_
  refine Wo.s (gg rfl rfl (eFT h13)) rfl ?_
  refine Wo.s (gg rfl rfl (eFT h13)) rfl ?_
  refine Wo.s (gg rfl rfl (eFT h13)) rfl ?_
  refine Wo.od (o_pf rfl h13 rfl) rfl ?_
  refine Wo.od (o_as rfl) rfl ?_
  refine Wo.nil <| At.tn <| Wk.ret ?_
  cases hF
  exact At.ret (.tmp rfl .nil) fun m' hm => ⟨(), rfl, (Turn.picks [] rfl rfl) m' hm⟩
theorem f57_ok (n : Nat) (x1 : Nat) (x2 : Int)  (r : Bool) (hF : F57 n x1 x2 = some r) (m : AMem)  :
  CallA E18w 57 [.int .u64 ((x1 : Nat) : Int), .int .i64 x2] m (fun v m' => ∃ x : Unit, v = .bool r ∧ Hp m m' []) := by
 unfold F57 at hF
 refine call_wk (m0 := m) (ps := []) (N := 10) (rs := [.tmp 4]) rfl Tryd.func57 rfl rfl rfl (Hp.start m) ?_
 refine Wk.seq <| Wk.region <| Wo.od (o_as rfl) rfl ?_
 refine Wo.nil <| At.tn <| Wk.seq <| Wk.region <| Wo.od (o_mv rfl) rfl ?_
 refine Wo.od (o_mv rfl) rfl ?_
 obtain ⟨h3, hF⟩ := gd_some hF
 refine Wo.od (o_bi rfl rfl (ub_shr _ _ h3)) rfl ?_
 refine Wo.od (o_bi rfl rfl (ub_and rfl _ _)) rfl ?_
 refine Wo.od (o_bi rfl rfl (ub_eql _ _)) rfl ?_
 refine Wo.od (o_as rfl) rfl ?_
 refine Wo.nil <| At.tn <| Wk.ret ?_
 cases hF
 exact At.ret (.tmp rfl .nil) fun m' hm => ⟨(), rfl, (Turn.picks [] rfl rfl) m' hm⟩
theorem f21_ok (n : Nat) (x1 : Int) (l2 : List (Int × Int)) (x6 : Nat) (a3 : Option Addr) (c4 : Nat) (r : Int × List (Int × Int) × List Int × Int) (hF : F21 n x1 l2 x6 = some r) (m : AMem) (hG : Gl m) (h5 : Rd m a3 c4 2 l2.length (l2.map (eP (eI .i64) (eI .i64)))) :
  CallA E18w 21 [.agg #[.int .i64 x1, .slice a3 l2.length c4], .int .u64 ((x6 : Nat) : Int)] m (fun v m' => ∃ x : Option Addr × Nat × Option Addr × Nat, v = .tuple #[.agg #[.int .i64 r.1, .slice x.1 x.2.1 x.2.1], .slice x.2.2.1 x.2.2.2 x.2.2.2, .int .i64 r.2.2.2] ∧ Hp m m' [.sl x.1 2 x.2.1 (r.2.1.map (eP (eI .i64) (eI .i64))), .sl x.2.2.1 1 x.2.2.2 (r.2.2.1.map (eI .i64))]) := by
 unfold F21 at hF
 refine call_wk (m0 := m) (ps := [.rd a3 c4 2 l2.length (l2.map (eP (eI .i64) (eI .i64)))]) (N := 71) (rs := [.cell 4 25, .cell 5 39, .tmp 6]) rfl Tryd.func21 rfl rfl rfl ((Hp.start m).inn rfl h5) ?_
 refine Wk.seq <| Wk.region <| Wo.x (o_bx rfl) gn rfl fun b7 => ?_
 refine Wo.x (o_al z25 rfl) gn rfl fun b8 => ?_
 refine Wo.x (o_al z39 rfl) gn rfl fun b9 => ?_
 refine Wo.od (o_as rfl) rfl ?_
 refine Wo.nil <| At.tn <| Wk.seq <| Wk.seq <| Wk.region <| Wo.od (o_ld (k := 2) t25 rfl rfl rfl) rfl ?_
 refine Wo.od (o_mv rfl) rfl ?_
 obtain ⟨r11, h10, hF⟩ := ob_some hF
 refine Wo.x (o_cl rfl rfl (fun m hm => f55_ok n x1 l2 x6 a3 c4 _ h10 m (hm.rd (k := 3) rfl (.rd _ _ _ _ _))) fun _ => rfl) gn rfl ?_
 rintro ⟨⟩
 refine Wo.od (o_as rfl) rfl ?_
 refine Wo.nil <| At.tn <| Wk.seq <| Wk.region <| Wo.od (o_mv rfl) rfl ?_
 refine Wo.od (o_bi rfl rfl (ib_neq _ _)) rfl ?_
 refine Wo.nil <| At.tn ?_
 rcases br_some hF with ⟨h12, hF⟩ | ⟨h12, hF⟩
 ·refine Wk.condT rfl h12 ?_
  refine Wk.seq <| Wk.region <| Wo.od (o_bd rfl z25 rfl (bd_s bs25 rfl rfl rfl)) rfl ?_
  refine Wo.od (o_mv rfl) rfl ?_
  refine Wo.o0 (o_st (k := 1) t25 rfl rfl rfl rfl rfl) ?_
  refine Wo.o0 (o_st (k := 0) t39 rfl rfl rfl rfl rfl) ?_
  refine Wo.od (o_as rfl) rfl ?_
  refine Wo.nil <| At.tn <| Wk.ret <| At.tr ?_
  cases hF
  exact At.ret (.cell (k := 1) t25 rfl rfl rfl (.cell (k := 0) t39 rfl rfl rfl (.tmp rfl .nil))) fun m' hm => ⟨(none, 0, none, 0), rfl, (Turn.trans (Turn.nil 2 rfl) (Turn.trans (Turn.nil 1 rfl) (Turn.picks [1, 0] rfl rfl))) m' hm⟩
 ·refine Wk.condF rfl h12 ?_
  refine Wk.skip <| At.tn <| Wk.seq <| Wk.seq <| Wk.region <| Wo.od (o_mv rfl) rfl ?_
  refine Wo.od (o_bi rfl rfl (ub_eql _ _)) rfl ?_
  refine Wo.nil <| At.tn ?_
  rcases br_some hF with ⟨h13, hF⟩ | ⟨h13, hF⟩
  ·refine Wk.condT rfl h13 ?_
   refine Wk.seq <| Wk.region <| Wo.od (o_bd rfl z25 rfl (bd_s bs25 rfl rfl rfl)) rfl ?_
   refine Wo.o0 (o_st (k := 1) t25 rfl rfl rfl rfl rfl) ?_
   refine Wo.o0 (o_st (k := 0) t39 rfl rfl rfl rfl rfl) ?_
   refine Wo.od (o_as rfl) rfl ?_
   refine Wo.nil <| At.tn <| Wk.ret <| At.tr ?_
   cases hF
   exact At.ret (.cell (k := 1) t25 rfl rfl rfl (.cell (k := 0) t39 rfl rfl rfl (.tmp rfl .nil))) fun m' hm => ⟨(none, 0, none, 0), rfl, (Turn.trans (Turn.nil 2 rfl) (Turn.trans (Turn.nil 1 rfl) (Turn.picks [1, 0] rfl rfl))) m' hm⟩
  ·refine Wk.condF rfl h13 ?_
   refine Wk.skip <| At.tn <| Wk.seq <| Wk.region <| Wo.x o_mm gn rfl fun b14 => ?_
   refine Wo.x (o_al z94 rfl) gn rfl fun b15 => ?_
   refine Wo.o0 (o_st (k := 0) t94 rfl rfl rfl rfl rfl) ?_
   refine Wo.nil <| At.tn <| Wk.seq <| Wk.seq <| Wk.region <| Wo.od (o_mv rfl) rfl ?_
   obtain ⟨l18, h21, hF⟩ := ob_some hF
   refine Wo.x (o_cs (α := Nat) (V := fun g => (fun (r : List (Int × Int)) (g : Nat) => match r, g with | l18, b17 => (.func (.func 78) #[] #[ptr b17 0] : Value)) l18 g) (N := fun g => (fun (r : List (Int × Int)) (g : Nat) => match r, g with | l18, b17 => ([.obj b17 (.cells [.int .u64 ((x6 : Nat) : Int)] .own), .obj b7 (.cells [.int .i64 x1, .slice a3 l2.length c4] .own), .rd a3 c4 2 l2.length (l2.map (eP (eI .i64) (eI .i64))), .obj b8 (.cells [.int .i64 0, .slice none 0 0] .own), .obj b9 (.cells [.slice none 0 0] .own), .obj b15 (.cells [.map (some b14)] .own), .obj b14 (.map (l18.map (eM (fun n : Int => .int .i64 n) (fun n : Int => .int .i64 n))))] : List Pc)) l18 g) rfl rfl (fun m hm => ?_)) gn rfl ?_
   ·clear hF
    revert l18
    intro r hF
    refine call_wk (N := 4) (rs := [.tmp 2]) rfl Tryd.func61 rfl rfl rfl hm ?_
    refine Wk.seq <| Wk.region <| Wo.x (o_bx rfl) gn rfl fun b19 => ?_
    refine Wo.od (o_as rfl) rfl ?_
    refine Wo.nil <| At.tn <| Wk.seq <| Wk.region <| Wo.od (o_mf rfl rfl) rfl ?_
    refine Wo.od (o_as rfl) rfl ?_
    refine Wo.nil <| At.tn <| Wk.ret ?_
    cases hF
    exact At.ret (.tmp rfl .nil) fun m' hm => ⟨b19, rfl, (Turn.picks [0, 5, 6, 4, 3, 1, 2] rfl rfl) m' hm⟩
   ·clear h21
    rintro b17
    refine Wo.nil <| At.tn <| Wk.block ?_
    obtain ⟨r134, h135, hF⟩ := ob_some hF
    refine Wk.range (N := 14) (rs := []) (γ := Option Addr) (X := fun g => (fun (r : List (Int) × List (Int × Int)) (g : Option Addr) => (match r, g with | (l79, l81), a80 => ⟨.ready, none, [.obj b7 (.cells [.int .i64 x1, .slice a3 l2.length c4] .own), .rd a3 c4 2 l2.length (l2.map (eP (eI .i64) (eI .i64))), .obj b8 (.cells [.int .i64 0, .slice none 0 0] .own), .obj b9 (.cells [.slice a80 l79.length l79.length] .own), .sl a80 1 l79.length (l79.map (eI .i64)), .obj b15 (.cells [.map (some b14)] .own), .obj b14 (.map (l81.map (eM (fun n : Int => .int .i64 n) (fun n : Int => .int .i64 n))))]⟩ : Rn)) r134 g) rfl rfl Tryd.func78 rfl rfl rfl ?_ (fun y => by intro e; cases e) ?_
    ·clear hF
     revert r134
     intro r hF
     intro t24 l22 rc23 h25 h26
     refine Wk.block ?_
     obtain ⟨r133, h132, hF⟩ := ob_some hF
     refine Wk.cut (G := (fun (r : List (Int) × List (Int × Int)) (g : Option Addr) => match r, g with | (l116, l118), a117 => ⟨(.exit 0), [], [.obj l22 (rc23 .ready none), .obj b7 (.cells [.int .i64 x1, .slice a3 l2.length c4] .own), .rd a3 c4 2 l2.length (l2.map (eP (eI .i64) (eI .i64))), .obj b8 (.cells [.int .i64 0, .slice none 0 0] .own), .obj b9 (.cells [.slice a117 l116.length l116.length] .own), .sl a117 1 l116.length (l116.map (eI .i64)), .obj b15 (.cells [.map (some b14)] .own), .obj b14 (.map (l118.map (eM (fun n : Int => .int .i64 n) (fun n : Int => .int .i64 n))))]⟩) r133) ?_ ?_
     ·refine Wk.weak (fs' := [(0, .func (.yield l22) #[] #[]), (1, ptr b17 0)]) (ps' := [.obj l22 (rc23 .ready none), .obj b17 (.cells [.int .u64 ((x6 : Nat) : Int)] .own), .obj b7 (.cells [.int .i64 x1, .slice a3 l2.length c4] .own), .rd a3 c4 2 l2.length (l2.map (eP (eI .i64) (eI .i64))), .obj b8 (.cells [.int .i64 0, .slice none 0 0] .own), .obj b9 (.cells [.slice none ([] : List (Int)).length ([] : List (Int)).length] .own), .sl none 1 ([] : List (Int)).length (([] : List (Int)).map (eI .i64)), .obj b15 (.cells [.map (some b14)] .own), .obj b14 (.map (l18.map (eM (fun n : Int => .int .i64 n) (fun n : Int => .int .i64 n))))]) (sc rfl (sc rfl sn)) (Turn.trans (Turn.nil 1 rfl) (Turn.picks [1, 2, 3, 4, 5, 6, 0, 7, 8] rfl rfl)) ?_
      refine Wk.loop (σ := Nat × List (Int) × List (Int × Int)) (ρ := List (Int) × List (Int × Int)) (γ := Option Addr) (δ := fun _ => Option Addr) _ (fun (s : Nat × List (Int) × List (Int × Int)) (g : Option Addr) => match s, g with | (v95, l96, l98), a97 => ⟨.normal, [(0, .func (.yield l22) #[] #[]), (1, ptr b17 0)], [.obj l22 (rc23 .ready none), .obj b17 (.cells [.int .u64 ((v95 : Nat) : Int)] .own), .obj b7 (.cells [.int .i64 x1, .slice a3 l2.length c4] .own), .rd a3 c4 2 l2.length (l2.map (eP (eI .i64) (eI .i64))), .obj b8 (.cells [.int .i64 0, .slice none 0 0] .own), .obj b9 (.cells [.slice a97 l96.length l96.length] .own), .sl a97 1 l96.length (l96.map (eI .i64)), .obj b15 (.cells [.map (some b14)] .own), .obj b14 (.map (l98.map (eM (fun n : Int => .int .i64 n) (fun n : Int => .int .i64 n))))]⟩) (fun (r : List (Int) × List (Int × Int)) (g : Option Addr) => match r, g with | (l116, l118), a117 => ⟨(.exit 0), [], [.obj l22 (rc23 .ready none), .obj b7 (.cells [.int .i64 x1, .slice a3 l2.length c4] .own), .rd a3 c4 2 l2.length (l2.map (eP (eI .i64) (eI .i64))), .obj b8 (.cells [.int .i64 0, .slice none 0 0] .own), .obj b9 (.cells [.slice a117 l116.length l116.length] .own), .sl a117 1 l116.length (l116.map (eI .i64)), .obj b15 (.cells [.map (some b14)] .own), .obj b14 (.map (l118.map (eM (fun n : Int => .int .i64 n) (fun n : Int => .int .i64 n))))]⟩) ?_ (fun _ _ => rfl) (fun r d => by intro e; cases e) _ _ _ h132 none
      clear hF h132
      rintro ⟨v95, l96, l98⟩ a97 r hF
      unfold L21_1 at hF
      refine Wk.seq <| Wk.seq <| Wk.region <| Wo.od (o_ld (k := 1) t28 rfl rfl rfl) rfl ?_
      refine Wo.od (o_bi rfl rfl (ub_neq _ _)) rfl ?_
      refine Wo.nil <| At.tn ?_
      rcases br_some hF with ⟨h119, hF⟩ | ⟨h119, hF⟩
      ·refine Wk.condT rfl h119 ?_
       refine Wk.skip <| At.tn <| Wk.seq <| Wk.block <| Wk.seq <| Wk.region <| Wo.od (o_mv rfl) rfl ?_
       refine Wo.od (o_ld (k := 1) t28 rfl rfl rfl) rfl ?_
       obtain ⟨r121, h120, hF⟩ := ob_some hF
       refine Wo.x (o_cl rfl rfl (fun m hm => f42_ok n v95  _ h120 m (hG.ext hm.ext) ) fun _ => rfl) gn rfl ?_
       rintro ⟨⟩
       obtain ⟨l125, h131, hF⟩ := ob_some hF
       refine Wo.x (o_yd (k := 0) (k1 := 0) (γA := Unit) (GA := (fun g : Unit => (match g with | _ => ⟨.normal, [(5, ptr b9 0), (8, ptr b15 0), (9, .int .i64 r121)], [.obj l22 (rc23 .ready none), .obj b9 (.cells [.slice a97 l96.length l96.length] .own), .sl a97 1 l96.length (l96.map (eI .i64)), .obj b15 (.cells [.map (some b14)] .own), .obj b14 (.map (l98.map (eM (fun n : Int => .int .i64 n) (fun n : Int => .int .i64 n)))), .obj b7 (.cells [.int .i64 x1, .slice a3 l2.length c4] .own), .rd a3 c4 2 l2.length (l2.map (eP (eI .i64) (eI .i64))), .obj b8 (.cells [.int .i64 0, .slice none 0 0] .own), .obj b17 (.cells [.int .u64 ((v95 : Nat) : Int)] .own)]⟩ : En))) (γ := Option Addr) (G := fun g => (fun (r : List (Int)) (g : Option Addr) => (match r, g with | l125, a126 => ⟨.normal, [], [.obj l22 (rc23 .busy none), .obj b7 (.cells [.int .i64 x1, .slice a3 l2.length c4] .own), .rd a3 c4 2 l2.length (l2.map (eP (eI .i64) (eI .i64))), .obj b8 (.cells [.int .i64 0, .slice none 0 0] .own), .obj b9 (.cells [.slice a126 l125.length l125.length] .own), .sl a126 1 l125.length (l125.map (eI .i64)), .obj b15 (.cells [.map (some b14)] .own), .obj b14 (.map ((mput l98 r121 (l96.length : Int)).map (eM (fun n : Int => .int .i64 n) (fun n : Int => .int .i64 n)))), .obj b17 (.cells [.int .u64 ((v95 : Nat) : Int)] .own)]⟩ : En)) l125 g) rfl rfl rfl h26 h25 rfl ?_ (fun _ => rfl) (fun _ => rfl) ?_ (fun y => rfl)) gn rfl ?_
       ·clear hF h131
        refine Wk.region <| Wo.od (o_as rfl) rfl ?_
        refine Wo.nil ?_
        exact At.en () rfl (sc rfl (sc rfl (sc rfl sn))) (Turn.picks [0, 5, 6, 7, 8, 2, 3, 4, 1] rfl rfl)
       ·clear hF
        revert l125
        intro r hF
        rintro ⟨⟩
        refine Wk.block <| Wk.seq <| Wk.region <| Wo.od (o_ld (k := 3) t94 rfl rfl rfl) rfl ?_
        refine Wo.od (o_mv rfl) rfl ?_
        refine Wo.od (o_ld (k := 1) t39 rfl rfl rfl) rfl ?_
        refine Wo.od (o_ln (k := 2) u39 rfl rfl (.inl rfl)) rfl ?_
        refine Wo.o0 (o_mu (q := 4) (xs := l98) (k := r121) (v := (l96.length : Int)) (vE := (fun n : Int => .int .i64 n)) u94 (keyI u3) rfl rfl rfl rfl) ?_
        refine Wo.nil <| At.tn <| Wk.region <| Wo.od (o_ld (k := 1) t39 rfl rfl rfl) rfl ?_
        refine Wo.od (o_mv rfl) rfl ?_
        refine Wo.x (o_bs (es := ([r121] : List (Int)).map (eI .i64)) s39 rfl (bs_c s39 z3 rfl rfl) rfl rfl) gn rfl fun b127 => ?_
        obtain ⟨h128, hF⟩ := gd_some hF
        refine Wo.x (o_apl (k := 3) (k2 := 0) (xs := (l96 : List (Int))) (ys := ([r121] : List (Int))) (enI .i64) s39 ⟨_, u39⟩ rfl rfl rfl (.arr _ _ _ _ _) h128) gn rfl fun a129 => ?_
        refine Wo.o0 (o_st (k := 2) t39 rfl rfl rfl rfl rfl) ?_
        refine Wo.nil <| At.bn ?_
        cases hF
        exact At.en a129 rfl sn (Turn.picks [1, 6, 7, 8, 2, 3, 4, 5, 9] rfl rfl)
       ·clear h131
        rintro a126
        refine Wo.od (o_un rfl rfl) rfl ?_
        refine Wo.nil <| At.tn <| Wk.condF rfl rfl ?_
        refine Wk.skip <| At.bn <| At.tn <| Wk.region <| Wo.od (o_ld (k := 8) t28 rfl rfl rfl) rfl ?_
        refine Wo.od (o_ld (k := 8) t28 rfl rfl rfl) rfl ?_
        refine Wo.od (o_bi rfl rfl (ub_sub rfl _ _)) rfl ?_
        refine Wo.od (o_bi rfl rfl (ub_and rfl _ _)) rfl ?_
        refine Wo.o0 (o_st (k := 8) t28 rfl rfl rfl rfl rfl) ?_
        refine Wo.nil ?_
        cases hF
        exact At.en a126 rfl (sc rfl (sc rfl sn)) (Turn.picks [0, 8, 1, 2, 3, 4, 5, 6, 7] rfl rfl)
      ·refine Wk.condF rfl h119 ?_
       refine Wk.exit <| At.te ?_
       cases hF
       exact At.en a97 rfl sn (Turn.picks [0, 2, 3, 4, 5, 6, 7, 8] rfl rfl)
     ·clear h132
      obtain ⟨l116, l118⟩ := r133
      rintro a117
      refine At.be ?_
      cases hF
      exact At.fin .nil fun m' hm => ⟨a117, (Turn.picks [0, 1, 2, 3, 4, 5, 6, 7] rfl rfl) m' hm⟩
    ·clear h135
     obtain ⟨l79, l81⟩ := r134
     rintro a80
     change At _ .normal _ _ _
     refine At.bn <| At.tn <| Wk.seq <| Wk.region <| Wo.od (o_ld (k := 3) t39 rfl rfl rfl) rfl ?_
     refine Wo.od (o_ln (k := 4) u39 rfl rfl (.inl rfl)) rfl ?_
     refine Wo.od (o_fa (r := ptr b8 0) rfl (fa25_0 _ _)) rfl ?_
     refine Wo.o0 (o_st (k := 2) t3 rfl rfl rfl rfl rfl) ?_
     refine Wo.nil <| At.tn <| Wk.seq <| Wk.seq <| Wk.region <| Wo.od (o_fa (r := ptr b7 1) rfl (fa25_1 _ _)) rfl ?_
     refine Wo.od (o_ld (k := 0) t23 rfl rfl rfl) rfl ?_
     refine Wo.od (o_ln (k := 1) u23 rfl rfl (.inl rfl)) rfl ?_
     refine Wo.od (o_mv rfl) rfl ?_
     refine Wo.nil <| At.tn <| Wk.block ?_
     obtain ⟨l266, h329, hF⟩ := ob_some hF
     refine Wk.cut (G := (fun (r : List (Int × Int)) (g : Option Addr) => match r, g with | l266, a267 => ⟨(.exit 2), [(4, ptr b8 0), (5, ptr b9 0)], [.obj b8 (.cells [.int .i64 (l79.length : Int), .slice a267 l266.length l266.length] .own), .sl a267 2 l266.length (l266.map (eP (eI .i64) (eI .i64))), .obj b9 (.cells [.slice a80 l79.length l79.length] .own), .sl a80 1 l79.length (l79.map (eI .i64))]⟩) l266) ?_ ?_
     ·refine Wk.weak (fs' := [(1, .int .u64 ((x6 : Nat) : Int)), (4, ptr b8 0), (5, ptr b9 0), (8, ptr b15 0), (38, .slice a3 l2.length c4), (39, .int .i64 (l2.length : Int)), (40, .int .i64 0)]) (ps' := [.obj b8 (.cells [.int .i64 (l79.length : Int), .slice none ([] : List (Int × Int)).length ([] : List (Int × Int)).length] .own), .sl none 2 ([] : List (Int × Int)).length (([] : List (Int × Int)).map (eP (eI .i64) (eI .i64))), .obj b9 (.cells [.slice a80 l79.length l79.length] .own), .sl a80 1 l79.length (l79.map (eI .i64)), .obj b15 (.cells [.map (some b14)] .own), .obj b14 (.map (l81.map (eM (fun n : Int => .int .i64 n) (fun n : Int => .int .i64 n)))), .rd a3 c4 2 l2.length (l2.map (eP (eI .i64) (eI .i64)))]) (sc rfl (sc rfl (sc rfl (sc rfl (sc rfl (sc rfl (sc rfl sn))))))) (Turn.trans (Turn.nil 2 rfl) (Turn.picks [3, 0, 4, 5, 6, 7, 2] rfl rfl)) ?_
      refine Wk.loop (σ := List (Int × Int) × Int) (ρ := List (Int × Int)) (γ := Option Addr) (δ := fun _ => Option Addr) _ (fun (s : List (Int × Int) × Int) (g : Option Addr) => match s, g with | (l199, v201), a200 => ⟨.normal, [(1, .int .u64 ((x6 : Nat) : Int)), (4, ptr b8 0), (5, ptr b9 0), (8, ptr b15 0), (38, .slice a3 l2.length c4), (39, .int .i64 (l2.length : Int)), (40, .int .i64 v201)], [.obj b8 (.cells [.int .i64 (l79.length : Int), .slice a200 l199.length l199.length] .own), .sl a200 2 l199.length (l199.map (eP (eI .i64) (eI .i64))), .obj b9 (.cells [.slice a80 l79.length l79.length] .own), .sl a80 1 l79.length (l79.map (eI .i64)), .obj b15 (.cells [.map (some b14)] .own), .obj b14 (.map (l81.map (eM (fun n : Int => .int .i64 n) (fun n : Int => .int .i64 n)))), .rd a3 c4 2 l2.length (l2.map (eP (eI .i64) (eI .i64)))]⟩) (fun (r : List (Int × Int)) (g : Option Addr) => match r, g with | l266, a267 => ⟨(.exit 2), [(4, ptr b8 0), (5, ptr b9 0)], [.obj b8 (.cells [.int .i64 (l79.length : Int), .slice a267 l266.length l266.length] .own), .sl a267 2 l266.length (l266.map (eP (eI .i64) (eI .i64))), .obj b9 (.cells [.slice a80 l79.length l79.length] .own), .sl a80 1 l79.length (l79.map (eI .i64))]⟩) ?_ (fun _ _ => rfl) (fun r d => by intro e; cases e) _ _ _ h329 none
      clear hF h329
      rintro ⟨l199, v201⟩ a200 r hF
      unfold L21_2 at hF
      refine Wk.seq <| Wk.region <| Wo.od (o_bi rfl rfl (bin_lss _ _ _)) rfl ?_
      refine Wo.nil <| At.tn <| Wk.seq ?_
      rcases br_some hF with ⟨h268, hF⟩ | ⟨h268, hF⟩
      ·refine Wk.condT rfl h268 ?_
       refine Wk.skip <| At.tn <| Wk.seq ?_
       obtain ⟨l297, h327, hF⟩ := ob_some hF
       refine Wk.cut (G := (fun (r : List (Int × Int)) (g : Option Addr) => match r, g with | l297, a298 => ⟨.normal, [(1, .int .u64 ((x6 : Nat) : Int)), (4, ptr b8 0), (5, ptr b9 0), (8, ptr b15 0), (38, .slice a3 l2.length c4), (39, .int .i64 (l2.length : Int)), (40, .int .i64 v201)], [.obj b8 (.cells [.int .i64 (l79.length : Int), .slice a298 l297.length l297.length] .own), .sl a298 2 l297.length (l297.map (eP (eI .i64) (eI .i64))), .obj b9 (.cells [.slice a80 l79.length l79.length] .own), .sl a80 1 l79.length (l79.map (eI .i64)), .obj b15 (.cells [.map (some b14)] .own), .obj b14 (.map (l81.map (eM (fun n : Int => .int .i64 n) (fun n : Int => .int .i64 n)))), .rd a3 c4 2 l2.length (l2.map (eP (eI .i64) (eI .i64)))]⟩) l297) ?_ ?_
       ·clear hF
        revert l297
        intro r hF
        refine Wk.block <| Wk.seq <| Wk.region ?_
        obtain ⟨h299, hF⟩ := gd_some hF
        replace h299 := inB_some h299
        refine Wo.openr (k := 6) rfl (pos_of h299) ?_
        rintro b300 o301 rfl
        refine Wo.og (o_ixs s23 rfl rfl h299) gn rfl ?_
        obtain ⟨⟨x302, x303⟩, h304, hF⟩ := ob_some hF
        refine Wo.od (o_ldr (k := 0) t26 rfl rfl (map_at h304) rfl rfl) rfl ?_
        refine Wo.x (o_al z26 rfl) gn rfl fun b305 => ?_
        refine Wo.o0 (o_st (k := 0) t26 rfl rfl rfl rfl rfl) ?_
        refine Wo.nil <| At.tn <| Wk.seq ?_
        obtain ⟨v311, h317, hF⟩ := ob_some hF
        refine Wk.cut (G := (fun (r : Bool) (g : Unit) => match r, g with | v311, _ => ⟨.normal, [(1, .int .u64 ((x6 : Nat) : Int)), (4, ptr b8 0), (5, ptr b9 0), (8, ptr b15 0), (11, ptr b305 0), (38, .slice (some ⟨b300, o301, none⟩) l2.length c4), (39, .int .i64 (l2.length : Int)), (40, .int .i64 v201), (53, .bool v311)], [.obj b8 (.cells [.int .i64 (l79.length : Int), .slice a200 l199.length l199.length] .own), .sl a200 2 l199.length (l199.map (eP (eI .i64) (eI .i64))), .obj b9 (.cells [.slice a80 l79.length l79.length] .own), .sl a80 1 l79.length (l79.map (eI .i64)), .obj b15 (.cells [.map (some b14)] .own), .obj b14 (.map (l81.map (eM (fun n : Int => .int .i64 n) (fun n : Int => .int .i64 n)))), .obj b305 (.cells [.int .i64 x302, .int .i64 x303] .own), .ro b300 o301 2 l2.length (l2.map (eP (eI .i64) (eI .i64))), .rd (some ⟨b300, o301, none⟩) c4 2 l2.length (l2.map (eP (eI .i64) (eI .i64)))]⟩) v311) ?_ ?_
        ·clear hF
         revert v311
         intro r hF
         refine Wk.region <| Wo.od (o_mv rfl) rfl ?_
         refine Wo.od (o_ia (r := ptr b305 0) rfl rfl (ia_c ar26 (i := 0) (by decide))) rfl ?_
         refine Wo.od (o_ld (k := 0) t3 rfl rfl rfl) rfl ?_
         obtain ⟨r313, h312, hF⟩ := ob_some hF
         refine Wo.x (o_cl rfl rfl (fun m hm => f57_ok n x6 x302  _ h312 m ) fun _ => rfl) gn rfl ?_
         rintro ⟨⟩
         refine Wo.od (o_mv rfl) rfl ?_
         rcases br_some hF with ⟨h314, hF⟩ | ⟨h314, hF⟩
         ·refine Wo.og (o_mv rfl) (gg rfl rfl (eTT h314)) rfl ?_
          refine Wo.og (o_ia (r := ptr b305 1) rfl rfl (ia_c ar26 (i := 1) (by decide))) (gg rfl rfl (eTT h314)) rfl ?_
          refine Wo.og (o_ld (k := 0) t3 rfl rfl rfl) (gg rfl rfl (eTT h314)) rfl ?_
          obtain ⟨r316, h315, hF⟩ := ob_some hF
          refine Wo.x (o_cl rfl rfl (fun m hm => f57_ok n x6 x303  _ h315 m ) fun _ => rfl) (gg rfl rfl (eTT h314)) rfl ?_
          rintro ⟨⟩
          refine Wo.od (o_pt rfl h314 rfl) rfl ?_
          refine Wo.nil ?_
          have hr := Option.some.inj hF
          subst r
          exact At.en () rfl (sc rfl (sc rfl (sc rfl (sc rfl (sc rfl (sc rfl (sc rfl (sc rfl (sc rfl sn))))))))) (Turn.picks [2, 3, 4, 5, 6, 7, 0, 1, 8] rfl rfl)
         ·refine Wo.s (gg rfl rfl (eFT h314)) rfl ?_
          refine Wo.s (gg rfl rfl (eFT h314)) rfl ?_
          refine Wo.s (gg rfl rfl (eFT h314)) rfl ?_
          refine Wo.s (gg rfl rfl (eFT h314)) rfl ?_
          refine Wo.od (o_pf rfl h314 rfl) rfl ?_
          refine Wo.nil ?_
          cases hF
          exact At.en () rfl (sc rfl (sc rfl (sc rfl (sc rfl (sc rfl (sc rfl (sc rfl (sc rfl (sc rfl sn))))))))) (Turn.picks [2, 3, 4, 5, 6, 7, 0, 1, 8] rfl rfl)
        ·clear h317
         rintro ⟨⟩
         refine At.tn ?_
         rcases br_some hF with ⟨h319, hF⟩ | ⟨h319, hF⟩
         ·refine Wk.condT rfl h319 ?_
          refine Wk.region <| Wo.od (o_fa (r := ptr b8 1) rfl (fa25_1 _ _)) rfl ?_
          refine Wo.od (o_ld (k := 0) t23 rfl rfl rfl) rfl ?_
          refine Wo.od (o_ld (k := 4) t94 rfl rfl rfl) rfl ?_
          refine Wo.od (o_ia (r := ptr b305 0) rfl rfl (ia_c ar26 (i := 0) (by decide))) rfl ?_
          refine Wo.od (o_ld (k := 6) t3 rfl rfl rfl) rfl ?_
          obtain ⟨y320, h321, hF⟩ := ob_some hF
          refine Wo.od (o_lkv (q := 5) (xs := l81) (k := x302) (vE := (fun n : Int => .int .i64 n)) (z0 := (0 : Int)) u94 (keyI u3) z3 rfl rfl rfl rfl h321) rfl ?_
          refine Wo.od (o_ld (k := 4) t94 rfl rfl rfl) rfl ?_
          refine Wo.od (o_ia (r := ptr b305 1) rfl rfl (ia_c ar26 (i := 1) (by decide))) rfl ?_
          refine Wo.od (o_ld (k := 6) t3 rfl rfl rfl) rfl ?_
          obtain ⟨y322, h323, hF⟩ := ob_some hF
          refine Wo.od (o_lkv (q := 5) (xs := l81) (k := x303) (vE := (fun n : Int => .int .i64 n)) (z0 := (0 : Int)) u94 (keyI u3) z3 rfl rfl rfl rfl h323) rfl ?_
          refine Wo.od (o_bd rfl z26 rfl (bd_s bs26 rfl rfl rfl)) rfl ?_
          refine Wo.x (o_bs (es := ([(y320, y322)] : List (Int × Int)).map (eP (eI .i64) (eI .i64))) s23 rfl (bs_c s23 z26 rfl rfl) rfl rfl) gn rfl fun b324 => ?_
          obtain ⟨h325, hF⟩ := gd_some hF
          refine Wo.x (o_apl (k := 2) (k2 := 0) (xs := (l199 : List (Int × Int))) (ys := ([(y320, y322)] : List (Int × Int))) (enP (enI .i64) (enI .i64)) s23 ⟨_, u23⟩ rfl rfl rfl (.arr _ _ _ _ _) h325) gn rfl fun a326 => ?_
          refine Wo.od (o_fa (r := ptr b8 1) rfl (fa25_1 _ _)) rfl ?_
          refine Wo.o0 (o_st (k := 1) t23 rfl rfl rfl rfl rfl) ?_
          refine Wo.nil <| At.bn ?_
          cases hF
          exact At.en a326 rfl (sc rfl (sc rfl (sc rfl (sc rfl (sc rfl (sc rfl (sc rfl sn))))))) (Turn.picks [1, 2, 3, 4, 5, 6, 9] rfl rfl)
         ·refine Wk.condF rfl h319 ?_
          refine Wk.skip <| At.bn ?_
          have hr := Option.some.inj hF
          subst r
          exact At.en a200 rfl (sc rfl (sc rfl (sc rfl (sc rfl (sc rfl (sc rfl (sc rfl sn))))))) (Turn.picks [0, 1, 2, 3, 4, 5, 8] rfl rfl)
       ·clear h327
        rintro a298
        refine At.tn <| Wk.region <| Wo.od (o_bi rfl rfl (bin_add _ _ _)) rfl ?_
        refine Wo.od (o_mv rfl) rfl ?_
        refine Wo.nil ?_
        cases hF
        exact At.en a298 rfl (sc rfl (sc rfl (sc rfl (sc rfl (sc rfl (sc rfl (sc rfl sn))))))) (Turn.picks [0, 1, 2, 3, 4, 5, 6] rfl rfl)
      ·refine Wk.condF rfl h268 ?_
       refine Wk.exit <| At.te ?_
       cases hF
       exact At.en a200 rfl (sc rfl (sc rfl sn)) (Turn.picks [0, 1, 2, 3] rfl rfl)
     ·clear h329
      rintro a267
      refine At.be <| At.tn <| Wk.seq <| Wk.drawc (prs := [(1, 2)]) (by kernel_rfl) ?_
      refine Wn.od (o_ld (k := 0) t25 rfl rfl rfl) rfl ?_
      refine Wn.odr rfl (o_ld (k := 2) t39 rfl rfl rfl) rfl ?_
      refine Wn.o0w rfl (o_st (k := 0) t25 rfl rfl rfl rfl rfl) ?_
      refine Wn.o0 (o_st (k := 2) t39 rfl rfl rfl rfl rfl) ?_
      refine Wn.od (o_as rfl) rfl ?_
      refine Wn.nil (fun m hm => (OkP.rw rfl rfl rfl (hm.ne (i := 2) (j := 0) rfl rfl rfl rfl (by decide) rfl) OkP.nil)) ?_
      refine At.tn <| Wk.ret ?_
      cases hF
      exact At.ret (.cell (k := 0) t25 rfl rfl rfl (.cell (k := 2) t39 rfl rfl rfl (.tmp rfl .nil))) fun m' hm => ⟨(a267, l266.length, a80, l79.length), rfl, (Turn.picks [1, 3] rfl rfl) m' hm⟩
theorem f15_ok (n : Nat) (x1 : Int) (l2 : List (Int × Int)) (x6 : Nat) (a3 : Option Addr) (c4 : Nat) (r : List (Int × Int) × Int) (hF : F15 n x1 l2 x6 = some r) (m : AMem) (h5 : Rd m a3 c4 2 l2.length (l2.map (eP (eI .i64) (eI .i64)))) :
  CallA E18w 15 [.agg #[.int .i64 x1, .slice a3 l2.length c4], .int .u64 ((x6 : Nat) : Int)] m (fun v m' => ∃ x : Option Addr × Nat, v = .tuple #[.slice x.1 x.2 x.2, .int .i64 r.2] ∧ Hp m m' [.sl x.1 2 x.2 (r.1.map (eP (eI .i64) (eI .i64)))]) := by
 unfold F15 at hF
 refine call_wk (m0 := m) (ps := [.rd a3 c4 2 l2.length (l2.map (eP (eI .i64) (eI .i64)))]) (N := 38) (rs := [.tmp 4, .tmp 5]) rfl Tryd.func15 rfl rfl rfl ((Hp.start m).inn rfl h5) ?_
 refine Wk.seq <| Wk.region <| Wo.x (o_bx rfl) gn rfl fun b7 => ?_
 refine Wo.od (o_as rfl) rfl ?_
 refine Wo.od (o_as rfl) rfl ?_
 refine Wo.nil <| At.tn <| Wk.seq <| Wk.seq <| Wk.region <| Wo.od (o_ld (k := 0) t25 rfl rfl rfl) rfl ?_
 refine Wo.od (o_mv rfl) rfl ?_
 obtain ⟨r9, h8, hF⟩ := ob_some hF
 refine Wo.x (o_cl rfl rfl (fun m hm => f55_ok n x1 l2 x6 a3 c4 _ h8 m (hm.rd (k := 1) rfl (.rd _ _ _ _ _))) fun _ => rfl) gn rfl ?_
 rintro ⟨⟩
 refine Wo.od (o_as rfl) rfl ?_
 refine Wo.nil <| At.tn <| Wk.seq <| Wk.region <| Wo.od (o_mv rfl) rfl ?_
 refine Wo.od (o_bi rfl rfl (ib_neq _ _)) rfl ?_
 refine Wo.nil <| At.tn ?_
 rcases br_some hF with ⟨h10, hF⟩ | ⟨h10, hF⟩
 ·refine Wk.condT rfl h10 ?_
  refine Wk.seq <| Wk.region <| Wo.od (o_mv rfl) rfl ?_
  refine Wo.od (o_as rfl) rfl ?_
  refine Wo.od (o_as rfl) rfl ?_
  refine Wo.nil <| At.tn <| Wk.ret <| At.tr ?_
  cases hF
  exact At.ret (.tmp rfl (.tmp rfl .nil)) fun m' hm => ⟨(none, 0), rfl, (Turn.trans (Turn.nil 2 rfl) (Turn.picks [0] rfl rfl)) m' hm⟩
 ·refine Wk.condF rfl h10 ?_
  refine Wk.skip <| At.tn <| Wk.seq <| Wk.region <| Wo.od (o_as rfl) rfl ?_
  refine Wo.nil <| At.tn <| Wk.seq <| Wk.seq <| Wk.region <| Wo.od (o_fa (r := ptr b7 1) rfl (fa25_1 _ _)) rfl ?_
  refine Wo.od (o_ld (k := 0) t23 rfl rfl rfl) rfl ?_
  refine Wo.od (o_ln (k := 1) u23 rfl rfl (.inl rfl)) rfl ?_
  refine Wo.od (o_mv rfl) rfl ?_
  refine Wo.nil <| At.tn <| Wk.block ?_
  obtain ⟨l89, h126, hF⟩ := ob_some hF
  refine Wk.cut (G := (fun (r : List (Int × Int)) (g : Option Addr) => match r, g with | l89, a90 => ⟨(.exit 0), [(7, .slice a90 l89.length l89.length)], [.sl a90 2 l89.length (l89.map (eP (eI .i64) (eI .i64)))]⟩) l89) ?_ ?_
  ·refine Wk.weak (fs' := [(1, .int .u64 ((x6 : Nat) : Int)), (7, .slice none ([] : List (Int × Int)).length ([] : List (Int × Int)).length), (17, .slice a3 l2.length c4), (18, .int .i64 (l2.length : Int)), (19, .int .i64 0)]) (ps' := [.sl none 2 ([] : List (Int × Int)).length (([] : List (Int × Int)).map (eP (eI .i64) (eI .i64))), .rd a3 c4 2 l2.length (l2.map (eP (eI .i64) (eI .i64)))]) (sc rfl (sc rfl (sc rfl (sc rfl (sc rfl sn))))) (Turn.trans (Turn.nil 2 rfl) (Turn.picks [0, 2] rfl rfl)) ?_
   refine Wk.loop (σ := List (Int × Int) × Int) (ρ := List (Int × Int)) (γ := Option Addr) (δ := fun _ => Option Addr) _ (fun (s : List (Int × Int) × Int) (g : Option Addr) => match s, g with | (l48, v50), a49 => ⟨.normal, [(1, .int .u64 ((x6 : Nat) : Int)), (7, .slice a49 l48.length l48.length), (17, .slice a3 l2.length c4), (18, .int .i64 (l2.length : Int)), (19, .int .i64 v50)], [.sl a49 2 l48.length (l48.map (eP (eI .i64) (eI .i64))), .rd a3 c4 2 l2.length (l2.map (eP (eI .i64) (eI .i64)))]⟩) (fun (r : List (Int × Int)) (g : Option Addr) => match r, g with | l89, a90 => ⟨(.exit 0), [(7, .slice a90 l89.length l89.length)], [.sl a90 2 l89.length (l89.map (eP (eI .i64) (eI .i64)))]⟩) ?_ (fun _ _ => rfl) (fun r d => by intro e; cases e) _ _ _ h126 none
   clear hF h126
   rintro ⟨l48, v50⟩ a49 r hF
   unfold L15_1 at hF
   refine Wk.seq <| Wk.region <| Wo.od (o_bi rfl rfl (bin_lss _ _ _)) rfl ?_
   refine Wo.nil <| At.tn <| Wk.seq ?_
   rcases br_some hF with ⟨h91, hF⟩ | ⟨h91, hF⟩
   ·refine Wk.condT rfl h91 ?_
    refine Wk.skip <| At.tn <| Wk.seq ?_
    obtain ⟨l107, h124, hF⟩ := ob_some hF
    refine Wk.cut (G := (fun (r : List (Int × Int)) (g : Option Addr) => match r, g with | l107, a108 => ⟨.normal, [(1, .int .u64 ((x6 : Nat) : Int)), (7, .slice a108 l107.length l107.length), (17, .slice a3 l2.length c4), (18, .int .i64 (l2.length : Int)), (19, .int .i64 v50)], [.sl a108 2 l107.length (l107.map (eP (eI .i64) (eI .i64))), .rd a3 c4 2 l2.length (l2.map (eP (eI .i64) (eI .i64)))]⟩) l107) ?_ ?_
    ·clear hF
     revert l107
     intro r hF
     refine Wk.block <| Wk.seq <| Wk.region ?_
     obtain ⟨h109, hF⟩ := gd_some hF
     replace h109 := inB_some h109
     refine Wo.openr (k := 1) rfl (pos_of h109) ?_
     rintro b110 o111 rfl
     refine Wo.og (o_ixs s23 rfl rfl h109) gn rfl ?_
     obtain ⟨⟨x112, x113⟩, h114, hF⟩ := ob_some hF
     refine Wo.od (o_ldr (k := 0) t26 rfl rfl (map_at h114) rfl rfl) rfl ?_
     refine Wo.x (o_al z26 rfl) gn rfl fun b115 => ?_
     refine Wo.o0 (o_st (k := 0) t26 rfl rfl rfl rfl rfl) ?_
     refine Wo.nil <| At.tn <| Wk.seq <| Wk.drawc (prs := [(3, 6)]) (by kernel_rfl) ?_
     refine Wn.od (o_mv rfl) rfl ?_
     refine Wn.od (o_ia (r := ptr b115 0) rfl rfl (ia_c ar26 (i := 0) (by decide))) rfl ?_
     refine Wn.od (o_ld (k := 0) t3 rfl rfl rfl) rfl ?_
     obtain ⟨r117, h116, hF⟩ := ob_some hF
     refine Wn.c (o_ce rfl rfl (fun m hm => f57_ok n x6 x112  _ h116 m ) fun _ => rfl) gn rfl ?_
     rintro ⟨⟩
     refine Wn.od (o_mv rfl) rfl ?_
     refine Wn.od (o_ia (r := ptr b115 1) rfl rfl (ia_c ar26 (i := 1) (by decide))) rfl ?_
     refine Wn.od (o_ld (k := 0) t3 rfl rfl rfl) rfl ?_
     obtain ⟨r119, h118, hF⟩ := ob_some hF
     refine Wn.c (o_ce rfl rfl (fun m hm => f57_ok n x6 x113  _ h118 m ) fun _ => rfl) gn rfl ?_
     rintro ⟨⟩
     refine Wn.od (o_bi rfl rfl (bb_ne u4)) rfl ?_
     refine Wn.nil (fun m hm => OkP.all rfl) ?_
     refine At.tn ?_
     rcases br_some hF with ⟨h120, hF⟩ | ⟨h120, hF⟩
     ·refine Wk.condT rfl h120 ?_
      refine Wk.region <| Wo.od (o_mv rfl) rfl ?_
      refine Wo.od (o_ld (k := 0) t26 rfl rfl rfl) rfl ?_
      refine Wo.x (o_bs (es := ([(x112, x113)] : List (Int × Int)).map (eP (eI .i64) (eI .i64))) s23 rfl (bs_c s23 z26 rfl rfl) rfl rfl) gn rfl fun b121 => ?_
      obtain ⟨h122, hF⟩ := gd_some hF
      refine Wo.x (o_apl (k := 3) (k2 := 0) (xs := (l48 : List (Int × Int))) (ys := ([(x112, x113)] : List (Int × Int))) (enP (enI .i64) (enI .i64)) s23 ⟨_, u23⟩ rfl rfl rfl (.arr _ _ _ _ _) h122) gn rfl fun a123 => ?_
      refine Wo.od (o_as rfl) rfl ?_
      refine Wo.nil <| At.bn ?_
      cases hF
      exact At.en a123 rfl (sc rfl (sc rfl (sc rfl (sc rfl (sc rfl sn))))) (Turn.picks [3, 4] rfl rfl)
     ·refine Wk.condF rfl h120 ?_
      refine Wk.skip <| At.bn ?_
      have hr := Option.some.inj hF
      subst r
      exact At.en a49 rfl (sc rfl (sc rfl (sc rfl (sc rfl (sc rfl sn))))) (Turn.picks [2, 3] rfl rfl)
    ·clear h124
     rintro a108
     refine At.tn <| Wk.region <| Wo.od (o_bi rfl rfl (bin_add _ _ _)) rfl ?_
     refine Wo.od (o_mv rfl) rfl ?_
     refine Wo.nil ?_
     cases hF
     exact At.en a108 rfl (sc rfl (sc rfl (sc rfl (sc rfl (sc rfl sn))))) (Turn.picks [0, 1] rfl rfl)
   ·refine Wk.condF rfl h91 ?_
    refine Wk.exit <| At.te ?_
    cases hF
    exact At.en a49 rfl (sc rfl sn) (Turn.picks [0] rfl rfl)
  ·clear h126
   rintro a90
   refine At.be <| At.tn <| Wk.seq <| Wk.region <| Wo.od (o_mv rfl) rfl ?_
   refine Wo.od (o_as rfl) rfl ?_
   refine Wo.od (o_as rfl) rfl ?_
   refine Wo.nil <| At.tn <| Wk.ret ?_
   cases hF
   exact At.ret (.tmp rfl (.tmp rfl .nil)) fun m' hm => ⟨(a90, l89.length), rfl, (Turn.picks [0] rfl rfl) m' hm⟩
theorem f54_ok (n : Nat) (x1 : Nat)  (r : Int) (hF : F54 n x1 = some r) (m : AMem)  :
  CallA E18w 54 [.int .u64 ((x1 : Nat) : Int)] m (fun v m' => ∃ x : Unit, v = .int .i64 r ∧ Hp m m' []) := by
 unfold F54 at hF
 refine call_wk (m0 := m) (ps := []) (N := 35) (rs := [.tmp 2]) rfl Tryd.func54 rfl rfl rfl (Hp.start m) ?_
 refine Wk.seq <| Wk.region <| Wo.od (o_as rfl) rfl ?_
 refine Wo.nil <| At.tn <| Wk.seq <| Wk.region <| Wo.od (o_mv rfl) rfl ?_
 refine Wo.od (o_bi rfl rfl (ub_shr _ _ rfl)) rfl ?_
 refine Wo.od (o_bi rfl rfl (ub_and rfl _ _)) rfl ?_
 refine Wo.od (o_mv rfl) rfl ?_
 refine Wo.od (o_bi rfl rfl (ub_and rfl _ _)) rfl ?_
 obtain ⟨y2, h3, hF⟩ := ob_some hF
 refine Wo.od (o_bi rfl rfl ((ub_add rfl _ _).trans (cN h3))) rfl ?_
 refine Wo.od (o_as rfl) rfl ?_
 refine Wo.nil <| At.tn <| Wk.seq <| Wk.region <| Wo.od (o_mv rfl) rfl ?_
 refine Wo.od (o_bi rfl rfl (ub_shr _ _ rfl)) rfl ?_
 refine Wo.od (o_bi rfl rfl (ub_and rfl _ _)) rfl ?_
 refine Wo.od (o_mv rfl) rfl ?_
 refine Wo.od (o_bi rfl rfl (ub_and rfl _ _)) rfl ?_
 obtain ⟨y4, h5, hF⟩ := ob_some hF
 refine Wo.od (o_bi rfl rfl ((ub_add rfl _ _).trans (cN h5))) rfl ?_
 refine Wo.od (o_as rfl) rfl ?_
 refine Wo.nil <| At.tn <| Wk.seq <| Wk.region <| Wo.od (o_mv rfl) rfl ?_
 refine Wo.od (o_bi rfl rfl (ub_shr _ _ rfl)) rfl ?_
 refine Wo.od (o_mv rfl) rfl ?_
 refine Wo.od (o_bi rfl rfl (ub_add rfl _ _)) rfl ?_
 obtain ⟨y6, h7, hF⟩ := ob_some hF
 refine Wo.od (o_bi rfl rfl ((ub_and rfl _ _).trans (cN h7))) rfl ?_
 refine Wo.od (o_as rfl) rfl ?_
 refine Wo.nil <| At.tn <| Wk.seq <| Wk.region <| Wo.od (o_mv rfl) rfl ?_
 refine Wo.od (o_mv rfl) rfl ?_
 refine Wo.od (o_bi rfl rfl (ub_shr _ _ rfl)) rfl ?_
 refine Wo.od (o_bi rfl rfl (ub_add rfl _ _)) rfl ?_
 refine Wo.od (o_as rfl) rfl ?_
 refine Wo.nil <| At.tn <| Wk.seq <| Wk.region <| Wo.od (o_mv rfl) rfl ?_
 refine Wo.od (o_mv rfl) rfl ?_
 refine Wo.od (o_bi rfl rfl (ub_shr _ _ rfl)) rfl ?_
 obtain ⟨y8, h9, hF⟩ := ob_some hF
 refine Wo.od (o_bi rfl rfl ((ub_add rfl _ _).trans (cN h9))) rfl ?_
 refine Wo.od (o_as rfl) rfl ?_
 refine Wo.nil <| At.tn <| Wk.seq <| Wk.region <| Wo.od (o_mv rfl) rfl ?_
 refine Wo.od (o_mv rfl) rfl ?_
 refine Wo.od (o_bi rfl rfl (ub_shr _ _ rfl)) rfl ?_
 refine Wo.od (o_bi rfl rfl (ub_add rfl _ _)) rfl ?_
 refine Wo.od (o_as rfl) rfl ?_
 refine Wo.nil <| At.tn <| Wk.seq <| Wk.region <| Wo.od (o_mv rfl) rfl ?_
 refine Wo.od (o_cv rfl (cv_i (by rw [u28]; rfl) u3)) rfl ?_
 obtain ⟨y10, h11, hF⟩ := ob_some hF
 refine Wo.od (o_bi rfl rfl ((ib_and _ _).trans (cI h11))) rfl ?_
 refine Wo.od (o_as rfl) rfl ?_
 refine Wo.nil <| At.tn <| Wk.ret ?_
 have hr := Option.some.inj hF
 subst r
 exact At.ret (.tmp rfl .nil) fun m' hm => ⟨(), rfl, (Turn.picks [] rfl rfl) m' hm⟩
theorem f25_ok (n : Nat) (x1 : Int) (l2 : List (Int × Int)) (x6 : Nat) (a3 : Option Addr) (c4 : Nat) (r : Int) (hF : F25 n x1 l2 x6 = some r) (m : AMem) (hG : Gl m) (h5 : Rd m a3 c4 2 l2.length (l2.map (eP (eI .i64) (eI .i64)))) :
  CallA E18w 25 [.agg #[.int .i64 x1, .slice a3 l2.length c4], .int .u64 ((x6 : Nat) : Int)] m (fun v m' => ∃ x : Unit, v = .int .i64 r ∧ Hp m m' []) := by
 unfold F25 at hF
 refine call_wk (m0 := m) (ps := [.rd a3 c4 2 l2.length (l2.map (eP (eI .i64) (eI .i64)))]) (N := 17) (rs := [.tmp 4]) rfl Tryd.func25 rfl rfl rfl ((Hp.start m).inn rfl h5) ?_
 refine Wk.seq <| Wk.region <| Wo.x (o_bx rfl) gn rfl fun b7 => ?_
 refine Wo.od (o_as rfl) rfl ?_
 refine Wo.nil <| At.tn <| Wk.seq <| Wk.region <| Wo.od (o_ld (k := 0) t25 rfl rfl rfl) rfl ?_
 refine Wo.od (o_mv rfl) rfl ?_
 obtain ⟨⟨l9, r12⟩, h8, hF⟩ := ob_some hF
 refine Wo.x (o_cl rfl rfl (fun m hm => f17_ok n x1 l2 x6 a3 c4 _ h8 m (hG.ext hm.ext) (hm.rd (k := 1) rfl (.rd _ _ _ _ _))) fun _ => rfl) gn rfl ?_
 rintro ⟨a10, n11⟩
 refine Wo.len (k := 0) (xs := l9) rfl ?_
 rintro rfl
 refine Wo.od (o_mv rfl) rfl ?_
 refine Wo.od (o_ex rfl rfl) rfl ?_
 refine Wo.od (o_ex rfl rfl) rfl ?_
 refine Wo.od (o_as rfl) rfl ?_
 refine Wo.od (o_as rfl) rfl ?_
 refine Wo.nil <| At.tn <| Wk.seq <| Wk.seq <| Wk.region <| Wo.od (o_mv rfl) rfl ?_
 refine Wo.od (o_bi rfl rfl (ib_neq _ _)) rfl ?_
 refine Wo.nil <| At.tn ?_
 rcases br_some hF with ⟨h13, hF⟩ | ⟨h13, hF⟩
 ·refine Wk.condT rfl h13 ?_
  refine Wk.seq <| Wk.region <| Wo.od (o_as rfl) rfl ?_
  refine Wo.nil <| At.tn <| Wk.ret <| At.tr ?_
  cases hF
  exact At.ret (.tmp rfl .nil) fun m' hm => ⟨(), rfl, (Turn.picks [] rfl rfl) m' hm⟩
 ·refine Wk.condF rfl h13 ?_
  refine Wk.skip <| At.tn <| Wk.seq <| Wk.region <| Wo.od (o_mv rfl) rfl ?_
  refine Wo.od (o_ln (k := 0) u36 rfl rfl (.inl rfl)) rfl ?_
  refine Wo.od (o_as rfl) rfl ?_
  refine Wo.nil <| At.tn <| Wk.ret ?_
  cases hF
  exact At.ret (.tmp rfl .nil) fun m' hm => ⟨(), rfl, (Turn.picks [] rfl rfl) m' hm⟩
theorem f73_ok (n : Nat) (l1 : List (Int × Int)) (x5 : Int) (x6 : Int) (a2 : Option Addr) (c3 : Nat) (r : Int) (hF : F73 n l1 x5 x6 = some r) (m : AMem) (h4 : Rd m a2 c3 2 l1.length (l1.map (eP (eI .i64) (eI .i64)))) :
  CallA E18w 73 [.slice a2 l1.length c3, .agg #[.int .i64 x5, .int .i64 x6]] m (fun v m' => ∃ x : Unit, v = .int .i64 r ∧ Hp m m' []) := by
 unfold F73 at hF
 refine call_wk (m0 := m) (ps := [.rd a2 c3 2 l1.length (l1.map (eP (eI .i64) (eI .i64)))]) (N := 19) (rs := [.tmp 4]) rfl Tryd.func73 rfl rfl rfl ((Hp.start m).inn rfl h4) ?_
 refine Wk.seq <| Wk.region <| Wo.x (o_bx rfl) gn rfl fun b7 => ?_
 refine Wo.od (o_as rfl) rfl ?_
 refine Wo.nil <| At.tn <| Wk.seq <| Wk.seq <| Wk.region <| Wo.od (o_mv rfl) rfl ?_
 refine Wo.od (o_ln (k := 1) u23 rfl rfl (.inl rfl)) rfl ?_
 refine Wo.od (o_mv rfl) rfl ?_
 refine Wo.nil <| At.tn <| Wk.block ?_
 obtain ⟨r29, h28, hF⟩ := ob_some hF
 refine Wk.cut (G := (fun (r : (Int) ⊕ (Unit)) (g : Unit) => match r, g with | .inl v19, _ => ⟨.ret, [(4, .int .i64 v19)], []⟩ | .inr _, _ => ⟨(.exit 0), [], []⟩) r29) ?_ ?_
 ·refine Wk.weak (fs' := [(0, .slice a2 l1.length c3), (3, ptr b7 0), (7, .int .i64 (l1.length : Int)), (8, .int .i64 0)]) (ps' := [.rd a2 c3 2 l1.length (l1.map (eP (eI .i64) (eI .i64))), .obj b7 (.cells [.int .i64 x5, .int .i64 x6] .own)]) (sc rfl (sc rfl (sc rfl (sc rfl sn)))) (Turn.picks [1, 0] rfl rfl) ?_
  refine Wk.loop (σ := Int) (ρ := (Int) ⊕ (Unit)) (γ := Unit) (δ := fun _ => Unit) _ (fun (s : Int) (g : Unit) => match s, g with | v9, _ => ⟨.normal, [(0, .slice a2 l1.length c3), (3, ptr b7 0), (7, .int .i64 (l1.length : Int)), (8, .int .i64 v9)], [.rd a2 c3 2 l1.length (l1.map (eP (eI .i64) (eI .i64))), .obj b7 (.cells [.int .i64 x5, .int .i64 x6] .own)]⟩) (fun (r : (Int) ⊕ (Unit)) (g : Unit) => match r, g with | .inl v19, _ => ⟨.ret, [(4, .int .i64 v19)], []⟩ | .inr _, _ => ⟨(.exit 0), [], []⟩) ?_ (fun _ _ => rfl) (fun r d => by rcases r with _ | _ <;> (intro e; cases e)) _ _ _ h28 ()
  clear hF h28
  rintro v9 ⟨⟩ r hF
  unfold L73_1 at hF
  refine Wk.seq <| Wk.region <| Wo.od (o_bi rfl rfl (bin_lss _ _ _)) rfl ?_
  refine Wo.nil <| At.tn <| Wk.seq ?_
  rcases br_some hF with ⟨h20, hF⟩ | ⟨h20, hF⟩
  ·refine Wk.condT rfl h20 ?_
   refine Wk.skip <| At.tn <| Wk.seq <| Wk.block <| Wk.seq <| Wk.region <| Wo.od (o_mv rfl) rfl ?_
   refine Wo.od (o_as rfl) rfl ?_
   refine Wo.nil <| At.tn <| Wk.seq <| Wk.draw (by kernel_rfl) ?_
   refine Wo.od (o_ld (k := 1) t26 rfl rfl rfl) rfl ?_
   refine Wo.od (o_mv rfl) rfl ?_
   refine Wo.od (o_mv rfl) rfl ?_
   obtain ⟨h21, hF⟩ := gd_some hF
   replace h21 := inB_some h21
   refine Wo.openr (k := 0) rfl (pos_of h21) ?_
   rintro b22 o23 rfl
   refine Wo.og (o_ixs s23 rfl rfl h21) gn rfl ?_
   obtain ⟨⟨x24, x25⟩, h26, hF⟩ := ob_some hF
   refine Wo.od (o_ldr (k := 0) t26 rfl rfl (map_at h26) rfl rfl) rfl ?_
   refine Wo.od (o_bi rfl rfl (ag_eq eg26 (eq26 _ _ _ _))) rfl ?_
   refine Wo.nil <| At.tn ?_
   rcases br_some hF with ⟨h27, hF⟩ | ⟨h27, hF⟩
   ·refine Wk.condT rfl h27 ?_
    refine Wk.seq <| Wk.region <| Wo.od (o_mv rfl) rfl ?_
    refine Wo.od (o_as rfl) rfl ?_
    refine Wo.nil <| At.tn <| Wk.ret <| At.br <| At.tr ?_
    cases hF
    exact At.en () rfl (sc rfl sn) (Turn.picks [] rfl rfl)
   ·refine Wk.condF rfl h27 ?_
    refine Wk.skip <| At.bn <| At.tn <| Wk.region <| Wo.od (o_bi rfl rfl (bin_add _ _ _)) rfl ?_
    refine Wo.od (o_mv rfl) rfl ?_
    refine Wo.nil ?_
    cases hF
    exact At.en () rfl (sc rfl (sc rfl (sc rfl (sc rfl sn)))) (Turn.picks [1, 2] rfl rfl)
  ·refine Wk.condF rfl h20 ?_
   refine Wk.exit <| At.te ?_
   cases hF
   exact At.en () rfl sn (Turn.picks [] rfl rfl)
 ·clear h28
  rcases r29 with v19 | _
  ·rintro ⟨⟩
   refine At.br <| At.tr ?_
   have hr := Option.some.inj hF
   subst r
   exact At.ret (.tmp rfl .nil) fun m' hm => ⟨(), rfl, (Turn.picks [] rfl rfl) m' hm⟩
  ·rintro ⟨⟩
   refine At.be <| At.tn <| Wk.seq <| Wk.region <| Wo.od (o_as rfl) rfl ?_
   refine Wo.nil <| At.tn <| Wk.ret ?_
   cases hF
   exact At.ret (.tmp rfl .nil) fun m' hm => ⟨(), rfl, (Turn.picks [] rfl rfl) m' hm⟩
theorem f48_ok (n : Nat) (l1 : List (Int × Int)) (x5 : Int) (x6 : Int) (a2 : Option Addr) (c3 : Nat) (r : Bool) (hF : F48 n l1 x5 x6 = some r) (m : AMem) (h4 : Rd m a2 c3 2 l1.length (l1.map (eP (eI .i64) (eI .i64)))) :
  CallA E18w 48 [.slice a2 l1.length c3, .agg #[.int .i64 x5, .int .i64 x6]] m (fun v m' => ∃ x : Unit, v = .bool r ∧ Hp m m' []) := by
 unfold F48 at hF
 refine call_wk (m0 := m) (ps := [.rd a2 c3 2 l1.length (l1.map (eP (eI .i64) (eI .i64)))]) (N := 9) (rs := [.tmp 4]) rfl Tryd.func48 rfl rfl rfl ((Hp.start m).inn rfl h4) ?_
 refine Wk.seq <| Wk.region <| Wo.x (o_bx rfl) gn rfl fun b7 => ?_
 refine Wo.od (o_as rfl) rfl ?_
 refine Wo.nil <| At.tn <| Wk.seq <| Wk.region <| Wo.od (o_mv rfl) rfl ?_
 refine Wo.od (o_ld (k := 0) t26 rfl rfl rfl) rfl ?_
 obtain ⟨r9, h8, hF⟩ := ob_some hF
 refine Wo.x (o_cl rfl rfl (fun m hm => f73_ok n l1 x5 x6 a2 c3 _ h8 m (hm.rd (k := 1) rfl (.rd _ _ _ _ _))) fun _ => rfl) gn rfl ?_
 rintro ⟨⟩
 refine Wo.od (o_bi rfl rfl (bin_geq _ _ _)) rfl ?_
 refine Wo.od (o_as rfl) rfl ?_
 refine Wo.nil <| At.tn <| Wk.ret ?_
 cases hF
 exact At.ret (.tmp rfl .nil) fun m' hm => ⟨(), rfl, (Turn.picks [] rfl rfl) m' hm⟩
theorem f22_at (n : Nat) (x1 : Int) (l2 : List (Int × Int)) (l6 : List (Int)) (a3 : Option Addr) (c4 : Nat) (a7 : Option Addr) (c8 nn : Nat) (hl : l6.length = nn) (r : Int × List (Int × Int) × Int) (hF : F22 n x1 l2 l6 = some r) (m : AMem) (h5 : Rd m a3 c4 2 l2.length (l2.map (eP (eI .i64) (eI .i64)))) (h9 : Rd m a7 c8 1 nn (l6.map (eI .i64))) :
  CallA E18w 22 [.agg #[.int .i64 x1, .slice a3 l2.length c4], .slice a7 nn c8] m (fun v m' => ∃ x : Option Addr × Nat, v = .tuple #[.agg #[.int .i64 r.1, .slice x.1 x.2 x.2], .int .i64 r.2.2] ∧ Hp m m' [.sl x.1 2 x.2 (r.2.1.map (eP (eI .i64) (eI .i64)))]) := by
 subst hl
 exact f22_ok n x1 l2 l6 a3 c4 a7 c8 r hF m h5 h9
end Go.Proofs.YtpclggcpobakhaaDoor.W12
end
