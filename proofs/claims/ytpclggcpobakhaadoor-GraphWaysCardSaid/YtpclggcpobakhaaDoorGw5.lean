/- Texts of the abstract machine and of the walks, joined: S18W0 S18F2 S18Fit S18W60 S18P AbsWord S18Rep. -/
import Derived.Test.YtpclggcpobakhaaDoorGw4
section
namespace Go.Proofs.YtpclggcpobakhaaDoor.W0
open Go Go.Ab Go.Ab.W Go.Proofs.YtpclggcpobakhaaDoor
set_option maxRecDepth 10000
set_option maxHeartbeats 4000000
attribute [local irreducible] Tm.at Trie.set Trie.get AMem.get AMem.set AMem.alloc AMem.ww AMem.kill
theorem z59 : zeroA E18w.P 59 = some (.agg #[.int .i64 0, .slice none 0 0, .int .i64 0, .slice none 0 0, .int .i64 0, .slice none 0 0]) := by kernel_rfl
theorem t55 : TyI E18w.P 55 true 4 := ⟨by kernel_rfl, by kernel_rfl, by kernel_rfl⟩
theorem z25 : zeroA E18w.P 25 = some (.agg #[.int .i64 0, .slice none 0 0]) := by kernel_rfl
theorem fa55_0 : ∀ b o, fieldAddrA E18w.P 55 (ptr b o) 0 = some (ptr b (o + 0)) := fun _ _ => by kernel_rfl
theorem t5 : TyI E18w.P 5 false 1 := ⟨by kernel_rfl, by kernel_rfl, by kernel_rfl⟩
theorem u5 : E18w.P.underlying 5 = some (.int .u8) := by kernel_rfl
theorem u3 : E18w.P.underlying 3 = some (.int .i64) := by kernel_rfl
theorem fa55_1 : ∀ b o, fieldAddrA E18w.P 55 (ptr b o) 1 = some (ptr b (o + 1)) := fun _ _ => by kernel_rfl
theorem bs25 : BdT E18w.P 25 (.agg #[.int .i64 0, .slice none 0 0]) [(0, 1), (1, 1)] := .mk' (by kernel_rfl) (by kernel_rfl)
theorem t25 : TyI E18w.P 25 true 2 := ⟨by kernel_rfl, by kernel_rfl, by kernel_rfl⟩
theorem fa25_0 : ∀ b o, fieldAddrA E18w.P 25 (ptr b o) 0 = some (ptr b (o + 0)) := fun _ _ => by kernel_rfl
theorem t3 : TyI E18w.P 3 false 1 := ⟨by kernel_rfl, by kernel_rfl, by kernel_rfl⟩
theorem fa55_2 : ∀ b o, fieldAddrA E18w.P 55 (ptr b o) 2 = some (ptr b (o + 2)) := fun _ _ => by kernel_rfl
theorem t52 : TyI E18w.P 52 false 1 := ⟨by kernel_rfl, by kernel_rfl, by kernel_rfl⟩
theorem u102 : E18w.P.underlying 102 = some (.int .u64) := by kernel_rfl
theorem fa55_3 : ∀ b o, fieldAddrA E18w.P 55 (ptr b o) 3 = some (ptr b (o + 3)) := fun _ _ => by kernel_rfl
theorem t53 : TyI E18w.P 53 false 1 := ⟨by kernel_rfl, by kernel_rfl, by kernel_rfl⟩
theorem u53 : E18w.P.underlying 53 = some (.slice 103) := by kernel_rfl
theorem s53 : SlT E18w.P 53 103 2 := SlT.of (by kernel_rfl)
theorem ar103 : ArT E18w.P 103 5 2 1 := ⟨by kernel_rfl, by kernel_rfl, by kernel_rfl⟩
theorem fa25_1 : ∀ b o, fieldAddrA E18w.P 25 (ptr b o) 1 = some (ptr b (o + 1)) := fun _ _ => by kernel_rfl
theorem t23 : TyI E18w.P 23 false 1 := ⟨by kernel_rfl, by kernel_rfl, by kernel_rfl⟩
theorem z26 : zeroA E18w.P 26 = some (.agg #[.int .i64 0, .int .i64 0]) := by kernel_rfl
theorem bs26 : BdT E18w.P 26 (.agg #[.int .i64 0, .int .i64 0]) [(0, 1), (1, 1)] := .mk' (by kernel_rfl) (by kernel_rfl)
theorem u23 : E18w.P.underlying 23 = some (.slice 26) := by kernel_rfl
theorem s23 : SlT E18w.P 23 26 2 := SlT.of (by kernel_rfl)
theorem ar58 : ArT E18w.P 58 57 2 5 := ⟨by kernel_rfl, by kernel_rfl, by kernel_rfl⟩
theorem t57 : TyI E18w.P 57 true 5 := ⟨by kernel_rfl, by kernel_rfl, by kernel_rfl⟩
theorem fa57_1 : ∀ b o, fieldAddrA E18w.P 57 (ptr b o) 1 = some (ptr b (o + 1)) := fun _ _ => by kernel_rfl
theorem fa57_0 : ∀ b o, fieldAddrA E18w.P 57 (ptr b o) 0 = some (ptr b (o + 0)) := fun _ _ => by kernel_rfl
theorem fa57_2 : ∀ b o, fieldAddrA E18w.P 57 (ptr b o) 2 = some (ptr b (o + 2)) := fun _ _ => by kernel_rfl
theorem fa57_3 : ∀ b o, fieldAddrA E18w.P 57 (ptr b o) 3 = some (ptr b (o + 3)) := fun _ _ => by kernel_rfl
theorem t26 : TyI E18w.P 26 true 2 := ⟨by kernel_rfl, by kernel_rfl, by kernel_rfl⟩
theorem ar26 : ArT E18w.P 26 3 2 1 := ⟨by kernel_rfl, by kernel_rfl, by kernel_rfl⟩
theorem bs59 : BdT E18w.P 59 (.agg #[.int .i64 0, .slice none 0 0, .int .i64 0, .slice none 0 0, .int .i64 0, .slice none 0 0]) [(0, 2), (2, 2), (4, 2)] := .mk' (by kernel_rfl) (by kernel_rfl)
theorem t59 : TyI E18w.P 59 true 6 := ⟨by kernel_rfl, by kernel_rfl, by kernel_rfl⟩
theorem u39 : E18w.P.underlying 39 = some (.slice 3) := by kernel_rfl
theorem s39 : SlT E18w.P 39 3 1 := SlT.of (by kernel_rfl)
theorem f40_ok (n : Nat) (x1 : Nat) (x2 : Nat) (x3 : Nat) (l4 : List (Nat × Nat)) (a5 : Option Addr) (c6 : Nat) (r : Int × List (Int × Int)) (hF : F40 n x1 x2 x3 l4 = some r) (m : AMem) (h7 : Rd m a5 c6 2 l4.length (l4.map (eP (eN .u8) (eN .u8)))) :
  CallA E18w 40 [.agg #[.int .u8 ((x1 : Nat) : Int), .int .u8 ((x2 : Nat) : Int), .int .u16 ((x3 : Nat) : Int), .slice a5 l4.length c6]] m (fun v m' => ∃ x : Option Addr × Nat, v = .agg #[.int .i64 r.1, .slice x.1 x.2 x.2] ∧ Hp m m' [.sl x.1 2 x.2 (r.2.map (eP (eI .i64) (eI .i64)))]) := by
 unfold F40 at hF
 refine call_wk (m0 := m) (ps := [.rd a5 c6 2 l4.length (l4.map (eP (eN .u8) (eN .u8)))]) (N := 137) (rs := [.cell 2 25]) rfl Tryd.func40 rfl rfl rfl ((Hp.start m).inn rfl h7) ?_
 refine Wk.seq <| Wk.region <| Wo.x (o_bx rfl) gn rfl fun b8 => ?_
 refine Wo.x (o_al z25 rfl) gn rfl fun b9 => ?_
 refine Wo.nil <| At.tn <| Wk.seq <| Wk.draw (by kernel_rfl) ?_
 refine Wo.od (o_fa (r := ptr b8 0) rfl (fa55_0 _ _)) rfl ?_
 refine Wo.od (o_ld (k := 1) t5 rfl rfl rfl) rfl ?_
 refine Wo.od (o_bi rfl rfl (ub_rem _ _ (by decide))) rfl ?_
 refine Wo.od (o_cv rfl (cv_i (by rw [u5]; rfl) u3)) rfl ?_
 refine Wo.od (o_bi rfl rfl (bin_add _ _ _)) rfl ?_
 refine Wo.od (o_fa (r := ptr b8 1) rfl (fa55_1 _ _)) rfl ?_
 refine Wo.od (o_ld (k := 1) t5 rfl rfl rfl) rfl ?_
 refine Wo.od (o_bi rfl rfl (ub_rem _ _ (by decide))) rfl ?_
 refine Wo.od (o_cv rfl (cv_i (by rw [u5]; rfl) u3)) rfl ?_
 refine Wo.od (o_bi rfl rfl (bin_add _ _ _)) rfl ?_
 refine Wo.od (o_as rfl) rfl ?_
 refine Wo.od (o_as rfl) rfl ?_
 refine Wo.nil <| At.tn <| Wk.seq <| Wk.region <| Wo.od (o_mv rfl) rfl ?_
 refine Wo.od (o_mv rfl) rfl ?_
 obtain ⟨y10, h11, hF⟩ := ob_some hF
 refine Wo.od (o_bi rfl rfl ((bin_mul _ _ _).trans (cI h11))) rfl ?_
 refine Wo.od (o_bd rfl z25 rfl (bd_s bs25 rfl rfl rfl)) rfl ?_
 refine Wo.x (o_al z25 rfl) gn rfl fun b12 => ?_
 refine Wo.o0 (o_st (k := 0) t25 rfl rfl rfl rfl rfl) ?_
 refine Wo.nil <| At.tn <| Wk.seq <| Wk.region <| Wo.od (o_as rfl) rfl ?_
 refine Wo.nil <| At.tn <| Wk.seq <| Wk.seq <| Wk.region <| Wo.od (o_as rfl) rfl ?_
 refine Wo.nil <| At.tn <| Wk.block ?_
 obtain ⟨l2020, h3018, hF⟩ := ob_some hF
 refine Wk.cut (G := (fun (r : List (Int × Int)) (g : Option Addr) => match r, g with | l2020, a2021 => ⟨(.exit 0), [(2, ptr b9 0), (5, ptr b12 0)], [.obj b9 (.cells [.int .i64 0, .slice none 0 0] .own), .obj b12 (.cells [.int .i64 y10, .slice a2021 l2020.length l2020.length] .own), .sl a2021 2 l2020.length (l2020.map (eP (eI .i64) (eI .i64)))]⟩) l2020) ?_ ?_
 ·refine Wk.weak (fs' := [(1, ptr b8 0), (2, ptr b9 0), (3, .int .i64 (IntKind.wrap .i64 (1 + (IntKind.wrap .i64 ((x1 % 4 : Nat) : Int))))), (5, ptr b12 0), (6, .int .i64 0), (7, .int .i64 0)]) (ps' := [.obj b8 (.cells [.int .u8 ((x1 : Nat) : Int), .int .u8 ((x2 : Nat) : Int), .int .u16 ((x3 : Nat) : Int), .slice a5 l4.length c6] .own), .rd a5 c6 2 l4.length (l4.map (eP (eN .u8) (eN .u8))), .obj b9 (.cells [.int .i64 0, .slice none 0 0] .own), .obj b12 (.cells [.int .i64 y10, .slice none ([] : List (Int × Int)).length ([] : List (Int × Int)).length] .own), .sl none 2 ([] : List (Int × Int)).length (([] : List (Int × Int)).map (eP (eI .i64) (eI .i64)))]) (sc rfl (sc rfl (sc rfl (sc rfl (sc rfl (sc rfl sn)))))) (Turn.trans (Turn.nil 2 rfl) (Turn.picks [3, 4, 2, 1, 0] rfl rfl)) ?_
  refine Wk.loop (σ := Int × List (Int × Int) × Int × Int) (ρ := List (Int × Int)) (γ := Option Addr) (δ := fun _ => Option Addr) _ (fun (s : Int × List (Int × Int) × Int × Int) (g : Option Addr) => match s, g with | (v1014, l1015, v1017, v1018), a1016 => ⟨.normal, [(1, ptr b8 0), (2, ptr b9 0), (3, .int .i64 v1014), (5, ptr b12 0), (6, .int .i64 v1017), (7, .int .i64 v1018)], [.obj b8 (.cells [.int .u8 ((x1 : Nat) : Int), .int .u8 ((x2 : Nat) : Int), .int .u16 ((x3 : Nat) : Int), .slice a5 l4.length c6] .own), .rd a5 c6 2 l4.length (l4.map (eP (eN .u8) (eN .u8))), .obj b9 (.cells [.int .i64 0, .slice none 0 0] .own), .obj b12 (.cells [.int .i64 y10, .slice a1016 l1015.length l1015.length] .own), .sl a1016 2 l1015.length (l1015.map (eP (eI .i64) (eI .i64)))]⟩) (fun (r : List (Int × Int)) (g : Option Addr) => match r, g with | l2020, a2021 => ⟨(.exit 0), [(2, ptr b9 0), (5, ptr b12 0)], [.obj b9 (.cells [.int .i64 0, .slice none 0 0] .own), .obj b12 (.cells [.int .i64 y10, .slice a2021 l2020.length l2020.length] .own), .sl a2021 2 l2020.length (l2020.map (eP (eI .i64) (eI .i64)))]⟩) ?_ (fun _ _ => rfl) (fun r d => by intro e; cases e) _ _ _ h3018 none
  clear hF h3018
  rintro ⟨v1014, l1015, v1017, v1018⟩ a1016 r hF
  unfold L40_3 at hF
  refine Wk.seq <| Wk.seq <| Wk.region <| Wo.od (o_mv rfl) rfl ?_
  refine Wo.od (o_fa (r := ptr b12 0) rfl (fa25_0 _ _)) rfl ?_
  refine Wo.od (o_ld (k := 3) t3 rfl rfl rfl) rfl ?_
  refine Wo.od (o_bi rfl rfl (bin_lss _ _ _)) rfl ?_
  refine Wo.nil <| At.tn ?_
  rcases br_some hF with ⟨h2022, hF⟩ | ⟨h2022, hF⟩
  ·refine Wk.condT rfl h2022 ?_
   refine Wk.skip <| At.tn <| Wk.seq <| Wk.block <| Wk.seq <| Wk.region <| Wo.od (o_mv rfl) rfl ?_
   refine Wo.od (o_bi rfl rfl (bin_add _ _ _)) rfl ?_
   refine Wo.od (o_as rfl) rfl ?_
   refine Wo.nil <| At.tn <| Wk.block ?_
   obtain ⟨r3017, h3016, hF⟩ := ob_some hF
   refine Wk.cut (G := (fun (r : List (Int × Int) × Int) (g : Option Addr) => match r, g with | (l2687, v2689), a2688 => ⟨(.exit 2), [(1, ptr b8 0), (2, ptr b9 0), (3, .int .i64 v1014), (5, ptr b12 0), (6, .int .i64 v2689), (7, .int .i64 v1018)], [.obj b8 (.cells [.int .u8 ((x1 : Nat) : Int), .int .u8 ((x2 : Nat) : Int), .int .u16 ((x3 : Nat) : Int), .slice a5 l4.length c6] .own), .rd a5 c6 2 l4.length (l4.map (eP (eN .u8) (eN .u8))), .obj b9 (.cells [.int .i64 0, .slice none 0 0] .own), .obj b12 (.cells [.int .i64 y10, .slice a2688 l2687.length l2687.length] .own), .sl a2688 2 l2687.length (l2687.map (eP (eI .i64) (eI .i64)))]⟩) r3017) ?_ ?_
   ·refine Wk.weak (fs' := [(1, ptr b8 0), (2, ptr b9 0), (3, .int .i64 v1014), (5, ptr b12 0), (6, .int .i64 v1017), (7, .int .i64 v1018), (8, .int .i64 (IntKind.wrap .i64 (v1018 + 1)))]) (ps' := [.obj b8 (.cells [.int .u8 ((x1 : Nat) : Int), .int .u8 ((x2 : Nat) : Int), .int .u16 ((x3 : Nat) : Int), .slice a5 l4.length c6] .own), .rd a5 c6 2 l4.length (l4.map (eP (eN .u8) (eN .u8))), .obj b9 (.cells [.int .i64 0, .slice none 0 0] .own), .obj b12 (.cells [.int .i64 y10, .slice a1016 l1015.length l1015.length] .own), .sl a1016 2 l1015.length (l1015.map (eP (eI .i64) (eI .i64)))]) (sc rfl (sc rfl (sc rfl (sc rfl (sc rfl (sc rfl (sc rfl sn))))))) (Turn.picks [0, 1, 2, 3, 4] rfl rfl) ?_
    refine Wk.loop (σ := List (Int × Int) × Int × Int) (ρ := List (Int × Int) × Int) (γ := Option Addr) (δ := fun _ => Option Addr) _ (fun (s : List (Int × Int) × Int × Int) (g : Option Addr) => match s, g with | (l2353, v2355, v2356), a2354 => ⟨.normal, [(1, ptr b8 0), (2, ptr b9 0), (3, .int .i64 v1014), (5, ptr b12 0), (6, .int .i64 v2355), (7, .int .i64 v1018), (8, .int .i64 v2356)], [.obj b8 (.cells [.int .u8 ((x1 : Nat) : Int), .int .u8 ((x2 : Nat) : Int), .int .u16 ((x3 : Nat) : Int), .slice a5 l4.length c6] .own), .rd a5 c6 2 l4.length (l4.map (eP (eN .u8) (eN .u8))), .obj b9 (.cells [.int .i64 0, .slice none 0 0] .own), .obj b12 (.cells [.int .i64 y10, .slice a2354 l2353.length l2353.length] .own), .sl a2354 2 l2353.length (l2353.map (eP (eI .i64) (eI .i64)))]⟩) (fun (r : List (Int × Int) × Int) (g : Option Addr) => match r, g with | (l2687, v2689), a2688 => ⟨(.exit 2), [(1, ptr b8 0), (2, ptr b9 0), (3, .int .i64 v1014), (5, ptr b12 0), (6, .int .i64 v2689), (7, .int .i64 v1018)], [.obj b8 (.cells [.int .u8 ((x1 : Nat) : Int), .int .u8 ((x2 : Nat) : Int), .int .u16 ((x3 : Nat) : Int), .slice a5 l4.length c6] .own), .rd a5 c6 2 l4.length (l4.map (eP (eN .u8) (eN .u8))), .obj b9 (.cells [.int .i64 0, .slice none 0 0] .own), .obj b12 (.cells [.int .i64 y10, .slice a2688 l2687.length l2687.length] .own), .sl a2688 2 l2687.length (l2687.map (eP (eI .i64) (eI .i64)))]⟩) ?_ (fun _ _ => rfl) (fun r d => by intro e; cases e) _ _ _ h3016 a1016
    clear hF h3016
    rintro ⟨l2353, v2355, v2356⟩ a2354 r hF
    unfold L40_2 at hF
    refine Wk.seq <| Wk.seq <| Wk.region <| Wo.od (o_mv rfl) rfl ?_
    refine Wo.od (o_fa (r := ptr b12 0) rfl (fa25_0 _ _)) rfl ?_
    refine Wo.od (o_ld (k := 3) t3 rfl rfl rfl) rfl ?_
    refine Wo.od (o_bi rfl rfl (bin_lss _ _ _)) rfl ?_
    refine Wo.nil <| At.tn ?_
    rcases br_some hF with ⟨h2690, hF⟩ | ⟨h2690, hF⟩
    ·refine Wk.condT rfl h2690 ?_
     refine Wk.skip <| At.tn <| Wk.seq ?_
     obtain ⟨r3015, h3014, hF⟩ := ob_some hF
     refine Wk.cut (G := (fun (r : List (Int × Int) × Int) (g : Option Addr) => match r, g with | (l2851, v2853), a2852 => ⟨.normal, [(1, ptr b8 0), (2, ptr b9 0), (3, .int .i64 v1014), (5, ptr b12 0), (6, .int .i64 v2853), (7, .int .i64 v1018), (8, .int .i64 v2356)], [.obj b8 (.cells [.int .u8 ((x1 : Nat) : Int), .int .u8 ((x2 : Nat) : Int), .int .u16 ((x3 : Nat) : Int), .slice a5 l4.length c6] .own), .rd a5 c6 2 l4.length (l4.map (eP (eN .u8) (eN .u8))), .obj b9 (.cells [.int .i64 0, .slice none 0 0] .own), .obj b12 (.cells [.int .i64 y10, .slice a2852 l2851.length l2851.length] .own), .sl a2852 2 l2851.length (l2851.map (eP (eI .i64) (eI .i64)))]⟩) r3015) ?_ ?_
     ·clear hF
      revert r3015
      intro r hF
      refine Wk.block <| Wk.seq ?_
      obtain ⟨v2857, h2861, hF⟩ := ob_some hF
      refine Wk.cut (G := (fun (r : Bool) (g : Unit) => match r, g with | v2857, _ => ⟨.normal, [(1, ptr b8 0), (2, ptr b9 0), (3, .int .i64 v1014), (5, ptr b12 0), (6, .int .i64 v2355), (7, .int .i64 v1018), (8, .int .i64 v2356), (9, .bool v2857)], [.obj b8 (.cells [.int .u8 ((x1 : Nat) : Int), .int .u8 ((x2 : Nat) : Int), .int .u16 ((x3 : Nat) : Int), .slice a5 l4.length c6] .own), .rd a5 c6 2 l4.length (l4.map (eP (eN .u8) (eN .u8))), .obj b9 (.cells [.int .i64 0, .slice none 0 0] .own), .obj b12 (.cells [.int .i64 y10, .slice a2354 l2353.length l2353.length] .own), .sl a2354 2 l2353.length (l2353.map (eP (eI .i64) (eI .i64)))]⟩) v2857) ?_ ?_
      ·clear hF
       revert v2857
       intro r hF
       refine Wk.region <| Wo.od (o_mv rfl) rfl ?_
       refine Wo.od (o_mv rfl) rfl ?_
       refine Wo.od (o_mv rfl) rfl ?_
       refine Wo.od (o_bi rfl rfl (bin_add _ _ _)) rfl ?_
       refine Wo.od (o_bi rfl rfl (bin_eql _ _ _)) rfl ?_
       refine Wo.od (o_mv rfl) rfl ?_
       rcases br_some hF with ⟨h2858, hF⟩ | ⟨h2858, hF⟩
       ·refine Wo.s (gg rfl rfl (eTF h2858)) rfl ?_
        refine Wo.s (gg rfl rfl (eTF h2858)) rfl ?_
        refine Wo.s (gg rfl rfl (eTF h2858)) rfl ?_
        refine Wo.s (gg rfl rfl (eTF h2858)) rfl ?_
        refine Wo.s (gg rfl rfl (eTF h2858)) rfl ?_
        refine Wo.s (gu rfl rfl) rfl ?_
        refine Wo.s (gu rfl rfl) rfl ?_
        refine Wo.s (gu rfl rfl) rfl ?_
        refine Wo.s (gu rfl rfl) rfl ?_
        refine Wo.s (gg rfl rfl (eTF h2858)) rfl ?_
        refine Wo.od (o_pt rfl h2858 rfl) rfl ?_
        refine Wo.od (o_as rfl) rfl ?_
        refine Wo.nil ?_
        cases hF
        exact At.en () rfl (sc rfl (sc rfl (sc rfl (sc rfl (sc rfl (sc rfl (sc rfl (sc rfl sn)))))))) (Turn.picks [0, 1, 2, 3, 4] rfl rfl)
       ·refine Wo.og (o_mv rfl) (gg rfl rfl (eFF h2858)) rfl ?_
        refine Wo.og (o_mv rfl) (gg rfl rfl (eFF h2858)) rfl ?_
        refine Wo.og (o_bi rfl rfl (bin_add _ _ _)) (gg rfl rfl (eFF h2858)) rfl ?_
        refine Wo.og (o_bi rfl rfl (bin_eql _ _ _)) (gg rfl rfl (eFF h2858)) rfl ?_
        refine Wo.og (o_mv rfl) (gg rfl rfl (eFF h2858)) rfl ?_
        rcases br_some hF with ⟨h2859, hF⟩ | ⟨h2859, hF⟩
        ·refine Wo.og (o_mv rfl) (gg rfl rfl (eTT h2859)) rfl ?_
         refine Wo.og (o_mv rfl) (gg rfl rfl (eTT h2859)) rfl ?_
         obtain ⟨h2860, hF⟩ := gd_some hF
         refine Wo.og (o_bi rfl rfl (ib_rem _ _ h2860)) (gg rfl rfl (eTT h2859)) rfl ?_
         refine Wo.og (o_bi rfl rfl (ib_neq _ _)) (gg rfl rfl (eTT h2859)) rfl ?_
         refine Wo.og (o_pt rfl h2859 rfl) (gg rfl rfl (eFF h2858)) rfl ?_
         refine Wo.od (o_pf rfl h2858 rfl) rfl ?_
         refine Wo.od (o_as rfl) rfl ?_
         refine Wo.nil ?_
         cases hF
         exact At.en () rfl (sc rfl (sc rfl (sc rfl (sc rfl (sc rfl (sc rfl (sc rfl (sc rfl sn)))))))) (Turn.picks [0, 1, 2, 3, 4] rfl rfl)
        ·refine Wo.s (gg rfl rfl (eFT h2859)) rfl ?_
         refine Wo.s (gg rfl rfl (eFT h2859)) rfl ?_
         refine Wo.s (gg rfl rfl (eFT h2859)) rfl ?_
         refine Wo.s (gg rfl rfl (eFT h2859)) rfl ?_
         refine Wo.og (o_pf rfl h2859 rfl) (gg rfl rfl (eFF h2858)) rfl ?_
         refine Wo.od (o_pf rfl h2858 rfl) rfl ?_
         refine Wo.od (o_as rfl) rfl ?_
         refine Wo.nil ?_
         cases hF
         exact At.en () rfl (sc rfl (sc rfl (sc rfl (sc rfl (sc rfl (sc rfl (sc rfl (sc rfl sn)))))))) (Turn.picks [0, 1, 2, 3, 4] rfl rfl)
      ·clear h2861
       rintro ⟨⟩
       refine At.tn <| Wk.seq ?_
       obtain ⟨r2914, h2913, hF⟩ := ob_some hF
       refine Wk.cut (G := (fun (r : Int × Bool) (g : Unit) => match r, g with | (v2887, v2888), _ => ⟨.normal, [(1, ptr b8 0), (2, ptr b9 0), (3, .int .i64 v1014), (5, ptr b12 0), (6, .int .i64 v2887), (7, .int .i64 v1018), (8, .int .i64 v2356), (9, .bool v2888)], [.obj b8 (.cells [.int .u8 ((x1 : Nat) : Int), .int .u8 ((x2 : Nat) : Int), .int .u16 ((x3 : Nat) : Int), .slice a5 l4.length c6] .own), .rd a5 c6 2 l4.length (l4.map (eP (eN .u8) (eN .u8))), .obj b9 (.cells [.int .i64 0, .slice none 0 0] .own), .obj b12 (.cells [.int .i64 y10, .slice a2354 l2353.length l2353.length] .own), .sl a2354 2 l2353.length (l2353.map (eP (eI .i64) (eI .i64)))]⟩) r2914) ?_ ?_
       ·clear hF
        revert r2914
        intro r hF
        refine Wk.seq <| Wk.region <| Wo.od (o_mv rfl) rfl ?_
        refine Wo.nil <| At.tn ?_
        rcases br_some hF with ⟨h2889, hF⟩ | ⟨h2889, hF⟩
        ·refine Wk.condT rfl h2889 ?_
         refine Wk.seq ?_
         obtain ⟨v2900, h2911, hF⟩ := ob_some hF
         refine Wk.cut (G := (fun (r : Bool) (g : Unit) => match r, g with | v2900, _ => ⟨.normal, [(1, ptr b8 0), (2, ptr b9 0), (3, .int .i64 v1014), (5, ptr b12 0), (6, .int .i64 v2355), (7, .int .i64 v1018), (8, .int .i64 v2356), (9, .bool v2900)], [.obj b8 (.cells [.int .u8 ((x1 : Nat) : Int), .int .u8 ((x2 : Nat) : Int), .int .u16 ((x3 : Nat) : Int), .slice a5 l4.length c6] .own), .rd a5 c6 2 l4.length (l4.map (eP (eN .u8) (eN .u8))), .obj b9 (.cells [.int .i64 0, .slice none 0 0] .own), .obj b12 (.cells [.int .i64 y10, .slice a2354 l2353.length l2353.length] .own), .sl a2354 2 l2353.length (l2353.map (eP (eI .i64) (eI .i64)))]⟩) v2900) ?_ ?_
         ·clear hF
          revert v2900
          intro r hF
          refine Wk.seq ?_
          obtain ⟨v2904, h2908, hF⟩ := ob_some hF
          refine Wk.cut (G := (fun (r : Bool) (g : Unit) => match r, g with | v2904, _ => ⟨.normal, [(1, ptr b8 0), (2, ptr b9 0), (3, .int .i64 v1014), (5, ptr b12 0), (6, .int .i64 v2355), (7, .int .i64 v1018), (8, .int .i64 v2356), (9, .bool v2857), (72, .bool v2904)], [.obj b8 (.cells [.int .u8 ((x1 : Nat) : Int), .int .u8 ((x2 : Nat) : Int), .int .u16 ((x3 : Nat) : Int), .slice a5 l4.length c6] .own), .rd a5 c6 2 l4.length (l4.map (eP (eN .u8) (eN .u8))), .obj b9 (.cells [.int .i64 0, .slice none 0 0] .own), .obj b12 (.cells [.int .i64 y10, .slice a2354 l2353.length l2353.length] .own), .sl a2354 2 l2353.length (l2353.map (eP (eI .i64) (eI .i64)))]⟩) v2904) ?_ ?_
          ·clear hF
           revert v2904
           intro r hF
           refine Wk.region <| Wo.od (o_mv rfl) rfl ?_
           refine Wo.od (o_bi rfl rfl (ib_rem _ _ (by decide))) rfl ?_
           refine Wo.od (o_bi rfl rfl (bin_eql _ _ _)) rfl ?_
           refine Wo.od (o_mv rfl) rfl ?_
           rcases br_some hF with ⟨h2905, hF⟩ | ⟨h2905, hF⟩
           ·refine Wo.og (o_fa (r := ptr b8 2) rfl (fa55_2 _ _)) (gg rfl rfl (eTT h2905)) rfl ?_
            refine Wo.og (o_ld (k := 0) t52 rfl rfl rfl) (gg rfl rfl (eTT h2905)) rfl ?_
            refine Wo.og (o_mv rfl) (gg rfl rfl (eTT h2905)) rfl ?_
            refine Wo.og (o_bi rfl rfl (ib_quo _ _ (by decide))) (gg rfl rfl (eTT h2905)) rfl ?_
            refine Wo.og (o_bi rfl rfl (ib_rem _ _ (by decide))) (gg rfl rfl (eTT h2905)) rfl ?_
            refine Wo.og (o_cv rfl (cv_u (by rw [u3]; rfl) u102 rfl)) (gg rfl rfl (eTT h2905)) rfl ?_
            obtain ⟨y2906, h2907, hF⟩ := ob_some hF
            refine Wo.og (o_bi rfl rfl ((ub_shr _ _ (nn _)).trans (cN h2907))) (gg rfl rfl (eTT h2905)) rfl ?_
            refine Wo.og (o_bi rfl rfl (ub_and rfl _ _)) (gg rfl rfl (eTT h2905)) rfl ?_
            refine Wo.og (o_bi rfl rfl (ub_eql _ _)) (gg rfl rfl (eTT h2905)) rfl ?_
            refine Wo.od (o_pt rfl h2905 rfl) rfl ?_
            refine Wo.nil ?_
            cases hF
            exact At.en () rfl (sc rfl (sc rfl (sc rfl (sc rfl (sc rfl (sc rfl (sc rfl (sc rfl (sc rfl sn))))))))) (Turn.picks [0, 1, 2, 3, 4] rfl rfl)
           ·refine Wo.s (gg rfl rfl (eFT h2905)) rfl ?_
            refine Wo.s (gg rfl rfl (eFT h2905)) rfl ?_
            refine Wo.s (gg rfl rfl (eFT h2905)) rfl ?_
            refine Wo.s (gg rfl rfl (eFT h2905)) rfl ?_
            refine Wo.s (gg rfl rfl (eFT h2905)) rfl ?_
            refine Wo.s (gg rfl rfl (eFT h2905)) rfl ?_
            refine Wo.s (gg rfl rfl (eFT h2905)) rfl ?_
            refine Wo.s (gg rfl rfl (eFT h2905)) rfl ?_
            refine Wo.s (gg rfl rfl (eFT h2905)) rfl ?_
            refine Wo.od (o_pf rfl h2905 rfl) rfl ?_
            refine Wo.nil ?_
            cases hF
            exact At.en () rfl (sc rfl (sc rfl (sc rfl (sc rfl (sc rfl (sc rfl (sc rfl (sc rfl (sc rfl sn))))))))) (Turn.picks [0, 1, 2, 3, 4] rfl rfl)
          ·clear h2908
           rintro ⟨⟩
           refine At.tn ?_
           rcases br_some hF with ⟨h2910, hF⟩ | ⟨h2910, hF⟩
           ·refine Wk.condT rfl h2910 ?_
            refine Wk.region <| Wo.od (o_as rfl) rfl ?_
            refine Wo.nil ?_
            cases hF
            exact At.en () rfl (sc rfl (sc rfl (sc rfl (sc rfl (sc rfl (sc rfl (sc rfl (sc rfl sn)))))))) (Turn.picks [0, 1, 2, 3, 4] rfl rfl)
           ·refine Wk.condF rfl h2910 ?_
            refine Wk.skip ?_
            have hr := Option.some.inj hF
            subst r
            exact At.en () rfl (sc rfl (sc rfl (sc rfl (sc rfl (sc rfl (sc rfl (sc rfl (sc rfl sn)))))))) (Turn.picks [0, 1, 2, 3, 4] rfl rfl)
         ·clear h2911
          rintro ⟨⟩
          refine At.tn <| Wk.region <| Wo.od (o_mv rfl) rfl ?_
          refine Wo.od (o_bi rfl rfl (bin_add _ _ _)) rfl ?_
          refine Wo.od (o_as rfl) rfl ?_
          refine Wo.nil ?_
          cases hF
          exact At.en () rfl (sc rfl (sc rfl (sc rfl (sc rfl (sc rfl (sc rfl (sc rfl (sc rfl sn)))))))) (Turn.picks [0, 1, 2, 3, 4] rfl rfl)
        ·refine Wk.condF rfl h2889 ?_
         refine Wk.skip ?_
         cases hF
         exact At.en () rfl (sc rfl (sc rfl (sc rfl (sc rfl (sc rfl (sc rfl (sc rfl (sc rfl sn)))))))) (Turn.picks [0, 1, 2, 3, 4] rfl rfl)
       ·clear h2913
        obtain ⟨v2887, v2888⟩ := r2914
        rintro ⟨⟩
        refine At.tn <| Wk.seq <| Wk.seq <| Wk.region <| Wo.od (o_as rfl) rfl ?_
        refine Wo.nil <| At.tn <| Wk.block ?_
        obtain ⟨v2964, h3008, hF⟩ := ob_some hF
        refine Wk.cut (G := (fun (r : Bool) (g : Unit) => match r, g with | v2964, _ => ⟨(.exit 4), [(1, ptr b8 0), (2, ptr b9 0), (3, .int .i64 v1014), (5, ptr b12 0), (6, .int .i64 v2887), (7, .int .i64 v1018), (8, .int .i64 v2356), (9, .bool v2964)], [.obj b8 (.cells [.int .u8 ((x1 : Nat) : Int), .int .u8 ((x2 : Nat) : Int), .int .u16 ((x3 : Nat) : Int), .slice a5 l4.length c6] .own), .rd a5 c6 2 l4.length (l4.map (eP (eN .u8) (eN .u8))), .obj b9 (.cells [.int .i64 0, .slice none 0 0] .own), .obj b12 (.cells [.int .i64 y10, .slice a2354 l2353.length l2353.length] .own), .sl a2354 2 l2353.length (l2353.map (eP (eI .i64) (eI .i64)))]⟩) v2964) ?_ ?_
        ·refine Wk.weak (fs' := [(1, ptr b8 0), (2, ptr b9 0), (3, .int .i64 v1014), (5, ptr b12 0), (6, .int .i64 v2887), (7, .int .i64 v1018), (8, .int .i64 v2356), (9, .bool v2888), (10, .int .i64 0)]) (ps' := [.obj b8 (.cells [.int .u8 ((x1 : Nat) : Int), .int .u8 ((x2 : Nat) : Int), .int .u16 ((x3 : Nat) : Int), .slice a5 l4.length c6] .own), .rd a5 c6 2 l4.length (l4.map (eP (eN .u8) (eN .u8))), .obj b9 (.cells [.int .i64 0, .slice none 0 0] .own), .obj b12 (.cells [.int .i64 y10, .slice a2354 l2353.length l2353.length] .own), .sl a2354 2 l2353.length (l2353.map (eP (eI .i64) (eI .i64)))]) (sc rfl (sc rfl (sc rfl (sc rfl (sc rfl (sc rfl (sc rfl (sc rfl (sc rfl sn))))))))) (Turn.picks [0, 1, 2, 3, 4] rfl rfl) ?_
         refine Wk.loop (σ := Bool × Int) (ρ := Bool) (γ := Unit) (δ := fun _ => Unit) _ (fun (s : Bool × Int) (g : Unit) => match s, g with | (v2917, v2918), _ => ⟨.normal, [(1, ptr b8 0), (2, ptr b9 0), (3, .int .i64 v1014), (5, ptr b12 0), (6, .int .i64 v2887), (7, .int .i64 v1018), (8, .int .i64 v2356), (9, .bool v2917), (10, .int .i64 v2918)], [.obj b8 (.cells [.int .u8 ((x1 : Nat) : Int), .int .u8 ((x2 : Nat) : Int), .int .u16 ((x3 : Nat) : Int), .slice a5 l4.length c6] .own), .rd a5 c6 2 l4.length (l4.map (eP (eN .u8) (eN .u8))), .obj b9 (.cells [.int .i64 0, .slice none 0 0] .own), .obj b12 (.cells [.int .i64 y10, .slice a2354 l2353.length l2353.length] .own), .sl a2354 2 l2353.length (l2353.map (eP (eI .i64) (eI .i64)))]⟩) (fun (r : Bool) (g : Unit) => match r, g with | v2964, _ => ⟨(.exit 4), [(1, ptr b8 0), (2, ptr b9 0), (3, .int .i64 v1014), (5, ptr b12 0), (6, .int .i64 v2887), (7, .int .i64 v1018), (8, .int .i64 v2356), (9, .bool v2964)], [.obj b8 (.cells [.int .u8 ((x1 : Nat) : Int), .int .u8 ((x2 : Nat) : Int), .int .u16 ((x3 : Nat) : Int), .slice a5 l4.length c6] .own), .rd a5 c6 2 l4.length (l4.map (eP (eN .u8) (eN .u8))), .obj b9 (.cells [.int .i64 0, .slice none 0 0] .own), .obj b12 (.cells [.int .i64 y10, .slice a2354 l2353.length l2353.length] .own), .sl a2354 2 l2353.length (l2353.map (eP (eI .i64) (eI .i64)))]⟩) ?_ (fun _ _ => rfl) (fun r d => by intro e; cases e) _ _ _ h3008 ()
         clear hF h3008
         rintro ⟨v2917, v2918⟩ ⟨⟩ r hF
         unfold L40_1 at hF
         refine Wk.seq <| Wk.seq ?_
         obtain ⟨v2972, h2974, hF⟩ := ob_some hF
         refine Wk.cut (G := (fun (r : Bool) (g : Unit) => match r, g with | v2972, _ => ⟨.normal, [(1, ptr b8 0), (2, ptr b9 0), (3, .int .i64 v1014), (5, ptr b12 0), (6, .int .i64 v2887), (7, .int .i64 v1018), (8, .int .i64 v2356), (9, .bool v2917), (10, .int .i64 v2918), (83, .bool v2972)], [.obj b8 (.cells [.int .u8 ((x1 : Nat) : Int), .int .u8 ((x2 : Nat) : Int), .int .u16 ((x3 : Nat) : Int), .slice a5 l4.length c6] .own), .rd a5 c6 2 l4.length (l4.map (eP (eN .u8) (eN .u8))), .obj b9 (.cells [.int .i64 0, .slice none 0 0] .own), .obj b12 (.cells [.int .i64 y10, .slice a2354 l2353.length l2353.length] .own), .sl a2354 2 l2353.length (l2353.map (eP (eI .i64) (eI .i64)))]⟩) v2972) ?_ ?_
         ·clear hF
          revert v2972
          intro r hF
          refine Wk.region <| Wo.od (o_mv rfl) rfl ?_
          refine Wo.od (o_fa (r := ptr b8 3) rfl (fa55_3 _ _)) rfl ?_
          refine Wo.od (o_ld (k := 0) t53 rfl rfl rfl) rfl ?_
          refine Wo.od (o_ln (k := 1) u53 rfl rfl (.inl rfl)) rfl ?_
          refine Wo.od (o_bi rfl rfl (bin_lss _ _ _)) rfl ?_
          refine Wo.od (o_mv rfl) rfl ?_
          rcases br_some hF with ⟨h2973, hF⟩ | ⟨h2973, hF⟩
          ·refine Wo.og (o_mv rfl) (gg rfl rfl (eTT h2973)) rfl ?_
           refine Wo.og (o_bi rfl rfl (bin_lss _ _ _)) (gg rfl rfl (eTT h2973)) rfl ?_
           refine Wo.od (o_pt rfl h2973 rfl) rfl ?_
           refine Wo.nil ?_
           cases hF
           exact At.en () rfl (sc rfl (sc rfl (sc rfl (sc rfl (sc rfl (sc rfl (sc rfl (sc rfl (sc rfl (sc rfl sn)))))))))) (Turn.picks [0, 1, 2, 3, 4] rfl rfl)
          ·refine Wo.s (gg rfl rfl (eFT h2973)) rfl ?_
           refine Wo.s (gg rfl rfl (eFT h2973)) rfl ?_
           refine Wo.od (o_pf rfl h2973 rfl) rfl ?_
           refine Wo.nil ?_
           cases hF
           exact At.en () rfl (sc rfl (sc rfl (sc rfl (sc rfl (sc rfl (sc rfl (sc rfl (sc rfl (sc rfl (sc rfl sn)))))))))) (Turn.picks [0, 1, 2, 3, 4] rfl rfl)
         ·clear h2974
          rintro ⟨⟩
          refine At.tn ?_
          rcases br_some hF with ⟨h2976, hF⟩ | ⟨h2976, hF⟩
          ·refine Wk.condT rfl h2976 ?_
           refine Wk.skip <| At.tn <| Wk.seq ?_
           obtain ⟨v2991, h3006, hF⟩ := ob_some hF
           refine Wk.cut (G := (fun (r : Bool) (g : Unit) => match r, g with | v2991, _ => ⟨.normal, [(1, ptr b8 0), (2, ptr b9 0), (3, .int .i64 v1014), (5, ptr b12 0), (6, .int .i64 v2887), (7, .int .i64 v1018), (8, .int .i64 v2356), (9, .bool v2991), (10, .int .i64 v2918)], [.obj b8 (.cells [.int .u8 ((x1 : Nat) : Int), .int .u8 ((x2 : Nat) : Int), .int .u16 ((x3 : Nat) : Int), .slice a5 l4.length c6] .own), .rd a5 c6 2 l4.length (l4.map (eP (eN .u8) (eN .u8))), .obj b9 (.cells [.int .i64 0, .slice none 0 0] .own), .obj b12 (.cells [.int .i64 y10, .slice a2354 l2353.length l2353.length] .own), .sl a2354 2 l2353.length (l2353.map (eP (eI .i64) (eI .i64)))]⟩) v2991) ?_ ?_
           ·clear hF
            revert v2991
            intro r hF
            refine Wk.block <| Wk.seq <| Wk.draw (by kernel_rfl) ?_
            refine Wo.od (o_fa (r := ptr b8 3) rfl (fa55_3 _ _)) rfl ?_
            refine Wo.od (o_ld (k := 0) t53 rfl rfl rfl) rfl ?_
            refine Wo.od (o_mv rfl) rfl ?_
            obtain ⟨h2992, hF⟩ := gd_some hF
            replace h2992 := inB_some h2992
            refine Wo.openr (k := 1) rfl (pos_of h2992) ?_
            rintro b2993 o2994 rfl
            refine Wo.og (o_ixs s53 rfl rfl h2992) gn rfl ?_
            refine Wo.od (o_ia (r := ptr b2993 (o2994 + v2918.toNat * 2 + 0)) rfl rfl (ia_c ar103 (i := 0) (by decide))) rfl ?_
            obtain ⟨⟨x2995, x2996⟩, h2997, hF⟩ := ob_some hF
            refine Wo.od (o_ldr (k := 0) t5 rfl rfl (map_at h2997) rfl rfl) rfl ?_
            refine Wo.od (o_cv rfl (cv_i (by rw [u5]; rfl) u3)) rfl ?_
            refine Wo.od (o_fa (r := ptr b12 0) rfl (fa25_0 _ _)) rfl ?_
            refine Wo.od (o_ld (k := 4) t3 rfl rfl rfl) rfl ?_
            obtain ⟨h2998, hF⟩ := gd_some hF
            refine Wo.od (o_bi rfl rfl (ib_rem _ _ h2998)) rfl ?_
            refine Wo.od (o_fa (r := ptr b8 3) rfl (fa55_3 _ _)) rfl ?_
            refine Wo.od (o_ld (k := 1) t53 rfl rfl rfl) rfl ?_
            refine Wo.od (o_mv rfl) rfl ?_
            obtain ⟨h2999, hF⟩ := gd_some hF
            replace h2999 := inB_some h2999
            refine Wo.og (o_ixs s53 rfl rfl h2999) gn rfl ?_
            refine Wo.od (o_ia (r := ptr b2993 (o2994 + v2918.toNat * 2 + 1)) rfl rfl (ia_c ar103 (i := 1) (by decide))) rfl ?_
            refine Wo.od (o_ldr (k := 0) t5 rfl rfl (map_at h2997) rfl rfl) rfl ?_
            refine Wo.od (o_cv rfl (cv_i (by rw [u5]; rfl) u3)) rfl ?_
            refine Wo.od (o_fa (r := ptr b12 0) rfl (fa25_0 _ _)) rfl ?_
            refine Wo.od (o_ld (k := 4) t3 rfl rfl rfl) rfl ?_
            obtain ⟨h3000, hF⟩ := gd_some hF
            refine Wo.od (o_bi rfl rfl (ib_rem _ _ h3000)) rfl ?_
            refine Wo.od (o_as rfl) rfl ?_
            refine Wo.od (o_as rfl) rfl ?_
            refine Wo.nil <| At.tn <| Wk.region <| Wo.od (o_mv rfl) rfl ?_
            refine Wo.od (o_mv rfl) rfl ?_
            rcases br_some hF with ⟨h3001, hF⟩ | ⟨h3001, hF⟩
            ·refine Wo.s (gg rfl rfl (eTF h3001)) rfl ?_
             refine Wo.s (gg rfl rfl (eTF h3001)) rfl ?_
             refine Wo.s (gg rfl rfl (eTF h3001)) rfl ?_
             refine Wo.s (gg rfl rfl (eTF h3001)) rfl ?_
             refine Wo.s (gu rfl rfl) rfl ?_
             refine Wo.s (gu rfl rfl) rfl ?_
             refine Wo.s (gu rfl rfl) rfl ?_
             refine Wo.s (gg rfl rfl (eTF h3001)) rfl ?_
             refine Wo.od (o_pt rfl h3001 rfl) rfl ?_
             refine Wo.od (o_mv rfl) rfl ?_
             refine Wo.s (gg rfl rfl rfl) rfl ?_
             refine Wo.s (gg rfl rfl rfl) rfl ?_
             refine Wo.s (gg rfl rfl rfl) rfl ?_
             refine Wo.s (gg rfl rfl rfl) rfl ?_
             refine Wo.s (gu rfl rfl) rfl ?_
             refine Wo.s (gu rfl rfl) rfl ?_
             refine Wo.s (gu rfl rfl) rfl ?_
             refine Wo.s (gg rfl rfl rfl) rfl ?_
             refine Wo.od (o_pT rfl rfl) rfl ?_
             refine Wo.od (o_as rfl) rfl ?_
             refine Wo.nil <| At.bn ?_
             cases hF
             exact At.en () rfl (sc rfl (sc rfl (sc rfl (sc rfl (sc rfl (sc rfl (sc rfl (sc rfl (sc rfl sn))))))))) (Turn.picks [1, 2, 3, 4, 5] rfl rfl)
            ·refine Wo.og (o_mv rfl) (gg rfl rfl (eFF h3001)) rfl ?_
             refine Wo.og (o_mv rfl) (gg rfl rfl (eFF h3001)) rfl ?_
             refine Wo.og (o_bi rfl rfl (bin_eql _ _ _)) (gg rfl rfl (eFF h3001)) rfl ?_
             refine Wo.og (o_mv rfl) (gg rfl rfl (eFF h3001)) rfl ?_
             rcases br_some hF with ⟨h3002, hF⟩ | ⟨h3002, hF⟩
             ·refine Wo.og (o_mv rfl) (gg rfl rfl (eTT h3002)) rfl ?_
              refine Wo.og (o_mv rfl) (gg rfl rfl (eTT h3002)) rfl ?_
              refine Wo.og (o_bi rfl rfl (bin_eql _ _ _)) (gg rfl rfl (eTT h3002)) rfl ?_
              refine Wo.og (o_pt rfl h3002 rfl) (gg rfl rfl (eFF h3001)) rfl ?_
              refine Wo.od (o_pf rfl h3001 rfl) rfl ?_
              refine Wo.od (o_mv rfl) rfl ?_
              rcases br_some hF with ⟨h3003, hF⟩ | ⟨h3003, hF⟩
              ·refine Wo.s (gg rfl rfl (eTF h3003)) rfl ?_
               refine Wo.s (gg rfl rfl (eTF h3003)) rfl ?_
               refine Wo.s (gg rfl rfl (eTF h3003)) rfl ?_
               refine Wo.s (gg rfl rfl (eTF h3003)) rfl ?_
               refine Wo.s (gu rfl rfl) rfl ?_
               refine Wo.s (gu rfl rfl) rfl ?_
               refine Wo.s (gu rfl rfl) rfl ?_
               refine Wo.s (gg rfl rfl (eTF h3003)) rfl ?_
               refine Wo.od (o_pt rfl h3003 rfl) rfl ?_
               refine Wo.od (o_as rfl) rfl ?_
               refine Wo.nil <| At.bn ?_
               cases hF
               exact At.en () rfl (sc rfl (sc rfl (sc rfl (sc rfl (sc rfl (sc rfl (sc rfl (sc rfl (sc rfl sn))))))))) (Turn.picks [1, 2, 3, 4, 5] rfl rfl)
              ·refine Wo.og (o_mv rfl) (gg rfl rfl (eFF h3003)) rfl ?_
               refine Wo.og (o_mv rfl) (gg rfl rfl (eFF h3003)) rfl ?_
               refine Wo.og (o_bi rfl rfl (bin_eql _ _ _)) (gg rfl rfl (eFF h3003)) rfl ?_
               refine Wo.og (o_mv rfl) (gg rfl rfl (eFF h3003)) rfl ?_
               rcases br_some hF with ⟨h3004, hF⟩ | ⟨h3004, hF⟩
               ·refine Wo.og (o_mv rfl) (gg rfl rfl (eTT h3004)) rfl ?_
                refine Wo.og (o_mv rfl) (gg rfl rfl (eTT h3004)) rfl ?_
                refine Wo.og (o_bi rfl rfl (bin_eql _ _ _)) (gg rfl rfl (eTT h3004)) rfl ?_
                refine Wo.og (o_pt rfl h3004 rfl) (gg rfl rfl (eFF h3003)) rfl ?_
                refine Wo.od (o_pf rfl h3003 rfl) rfl ?_
                refine Wo.od (o_as rfl) rfl ?_
                refine Wo.nil <| At.bn ?_
                cases hF
                exact At.en () rfl (sc rfl (sc rfl (sc rfl (sc rfl (sc rfl (sc rfl (sc rfl (sc rfl (sc rfl sn))))))))) (Turn.picks [1, 2, 3, 4, 5] rfl rfl)
               ·refine Wo.s (gg rfl rfl (eFT h3004)) rfl ?_
                refine Wo.s (gg rfl rfl (eFT h3004)) rfl ?_
                refine Wo.s (gg rfl rfl (eFT h3004)) rfl ?_
                refine Wo.og (o_pf rfl h3004 rfl) (gg rfl rfl (eFF h3003)) rfl ?_
                refine Wo.od (o_pf rfl h3003 rfl) rfl ?_
                refine Wo.od (o_as rfl) rfl ?_
                refine Wo.nil <| At.bn ?_
                cases hF
                exact At.en () rfl (sc rfl (sc rfl (sc rfl (sc rfl (sc rfl (sc rfl (sc rfl (sc rfl (sc rfl sn))))))))) (Turn.picks [1, 2, 3, 4, 5] rfl rfl)
             ·refine Wo.s (gg rfl rfl (eFT h3002)) rfl ?_
              refine Wo.s (gg rfl rfl (eFT h3002)) rfl ?_
              refine Wo.s (gg rfl rfl (eFT h3002)) rfl ?_
              refine Wo.og (o_pf rfl h3002 rfl) (gg rfl rfl (eFF h3001)) rfl ?_
              refine Wo.od (o_pf rfl h3001 rfl) rfl ?_
              refine Wo.od (o_mv rfl) rfl ?_
              refine Wo.og (o_mv rfl) (gg rfl rfl rfl) rfl ?_
              refine Wo.og (o_mv rfl) (gg rfl rfl rfl) rfl ?_
              refine Wo.og (o_bi rfl rfl (bin_eql _ _ _)) (gg rfl rfl rfl) rfl ?_
              refine Wo.og (o_mv rfl) (gg rfl rfl rfl) rfl ?_
              rcases br_some hF with ⟨h3005, hF⟩ | ⟨h3005, hF⟩
              ·refine Wo.og (o_mv rfl) (gg rfl rfl (eTT h3005)) rfl ?_
               refine Wo.og (o_mv rfl) (gg rfl rfl (eTT h3005)) rfl ?_
               refine Wo.og (o_bi rfl rfl (bin_eql _ _ _)) (gg rfl rfl (eTT h3005)) rfl ?_
               refine Wo.og (o_pt rfl h3005 rfl) (gg rfl rfl rfl) rfl ?_
               refine Wo.od (o_pF rfl rfl) rfl ?_
               refine Wo.od (o_as rfl) rfl ?_
               refine Wo.nil <| At.bn ?_
               cases hF
               exact At.en () rfl (sc rfl (sc rfl (sc rfl (sc rfl (sc rfl (sc rfl (sc rfl (sc rfl (sc rfl sn))))))))) (Turn.picks [1, 2, 3, 4, 5] rfl rfl)
              ·refine Wo.s (gg rfl rfl (eFT h3005)) rfl ?_
               refine Wo.s (gg rfl rfl (eFT h3005)) rfl ?_
               refine Wo.s (gg rfl rfl (eFT h3005)) rfl ?_
               refine Wo.og (o_pf rfl h3005 rfl) (gg rfl rfl rfl) rfl ?_
               refine Wo.od (o_pF rfl rfl) rfl ?_
               refine Wo.od (o_as rfl) rfl ?_
               refine Wo.nil <| At.bn ?_
               cases hF
               exact At.en () rfl (sc rfl (sc rfl (sc rfl (sc rfl (sc rfl (sc rfl (sc rfl (sc rfl (sc rfl sn))))))))) (Turn.picks [1, 2, 3, 4, 5] rfl rfl)
           ·clear h3006
            rintro ⟨⟩
            refine At.tn <| Wk.region <| Wo.od (o_mv rfl) rfl ?_
            refine Wo.od (o_bi rfl rfl (bin_add _ _ _)) rfl ?_
            refine Wo.od (o_as rfl) rfl ?_
            refine Wo.nil ?_
            cases hF
            exact At.en () rfl (sc rfl (sc rfl (sc rfl (sc rfl (sc rfl (sc rfl (sc rfl (sc rfl (sc rfl sn))))))))) (Turn.picks [0, 1, 2, 3, 4] rfl rfl)
          ·refine Wk.condF rfl h2976 ?_
           refine Wk.exit <| At.te ?_
           cases hF
           exact At.en () rfl (sc rfl (sc rfl (sc rfl (sc rfl (sc rfl (sc rfl (sc rfl (sc rfl sn)))))))) (Turn.picks [0, 1, 2, 3, 4] rfl rfl)
        ·clear h3008
         rintro ⟨⟩
         refine At.be <| At.tn <| Wk.seq <| Wk.region <| Wo.od (o_mv rfl) rfl ?_
         refine Wo.nil <| At.tn ?_
         rcases br_some hF with ⟨h3010, hF⟩ | ⟨h3010, hF⟩
         ·refine Wk.condT rfl h3010 ?_
          refine Wk.region <| Wo.od (o_fa (r := ptr b12 1) rfl (fa25_1 _ _)) rfl ?_
          refine Wo.od (o_ld (k := 3) t23 rfl rfl rfl) rfl ?_
          refine Wo.od (o_mv rfl) rfl ?_
          refine Wo.od (o_mv rfl) rfl ?_
          refine Wo.od (o_bd rfl z26 rfl (bd_s bs26 rfl rfl rfl)) rfl ?_
          refine Wo.x (o_bs (es := ([(v1018, v2356)] : List (Int × Int)).map (eP (eI .i64) (eI .i64))) s23 rfl (bs_c s23 z26 rfl rfl) rfl rfl) gn rfl fun b3011 => ?_
          obtain ⟨h3012, hF⟩ := gd_some hF
          refine Wo.x (o_apl (k := 5) (k2 := 0) (xs := (l2353 : List (Int × Int))) (ys := ([(v1018, v2356)] : List (Int × Int))) (enP (enI .i64) (enI .i64)) s23 ⟨_, u23⟩ rfl rfl rfl (.arr _ _ _ _ _) h3012) gn rfl fun a3013 => ?_
          refine Wo.od (o_fa (r := ptr b12 1) rfl (fa25_1 _ _)) rfl ?_
          refine Wo.o0 (o_st (k := 4) t23 rfl rfl rfl rfl rfl) ?_
          refine Wo.nil <| At.bn ?_
          cases hF
          exact At.en a3013 rfl (sc rfl (sc rfl (sc rfl (sc rfl (sc rfl (sc rfl (sc rfl sn))))))) (Turn.picks [1, 2, 3, 4, 5] rfl rfl)
         ·refine Wk.condF rfl h3010 ?_
          refine Wk.skip <| At.bn ?_
          cases hF
          exact At.en a2354 rfl (sc rfl (sc rfl (sc rfl (sc rfl (sc rfl (sc rfl (sc rfl sn))))))) (Turn.picks [0, 1, 2, 3, 4] rfl rfl)
     ·clear h3014
      obtain ⟨l2851, v2853⟩ := r3015
      rintro a2852
      refine At.tn <| Wk.region <| Wo.od (o_mv rfl) rfl ?_
      refine Wo.od (o_bi rfl rfl (bin_add _ _ _)) rfl ?_
      refine Wo.od (o_as rfl) rfl ?_
      refine Wo.nil ?_
      cases hF
      exact At.en a2852 rfl (sc rfl (sc rfl (sc rfl (sc rfl (sc rfl (sc rfl (sc rfl sn))))))) (Turn.picks [0, 1, 2, 3, 4] rfl rfl)
    ·refine Wk.condF rfl h2690 ?_
     refine Wk.exit <| At.te ?_
     cases hF
     exact At.en a2354 rfl (sc rfl (sc rfl (sc rfl (sc rfl (sc rfl (sc rfl sn)))))) (Turn.picks [0, 1, 2, 3, 4] rfl rfl)
   ·clear h3016
    obtain ⟨l2687, v2689⟩ := r3017
    rintro a2688
    refine At.be <| At.bn <| At.tn <| Wk.region <| Wo.od (o_mv rfl) rfl ?_
    refine Wo.od (o_bi rfl rfl (bin_add _ _ _)) rfl ?_
    refine Wo.od (o_as rfl) rfl ?_
    refine Wo.nil ?_
    cases hF
    exact At.en a2688 rfl (sc rfl (sc rfl (sc rfl (sc rfl (sc rfl (sc rfl sn)))))) (Turn.picks [0, 1, 2, 3, 4] rfl rfl)
  ·refine Wk.condF rfl h2022 ?_
   refine Wk.exit <| At.te ?_
   cases hF
   exact At.en a1016 rfl (sc rfl (sc rfl sn)) (Turn.picks [2, 3, 4] rfl rfl)
 ·clear h3018
  rintro a2021
  refine At.be <| At.tn <| Wk.seq <| Wk.region <| Wo.od (o_ld (k := 1) t25 rfl rfl rfl) rfl ?_
  refine Wo.o0 (o_st (k := 0) t25 rfl rfl rfl rfl rfl) ?_
  refine Wo.nil <| At.tn <| Wk.ret ?_
  cases hF
  exact At.ret (.cell (k := 0) t25 rfl rfl rfl .nil) fun m' hm => ⟨(a2021, l2020.length), rfl, (Turn.picks [2] rfl rfl) m' hm⟩

theorem f65_ok (n : Nat) (x1 : Nat) (x2 : Nat) (x3 : Int) (x4 : Int) (x5 : Int) (x6 : Int) (l7 : List (Int × Int)) (a8 : Option Addr) (c9 : Nat) (r : Int × List (Int × Int)) (hF : F65 n x1 x2 x3 x4 x5 x6 l7 = some r) (m : AMem) (h10 : Rd m a8 c9 2 l7.length (l7.map (eP (eI .i64) (eI .i64)))) :
  CallA E18w 65 [.agg #[.int .u8 ((x1 : Nat) : Int), .int .u8 ((x2 : Nat) : Int), .int .i64 x3, .int .i64 x4, .int .i64 x5], .agg #[.int .i64 x6, .slice a8 l7.length c9]] m (fun v m' => ∃ x : Option Addr × Nat, v = .agg #[.int .i64 r.1, .slice x.1 x.2 x.2] ∧ Hp m m' [.sl x.1 2 x.2 (r.2.map (eP (eI .i64) (eI .i64)))]) := by
 unfold F65 at hF
 refine call_wk (m0 := m) (ps := [.rd a8 c9 2 l7.length (l7.map (eP (eI .i64) (eI .i64)))]) (N := 145) (rs := [.cell 4 25]) rfl Tryd.func65 rfl rfl rfl ((Hp.start m).inn rfl h10) ?_
 refine Wk.seq <| Wk.region <| Wo.x (o_bx rfl) gn rfl fun b11 => ?_
 refine Wo.x (o_bx rfl) gn rfl fun b12 => ?_
 refine Wo.x (o_al z25 rfl) gn rfl fun b13 => ?_
 refine Wo.nil <| At.tn <| Wk.seq <| Wk.region <| Wo.od (o_fa (r := ptr b12 1) rfl (fa25_1 _ _)) rfl ?_
 refine Wo.od (o_ld (k := 1) t23 rfl rfl rfl) rfl ?_
 refine Wo.od (o_fa (r := ptr b12 1) rfl (fa25_1 _ _)) rfl ?_
 refine Wo.od (o_ld (k := 1) t23 rfl rfl rfl) rfl ?_
 refine Wo.od (o_ln (k := 3) u23 rfl rfl (.inl rfl)) rfl ?_
 refine Wo.od (o_bu rfl rfl (bu_mi _ _)) rfl ?_
 obtain ⟨h14, hF⟩ := gd_some hF
 refine Wo.x (o_srl (k := 3) (lo := 0) (hi := mi (l7.length : Int) (210 : Int)) s23 rfl rfl rfl rfl h14 (.inl ⟨rfl, rfl⟩) (.inr ⟨_, rfl⟩)) gn rfl ?_
 rintro ⟨a15, c16⟩
 obtain ⟨l18, h17, hF⟩ := ob_some hF
 refine Wo.x (o_cl rfl rfl (fun m hm => f26_ok n ((l7.drop (0 : Int).toNat).take ((mi (l7.length : Int) (210 : Int) : Int).toNat - (0 : Int).toNat)) a15 c16 _ h17 m (hm.rd (k := 0) rfl (.rd _ _ _ _ _))) fun _ => rfl) gn rfl ?_
 rintro ⟨a19, n20⟩
 refine Wo.len (k := 0) (xs := l18) rfl ?_
 rintro rfl
 refine Wo.od (o_fa (r := ptr b12 1) rfl (fa25_1 _ _)) rfl ?_
 refine Wo.o0 (o_st (k := 3) t23 rfl rfl rfl rfl rfl) ?_
 refine Wo.nil <| At.tn <| Wk.seq <| Wk.region <| Wo.od (o_fa (r := ptr b12 1) rfl (fa25_1 _ _)) rfl ?_
 refine Wo.od (o_ld (k := 3) t23 rfl rfl rfl) rfl ?_
 refine Wo.od (o_ln (k := 0) u23 rfl rfl (.inl rfl)) rfl ?_
 refine Wo.od (o_as rfl) rfl ?_
 refine Wo.nil <| At.tn <| Wk.seq <| Wk.region <| Wo.od (o_fa (r := ptr b11 1) rfl (fa57_1 _ _)) rfl ?_
 refine Wo.od (o_ld (k := 4) t5 rfl rfl rfl) rfl ?_
 refine Wo.od (o_cv rfl (cv_i (by rw [u5]; rfl) u3)) rfl ?_
 refine Wo.od (o_mv rfl) rfl ?_
 refine Wo.od (o_bi rfl rfl (bin_add _ _ _)) rfl ?_
 obtain ⟨h21, hF⟩ := gd_some hF
 obtain ⟨y22, h23, hF⟩ := ob_some hF
 refine Wo.od (o_bi rfl rfl ((ib_rem _ _ h21).trans (cI h23))) rfl ?_
 refine Wo.od (o_as rfl) rfl ?_
 refine Wo.nil <| At.tn <| Wk.seq ?_
 obtain ⟨r493, h492, hF⟩ := ob_some hF
 refine Wk.cut (G := (fun (r : Int × List (Int × Int) × Nat) (g : Option Addr) => match r, g with | (v256, l257, n259), a258 => ⟨.normal, [(3, ptr b12 0), (4, ptr b13 0)], [.obj b12 (.cells [.int .i64 v256, .slice a258 n259 n259] .own), .sl a258 2 n259 (l257.map (eP (eI .i64) (eI .i64))), .obj b13 (.cells [.int .i64 0, .slice none 0 0] .own)]⟩) r493) ?_ ?_
 ·clear hF
  revert r493
  intro r hF
  refine Wk.seq <| Wk.region <| Wo.od (o_fa (r := ptr b11 0) rfl (fa57_0 _ _)) rfl ?_
  refine Wo.od (o_ld (k := 4) t5 rfl rfl rfl) rfl ?_
  refine Wo.od (o_bi rfl rfl (ub_rem _ _ (by decide))) rfl ?_
  refine Wo.nil <| At.tn <| Wk.block <| Wk.seq <| Wk.region <| Wo.od (o_bi rfl rfl (ub_eql _ _)) rfl ?_
  refine Wo.od (o_as rfl) rfl ?_
  refine Wo.nil <| At.tn ?_
  rcases br_some hF with ⟨h260, hF⟩ | ⟨h260, hF⟩
  ·refine Wk.condT rfl h260 ?_
   refine Wk.region <| Wo.od (o_fa (r := ptr b11 2) rfl (fa57_2 _ _)) rfl ?_
   refine Wo.od (o_ld (k := 4) t3 rfl rfl rfl) rfl ?_
   refine Wo.od (o_fa (r := ptr b12 0) rfl (fa25_0 _ _)) rfl ?_
   refine Wo.o0 (o_st (k := 3) t3 rfl rfl rfl rfl rfl) ?_
   refine Wo.nil <| At.bn ?_
   cases hF
   exact At.en a19 rfl (sc rfl (sc rfl sn)) (Turn.picks [3, 0, 2] rfl rfl)
  ·refine Wk.condF rfl h260 ?_
   refine Wk.seq <| Wk.region <| Wo.od (o_bi rfl rfl (ub_eql _ _)) rfl ?_
   refine Wo.od (o_as rfl) rfl ?_
   refine Wo.nil <| At.tn ?_
   rcases br_some hF with ⟨h261, hF⟩ | ⟨h261, hF⟩
   ·refine Wk.condT rfl h261 ?_
    refine Wk.region <| Wo.od (o_fa (r := ptr b12 1) rfl (fa25_1 _ _)) rfl ?_
    refine Wo.od (o_ld (k := 3) t23 rfl rfl rfl) rfl ?_
    refine Wo.od (o_mv rfl) rfl ?_
    refine Wo.od (o_fa (r := ptr b11 3) rfl (fa57_3 _ _)) rfl ?_
    refine Wo.od (o_ld (k := 4) t26 rfl rfl rfl) rfl ?_
    refine Wo.x (o_bs (es := ([(x4, x5)] : List (Int × Int)).map (eP (eI .i64) (eI .i64))) s23 rfl (bs_c s23 z26 rfl rfl) rfl rfl) gn rfl fun b262 => ?_
    obtain ⟨l263, h264, hF⟩ := ob_some hF
    refine Wo.x (o_cs (α := Option Addr × Nat) (V := fun y => .slice y.1 y.2 y.2) (N := fun y => pset [.arr b262 2 1 (([(x4, x5)]).map (eP (eI .i64) (eI .i64))) .own, .sl a19 2 l18.length (l18.map (eP (eI .i64) (eI .i64))), .rd a15 c16 2 (((l7.drop (0 : Int).toNat).take ((mi (l7.length : Int) (210 : Int) : Int).toNat - (0 : Int).toNat)).length) (((l7.drop (0 : Int).toNat).take ((mi (l7.length : Int) (210 : Int) : Int).toNat - (0 : Int).toNat)).map (eP (eI .i64) (eI .i64))), .obj b13 (.cells [.int .i64 0, .slice none 0 0] .own), .obj b12 (.cells [.int .i64 x6, .slice a19 l18.length l18.length] .own), .obj b11 (.cells [.int .u8 ((x1 : Nat) : Int), .int .u8 ((x2 : Nat) : Int), .int .i64 x3, .int .i64 x4, .int .i64 x5] .own), .rd a8 c9 2 l7.length (l7.map (eP (eI .i64) (eI .i64)))] 1 (.sl y.1 2 y.2 (l263.map (eP (eI .i64) (eI .i64))))) rfl rfl (fun m hm => f82_use n hm (k := 1) rfl (k2 := 0) rfl rfl h264)) gn rfl ?_
    rintro ⟨a265, n266⟩
    refine Wo.len (k := 1) (xs := l263) rfl ?_
    rintro rfl
    refine Wo.od (o_fa (r := ptr b12 1) rfl (fa25_1 _ _)) rfl ?_
    refine Wo.o0 (o_st (k := 4) t23 rfl rfl rfl rfl rfl) ?_
    refine Wo.nil <| At.bn ?_
    cases hF
    exact At.en a265 rfl (sc rfl (sc rfl sn)) (Turn.picks [4, 1, 3] rfl rfl)
   ·refine Wk.condF rfl h261 ?_
    refine Wk.seq <| Wk.region <| Wo.od (o_bi rfl rfl (ub_eql _ _)) rfl ?_
    refine Wo.od (o_as rfl) rfl ?_
    refine Wo.nil <| At.tn ?_
    rcases br_some hF with ⟨h267, hF⟩ | ⟨h267, hF⟩
    ·refine Wk.condT rfl h267 ?_
     refine Wk.seq <| Wk.region <| Wo.od (o_mv rfl) rfl ?_
     refine Wo.od (o_mv rfl) rfl ?_
     refine Wo.od (o_bi rfl rfl (bin_lss _ _ _)) rfl ?_
     refine Wo.nil <| At.tn ?_
     rcases br_some hF with ⟨h268, hF⟩ | ⟨h268, hF⟩
     ·refine Wk.condT rfl h268 ?_
      refine Wk.region <| Wo.od (o_fa (r := ptr b12 1) rfl (fa25_1 _ _)) rfl ?_
      refine Wo.od (o_ld (k := 3) t23 rfl rfl rfl) rfl ?_
      refine Wo.od (o_mv rfl) rfl ?_
      refine Wo.od (o_mv rfl) rfl ?_
      refine Wo.od (o_bi rfl rfl (bin_add _ _ _)) rfl ?_
      obtain ⟨l269, h270, hF⟩ := ob_some hF
      refine Wo.x (o_cs (α := Option Addr × Nat) (V := fun y => .slice y.1 y.2 y.2) (N := fun y => pset [.sl a19 2 l18.length (l18.map (eP (eI .i64) (eI .i64))), .rd a15 c16 2 (((l7.drop (0 : Int).toNat).take ((mi (l7.length : Int) (210 : Int) : Int).toNat - (0 : Int).toNat)).length) (((l7.drop (0 : Int).toNat).take ((mi (l7.length : Int) (210 : Int) : Int).toNat - (0 : Int).toNat)).map (eP (eI .i64) (eI .i64))), .obj b13 (.cells [.int .i64 0, .slice none 0 0] .own), .obj b12 (.cells [.int .i64 x6, .slice a19 l18.length l18.length] .own), .obj b11 (.cells [.int .u8 ((x1 : Nat) : Int), .int .u8 ((x2 : Nat) : Int), .int .i64 x3, .int .i64 x4, .int .i64 x5] .own), .rd a8 c9 2 l7.length (l7.map (eP (eI .i64) (eI .i64)))] 0 (.sl y.1 2 y.2 (l269.map (eP (eI .i64) (eI .i64))))) rfl rfl (fun m hm => f49_use n hm (k := 0) rfl h270)) gn rfl ?_
      rintro ⟨a271, n272⟩
      refine Wo.len (k := 0) (xs := l269) rfl ?_
      rintro rfl
      refine Wo.od (o_fa (r := ptr b12 1) rfl (fa25_1 _ _)) rfl ?_
      refine Wo.o0 (o_st (k := 3) t23 rfl rfl rfl rfl rfl) ?_
      refine Wo.nil <| At.bn ?_
      cases hF
      exact At.en a271 rfl (sc rfl (sc rfl sn)) (Turn.picks [3, 0, 2] rfl rfl)
     ·refine Wk.condF rfl h268 ?_
      refine Wk.skip <| At.bn ?_
      cases hF
      exact At.en a19 rfl (sc rfl (sc rfl sn)) (Turn.picks [3, 0, 2] rfl rfl)
    ·refine Wk.condF rfl h267 ?_
     refine Wk.seq <| Wk.region <| Wo.od (o_bi rfl rfl (ub_eql _ _)) rfl ?_
     refine Wo.od (o_as rfl) rfl ?_
     refine Wo.nil <| At.tn ?_
     rcases br_some hF with ⟨h273, hF⟩ | ⟨h273, hF⟩
     ·refine Wk.condT rfl h273 ?_
      refine Wk.seq <| Wk.region <| Wo.od (o_mv rfl) rfl ?_
      refine Wo.od (o_mv rfl) rfl ?_
      refine Wo.od (o_bi rfl rfl (bin_lss _ _ _)) rfl ?_
      refine Wo.nil <| At.tn ?_
      rcases br_some hF with ⟨h274, hF⟩ | ⟨h274, hF⟩
      ·refine Wk.condT rfl h274 ?_
       refine Wk.drawc (prs := [(4, 20)]) (by kernel_rfl) ?_
       refine Wn.od (o_fa (r := ptr b12 1) rfl (fa25_1 _ _)) rfl ?_
       refine Wn.od (o_ld (k := 3) t23 rfl rfl rfl) rfl ?_
       refine Wn.od (o_mv rfl) rfl ?_
       refine Wn.od (o_fa (r := ptr b12 1) rfl (fa25_1 _ _)) rfl ?_
       refine Wn.odr rfl (o_ld (k := 3) t23 rfl rfl rfl) rfl ?_
       refine Wn.od (o_mv rfl) rfl ?_
       refine Wn.od (o_fa (r := ptr b12 1) rfl (fa25_1 _ _)) rfl ?_
       refine Wn.od (o_ld (k := 3) t23 rfl rfl rfl) rfl ?_
       refine Wn.od (o_mv rfl) rfl ?_
       obtain ⟨h275, hF⟩ := gd_some hF
       replace h275 := inB_some h275
       refine Wn.open (k := 0) rfl (pos_of h275) ?_
       rintro b276 tg277 rfl h278
       refine Wn.og (o_ixa s23 rfl rfl h275) gn rfl ?_
       refine Wn.od (o_ia (r := ptr b276 (y22.toNat * 2 + 1)) rfl rfl (ia_c ar26 (i := 1) (by decide))) rfl ?_
       obtain ⟨⟨x279, x280⟩, h281, hF⟩ := ob_some hF
       refine Wn.od (o_lda (k := 0) t3 rfl rfl (map_at h281) rfl rfl) rfl ?_
       refine Wn.od (o_fa (r := ptr b12 1) rfl (fa25_1 _ _)) rfl ?_
       refine Wn.od (o_ld (k := 3) t23 rfl rfl rfl) rfl ?_
       refine Wn.od (o_mv rfl) rfl ?_
       obtain ⟨h282, hF⟩ := gd_some hF
       replace h282 := inB_some h282
       refine Wn.og (o_ixa s23 rfl rfl h282) gn rfl ?_
       refine Wn.od (o_ia (r := ptr b276 (y22.toNat * 2 + 0)) rfl rfl (ia_c ar26 (i := 0) (by decide))) rfl ?_
       refine Wn.od (o_lda (k := 0) t3 rfl rfl (map_at h281) rfl rfl) rfl ?_
       obtain ⟨h283, hF⟩ := gd_some hF
       replace h283 := inB_some h283
       refine Wn.og (o_ixa s23 rfl rfl h283) gn rfl ?_
       refine Wn.od (o_ia (r := ptr b276 (y22.toNat * 2 + 0)) rfl rfl (ia_c ar26 (i := 0) (by decide))) rfl ?_
       refine Wn.o0w rfl (o_stl (k := 0) (x1 := (x279, x280)) (x2 := (x280, x280)) t3 rfl rfl rfl h281 rfl) ?_
       obtain ⟨h285, hF⟩ := gd_some hF
       replace h285 := inB_some h285
       refine Wn.og (o_ixa s23 rfl rfl h285) gn rfl ?_
       refine Wn.od (o_ia (r := ptr b276 (y22.toNat * 2 + 1)) rfl rfl (ia_c ar26 (i := 1) (by decide))) rfl ?_
       obtain ⟨⟨x286, x287⟩, h288, hF⟩ := ob_some hF
       refine Wn.o0 (o_stl (k := 0) (x1 := (x286, x287)) (x2 := (x286, x279)) t3 rfl rfl rfl h288 rfl) ?_
       refine Wn.nil (fun m hm => (OkP.rw rfl rfl rfl (hm.ne (i := 3) (j := 0) rfl rfl rfl rfl (by decide) rfl) OkP.nil)) ?_
       refine At.bn ?_
       cases hF
       exact At.en (some ⟨b276, 0, none⟩) rfl (sc rfl (sc rfl sn)) (Turn.trans (Turn.close (k := 0) rfl) (Turn.picks [3, 0, 2] rfl rfl))
      ·refine Wk.condF rfl h274 ?_
       refine Wk.skip <| At.bn ?_
       cases hF
       exact At.en a19 rfl (sc rfl (sc rfl sn)) (Turn.picks [3, 0, 2] rfl rfl)
     ·refine Wk.condF rfl h273 ?_
      refine Wk.seq <| Wk.region <| Wo.od (o_bi rfl rfl (ub_eql _ _)) rfl ?_
      refine Wo.od (o_as rfl) rfl ?_
      refine Wo.nil <| At.tn ?_
      rcases br_some hF with ⟨h290, hF⟩ | ⟨h290, hF⟩
      ·refine Wk.condT rfl h290 ?_
       refine Wk.seq <| Wk.region <| Wo.od (o_mv rfl) rfl ?_
       refine Wo.od (o_mv rfl) rfl ?_
       refine Wo.od (o_bi rfl rfl (bin_lss _ _ _)) rfl ?_
       refine Wo.nil <| At.tn ?_
       rcases br_some hF with ⟨h291, hF⟩ | ⟨h291, hF⟩
       ·refine Wk.condT rfl h291 ?_
        refine Wk.draw (by kernel_rfl) ?_
        refine Wo.od (o_fa (r := ptr b12 1) rfl (fa25_1 _ _)) rfl ?_
        refine Wo.od (o_ld (k := 3) t23 rfl rfl rfl) rfl ?_
        refine Wo.od (o_mv rfl) rfl ?_
        refine Wo.od (o_fa (r := ptr b12 1) rfl (fa25_1 _ _)) rfl ?_
        refine Wo.od (o_ld (k := 3) t23 rfl rfl rfl) rfl ?_
        refine Wo.od (o_mv rfl) rfl ?_
        obtain ⟨h292, hF⟩ := gd_some hF
        replace h292 := inB_some h292
        refine Wo.open (k := 0) rfl (pos_of h292) ?_
        rintro b293 tg294 rfl h295
        refine Wo.og (o_ixa s23 rfl rfl h292) gn rfl ?_
        obtain ⟨⟨x296, x297⟩, h298, hF⟩ := ob_some hF
        refine Wo.od (o_lda (k := 0) t26 rfl rfl (map_at h298) rfl rfl) rfl ?_
        refine Wo.x (o_bs (es := ([(x296, x297)] : List (Int × Int)).map (eP (eI .i64) (eI .i64))) s23 rfl (bs_c s23 z26 rfl rfl) rfl rfl) gn rfl fun b299 => ?_
        obtain ⟨l300, h301, hF⟩ := ob_some hF
        refine Wo.turn (Turn.close (k := 1) rfl) ?_
        refine Wo.x (o_cs (α := Option Addr × Nat) (V := fun y => .slice y.1 y.2 y.2) (N := fun y => pset [.arr b299 2 1 (([(x296, x297)]).map (eP (eI .i64) (eI .i64))) .own, .sl (some ⟨b293, 0, none⟩) 2 l18.length (l18.map (eP (eI .i64) (eI .i64))), .rd a15 c16 2 (((l7.drop (0 : Int).toNat).take ((mi (l7.length : Int) (210 : Int) : Int).toNat - (0 : Int).toNat)).length) (((l7.drop (0 : Int).toNat).take ((mi (l7.length : Int) (210 : Int) : Int).toNat - (0 : Int).toNat)).map (eP (eI .i64) (eI .i64))), .obj b13 (.cells [.int .i64 0, .slice none 0 0] .own), .obj b12 (.cells [.int .i64 x6, .slice (some ⟨b293, 0, none⟩) l18.length l18.length] .own), .obj b11 (.cells [.int .u8 ((x1 : Nat) : Int), .int .u8 ((x2 : Nat) : Int), .int .i64 x3, .int .i64 x4, .int .i64 x5] .own), .rd a8 c9 2 l7.length (l7.map (eP (eI .i64) (eI .i64)))] 1 (.sl y.1 2 y.2 (l300.map (eP (eI .i64) (eI .i64))))) rfl rfl (fun m hm => f82_use n hm (k := 1) rfl (k2 := 0) rfl rfl h301)) gn rfl ?_
        rintro ⟨a302, n303⟩
        refine Wo.len (k := 1) (xs := l300) rfl ?_
        rintro rfl
        refine Wo.od (o_fa (r := ptr b12 1) rfl (fa25_1 _ _)) rfl ?_
        refine Wo.o0 (o_st (k := 4) t23 rfl rfl rfl rfl rfl) ?_
        refine Wo.nil <| At.bn ?_
        cases hF
        exact At.en a302 rfl (sc rfl (sc rfl sn)) (Turn.picks [4, 1, 3] rfl rfl)
       ·refine Wk.condF rfl h291 ?_
        refine Wk.skip <| At.bn ?_
        cases hF
        exact At.en a19 rfl (sc rfl (sc rfl sn)) (Turn.picks [3, 0, 2] rfl rfl)
      ·refine Wk.condF rfl h290 ?_
       refine Wk.seq <| Wk.region <| Wo.od (o_bi rfl rfl (ub_eql _ _)) rfl ?_
       refine Wo.od (o_as rfl) rfl ?_
       refine Wo.nil <| At.tn ?_
       rcases br_some hF with ⟨h304, hF⟩ | ⟨h304, hF⟩
       ·refine Wk.condT rfl h304 ?_
        refine Wk.region <| Wo.od (o_fa (r := ptr b12 0) rfl (fa25_0 _ _)) rfl ?_
        refine Wo.od (o_ld (k := 3) t3 rfl rfl rfl) rfl ?_
        refine Wo.od (o_bu rfl rfl (bu_ma _ _)) rfl ?_
        refine Wo.od (o_bi rfl rfl (ib_rem _ _ (by decide))) rfl ?_
        refine Wo.od (o_bi rfl rfl (bin_add _ _ _)) rfl ?_
        refine Wo.od (o_fa (r := ptr b12 0) rfl (fa25_0 _ _)) rfl ?_
        refine Wo.o0 (o_st (k := 3) t3 rfl rfl rfl rfl rfl) ?_
        refine Wo.nil <| At.bn ?_
        cases hF
        exact At.en a19 rfl (sc rfl (sc rfl sn)) (Turn.picks [3, 0, 2] rfl rfl)
       ·refine Wk.condF rfl h304 ?_
        refine Wk.seq <| Wk.region <| Wo.od (o_bi rfl rfl (ub_eql _ _)) rfl ?_
        refine Wo.od (o_as rfl) rfl ?_
        refine Wo.nil <| At.tn ?_
        rcases br_some hF with ⟨h305, hF⟩ | ⟨h305, hF⟩
        ·refine Wk.condT rfl h305 ?_
         refine Wk.seq <| Wk.region <| Wo.od (o_fa (r := ptr b12 0) rfl (fa25_0 _ _)) rfl ?_
         refine Wo.o0 (o_st (k := 3) t3 rfl rfl rfl rfl rfl) ?_
         refine Wo.od (o_fa (r := ptr b12 1) rfl (fa25_1 _ _)) rfl ?_
         refine Wo.o0 (o_st (k := 3) t23 rfl rfl rfl rfl rfl) ?_
         refine Wo.nil <| At.tn <| Wk.seq <| Wk.region <| Wo.od (o_mv rfl) rfl ?_
         refine Wo.nil <| At.tn <| Wk.block ?_
         obtain ⟨l430, h490, hF⟩ := ob_some hF
         refine Wk.cut (G := (fun (r : List (Int × Int)) (g : Option Addr) => match r, g with | l430, a431 => ⟨(.exit 1), [(3, ptr b12 0), (4, ptr b13 0)], [.obj b12 (.cells [.int .i64 64, .slice a431 l430.length l430.length] .own), .sl a431 2 l430.length (l430.map (eP (eI .i64) (eI .i64))), .obj b13 (.cells [.int .i64 0, .slice none 0 0] .own)]⟩) l430) ?_ ?_
         ·refine Wk.weak (fs' := [(2, ptr b11 0), (3, ptr b12 0), (4, ptr b13 0), (112, .int .i64 0)]) (ps' := [.obj b11 (.cells [.int .u8 ((x1 : Nat) : Int), .int .u8 ((x2 : Nat) : Int), .int .i64 x3, .int .i64 x4, .int .i64 x5] .own), .obj b12 (.cells [.int .i64 64, .slice none ([] : List (Int × Int)).length ([] : List (Int × Int)).length] .own), .sl none 2 ([] : List (Int × Int)).length (([] : List (Int × Int)).map (eP (eI .i64) (eI .i64))), .obj b13 (.cells [.int .i64 0, .slice none 0 0] .own)]) (sc rfl (sc rfl (sc rfl (sc rfl sn)))) (Turn.trans (Turn.nil 2 rfl) (Turn.picks [5, 4, 0, 3] rfl rfl)) ?_
          refine Wk.loop (σ := List (Int × Int) × Int) (ρ := List (Int × Int)) (γ := Option Addr) (δ := fun _ => Option Addr) _ (fun (s : List (Int × Int) × Int) (g : Option Addr) => match s, g with | (l366, v368), a367 => ⟨.normal, [(2, ptr b11 0), (3, ptr b12 0), (4, ptr b13 0), (112, .int .i64 v368)], [.obj b11 (.cells [.int .u8 ((x1 : Nat) : Int), .int .u8 ((x2 : Nat) : Int), .int .i64 x3, .int .i64 x4, .int .i64 x5] .own), .obj b12 (.cells [.int .i64 64, .slice a367 l366.length l366.length] .own), .sl a367 2 l366.length (l366.map (eP (eI .i64) (eI .i64))), .obj b13 (.cells [.int .i64 0, .slice none 0 0] .own)]⟩) (fun (r : List (Int × Int)) (g : Option Addr) => match r, g with | l430, a431 => ⟨(.exit 1), [(3, ptr b12 0), (4, ptr b13 0)], [.obj b12 (.cells [.int .i64 64, .slice a431 l430.length l430.length] .own), .sl a431 2 l430.length (l430.map (eP (eI .i64) (eI .i64))), .obj b13 (.cells [.int .i64 0, .slice none 0 0] .own)]⟩) ?_ (fun _ _ => rfl) (fun r d => by intro e; cases e) _ _ _ h490 none
          clear hF h490
          rintro ⟨l366, v368⟩ a367 r hF
          unfold L65_2 at hF
          refine Wk.seq <| Wk.region <| Wo.od (o_bi rfl rfl (bin_lss _ _ _)) rfl ?_
          refine Wo.nil <| At.tn <| Wk.seq ?_
          rcases br_some hF with ⟨h432, hF⟩ | ⟨h432, hF⟩
          ·refine Wk.condT rfl h432 ?_
           refine Wk.skip <| At.tn <| Wk.seq <| Wk.block <| Wk.seq <| Wk.region <| Wo.od (o_mv rfl) rfl ?_
           refine Wo.od (o_as rfl) rfl ?_
           refine Wo.nil <| At.tn <| Wk.seq <| Wk.region <| Wo.od (o_mv rfl) rfl ?_
           refine Wo.od (o_bi rfl rfl (bin_add _ _ _)) rfl ?_
           refine Wo.od (o_as rfl) rfl ?_
           refine Wo.nil <| At.tn <| Wk.block ?_
           obtain ⟨l471, h488, hF⟩ := ob_some hF
           refine Wk.cut (G := (fun (r : List (Int × Int)) (g : Option Addr) => match r, g with | l471, a472 => ⟨(.exit 3), [(2, ptr b11 0), (3, ptr b12 0), (4, ptr b13 0), (112, .int .i64 v368)], [.obj b11 (.cells [.int .u8 ((x1 : Nat) : Int), .int .u8 ((x2 : Nat) : Int), .int .i64 x3, .int .i64 x4, .int .i64 x5] .own), .obj b12 (.cells [.int .i64 64, .slice a472 l471.length l471.length] .own), .sl a472 2 l471.length (l471.map (eP (eI .i64) (eI .i64))), .obj b13 (.cells [.int .i64 0, .slice none 0 0] .own)]⟩) l471) ?_ ?_
           ·refine Wk.weak (fs' := [(2, ptr b11 0), (3, ptr b12 0), (4, ptr b13 0), (7, .int .i64 v368), (8, .int .i64 (IntKind.wrap .i64 (v368 + 1))), (112, .int .i64 v368)]) (ps' := [.obj b11 (.cells [.int .u8 ((x1 : Nat) : Int), .int .u8 ((x2 : Nat) : Int), .int .i64 x3, .int .i64 x4, .int .i64 x5] .own), .obj b12 (.cells [.int .i64 64, .slice a367 l366.length l366.length] .own), .sl a367 2 l366.length (l366.map (eP (eI .i64) (eI .i64))), .obj b13 (.cells [.int .i64 0, .slice none 0 0] .own)]) (sc rfl (sc rfl (sc rfl (sc rfl (sc rfl (sc rfl sn)))))) (Turn.picks [0, 1, 2, 3] rfl rfl) ?_
            refine Wk.loop (σ := List (Int × Int) × Int) (ρ := List (Int × Int)) (γ := Option Addr) (δ := fun _ => Option Addr) _ (fun (s : List (Int × Int) × Int) (g : Option Addr) => match s, g with | (l450, v452), a451 => ⟨.normal, [(2, ptr b11 0), (3, ptr b12 0), (4, ptr b13 0), (7, .int .i64 v368), (8, .int .i64 v452), (112, .int .i64 v368)], [.obj b11 (.cells [.int .u8 ((x1 : Nat) : Int), .int .u8 ((x2 : Nat) : Int), .int .i64 x3, .int .i64 x4, .int .i64 x5] .own), .obj b12 (.cells [.int .i64 64, .slice a451 l450.length l450.length] .own), .sl a451 2 l450.length (l450.map (eP (eI .i64) (eI .i64))), .obj b13 (.cells [.int .i64 0, .slice none 0 0] .own)]⟩) (fun (r : List (Int × Int)) (g : Option Addr) => match r, g with | l471, a472 => ⟨(.exit 3), [(2, ptr b11 0), (3, ptr b12 0), (4, ptr b13 0), (112, .int .i64 v368)], [.obj b11 (.cells [.int .u8 ((x1 : Nat) : Int), .int .u8 ((x2 : Nat) : Int), .int .i64 x3, .int .i64 x4, .int .i64 x5] .own), .obj b12 (.cells [.int .i64 64, .slice a472 l471.length l471.length] .own), .sl a472 2 l471.length (l471.map (eP (eI .i64) (eI .i64))), .obj b13 (.cells [.int .i64 0, .slice none 0 0] .own)]⟩) ?_ (fun _ _ => rfl) (fun r d => by intro e; cases e) _ _ _ h488 a367
            clear hF h488
            rintro ⟨l450, v452⟩ a451 r hF
            unfold L65_1 at hF
            refine Wk.seq <| Wk.seq ?_
            obtain ⟨v480, h482, hF⟩ := ob_some hF
            refine Wk.cut (G := (fun (r : Bool) (g : Unit) => match r, g with | v480, _ => ⟨.normal, [(2, ptr b11 0), (3, ptr b12 0), (4, ptr b13 0), (7, .int .i64 v368), (8, .int .i64 v452), (112, .int .i64 v368), (132, .bool v480)], [.obj b11 (.cells [.int .u8 ((x1 : Nat) : Int), .int .u8 ((x2 : Nat) : Int), .int .i64 x3, .int .i64 x4, .int .i64 x5] .own), .obj b12 (.cells [.int .i64 64, .slice a451 l450.length l450.length] .own), .sl a451 2 l450.length (l450.map (eP (eI .i64) (eI .i64))), .obj b13 (.cells [.int .i64 0, .slice none 0 0] .own)]⟩) v480) ?_ ?_
            ·clear hF
             revert v480
             intro r hF
             refine Wk.region <| Wo.od (o_mv rfl) rfl ?_
             refine Wo.od (o_mv rfl) rfl ?_
             refine Wo.od (o_bi rfl rfl (bin_add _ _ _)) rfl ?_
             refine Wo.od (o_bu rfl rfl (bu_mi _ _)) rfl ?_
             refine Wo.od (o_bi rfl rfl (bin_lss _ _ _)) rfl ?_
             refine Wo.od (o_mv rfl) rfl ?_
             rcases br_some hF with ⟨h481, hF⟩ | ⟨h481, hF⟩
             ·refine Wo.og (o_fa (r := ptr b12 1) rfl (fa25_1 _ _)) (gg rfl rfl (eTT h481)) rfl ?_
              refine Wo.og (o_ld (k := 1) t23 rfl rfl rfl) (gg rfl rfl (eTT h481)) rfl ?_
              refine Wo.og (o_ln (k := 2) u23 rfl rfl (.inl rfl)) (gg rfl rfl (eTT h481)) rfl ?_
              refine Wo.og (o_fa (r := ptr b11 1) rfl (fa57_1 _ _)) (gg rfl rfl (eTT h481)) rfl ?_
              refine Wo.og (o_ld (k := 0) t5 rfl rfl rfl) (gg rfl rfl (eTT h481)) rfl ?_
              refine Wo.og (o_bi rfl rfl (ub_rem _ _ (by decide))) (gg rfl rfl (eTT h481)) rfl ?_
              refine Wo.og (o_cv rfl (cv_i (by rw [u5]; rfl) u3)) (gg rfl rfl (eTT h481)) rfl ?_
              refine Wo.og (o_bi rfl rfl (bin_add _ _ _)) (gg rfl rfl (eTT h481)) rfl ?_
              refine Wo.og (o_bi rfl rfl (bin_lss _ _ _)) (gg rfl rfl (eTT h481)) rfl ?_
              refine Wo.od (o_pt rfl h481 rfl) rfl ?_
              refine Wo.nil ?_
              cases hF
              exact At.en () rfl (sc rfl (sc rfl (sc rfl (sc rfl (sc rfl (sc rfl (sc rfl sn))))))) (Turn.picks [0, 1, 2, 3] rfl rfl)
             ·refine Wo.s (gg rfl rfl (eFT h481)) rfl ?_
              refine Wo.s (gg rfl rfl (eFT h481)) rfl ?_
              refine Wo.s (gg rfl rfl (eFT h481)) rfl ?_
              refine Wo.s (gg rfl rfl (eFT h481)) rfl ?_
              refine Wo.s (gg rfl rfl (eFT h481)) rfl ?_
              refine Wo.s (gg rfl rfl (eFT h481)) rfl ?_
              refine Wo.s (gg rfl rfl (eFT h481)) rfl ?_
              refine Wo.s (gg rfl rfl (eFT h481)) rfl ?_
              refine Wo.s (gg rfl rfl (eFT h481)) rfl ?_
              refine Wo.od (o_pf rfl h481 rfl) rfl ?_
              refine Wo.nil ?_
              cases hF
              exact At.en () rfl (sc rfl (sc rfl (sc rfl (sc rfl (sc rfl (sc rfl (sc rfl sn))))))) (Turn.picks [0, 1, 2, 3] rfl rfl)
            ·clear h482
             rintro ⟨⟩
             refine At.tn ?_
             rcases br_some hF with ⟨h484, hF⟩ | ⟨h484, hF⟩
             ·refine Wk.condT rfl h484 ?_
              refine Wk.skip <| At.tn <| Wk.seq <| Wk.block <| Wk.region <| Wo.od (o_fa (r := ptr b12 1) rfl (fa25_1 _ _)) rfl ?_
              refine Wo.od (o_ld (k := 1) t23 rfl rfl rfl) rfl ?_
              refine Wo.od (o_mv rfl) rfl ?_
              refine Wo.od (o_mv rfl) rfl ?_
              refine Wo.od (o_bd rfl z26 rfl (bd_s bs26 rfl rfl rfl)) rfl ?_
              refine Wo.x (o_bs (es := ([(v368, v452)] : List (Int × Int)).map (eP (eI .i64) (eI .i64))) s23 rfl (bs_c s23 z26 rfl rfl) rfl rfl) gn rfl fun b485 => ?_
              obtain ⟨h486, hF⟩ := gd_some hF
              refine Wo.x (o_apl (k := 3) (k2 := 0) (xs := (l450 : List (Int × Int))) (ys := ([(v368, v452)] : List (Int × Int))) (enP (enI .i64) (enI .i64)) s23 ⟨_, u23⟩ rfl rfl rfl (.arr _ _ _ _ _) h486) gn rfl fun a487 => ?_
              refine Wo.od (o_fa (r := ptr b12 1) rfl (fa25_1 _ _)) rfl ?_
              refine Wo.o0 (o_st (k := 2) t23 rfl rfl rfl rfl rfl) ?_
              refine Wo.nil <| At.bn <| At.tn <| Wk.region <| Wo.od (o_mv rfl) rfl ?_
              refine Wo.od (o_bi rfl rfl (bin_add _ _ _)) rfl ?_
              refine Wo.od (o_as rfl) rfl ?_
              refine Wo.nil ?_
              cases hF
              exact At.en a487 rfl (sc rfl (sc rfl (sc rfl (sc rfl (sc rfl (sc rfl sn)))))) (Turn.picks [1, 2, 3, 4] rfl rfl)
             ·refine Wk.condF rfl h484 ?_
              refine Wk.exit <| At.te ?_
              cases hF
              exact At.en a451 rfl (sc rfl (sc rfl (sc rfl (sc rfl sn)))) (Turn.picks [0, 1, 2, 3] rfl rfl)
           ·clear h488
            rintro a472
            refine At.be <| At.bn <| At.tn <| Wk.region <| Wo.od (o_bi rfl rfl (bin_add _ _ _)) rfl ?_
            refine Wo.od (o_mv rfl) rfl ?_
            refine Wo.nil ?_
            cases hF
            exact At.en a472 rfl (sc rfl (sc rfl (sc rfl (sc rfl sn)))) (Turn.picks [0, 1, 2, 3] rfl rfl)
          ·refine Wk.condF rfl h432 ?_
           refine Wk.exit <| At.te ?_
           cases hF
           exact At.en a367 rfl (sc rfl (sc rfl sn)) (Turn.picks [1, 2, 3] rfl rfl)
         ·clear h490
          rintro a431
          refine At.be <| At.bn ?_
          cases hF
          exact At.en a431 rfl (sc rfl (sc rfl sn)) (Turn.picks [0, 1, 2] rfl rfl)
        ·refine Wk.condF rfl h305 ?_
         refine Wk.skip <| At.bn ?_
         cases hF
         exact At.en a19 rfl (sc rfl (sc rfl sn)) (Turn.picks [3, 0, 2] rfl rfl)
 ·clear h492
  obtain ⟨v256, l257, n259⟩ := r493
  rintro a258
  refine At.tn <| Wk.seq <| Wk.region <| Wo.od (o_ld (k := 0) t25 rfl rfl rfl) rfl ?_
  refine Wo.o0 (o_st (k := 2) t25 rfl rfl rfl rfl rfl) ?_
  refine Wo.nil <| At.tn <| Wk.ret ?_
  cases hF
  exact At.ret (.cell (k := 2) t25 rfl rfl rfl .nil) fun m' hm => ⟨(a258, n259), rfl, (Turn.picks [1] rfl rfl) m' hm⟩

theorem f28_ok (n : Nat) (x1 : Nat) (x2 : Nat) (x3 : Nat) (l4 : List (Nat × Nat)) (x8 : Nat) (x9 : Nat) (x10 : Int) (x11 : Int) (x12 : Int) (x13 : Nat) (x14 : Nat) (x15 : Int) (x16 : Int) (x17 : Int) (a5 : Option Addr) (c6 : Nat) (r : Int × List (Int × Int) × Int × List (Int × Int) × Int × List (Int × Int)) (hF : F28 n x1 x2 x3 l4 x8 x9 x10 x11 x12 x13 x14 x15 x16 x17 = some r) (m : AMem) (h7 : Rd m a5 c6 2 l4.length (l4.map (eP (eN .u8) (eN .u8)))) :
  CallA E18w 28 [.agg #[.int .u8 ((x1 : Nat) : Int), .int .u8 ((x2 : Nat) : Int), .int .u16 ((x3 : Nat) : Int), .slice a5 l4.length c6], .agg #[.int .u8 ((x8 : Nat) : Int), .int .u8 ((x9 : Nat) : Int), .int .i64 x10, .int .i64 x11, .int .i64 x12, .int .u8 ((x13 : Nat) : Int), .int .u8 ((x14 : Nat) : Int), .int .i64 x15, .int .i64 x16, .int .i64 x17]] m (fun v m' => ∃ x : Option Addr × Nat × Option Addr × Nat × Option Addr × Nat, v = .agg #[.int .i64 r.1, .slice x.1 x.2.1 x.2.1, .int .i64 r.2.2.1, .slice x.2.2.1 x.2.2.2.1 x.2.2.2.1, .int .i64 r.2.2.2.2.1, .slice x.2.2.2.2.1 x.2.2.2.2.2 x.2.2.2.2.2] ∧ Hp m m' [.sl x.1 2 x.2.1 (r.2.1.map (eP (eI .i64) (eI .i64))), .sl x.2.2.1 2 x.2.2.2.1 (r.2.2.2.1.map (eP (eI .i64) (eI .i64))), .sl x.2.2.2.2.1 2 x.2.2.2.2.2 (r.2.2.2.2.2.map (eP (eI .i64) (eI .i64)))]) := by
 unfold F28 at hF
 refine call_wk (m0 := m) (ps := [.rd a5 c6 2 l4.length (l4.map (eP (eN .u8) (eN .u8)))]) (N := 20) (rs := [.cell 4 59]) rfl Tryd.func28 rfl rfl rfl ((Hp.start m).inn rfl h7) ?_
 refine Wk.seq <| Wk.region <| Wo.x (o_bx rfl) gn rfl fun b18 => ?_
 refine Wo.x (o_bx rfl) gn rfl fun b19 => ?_
 refine Wo.x (o_al z59 rfl) gn rfl fun b20 => ?_
 refine Wo.nil <| At.tn <| Wk.seq <| Wk.region <| Wo.od (o_ld (k := 2) t55 rfl rfl rfl) rfl ?_
 obtain ⟨⟨r22, l23⟩, h21, hF⟩ := ob_some hF
 refine Wo.x (o_cl rfl rfl (fun m hm => f40_ok n x1 x2 x3 l4 a5 c6 _ h21 m (hm.rd (k := 3) rfl (.rd _ _ _ _ _))) fun _ => rfl) gn rfl ?_
 rintro ⟨a24, n25⟩
 refine Wo.len (k := 0) (xs := l23) rfl ?_
 rintro rfl
 refine Wo.x (o_al z25 rfl) gn rfl fun b26 => ?_
 refine Wo.o0 (o_st (k := 0) t25 rfl rfl rfl rfl rfl) ?_
 refine Wo.nil <| At.tn <| Wk.seq <| Wk.region <| Wo.od (o_ia (r := ptr b19 0) rfl rfl (ia_c ar58 (i := 0) (by decide))) rfl ?_
 refine Wo.od (o_ld (k := 3) t57 rfl rfl rfl) rfl ?_
 refine Wo.od (o_ld (k := 0) t25 rfl rfl rfl) rfl ?_
 obtain ⟨⟨r28, l29⟩, h27, hF⟩ := ob_some hF
 refine Wo.x (o_cl rfl rfl (fun m hm => f65_ok n x8 x9 x10 x11 x12 r22 l23 a24 l23.length _ h27 m (hm.rd (k := 1) rfl (.sl _ _ _ _))) fun _ => rfl) gn rfl ?_
 rintro ⟨a30, n31⟩
 refine Wo.len (k := 0) (xs := l29) rfl ?_
 rintro rfl
 refine Wo.x (o_al z25 rfl) gn rfl fun b32 => ?_
 refine Wo.o0 (o_st (k := 0) t25 rfl rfl rfl rfl rfl) ?_
 refine Wo.nil <| At.tn <| Wk.seq <| Wk.drawc (prs := [(0, 5), (1, 5)]) (by kernel_rfl) ?_
 refine Wn.od (o_ld (k := 2) t25 rfl rfl rfl) rfl ?_
 refine Wn.od (o_ld (k := 0) t25 rfl rfl rfl) rfl ?_
 refine Wn.od (o_ia (r := ptr b19 5) rfl rfl (ia_c ar58 (i := 1) (by decide))) rfl ?_
 refine Wn.od (o_ld (k := 5) t57 rfl rfl rfl) rfl ?_
 refine Wn.od (o_ld (k := 0) t25 rfl rfl rfl) rfl ?_
 obtain ⟨⟨r34, l35⟩, h33, hF⟩ := ob_some hF
 refine Wn.c (o_ce rfl rfl (fun m hm => f65_ok n x13 x14 x15 x16 x17 r28 l29 a30 l29.length _ h33 m (hm.rd (k := 1) rfl (.sl _ _ _ _))) fun _ => rfl) gn rfl ?_
 rintro ⟨a36, n37⟩
 refine Wn.len (k := 0) (xs := l35) rfl ?_
 rintro rfl
 refine Wn.od (o_bd rfl z59 rfl (bd_s bs59 rfl rfl rfl)) rfl ?_
 refine Wn.o0 (o_st (k := 5) t59 rfl rfl rfl rfl rfl) ?_
 refine Wn.nil (fun m hm => OkP.all rfl) ?_
 refine At.tn <| Wk.ret ?_
 cases hF
 exact At.ret (.cell (k := 5) t59 rfl rfl rfl .nil) fun m' hm => ⟨(a24, l23.length, a30, l29.length, a36, l35.length), rfl, (Turn.picks [4, 2, 0] rfl rfl) m' hm⟩

theorem f94_ok (n : Nat) (x1 : Int)  (r : Bool) (hF : F94 n x1 = some r) (m : AMem)  :
  CallA E18w 94 [.int .i64 x1] m (fun v m' => ∃ x : Unit, v = .bool r ∧ Hp m m' []) := by
 unfold F94 at hF
 refine call_wk (m0 := m) (ps := []) (N := 6) (rs := [.tmp 2]) rfl Tryd.func94 rfl rfl rfl (Hp.start m) ?_
 refine Wk.seq <| Wk.region <| Wo.od (o_as rfl) rfl ?_
 refine Wo.nil <| At.tn <| Wk.seq <| Wk.region <| Wo.od (o_mv rfl) rfl ?_
 refine Wo.od (o_mv rfl) rfl ?_
 refine Wo.od (o_bi rfl rfl (ib_neq _ _)) rfl ?_
 refine Wo.od (o_as rfl) rfl ?_
 refine Wo.nil <| At.tn <| Wk.ret ?_
 cases hF
 exact At.ret (.tmp rfl .nil) fun m' hm => ⟨(), rfl, (Turn.picks [] rfl rfl) m' hm⟩

theorem f81_ok (n : Nat) (x1 : Int) (x2 : Int)  (r : Int) (hF : F81 n x1 x2 = some r) (m : AMem)  :
  CallA E18w 81 [.int .i64 x1, .int .i64 x2] m (fun v m' => ∃ x : Unit, v = .int .i64 r ∧ Hp m m' []) := by
 unfold F81 at hF
 refine call_wk (m0 := m) (ps := []) (N := 20) (rs := [.tmp 4]) rfl Tryd.func81 rfl rfl rfl (Hp.start m) ?_
 refine Wk.seq <| Wk.region <| Wo.od (o_as rfl) rfl ?_
 refine Wo.nil <| At.tn <| Wk.seq <| Wk.region <| Wo.od (o_mv rfl) rfl ?_
 obtain ⟨r4, h3, hF⟩ := ob_some hF
 refine Wo.x (o_cl rfl rfl (fun m hm => f94_ok n x1  _ h3 m ) fun _ => rfl) gn rfl ?_
 rintro ⟨⟩
 refine Wo.od (o_as rfl) rfl ?_
 refine Wo.nil <| At.tn <| Wk.seq <| Wk.region <| Wo.od (o_mv rfl) rfl ?_
 obtain ⟨r6, h5, hF⟩ := ob_some hF
 refine Wo.x (o_cl rfl rfl (fun m hm => f94_ok n x2  _ h5 m ) fun _ => rfl) gn rfl ?_
 rintro ⟨⟩
 refine Wo.od (o_as rfl) rfl ?_
 refine Wo.nil <| At.tn <| Wk.seq <| Wk.seq <| Wk.region <| Wo.od (o_mv rfl) rfl ?_
 refine Wo.nil <| At.tn ?_
 rcases br_some hF with ⟨h7, hF⟩ | ⟨h7, hF⟩
 ·refine Wk.condT rfl h7 ?_
  refine Wk.seq <| Wk.seq <| Wk.region <| Wo.od (o_mv rfl) rfl ?_
  refine Wo.nil <| At.tn ?_
  rcases br_some hF with ⟨h8, hF⟩ | ⟨h8, hF⟩
  ·refine Wk.condT rfl h8 ?_
   refine Wk.seq <| Wk.region <| Wo.od (o_as rfl) rfl ?_
   refine Wo.nil <| At.tn <| Wk.ret <| At.tr <| At.tr ?_
   cases hF
   exact At.ret (.tmp rfl .nil) fun m' hm => ⟨(), rfl, (Turn.picks [] rfl rfl) m' hm⟩
  ·refine Wk.condF rfl h8 ?_
   refine Wk.skip <| At.tn <| Wk.seq <| Wk.region <| Wo.od (o_as rfl) rfl ?_
   refine Wo.nil <| At.tn <| Wk.ret <| At.tr ?_
   cases hF
   exact At.ret (.tmp rfl .nil) fun m' hm => ⟨(), rfl, (Turn.picks [] rfl rfl) m' hm⟩
 ·refine Wk.condF rfl h7 ?_
  refine Wk.skip <| At.tn <| Wk.seq <| Wk.seq <| Wk.region <| Wo.od (o_mv rfl) rfl ?_
  refine Wo.nil <| At.tn ?_
  rcases br_some hF with ⟨h9, hF⟩ | ⟨h9, hF⟩
  ·refine Wk.condT rfl h9 ?_
   refine Wk.seq <| Wk.region <| Wo.od (o_as rfl) rfl ?_
   refine Wo.nil <| At.tn <| Wk.ret <| At.tr ?_
   cases hF
   exact At.ret (.tmp rfl .nil) fun m' hm => ⟨(), rfl, (Turn.picks [] rfl rfl) m' hm⟩
  ·refine Wk.condF rfl h9 ?_
   refine Wk.skip <| At.tn <| Wk.seq <| Wk.seq <| Wk.region <| Wo.od (o_mv rfl) rfl ?_
   refine Wo.od (o_mv rfl) rfl ?_
   refine Wo.od (o_bi rfl rfl (bin_lss _ _ _)) rfl ?_
   refine Wo.nil <| At.tn ?_
   rcases br_some hF with ⟨h10, hF⟩ | ⟨h10, hF⟩
   ·refine Wk.condT rfl h10 ?_
    refine Wk.seq <| Wk.region <| Wo.od (o_as rfl) rfl ?_
    refine Wo.nil <| At.tn <| Wk.ret <| At.tr ?_
    cases hF
    exact At.ret (.tmp rfl .nil) fun m' hm => ⟨(), rfl, (Turn.picks [] rfl rfl) m' hm⟩
   ·refine Wk.condF rfl h10 ?_
    refine Wk.skip <| At.tn <| Wk.seq <| Wk.seq <| Wk.region <| Wo.od (o_mv rfl) rfl ?_
    refine Wo.od (o_mv rfl) rfl ?_
    refine Wo.od (o_bi rfl rfl (bin_gtr _ _ _)) rfl ?_
    refine Wo.nil <| At.tn ?_
    rcases br_some hF with ⟨h11, hF⟩ | ⟨h11, hF⟩
    ·refine Wk.condT rfl h11 ?_
     refine Wk.seq <| Wk.region <| Wo.od (o_as rfl) rfl ?_
     refine Wo.nil <| At.tn <| Wk.ret <| At.tr ?_
     cases hF
     exact At.ret (.tmp rfl .nil) fun m' hm => ⟨(), rfl, (Turn.picks [] rfl rfl) m' hm⟩
    ·refine Wk.condF rfl h11 ?_
     refine Wk.skip <| At.tn <| Wk.seq <| Wk.region <| Wo.od (o_as rfl) rfl ?_
     refine Wo.nil <| At.tn <| Wk.ret ?_
     cases hF
     exact At.ret (.tmp rfl .nil) fun m' hm => ⟨(), rfl, (Turn.picks [] rfl rfl) m' hm⟩

theorem f64_ok (n : Nat) (l1 : List (Int)) (l5 : List (Int)) (a2 : Option Addr) (c3 : Nat) (a6 : Option Addr) (c7 : Nat) (r : Int) (hF : F64 n l1 l5 = some r) (m : AMem) (h4 : Rd m a2 c3 1 l1.length (l1.map (eI .i64))) (h8 : Rd m a6 c7 1 l5.length (l5.map (eI .i64))) :
  CallA E18w 64 [.slice a2 l1.length c3, .slice a6 l5.length c7] m (fun v m' => ∃ x : Unit, v = .int .i64 r ∧ Hp m m' []) := by
 unfold F64 at hF
 refine call_wk (m0 := m) (ps := [.rd a6 c7 1 l5.length (l5.map (eI .i64)), .rd a2 c3 1 l1.length (l1.map (eI .i64))]) (N := 36) (rs := [.tmp 4]) rfl Tryd.func64 rfl rfl rfl (((Hp.start m).inn rfl h4).inn rfl h8) ?_
 refine Wk.seq <| Wk.region <| Wo.od (o_as rfl) rfl ?_
 refine Wo.nil <| At.tn <| Wk.seq <| Wk.seq <| Wk.region <| Wo.od (o_mv rfl) rfl ?_
 refine Wo.od (o_ln (k := 1) u39 rfl rfl (.inl rfl)) rfl ?_
 refine Wo.od (o_mv rfl) rfl ?_
 refine Wo.nil <| At.tn <| Wk.block ?_
 obtain ⟨r44, h43, hF⟩ := ob_some hF
 refine Wk.cut (G := (fun (r : (Int) ⊕ (Unit)) (g : Unit) => match r, g with | .inl v27, _ => ⟨.ret, [(4, .int .i64 v27)], []⟩ | .inr _, _ => ⟨(.exit 0), [(0, .slice a2 l1.length c3), (1, .slice a6 l5.length c7)], [.rd a2 c3 1 l1.length (l1.map (eI .i64)), .rd a6 c7 1 l5.length (l5.map (eI .i64))]⟩) r44) ?_ ?_
 ·refine Wk.weak (fs' := [(0, .slice a2 l1.length c3), (1, .slice a6 l5.length c7), (9, .slice a2 l1.length c3), (10, .int .i64 (l1.length : Int)), (11, .int .i64 0)]) (ps' := [.rd a2 c3 1 l1.length (l1.map (eI .i64)), .rd a6 c7 1 l5.length (l5.map (eI .i64))]) (sc rfl (sc rfl (sc rfl (sc rfl (sc rfl sn))))) (Turn.picks [1, 0] rfl rfl) ?_
  refine Wk.loop (σ := Int) (ρ := (Int) ⊕ (Unit)) (γ := Unit) (δ := fun _ => Unit) _ (fun (s : Int) (g : Unit) => match s, g with | v10, _ => ⟨.normal, [(0, .slice a2 l1.length c3), (1, .slice a6 l5.length c7), (9, .slice a2 l1.length c3), (10, .int .i64 (l1.length : Int)), (11, .int .i64 v10)], [.rd a2 c3 1 l1.length (l1.map (eI .i64)), .rd a6 c7 1 l5.length (l5.map (eI .i64))]⟩) (fun (r : (Int) ⊕ (Unit)) (g : Unit) => match r, g with | .inl v27, _ => ⟨.ret, [(4, .int .i64 v27)], []⟩ | .inr _, _ => ⟨(.exit 0), [(0, .slice a2 l1.length c3), (1, .slice a6 l5.length c7)], [.rd a2 c3 1 l1.length (l1.map (eI .i64)), .rd a6 c7 1 l5.length (l5.map (eI .i64))]⟩) ?_ (fun _ _ => rfl) (fun r d => by rcases r with _ | _ <;> (intro e; cases e)) _ _ _ h43 ()
  clear hF h43
  rintro v10 ⟨⟩ r hF
  unfold L64_1 at hF
  refine Wk.seq <| Wk.region <| Wo.od (o_bi rfl rfl (bin_lss _ _ _)) rfl ?_
  refine Wo.nil <| At.tn <| Wk.seq ?_
  rcases br_some hF with ⟨h28, hF⟩ | ⟨h28, hF⟩
  ·refine Wk.condT rfl h28 ?_
   refine Wk.skip <| At.tn <| Wk.seq <| Wk.block <| Wk.seq <| Wk.region <| Wo.od (o_mv rfl) rfl ?_
   obtain ⟨h29, hF⟩ := gd_some hF
   replace h29 := inB_some h29
   refine Wo.openr (k := 0) rfl (pos_of h29) ?_
   rintro b30 o31 rfl
   refine Wo.og (o_ixs s39 rfl rfl h29) gn rfl ?_
   obtain ⟨x32, h33, hF⟩ := ob_some hF
   refine Wo.od (o_ldr (k := 0) t3 rfl rfl (map_at h33) rfl rfl) rfl ?_
   refine Wo.od (o_as rfl) rfl ?_
   refine Wo.od (o_as rfl) rfl ?_
   refine Wo.nil <| At.tn <| Wk.seq <| Wk.seq <| Wk.region <| Wo.od (o_mv rfl) rfl ?_
   refine Wo.od (o_mv rfl) rfl ?_
   refine Wo.od (o_ln (k := 2) u39 rfl rfl (.inl rfl)) rfl ?_
   refine Wo.od (o_bi rfl rfl (bin_geq _ _ _)) rfl ?_
   refine Wo.nil <| At.tn ?_
   rcases br_some hF with ⟨h34, hF⟩ | ⟨h34, hF⟩
   ·refine Wk.condT rfl h34 ?_
    refine Wk.seq <| Wk.region <| Wo.od (o_as rfl) rfl ?_
    refine Wo.nil <| At.tn <| Wk.ret <| At.tr <| At.br <| At.tr ?_
    cases hF
    exact At.en () rfl (sc rfl sn) (Turn.picks [] rfl rfl)
   ·refine Wk.condF rfl h34 ?_
    refine Wk.skip <| At.tn <| Wk.seq <| Wk.region <| Wo.od (o_mv rfl) rfl ?_
    refine Wo.od (o_mv rfl) rfl ?_
    obtain ⟨h35, hF⟩ := gd_some hF
    replace h35 := inB_some h35
    refine Wo.openr (k := 2) rfl (pos_of h35) ?_
    rintro b36 o37 rfl
    refine Wo.og (o_ixs s39 rfl rfl h35) gn rfl ?_
    obtain ⟨x38, h39, hF⟩ := ob_some hF
    refine Wo.od (o_ldr (k := 0) t3 rfl rfl (map_at h39) rfl rfl) rfl ?_
    refine Wo.od (o_as rfl) rfl ?_
    refine Wo.nil <| At.tn <| Wk.seq <| Wk.region <| Wo.od (o_mv rfl) rfl ?_
    refine Wo.od (o_mv rfl) rfl ?_
    obtain ⟨r41, h40, hF⟩ := ob_some hF
    refine Wo.x (o_cl rfl rfl (fun m hm => f81_ok n x32 x38  _ h40 m ) fun _ => rfl) gn rfl ?_
    rintro ⟨⟩
    refine Wo.od (o_as rfl) rfl ?_
    refine Wo.nil <| At.tn <| Wk.seq <| Wk.region <| Wo.od (o_mv rfl) rfl ?_
    refine Wo.od (o_bi rfl rfl (ib_neq _ _)) rfl ?_
    refine Wo.nil <| At.tn ?_
    rcases br_some hF with ⟨h42, hF⟩ | ⟨h42, hF⟩
    ·refine Wk.condT rfl h42 ?_
     refine Wk.seq <| Wk.region <| Wo.od (o_mv rfl) rfl ?_
     refine Wo.od (o_as rfl) rfl ?_
     refine Wo.nil <| At.tn <| Wk.ret <| At.br <| At.tr ?_
     cases hF
     exact At.en () rfl (sc rfl sn) (Turn.picks [] rfl rfl)
    ·refine Wk.condF rfl h42 ?_
     refine Wk.skip <| At.bn <| At.tn <| Wk.region <| Wo.od (o_bi rfl rfl (bin_add _ _ _)) rfl ?_
     refine Wo.od (o_mv rfl) rfl ?_
     refine Wo.nil ?_
     cases hF
     exact At.en () rfl (sc rfl (sc rfl (sc rfl (sc rfl (sc rfl sn))))) (Turn.picks [2, 3] rfl rfl)
  ·refine Wk.condF rfl h28 ?_
   refine Wk.exit <| At.te ?_
   cases hF
   exact At.en () rfl (sc rfl (sc rfl sn)) (Turn.picks [0, 1] rfl rfl)
 ·clear h43
  rcases r44 with v27 | _
  ·rintro ⟨⟩
   refine At.br <| At.tr ?_
   have hr := Option.some.inj hF
   subst r
   exact At.ret (.tmp rfl .nil) fun m' hm => ⟨(), rfl, (Turn.picks [] rfl rfl) m' hm⟩
  ·rintro ⟨⟩
   refine At.be <| At.tn <| Wk.seq <| Wk.seq <| Wk.region <| Wo.od (o_mv rfl) rfl ?_
   refine Wo.od (o_ln (k := 0) u39 rfl rfl (.inl rfl)) rfl ?_
   refine Wo.od (o_mv rfl) rfl ?_
   refine Wo.od (o_ln (k := 1) u39 rfl rfl (.inl rfl)) rfl ?_
   refine Wo.od (o_bi rfl rfl (bin_lss _ _ _)) rfl ?_
   refine Wo.nil <| At.tn ?_
   rcases br_some hF with ⟨h45, hF⟩ | ⟨h45, hF⟩
   ·refine Wk.condT rfl h45 ?_
    refine Wk.seq <| Wk.region <| Wo.od (o_as rfl) rfl ?_
    refine Wo.nil <| At.tn <| Wk.ret <| At.tr ?_
    cases hF
    exact At.ret (.tmp rfl .nil) fun m' hm => ⟨(), rfl, (Turn.picks [] rfl rfl) m' hm⟩
   ·refine Wk.condF rfl h45 ?_
    refine Wk.skip <| At.tn <| Wk.seq <| Wk.region <| Wo.od (o_as rfl) rfl ?_
    refine Wo.nil <| At.tn <| Wk.ret ?_
    cases hF
    exact At.ret (.tmp rfl .nil) fun m' hm => ⟨(), rfl, (Turn.picks [] rfl rfl) m' hm⟩

theorem f23_ok (n : Nat) (x1 : Int) (l2 : List (Int × Int)) (a3 : Option Addr) (c4 : Nat) (r : Int) (hF : F23 n x1 l2 = some r) (m : AMem) (h5 : Rd m a3 c4 2 l2.length (l2.map (eP (eI .i64) (eI .i64)))) :
  CallA E18w 23 [.agg #[.int .i64 x1, .slice a3 l2.length c4]] m (fun v m' => ∃ x : Unit, v = .int .i64 r ∧ Hp m m' []) := by
 unfold F23 at hF
 refine call_wk (m0 := m) (ps := [.rd a3 c4 2 l2.length (l2.map (eP (eI .i64) (eI .i64)))]) (N := 53) (rs := [.tmp 2]) rfl Tryd.func23 rfl rfl rfl ((Hp.start m).inn rfl h5) ?_
 refine Wk.seq <| Wk.region <| Wo.x (o_bx rfl) gn rfl fun b6 => ?_
 refine Wo.od (o_as rfl) rfl ?_
 refine Wo.nil <| At.tn <| Wk.seq <| Wk.seq ?_
 obtain ⟨v17, h20, hF⟩ := ob_some hF
 refine Wk.cut (G := (fun (r : Bool) (g : Unit) => match r, g with | v17, _ => ⟨.normal, [(1, ptr b6 0), (19, .bool v17)], [.obj b6 (.cells [.int .i64 x1, .slice a3 l2.length c4] .own), .rd a3 c4 2 l2.length (l2.map (eP (eI .i64) (eI .i64)))]⟩) v17) ?_ ?_
 ·clear hF
  revert v17
  intro r hF
  refine Wk.region <| Wo.od (o_fa (r := ptr b6 0) rfl (fa25_0 _ _)) rfl ?_
  refine Wo.od (o_ld (k := 0) t3 rfl rfl rfl) rfl ?_
  refine Wo.od (o_bi rfl rfl (bin_lss _ _ _)) rfl ?_
  refine Wo.od (o_mv rfl) rfl ?_
  rcases br_some hF with ⟨h18, hF⟩ | ⟨h18, hF⟩
  ·refine Wo.s (gg rfl rfl (eTF h18)) rfl ?_
   refine Wo.s (gg rfl rfl (eTF h18)) rfl ?_
   refine Wo.s (gg rfl rfl (eTF h18)) rfl ?_
   refine Wo.od (o_pt rfl h18 rfl) rfl ?_
   refine Wo.od (o_mv rfl) rfl ?_
   refine Wo.s (gg rfl rfl rfl) rfl ?_
   refine Wo.s (gg rfl rfl rfl) rfl ?_
   refine Wo.s (gg rfl rfl rfl) rfl ?_
   refine Wo.s (gg rfl rfl rfl) rfl ?_
   refine Wo.od (o_pT rfl rfl) rfl ?_
   refine Wo.nil ?_
   cases hF
   exact At.en () rfl (sc rfl (sc rfl sn)) (Turn.picks [0, 1] rfl rfl)
  ·refine Wo.og (o_fa (r := ptr b6 0) rfl (fa25_0 _ _)) (gg rfl rfl (eFF h18)) rfl ?_
   refine Wo.og (o_ld (k := 0) t3 rfl rfl rfl) (gg rfl rfl (eFF h18)) rfl ?_
   refine Wo.og (o_bi rfl rfl (bin_gtr _ _ _)) (gg rfl rfl (eFF h18)) rfl ?_
   refine Wo.od (o_pf rfl h18 rfl) rfl ?_
   refine Wo.od (o_mv rfl) rfl ?_
   rcases br_some hF with ⟨h19, hF⟩ | ⟨h19, hF⟩
   ·refine Wo.s (gg rfl rfl (eTF h19)) rfl ?_
    refine Wo.s (gg rfl rfl (eTF h19)) rfl ?_
    refine Wo.s (gg rfl rfl (eTF h19)) rfl ?_
    refine Wo.s (gg rfl rfl (eTF h19)) rfl ?_
    refine Wo.od (o_pt rfl h19 rfl) rfl ?_
    refine Wo.nil ?_
    cases hF
    exact At.en () rfl (sc rfl (sc rfl sn)) (Turn.picks [0, 1] rfl rfl)
   ·refine Wo.og (o_fa (r := ptr b6 1) rfl (fa25_1 _ _)) (gg rfl rfl (eFF h19)) rfl ?_
    refine Wo.og (o_ld (k := 0) t23 rfl rfl rfl) (gg rfl rfl (eFF h19)) rfl ?_
    refine Wo.og (o_ln (k := 1) u23 rfl rfl (.inl rfl)) (gg rfl rfl (eFF h19)) rfl ?_
    refine Wo.og (o_bi rfl rfl (bin_gtr _ _ _)) (gg rfl rfl (eFF h19)) rfl ?_
    refine Wo.od (o_pf rfl h19 rfl) rfl ?_
    refine Wo.nil ?_
    cases hF
    exact At.en () rfl (sc rfl (sc rfl sn)) (Turn.picks [0, 1] rfl rfl)
 ·clear h20
  rintro ⟨⟩
  refine At.tn ?_
  rcases br_some hF with ⟨h22, hF⟩ | ⟨h22, hF⟩
  ·refine Wk.condT rfl h22 ?_
   refine Wk.seq <| Wk.region <| Wo.od (o_as rfl) rfl ?_
   refine Wo.nil <| At.tn <| Wk.ret <| At.tr ?_
   cases hF
   exact At.ret (.tmp rfl .nil) fun m' hm => ⟨(), rfl, (Turn.picks [] rfl rfl) m' hm⟩
  ·refine Wk.condF rfl h22 ?_
   refine Wk.skip <| At.tn <| Wk.seq <| Wk.region <| Wo.od (o_bd rfl z26 rfl (bd_s bs26 rfl rfl rfl)) rfl ?_
   refine Wo.x (o_al z26 rfl) gn rfl fun b23 => ?_
   refine Wo.o0 (o_st (k := 0) t26 rfl rfl rfl rfl rfl) ?_
   refine Wo.nil <| At.tn <| Wk.seq <| Wk.seq <| Wk.region <| Wo.od (o_fa (r := ptr b6 1) rfl (fa25_1 _ _)) rfl ?_
   refine Wo.od (o_ld (k := 1) t23 rfl rfl rfl) rfl ?_
   refine Wo.od (o_ln (k := 2) u23 rfl rfl (.inl rfl)) rfl ?_
   refine Wo.od (o_mv rfl) rfl ?_
   refine Wo.nil <| At.tn <| Wk.block ?_
   obtain ⟨r246, h245, hF⟩ := ob_some hF
   refine Wk.cut (G := (fun (r : (Unit) ⊕ (Unit)) (g : Unit) => match r, g with | .inl _, _ => ⟨.ret, [(2, .int .i64 180)], []⟩ | .inr _, _ => ⟨(.exit 0), [], []⟩) r246) ?_ ?_
   ·refine Wk.weak (fs' := [(1, ptr b6 0), (3, ptr b23 0), (22, .slice a3 l2.length c4), (23, .int .i64 (l2.length : Int)), (24, .int .i64 0)]) (ps' := [.obj b6 (.cells [.int .i64 x1, .slice a3 l2.length c4] .own), .rd a3 c4 2 l2.length (l2.map (eP (eI .i64) (eI .i64))), .obj b23 (.cells [.int .i64 (-1), .int .i64 (-1)] .own)]) (sc rfl (sc rfl (sc rfl (sc rfl (sc rfl sn))))) (Turn.picks [1, 2, 0] rfl rfl) ?_
    refine Wk.loop (σ := Int × Int × Int) (ρ := (Unit) ⊕ (Unit)) (γ := Unit) (δ := fun _ => Unit) _ (fun (s : Int × Int × Int) (g : Unit) => match s, g with | (v97, v98, v99), _ => ⟨.normal, [(1, ptr b6 0), (3, ptr b23 0), (22, .slice a3 l2.length c4), (23, .int .i64 (l2.length : Int)), (24, .int .i64 v99)], [.obj b6 (.cells [.int .i64 x1, .slice a3 l2.length c4] .own), .rd a3 c4 2 l2.length (l2.map (eP (eI .i64) (eI .i64))), .obj b23 (.cells [.int .i64 v97, .int .i64 v98] .own)]⟩) (fun (r : (Unit) ⊕ (Unit)) (g : Unit) => match r, g with | .inl _, _ => ⟨.ret, [(2, .int .i64 180)], []⟩ | .inr _, _ => ⟨(.exit 0), [], []⟩) ?_ (fun _ _ => rfl) (fun r d => by rcases r with _ | _ <;> (intro e; cases e)) _ _ _ h245 ()
    clear hF h245
    rintro ⟨v97, v98, v99⟩ ⟨⟩ r hF
    unfold L23_1 at hF
    refine Wk.seq <| Wk.region <| Wo.od (o_bi rfl rfl (bin_lss _ _ _)) rfl ?_
    refine Wo.nil <| At.tn <| Wk.seq ?_
    rcases br_some hF with ⟨h174, hF⟩ | ⟨h174, hF⟩
    ·refine Wk.condT rfl h174 ?_
     refine Wk.skip <| At.tn <| Wk.seq <| Wk.block <| Wk.seq <| Wk.region ?_
     obtain ⟨h210, hF⟩ := gd_some hF
     replace h210 := inB_some h210
     refine Wo.openr (k := 1) rfl (pos_of h210) ?_
     rintro b211 o212 rfl
     refine Wo.og (o_ixs s23 rfl rfl h210) gn rfl ?_
     obtain ⟨⟨x213, x214⟩, h215, hF⟩ := ob_some hF
     refine Wo.od (o_ldr (k := 0) t26 rfl rfl (map_at h215) rfl rfl) rfl ?_
     refine Wo.x (o_al z26 rfl) gn rfl fun b216 => ?_
     refine Wo.o0 (o_st (k := 0) t26 rfl rfl rfl rfl rfl) ?_
     refine Wo.nil <| At.tn <| Wk.seq <| Wk.seq ?_
     obtain ⟨v236, h242, hF⟩ := ob_some hF
     refine Wk.cut (G := (fun (r : Bool) (g : Unit) => match r, g with | v236, _ => ⟨.normal, [(1, ptr b6 0), (3, ptr b23 0), (5, ptr b216 0), (22, .slice (some ⟨b211, o212, none⟩) l2.length c4), (23, .int .i64 (l2.length : Int)), (24, .int .i64 v99), (50, .bool v236)], [.obj b6 (.cells [.int .i64 x1, .slice (some ⟨b211, o212, none⟩) l2.length c4] .own), .ro b211 o212 2 l2.length (l2.map (eP (eI .i64) (eI .i64))), .rd (some ⟨b211, o212, none⟩) c4 2 l2.length (l2.map (eP (eI .i64) (eI .i64))), .obj b23 (.cells [.int .i64 v97, .int .i64 v98] .own), .obj b216 (.cells [.int .i64 x213, .int .i64 x214] .own)]⟩) v236) ?_ ?_
     ·clear hF
      revert v236
      intro r hF
      refine Wk.draw (by kernel_rfl) ?_
      refine Wo.od (o_ia (r := ptr b216 0) rfl rfl (ia_c ar26 (i := 0) (by decide))) rfl ?_
      refine Wo.od (o_ld (k := 0) t3 rfl rfl rfl) rfl ?_
      refine Wo.od (o_bi rfl rfl (bin_lss _ _ _)) rfl ?_
      refine Wo.od (o_mv rfl) rfl ?_
      rcases br_some hF with ⟨h237, hF⟩ | ⟨h237, hF⟩
      ·refine Wo.s (gg rfl rfl (eTF h237)) rfl ?_
       refine Wo.s (gg rfl rfl (eTF h237)) rfl ?_
       refine Wo.s (gg rfl rfl (eTF h237)) rfl ?_
       refine Wo.s (gg rfl rfl (eTF h237)) rfl ?_
       refine Wo.s (gg rfl rfl (eTF h237)) rfl ?_
       refine Wo.od (o_pt rfl h237 rfl) rfl ?_
       refine Wo.od (o_mv rfl) rfl ?_
       refine Wo.s (gg rfl rfl rfl) rfl ?_
       refine Wo.s (gg rfl rfl rfl) rfl ?_
       refine Wo.s (gg rfl rfl rfl) rfl ?_
       refine Wo.s (gg rfl rfl rfl) rfl ?_
       refine Wo.s (gg rfl rfl rfl) rfl ?_
       refine Wo.od (o_pT rfl rfl) rfl ?_
       refine Wo.od (o_mv rfl) rfl ?_
       refine Wo.s (gg rfl rfl rfl) rfl ?_
       refine Wo.s (gg rfl rfl rfl) rfl ?_
       refine Wo.s (gg rfl rfl rfl) rfl ?_
       refine Wo.s (gg rfl rfl rfl) rfl ?_
       refine Wo.od (o_pT rfl rfl) rfl ?_
       refine Wo.nil ?_
       cases hF
       exact At.en () rfl (sc rfl (sc rfl (sc rfl (sc rfl (sc rfl (sc rfl (sc rfl sn))))))) (Turn.picks [2, 1, 3, 4, 0] rfl rfl)
      ·refine Wo.og (o_ia (r := ptr b216 0) rfl rfl (ia_c ar26 (i := 0) (by decide))) (gg rfl rfl (eFF h237)) rfl ?_
       refine Wo.og (o_ld (k := 0) t3 rfl rfl rfl) (gg rfl rfl (eFF h237)) rfl ?_
       refine Wo.og (o_ia (r := ptr b216 1) rfl rfl (ia_c ar26 (i := 1) (by decide))) (gg rfl rfl (eFF h237)) rfl ?_
       refine Wo.og (o_ld (k := 0) t3 rfl rfl rfl) (gg rfl rfl (eFF h237)) rfl ?_
       refine Wo.og (o_bi rfl rfl (bin_geq _ _ _)) (gg rfl rfl (eFF h237)) rfl ?_
       refine Wo.od (o_pf rfl h237 rfl) rfl ?_
       refine Wo.od (o_mv rfl) rfl ?_
       rcases br_some hF with ⟨h238, hF⟩ | ⟨h238, hF⟩
       ·refine Wo.s (gg rfl rfl (eTF h238)) rfl ?_
        refine Wo.s (gg rfl rfl (eTF h238)) rfl ?_
        refine Wo.s (gg rfl rfl (eTF h238)) rfl ?_
        refine Wo.s (gg rfl rfl (eTF h238)) rfl ?_
        refine Wo.s (gg rfl rfl (eTF h238)) rfl ?_
        refine Wo.od (o_pt rfl h238 rfl) rfl ?_
        refine Wo.od (o_mv rfl) rfl ?_
        refine Wo.s (gg rfl rfl rfl) rfl ?_
        refine Wo.s (gg rfl rfl rfl) rfl ?_
        refine Wo.s (gg rfl rfl rfl) rfl ?_
        refine Wo.s (gg rfl rfl rfl) rfl ?_
        refine Wo.od (o_pT rfl rfl) rfl ?_
        refine Wo.nil ?_
        cases hF
        exact At.en () rfl (sc rfl (sc rfl (sc rfl (sc rfl (sc rfl (sc rfl (sc rfl sn))))))) (Turn.picks [2, 1, 3, 4, 0] rfl rfl)
       ·refine Wo.og (o_ia (r := ptr b216 1) rfl rfl (ia_c ar26 (i := 1) (by decide))) (gg rfl rfl (eFF h238)) rfl ?_
        refine Wo.og (o_ld (k := 0) t3 rfl rfl rfl) (gg rfl rfl (eFF h238)) rfl ?_
        refine Wo.og (o_fa (r := ptr b6 0) rfl (fa25_0 _ _)) (gg rfl rfl (eFF h238)) rfl ?_
        refine Wo.og (o_ld (k := 2) t3 rfl rfl rfl) (gg rfl rfl (eFF h238)) rfl ?_
        refine Wo.og (o_bi rfl rfl (bin_geq _ _ _)) (gg rfl rfl (eFF h238)) rfl ?_
        refine Wo.od (o_pf rfl h238 rfl) rfl ?_
        refine Wo.od (o_mv rfl) rfl ?_
        rcases br_some hF with ⟨h239, hF⟩ | ⟨h239, hF⟩
        ·refine Wo.s (gg rfl rfl (eTF h239)) rfl ?_
         refine Wo.s (gg rfl rfl (eTF h239)) rfl ?_
         refine Wo.s (gg rfl rfl (eTF h239)) rfl ?_
         refine Wo.s (gg rfl rfl (eTF h239)) rfl ?_
         refine Wo.od (o_pt rfl h239 rfl) rfl ?_
         refine Wo.nil ?_
         cases hF
         exact At.en () rfl (sc rfl (sc rfl (sc rfl (sc rfl (sc rfl (sc rfl (sc rfl sn))))))) (Turn.picks [2, 1, 3, 4, 0] rfl rfl)
        ·refine Wo.og (o_sa (k := 4) ar26 rfl rfl rfl rfl) (gg rfl rfl (eFF h239)) rfl ?_
         refine Wo.og (o_sa (k := 0) ar26 rfl rfl rfl rfl) (gg rfl rfl (eFF h239)) rfl ?_
         obtain ⟨r241, h240, hF⟩ := ob_some hF
         refine Wo.x (o_cl rfl rfl (fun m hm => f64_ok n [v97, v98] [x213, x214] (some ⟨b23, 0, none⟩) 2 (some ⟨b216, 0, none⟩) 2 _ h240 m (hm.rdo (k := 4) (xs := [v97, v98]) (f := eI .i64) rfl rfl rfl rfl (enI .i64)) (hm.rdo (k := 0) (xs := [x213, x214]) (f := eI .i64) rfl rfl rfl rfl (enI .i64))) fun _ => rfl) (gg rfl rfl (eFF h239)) rfl ?_
         rintro ⟨⟩
         refine Wo.og (o_bi rfl rfl (bin_geq _ _ _)) (gg rfl rfl (eFF h239)) rfl ?_
         refine Wo.od (o_pf rfl h239 rfl) rfl ?_
         refine Wo.nil ?_
         cases hF
         exact At.en () rfl (sc rfl (sc rfl (sc rfl (sc rfl (sc rfl (sc rfl (sc rfl sn))))))) (Turn.picks [2, 1, 3, 4, 0] rfl rfl)
     ·clear h242
      rintro ⟨⟩
      refine At.tn ?_
      rcases br_some hF with ⟨h244, hF⟩ | ⟨h244, hF⟩
      ·refine Wk.condT rfl h244 ?_
       refine Wk.seq <| Wk.region <| Wo.od (o_as rfl) rfl ?_
       refine Wo.nil <| At.tn <| Wk.ret <| At.tr <| At.br <| At.tr ?_
       cases hF
       exact At.en () rfl (sc rfl sn) (Turn.picks [] rfl rfl)
      ·refine Wk.condF rfl h244 ?_
       refine Wk.skip <| At.tn <| Wk.region <| Wo.od (o_ld (k := 4) t26 rfl rfl rfl) rfl ?_
       refine Wo.o0 (o_st (k := 3) t26 rfl rfl rfl rfl rfl) ?_
       refine Wo.nil <| At.bn <| At.tn <| Wk.region <| Wo.od (o_bi rfl rfl (bin_add _ _ _)) rfl ?_
       refine Wo.od (o_mv rfl) rfl ?_
       refine Wo.nil ?_
       cases hF
       exact At.en () rfl (sc rfl (sc rfl (sc rfl (sc rfl (sc rfl sn))))) (Turn.picks [0, 2, 3] rfl rfl)
    ·refine Wk.condF rfl h174 ?_
     refine Wk.exit <| At.te ?_
     cases hF
     exact At.en () rfl sn (Turn.picks [] rfl rfl)
   ·clear h245
    rcases r246 with _ | _
    ·rintro ⟨⟩
     refine At.br <| At.tr ?_
     cases hF
     exact At.ret (.tmp rfl .nil) fun m' hm => ⟨(), rfl, (Turn.picks [] rfl rfl) m' hm⟩
    ·rintro ⟨⟩
     refine At.be <| At.tn <| Wk.seq <| Wk.region <| Wo.od (o_as rfl) rfl ?_
     refine Wo.nil <| At.tn <| Wk.ret ?_
     cases hF
     exact At.ret (.tmp rfl .nil) fun m' hm => ⟨(), rfl, (Turn.picks [] rfl rfl) m' hm⟩

end Go.Proofs.YtpclggcpobakhaaDoor.W0
end

section
namespace Go.Proofs.YtpclggcpobakhaaDoor
open Go Go.Ab Go.Ab.W
/-- wardmotelaw18.fitting: by hand (S18Fit) -/
def gOf (N1 : Int) (l1 : List (Int × Int)) (N2 : Int) (l2 : List (Int × Int)) (N3 : Int) (l3 : List (Int × Int)) (j : Nat) : Int × List (Int × Int) :=
 match j with
 | 0 => (N1, l1)
 | 1 => (N2, l2)
 | _ => (N3, l3)
def L41_1 (n : Nat) (N1 : Int) (l1 : List (Int × Int)) (N2 : Int) (l2 : List (Int × Int)) (N3 : Int) (l3 : List (Int × Int)) : (List Nat × Int) → Option ((List Nat × Int) ⊕ (List Nat)) := fun (J, v) =>
br (decide (v < 3)) (
gd (inB v 3) (
ob (F23 n (gOf N1 l1 N2 l2 N3 l3 v.toNat).1 (gOf N1 l1 N2 l2 N3 l3 v.toNat).2) fun r =>
br (decide (r = 0)) (
gd (lim (J.length + 1)) (
some (.inl (J ++ [v.toNat], IntKind.wrap .i64 (v + 1))))) (
some (.inl (J, IntKind.wrap .i64 (v + 1)))))) (
some (.inr J))
def F41 (n : Nat) (x1 : Nat) (x2 : Nat) (x3 : Nat) (l4 : List (Nat × Nat)) (x8 : Nat) (x9 : Nat) (x10 : Int) (x11 : Int) (x12 : Int) (x13 : Nat) (x14 : Nat) (x15 : Int) (x16 : Int) (x17 : Int) : Option (List (Int × List (Int × Int))) :=
ob (F28 n x1 x2 x3 l4 x8 x9 x10 x11 x12 x13 x14 x15 x16 x17) fun (N1, l1, N2, l2, N3, l3) =>
ob (lpN (L41_1 n N1 l1 N2 l2 N3 l3) n ([], 0)) fun J =>
some (J.map (gOf N1 l1 N2 l2 N3 l3))
/-- slices.Repeat of one number: by hand (S18Rep) -/
def F60r (n : Nat) (l : List Int) (k : Int) : Option (List Int) :=
 match l with
 | [x] => gd (decide (1 ≤ k)) (gd (lim k.toNat) (some (List.replicate k.toNat x)))
 | _ => none
/-- slices.Index[[][2]int,[2]int] -/
def L73_1 (n : Nat) (l1 : List (Int × Int)) (x5 : Int) (x6 : Int) : Int → Option ((Int) ⊕ ((Int) ⊕ (Unit))) := fun v9 =>
br (decide (v9 < (l1.length : Int))) (
gd (inB v9 l1.length) (
ob (l1[v9.toNat]?) fun (x24, x25) =>
br ((decide (x5 = x24) && decide (x6 = x25))) (
some (.inr (.inl v9))) (
some (.inl (IntKind.wrap .i64 (v9 + 1)))))) (
some (.inr (.inr ())))
def F73 (n : Nat) (l1 : List (Int × Int)) (x5 : Int) (x6 : Int) : Option (Int) :=
ob (α := (Int) ⊕ (Unit)) (
lpN (L73_1 n l1 x5 x6) n 0) fun r29 => match r29 with
| .inl v19 =>
some v19
| .inr _ =>
some (-1)

/-- slices.Contains[[][2]int,[2]int] -/
def F48 (n : Nat) (l1 : List (Int × Int)) (x5 : Int) (x6 : Int) : Option (Bool) :=
ob (F73 n l1 x5 x6) fun r9 =>
some (decide (0 ≤ r9))

/-- wardmote/wardmotelaw18.GraphBorders -/
def L9_1 (n : Nat) (l727 : List (Int × Int)) (l718 : List (Int × Int)) (y724 : Nat) : (Nat × Int) → Option ((Nat × Int) ⊕ ((Unit) ⊕ (Nat))) := fun (v773, v774) =>
br (decide (v774 < (l727.length : Int))) (
gd (inB v774 l727.length) (
ob (l727[v774.toNat]?) fun (x904, x905) =>
ob (
ob (F48 n l718 x904 x905) fun r929 =>
br (!r929) (
some true) (
gd (decide (0 ≤ x904)) (
gd (decide (0 ≤ x905)) (
some (decide (uw .u64 (uw .u64 (ushr .u64 y724 x904.toNat) &&& uw .u64 1) = uw .u64 (uw .u64 (ushr .u64 y724 x905.toNat) &&& uw .u64 1))))))) fun v927 =>
br (v927) (
some (.inr (.inl ()))) (
gd (decide (0 ≤ x904)) (
gd (decide (0 ≤ x905)) (
ob (some (uw .u64 (uw .u64 (ushl .u64 1 x904.toNat) ||| uw .u64 (ushl .u64 1 x905.toNat)))) fun y938 =>
some (.inl (uw .u64 (uw .u64 v773 ||| uw .u64 y938), IntKind.wrap .i64 (v774 + 1)))))))) (
some (.inr (.inr v773)))
def L9_2 (n : Nat) (l24 : List (Int × List (Int × Int))) (x18 : Nat) : Int → Option ((Int) ⊕ ((Unit) ⊕ (Unit))) := fun v31 =>
br (decide (v31 < (l24.length : Int))) (
gd (inB v31 l24.length) (
ob (l24[v31.toNat]?) fun (x717, l718) =>
gd (decide (0 ≤ x717)) (
ob (some (uw .u64 (uw .u64 x18 &&& uw .u64 (usub .u64 (ushl .u64 1 x717.toNat) 1)))) fun y724 =>
ob (F15 n x717 l718 y724) fun (l727, r730) =>
ob (F15 n x717 l718 (uandn .u64 (usub .u64 (ushl .u64 1 x717.toNat) 1) y724)) fun (l732, r735) =>
ob (F14 n x717 l718 y724) fun (r737, r738) =>
ob (
br (!decide (r730 = 0)) (
some true) (
br (!decide (r735 = 0)) (
some true) (
br (!decide (r738 = 0)) (
some true) (
ob (F34 n l727 l732) fun r766 =>
br (!r766) (
some true) (
some (!decide (uw .u64 (uw .u64 r737 &&& uw .u64 y724) = 0))))))) fun v761 =>
br (v761) (
some (.inr (.inl ()))) (
ob (α := (Unit) ⊕ (Nat)) (
lpN (L9_1 n l727 l718 y724) n (0, 0)) fun r941 => match r941 with
| .inl _ =>
some (.inr (.inl ()))
| .inr v858 =>
br (!decide (uandn .u64 v858 y724 = r737)) (
some (.inr (.inl ()))) (
some (.inl (IntKind.wrap .i64 (v31 + 1)))))))) (
some (.inr (.inr ())))
def F9 (n : Nat) (x1 : Nat) (x2 : Nat) (x3 : Nat) (l4 : List (Nat × Nat)) (x8 : Nat) (x9 : Nat) (x10 : Int) (x11 : Int) (x12 : Int) (x13 : Nat) (x14 : Nat) (x15 : Int) (x16 : Int) (x17 : Int) (x18 : Nat) : Option (Bool) :=
ob (F13 n ) fun r22 =>
br (!r22) (
some false) (
ob (F41 n x1 x2 x3 l4 x8 x9 x10 x11 x12 x13 x14 x15 x16 x17) fun l24 =>
ob (α := (Unit) ⊕ (Unit)) (
lpN (L9_2 n l24 x18) n 0) fun r944 => match r944 with
| .inl _ =>
some false
| .inr _ =>
some true)

/-- wardmote/wardmotelaw18.GraphPartitions -/
def L6_1 (n : Nat) (l1093 : List Nat) (x1083 : Int) (l1084 : List (Int × Int)) (y1090 : Nat) : (Nat × Int) → Option ((Nat × Int) ⊕ ((Unit) ⊕ (Nat))) := fun (v1118, v1119) =>
br (decide (v1119 < (l1093.length : Int))) (
gd (inB v1119 l1093.length) (
ob (l1093[v1119.toNat]?) fun x1345 =>
ob (F14 n x1083 l1084 x1345) fun (r1348, r1349) =>
ob (F16 n x1083 l1084 x1345) fun (r1351, r1352) =>
ob (
br (!decide (r1349 = 0)) (
some true) (
br (!decide (r1352 = 0)) (
some true) (
br (!r1351) (
some true) (
br (!decide (uw .u64 (uw .u64 x1345 &&& uw .u64 v1118) = 0)) (
some true) (
br (!decide (uw .u64 (uw .u64 r1348 &&& uw .u64 y1090) = 0)) (
some true) (
br (decide (0 < v1119)) (
gd (inB (IntKind.wrap .i64 (v1119 - 1)) l1093.length) (
ob (l1093[(IntKind.wrap .i64 (v1119 - 1)).toNat]?) fun x1404 =>
ob (F42 n x1404) fun r1407 =>
ob (F42 n x1345) fun r1409 =>
some (decide (r1409 ≤ r1407)))) (
some false))))))) fun v1396 =>
br (v1396) (
some (.inr (.inl ()))) (
some (.inl (uw .u64 (uw .u64 v1118 ||| uw .u64 x1345), IntKind.wrap .i64 (v1119 + 1)))))) (
some (.inr (.inr v1118)))
def L6_2 (n : Nat) (l69 : List (Int × List (Int × Int))) (x18 : Nat) : Int → Option ((Int) ⊕ ((Unit) ⊕ (Unit))) := fun v76 =>
br (decide (v76 < (l69.length : Int))) (
gd (inB v76 l69.length) (
ob (l69[v76.toNat]?) fun (x1083, l1084) =>
gd (decide (0 ≤ x1083)) (
ob (some (uw .u64 (uw .u64 x18 &&& uw .u64 (usub .u64 (ushl .u64 1 x1083.toNat) 1)))) fun y1090 =>
ob (F17 n x1083 l1084 y1090) fun (l1093, r1096) =>
ob (F16 n x1083 l1084 y1090) fun (r1098, r1099) =>
ob (
br (!decide (r1096 = 0)) (
some true) (
br (!decide (r1099 = 0)) (
some true) (
some (!(r1098 == (decide ((l1093.length : Int) = 1))))))) fun v1110 =>
br (v1110) (
some (.inr (.inl ()))) (
ob (α := (Unit) ⊕ (Nat)) (
lpN (L6_1 n l1093 x1083 l1084 y1090) n (0, 0)) fun r1414 => match r1414 with
| .inl _ =>
some (.inr (.inl ()))
| .inr v1267 =>
br (!decide (v1267 = y1090)) (
some (.inr (.inl ()))) (
some (.inl (IntKind.wrap .i64 (v76 + 1)))))))) (
some (.inr (.inr ())))
def F6 (n : Nat) (x1 : Nat) (x2 : Nat) (x3 : Nat) (l4 : List (Nat × Nat)) (x8 : Nat) (x9 : Nat) (x10 : Int) (x11 : Int) (x12 : Int) (x13 : Nat) (x14 : Nat) (x15 : Int) (x16 : Int) (x17 : Int) (x18 : Nat) : Option (Bool) :=
ob (
ob (F13 n ) fun r57 =>
br (!r57) (
some true) (
ob (F40 n x1 x2 x3 l4) fun (r60, l61) =>
ob (F23 n r60 l61) fun r65 =>
some (!decide (r65 = 0)))) fun v55 =>
br (v55) (
some false) (
ob (F41 n x1 x2 x3 l4 x8 x9 x10 x11 x12 x13 x14 x15 x16 x17) fun l69 =>
ob (α := (Unit) ⊕ (Unit)) (
lpN (L6_2 n l69 x18) n 0) fun r1417 => match r1417 with
| .inl _ =>
some false
| .inr _ =>
some true)

/-- math/bits.Mul64 -/
def F84 (n : Nat) (x1 : Nat) (x2 : Nat) : Option (Nat × Nat) :=
ob (some (uw .u64 ((uw .u64 (uw .u64 x1 &&& uw .u64 4294967295)) * (uw .u64 (uw .u64 x2 &&& uw .u64 4294967295))))) fun y3 =>
ob (some (uw .u64 ((ushr .u64 x1 32) * (uw .u64 (uw .u64 x2 &&& uw .u64 4294967295))))) fun y5 =>
ob (some (uw .u64 (uw .u64 (uw .u64 (y5 + (ushr .u64 y3 32))) &&& uw .u64 4294967295))) fun y7 =>
ob (some (uw .u64 ((uw .u64 (uw .u64 x1 &&& uw .u64 4294967295)) * (ushr .u64 x2 32)))) fun y9 =>
ob (some (uw .u64 ((uw .u64 ((ushr .u64 x1 32) * (ushr .u64 x2 32))) + (ushr .u64 (uw .u64 (y5 + (ushr .u64 y3 32))) 32)))) fun y11 =>
some (uw .u64 (y11 + (ushr .u64 (uw .u64 (y7 + y9)) 32)), uw .u64 (x1 * x2))

/-- math/bits.Mul -/
def F77 (n : Nat) (x1 : Nat) (x2 : Nat) : Option (Nat × Nat) :=
ob (F84 n x1 x2) fun (r4, r5) =>
some (r4, r5)

/-- wardmote/graph.Distances -/
def L20_1 (n : Nat) (l38 : List Int) (v196 : Int) : (Nat × List (Int)) → Option ((Nat × List (Int)) ⊕ (List (Int))) := fun (v442, l443) =>
br (!decide (v442 = 0)) (
ob (F42 n v442) fun r468 =>
ob (
gd (inB r468 l38.length) (
ob (l443[r468.toNat]?) fun x480 =>
some ())) fun _ =>
some (.inl (uw .u64 (uw .u64 v442 &&& uw .u64 (usub .u64 v442 1)), (l443.set r468.toNat v196)))) (
some (.inr l443))
def L20_2 (n : Nat) (l38 : List Int) (x1 : Int) (l2 : List (Int × Int)) (x6 : Nat) : (List (Int) × Nat × Int × Nat) → Option ((List (Int) × Nat × Int × Nat) ⊕ (List (Int))) := fun (l193, v194, v196, v197) =>
br (!decide (v197 = 0)) (
ob (
some ()) fun _ =>
ob (
ob (
lpN (L20_1 n l38 v196) n (v197, l193)) fun l465 =>
some l465) fun l423 =>
ob (F56 n x1 l2 v194) fun r490 =>
ob (some (uw .u64 (uw .u64 v194 ||| uw .u64 (uw .u64 (uw .u64 r490 &&& uw .u64 x6))))) fun y491 =>
some (.inl (l423, y491, IntKind.wrap .i64 (v196 + 1), uw .u64 (uw .u64 r490 &&& uw .u64 x6)))) (
some (.inr l193))
def F20 (n : Nat) (x1 : Int) (l2 : List (Int × Int)) (x6 : Nat) (x7 : Int) : Option (List Int × Int) :=
ob (F55 n x1 l2 x6) fun r10 =>
br (!decide (r10 = 0)) (
some ([], r10)) (
ob (
br (decide (x7 < 0)) (
some true) (
br (decide (x1 ≤ x7)) (
some true) (
ob (F57 n x6 x7) fun r32 =>
some (!r32)))) fun v28 =>
br (v28) (
some ([], 2)) (
ob (F60r n ([-1]) x1) fun l38 =>
gd (decide (0 ≤ x7)) (
ob (
lpN (L20_2 n l38 x1 l2 x6) n (l38, ushl .u64 1 x7.toNat, 0, ushl .u64 1 x7.toNat)) fun l348 =>
some (l348, 0))))

/-- slices.Index[[]uint64,uint64] -/
def L74_1 (n : Nat) (l1 : List (Nat)) (x5 : Nat) : Int → Option ((Int) ⊕ ((Int) ⊕ (Unit))) := fun v7 =>
br (decide (v7 < (l1.length : Int))) (
gd (inB v7 l1.length) (
ob (l1[v7.toNat]?) fun x21 =>
br (decide (x5 = x21)) (
some (.inr (.inl v7))) (
some (.inl (IntKind.wrap .i64 (v7 + 1)))))) (
some (.inr (.inr ())))
def F74 (n : Nat) (l1 : List (Nat)) (x5 : Nat) : Option (Int) :=
ob (α := (Int) ⊕ (Unit)) (
lpN (L74_1 n l1 x5) n 0) fun r25 => match r25 with
| .inl v16 =>
some v16
| .inr _ =>
some (-1)

/-- slices.Contains[[]uint64,uint64] -/
def F50 (n : Nat) (l1 : List (Nat)) (x5 : Nat) : Option (Bool) :=
ob (F74 n l1 x5) fun r7 =>
some (decide (0 ≤ r7))

/-- wardmote/wardmotelaw18.GraphWays -/
def L11_1 (n : Nat) (l3828 : List (Int × Int)) (y3835 : Nat) (y3838 : Nat) (l3841 : List Int) (x3827 : Int) : (List (Bool) × Int) → Option ((List (Bool) × Int) ⊕ ((Unit) ⊕ (List (Bool)))) := fun (l4204, v4205) =>
br (decide (v4205 < (l3828.length : Int))) (
ob (α := (List (Bool)) ⊕ (Unit)) (
gd (inB v4205 l3828.length) (
ob (l3828[v4205.toNat]?) fun (x4725, x4726) =>
ob (
gd (decide (0 ≤ x4725)) (
ob (some (uw .u64 (uw .u64 (ushr .u64 (uw .u64 (uw .u64 y3835 ||| uw .u64 y3838)) x4725.toNat) &&& uw .u64 1))) fun y4756 =>
br (decide (y4756 = 0)) (
some true) (
gd (decide (0 ≤ x4726)) (
ob (some (uw .u64 (uw .u64 (ushr .u64 (uw .u64 (uw .u64 y3835 ||| uw .u64 y3838)) x4726.toNat) &&& uw .u64 1))) fun y4760 =>
some (decide (y4760 = 0)))))) fun v4754 =>
br (v4754) (
some (.inl l4204)) (
ob (
gd (inB x4725 l3841.length) (
ob (l3841[x4725.toNat]?) fun x4822 =>
gd (inB x4726 l3841.length) (
ob (l3841[x4726.toNat]?) fun x4825 =>
br (!((decide (x4822 < 0)) == (decide (x4825 < 0)))) (
some true) (
gd (inB x4725 l3841.length) (
gd (inB x4726 l3841.length) (
gd (inB x4726 l3841.length) (
gd (inB x4725 l3841.length) (
ob (some (ma (IntKind.wrap .i64 (x4822 - x4825)) (IntKind.wrap .i64 (x4825 - x4822)))) fun y4832 =>
some (decide (1 < y4832)))))))))) fun v4817 =>
br (v4817) (
some (.inr ())) (
ob (
gd (inB x4725 x3827.toNat) (
ob (l4204[x4725.toNat]?) fun x4856 =>
br (x4856) (
gd (inB x4725 x3827.toNat) (
some (l4204.set x4725.toNat true))) (
gd (inB x4726 l3841.length) (
ob (l3841[x4726.toNat]?) fun x4865 =>
gd (inB x4725 l3841.length) (
ob (l3841[x4725.toNat]?) fun x4868 =>
gd (inB x4725 x3827.toNat) (
some (l4204.set x4725.toNat (decide (x4865 = IntKind.wrap .i64 (x4868 - 1)))))))))) fun l4854 =>
gd (inB x4726 x3827.toNat) (
ob (l4854[x4726.toNat]?) fun x4875 =>
br (x4875) (
gd (inB x4726 x3827.toNat) (
some (.inl (l4854.set x4726.toNat true)))) (
gd (inB x4725 l3841.length) (
ob (l3841[x4725.toNat]?) fun x4884 =>
gd (inB x4726 l3841.length) (
ob (l3841[x4726.toNat]?) fun x4887 =>
gd (inB x4726 x3827.toNat) (
some (.inl (l4854.set x4726.toNat (decide (x4884 = IntKind.wrap .i64 (x4887 - 1)))))))))))))) fun r4892 => match r4892 with
| .inl l4721 =>
some (.inl (l4721, IntKind.wrap .i64 (v4205 + 1)))
| .inr _ =>
some (.inr (.inl ()))) (
some (.inr (.inr l4204)))
def L11_2 (n : Nat) (l3841 : List Int) (x19 : Nat) (x3827 : Int) (l4550 : List (Bool)) : (Nat × Int) → Option ((Nat × Int) ⊕ ((Unit) ⊕ (Nat))) := fun (v4897, v4898) =>
br (decide (v4898 < (l3841.length : Int))) (
ob (α := (Unit) ⊕ (Nat)) (
gd (inB v4898 l3841.length) (
ob (l3841[v4898.toNat]?) fun x5032 =>
ob (
br (!((decide (x5032 = 0)) == (decide (v4898 = Int.tmod (IntKind.wrap .i64 ((x19 : Nat) : Int)) x3827)))) (
some true) (
br (decide (0 < x5032)) (
gd (inB v4898 x3827.toNat) (
ob (l4550[v4898.toNat]?) fun x5060 =>
br (!x5060) (
some true) (
some (decide (x5032 < -1))))) (
some (decide (x5032 < -1))))) fun v5056 =>
br (v5056) (
some (.inl ())) (
br (decide (0 ≤ x5032)) (
gd (decide (0 ≤ v4898)) (
some (.inr (uw .u64 (uw .u64 v4897 ||| uw .u64 (ushl .u64 1 v4898.toNat)))))) (
some (.inr v4897))))) fun r5069 => match r5069 with
| .inl _ =>
some (.inr (.inl ()))
| .inr v5027 =>
some (.inl (v5027, IntKind.wrap .i64 (v4898 + 1)))) (
some (.inr (.inr v4897)))
def L11_3 (n : Nat) (l25 : List (Int × List (Int × Int))) (x18 : Nat) (x19 : Nat) : Int → Option ((Int) ⊕ ((Unit) ⊕ (Unit))) := fun v32 =>
br (decide (v32 < (l25.length : Int))) (
gd (inB v32 l25.length) (
ob (l25[v32.toNat]?) fun (x3827, l3828) =>
gd (decide (x3827 ≠ 0)) (
gd (decide (0 ≤ x3827)) (
ob (some (uw .u64 (uw .u64 x18 &&& uw .u64 (usub .u64 (ushl .u64 1 x3827.toNat) 1)))) fun y3835 =>
gd (decide (0 ≤ Int.tmod (IntKind.wrap .i64 ((x19 : Nat) : Int)) x3827)) (
ob (some (ushl .u64 1 (Int.tmod (IntKind.wrap .i64 ((x19 : Nat) : Int)) x3827).toNat)) fun y3838 =>
ob (F20 n x3827 l3828 (uw .u64 (uw .u64 y3835 ||| uw .u64 y3838)) (Int.tmod (IntKind.wrap .i64 ((x19 : Nat) : Int)) x3827)) fun (l3841, r3844) =>
ob (
br (!decide (r3844 = 0)) (
some true) (
some (!decide ((l3841.length : Int) = x3827)))) fun v3852 =>
br (v3852) (
some (.inr (.inl ()))) (
gd (decide (0 ≤ x3827)) (gd (lim x3827.toNat) (
ob (α := (Unit) ⊕ (List (Bool))) (
lpN (L11_1 n l3828 y3835 y3838 l3841 x3827) n ((List.replicate x3827.toNat false), 0)) fun r4894 => match r4894 with
| .inl _ =>
some (.inr (.inl ()))
| .inr l4550 =>
ob (α := (Unit) ⊕ (Nat)) (
lpN (L11_2 n l3841 x19 x3827 l4550) n (0, 0)) fun r5071 => match r5071 with
| .inl _ =>
some (.inr (.inl ()))
| .inr v4985 =>
ob (F17 n x3827 l3828 (uw .u64 (uw .u64 y3835 ||| uw .u64 y3838))) fun (l5073, r5076) =>
ob (
br (!decide (r5076 = 0)) (
some true) (
ob (F50 n l5073 v4985) fun r5093 =>
some (!r5093))) fun v5090 =>
br (v5090) (
some (.inr (.inl ()))) (
ob (F51 n v4985) fun r5098 =>
ob (F20 n x3827 l3828 (uw .u64 (uw .u64 y3835 ||| uw .u64 y3838)) (IntKind.wrap .i64 (r5098 - 1))) fun (l5100, r5103) =>
ob (
br (!decide (r5103 = 0)) (
some true) (
br (!decide ((l5100.length : Int) = x3827)) (
some true) (
gd (inB (Int.tmod (IntKind.wrap .i64 ((x19 : Nat) : Int)) x3827) l5100.length) (
ob (l5100[(Int.tmod (IntKind.wrap .i64 ((x19 : Nat) : Int)) x3827).toNat]?) fun x5125 =>
gd (inB (IntKind.wrap .i64 (r5098 - 1)) l3841.length) (
ob (l3841[(IntKind.wrap .i64 (r5098 - 1)).toNat]?) fun x5131 =>
some (!decide (x5125 = x5131))))))) fun v5118 =>
br (v5118) (
some (.inr (.inl ()))) (
some (.inl (IntKind.wrap .i64 (v32 + 1))))))))))))) (
some (.inr (.inr ())))
def F11 (n : Nat) (x1 : Nat) (x2 : Nat) (x3 : Nat) (l4 : List (Nat × Nat)) (x8 : Nat) (x9 : Nat) (x10 : Int) (x11 : Int) (x12 : Int) (x13 : Nat) (x14 : Nat) (x15 : Int) (x16 : Int) (x17 : Int) (x18 : Nat) (x19 : Nat) : Option (Bool) :=
ob (F13 n ) fun r23 =>
br (!r23) (
some false) (
ob (F41 n x1 x2 x3 l4 x8 x9 x10 x11 x12 x13 x14 x15 x16 x17) fun l25 =>
ob (α := (Unit) ⊕ (Unit)) (
lpN (L11_3 n l25 x18 x19) n 0) fun r5137 => match r5137 with
| .inl _ =>
some false
| .inr _ =>
some true)

end Go.Proofs.YtpclggcpobakhaaDoor
end

section
/-
  Chapter 18: fitting, by hand: the valid ones of three graphs.
-/
namespace Go.Proofs.YtpclggcpobakhaaDoor.W0
open Go Go.Ab Go.Ab.W Go.Proofs.YtpclggcpobakhaaDoor
set_option maxRecDepth 10000
set_option maxHeartbeats 4000000
attribute [local irreducible] Tm.at Trie.set Trie.get AMem.get AMem.set AMem.alloc AMem.ww AMem.kill

theorem fu27 : E18w.P.underlying 27 = some (.slice 25) := by kernel_rfl
theorem fs27 : SlT E18w.P 27 25 2 := SlT.of (by kernel_rfl)
theorem fz25 : zeroA E18w.P 25 = some (.agg #[.int .i64 0, .slice none 0 0]) := by kernel_rfl
theorem ft25 : TyI E18w.P 25 true 2 := ⟨by kernel_rfl, by kernel_rfl, by kernel_rfl⟩
theorem ft55 : TyI E18w.P 55 true 4 := ⟨by kernel_rfl, by kernel_rfl, by kernel_rfl⟩
theorem ft58 : TyI E18w.P 58 true 10 := ⟨by kernel_rfl, by kernel_rfl, by kernel_rfl⟩
theorem far59 : ArT E18w.P 59 25 3 2 := ⟨by kernel_rfl, by kernel_rfl, by kernel_rfl⟩

abbrev enE : Int × Int → List Value := eP (eI .i64) (eI .i64)
/-- The cells of a graph. -/
def cOf (N1 : Int) (a1 : Option Addr) (l1 : List (Int × Int)) (N2 : Int) (a2 : Option Addr) (l2 : List (Int × Int)) (N3 : Int) (a3 : Option Addr) (l3 : List (Int × Int)) (j : Nat) : List Value :=
 match j with
 | 0 => [.int .i64 N1, .slice a1 l1.length l1.length]
 | 1 => [.int .i64 N2, .slice a2 l2.length l2.length]
 | _ => [.int .i64 N3, .slice a3 l3.length l3.length]
theorem cOf_two (N1 : Int) (a1 : Option Addr) (l1 : List (Int × Int)) (N2 : Int) (a2 : Option Addr) (l2 : List (Int × Int)) (N3 : Int) (a3 : Option Addr) (l3 : List (Int × Int)) (j : Nat) : (cOf N1 a1 l1 N2 a2 l2 N3 a3 l3 j).length = 2 ∧ (cOf N1 a1 l1 N2 a2 l2 N3 a3 l3 j).all oneC = true := by
 unfold cOf
 split <;> exact ⟨rfl, rfl⟩

section
variable {m0 : AMem} {n : Nat} {N1 N2 N3 : Int} {a1 a2 a3 : Option Addr} {l1 l2 l3 : List (Int × Int)}
abbrev AGG (N1 : Int) (a1 : Option Addr) (l1 : List (Int × Int)) (N2 : Int) (a2 : Option Addr) (l2 : List (Int × Int)) (N3 : Int) (a3 : Option Addr) (l3 : List (Int × Int)) : Value := .agg #[.int .i64 N1, .slice a1 l1.length l1.length, .int .i64 N2, .slice a2 l2.length l2.length, .int .i64 N3, .slice a3 l3.length l3.length]
abbrev iFs (N1 : Int) (a1 : Option Addr) (l1 : List (Int × Int)) (N2 : Int) (a2 : Option Addr) (l2 : List (Int × Int)) (N3 : Int) (a3 : Option Addr) (l3 : List (Int × Int)) (o : Option Addr) (J : List Nat) (i : Int) : Fs := [(5, .slice o J.length J.length), (10, AGG N1 a1 l1 N2 a2 l2 N3 a3 l3), (11, .int .i64 i)]
abbrev iPs (N1 : Int) (a1 : Option Addr) (l1 : List (Int × Int)) (N2 : Int) (a2 : Option Addr) (l2 : List (Int × Int)) (N3 : Int) (a3 : Option Addr) (l3 : List (Int × Int)) (o : Option Addr) (J : List Nat) : List Pc := [.sl o 2 J.length (J.map (cOf N1 a1 l1 N2 a2 l2 N3 a3 l3)), .rd a1 l1.length 2 l1.length (l1.map enE), .rd a2 l2.length 2 l2.length (l2.map enE), .rd a3 l3.length 2 l3.length (l3.map enE)]
def aOf (a1 a2 a3 : Option Addr) (j : Nat) : Option Addr :=
 match j with
 | 0 => a1
 | 1 => a2
 | _ => a3
theorem ix59 : ∀ j : Nat, j < 3 → indexA E18w.P 59 (AGG N1 a1 l1 N2 a2 l2 N3 a3 l3) (.int .i64 (j : Int)) = some (.agg #[.int .i64 (gOf N1 l1 N2 l2 N3 l3 j).1, .slice (aOf a1 a2 a3 j) (gOf N1 l1 N2 l2 N3 l3 j).2.length (gOf N1 l1 N2 l2 N3 l3 j).2.length])
 | 0, _ => ix_c far59 (i := 0) (by decide) (part_a ft25 rfl)
 | 1, _ => ix_c far59 (i := 1) (by decide) (part_a ft25 rfl)
 | 2, _ => ix_c far59 (i := 2) (by decide) (part_a ft25 rfl)
theorem pk59 {o : Option Addr} {J : List Nat} : ∀ j : Nat, j < 3 → pk (iPs N1 a1 l1 N2 a2 l2 N3 a3 l3 o J) (j + 1) = some (.rd (aOf a1 a2 a3 j) (gOf N1 l1 N2 l2 N3 l3 j).2.length 2 (gOf N1 l1 N2 l2 N3 l3 j).2.length ((gOf N1 l1 N2 l2 N3 l3 j).2.map enE))
 | 0, _ => rfl
 | 1, _ => rfl
 | 2, _ => rfl
theorem cOf_eq (j : Nat) : cOf N1 a1 l1 N2 a2 l2 N3 a3 l3 j = [.int .i64 (gOf N1 l1 N2 l2 N3 l3 j).1, .slice (aOf a1 a2 a3 j) (gOf N1 l1 N2 l2 N3 l3 j).2.length (gOf N1 l1 N2 l2 N3 l3 j).2.length] := by
 match j with
 | 0 => rfl
 | 1 => rfl
 | _ + 2 => rfl
theorem enC : Enc (cOf N1 a1 l1 N2 a2 l2 N3 a3 l3) 2 := ⟨fun j => (cOf_two N1 a1 l1 N2 a2 l2 N3 a3 l3 j).1, fun j => (cOf_two N1 a1 l1 N2 a2 l2 N3 a3 l3 j).2⟩
def fitI (N1 : Int) (a1 : Option Addr) (l1 : List (Int × Int)) (N2 : Int) (a2 : Option Addr) (l2 : List (Int × Int)) (N3 : Int) (a3 : Option Addr) (l3 : List (Int × Int)) (s : List Nat × Int) (o : Option Addr) : En := ⟨.normal, iFs N1 a1 l1 N2 a2 l2 N3 a3 l3 o s.1 s.2, iPs N1 a1 l1 N2 a2 l2 N3 a3 l3 o s.1⟩
def fitX (N1 : Int) (a1 : Option Addr) (l1 : List (Int × Int)) (N2 : Int) (a2 : Option Addr) (l2 : List (Int × Int)) (N3 : Int) (a3 : Option Addr) (l3 : List (Int × Int)) (J : List Nat) (o : Option Addr) : En := ⟨.exit 0, [(5, .slice o J.length J.length)], iPs N1 a1 l1 N2 a2 l2 N3 a3 l3 o J⟩
end
theorem f41_ok (n : Nat) (x1 : Nat) (x2 : Nat) (x3 : Nat) (l4 : List (Nat × Nat)) (x8 : Nat) (x9 : Nat) (x10 : Int) (x11 : Int) (x12 : Int) (x13 : Nat) (x14 : Nat) (x15 : Int) (x16 : Int) (x17 : Int) (a5 : Option Addr) (c6 : Nat) (r : List (Int × List (Int × Int))) (hF : F41 n x1 x2 x3 l4 x8 x9 x10 x11 x12 x13 x14 x15 x16 x17 = some r) (m : AMem) (h7 : Rd m a5 c6 2 l4.length (l4.map (eP (eN .u8) (eN .u8)))) :
  CallA E18w 41 [.agg #[.int .u8 ((x1 : Nat) : Int), .int .u8 ((x2 : Nat) : Int), .int .u16 ((x3 : Nat) : Int), .slice a5 l4.length c6], .agg #[.int .u8 ((x8 : Nat) : Int), .int .u8 ((x9 : Nat) : Int), .int .i64 x10, .int .i64 x11, .int .i64 x12, .int .u8 ((x13 : Nat) : Int), .int .u8 ((x14 : Nat) : Int), .int .i64 x15, .int .i64 x16, .int .i64 x17]] m (fun v m' => ∃ a : Option Addr, v = .slice a r.length r.length ∧ Ext m m' ∧ Gs m' a r.length r.length r) := by
 unfold F41 at hF
 refine call_wk (m0 := m) (ps := [.rd a5 c6 2 l4.length (l4.map (eP (eN .u8) (eN .u8)))]) (N := 23) (rs := [.tmp 4]) rfl Tryd.func41 rfl rfl rfl ((Hp.start m).inn rfl h7) ?_
 refine Wk.seq ?_
 refine Wk.region ?_
 refine Wo.x (o_bx rfl) gn rfl fun b19 => ?_
 refine Wo.x (o_bx rfl) gn rfl fun b20 => ?_
 refine Wo.od (o_as rfl) rfl ?_
 refine Wo.nil ?_
 refine At.tn ?_
 refine Wk.seq ?_
 refine Wk.region ?_
 refine Wo.od (o_as rfl) rfl ?_
 refine Wo.nil ?_
 refine At.tn ?_
 refine Wk.seq ?_
 refine Wk.seq ?_
 refine Wk.region ?_
 refine Wo.od (o_ld (k := 1) ft55 rfl rfl rfl) rfl ?_
 refine Wo.od (o_ld (k := 0) ft58 rfl rfl rfl) rfl ?_
 obtain ⟨⟨N1, l1, N2, l2, N3, l3⟩, h21, hF⟩ := ob_some hF
 refine Wo.x (o_cl rfl rfl (fun m hm => f28_ok n x1 x2 x3 l4 x8 x9 x10 x11 x12 x13 x14 x15 x16 x17 a5 c6 _ h21 m (hm.rd (k := 2) rfl (.rd _ _ _ _ _))) fun _ => rfl) gn rfl ?_
 rintro ⟨a1, n1, a2, n2, a3, n3⟩
 refine Wo.len (k := 0) (xs := l1) rfl ?_
 rintro rfl
 refine Wo.len (k := 1) (xs := l2) rfl ?_
 rintro rfl
 refine Wo.len (k := 2) (xs := l3) rfl ?_
 rintro rfl
 refine Wo.od (o_mv rfl) rfl ?_
 refine Wo.nil ?_
 refine At.tn ?_
 refine Wk.block ?_
 obtain ⟨J, h22, hF⟩ := ob_some hF
 cases hF
 refine Wk.cut (G := fitX N1 a1 l1 N2 a2 l2 N3 a3 l3 J) ?_ ?_
 ·refine Wk.weak (fs' := iFs N1 a1 l1 N2 a2 l2 N3 a3 l3 none [] 0) (ps' := iPs N1 a1 l1 N2 a2 l2 N3 a3 l3 none []) (sc rfl (sc rfl (sc rfl sn))) (Turn.trans (Turn.freeze (k := 0) rfl) (Turn.trans (Turn.freeze (k := 1) rfl) (Turn.trans (Turn.freeze (k := 2) rfl) (Turn.trans (Turn.nil 2 rfl) (Turn.picks [0, 1, 2, 3] rfl rfl))))) ?_
  refine Wk.loop (σ := List Nat × Int) (ρ := List Nat) (γ := Option Addr) (δ := fun _ => Option Addr) _ (fitI N1 a1 l1 N2 a2 l2 N3 a3 l3) (fitX N1 a1 l1 N2 a2 l2 N3 a3 l3) ?_ (fun _ _ => rfl) (fun r d => by intro e; cases e) _ _ _ h22 none
  clear h22
  rintro ⟨J, i⟩ o r hF
  unfold L41_1 at hF
  show Wk _ _ _ _ _ _ _ (iFs N1 a1 l1 N2 a2 l2 N3 a3 l3 o J i) (iPs N1 a1 l1 N2 a2 l2 N3 a3 l3 o J)
  refine Wk.seq ?_
  refine Wk.region ?_
  refine Wo.od (o_bi rfl rfl (bin_lss _ _ _)) rfl ?_
  refine Wo.nil ?_
  refine At.tn ?_
  refine Wk.seq ?_
  rcases br_some hF with ⟨h23, hF⟩ | ⟨h23, hF⟩
  ·refine Wk.condT rfl h23 ?_
   refine Wk.skip ?_
   refine At.tn ?_
   obtain ⟨h24, hF⟩ := gd_some hF
   obtain ⟨hi0, hi3⟩ := inB_some h24
   obtain ⟨j, rfl⟩ := Int.eq_ofNat_of_zero_le hi0
   rw [Int.toNat_natCast] at hF hi3
   have hix := ix59 (N1 := N1) (N2 := N2) (N3 := N3) (a1 := a1) (a2 := a2) (a3 := a3) (l1 := l1) (l2 := l2) (l3 := l3) j hi3
   have hpk := pk59 (N1 := N1) (N2 := N2) (N3 := N3) (a1 := a1) (a2 := a2) (a3 := a3) (l1 := l1) (l2 := l2) (l3 := l3) (o := o) (J := J) j hi3
   have hce := cOf_eq (N1 := N1) (N2 := N2) (N3 := N3) (a1 := a1) (a2 := a2) (a3 := a3) (l1 := l1) (l2 := l2) (l3 := l3) j
   generalize gOf N1 l1 N2 l2 N3 l3 j = g at hF hix hpk hce
   generalize aOf a1 a2 a3 j = aj at hix hpk hce
   obtain ⟨N, l⟩ := g
   simp only at hF hix hpk hce
   refine Wk.seq ?_
   refine Wk.block ?_
   refine Wk.seq ?_
   refine Wk.region ?_
   refine Wo.od (o_ix rfl rfl hix) rfl ?_
   refine Wo.x (o_al fz25 rfl) gn rfl fun b => ?_
   refine Wo.o0 (o_st (k := 0) ft25 rfl rfl rfl rfl rfl) ?_
   refine Wo.nil ?_
   refine At.tn ?_
   refine Wk.seq ?_
   refine Wk.region ?_
   refine Wo.od (o_ld (k := 0) ft25 rfl rfl rfl) rfl ?_
   obtain ⟨e, h25, hF⟩ := ob_some hF
   refine Wo.x (o_cl rfl rfl (fun m hm => f23_ok n N l aj l.length _ h25 m (hm.rd (k := j + 2) hpk (.rd _ _ _ _ _))) fun _ => rfl) gn rfl ?_
   rintro ⟨⟩
   refine Wo.od (o_bi rfl rfl (bin_eql _ _ _)) rfl ?_
   refine Wo.nil ?_
   refine At.tn ?_
   rcases br_some hF with ⟨h26, hF⟩ | ⟨h26, hF⟩
   ·obtain ⟨h27, hF⟩ := gd_some hF
    refine Wk.condT rfl h26 ?_
    refine Wk.region ?_
    refine Wo.od (o_mv rfl) rfl ?_
    refine Wo.od (o_ld (k := 0) ft25 rfl rfl rfl) rfl ?_
    refine Wo.x (o_bs (es := ([j] : List Nat).map (cOf N1 a1 l1 N2 a2 l2 N3 a3 l3)) fs27 rfl (bs_c fs27 fz25 rfl (by simp only [List.map_cons, List.map_nil, List.flatten_cons, List.flatten_nil, hce]; rfl)) rfl (by simp only [List.map_cons, List.map_nil, hce]; rfl)) gn rfl fun b2 => ?_
    refine Wo.turn (Turn.close (k := 0) rfl) ?_
    refine Wo.x (o_apl (k := 2) (k2 := 0) (xs := J) (ys := [j]) enC fs27 ⟨_, fu27⟩ rfl rfl rfl (.sl _ _ _ _) (by simpa using h27)) gn rfl fun o2 => ?_
    refine Wo.od (o_as rfl) rfl ?_
    refine Wo.nil ?_
    refine At.bn ?_
    refine At.tn ?_
    refine Wk.region ?_
    refine Wo.od (o_bi rfl rfl (bin_add _ _ _)) rfl ?_
    refine Wo.od (o_mv rfl) rfl ?_
    refine Wo.nil ?_
    cases hF
    exact At.en o2 rfl (sc rfl (sc rfl (sc rfl sn))) (Turn.picks [2, 3, 4, 5] rfl rfl)
   ·refine Wk.condF rfl h26 ?_
    refine Wk.skip ?_
    refine At.bn ?_
    refine At.tn ?_
    refine Wk.region ?_
    refine Wo.od (o_bi rfl rfl (bin_add _ _ _)) rfl ?_
    refine Wo.od (o_mv rfl) rfl ?_
    refine Wo.nil ?_
    cases hF
    exact At.en o rfl (sc rfl (sc rfl (sc rfl sn))) (Turn.picks [1, 2, 3, 4] rfl rfl)
  ·refine Wk.condF rfl h23 ?_
   refine Wk.exit ?_
   refine At.te ?_
   cases hF
   exact At.en o rfl (sc rfl sn) Turn.refl
 ·intro o
  show At _ (.exit 0) _ [(5, .slice o J.length J.length)] (iPs N1 a1 l1 N2 a2 l2 N3 a3 l3 o J)
  refine At.be ?_
  refine At.tn ?_
  refine Wk.seq ?_
  refine Wk.region ?_
  refine Wo.od (o_mv rfl) rfl ?_
  refine Wo.od (o_as rfl) rfl ?_
  refine Wo.nil ?_
  refine At.tn ?_
  refine Wk.ret ?_
  refine At.ret (.tmp rfl .nil) fun m' hm => ⟨o, by rw [List.length_map]; rfl, hm.ext, ?_⟩
  rw [List.length_map]
  refine ⟨List.length_map _, Nat.le_refl _, ?_⟩
  have hrd : ∀ j, Rd m' (aOf a1 a2 a3 j) (gOf N1 l1 N2 l2 N3 l3 j).2.length 2 (gOf N1 l1 N2 l2 N3 l3 j).2.length ((gOf N1 l1 N2 l2 N3 l3 j).2.map enE) := fun j => by
   match j with
   | 0 => exact hm.get (k := 1) rfl
   | 1 => exact hm.get (k := 2) rfl
   | _ + 2 => exact hm.get (k := 3) rfl
  rcases hm.get (k := 0) rfl with ⟨h0, _, h2, _⟩ | ⟨b, tg, rfl, hown⟩
  ·exact .inl ⟨h2, h0⟩
  ·obtain ⟨hb, all, tg', h1, h2, h3⟩ := hown.lies
   refine .inr ⟨b, 0, rfl, hb, all, tg', h1, h2, fun i g hg => ?_⟩
   rw [List.getElem?_map] at hg
   obtain ⟨j, hj, rfl⟩ := Option.map_eq_some_iff.1 hg
   have := (h3 i (cOf N1 a1 l1 N2 a2 l2 N3 a3 l3 j) (by rw [List.getElem?_map, hj]; rfl)).1
   rw [cOf_eq] at this
   exact ⟨_, _, this, hrd j⟩
end Go.Proofs.YtpclggcpobakhaaDoor.W0
end

section
namespace Go.Proofs.YtpclggcpobakhaaDoor.W60
open Go Go.Ab Go.Ab.W Go.Proofs.YtpclggcpobakhaaDoor
set_option maxRecDepth 10000
set_option maxHeartbeats 4000000
attribute [local irreducible] Tm.at Trie.set Trie.get AMem.get AMem.set AMem.alloc AMem.ww AMem.kill
theorem f84_ok (n : Nat) (x1 : Nat) (x2 : Nat)  (r : Nat × Nat) (hF : F84 n x1 x2 = some r) (m : AMem)  :
    CallA E18w 84 [.int .u64 ((x1 : Nat) : Int), .int .u64 ((x2 : Nat) : Int)] m (fun v m' => ∃ x : Unit, v = .tuple #[.int .u64 ((r.1 : Nat) : Int), .int .u64 ((r.2 : Nat) : Int)] ∧ Hp m m' []) := by
  unfold F84 at hF
  refine call_wk (m0 := m) (ps := []) (N := 51) (rs := [.tmp 4, .tmp 5]) rfl Tryd.func84 rfl rfl rfl (Hp.start m) ?_
  refine Wk.seq ?_
  refine Wk.region ?_
  refine Wo.od (o_as rfl) rfl ?_
  refine Wo.od (o_as rfl) rfl ?_
  refine Wo.nil ?_
  refine At.tn ?_
  refine Wk.seq ?_
  refine Wk.region ?_
  refine Wo.od (o_mv rfl) rfl ?_
  refine Wo.od (o_bi rfl rfl (ub_and rfl _ _)) rfl ?_
  refine Wo.od (o_as rfl) rfl ?_
  refine Wo.nil ?_
  refine At.tn ?_
  refine Wk.seq ?_
  refine Wk.region ?_
  refine Wo.od (o_mv rfl) rfl ?_
  refine Wo.od (o_bi rfl rfl (ub_shr _ _ rfl)) rfl ?_
  refine Wo.od (o_as rfl) rfl ?_
  refine Wo.nil ?_
  refine At.tn ?_
  refine Wk.seq ?_
  refine Wk.region ?_
  refine Wo.od (o_mv rfl) rfl ?_
  refine Wo.od (o_bi rfl rfl (ub_and rfl _ _)) rfl ?_
  refine Wo.od (o_as rfl) rfl ?_
  refine Wo.nil ?_
  refine At.tn ?_
  refine Wk.seq ?_
  refine Wk.region ?_
  refine Wo.od (o_mv rfl) rfl ?_
  refine Wo.od (o_bi rfl rfl (ub_shr _ _ rfl)) rfl ?_
  refine Wo.od (o_as rfl) rfl ?_
  refine Wo.nil ?_
  refine At.tn ?_
  refine Wk.seq ?_
  refine Wk.region ?_
  refine Wo.od (o_mv rfl) rfl ?_
  refine Wo.od (o_mv rfl) rfl ?_
  obtain ⟨y3, h4, hF⟩ := ob_some hF
  refine Wo.od (o_bi rfl rfl ((ub_mul rfl _ _).trans (cN h4))) rfl ?_
  refine Wo.od (o_as rfl) rfl ?_
  refine Wo.nil ?_
  refine At.tn ?_
  refine Wk.seq ?_
  refine Wk.region ?_
  refine Wo.od (o_mv rfl) rfl ?_
  refine Wo.od (o_mv rfl) rfl ?_
  obtain ⟨y5, h6, hF⟩ := ob_some hF
  refine Wo.od (o_bi rfl rfl ((ub_mul rfl _ _).trans (cN h6))) rfl ?_
  refine Wo.od (o_mv rfl) rfl ?_
  refine Wo.od (o_bi rfl rfl (ub_shr _ _ rfl)) rfl ?_
  refine Wo.od (o_bi rfl rfl (ub_add rfl _ _)) rfl ?_
  refine Wo.od (o_as rfl) rfl ?_
  refine Wo.nil ?_
  refine At.tn ?_
  refine Wk.seq ?_
  refine Wk.region ?_
  refine Wo.od (o_mv rfl) rfl ?_
  obtain ⟨y7, h8, hF⟩ := ob_some hF
  refine Wo.od (o_bi rfl rfl ((ub_and rfl _ _).trans (cN h8))) rfl ?_
  refine Wo.od (o_as rfl) rfl ?_
  refine Wo.nil ?_
  refine At.tn ?_
  refine Wk.seq ?_
  refine Wk.region ?_
  refine Wo.od (o_mv rfl) rfl ?_
  refine Wo.od (o_bi rfl rfl (ub_shr _ _ rfl)) rfl ?_
  refine Wo.od (o_as rfl) rfl ?_
  refine Wo.nil ?_
  refine At.tn ?_
  refine Wk.seq ?_
  refine Wk.region ?_
  refine Wo.od (o_mv rfl) rfl ?_
  refine Wo.od (o_mv rfl) rfl ?_
  refine Wo.od (o_mv rfl) rfl ?_
  obtain ⟨y9, h10, hF⟩ := ob_some hF
  refine Wo.od (o_bi rfl rfl ((ub_mul rfl _ _).trans (cN h10))) rfl ?_
  refine Wo.od (o_bi rfl rfl (ub_add rfl _ _)) rfl ?_
  refine Wo.od (o_as rfl) rfl ?_
  refine Wo.nil ?_
  refine At.tn ?_
  refine Wk.seq ?_
  refine Wk.region ?_
  refine Wo.od (o_mv rfl) rfl ?_
  refine Wo.od (o_mv rfl) rfl ?_
  refine Wo.od (o_bi rfl rfl (ub_mul rfl _ _)) rfl ?_
  refine Wo.od (o_mv rfl) rfl ?_
  obtain ⟨y11, h12, hF⟩ := ob_some hF
  refine Wo.od (o_bi rfl rfl ((ub_add rfl _ _).trans (cN h12))) rfl ?_
  refine Wo.od (o_mv rfl) rfl ?_
  refine Wo.od (o_bi rfl rfl (ub_shr _ _ rfl)) rfl ?_
  refine Wo.od (o_bi rfl rfl (ub_add rfl _ _)) rfl ?_
  refine Wo.od (o_as rfl) rfl ?_
  refine Wo.nil ?_
  refine At.tn ?_
  refine Wk.seq ?_
  refine Wk.region ?_
  refine Wo.od (o_mv rfl) rfl ?_
  refine Wo.od (o_mv rfl) rfl ?_
  refine Wo.od (o_bi rfl rfl (ub_mul rfl _ _)) rfl ?_
  refine Wo.od (o_as rfl) rfl ?_
  refine Wo.nil ?_
  refine At.tn ?_
  refine Wk.ret ?_
  cases hF
  exact At.ret (.tmp rfl (.tmp rfl .nil)) fun m' hm => ⟨(), rfl, (Turn.picks [] rfl rfl) m' hm⟩

theorem f77_ok (n : Nat) (x1 : Nat) (x2 : Nat)  (r : Nat × Nat) (hF : F77 n x1 x2 = some r) (m : AMem)  :
    CallA E18w 77 [.int .u64 ((x1 : Nat) : Int), .int .u64 ((x2 : Nat) : Int)] m (fun v m' => ∃ x : Unit, v = .tuple #[.int .u64 ((r.1 : Nat) : Int), .int .u64 ((r.2 : Nat) : Int)] ∧ Hp m m' []) := by
  unfold F77 at hF
  refine call_wk (m0 := m) (ps := []) (N := 30) (rs := [.tmp 4, .tmp 5]) rfl Tryd.func77 rfl rfl rfl (Hp.start m) ?_
  refine Wk.seq ?_
  refine Wk.region ?_
  refine Wo.od (o_as rfl) rfl ?_
  refine Wo.od (o_as rfl) rfl ?_
  refine Wo.nil ?_
  refine At.tn ?_
  refine Wk.seq ?_
  refine Wk.condF rfl rfl ?_
  refine Wk.skip ?_
  refine At.tn ?_
  refine Wk.seq ?_
  refine Wk.region ?_
  refine Wo.od (o_mv rfl) rfl ?_
  refine Wo.od (o_mv rfl) rfl ?_
  obtain ⟨⟨r4, r5⟩, h3, hF⟩ := ob_some hF
  refine Wo.x (o_cl rfl rfl (fun m hm => f84_ok n x1 x2  _ h3 m ) fun _ => rfl) gn rfl ?_
  rintro ⟨⟩
  refine Wo.od (o_mv rfl) rfl ?_
  refine Wo.od (o_ex rfl rfl) rfl ?_
  refine Wo.od (o_ex rfl rfl) rfl ?_
  refine Wo.od (o_as rfl) rfl ?_
  refine Wo.od (o_as rfl) rfl ?_
  refine Wo.nil ?_
  refine At.tn ?_
  refine Wk.seq ?_
  refine Wk.region ?_
  refine Wo.od (o_mv rfl) rfl ?_
  refine Wo.od (o_mv rfl) rfl ?_
  refine Wo.od (o_as rfl) rfl ?_
  refine Wo.od (o_as rfl) rfl ?_
  refine Wo.nil ?_
  refine At.tn ?_
  refine Wk.ret ?_
  cases hF
  exact At.ret (.tmp rfl (.tmp rfl .nil)) fun m' hm => ⟨(), rfl, (Turn.picks [] rfl rfl) m' hm⟩

end Go.Proofs.YtpclggcpobakhaaDoor.W60
end

section
/-
  Chapter 18, plain laws over what the functions compute: loops; Check and Same.
-/
namespace Go.Proofs.YtpclggcpobakhaaDoor
open Go Go.Ab Go.Ab.W

section
variable {α β σ ρ : Type}
theorem br_t (a b : Option β) : br true a b = a := rfl
theorem br_f (a b : Option β) : br false a b = b := rfl
theorem gd_t (a : Option β) : gd true a = a := rfl
theorem ob_s (x : α) (f : α → Option β) : ob (some x) f = f x := rfl
theorem br_dt {p : Prop} [Decidable p] (h : p) (a b : Option β) : br (decide p) a b = a := by rw [decide_eq_true h]; rfl
theorem br_df {p : Prop} [Decidable p] (h : ¬ p) (a b : Option β) : br (decide p) a b = b := by rw [decide_eq_false h]; rfl
theorem br_ite (c : Bool) (a b : Option β) : br c a b = if c then a else b := by cases c <;> rfl
theorem gd_dt {p : Prop} [Decidable p] (h : p) (a : Option β) : gd (decide p) a = a := by rw [decide_eq_true h]; rfl
theorem inB_nat {i n : Nat} (h : i < n) : inB (i : Int) n = true := decide_eq_true ⟨Int.natCast_nonneg i, by simpa using h⟩
theorem wrap_in {x : Int} (h1 : -9223372036854775808 ≤ x) (h2 : x < 9223372036854775808) : IntKind.wrap .i64 x = x := wrap_i64 x h1 (by omega)
theorem wrap_succ {i : Nat} (h : i < 4611686018427387904) : IntKind.wrap .i64 ((i : Int) + 1) = ((i + 1 : Nat) : Int) := by rw [wrap_in (by omega) (by omega)]; rfl
theorem lp_next {body : σ → Option (σ ⊕ ρ)} {n : Nat} {s s' : σ} (h : body s = some (.inl s')) : lpN body (n + 1) s = lpN body n s' := by simp only [lpN, h]
theorem lp_end {body : σ → Option (σ ⊕ ρ)} {n : Nat} {s : σ} {r : ρ} (h : body s = some (.inr r)) : lpN body (n + 1) s = some r := by simp only [lpN, h]
end

theorem gd_df {p : Prop} [Decidable p] {β : Type} (h : p) (a : Option β) : gd (decide p) a = a := by rw [decide_eq_true h]; rfl

/-! ### Equal lists -/
theorem drop_len {α : Type} {l l' : List α} {i : Nat} (h : l.length = l'.length) (hi : l.length ≤ i) : l.drop i = l'.drop i := by
 rw [List.drop_of_length_le hi, List.drop_of_length_le (by omega)]
theorem L44_eq (n0 : Nat) {l2 l7 : List (Int × Int)} (h2 : l2.length = l7.length) (hl : l2.length < 4611686018427387904) : ∀ k i n, i + k = l2.length → k < n → lpN (L44_1 n0 l2 l7) n ((i : Nat) : Int) = some (if l2.drop i = l7.drop i then .inr () else .inl ()) := by
 intro k
 induction k with
 | zero =>
  intro i n hi hk
  obtain ⟨n, rfl⟩ : ∃ n', n = n' + 1 := ⟨n - 1, by omega⟩
  rw [if_pos (drop_len h2 (by omega))]
  exact lp_end (by unfold L44_1; rw [br_df (by omega)])
 | succ k ih =>
  intro i n hi hk
  obtain ⟨n, rfl⟩ : ∃ n', n = n' + 1 := ⟨n - 1, by omega⟩
  have a1 : i < l2.length := by omega
  have a2 : i < l7.length := by omega
  have e1 : l2[((i : Nat) : Int).toNat]? = some l2[i] := by simp [a1]
  have e2 : l7[((i : Nat) : Int).toNat]? = some l7[i] := by simp [a2]
  have c1 : decide (((i : Nat) : Int) < (l2.length : Int)) = true := decide_eq_true (by omega)
  have hb : i < 4611686018427387904 := by omega
  rw [List.drop_eq_getElem_cons a1, List.drop_eq_getElem_cons a2]
  generalize l2[i] = p at e1 ⊢
  generalize l7[i] = q at e2 ⊢
  obtain ⟨p1, p2⟩ := p
  obtain ⟨q1, q2⟩ := q
  by_cases hpq : p1 = q1 ∧ p2 = q2
  ·obtain ⟨rfl, rfl⟩ := hpq
   rw [lp_next (s' := ((i + 1 : Nat) : Int)) (by simp only [L44_1, c1, br_t, inB_nat a1, gd_t, e1, ob_s, inB_nat a2, e2, decide_true, Bool.and_self, Bool.not_true, br_f, wrap_succ hb])]
   rw [ih (i + 1) n (by omega) (by omega)]
   simp
  ·have hd : (!(decide (p1 = q1) && decide (p2 = q2))) = true := by
    by_cases h : p1 = q1 <;> simp_all
   rw [lp_end (r := .inl ()) (by simp only [L44_1, c1, br_t, inB_nat a1, gd_t, e1, ob_s, inB_nat a2, e2, hd])]
   rw [if_neg (by simp; intro h3 h4; exact absurd ⟨h3, h4⟩ hpq)]
theorem F44_eq (n : Nat) (x1 x6 : Int) (l2 l7 : List (Int × Int)) (hl : l2.length < 4611686018427387904) (hn : l2.length < n) : F44 n x1 l2 x6 l7 = some (decide (x1 = x6) && decide (l2 = l7)) := by
 unfold F44
 by_cases h1 : x1 = x6
 ·rw [show (!decide (x1 = x6)) = false by simp [h1], br_f, ob_s]
  by_cases h2 : l2.length = l7.length
  ·have h2' : ((l2.length : Int) = (l7.length : Int)) := by omega
   rw [show (!decide ((l2.length : Int) = (l7.length : Int))) = false by simp [h2'], br_f]
   have := L44_eq n h2 hl l2.length 0 n (by omega) hn
   simp only [List.drop_zero, Int.natCast_zero] at this
   rw [show lpN (L44_1 n l2 l7) n 0 = _ from this, ob_s]
   by_cases h3 : l2 = l7
   ·simp [h1, h3]
   ·simp [h1, h3]
  ·have h2' : ¬ ((l2.length : Int) = (l7.length : Int)) := by omega
   have h3 : ¬ l2 = l7 := fun e => h2 (by rw [e])
   rw [show (!decide ((l2.length : Int) = (l7.length : Int))) = true by simp [h2'], br_t]
   simp [h3]
 ·rw [show (!decide (x1 = x6)) = true by simp [h1], br_t, ob_s, br_t]
  simp [h1]
theorem L34_eq (n0 : Nat) {l2 l7 : List (Int × Int)} (h2 : l2.length = l7.length) (hl : l2.length < 4611686018427387904) : ∀ k i n, i + k = l2.length → k < n → lpN (L34_1 n0 l2 l7) n ((i : Nat) : Int) = some (if l2.drop i = l7.drop i then .inr () else .inl ()) := by
 intro k
 induction k with
 | zero =>
  intro i n hi hk
  obtain ⟨n, rfl⟩ : ∃ n', n = n' + 1 := ⟨n - 1, by omega⟩
  rw [if_pos (drop_len h2 (by omega))]
  exact lp_end (by unfold L34_1; rw [br_df (by omega)])
 | succ k ih =>
  intro i n hi hk
  obtain ⟨n, rfl⟩ : ∃ n', n = n' + 1 := ⟨n - 1, by omega⟩
  have a1 : i < l2.length := by omega
  have a2 : i < l7.length := by omega
  have e1 : l2[((i : Nat) : Int).toNat]? = some l2[i] := by simp [a1]
  have e2 : l7[((i : Nat) : Int).toNat]? = some l7[i] := by simp [a2]
  have c1 : decide (((i : Nat) : Int) < (l2.length : Int)) = true := decide_eq_true (by omega)
  have hb : i < 4611686018427387904 := by omega
  rw [List.drop_eq_getElem_cons a1, List.drop_eq_getElem_cons a2]
  generalize l2[i] = p at e1 ⊢
  generalize l7[i] = q at e2 ⊢
  obtain ⟨p1, p2⟩ := p
  obtain ⟨q1, q2⟩ := q
  by_cases hpq : p1 = q1 ∧ p2 = q2
  ·obtain ⟨rfl, rfl⟩ := hpq
   rw [lp_next (s' := ((i + 1 : Nat) : Int)) (by simp only [L34_1, c1, br_t, inB_nat a1, gd_t, e1, ob_s, inB_nat a2, e2, decide_true, Bool.and_self, Bool.not_true, br_f, wrap_succ hb])]
   rw [ih (i + 1) n (by omega) (by omega)]
   simp
  ·have hd : (!(decide (p1 = q1) && decide (p2 = q2))) = true := by
    by_cases h : p1 = q1 <;> simp_all
   rw [lp_end (r := .inl ()) (by simp only [L34_1, c1, br_t, inB_nat a1, gd_t, e1, ob_s, inB_nat a2, e2, hd])]
   rw [if_neg (by simp; intro h3 h4; exact absurd ⟨h3, h4⟩ hpq)]
theorem F34_eq (n : Nat) (l2 l7 : List (Int × Int)) (hl : l2.length < 4611686018427387904) (hn : l2.length < n) : F34 n l2 l7 = some (decide (l2 = l7)) := by
 unfold F34
 by_cases h2 : l2.length = l7.length
 ·have h2' : ((l2.length : Int) = (l7.length : Int)) := by omega
  rw [show (!decide ((l2.length : Int) = (l7.length : Int))) = false by simp [h2'], br_f]
  have := L34_eq n h2 hl l2.length 0 n (by omega) hn
  simp only [List.drop_zero] at this
  rw [show lpN (L34_1 n l2 l7) n 0 = _ from this, ob_s]
  by_cases h3 : l2 = l7
  ·simp [h3]
  ·simp [h3]
 ·have h2' : ¬ ((l2.length : Int) = (l7.length : Int)) := by omega
  have h3 : ¬ l2 = l7 := fun e => h2 (by rw [e])
  rw [show (!decide ((l2.length : Int) = (l7.length : Int))) = true by simp [h2'], br_t]
  simp [h3]
theorem F27_eq (n : Nat) (x1 x6 : Int) (l2 l7 : List (Int × Int)) (hl : l2.length < 4611686018427387904) (hn : l2.length < n) : F27 n x1 l2 x6 l7 = some (decide (x1 = x6) && decide (l2 = l7)) := by
 unfold F27
 by_cases h : x1 = x6
 ·rw [br_dt h, F34_eq n l2 l7 hl hn, ob_s]; simp [h]
 ·rw [br_df h]; simp [h]

/-! ### Check -/
/-- The edges are in order behind one, and within n nodes. -/
def okEp (N : Int) : Int × Int → List (Int × Int) → Bool
 | _, [] => true
 | p, e :: es => decide (0 ≤ e.1 ∧ e.1 < e.2 ∧ e.2 < N) && decide (p.1 < e.1 ∨ p.1 = e.1 ∧ p.2 < e.2) && okEp N e es
def okG (N : Int) (es : List (Int × Int)) : Bool := decide (1 ≤ N ∧ N ≤ 64 ∧ es.length ≤ 200) && okEp N (-1, -1) es
def ckG (N : Int) (es : List (Int × Int)) : Int := if okG N es then 0 else 180
theorem F94_eq (n : Nat) (x : Int) : F94 n x = some false := by unfold F94; simp
theorem F81_eq (n : Nat) (x y : Int) : F81 n x y = some (if x < y then -1 else if y < x then 1 else 0) := by
 unfold F81
 simp only [F94_eq, ob_s, br_f]
 rw [br_ite, br_ite]
 by_cases h : x < y
 ·simp [h]
 ·by_cases h' : y < x <;> simp [h, h']
/-- Two pairs, compared. -/
theorem F64_eq (n : Nat) (a b c d : Int) (hn : 2 < n) : F64 n [a, b] [c, d] = some (if a < c then -1 else if c < a then 1 else if b < d then -1 else if d < b then 1 else 0) := by
 obtain ⟨n, rfl⟩ : ∃ n', n = n' + 3 := ⟨n - 3, by omega⟩
 have L0 : L64_1 (n + 3) [a, b] [c, d] 0 = if a < c then some (.inr (.inl (-1))) else if c < a then some (.inr (.inl 1)) else some (.inl 1) := by
  unfold L64_1
  simp only [List.length_cons, List.length_nil]
  rw [br_dt (by decide), show inB 0 (0 + 1 + 1) = true by decide, gd_t]
  simp only [Int.toNat_zero, List.getElem?_cons_zero, ob_s]
  rw [br_df (by decide), gd_t]
  simp only [F81_eq, ob_s]
  by_cases h : a < c
  ·simp [h, br_t]
  ·by_cases h' : c < a
   ·simp [h, h', br_t]
   ·simp only [h, h', if_false, decide_true, Bool.not_true, br_f]
    rw [wrap_in (by decide) (by decide)]; rfl
 have L1 : L64_1 (n + 3) [a, b] [c, d] 1 = if b < d then some (.inr (.inl (-1))) else if d < b then some (.inr (.inl 1)) else some (.inl 2) := by
  unfold L64_1
  simp only [List.length_cons, List.length_nil]
  rw [br_dt (by decide), show inB 1 (0 + 1 + 1) = true by decide, gd_t]
  simp only [show (1 : Int).toNat = 1 from rfl, List.getElem?_cons_succ, List.getElem?_cons_zero, ob_s]
  rw [br_df (by decide), gd_t]
  simp only [F81_eq, ob_s]
  by_cases h : b < d
  ·simp [h, br_t]
  ·by_cases h' : d < b
   ·simp [h, h', br_t]
   ·simp only [h, h', if_false, decide_true, Bool.not_true, br_f]
    rw [wrap_in (by decide) (by decide)]; rfl
 have L2 : L64_1 (n + 3) [a, b] [c, d] 2 = some (.inr (.inr ())) := by
  unfold L64_1
  simp only [List.length_cons, List.length_nil]
  rw [br_df (by decide)]
 unfold F64
 by_cases h1 : a < c
 ·rw [if_pos h1] at L0 ⊢
  rw [lp_end L0]; rfl
 ·rw [if_neg h1] at L0 ⊢
  by_cases h2 : c < a
  ·rw [if_pos h2] at L0 ⊢
   rw [lp_end L0]; rfl
  ·rw [if_neg h2] at L0 ⊢
   rw [lp_next L0]
   by_cases h3 : b < d
   ·rw [if_pos h3] at L1 ⊢
    rw [lp_end L1]; rfl
   ·rw [if_neg h3] at L1 ⊢
    by_cases h4 : d < b
    ·rw [if_pos h4] at L1 ⊢
     rw [lp_end L1]; rfl
    ·rw [if_neg h4] at L1 ⊢
     rw [lp_next L1, lp_end L2, ob_s]
     simp only [List.length_cons, List.length_nil]
     rfl
def stepOk (N : Int) (p e : Int × Int) : Bool := decide (0 ≤ e.1 ∧ e.1 < e.2 ∧ e.2 < N) && decide (p.1 < e.1 ∨ p.1 = e.1 ∧ p.2 < e.2)
theorem okE_cons (N : Int) (p e : Int × Int) (es : List (Int × Int)) : okEp N p (e :: es) = (stepOk N p e && okEp N e es) := rfl
theorem L23_step (n : Nat) (l2 : List (Int × Int)) (N : Int) (p : Int × Int) (i : Nat) (e : Int × Int) (hn : 2 < n) (hi : l2[i]? = some e) (hb : i < 4611686018427387904) :
  L23_1 n l2 N (p.1, p.2, (i : Int)) = if stepOk N p e then some (.inl (e.1, e.2, ((i + 1 : Nat) : Int))) else some (.inr (.inl ())) := by
 obtain ⟨p1, p2⟩ := p
 obtain ⟨a, b⟩ := e
 have a1 : i < l2.length := (List.getElem?_eq_some_iff.1 hi).1
 have e1 : l2[((i : Nat) : Int).toNat]? = some (a, b) := by simpa using hi
 have c1 : decide (((i : Nat) : Int) < (l2.length : Int)) = true := decide_eq_true (by omega)
 simp only [L23_1, c1, br_t, inB_nat a1, gd_t, e1, ob_s, F64_eq n _ _ _ _ hn, wrap_succ hb]
 by_cases h1 : a < 0
 ·have : stepOk N (p1, p2) (a, b) = false := by simp [stepOk]; omega
  rw [this, br_dt h1, ob_s, br_t]; rfl
 ·rw [br_df h1]
  by_cases h2 : b ≤ a
  ·have : stepOk N (p1, p2) (a, b) = false := by simp [stepOk]; omega
   rw [this, br_dt h2, ob_s, br_t]; rfl
  ·rw [br_df h2]
   by_cases h3 : N ≤ b
   ·have : stepOk N (p1, p2) (a, b) = false := by simp [stepOk]; omega
    rw [this, br_dt h3, ob_s, br_t]; rfl
   ·rw [br_df h3, ob_s]
    by_cases h4 : p1 < a ∨ p1 = a ∧ p2 < b
    ·have : stepOk N (p1, p2) (a, b) = true := by simp [stepOk]; omega
     have h5 : ¬ (0 ≤ (if p1 < a then (-1 : Int) else if a < p1 then 1 else if p2 < b then -1 else if b < p2 then 1 else 0)) := by
      rcases h4 with h4 | ⟨h4, h5⟩
      ·rw [if_pos h4]; decide
      ·rw [if_neg (by omega), if_neg (by omega), if_pos h5]; decide
     rw [this, br_df h5]; rfl
    ·have : stepOk N (p1, p2) (a, b) = false := by simp [stepOk]; omega
     have h5 : 0 ≤ (if p1 < a then (-1 : Int) else if a < p1 then 1 else if p2 < b then -1 else if b < p2 then 1 else 0) := by
      rw [if_neg (by omega)]
      by_cases h6 : a < p1
      ·rw [if_pos h6]; decide
      ·rw [if_neg h6, if_neg (by omega)]; split <;> decide
     rw [this, br_dt h5]; rfl
theorem L23_eq (n0 : Nat) (l2 : List (Int × Int)) (N : Int) (hn : 2 < n0) (hl : l2.length < 4611686018427387904) : ∀ k i p n, i + k = l2.length → k < n → lpN (L23_1 n0 l2 N) n (p.1, p.2, (i : Int)) = some (if okEp N p (l2.drop i) then .inr () else .inl ()) := by
 intro k
 induction k with
 | zero =>
  intro i p n hi hk
  obtain ⟨n, rfl⟩ : ∃ n', n = n' + 1 := ⟨n - 1, by omega⟩
  rw [List.drop_of_length_le (by omega)]
  exact lp_end (by simp only [L23_1]; rw [br_df (by omega)]; rfl)
 | succ k ih =>
  intro i p n hi hk
  obtain ⟨n, rfl⟩ : ∃ n', n = n' + 1 := ⟨n - 1, by omega⟩
  have a1 : i < l2.length := by omega
  have hs := L23_step n0 l2 N p i l2[i] hn (by simp [a1]) (by omega)
  rw [List.drop_eq_getElem_cons a1, okE_cons]
  by_cases h : stepOk N p l2[i] = true
  ·rw [if_pos h] at hs
   rw [lp_next hs, ih (i + 1) l2[i] n (by omega) (by omega), h, Bool.true_and]
  ·rw [if_neg h] at hs
   rw [lp_end hs]
   simp only [Bool.not_eq_true] at h
   rw [h]; rfl
theorem head_eq (N : Int) (len : Nat) : (br (decide (N < 1)) (some true) (br (decide (64 < N)) (some true) (some (decide (200 < (len : Int)))))) = some (!decide (1 ≤ N ∧ N ≤ 64 ∧ len ≤ 200)) := by
 rw [br_ite, br_ite]
 by_cases h1 : N < 1
 ·have : ¬ (1 ≤ N ∧ N ≤ 64 ∧ len ≤ 200) := by omega
  simp [h1, this]
 ·by_cases h2 : 64 < N
  ·have : ¬ (1 ≤ N ∧ N ≤ 64 ∧ len ≤ 200) := by omega
   simp [h1, h2, this]
  ·by_cases h3 : 200 < (len : Int)
   ·have : ¬ (1 ≤ N ∧ N ≤ 64 ∧ len ≤ 200) := by omega
    simp only [h1, h2, h3, this, decide_true, decide_false, Bool.false_eq_true, if_false, Bool.not_false]
   ·have : (1 ≤ N ∧ N ≤ 64 ∧ len ≤ 200) := by omega
    simp only [h1, h2, h3, this, decide_true, decide_false, Bool.false_eq_true, if_false, Bool.not_true, and_self]
theorem F23_eq (n : Nat) (N : Int) (es : List (Int × Int)) (hn : 2 < n) (hl : es.length < 4611686018427387904) (hk : es.length < n) : F23 n N es = some (ckG N es) := by
 unfold F23
 rw [head_eq, ob_s]
 unfold ckG okG
 by_cases h : 1 ≤ N ∧ N ≤ 64 ∧ es.length ≤ 200
 ·rw [decide_eq_true h, Bool.not_true, br_f, Bool.true_and]
  have := L23_eq n es N hn hl es.length 0 (-1, -1) n (by omega) hk
  rw [List.drop_zero] at this
  rw [show lpN (L23_1 n es N) n (-1, -1, 0) = _ from this, ob_s]
  by_cases h2 : okEp N (-1, -1) es = true
  ·rw [if_pos h2, if_pos h2]
  ·rw [if_neg h2, if_neg h2]
 ·rw [decide_eq_false h, Bool.not_false, br_t, Bool.false_and]; rfl
/-- What stands ahead of place i. -/
def prevOf (l : List (Int × Int)) (i : Nat) (p : Int × Int) : Prop := (i = 0 ∧ p = (-1, -1)) ∨ (0 < i ∧ l[i - 1]? = some p)
theorem L43_step (n : Nat) (l2 : List (Int × Int)) (N : Int) (p : Int × Int) (i : Nat) (e : Int × Int) (hp : prevOf l2 i p) (hi : l2[i]? = some e) (hb : i < 4611686018427387904) :
  L43_1 n l2 N (i : Int) = if stepOk N p e then some (.inl ((i + 1 : Nat) : Int)) else some (.inr (.inl ())) := by
 obtain ⟨p1, p2⟩ := p
 obtain ⟨a, b⟩ := e
 have a1 : i < l2.length := (List.getElem?_eq_some_iff.1 hi).1
 have e1 : l2[((i : Nat) : Int).toNat]? = some (a, b) := by simpa using hi
 have c1 : decide (((i : Nat) : Int) < (l2.length : Int)) = true := decide_eq_true (by omega)
 simp only [L43_1, c1, br_t, inB_nat a1, gd_t, e1, ob_s, wrap_succ hb]
 by_cases h1 : a < 0
 ·have : stepOk N (p1, p2) (a, b) = false := by simp [stepOk]; omega
  rw [this, br_dt h1, ob_s, br_t]; rfl
 ·rw [br_df h1]
  by_cases h2 : b ≤ a
  ·have : stepOk N (p1, p2) (a, b) = false := by simp [stepOk]; omega
   rw [this, br_dt h2, ob_s, br_t]; rfl
  ·rw [br_df h2, ob_s]
   by_cases h3 : N ≤ b
   ·have : stepOk N (p1, p2) (a, b) = false := by simp [stepOk]; omega
    rw [this, br_dt h3]; rfl
   ·rw [br_df h3]
    rcases hp with ⟨rfl, h4⟩ | ⟨h0, h4⟩
    ·cases h4
     have : stepOk N (-1, -1) (a, b) = true := by simp [stepOk]; omega
     rw [this, br_df (by omega), ob_s, br_f]; rfl
    ·have w1 : IntKind.wrap .i64 ((i : Int) - 1) = ((i - 1 : Nat) : Int) := by rw [wrap_in (by omega) (by omega)]; omega
     have e2 : l2[((i - 1 : Nat) : Int).toNat]? = some (p1, p2) := by simpa using h4
     rw [br_dt (by omega), w1, inB_nat (by omega : i - 1 < l2.length), gd_t, e2, ob_s]
     simp only [gd_t]
     by_cases h5 : a < p1
     ·have : stepOk N (p1, p2) (a, b) = false := by simp [stepOk]; omega
      rw [this, br_dt h5, ob_s, br_t]; rfl
     ·rw [br_df h5]
      by_cases h6 : p1 = a
      ·rw [br_dt h6, ob_s]
       by_cases h7 : b ≤ p2
       ·have : stepOk N (p1, p2) (a, b) = false := by simp [stepOk]; omega
        rw [this, br_dt h7]; rfl
       ·have : stepOk N (p1, p2) (a, b) = true := by simp [stepOk]; omega
        rw [this, br_df h7]; rfl
      ·have : stepOk N (p1, p2) (a, b) = true := by simp [stepOk]; omega
       rw [this, br_df h6, ob_s, br_f]; rfl
theorem L43_eq (n0 : Nat) (l2 : List (Int × Int)) (N : Int) (hl : l2.length < 4611686018427387904) : ∀ k i p n, prevOf l2 i p → i + k = l2.length → k < n → lpN (L43_1 n0 l2 N) n (i : Int) = some (if okEp N p (l2.drop i) then .inr () else .inl ()) := by
 intro k
 induction k with
 | zero =>
  intro i p n hp hi hk
  obtain ⟨n, rfl⟩ : ∃ n', n = n' + 1 := ⟨n - 1, by omega⟩
  rw [List.drop_of_length_le (by omega)]
  exact lp_end (by simp only [L43_1]; rw [br_df (by omega)]; rfl)
 | succ k ih =>
  intro i p n hp hi hk
  obtain ⟨n, rfl⟩ : ∃ n', n = n' + 1 := ⟨n - 1, by omega⟩
  have a1 : i < l2.length := by omega
  have hs := L43_step n0 l2 N p i l2[i] hp (by simp [a1]) (by omega)
  rw [List.drop_eq_getElem_cons a1, okE_cons]
  by_cases h : stepOk N p l2[i] = true
  ·rw [if_pos h] at hs
   rw [lp_next hs, ih (i + 1) l2[i] n (.inr ⟨by omega, by simp [a1]⟩) (by omega) (by omega), h, Bool.true_and]
  ·rw [if_neg h] at hs
   rw [lp_end hs]
   simp only [Bool.not_eq_true] at h
   rw [h]; rfl
theorem F43_eq (n : Nat) (N : Int) (es : List (Int × Int)) (hl : es.length < 4611686018427387904) (hk : es.length < n) : F43 n N es = some (ckG N es) := by
 unfold F43
 rw [head_eq, ob_s]
 unfold ckG okG
 by_cases h : 1 ≤ N ∧ N ≤ 64 ∧ es.length ≤ 200
 ·rw [decide_eq_true h, Bool.not_true, br_f, Bool.true_and]
  have := L43_eq n es N hl es.length 0 (-1, -1) n (.inl ⟨rfl, rfl⟩) (by omega) hk
  rw [List.drop_zero] at this
  rw [show lpN (L43_1 n es N) n 0 = _ from this, ob_s]
  by_cases h2 : okEp N (-1, -1) es = true
  ·rw [if_pos h2, if_pos h2]
  ·rw [if_neg h2, if_neg h2]
 ·rw [decide_eq_false h, Bool.not_false, br_t, Bool.false_and]; rfl
end Go.Proofs.YtpclggcpobakhaaDoor
end

section
/-
  Words of 64 bits ars sets of numbers: what the operations of the walks' plain functions do to their bits.
-/
namespace Go.Ab.W
open Go Go.Ab

abbrev W64 : Nat := 2 ^ 64
theorem uM64 : uM .u64 = 2 ^ 64 := rfl
theorem uw_id {a : Nat} (h : a < 2 ^ 64) : uw .u64 a = a := Nat.mod_eq_of_lt h
theorem tb_lt {a : Nat} (h : a < 2 ^ 64) {i : Nat} (hi : a.testBit i = true) : i < 64 := by
 rcases Nat.lt_or_ge i 64 with h1 | h1
 ·exact h1
 ·have : a < 2 ^ i := Nat.lt_of_lt_of_le h (Nat.pow_le_pow_right (by decide) h1)
  rw [Nat.testBit_lt_two_pow this] at hi; cases hi
theorem lt_of_tb {a : Nat} (h : ∀ i, a.testBit i = true → i < 64) : a < 2 ^ 64 := Nat.lt_pow_two_of_testBit a fun i hi => by
 cases e : a.testBit i with
 | false => rfl
 | true => have := h i e; omega
theorem word_and {a b : Nat} (ha : a < 2 ^ 64) (hb : b < 2 ^ 64) : uw .u64 (uw .u64 a &&& uw .u64 b) = a &&& b := by
 rw [uw_id ha, uw_id hb, uw_id (Nat.lt_of_le_of_lt Nat.and_le_left ha)]
theorem word_or {a b : Nat} (ha : a < 2 ^ 64) (hb : b < 2 ^ 64) : uw .u64 (uw .u64 a ||| uw .u64 b) = a ||| b := by
 rw [uw_id ha, uw_id hb, uw_id (Nat.or_lt_two_pow ha hb)]
theorem and_lt' {a b : Nat} (ha : a < 2 ^ 64) : a &&& b < 2 ^ 64 := Nat.lt_of_le_of_lt Nat.and_le_left ha
theorem or_lt' {a b : Nat} (ha : a < 2 ^ 64) (hb : b < 2 ^ 64) : a ||| b < 2 ^ 64 := Nat.or_lt_two_pow ha hb
theorem word_andn {a b : Nat} (ha : a < 2 ^ 64) (hb : b < 2 ^ 64) : uandn .u64 a b = a ^^^ (a &&& b) := by
 unfold uandn
 rw [uw_id ha, uw_id hb, uw_id (Nat.xor_lt_two_pow ha (and_lt' ha))]
theorem tb_andn {a b : Nat} (ha : a < 2 ^ 64) (hb : b < 2 ^ 64) (i : Nat) : (uandn .u64 a b).testBit i = (a.testBit i && !b.testBit i) := by
 rw [word_andn ha hb, Nat.testBit_xor, Nat.testBit_and]
 cases a.testBit i <;> cases b.testBit i <;> rfl
theorem andn_lt {a b : Nat} (ha : a < 2 ^ 64) (hb : b < 2 ^ 64) : uandn .u64 a b < 2 ^ 64 := by
 rw [word_andn ha hb]; exact Nat.xor_lt_two_pow ha (and_lt' ha)
/-- One bit. -/
theorem word_one {k : Nat} (h : k < 64) : ushl .u64 1 k = 2 ^ k := by
 unfold ushl
 rw [Nat.min_eq_left (Nat.le_of_lt (show k < IntKind.bits .u64 from h)), Nat.one_mul]
 exact uw_id (Nat.pow_lt_pow_right (by decide) h)
theorem one_lt {k : Nat} (h : k < 64) : 2 ^ k < 2 ^ 64 := Nat.pow_lt_pow_right (by decide) h
theorem tb_one (k i : Nat) : (2 ^ k).testBit i = decide (i = k) := by
 rw [Nat.testBit_two_pow]
 by_cases h : k = i
 ·simp [h]
 ·simp [h, Ne.symm h]
theorem ui_nn {k : Int} (h0 : 0 ≤ k) (h1 : k < 64) : ui .u64 k = k.toNat := by
 unfold ui
 rw [Int.emod_eq_of_lt h0 (by rw [uM64]; omega)]
theorem word_shr {a k : Nat} (h : k ≤ 64) : ushr .u64 a k = a >>> k := by
 unfold ushr
 rw [Nat.min_eq_left (show k ≤ IntKind.bits .u64 from h), Nat.shiftRight_eq_div_pow]
theorem bit_at {a k : Nat} (ha : a < 2 ^ 64) (h : k ≤ 64) : decide (uw .u64 (uw .u64 (ushr .u64 a k) &&& uw .u64 1) = 1) = a.testBit k := by
 have hs : a >>> k < 2 ^ 64 := Nat.lt_of_le_of_lt (by rw [Nat.shiftRight_eq_div_pow]; exact Nat.div_le_self _ _) ha
 rw [word_shr h, word_and hs (by decide), Nat.testBit]
 rw [Nat.and_comm]
 have h2 : 1 &&& a >>> k = (a >>> k) % 2 := by rw [Nat.and_comm, Nat.and_one_is_mod]
 rw [h2]
 rcases Nat.mod_two_eq_zero_or_one (a >>> k) with h3 | h3 <;> rw [h3] <;> rfl
theorem word_ext {a b : Nat} (h : ∀ i, a.testBit i = true ↔ b.testBit i = true) : a = b := Nat.eq_of_testBit_eq fun i => by
 have := h i
 cases ha : a.testBit i <;> cases hb : b.testBit i <;> simp_all
theorem word_zero {a : Nat} : a = 0 ↔ ∀ i, a.testBit i = false := ⟨fun h => by subst h; exact fun i => Nat.zero_testBit i, fun h => Nat.eq_of_testBit_eq fun i => by rw [h, Nat.zero_testBit]⟩

/-! ### The lowest bit -/
theorem tz_bit {x : Nat} (h0 : 0 < x) (h1 : x < 2 ^ 64) : x.testBit (tz x) = true ∧ ∀ i, i < tz x → x.testBit i = false := by
 obtain ⟨h2, _, q, hq⟩ := tz_low h0 h1
 have key : ∀ i, x.testBit i = (decide (tz x ≤ i) && (2 * q + 1).testBit (i - tz x)) := fun i => by
  conv => lhs; rw [hq]
  rw [Nat.testBit_two_pow_mul]
 refine ⟨?_, fun i hi => ?_⟩
 ·rw [key, Nat.sub_self]
  simp [Nat.testBit_zero]
 ·rw [key, decide_eq_false (by omega)]; rfl
theorem low_word {x : Nat} (h0 : 0 < x) (h1 : x < 2 ^ 64) : uw .u64 (uw .u64 x &&& uw .u64 (uneg .u64 x)) = 2 ^ tz x := by
 obtain ⟨h2, h3, _⟩ := tz_low h0 h1
 have hn : uneg .u64 x = 2 ^ 64 - x := by
  unfold uneg
  rw [uw_id h1, uM64, uw_id (by omega)]
 rw [hn, word_and h1 (by omega), h3]
/-- The lowest bit is struck. -/
def clr (x : Nat) : Nat := uw .u64 (uw .u64 x &&& uw .u64 (usub .u64 x 1))
theorem clr_eq {x : Nat} (h0 : 0 < x) (h1 : x < 2 ^ 64) : clr x = x &&& (x - 1) := by
 have : usub .u64 x 1 = x - 1 := by
  unfold usub
  rw [uM64, uw_id (show (1 : Nat) < 2 ^ 64 by decide)]
  show (x + (2 ^ 64 - 1)) % 2 ^ 64 = x - 1
  omega
 unfold clr
 rw [this, word_and h1 (by omega)]
theorem pred_bit (t q i : Nat) : (2 ^ t * (2 * q + 1) - 1).testBit i = if i < t then true else if i = t then false else (2 ^ t * (2 * q + 1)).testBit i := by
 have e : 2 ^ t * (2 * q + 1) - 1 = 2 ^ t * (2 * q) + (2 ^ t - 1) := by
  rw [Nat.mul_add, Nat.mul_one]
  have := Nat.two_pow_pos t
  omega
 rw [e, Nat.testBit_two_pow_mul_add _ (by have := Nat.two_pow_pos t; omega)]
 by_cases h : i < t
 ·rw [if_pos h, if_pos h, Nat.testBit_two_pow_sub_one]; simp [h]
 ·rw [if_neg h, if_neg h]
  by_cases h' : i = t
  ·subst h'; simp [Nat.testBit_zero]
  ·rw [if_neg h', Nat.testBit_two_pow_mul]
   obtain ⟨d, hd⟩ : ∃ d, i - t = d + 1 := ⟨i - t - 1, by omega⟩
   rw [hd, Nat.testBit_succ, Nat.testBit_succ]
   have : (2 * q + 1) / 2 = 2 * q / 2 := by omega
   rw [this]
   simp; omega
theorem clr_bit {x : Nat} (h0 : 0 < x) (h1 : x < 2 ^ 64) (i : Nat) : (clr x).testBit i = (x.testBit i && !decide (i = tz x)) := by
 rw [clr_eq h0 h1, Nat.testBit_and]
 obtain ⟨_, _, q, hq⟩ := tz_low h0 h1
 obtain ⟨hb, hl⟩ := tz_bit h0 h1
 have := pred_bit (tz x) q i
 rw [← hq] at this
 rw [this]
 by_cases h : i < tz x
 ·rw [hl i h]; rfl
 ·rw [if_neg h]
  by_cases h' : i = tz x
  ·simp [h']
  ·simp [h']
theorem clr_lt {x : Nat} (h0 : 0 < x) (h1 : x < 2 ^ 64) : clr x < 2 ^ 64 := by rw [clr_eq h0 h1]; exact and_lt' h1

/-! ### The bits of a word, in order -/
def bitsOf (x : Nat) : List Nat := (List.range 64).filter fun i => x.testBit i
theorem mem_bitsOf {x i : Nat} (h : x < 2 ^ 64) : i ∈ bitsOf x ↔ x.testBit i = true := by
 unfold bitsOf
 rw [List.mem_filter, List.mem_range]
 exact ⟨fun h => h.2, fun hi => ⟨tb_lt h hi, hi⟩⟩
theorem bitsOf_len (x : Nat) : (bitsOf x).length ≤ 64 := by
 unfold bitsOf
 exact Nat.le_trans (List.length_filter_le _ _) (by simp)
theorem bitsOf_zero : bitsOf 0 = [] := by
 unfold bitsOf
 simp
theorem filter_range_cons (p q : Nat → Bool) (t : Nat) : ∀ (n s : Nat), s ≤ t → t < s + n → p t = true → (∀ i, s ≤ i → i < t → p i = false) → (∀ i, t < i → p i = q i) → (∀ i, s ≤ i → i ≤ t → q i = false) →
  (List.range' s n).filter p = t :: (List.range' s n).filter q
 | 0, s, h1, h2, _, _, _, _ => by omega
 | n + 1, s, h1, h2, hp, hl, hg, hq => by
  rw [List.range'_succ]
  by_cases h : s = t
  ·subst h
   rw [List.filter_cons_of_pos hp, List.filter_cons_of_neg (by rw [hq s (Nat.le_refl _) (Nat.le_refl _)]; decide)]
   congr 1
   apply List.filter_congr
   intro i hi
   rw [List.mem_range'_1] at hi
   exact hg i (by omega)
  ·rw [List.filter_cons_of_neg (by rw [hl s (Nat.le_refl _) (by omega)]; decide), List.filter_cons_of_neg (by rw [hq s (Nat.le_refl _) (by omega)]; decide)]
   exact filter_range_cons p q t n (s + 1) (by omega) (by omega) hp (fun i a b => hl i (by omega) b) hg (fun i a b => hq i (by omega) b)
theorem bitsOf_cons {x : Nat} (h0 : 0 < x) (h1 : x < 2 ^ 64) : bitsOf x = tz x :: bitsOf (clr x) := by
 obtain ⟨hb, hl⟩ := tz_bit h0 h1
 unfold bitsOf
 rw [List.range_eq_range']
 refine filter_range_cons _ _ (tz x) 64 0 (Nat.zero_le _) (by have := (tz_low h0 h1).1; omega) hb (fun i _ h => hl i h) (fun i h => ?_) (fun i _ h => ?_)
 ·show x.testBit i = (clr x).testBit i
  rw [clr_bit h0 h1]
  have : i ≠ tz x := by omega
  simp [this]
 ·show (clr x).testBit i = false
  rw [clr_bit h0 h1]
  by_cases e : i = tz x
  ·simp [e]
  ·rw [hl i (by omega)]; rfl

/-! ### Loops -/
section
variable {σ ρ τ : Type}
/-- A loop over the bits of a word. -/
theorem lp_bits {body : τ → Option (τ ⊕ ρ)} (mk : Nat → σ → τ) (step : σ → Nat → σ) (fin : σ → ρ) (I : σ → Prop) (x0 : Nat)
  (hs : ∀ r s, 0 < r → r < 2 ^ 64 → x0.testBit (tz r) = true → I s → body (mk r s) = some (.inl (mk (clr r) (step s (tz r)))) ∧ I (step s (tz r))) (he : ∀ s, I s → body (mk 0 s) = some (.inr (fin s))) :
  ∀ (n : Nat) (r : Nat) (s : σ), r < 2 ^ 64 → (∀ i, r.testBit i = true → x0.testBit i = true) → I s → (bitsOf r).length < n → lpN body n (mk r s) = some (fin ((bitsOf r).foldl step s)) := by
 intro n
 induction n with
 | zero => intro r s _ _ _ h; exact absurd h (Nat.not_lt_zero _)
 | succ n ih =>
  intro r s hr hx hI hn
  rcases Nat.eq_zero_or_pos r with h0 | h0
  ·subst h0
   rw [bitsOf_zero]
   simp only [lpN, he s hI, List.foldl_nil]
  ·obtain ⟨h1, h2⟩ := hs r s h0 hr (hx _ (tz_bit h0 hr).1) hI
   rw [bitsOf_cons h0 hr, List.foldl_cons]
   simp only [lpN, h1]
   refine ih _ _ (clr_lt h0 hr) (fun i hi => hx i ?_) h2 (by rw [bitsOf_cons h0 hr] at hn; simpa using hn)
   rw [clr_bit h0 hr] at hi
   simp only [Bool.and_eq_true] at hi
   exact hi.1
/-- A loop over a list by numbers. -/
theorem lp_list {α : Type} {body : τ → Option (τ ⊕ ρ)} (l : List α) (mk : σ → Int → τ) (step : σ → α → σ) (fin : σ → ρ) (I : Nat → σ → Prop)
  (hs : ∀ s i x, l[i]? = some x → I i s → body (mk s (i : Int)) = some (.inl (mk (step s x) ((i + 1 : Nat) : Int))) ∧ I (i + 1) (step s x)) (he : ∀ s, I l.length s → body (mk s (l.length : Int)) = some (.inr (fin s))) :
  ∀ (k i n : Nat) (s : σ), i + k = l.length → I i s → k < n → lpN body n (mk s (i : Int)) = some (fin ((l.drop i).foldl step s)) ∧ I l.length ((l.drop i).foldl step s) := by
 intro k
 induction k with
 | zero =>
  intro i n s hi hI hn
  obtain ⟨n, rfl⟩ : ∃ n', n = n' + 1 := ⟨n - 1, by omega⟩
  have : i = l.length := by omega
  subst this
  rw [List.drop_length]
  exact ⟨by simp only [lpN, he s hI, List.foldl_nil], hI⟩
 | succ k ih =>
  intro i n s hi hI hn
  obtain ⟨n, rfl⟩ : ∃ n', n = n' + 1 := ⟨n - 1, by omega⟩
  have hlt : i < l.length := by omega
  obtain ⟨h1, h2⟩ := hs s i l[i] (List.getElem?_eq_getElem hlt) hI
  rw [List.drop_eq_getElem_cons hlt, List.foldl_cons]
  simp only [lpN, h1]
  exact ih (i + 1) n _ (by omega) h2 (by omega)
theorem lp_list0 {α : Type} {body : τ → Option (τ ⊕ ρ)} (l : List α) (mk : σ → Int → τ) (step : σ → α → σ) (fin : σ → ρ) (I : Nat → σ → Prop)
  (hs : ∀ s i x, l[i]? = some x → I i s → body (mk s (i : Int)) = some (.inl (mk (step s x) ((i + 1 : Nat) : Int))) ∧ I (i + 1) (step s x)) (he : ∀ s, I l.length s → body (mk s (l.length : Int)) = some (.inr (fin s)))
  {n : Nat} {s : σ} (hI : I 0 s) (hn : l.length < n) : lpN body n (mk s 0) = some (fin (l.foldl step s)) ∧ I l.length (l.foldl step s) := by
 have := lp_list l mk step fin I hs he l.length 0 n s (by omega) hI hn
 simpa using this
/-- A loop by numbers below a bound. -/
theorem lp_upto {body : τ → Option (τ ⊕ ρ)} (N : Nat) (mk : σ → Int → τ) (step : σ → Nat → σ) (fin : σ → ρ) (I : Nat → σ → Prop)
  (hs : ∀ s i, i < N → I i s → body (mk s (i : Int)) = some (.inl (mk (step s i) ((i + 1 : Nat) : Int))) ∧ I (i + 1) (step s i)) (he : ∀ s, I N s → body (mk s (N : Int)) = some (.inr (fin s)))
  {n : Nat} {s : σ} (hI : I 0 s) (hn : N < n) : lpN body n (mk s 0) = some (fin ((List.range N).foldl step s)) ∧ I N ((List.range N).foldl step s) := by
 have := lp_list0 (List.range N) mk step fin I (fun s i x hx hI => by
  have hlt := (List.getElem?_eq_some_iff.1 hx).1
  have hx' : x = i := by rw [List.getElem?_eq_getElem hlt] at hx; simp at hx; exact hx.symm
  subst hx'
  exact hs s x (by simpa using hlt) hI) (by simpa using he) hI (by simpa using hn)
 simpa using this
end
theorem foldl_or (f : Nat → Nat) : ∀ (l : List Nat) (s i : Nat), (l.foldl (fun s k => s ||| f k) s).testBit i = true ↔ s.testBit i = true ∨ ∃ k ∈ l, (f k).testBit i = true
 | [], s, i => by simp
 | x :: l, s, i => by
  rw [List.foldl_cons, foldl_or f l, Nat.testBit_or, Bool.or_eq_true]
  simp only [List.mem_cons]
  constructor
  ·rintro ((h | h) | ⟨k, hk, h⟩)
   ·exact .inl h
   ·exact .inr ⟨x, .inl rfl, h⟩
   ·exact .inr ⟨k, .inr hk, h⟩
  ·rintro (h | ⟨k, rfl | hk, h⟩)
   ·exact .inl (.inl h)
   ·exact .inl (.inr h)
   ·exact .inr ⟨k, hk, h⟩
theorem foldl_or_lt (f : Nat → Nat) : ∀ (l : List Nat) (s : Nat), s < 2 ^ 64 → (∀ k ∈ l, f k < 2 ^ 64) → l.foldl (fun s k => s ||| f k) s < 2 ^ 64
 | [], s, h, _ => h
 | x :: l, s, h, hf => foldl_or_lt f l _ (or_lt' h (hf x (by simp))) fun k hk => hf k (by simp [hk])
end Go.Ab.W
end

section
/-
  Chapter 18: slices.Repeat of one number, by hand.
-/
namespace Go.Proofs.YtpclggcpobakhaaDoor.W60
open Go Go.Ab Go.Ab.W Go.Proofs.YtpclggcpobakhaaDoor
set_option maxRecDepth 10000
set_option maxHeartbeats 4000000
attribute [local irreducible] Tm.at Trie.set Trie.get AMem.get AMem.set AMem.alloc AMem.ww AMem.kill

theorem F77_one (n k : Nat) (hk : k < 2 ^ 32) : F77 n 1 k = some (0, k) := by
 have h1 : uw .u64 (uw .u64 1 &&& uw .u64 4294967295) = 1 := by decide
 have h2 : uw .u64 (uw .u64 k &&& uw .u64 4294967295) = k := by
  rw [word_and (by omega) (by decide), show (4294967295 : Nat) = 2 ^ 32 - 1 by decide, Nat.and_two_pow_sub_one_eq_mod, Nat.mod_eq_of_lt hk]
 have h3 : ushr .u64 1 32 = 0 := by decide
 have h4 : ushr .u64 k 32 = 0 := by rw [word_shr (by omega), Nat.shiftRight_eq_div_pow, Nat.div_eq_of_lt hk]
 have z : uw .u64 0 = 0 := rfl
 unfold F77 F84
 rw [h1, h2, h3, h4]
 simp only [ob_s, h1, h2, h3, h4, Nat.one_mul, Nat.zero_mul, Nat.mul_zero, Nat.add_zero, Nat.zero_add, uw_id (show k < 2 ^ 64 by omega), z, Nat.and_zero, Nat.zero_and, show ushr .u64 0 32 = 0 by decide]
theorem Turn.asObj {m0 : AMem} {ps : List Pc} {k b w l : Nat} {es : List (List Value)} {tg : Tag} (hp : pk ps k = some (.arr b w l es tg)) : Turn m0 ps (pset ps k (.obj b (.cells es.flatten tg))) := fun m h =>
 h.put hp rfl rfl rfl (Nat.le_refl _) h.ext ⟨(h.get hp).1, (h.get hp).2.1, (h.get hp).2.2.1⟩ fun _ _ _ => rfl
theorem Turn.asSl {m0 : AMem} {ps : List Pc} {k b w l : Nat} {es : List (List Value)} {tg : Tag} (hp : pk ps k = some (.obj b (.cells es.flatten tg))) (hl : es.length = l) (hw : ∀ e ∈ es, e.length = w) (ht : tg = .own ∨ tg = .more w) (h0 : 0 < w) : Turn m0 ps (pset ps k (.sl (some ⟨b, 0, none⟩) w l es)) := fun m h =>
 h.put hp rfl rfl rfl (Nat.le_refl _) h.ext (.inr ⟨b, tg, rfl, (h.get hp).1, (h.get hp).2.1, (h.get hp).2.2, hl, hw, ht, h0⟩) fun _ _ _ => rfl
theorem ru39 : E18w.P.underlying 39 = some (.slice 3) := by kernel_rfl
theorem rs39 : SlT E18w.P 39 3 1 := SlT.of (by kernel_rfl)
theorem ru3 : E18w.P.underlying 3 = some (.int .i64) := by kernel_rfl
theorem ru102 : E18w.P.underlying 102 = some (.int .u64) := by kernel_rfl
theorem rz3 : zeroA E18w.P 3 = some (.int .i64 0) := by kernel_rfl
/-- The cells: j of one number, the rest zero. -/
def repC (x : Int) (N j : Nat) : List Value := List.replicate j (.int .i64 x) ++ List.replicate (N - j) (.int .i64 0)
theorem repC_len {x : Int} {N j : Nat} (h : j ≤ N) : (repC x N j).length = N := by simp [repC]; omega
theorem splice_rep (x : Int) (N : Nat) : ∀ (j c : Nat), j + c ≤ N → spliceL (repC x N j) j (List.replicate c (.int .i64 x)) = repC x N (j + c) := by
 intro j c h
 apply List.ext_getElem?
 intro i
 rw [getElem?_spliceL, repC_len (by omega), List.length_replicate]
 unfold repC
 by_cases h1 : i < j
 ·rw [if_neg (by omega), List.getElem?_append_left (by simpa using h1), List.getElem?_append_left (by simp; omega), List.getElem?_replicate, List.getElem?_replicate, if_pos h1, if_pos (by omega)]
 ·by_cases h2 : i < j + c
  ·rw [if_pos ⟨by omega, h2, by omega⟩, List.getElem?_append_left (by simpa using h2), List.getElem?_replicate, List.getElem?_replicate, if_pos (by omega), if_pos h2]
  ·rw [if_neg (by omega), List.getElem?_append_right (by simp; omega), List.getElem?_append_right (by simp; omega), List.getElem?_replicate, List.getElem?_replicate, List.length_replicate, List.length_replicate]
   by_cases h3 : i < N
   ·rw [if_pos (by omega), if_pos (by omega)]
   ·rw [if_neg (by omega), if_neg (by omega)]
theorem flat_rep (x : Int) : ∀ N : Nat, ((List.replicate N x).map (eI .i64)).flatten = List.replicate N (.int .i64 x)
 | 0 => rfl
 | N + 1 => by rw [List.replicate_succ, List.map_cons, List.flatten_cons, flat_rep x N, List.replicate_succ]; rfl
theorem bnd_hi {N j : Nat} (h : j ≤ N) : boundsA N N (some (.int .i64 (j : Int))) none none = some (j, N, N) := by
 exact bounds_of h (Nat.le_refl _) (.inr ⟨_, rfl⟩) (.inl ⟨rfl, rfl⟩)
theorem bnd_lo {N j : Nat} (h : j ≤ N) : boundsA N N none (some (.int .i64 (j : Int))) none = some (0, j, N) := by
 exact bounds_of (Nat.zero_le _) h (.inl ⟨rfl, rfl⟩) (.inr ⟨_, rfl⟩)
def repI (x : Int) (N : Nat) (b : Nat) (j : Nat) (_ : Unit) : En := ⟨.normal, [(7, .slice (some ⟨b, 0, none⟩) N N), (8, .int .i64 (j : Int))], [.obj b (.cells (repC x N j) .own)]⟩
def repX (x : Int) (N : Nat) (b : Nat) (_ : Unit) (_ : Unit) : En := ⟨.exit 0, [(7, .slice (some ⟨b, 0, none⟩) N N)], [.obj b (.cells (repC x N N) .own)]⟩
def repB (N : Nat) (j : Nat) : Option (Nat ⊕ Unit) := if j < N then (if j = 0 then none else some (.inl (j + min j (N - j)))) else if j = N then some (.inr ()) else none
theorem repB_lp (N : Nat) : ∀ (k j : Nat), 0 < j → j ≤ N → N - j < k → lpN (repB N) k j = some () := by
 intro k
 induction k with
 | zero => intro j _ _ h; omega
 | succ k ih =>
  intro j h0 h1 h2
  by_cases h : j < N
  ·rw [lp_next (s' := j + min j (N - j)) (by unfold repB; rw [if_pos h, if_neg (by omega)])]
   exact ih _ (by omega) (by omega) (by omega)
  ·exact lp_end (by unfold repB; rw [if_neg h, if_pos (by omega)])
theorem f60r_ok (n : Nat) (l : List Int) (k : Int) (a : Option Addr) (c : Nat) (r : List Int) (hF : F60r n l k = some r) (m : AMem) (h : Rd m a c 1 l.length (l.map (eI .i64))) : CallA E18w 60 [.slice a l.length c, .int .i64 k] m (fun v m' => ∃ x : Option Addr × Nat, v = .slice x.1 x.2 x.2 ∧ Hp m m' [.sl x.1 1 x.2 (r.map (eI .i64))]) := by
 unfold F60r at hF
 split at hF
 ·rename_i x
  obtain ⟨h0, hF⟩ := gd_some hF
  obtain ⟨hlim, hF⟩ := gd_some hF
  cases hF
  have hlim' : k.toNat ≤ 1073741824 := Nat.le_of_ble_eq_true hlim
  have h1 := of_decide_eq_true h0
  obtain ⟨N, rfl⟩ := Int.eq_ofNat_of_zero_le (show 0 ≤ k by omega)
  have hz : 0 < N := by omega
  rw [Int.toNat_natCast] at hlim hlim' ⊢
  refine call_wk (m0 := m) (ps := [.rd a c 1 1 ([x].map (eI .i64))]) (N := 48) (rs := [.tmp 4]) rfl Tryd.func60 rfl rfl rfl ((Hp.start m).inn rfl h) ?_
  refine Wk.seq ?_
  refine Wk.region ?_
  refine Wo.od (o_as rfl) rfl ?_
  refine Wo.nil ?_
  refine At.tn ?_
  refine Wk.seq ?_
  refine Wk.seq ?_
  refine Wk.region ?_
  refine Wo.od (o_mv rfl) rfl ?_
  refine Wo.od (o_bi rfl rfl (bin_lss _ _ _)) rfl ?_
  refine Wo.nil ?_
  refine At.tn ?_
  refine Wk.condF rfl (decide_eq_false (by omega)) ?_
  refine Wk.skip ?_
  refine At.tn ?_
  refine Wk.seq ?_
  refine Wk.region ?_
  refine Wo.od (o_mv rfl) rfl ?_
  refine Wo.od (o_ln (k := 0) ru39 rfl rfl (.inl rfl)) rfl ?_
  refine Wo.od (o_cv rfl (cv_u (by rw [ru3]; rfl) ru102 rfl)) rfl ?_
  refine Wo.od (o_mv rfl) rfl ?_
  refine Wo.od (o_cv rfl (cv_u (by rw [ru3]; rfl) ru102 rfl)) rfl ?_
  have e1 : ui .u64 (([x].length : Nat) : Int) = 1 := rfl
  have e2 : ui .u64 (N : Int) = N := by rw [ui_nat]; exact uw_id (by omega)
  rw [e1, e2]
  refine Wo.x (o_cl rfl rfl (fun m hm => f77_ok n 1 N _ (F77_one n N (by omega)) m) fun _ => rfl) gn rfl ?_
  rintro ⟨⟩
  refine Wo.od (o_mv rfl) rfl ?_
  refine Wo.od (o_ex rfl rfl) rfl ?_
  refine Wo.od (o_ex rfl rfl) rfl ?_
  refine Wo.od (o_as rfl) rfl ?_
  refine Wo.od (o_as rfl) rfl ?_
  refine Wo.nil ?_
  refine At.tn ?_
  refine Wk.seq ?_
  refine Wk.seq ?_
  refine Wk.region ?_
  refine Wo.od (o_mv rfl) rfl ?_
  refine Wo.od (o_bi rfl rfl (ub_gtr _ _)) rfl ?_
  refine Wo.od (o_mv rfl) rfl ?_
  refine Wo.og (o_mv rfl) (gg rfl rfl rfl) rfl ?_
  refine Wo.og (o_bi rfl rfl (ub_gtr _ _)) (gg rfl rfl rfl) rfl ?_
  refine Wo.od (o_pF rfl rfl) rfl ?_
  refine Wo.nil ?_
  refine At.tn ?_
  have hsm : decide (9223372036854775807 < N) = false := decide_eq_false (by omega)
  refine Wk.condF rfl hsm ?_
  refine Wk.skip ?_
  refine At.tn ?_
  refine Wk.seq ?_
  refine Wk.region ?_
  refine Wo.od (o_mv rfl) rfl ?_
  refine Wo.od (o_cv rfl (cv_i (by rw [ru102]; rfl) ru3)) rfl ?_
  rw [show IntKind.wrap .i64 ((N : Nat) : Int) = (N : Int) from wrap_in (by omega) (by omega)]
  refine Wo.x (o_msl (f := eI .i64) (z0 := 0) rs39 rfl (decide_eq_true (by omega)) (by rw [Int.toNat_natCast]; exact hlim) rz3 rfl rfl) gn rfl fun b => ?_
  rw [Int.toNat_natCast]
  refine Wo.od (o_as rfl) rfl ?_
  refine Wo.nil ?_
  refine At.tn ?_
  have hc0 : ((List.replicate N (0 : Int)).map (eI .i64)).flatten = repC x N 0 := by
   unfold repC
   rw [List.replicate_zero, List.nil_append, Nat.sub_zero, flat_rep]
  refine Wk.turn (Turn.asObj (k := 0) rfl) ?_
  rw [hc0]
  refine Wk.seq ?_
  refine Wk.region ?_
  refine Wo.od (o_mv rfl) rfl ?_
  refine Wo.od (o_mv rfl) rfl ?_
  refine Wo.od (o_cpo (k := 0) (l := 1) (dl := N) (o := 0) (new := List.replicate 1 (.int .i64 x)) rs39 rfl rfl rfl (by omega) (fun m' hm => ?_) rfl (by rw [repC_len (by omega)]; simp; omega) (by simp)) rfl ?_
  ·have e : min 1 N = 1 := by omega
   rw [e]
   exact (hm.get (k := 1) rfl).cells
  rw [splice_rep x N 0 1 (by omega), show min 1 N = 1 by omega]
  refine Wo.od (o_as rfl) rfl ?_
  refine Wo.nil ?_
  refine At.tn ?_
  refine Wk.seq ?_
  refine Wk.block ?_
  refine Wk.cut (G := repX x N b ()) ?_ ?_
  ·refine Wk.weak (fs' := [(7, .slice (some ⟨b, 0, none⟩) N N), (8, .int .i64 ((1 : Nat) : Int))]) (ps' := [.obj b (.cells (repC x N 1) .own)]) (sc rfl (sc rfl sn)) (Turn.picks [0] rfl rfl) ?_
   refine Wk.loop (σ := Nat) (ρ := Unit) (γ := Unit) (δ := fun _ => Unit) (repB N) (repI x N b) (repX x N b) ?_ (fun _ _ => rfl) (fun r d => by intro e; cases e) (N + 1) 1 () (repB_lp N (N + 1) 1 (by omega) (by omega) (by omega)) ()
   clear h
   rintro j ⟨⟩ r hF
   unfold repB at hF
   show Wk _ _ _ _ _ _ _ [(7, .slice (some ⟨b, 0, none⟩) N N), (8, .int .i64 (j : Int))] [.obj b (.cells (repC x N j) .own)]
   refine Wk.seq ?_
   refine Wk.seq ?_
   refine Wk.region ?_
   refine Wo.od (o_mv rfl) rfl ?_
   refine Wo.od (o_mv rfl) rfl ?_
   refine Wo.od (o_ln (k := 0) ru39 rfl rfl (.inl rfl)) rfl ?_
   refine Wo.od (o_bi rfl rfl (bin_lss _ _ _)) rfl ?_
   refine Wo.nil ?_
   refine At.tn ?_
   by_cases hj : j < N
   ·rw [if_pos hj] at hF
    by_cases hj0 : j = 0
    ·rw [if_pos hj0] at hF; cases hF
    ·rw [if_neg hj0] at hF
     cases hF
     refine Wk.condT rfl (decide_eq_true (by omega)) ?_
     refine Wk.skip ?_
     refine At.tn ?_
     refine Wk.block ?_
     refine Wk.draw (by kernel_rfl) ?_
     refine Wo.od (o_mv rfl) rfl ?_
     refine Wo.od (o_mv rfl) rfl ?_
     refine Wo.od (o_mv rfl) rfl ?_
     refine Wo.od (o_slo (k := 0) (o' := 0 + j * 1) rs39 rfl rfl rfl rfl rfl rfl (bnd_hi (by omega)) (by rw [if_neg (by omega)])) rfl ?_
     refine Wo.od (o_mv rfl) rfl ?_
     refine Wo.od (o_mv rfl) rfl ?_
     refine Wo.od (o_slo (k := 0) (o' := 0 + 0 * 1) rs39 rfl rfl rfl rfl rfl rfl (bnd_lo (by omega)) (by rw [if_neg (by omega)])) rfl ?_
     have hcp : ((repC x N j).drop (0 + 0 * 1)).take (min (j - 0) (N - j) * 1) = List.replicate (min j (N - j)) (.int .i64 x) := by
      unfold repC
      rw [Nat.zero_mul, Nat.zero_add, List.drop_zero, Nat.mul_one, Nat.sub_zero, List.take_append_of_le_length (by simp; omega), List.take_replicate]
      congr 1
      omega
     refine Wo.od (o_cpo (k := 0) (l := j - 0) (dl := N - j) (o := 0 + j * 1) (new := List.replicate (min j (N - j)) (.int .i64 x)) rs39 rfl rfl rfl (by omega) (fun m' hm => ?_) (by unfold oneCellAll; rw [List.all_replicate]; simp [oneC]) (by rw [repC_len (by omega)]; simp; omega) (by simp; omega)) rfl ?_
     ·rw [← hcp]
      exact src_obj (k := 0) hm rfl (by omega) (by rw [repC_len (by omega)]; omega)
     rw [show 0 + j * 1 = j by omega, splice_rep x N j _ (by omega)]
     refine Wo.od (o_bi rfl rfl (bin_add _ _ _)) rfl ?_
     rw [show IntKind.wrap .i64 ((j : Int) + ((min (j - 0) (N - j) : Nat) : Int)) = ((j + min j (N - j) : Nat) : Int) from by rw [wrap_in (by omega) (by omega)]; omega]
     refine Wo.od (o_as rfl) rfl ?_
     refine Wo.nil ?_
     refine At.bn ?_
     exact At.en () rfl (sc rfl (sc rfl sn)) Turn.refl
   ·rw [if_neg hj] at hF
    by_cases hjN : j = N
    ·rw [if_pos hjN] at hF
     cases hF
     subst hjN
     refine Wk.condF rfl (decide_eq_false (by omega)) ?_
     refine Wk.exit ?_
     refine At.te ?_
     exact At.en () rfl (sc rfl sn) Turn.refl
    ·rw [if_neg hjN] at hF; cases hF
  ·rintro ⟨⟩
   show At _ (.exit 0) _ [(7, .slice (some ⟨b, 0, none⟩) N N)] [.obj b (.cells (repC x N N) .own)]
   refine At.be ?_
   refine At.tn ?_
   refine Wk.seq ?_
   refine Wk.region ?_
   refine Wo.od (o_mv rfl) rfl ?_
   refine Wo.od (o_as rfl) rfl ?_
   refine Wo.nil ?_
   refine At.tn ?_
   refine Wk.ret ?_
   have hcN : repC x N N = ((List.replicate N x).map (eI .i64)).flatten := by
    unfold repC
    rw [Nat.sub_self, List.replicate_zero, List.append_nil, flat_rep]
   rw [hcN]
   exact At.ret (.tmp rfl .nil) fun m' hm => ⟨(some ⟨b, 0, none⟩, N), rfl, (Turn.asSl (k := 0) rfl (by simp) (fun e he => by obtain ⟨y, _, rfl⟩ := List.mem_map.1 he; rfl) (.inl rfl) (by omega)) m' hm⟩
 ·cases hF
end Go.Proofs.YtpclggcpobakhaaDoor.W60
end
