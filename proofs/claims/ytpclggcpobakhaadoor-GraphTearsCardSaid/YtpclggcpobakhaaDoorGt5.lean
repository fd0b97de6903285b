/- Texts of the abstract machine and of the walks, joined: S18W0 S18WT S18Fit. -/
import Derived.Test.YtpclggcpobakhaaDoorGt4
section
namespace Go.Proofs.YtpclggcpobakhaaDoor.W0
open Go Go.Ab Go.Ab.W Go.Proofs.YtpclggcpobakhaaDoor
set_option maxRecDepth 10000
set_option maxHeartbeats 4000000
attribute [local irreducible] Tm.at Trie.set Trie.get AMem.get AMem.set AMem.alloc AMem.ww AMem.kill
theorem z59 : zeroA E18w.P 59 = some (.agg #[.int .i64 0, .slice none 0 0, .int .i64 0, .slice none 0 0, .int .i64 0, .slice none 0 0]) := by kernel_rfl
theorem t55 : TyI E18w.P 55 true 4 := ⟨by kernel_rfl, by kernel_rfl, by kernel_rfl⟩
theorem z25 : zeroA E18w.P 25 = some (.agg #[.int .i64 0, .slice none 0 0]) := by kernel_rfl
theorem fa55_0 : ∀ b o, fieldAddrA E18w.P 55 (ptr b o) 0 = some (ptr b (o + 0)) := fun _ _ => by kernel_rfl
theorem t5 : TyI E18w.P 5 false 1 := ⟨by kernel_rfl, by kernel_rfl, by kernel_rfl⟩
theorem u5 : E18w.P.underlying 5 = some (.int .u8) := by kernel_rfl
theorem u3 : E18w.P.underlying 3 = some (.int .i64) := by kernel_rfl
theorem fa55_1 : ∀ b o, fieldAddrA E18w.P 55 (ptr b o) 1 = some (ptr b (o + 1)) := fun _ _ => by kernel_rfl
theorem bs25 : BdT E18w.P 25 (.agg #[.int .i64 0, .slice none 0 0]) [(0, 1), (1, 1)] := .mk' (by kernel_rfl) (by kernel_rfl)
theorem t25 : TyI E18w.P 25 true 2 := ⟨by kernel_rfl, by kernel_rfl, by kernel_rfl⟩
theorem fa25_0 : ∀ b o, fieldAddrA E18w.P 25 (ptr b o) 0 = some (ptr b (o + 0)) := fun _ _ => by kernel_rfl
theorem t3 : TyI E18w.P 3 false 1 := ⟨by kernel_rfl, by kernel_rfl, by kernel_rfl⟩
theorem fa55_2 : ∀ b o, fieldAddrA E18w.P 55 (ptr b o) 2 = some (ptr b (o + 2)) := fun _ _ => by kernel_rfl
theorem t52 : TyI E18w.P 52 false 1 := ⟨by kernel_rfl, by kernel_rfl, by kernel_rfl⟩
theorem u102 : E18w.P.underlying 102 = some (.int .u64) := by kernel_rfl
theorem fa55_3 : ∀ b o, fieldAddrA E18w.P 55 (ptr b o) 3 = some (ptr b (o + 3)) := fun _ _ => by kernel_rfl
theorem t53 : TyI E18w.P 53 false 1 := ⟨by kernel_rfl, by kernel_rfl, by kernel_rfl⟩
theorem u53 : E18w.P.underlying 53 = some (.slice 103) := by kernel_rfl
theorem s53 : SlT E18w.P 53 103 2 := SlT.of (by kernel_rfl)
theorem ar103 : ArT E18w.P 103 5 2 1 := ⟨by kernel_rfl, by kernel_rfl, by kernel_rfl⟩
theorem fa25_1 : ∀ b o, fieldAddrA E18w.P 25 (ptr b o) 1 = some (ptr b (o + 1)) := fun _ _ => by kernel_rfl
theorem t23 : TyI E18w.P 23 false 1 := ⟨by kernel_rfl, by kernel_rfl, by kernel_rfl⟩
theorem z26 : zeroA E18w.P 26 = some (.agg #[.int .i64 0, .int .i64 0]) := by kernel_rfl
theorem bs26 : BdT E18w.P 26 (.agg #[.int .i64 0, .int .i64 0]) [(0, 1), (1, 1)] := .mk' (by kernel_rfl) (by kernel_rfl)
theorem u23 : E18w.P.underlying 23 = some (.slice 26) := by kernel_rfl
theorem s23 : SlT E18w.P 23 26 2 := SlT.of (by kernel_rfl)
theorem ar58 : ArT E18w.P 58 57 2 5 := ⟨by kernel_rfl, by kernel_rfl, by kernel_rfl⟩
theorem t57 : TyI E18w.P 57 true 5 := ⟨by kernel_rfl, by kernel_rfl, by kernel_rfl⟩
theorem fa57_1 : ∀ b o, fieldAddrA E18w.P 57 (ptr b o) 1 = some (ptr b (o + 1)) := fun _ _ => by kernel_rfl
theorem fa57_0 : ∀ b o, fieldAddrA E18w.P 57 (ptr b o) 0 = some (ptr b (o + 0)) := fun _ _ => by kernel_rfl
theorem fa57_2 : ∀ b o, fieldAddrA E18w.P 57 (ptr b o) 2 = some (ptr b (o + 2)) := fun _ _ => by kernel_rfl
theorem fa57_3 : ∀ b o, fieldAddrA E18w.P 57 (ptr b o) 3 = some (ptr b (o + 3)) := fun _ _ => by kernel_rfl
theorem t26 : TyI E18w.P 26 true 2 := ⟨by kernel_rfl, by kernel_rfl, by kernel_rfl⟩
theorem ar26 : ArT E18w.P 26 3 2 1 := ⟨by kernel_rfl, by kernel_rfl, by kernel_rfl⟩
theorem bs59 : BdT E18w.P 59 (.agg #[.int .i64 0, .slice none 0 0, .int .i64 0, .slice none 0 0, .int .i64 0, .slice none 0 0]) [(0, 2), (2, 2), (4, 2)] := .mk' (by kernel_rfl) (by kernel_rfl)
theorem t59 : TyI E18w.P 59 true 6 := ⟨by kernel_rfl, by kernel_rfl, by kernel_rfl⟩
theorem u39 : E18w.P.underlying 39 = some (.slice 3) := by kernel_rfl
theorem s39 : SlT E18w.P 39 3 1 := SlT.of (by kernel_rfl)
theorem f40_ok (n : Nat) (x1 : Nat) (x2 : Nat) (x3 : Nat) (l4 : List (Nat × Nat)) (a5 : Option Addr) (c6 : Nat) (r : Int × List (Int × Int)) (hF : F40 n x1 x2 x3 l4 = some r) (m : AMem) (h7 : Rd m a5 c6 2 l4.length (l4.map (eP (eN .u8) (eN .u8)))) :
  CallA E18w 40 [.agg #[.int .u8 ((x1 : Nat) : Int), .int .u8 ((x2 : Nat) : Int), .int .u16 ((x3 : Nat) : Int), .slice a5 l4.length c6]] m (fun v m' => ∃ x : Option Addr × Nat, v = .agg #[.int .i64 r.1, .slice x.1 x.2 x.2] ∧ Hp m m' [.sl x.1 2 x.2 (r.2.map (eP (eI .i64) (eI .i64)))]) := by
 unfold F40 at hF
 refine call_wk (m0 := m) (ps := [.rd a5 c6 2 l4.length (l4.map (eP (eN .u8) (eN .u8)))]) (N := 137) (rs := [.cell 2 25]) rfl Tryd.func40 rfl rfl rfl ((Hp.start m).inn rfl h7) ?_
 refine Wk.seq <| Wk.region <| Wo.x (o_bx rfl) gn rfl fun b8 => ?_
 refine Wo.x (o_al z25 rfl) gn rfl fun b9 => ?_
 refine Wo.nil <| At.tn <| Wk.seq <| Wk.draw (by kernel_rfl) ?_
 refine Wo.od (o_fa (r := ptr b8 0) rfl (fa55_0 _ _)) rfl ?_
 refine Wo.od (o_ld (k := 1) t5 rfl rfl rfl) rfl ?_
 refine Wo.od (o_bi rfl rfl (ub_rem _ _ (by decide))) rfl ?_
 refine Wo.od (o_cv rfl (cv_i (by rw [u5]; rfl) u3)) rfl ?_
 refine Wo.od (o_bi rfl rfl (bin_add _ _ _)) rfl ?_
 refine Wo.od (o_fa (r := ptr b8 1) rfl (fa55_1 _ _)) rfl ?_
 refine Wo.od (o_ld (k := 1) t5 rfl rfl rfl) rfl ?_
 refine Wo.od (o_bi rfl rfl (ub_rem _ _ (by decide))) rfl ?_
 refine Wo.od (o_cv rfl (cv_i (by rw [u5]; rfl) u3)) rfl ?_
 refine Wo.od (o_bi rfl rfl (bin_add _ _ _)) rfl ?_
 refine Wo.od (o_as rfl) rfl ?_
 refine Wo.od (o_as rfl) rfl ?_
 refine Wo.nil <| At.tn <| Wk.seq <| Wk.region <| Wo.od (o_mv rfl) rfl ?_
 refine Wo.od (o_mv rfl) rfl ?_
 obtain ⟨y10, h11, hF⟩ := ob_some hF
 refine Wo.od (o_bi rfl rfl ((bin_mul _ _ _).trans (cI h11))) rfl ?_
 refine Wo.od (o_bd rfl z25 rfl (bd_s bs25 rfl rfl rfl)) rfl ?_
 refine Wo.x (o_al z25 rfl) gn rfl fun b12 => ?_
 refine Wo.o0 (o_st (k := 0) t25 rfl rfl rfl rfl rfl) ?_
 refine Wo.nil <| At.tn <| Wk.seq <| Wk.region <| Wo.od (o_as rfl) rfl ?_
 refine Wo.nil <| At.tn <| Wk.seq <| Wk.seq <| Wk.region <| Wo.od (o_as rfl) rfl ?_
 refine Wo.nil <| At.tn <| Wk.block ?_
 obtain ⟨l2020, h3018, hF⟩ := ob_some hF
 refine Wk.cut (G := (fun (r : List (Int × Int)) (g : Option Addr) => match r, g with | l2020, a2021 => ⟨(.exit 0), [(2, ptr b9 0), (5, ptr b12 0)], [.obj b9 (.cells [.int .i64 0, .slice none 0 0] .own), .obj b12 (.cells [.int .i64 y10, .slice a2021 l2020.length l2020.length] .own), .sl a2021 2 l2020.length (l2020.map (eP (eI .i64) (eI .i64)))]⟩) l2020) ?_ ?_
 ·refine Wk.weak (fs' := [(1, ptr b8 0), (2, ptr b9 0), (3, .int .i64 (IntKind.wrap .i64 (1 + (IntKind.wrap .i64 ((x1 % 4 : Nat) : Int))))), (5, ptr b12 0), (6, .int .i64 0), (7, .int .i64 0)]) (ps' := [.obj b8 (.cells [.int .u8 ((x1 : Nat) : Int), .int .u8 ((x2 : Nat) : Int), .int .u16 ((x3 : Nat) : Int), .slice a5 l4.length c6] .own), .rd a5 c6 2 l4.length (l4.map (eP (eN .u8) (eN .u8))), .obj b9 (.cells [.int .i64 0, .slice none 0 0] .own), .obj b12 (.cells [.int .i64 y10, .slice none ([] : List (Int × Int)).length ([] : List (Int × Int)).length] .own), .sl none 2 ([] : List (Int × Int)).length (([] : List (Int × Int)).map (eP (eI .i64) (eI .i64)))]) (sc rfl (sc rfl (sc rfl (sc rfl (sc rfl (sc rfl sn)))))) (Turn.trans (Turn.nil 2 rfl) (Turn.picks [3, 4, 2, 1, 0] rfl rfl)) ?_
  refine Wk.loop (σ := Int × List (Int × Int) × Int × Int) (ρ := List (Int × Int)) (γ := Option Addr) (δ := fun _ => Option Addr) _ (fun (s : Int × List (Int × Int) × Int × Int) (g : Option Addr) => match s, g with | (v1014, l1015, v1017, v1018), a1016 => ⟨.normal, [(1, ptr b8 0), (2, ptr b9 0), (3, .int .i64 v1014), (5, ptr b12 0), (6, .int .i64 v1017), (7, .int .i64 v1018)], [.obj b8 (.cells [.int .u8 ((x1 : Nat) : Int), .int .u8 ((x2 : Nat) : Int), .int .u16 ((x3 : Nat) : Int), .slice a5 l4.length c6] .own), .rd a5 c6 2 l4.length (l4.map (eP (eN .u8) (eN .u8))), .obj b9 (.cells [.int .i64 0, .slice none 0 0] .own), .obj b12 (.cells [.int .i64 y10, .slice a1016 l1015.length l1015.length] .own), .sl a1016 2 l1015.length (l1015.map (eP (eI .i64) (eI .i64)))]⟩) (fun (r : List (Int × Int)) (g : Option Addr) => match r, g with | l2020, a2021 => ⟨(.exit 0), [(2, ptr b9 0), (5, ptr b12 0)], [.obj b9 (.cells [.int .i64 0, .slice none 0 0] .own), .obj b12 (.cells [.int .i64 y10, .slice a2021 l2020.length l2020.length] .own), .sl a2021 2 l2020.length (l2020.map (eP (eI .i64) (eI .i64)))]⟩) ?_ (fun _ _ => rfl) (fun r d => by intro e; cases e) _ _ _ h3018 none
  clear hF h3018
  rintro ⟨v1014, l1015, v1017, v1018⟩ a1016 r hF
  unfold L40_3 at hF
  refine Wk.seq <| Wk.seq <| Wk.region <| Wo.od (o_mv rfl) rfl ?_
  refine Wo.od (o_fa (r := ptr b12 0) rfl (fa25_0 _ _)) rfl ?_
  refine Wo.od (o_ld (k := 3) t3 rfl rfl rfl) rfl ?_
  refine Wo.od (o_bi rfl rfl (bin_lss _ _ _)) rfl ?_
  refine Wo.nil <| At.tn ?_
  rcases br_some hF with ⟨h2022, hF⟩ | ⟨h2022, hF⟩
  ·refine Wk.condT rfl h2022 ?_
   refine Wk.skip <| At.tn <| Wk.seq <| Wk.block <| Wk.seq <| Wk.region <| Wo.od (o_mv rfl) rfl ?_
   refine Wo.od (o_bi rfl rfl (bin_add _ _ _)) rfl ?_
   refine Wo.od (o_as rfl) rfl ?_
   refine Wo.nil <| At.tn <| Wk.block ?_
   obtain ⟨r3017, h3016, hF⟩ := ob_some hF
   refine Wk.cut (G := (fun (r : List (Int × Int) × Int) (g : Option Addr) => match r, g with | (l2687, v2689), a2688 => ⟨(.exit 2), [(1, ptr b8 0), (2, ptr b9 0), (3, .int .i64 v1014), (5, ptr b12 0), (6, .int .i64 v2689), (7, .int .i64 v1018)], [.obj b8 (.cells [.int .u8 ((x1 : Nat) : Int), .int .u8 ((x2 : Nat) : Int), .int .u16 ((x3 : Nat) : Int), .slice a5 l4.length c6] .own), .rd a5 c6 2 l4.length (l4.map (eP (eN .u8) (eN .u8))), .obj b9 (.cells [.int .i64 0, .slice none 0 0] .own), .obj b12 (.cells [.int .i64 y10, .slice a2688 l2687.length l2687.length] .own), .sl a2688 2 l2687.length (l2687.map (eP (eI .i64) (eI .i64)))]⟩) r3017) ?_ ?_
   ·refine Wk.weak (fs' := [(1, ptr b8 0), (2, ptr b9 0), (3, .int .i64 v1014), (5, ptr b12 0), (6, .int .i64 v1017), (7, .int .i64 v1018), (8, .int .i64 (IntKind.wrap .i64 (v1018 + 1)))]) (ps' := [.obj b8 (.cells [.int .u8 ((x1 : Nat) : Int), .int .u8 ((x2 : Nat) : Int), .int .u16 ((x3 : Nat) : Int), .slice a5 l4.length c6] .own), .rd a5 c6 2 l4.length (l4.map (eP (eN .u8) (eN .u8))), .obj b9 (.cells [.int .i64 0, .slice none 0 0] .own), .obj b12 (.cells [.int .i64 y10, .slice a1016 l1015.length l1015.length] .own), .sl a1016 2 l1015.length (l1015.map (eP (eI .i64) (eI .i64)))]) (sc rfl (sc rfl (sc rfl (sc rfl (sc rfl (sc rfl (sc rfl sn))))))) (Turn.picks [0, 1, 2, 3, 4] rfl rfl) ?_
    refine Wk.loop (σ := List (Int × Int) × Int × Int) (ρ := List (Int × Int) × Int) (γ := Option Addr) (δ := fun _ => Option Addr) _ (fun (s : List (Int × Int) × Int × Int) (g : Option Addr) => match s, g with | (l2353, v2355, v2356), a2354 => ⟨.normal, [(1, ptr b8 0), (2, ptr b9 0), (3, .int .i64 v1014), (5, ptr b12 0), (6, .int .i64 v2355), (7, .int .i64 v1018), (8, .int .i64 v2356)], [.obj b8 (.cells [.int .u8 ((x1 : Nat) : Int), .int .u8 ((x2 : Nat) : Int), .int .u16 ((x3 : Nat) : Int), .slice a5 l4.length c6] .own), .rd a5 c6 2 l4.length (l4.map (eP (eN .u8) (eN .u8))), .obj b9 (.cells [.int .i64 0, .slice none 0 0] .own), .obj b12 (.cells [.int .i64 y10, .slice a2354 l2353.length l2353.length] .own), .sl a2354 2 l2353.length (l2353.map (eP (eI .i64) (eI .i64)))]⟩) (fun (r : List (Int × Int) × Int) (g : Option Addr) => match r, g with | (l2687, v2689), a2688 => ⟨(.exit 2), [(1, ptr b8 0), (2, ptr b9 0), (3, .int .i64 v1014), (5, ptr b12 0), (6, .int .i64 v2689), (7, .int .i64 v1018)], [.obj b8 (.cells [.int .u8 ((x1 : Nat) : Int), .int .u8 ((x2 : Nat) : Int), .int .u16 ((x3 : Nat) : Int), .slice a5 l4.length c6] .own), .rd a5 c6 2 l4.length (l4.map (eP (eN .u8) (eN .u8))), .obj b9 (.cells [.int .i64 0, .slice none 0 0] .own), .obj b12 (.cells [.int .i64 y10, .slice a2688 l2687.length l2687.length] .own), .sl a2688 2 l2687.length (l2687.map (eP (eI .i64) (eI .i64)))]⟩) ?_ (fun _ _ => rfl) (fun r d => by intro e; cases e) _ _ _ h3016 a1016
    clear hF h3016
    rintro ⟨l2353, v2355, v2356⟩ a2354 r hF
    unfold L40_2 at hF
    refine Wk.seq <| Wk.seq <| Wk.region <| Wo.od (o_mv rfl) rfl ?_
    refine Wo.od (o_fa (r := ptr b12 0) rfl (fa25_0 _ _)) rfl ?_
    refine Wo.od (o_ld (k := 3) t3 rfl rfl rfl) rfl ?_
    refine Wo.od (o_bi rfl rfl (bin_lss _ _ _)) rfl ?_
    refine Wo.nil <| At.tn ?_
    rcases br_some hF with ⟨h2690, hF⟩ | ⟨h2690, hF⟩
    ·refine Wk.condT rfl h2690 ?_
     refine Wk.skip <| At.tn <| Wk.seq ?_
     obtain ⟨r3015, h3014, hF⟩ := ob_some hF
     refine Wk.cut (G := (fun (r : List (Int × Int) × Int) (g : Option Addr) => match r, g with | (l2851, v2853), a2852 => ⟨.normal, [(1, ptr b8 0), (2, ptr b9 0), (3, .int .i64 v1014), (5, ptr b12 0), (6, .int .i64 v2853), (7, .int .i64 v1018), (8, .int .i64 v2356)], [.obj b8 (.cells [.int .u8 ((x1 : Nat) : Int), .int .u8 ((x2 : Nat) : Int), .int .u16 ((x3 : Nat) : Int), .slice a5 l4.length c6] .own), .rd a5 c6 2 l4.length (l4.map (eP (eN .u8) (eN .u8))), .obj b9 (.cells [.int .i64 0, .slice none 0 0] .own), .obj b12 (.cells [.int .i64 y10, .slice a2852 l2851.length l2851.length] .own), .sl a2852 2 l2851.length (l2851.map (eP (eI .i64) (eI .i64)))]⟩) r3015) ?_ ?_
     ·clear hF
      revert r3015
      intro r hF
      refine Wk.block <| Wk.seq ?_
      obtain ⟨v2857, h2861, hF⟩ := ob_some hF
      refine Wk.cut (G := (fun (r : Bool) (g : Unit) => match r, g with | v2857, _ => ⟨.normal, [(1, ptr b8 0), (2, ptr b9 0), (3, .int .i64 v1014), (5, ptr b12 0), (6, .int .i64 v2355), (7, .int .i64 v1018), (8, .int .i64 v2356), (9, .bool v2857)], [.obj b8 (.cells [.int .u8 ((x1 : Nat) : Int), .int .u8 ((x2 : Nat) : Int), .int .u16 ((x3 : Nat) : Int), .slice a5 l4.length c6] .own), .rd a5 c6 2 l4.length (l4.map (eP (eN .u8) (eN .u8))), .obj b9 (.cells [.int .i64 0, .slice none 0 0] .own), .obj b12 (.cells [.int .i64 y10, .slice a2354 l2353.length l2353.length] .own), .sl a2354 2 l2353.length (l2353.map (eP (eI .i64) (eI .i64)))]⟩) v2857) ?_ ?_
      ·clear hF
       revert v2857
       intro r hF
       refine Wk.region <| Wo.od (o_mv rfl) rfl ?_
       refine Wo.od (o_mv rfl) rfl ?_
       refine Wo.od (o_mv rfl) rfl ?_
       refine Wo.od (o_bi rfl rfl (bin_add _ _ _)) rfl ?_
       refine Wo.od (o_bi rfl rfl (bin_eql _ _ _)) rfl ?_
       refine Wo.od (o_mv rfl) rfl ?_
       rcases br_some hF with ⟨h2858, hF⟩ | ⟨h2858, hF⟩
       ·refine Wo.s (gg rfl rfl (eTF h2858)) rfl ?_
        refine Wo.s (gg rfl rfl (eTF h2858)) rfl ?_
        refine Wo.s (gg rfl rfl (eTF h2858)) rfl ?_
        refine Wo.s (gg rfl rfl (eTF h2858)) rfl ?_
        refine Wo.s (gg rfl rfl (eTF h2858)) rfl ?_
        refine Wo.s (gu rfl rfl) rfl ?_
        refine Wo.s (gu rfl rfl) rfl ?_
        refine Wo.s (gu rfl rfl) rfl ?_
        refine Wo.s (gu rfl rfl) rfl ?_
        refine Wo.s (gg rfl rfl (eTF h2858)) rfl ?_
        refine Wo.od (o_pt rfl h2858 rfl) rfl ?_
        refine Wo.od (o_as rfl) rfl ?_
        refine Wo.nil ?_
        cases hF
        exact At.en () rfl (sc rfl (sc rfl (sc rfl (sc rfl (sc rfl (sc rfl (sc rfl (sc rfl sn)))))))) (Turn.picks [0, 1, 2, 3, 4] rfl rfl)
       ·refine Wo.og (o_mv rfl) (gg rfl rfl (eFF h2858)) rfl ?_
        refine Wo.og (o_mv rfl) (gg rfl rfl (eFF h2858)) rfl ?_
        refine Wo.og (o_bi rfl rfl (bin_add _ _ _)) (gg rfl rfl (eFF h2858)) rfl ?_
        refine Wo.og (o_bi rfl rfl (bin_eql _ _ _)) (gg rfl rfl (eFF h2858)) rfl ?_
        refine Wo.og (o_mv rfl) (gg rfl rfl (eFF h2858)) rfl ?_
        rcases br_some hF with ⟨h2859, hF⟩ | ⟨h2859, hF⟩
        ·refine Wo.og (o_mv rfl) (gg rfl rfl (eTT h2859)) rfl ?_
         refine Wo.og (o_mv rfl) (gg rfl rfl (eTT h2859)) rfl ?_
         obtain ⟨h2860, hF⟩ := gd_some hF
         refine Wo.og (o_bi rfl rfl (ib_rem _ _ h2860)) (gg rfl rfl (eTT h2859)) rfl ?_
         refine Wo.og (o_bi rfl rfl (ib_neq _ _)) (gg rfl rfl (eTT h2859)) rfl ?_
         refine Wo.og (o_pt rfl h2859 rfl) (gg rfl rfl (eFF h2858)) rfl ?_
         refine Wo.od (o_pf rfl h2858 rfl) rfl ?_
         refine Wo.od (o_as rfl) rfl ?_
         refine Wo.nil ?_
         cases hF
         exact At.en () rfl (sc rfl (sc rfl (sc rfl (sc rfl (sc rfl (sc rfl (sc rfl (sc rfl sn)))))))) (Turn.picks [0, 1, 2, 3, 4] rfl rfl)
        ·refine Wo.s (gg rfl rfl (eFT h2859)) rfl ?_
         refine Wo.s (gg rfl rfl (eFT h2859)) rfl ?_
         refine Wo.s (gg rfl rfl (eFT h2859)) rfl ?_
         refine Wo.s (gg rfl rfl (eFT h2859)) rfl ?_
         refine Wo.og (o_pf rfl h2859 rfl) (gg rfl rfl (eFF h2858)) rfl ?_
         refine Wo.od (o_pf rfl h2858 rfl) rfl ?_
         refine Wo.od (o_as rfl) rfl ?_
         refine Wo.nil ?_
         cases hF
         exact At.en () rfl (sc rfl (sc rfl (sc rfl (sc rfl (sc rfl (sc rfl (sc rfl (sc rfl sn)))))))) (Turn.picks [0, 1, 2, 3, 4] rfl rfl)
      ·clear h2861
       rintro ⟨⟩
       refine At.tn <| Wk.seq ?_
       obtain ⟨r2914, h2913, hF⟩ := ob_some hF
       refine Wk.cut (G := (fun (r : Int × Bool) (g : Unit) => match r, g with | (v2887, v2888), _ => ⟨.normal, [(1, ptr b8 0), (2, ptr b9 0), (3, .int .i64 v1014), (5, ptr b12 0), (6, .int .i64 v2887), (7, .int .i64 v1018), (8, .int .i64 v2356), (9, .bool v2888)], [.obj b8 (.cells [.int .u8 ((x1 : Nat) : Int), .int .u8 ((x2 : Nat) : Int), .int .u16 ((x3 : Nat) : Int), .slice a5 l4.length c6] .own), .rd a5 c6 2 l4.length (l4.map (eP (eN .u8) (eN .u8))), .obj b9 (.cells [.int .i64 0, .slice none 0 0] .own), .obj b12 (.cells [.int .i64 y10, .slice a2354 l2353.length l2353.length] .own), .sl a2354 2 l2353.length (l2353.map (eP (eI .i64) (eI .i64)))]⟩) r2914) ?_ ?_
       ·clear hF
        revert r2914
        intro r hF
        refine Wk.seq <| Wk.region <| Wo.od (o_mv rfl) rfl ?_
        refine Wo.nil <| At.tn ?_
        rcases br_some hF with ⟨h2889, hF⟩ | ⟨h2889, hF⟩
        ·refine Wk.condT rfl h2889 ?_
         refine Wk.seq ?_
         obtain ⟨v2900, h2911, hF⟩ := ob_some hF
         refine Wk.cut (G := (fun (r : Bool) (g : Unit) => match r, g with | v2900, _ => ⟨.normal, [(1, ptr b8 0), (2, ptr b9 0), (3, .int .i64 v1014), (5, ptr b12 0), (6, .int .i64 v2355), (7, .int .i64 v1018), (8, .int .i64 v2356), (9, .bool v2900)], [.obj b8 (.cells [.int .u8 ((x1 : Nat) : Int), .int .u8 ((x2 : Nat) : Int), .int .u16 ((x3 : Nat) : Int), .slice a5 l4.length c6] .own), .rd a5 c6 2 l4.length (l4.map (eP (eN .u8) (eN .u8))), .obj b9 (.cells [.int .i64 0, .slice none 0 0] .own), .obj b12 (.cells [.int .i64 y10, .slice a2354 l2353.length l2353.length] .own), .sl a2354 2 l2353.length (l2353.map (eP (eI .i64) (eI .i64)))]⟩) v2900) ?_ ?_
         ·clear hF
          revert v2900
          intro r hF
          refine Wk.seq ?_
          obtain ⟨v2904, h2908, hF⟩ := ob_some hF
          refine Wk.cut (G := (fun (r : Bool) (g : Unit) => match r, g with | v2904, _ => ⟨.normal, [(1, ptr b8 0), (2, ptr b9 0), (3, .int .i64 v1014), (5, ptr b12 0), (6, .int .i64 v2355), (7, .int .i64 v1018), (8, .int .i64 v2356), (9, .bool v2857), (72, .bool v2904)], [.obj b8 (.cells [.int .u8 ((x1 : Nat) : Int), .int .u8 ((x2 : Nat) : Int), .int .u16 ((x3 : Nat) : Int), .slice a5 l4.length c6] .own), .rd a5 c6 2 l4.length (l4.map (eP (eN .u8) (eN .u8))), .obj b9 (.cells [.int .i64 0, .slice none 0 0] .own), .obj b12 (.cells [.int .i64 y10, .slice a2354 l2353.length l2353.length] .own), .sl a2354 2 l2353.length (l2353.map (eP (eI .i64) (eI .i64)))]⟩) v2904) ?_ ?_
          ·clear hF
           revert v2904
           intro r hF
           refine Wk.region <| Wo.od (o_mv rfl) rfl ?_
           refine Wo.od (o_bi rfl rfl (ib_rem _ _ (by decide))) rfl ?_
           refine Wo.od (o_bi rfl rfl (bin_eql _ _ _)) rfl ?_
           refine Wo.od (o_mv rfl) rfl ?_
           rcases br_some hF with ⟨h2905, hF⟩ | ⟨h2905, hF⟩
           ·refine Wo.og (o_fa (r := ptr b8 2) rfl (fa55_2 _ _)) (gg rfl rfl (eTT h2905)) rfl ?_
            refine Wo.og (o_ld (k := 0) t52 rfl rfl rfl) (gg rfl rfl (eTT h2905)) rfl ?_
            refine Wo.og (o_mv rfl) (gg rfl rfl (eTT h2905)) rfl ?_
            refine Wo.og (o_bi rfl rfl (ib_quo _ _ (by decide))) (gg rfl rfl (eTT h2905)) rfl ?_
            refine Wo.og (o_bi rfl rfl (ib_rem _ _ (by decide))) (gg rfl rfl (eTT h2905)) rfl ?_
            refine Wo.og (o_cv rfl (cv_u (by rw [u3]; rfl) u102 rfl)) (gg rfl rfl (eTT h2905)) rfl ?_
            obtain ⟨y2906, h2907, hF⟩ := ob_some hF
            refine Wo.og (o_bi rfl rfl ((ub_shr _ _ (nn _)).trans (cN h2907))) (gg rfl rfl (eTT h2905)) rfl ?_
            refine Wo.og (o_bi rfl rfl (ub_and rfl _ _)) (gg rfl rfl (eTT h2905)) rfl ?_
            refine Wo.og (o_bi rfl rfl (ub_eql _ _)) (gg rfl rfl (eTT h2905)) rfl ?_
            refine Wo.od (o_pt rfl h2905 rfl) rfl ?_
            refine Wo.nil ?_
            cases hF
            exact At.en () rfl (sc rfl (sc rfl (sc rfl (sc rfl (sc rfl (sc rfl (sc rfl (sc rfl (sc rfl sn))))))))) (Turn.picks [0, 1, 2, 3, 4] rfl rfl)
           ·refine Wo.s (gg rfl rfl (eFT h2905)) rfl ?_
            refine Wo.s (gg rfl rfl (eFT h2905)) rfl ?_
            refine Wo.s (gg rfl rfl (eFT h2905)) rfl ?_
            refine Wo.s (gg rfl rfl (eFT h2905)) rfl ?_
            refine Wo.s (gg rfl rfl (eFT h2905)) rfl ?_
            refine Wo.s (gg rfl rfl (eFT h2905)) rfl ?_
            refine Wo.s (gg rfl rfl (eFT h2905)) rfl ?_
            refine Wo.s (gg rfl rfl (eFT h2905)) rfl ?_
            refine Wo.s (gg rfl rfl (eFT h2905)) rfl ?_
            refine Wo.od (o_pf rfl h2905 rfl) rfl ?_
            refine Wo.nil ?_
            cases hF
            exact At.en () rfl (sc rfl (sc rfl (sc rfl (sc rfl (sc rfl (sc rfl (sc rfl (sc rfl (sc rfl sn))))))))) (Turn.picks [0, 1, 2, 3, 4] rfl rfl)
          ·clear h2908
           rintro ⟨⟩
           refine At.tn ?_
           rcases br_some hF with ⟨h2910, hF⟩ | ⟨h2910, hF⟩
           ·refine Wk.condT rfl h2910 ?_
            refine Wk.region <| Wo.od (o_as rfl) rfl ?_
            refine Wo.nil ?_
            cases hF
            exact At.en () rfl (sc rfl (sc rfl (sc rfl (sc rfl (sc rfl (sc rfl (sc rfl (sc rfl sn)))))))) (Turn.picks [0, 1, 2, 3, 4] rfl rfl)
           ·refine Wk.condF rfl h2910 ?_
            refine Wk.skip ?_
            have hr := Option.some.inj hF
            subst r
            exact At.en () rfl (sc rfl (sc rfl (sc rfl (sc rfl (sc rfl (sc rfl (sc rfl (sc rfl sn)))))))) (Turn.picks [0, 1, 2, 3, 4] rfl rfl)
         ·clear h2911
          rintro ⟨⟩
          refine At.tn <| Wk.region <| Wo.od (o_mv rfl) rfl ?_
          refine Wo.od (o_bi rfl rfl (bin_add _ _ _)) rfl ?_
          refine Wo.od (o_as rfl) rfl ?_
          refine Wo.nil ?_
          cases hF
          exact At.en () rfl (sc rfl (sc rfl (sc rfl (sc rfl (sc rfl (sc rfl (sc rfl (sc rfl sn)))))))) (Turn.picks [0, 1, 2, 3, 4] rfl rfl)
        ·refine Wk.condF rfl h2889 ?_
         refine Wk.skip ?_
         cases hF
         exact At.en () rfl (sc rfl (sc rfl (sc rfl (sc rfl (sc rfl (sc rfl (sc rfl (sc rfl sn)))))))) (Turn.picks [0, 1, 2, 3, 4] rfl rfl)
       ·clear h2913
        obtain ⟨v2887, v2888⟩ := r2914
        rintro ⟨⟩
        refine At.tn <| Wk.seq <| Wk.seq <| Wk.region <| Wo.od (o_as rfl) rfl ?_
        refine Wo.nil <| At.tn <| Wk.block ?_
        obtain ⟨v2964, h3008, hF⟩ := ob_some hF
        refine Wk.cut (G := (fun (r : Bool) (g : Unit) => match r, g with | v2964, _ => ⟨(.exit 4), [(1, ptr b8 0), (2, ptr b9 0), (3, .int .i64 v1014), (5, ptr b12 0), (6, .int .i64 v2887), (7, .int .i64 v1018), (8, .int .i64 v2356), (9, .bool v2964)], [.obj b8 (.cells [.int .u8 ((x1 : Nat) : Int), .int .u8 ((x2 : Nat) : Int), .int .u16 ((x3 : Nat) : Int), .slice a5 l4.length c6] .own), .rd a5 c6 2 l4.length (l4.map (eP (eN .u8) (eN .u8))), .obj b9 (.cells [.int .i64 0, .slice none 0 0] .own), .obj b12 (.cells [.int .i64 y10, .slice a2354 l2353.length l2353.length] .own), .sl a2354 2 l2353.length (l2353.map (eP (eI .i64) (eI .i64)))]⟩) v2964) ?_ ?_
        ·refine Wk.weak (fs' := [(1, ptr b8 0), (2, ptr b9 0), (3, .int .i64 v1014), (5, ptr b12 0), (6, .int .i64 v2887), (7, .int .i64 v1018), (8, .int .i64 v2356), (9, .bool v2888), (10, .int .i64 0)]) (ps' := [.obj b8 (.cells [.int .u8 ((x1 : Nat) : Int), .int .u8 ((x2 : Nat) : Int), .int .u16 ((x3 : Nat) : Int), .slice a5 l4.length c6] .own), .rd a5 c6 2 l4.length (l4.map (eP (eN .u8) (eN .u8))), .obj b9 (.cells [.int .i64 0, .slice none 0 0] .own), .obj b12 (.cells [.int .i64 y10, .slice a2354 l2353.length l2353.length] .own), .sl a2354 2 l2353.length (l2353.map (eP (eI .i64) (eI .i64)))]) (sc rfl (sc rfl (sc rfl (sc rfl (sc rfl (sc rfl (sc rfl (sc rfl (sc rfl sn))))))))) (Turn.picks [0, 1, 2, 3, 4] rfl rfl) ?_
         refine Wk.loop (σ := Bool × Int) (ρ := Bool) (γ := Unit) (δ := fun _ => Unit) _ (fun (s : Bool × Int) (g : Unit) => match s, g with | (v2917, v2918), _ => ⟨.normal, [(1, ptr b8 0), (2, ptr b9 0), (3, .int .i64 v1014), (5, ptr b12 0), (6, .int .i64 v2887), (7, .int .i64 v1018), (8, .int .i64 v2356), (9, .bool v2917), (10, .int .i64 v2918)], [.obj b8 (.cells [.int .u8 ((x1 : Nat) : Int), .int .u8 ((x2 : Nat) : Int), .int .u16 ((x3 : Nat) : Int), .slice a5 l4.length c6] .own), .rd a5 c6 2 l4.length (l4.map (eP (eN .u8) (eN .u8))), .obj b9 (.cells [.int .i64 0, .slice none 0 0] .own), .obj b12 (.cells [.int .i64 y10, .slice a2354 l2353.length l2353.length] .own), .sl a2354 2 l2353.length (l2353.map (eP (eI .i64) (eI .i64)))]⟩) (fun (r : Bool) (g : Unit) => match r, g with | v2964, _ => ⟨(.exit 4), [(1, ptr b8 0), (2, ptr b9 0), (3, .int .i64 v1014), (5, ptr b12 0), (6, .int .i64 v2887), (7, .int .i64 v1018), (8, .int .i64 v2356), (9, .bool v2964)], [.obj b8 (.cells [.int .u8 ((x1 : Nat) : Int), .int .u8 ((x2 : Nat) : Int), .int .u16 ((x3 : Nat) : Int), .slice a5 l4.length c6] .own), .rd a5 c6 2 l4.length (l4.map (eP (eN .u8) (eN .u8))), .obj b9 (.cells [.int .i64 0, .slice none 0 0] .own), .obj b12 (.cells [.int .i64 y10, .slice a2354 l2353.length l2353.length] .own), .sl a2354 2 l2353.length (l2353.map (eP (eI .i64) (eI .i64)))]⟩) ?_ (fun _ _ => rfl) (fun r d => by intro e; cases e) _ _ _ h3008 ()
         clear hF h3008
         rintro ⟨v2917, v2918⟩ ⟨⟩ r hF
         unfold L40_1 at hF
         refine Wk.seq <| Wk.seq ?_
         obtain ⟨v2972, h2974, hF⟩ := ob_some hF
         refine Wk.cut (G := (fun (r : Bool) (g : Unit) => match r, g with | v2972, _ => ⟨.normal, [(1, ptr b8 0), (2, ptr b9 0), (3, .int .i64 v1014), (5, ptr b12 0), (6, .int .i64 v2887), (7, .int .i64 v1018), (8, .int .i64 v2356), (9, .bool v2917), (10, .int .i64 v2918), (83, .bool v2972)], [.obj b8 (.cells [.int .u8 ((x1 : Nat) : Int), .int .u8 ((x2 : Nat) : Int), .int .u16 ((x3 : Nat) : Int), .slice a5 l4.length c6] .own), .rd a5 c6 2 l4.length (l4.map (eP (eN .u8) (eN .u8))), .obj b9 (.cells [.int .i64 0, .slice none 0 0] .own), .obj b12 (.cells [.int .i64 y10, .slice a2354 l2353.length l2353.length] .own), .sl a2354 2 l2353.length (l2353.map (eP (eI .i64) (eI .i64)))]⟩) v2972) ?_ ?_
         ·clear hF
          revert v2972
          intro r hF
          refine Wk.region <| Wo.od (o_mv rfl) rfl ?_
          refine Wo.od (o_fa (r := ptr b8 3) rfl (fa55_3 _ _)) rfl ?_
          refine Wo.od (o_ld (k := 0) t53 rfl rfl rfl) rfl ?_
          refine Wo.od (o_ln (k := 1) u53 rfl rfl (.inl rfl)) rfl ?_
          refine Wo.od (o_bi rfl rfl (bin_lss _ _ _)) rfl ?_
          refine Wo.od (o_mv rfl) rfl ?_
          rcases br_some hF with ⟨h2973, hF⟩ | ⟨h2973, hF⟩
          ·refine Wo.og (o_mv rfl) (gg rfl rfl (eTT h2973)) rfl ?_
           refine Wo.og (o_bi rfl rfl (bin_lss _ _ _)) (gg rfl rfl (eTT h2973)) rfl ?_
           refine Wo.od (o_pt rfl h2973 rfl) rfl ?_
           refine Wo.nil ?_
           cases hF
           exact At.en () rfl (sc rfl (sc rfl (sc rfl (sc rfl (sc rfl (sc rfl (sc rfl (sc rfl (sc rfl (sc rfl sn)))))))))) (Turn.picks [0, 1, 2, 3, 4] rfl rfl)
          ·refine Wo.s (gg rfl rfl (eFT h2973)) rfl ?_
           refine Wo.s (gg rfl rfl (eFT h2973)) rfl ?_
           refine Wo.od (o_pf rfl h2973 rfl) rfl ?_
           refine Wo.nil ?_
           cases hF
           exact At.en () rfl (sc rfl (sc rfl (sc rfl (sc rfl (sc rfl (sc rfl (sc rfl (sc rfl (sc rfl (sc rfl sn)))))))))) (Turn.picks [0, 1, 2, 3, 4] rfl rfl)
         ·clear h2974
          rintro ⟨⟩
          refine At.tn ?_
          rcases br_some hF with ⟨h2976, hF⟩ | ⟨h2976, hF⟩
          ·refine Wk.condT rfl h2976 ?_
           refine Wk.skip <| At.tn <| Wk.seq ?_
           obtain ⟨v2991, h3006, hF⟩ := ob_some hF
           refine Wk.cut (G := (fun (r : Bool) (g : Unit) => match r, g with | v2991, _ => ⟨.normal, [(1, ptr b8 0), (2, ptr b9 0), (3, .int .i64 v1014), (5, ptr b12 0), (6, .int .i64 v2887), (7, .int .i64 v1018), (8, .int .i64 v2356), (9, .bool v2991), (10, .int .i64 v2918)], [.obj b8 (.cells [.int .u8 ((x1 : Nat) : Int), .int .u8 ((x2 : Nat) : Int), .int .u16 ((x3 : Nat) : Int), .slice a5 l4.length c6] .own), .rd a5 c6 2 l4.length (l4.map (eP (eN .u8) (eN .u8))), .obj b9 (.cells [.int .i64 0, .slice none 0 0] .own), .obj b12 (.cells [.int .i64 y10, .slice a2354 l2353.length l2353.length] .own), .sl a2354 2 l2353.length (l2353.map (eP (eI .i64) (eI .i64)))]⟩) v2991) ?_ ?_
           ·clear hF
            revert v2991
            intro r hF
            refine Wk.block <| Wk.seq <| Wk.draw (by kernel_rfl) ?_
            refine Wo.od (o_fa (r := ptr b8 3) rfl (fa55_3 _ _)) rfl ?_
            refine Wo.od (o_ld (k := 0) t53 rfl rfl rfl) rfl ?_
            refine Wo.od (o_mv rfl) rfl ?_
            obtain ⟨h2992, hF⟩ := gd_some hF
            replace h2992 := inB_some h2992
            refine Wo.openr (k := 1) rfl (pos_of h2992) ?_
            rintro b2993 o2994 rfl
            refine Wo.og (o_ixs s53 rfl rfl h2992) gn rfl ?_
            refine Wo.od (o_ia (r := ptr b2993 (o2994 + v2918.toNat * 2 + 0)) rfl rfl (ia_c ar103 (i := 0) (by decide))) rfl ?_
            obtain ⟨⟨x2995, x2996⟩, h2997, hF⟩ := ob_some hF
            refine Wo.od (o_ldr (k := 0) t5 rfl rfl (map_at h2997) rfl rfl) rfl ?_
            refine Wo.od (o_cv rfl (cv_i (by rw [u5]; rfl) u3)) rfl ?_
            refine Wo.od (o_fa (r := ptr b12 0) rfl (fa25_0 _ _)) rfl ?_
            refine Wo.od (o_ld (k := 4) t3 rfl rfl rfl) rfl ?_
            obtain ⟨h2998, hF⟩ := gd_some hF
            refine Wo.od (o_bi rfl rfl (ib_rem _ _ h2998)) rfl ?_
            refine Wo.od (o_fa (r := ptr b8 3) rfl (fa55_3 _ _)) rfl ?_
            refine Wo.od (o_ld (k := 1) t53 rfl rfl rfl) rfl ?_
            refine Wo.od (o_mv rfl) rfl ?_
            obtain ⟨h2999, hF⟩ := gd_some hF
            replace h2999 := inB_some h2999
            refine Wo.og (o_ixs s53 rfl rfl h2999) gn rfl ?_
            refine Wo.od (o_ia (r := ptr b2993 (o2994 + v2918.toNat * 2 + 1)) rfl rfl (ia_c ar103 (i := 1) (by decide))) rfl ?_
            refine Wo.od (o_ldr (k := 0) t5 rfl rfl (map_at h2997) rfl rfl) rfl ?_
            refine Wo.od (o_cv rfl (cv_i (by rw [u5]; rfl) u3)) rfl ?_
            refine Wo.od (o_fa (r := ptr b12 0) rfl (fa25_0 _ _)) rfl ?_
            refine Wo.od (o_ld (k := 4) t3 rfl rfl rfl) rfl ?_
            obtain ⟨h3000, hF⟩ := gd_some hF
            refine Wo.od (o_bi rfl rfl (ib_rem _ _ h3000)) rfl ?_
            refine Wo.od (o_as rfl) rfl ?_
            refine Wo.od (o_as rfl) rfl ?_
            refine Wo.nil <| At.tn <| Wk.region <| Wo.od (o_mv rfl) rfl ?_
            refine Wo.od (o_mv rfl) rfl ?_
            rcases br_some hF with ⟨h3001, hF⟩ | ⟨h3001, hF⟩
            ·refine Wo.s (gg rfl rfl (eTF h3001)) rfl ?_
             refine Wo.s (gg rfl rfl (eTF h3001)) rfl ?_
             refine Wo.s (gg rfl rfl (eTF h3001)) rfl ?_
             refine Wo.s (gg rfl rfl (eTF h3001)) rfl ?_
             refine Wo.s (gu rfl rfl) rfl ?_
             refine Wo.s (gu rfl rfl) rfl ?_
             refine Wo.s (gu rfl rfl) rfl ?_
             refine Wo.s (gg rfl rfl (eTF h3001)) rfl ?_
             refine Wo.od (o_pt rfl h3001 rfl) rfl ?_
             refine Wo.od (o_mv rfl) rfl ?_
             refine Wo.s (gg rfl rfl rfl) rfl ?_
             refine Wo.s (gg rfl rfl rfl) rfl ?_
             refine Wo.s (gg rfl rfl rfl) rfl ?_
             refine Wo.s (gg rfl rfl rfl) rfl ?_
             refine Wo.s (gu rfl rfl) rfl ?_
             refine Wo.s (gu rfl rfl) rfl ?_
             refine Wo.s (gu rfl rfl) rfl ?_
             refine Wo.s (gg rfl rfl rfl) rfl ?_
             refine Wo.od (o_pT rfl rfl) rfl ?_
             refine Wo.od (o_as rfl) rfl ?_
             refine Wo.nil <| At.bn ?_
             cases hF
             exact At.en () rfl (sc rfl (sc rfl (sc rfl (sc rfl (sc rfl (sc rfl (sc rfl (sc rfl (sc rfl sn))))))))) (Turn.picks [1, 2, 3, 4, 5] rfl rfl)
            ·refine Wo.og (o_mv rfl) (gg rfl rfl (eFF h3001)) rfl ?_
             refine Wo.og (o_mv rfl) (gg rfl rfl (eFF h3001)) rfl ?_
             refine Wo.og (o_bi rfl rfl (bin_eql _ _ _)) (gg rfl rfl (eFF h3001)) rfl ?_
             refine Wo.og (o_mv rfl) (gg rfl rfl (eFF h3001)) rfl ?_
             rcases br_some hF with ⟨h3002, hF⟩ | ⟨h3002, hF⟩
             ·refine Wo.og (o_mv rfl) (gg rfl rfl (eTT h3002)) rfl ?_
              refine Wo.og (o_mv rfl) (gg rfl rfl (eTT h3002)) rfl ?_
              refine Wo.og (o_bi rfl rfl (bin_eql _ _ _)) (gg rfl rfl (eTT h3002)) rfl ?_
              refine Wo.og (o_pt rfl h3002 rfl) (gg rfl rfl (eFF h3001)) rfl ?_
              refine Wo.od (o_pf rfl h3001 rfl) rfl ?_
              refine Wo.od (o_mv rfl) rfl ?_
              rcases br_some hF with ⟨h3003, hF⟩ | ⟨h3003, hF⟩
              ·refine Wo.s (gg rfl rfl (eTF h3003)) rfl ?_
               refine Wo.s (gg rfl rfl (eTF h3003)) rfl ?_
               refine Wo.s (gg rfl rfl (eTF h3003)) rfl ?_
               refine Wo.s (gg rfl rfl (eTF h3003)) rfl ?_
               refine Wo.s (gu rfl rfl) rfl ?_
               refine Wo.s (gu rfl rfl) rfl ?_
               refine Wo.s (gu rfl rfl) rfl ?_
               refine Wo.s (gg rfl rfl (eTF h3003)) rfl ?_
               refine Wo.od (o_pt rfl h3003 rfl) rfl ?_
               refine Wo.od (o_as rfl) rfl ?_
               refine Wo.nil <| At.bn ?_
               cases hF
               exact At.en () rfl (sc rfl (sc rfl (sc rfl (sc rfl (sc rfl (sc rfl (sc rfl (sc rfl (sc rfl sn))))))))) (Turn.picks [1, 2, 3, 4, 5] rfl rfl)
              ·refine Wo.og (o_mv rfl) (gg rfl rfl (eFF h3003)) rfl ?_
               refine Wo.og (o_mv rfl) (gg rfl rfl (eFF h3003)) rfl ?_
               refine Wo.og (o_bi rfl rfl (bin_eql _ _ _)) (gg rfl rfl (eFF h3003)) rfl ?_
               refine Wo.og (o_mv rfl) (gg rfl rfl (eFF h3003)) rfl ?_
               rcases br_some hF with ⟨h3004, hF⟩ | ⟨h3004, hF⟩
               ·refine Wo.og (o_mv rfl) (gg rfl rfl (eTT h3004)) rfl ?_
                refine Wo.og (o_mv rfl) (gg rfl rfl (eTT h3004)) rfl ?_
                refine Wo.og (o_bi rfl rfl (bin_eql _ _ _)) (gg rfl rfl (eTT h3004)) rfl ?_
                refine Wo.og (o_pt rfl h3004 rfl) (gg rfl rfl (eFF h3003)) rfl ?_
                refine Wo.od (o_pf rfl h3003 rfl) rfl ?_
                refine Wo.od (o_as rfl) rfl ?_
                refine Wo.nil <| At.bn ?_
                cases hF
                exact At.en () rfl (sc rfl (sc rfl (sc rfl (sc rfl (sc rfl (sc rfl (sc rfl (sc rfl (sc rfl sn))))))))) (Turn.picks [1, 2, 3, 4, 5] rfl rfl)
               ·refine Wo.s (gg rfl rfl (eFT h3004)) rfl ?_
                refine Wo.s (gg rfl rfl (eFT h3004)) rfl ?_
                refine Wo.s (gg rfl rfl (eFT h3004)) rfl ?_
                refine Wo.og (o_pf rfl h3004 rfl) (gg rfl rfl (eFF h3003)) rfl ?_
                refine Wo.od (o_pf rfl h3003 rfl) rfl ?_
                refine Wo.od (o_as rfl) rfl ?_
                refine Wo.nil <| At.bn ?_
                cases hF
                exact At.en () rfl (sc rfl (sc rfl (sc rfl (sc rfl (sc rfl (sc rfl (sc rfl (sc rfl (sc rfl sn))))))))) (Turn.picks [1, 2, 3, 4, 5] rfl rfl)
             ·refine Wo.s (gg rfl rfl (eFT h3002)) rfl ?_
              refine Wo.s (gg rfl rfl (eFT h3002)) rfl ?_
              refine Wo.s (gg rfl rfl (eFT h3002)) rfl ?_
              refine Wo.og (o_pf rfl h3002 rfl) (gg rfl rfl (eFF h3001)) rfl ?_
              refine Wo.od (o_pf rfl h3001 rfl) rfl ?_
              refine Wo.od (o_mv rfl) rfl ?_
              refine Wo.og (o_mv rfl) (gg rfl rfl rfl) rfl ?_
              refine Wo.og (o_mv rfl) (gg rfl rfl rfl) rfl ?_
              refine Wo.og (o_bi rfl rfl (bin_eql _ _ _)) (gg rfl rfl rfl) rfl ?_
              refine Wo.og (o_mv rfl) (gg rfl rfl rfl) rfl ?_
              rcases br_some hF with ⟨h3005, hF⟩ | ⟨h3005, hF⟩
              ·refine Wo.og (o_mv rfl) (gg rfl rfl (eTT h3005)) rfl ?_
               refine Wo.og (o_mv rfl) (gg rfl rfl (eTT h3005)) rfl ?_
               refine Wo.og (o_bi rfl rfl (bin_eql _ _ _)) (gg rfl rfl (eTT h3005)) rfl ?_
               refine Wo.og (o_pt rfl h3005 rfl) (gg rfl rfl rfl) rfl ?_
               refine Wo.od (o_pF rfl rfl) rfl ?_
               refine Wo.od (o_as rfl) rfl ?_
               refine Wo.nil <| At.bn ?_
               cases hF
               exact At.en () rfl (sc rfl (sc rfl (sc rfl (sc rfl (sc rfl (sc rfl (sc rfl (sc rfl (sc rfl sn))))))))) (Turn.picks [1, 2, 3, 4, 5] rfl rfl)
              ·refine Wo.s (gg rfl rfl (eFT h3005)) rfl ?_
               refine Wo.s (gg rfl rfl (eFT h3005)) rfl ?_
               refine Wo.s (gg rfl rfl (eFT h3005)) rfl ?_
               refine Wo.og (o_pf rfl h3005 rfl) (gg rfl rfl rfl) rfl ?_
               refine Wo.od (o_pF rfl rfl) rfl ?_
               refine Wo.od (o_as rfl) rfl ?_
               refine Wo.nil <| At.bn ?_
               cases hF
               exact At.en () rfl (sc rfl (sc rfl (sc rfl (sc rfl (sc rfl (sc rfl (sc rfl (sc rfl (sc rfl sn))))))))) (Turn.picks [1, 2, 3, 4, 5] rfl rfl)
           ·clear h3006
            rintro ⟨⟩
            refine At.tn <| Wk.region <| Wo.od (o_mv rfl) rfl ?_
            refine Wo.od (o_bi rfl rfl (bin_add _ _ _)) rfl ?_
            refine Wo.od (o_as rfl) rfl ?_
            refine Wo.nil ?_
            cases hF
            exact At.en () rfl (sc rfl (sc rfl (sc rfl (sc rfl (sc rfl (sc rfl (sc rfl (sc rfl (sc rfl sn))))))))) (Turn.picks [0, 1, 2, 3, 4] rfl rfl)
          ·refine Wk.condF rfl h2976 ?_
           refine Wk.exit <| At.te ?_
           cases hF
           exact At.en () rfl (sc rfl (sc rfl (sc rfl (sc rfl (sc rfl (sc rfl (sc rfl (sc rfl sn)))))))) (Turn.picks [0, 1, 2, 3, 4] rfl rfl)
        ·clear h3008
         rintro ⟨⟩
         refine At.be <| At.tn <| Wk.seq <| Wk.region <| Wo.od (o_mv rfl) rfl ?_
         refine Wo.nil <| At.tn ?_
         rcases br_some hF with ⟨h3010, hF⟩ | ⟨h3010, hF⟩
         ·refine Wk.condT rfl h3010 ?_
          refine Wk.region <| Wo.od (o_fa (r := ptr b12 1) rfl (fa25_1 _ _)) rfl ?_
          refine Wo.od (o_ld (k := 3) t23 rfl rfl rfl) rfl ?_
          refine Wo.od (o_mv rfl) rfl ?_
          refine Wo.od (o_mv rfl) rfl ?_
          refine Wo.od (o_bd rfl z26 rfl (bd_s bs26 rfl rfl rfl)) rfl ?_
          refine Wo.x (o_bs (es := ([(v1018, v2356)] : List (Int × Int)).map (eP (eI .i64) (eI .i64))) s23 rfl (bs_c s23 z26 rfl rfl) rfl rfl) gn rfl fun b3011 => ?_
          obtain ⟨h3012, hF⟩ := gd_some hF
          refine Wo.x (o_apl (k := 5) (k2 := 0) (xs := (l2353 : List (Int × Int))) (ys := ([(v1018, v2356)] : List (Int × Int))) (enP (enI .i64) (enI .i64)) s23 ⟨_, u23⟩ rfl rfl rfl (.arr _ _ _ _ _) h3012) gn rfl fun a3013 => ?_
          refine Wo.od (o_fa (r := ptr b12 1) rfl (fa25_1 _ _)) rfl ?_
          refine Wo.o0 (o_st (k := 4) t23 rfl rfl rfl rfl rfl) ?_
          refine Wo.nil <| At.bn ?_
          cases hF
          exact At.en a3013 rfl (sc rfl (sc rfl (sc rfl (sc rfl (sc rfl (sc rfl (sc rfl sn))))))) (Turn.picks [1, 2, 3, 4, 5] rfl rfl)
         ·refine Wk.condF rfl h3010 ?_
          refine Wk.skip <| At.bn ?_
          cases hF
          exact At.en a2354 rfl (sc rfl (sc rfl (sc rfl (sc rfl (sc rfl (sc rfl (sc rfl sn))))))) (Turn.picks [0, 1, 2, 3, 4] rfl rfl)
     ·clear h3014
      obtain ⟨l2851, v2853⟩ := r3015
      rintro a2852
      refine At.tn <| Wk.region <| Wo.od (o_mv rfl) rfl ?_
      refine Wo.od (o_bi rfl rfl (bin_add _ _ _)) rfl ?_
      refine Wo.od (o_as rfl) rfl ?_
      refine Wo.nil ?_
      cases hF
      exact At.en a2852 rfl (sc rfl (sc rfl (sc rfl (sc rfl (sc rfl (sc rfl (sc rfl sn))))))) (Turn.picks [0, 1, 2, 3, 4] rfl rfl)
    ·refine Wk.condF rfl h2690 ?_
     refine Wk.exit <| At.te ?_
     cases hF
     exact At.en a2354 rfl (sc rfl (sc rfl (sc rfl (sc rfl (sc rfl (sc rfl sn)))))) (Turn.picks [0, 1, 2, 3, 4] rfl rfl)
   ·clear h3016
    obtain ⟨l2687, v2689⟩ := r3017
    rintro a2688
    refine At.be <| At.bn <| At.tn <| Wk.region <| Wo.od (o_mv rfl) rfl ?_
    refine Wo.od (o_bi rfl rfl (bin_add _ _ _)) rfl ?_
    refine Wo.od (o_as rfl) rfl ?_
    refine Wo.nil ?_
    cases hF
    exact At.en a2688 rfl (sc rfl (sc rfl (sc rfl (sc rfl (sc rfl (sc rfl sn)))))) (Turn.picks [0, 1, 2, 3, 4] rfl rfl)
  ·refine Wk.condF rfl h2022 ?_
   refine Wk.exit <| At.te ?_
   cases hF
   exact At.en a1016 rfl (sc rfl (sc rfl sn)) (Turn.picks [2, 3, 4] rfl rfl)
 ·clear h3018
  rintro a2021
  refine At.be <| At.tn <| Wk.seq <| Wk.region <| Wo.od (o_ld (k := 1) t25 rfl rfl rfl) rfl ?_
  refine Wo.o0 (o_st (k := 0) t25 rfl rfl rfl rfl rfl) ?_
  refine Wo.nil <| At.tn <| Wk.ret ?_
  cases hF
  exact At.ret (.cell (k := 0) t25 rfl rfl rfl .nil) fun m' hm => ⟨(a2021, l2020.length), rfl, (Turn.picks [2] rfl rfl) m' hm⟩
theorem f65_ok (n : Nat) (x1 : Nat) (x2 : Nat) (x3 : Int) (x4 : Int) (x5 : Int) (x6 : Int) (l7 : List (Int × Int)) (a8 : Option Addr) (c9 : Nat) (r : Int × List (Int × Int)) (hF : F65 n x1 x2 x3 x4 x5 x6 l7 = some r) (m : AMem) (h10 : Rd m a8 c9 2 l7.length (l7.map (eP (eI .i64) (eI .i64)))) :
  CallA E18w 65 [.agg #[.int .u8 ((x1 : Nat) : Int), .int .u8 ((x2 : Nat) : Int), .int .i64 x3, .int .i64 x4, .int .i64 x5], .agg #[.int .i64 x6, .slice a8 l7.length c9]] m (fun v m' => ∃ x : Option Addr × Nat, v = .agg #[.int .i64 r.1, .slice x.1 x.2 x.2] ∧ Hp m m' [.sl x.1 2 x.2 (r.2.map (eP (eI .i64) (eI .i64)))]) := by
 unfold F65 at hF
 refine call_wk (m0 := m) (ps := [.rd a8 c9 2 l7.length (l7.map (eP (eI .i64) (eI .i64)))]) (N := 145) (rs := [.cell 4 25]) rfl Tryd.func65 rfl rfl rfl ((Hp.start m).inn rfl h10) ?_
 refine Wk.seq <| Wk.region <| Wo.x (o_bx rfl) gn rfl fun b11 => ?_
 refine Wo.x (o_bx rfl) gn rfl fun b12 => ?_
 refine Wo.x (o_al z25 rfl) gn rfl fun b13 => ?_
 refine Wo.nil <| At.tn <| Wk.seq <| Wk.region <| Wo.od (o_fa (r := ptr b12 1) rfl (fa25_1 _ _)) rfl ?_
 refine Wo.od (o_ld (k := 1) t23 rfl rfl rfl) rfl ?_
 refine Wo.od (o_fa (r := ptr b12 1) rfl (fa25_1 _ _)) rfl ?_
 refine Wo.od (o_ld (k := 1) t23 rfl rfl rfl) rfl ?_
 refine Wo.od (o_ln (k := 3) u23 rfl rfl (.inl rfl)) rfl ?_
 refine Wo.od (o_bu rfl rfl (bu_mi _ _)) rfl ?_
 obtain ⟨h14, hF⟩ := gd_some hF
 refine Wo.x (o_srl (k := 3) (lo := 0) (hi := mi (l7.length : Int) (210 : Int)) s23 rfl rfl rfl rfl h14 (.inl ⟨rfl, rfl⟩) (.inr ⟨_, rfl⟩)) gn rfl ?_
 rintro ⟨a15, c16⟩
 obtain ⟨l18, h17, hF⟩ := ob_some hF
 refine Wo.x (o_cl rfl rfl (fun m hm => f26_ok n ((l7.drop (0 : Int).toNat).take ((mi (l7.length : Int) (210 : Int) : Int).toNat - (0 : Int).toNat)) a15 c16 _ h17 m (hm.rd (k := 0) rfl (.rd _ _ _ _ _))) fun _ => rfl) gn rfl ?_
 rintro ⟨a19, n20⟩
 refine Wo.len (k := 0) (xs := l18) rfl ?_
 rintro rfl
 refine Wo.od (o_fa (r := ptr b12 1) rfl (fa25_1 _ _)) rfl ?_
 refine Wo.o0 (o_st (k := 3) t23 rfl rfl rfl rfl rfl) ?_
 refine Wo.nil <| At.tn <| Wk.seq <| Wk.region <| Wo.od (o_fa (r := ptr b12 1) rfl (fa25_1 _ _)) rfl ?_
 refine Wo.od (o_ld (k := 3) t23 rfl rfl rfl) rfl ?_
 refine Wo.od (o_ln (k := 0) u23 rfl rfl (.inl rfl)) rfl ?_
 refine Wo.od (o_as rfl) rfl ?_
 refine Wo.nil <| At.tn <| Wk.seq <| Wk.region <| Wo.od (o_fa (r := ptr b11 1) rfl (fa57_1 _ _)) rfl ?_
 refine Wo.od (o_ld (k := 4) t5 rfl rfl rfl) rfl ?_
 refine Wo.od (o_cv rfl (cv_i (by rw [u5]; rfl) u3)) rfl ?_
 refine Wo.od (o_mv rfl) rfl ?_
 refine Wo.od (o_bi rfl rfl (bin_add _ _ _)) rfl ?_
 obtain ⟨h21, hF⟩ := gd_some hF
 obtain ⟨y22, h23, hF⟩ := ob_some hF
 refine Wo.od (o_bi rfl rfl ((ib_rem _ _ h21).trans (cI h23))) rfl ?_
 refine Wo.od (o_as rfl) rfl ?_
 refine Wo.nil <| At.tn <| Wk.seq ?_
 obtain ⟨r493, h492, hF⟩ := ob_some hF
 refine Wk.cut (G := (fun (r : Int × List (Int × Int) × Nat) (g : Option Addr) => match r, g with | (v256, l257, n259), a258 => ⟨.normal, [(3, ptr b12 0), (4, ptr b13 0)], [.obj b12 (.cells [.int .i64 v256, .slice a258 n259 n259] .own), .sl a258 2 n259 (l257.map (eP (eI .i64) (eI .i64))), .obj b13 (.cells [.int .i64 0, .slice none 0 0] .own)]⟩) r493) ?_ ?_
 ·clear hF
  revert r493
  intro r hF
  refine Wk.seq <| Wk.region <| Wo.od (o_fa (r := ptr b11 0) rfl (fa57_0 _ _)) rfl ?_
  refine Wo.od (o_ld (k := 4) t5 rfl rfl rfl) rfl ?_
  refine Wo.od (o_bi rfl rfl (ub_rem _ _ (by decide))) rfl ?_
  refine Wo.nil <| At.tn <| Wk.block <| Wk.seq <| Wk.region <| Wo.od (o_bi rfl rfl (ub_eql _ _)) rfl ?_
  refine Wo.od (o_as rfl) rfl ?_
  refine Wo.nil <| At.tn ?_
  rcases br_some hF with ⟨h260, hF⟩ | ⟨h260, hF⟩
  ·refine Wk.condT rfl h260 ?_
   refine Wk.region <| Wo.od (o_fa (r := ptr b11 2) rfl (fa57_2 _ _)) rfl ?_
   refine Wo.od (o_ld (k := 4) t3 rfl rfl rfl) rfl ?_
   refine Wo.od (o_fa (r := ptr b12 0) rfl (fa25_0 _ _)) rfl ?_
   refine Wo.o0 (o_st (k := 3) t3 rfl rfl rfl rfl rfl) ?_
   refine Wo.nil <| At.bn ?_
   cases hF
   exact At.en a19 rfl (sc rfl (sc rfl sn)) (Turn.picks [3, 0, 2] rfl rfl)
  ·refine Wk.condF rfl h260 ?_
   refine Wk.seq <| Wk.region <| Wo.od (o_bi rfl rfl (ub_eql _ _)) rfl ?_
   refine Wo.od (o_as rfl) rfl ?_
   refine Wo.nil <| At.tn ?_
   rcases br_some hF with ⟨h261, hF⟩ | ⟨h261, hF⟩
   ·refine Wk.condT rfl h261 ?_
    refine Wk.region <| Wo.od (o_fa (r := ptr b12 1) rfl (fa25_1 _ _)) rfl ?_
    refine Wo.od (o_ld (k := 3) t23 rfl rfl rfl) rfl ?_
    refine Wo.od (o_mv rfl) rfl ?_
    refine Wo.od (o_fa (r := ptr b11 3) rfl (fa57_3 _ _)) rfl ?_
    refine Wo.od (o_ld (k := 4) t26 rfl rfl rfl) rfl ?_
    refine Wo.x (o_bs (es := ([(x4, x5)] : List (Int × Int)).map (eP (eI .i64) (eI .i64))) s23 rfl (bs_c s23 z26 rfl rfl) rfl rfl) gn rfl fun b262 => ?_
    obtain ⟨l263, h264, hF⟩ := ob_some hF
    refine Wo.x (o_cs (α := Option Addr × Nat) (V := fun y => .slice y.1 y.2 y.2) (N := fun y => pset [.arr b262 2 1 (([(x4, x5)]).map (eP (eI .i64) (eI .i64))) .own, .sl a19 2 l18.length (l18.map (eP (eI .i64) (eI .i64))), .rd a15 c16 2 (((l7.drop (0 : Int).toNat).take ((mi (l7.length : Int) (210 : Int) : Int).toNat - (0 : Int).toNat)).length) (((l7.drop (0 : Int).toNat).take ((mi (l7.length : Int) (210 : Int) : Int).toNat - (0 : Int).toNat)).map (eP (eI .i64) (eI .i64))), .obj b13 (.cells [.int .i64 0, .slice none 0 0] .own), .obj b12 (.cells [.int .i64 x6, .slice a19 l18.length l18.length] .own), .obj b11 (.cells [.int .u8 ((x1 : Nat) : Int), .int .u8 ((x2 : Nat) : Int), .int .i64 x3, .int .i64 x4, .int .i64 x5] .own), .rd a8 c9 2 l7.length (l7.map (eP (eI .i64) (eI .i64)))] 1 (.sl y.1 2 y.2 (l263.map (eP (eI .i64) (eI .i64))))) rfl rfl (fun m hm => f82_use n hm (k := 1) rfl (k2 := 0) rfl rfl h264)) gn rfl ?_
    rintro ⟨a265, n266⟩
    refine Wo.len (k := 1) (xs := l263) rfl ?_
    rintro rfl
    refine Wo.od (o_fa (r := ptr b12 1) rfl (fa25_1 _ _)) rfl ?_
    refine Wo.o0 (o_st (k := 4) t23 rfl rfl rfl rfl rfl) ?_
    refine Wo.nil <| At.bn ?_
    cases hF
    exact At.en a265 rfl (sc rfl (sc rfl sn)) (Turn.picks [4, 1, 3] rfl rfl)
   ·refine Wk.condF rfl h261 ?_
    refine Wk.seq <| Wk.region <| Wo.od (o_bi rfl rfl (ub_eql _ _)) rfl ?_
    refine Wo.od (o_as rfl) rfl ?_
    refine Wo.nil <| At.tn ?_
    rcases br_some hF with ⟨h267, hF⟩ | ⟨h267, hF⟩
    ·refine Wk.condT rfl h267 ?_
     refine Wk.seq <| Wk.region <| Wo.od (o_mv rfl) rfl ?_
     refine Wo.od (o_mv rfl) rfl ?_
     refine Wo.od (o_bi rfl rfl (bin_lss _ _ _)) rfl ?_
     refine Wo.nil <| At.tn ?_
     rcases br_some hF with ⟨h268, hF⟩ | ⟨h268, hF⟩
     ·refine Wk.condT rfl h268 ?_
      refine Wk.region <| Wo.od (o_fa (r := ptr b12 1) rfl (fa25_1 _ _)) rfl ?_
      refine Wo.od (o_ld (k := 3) t23 rfl rfl rfl) rfl ?_
      refine Wo.od (o_mv rfl) rfl ?_
      refine Wo.od (o_mv rfl) rfl ?_
      refine Wo.od (o_bi rfl rfl (bin_add _ _ _)) rfl ?_
      obtain ⟨l269, h270, hF⟩ := ob_some hF
      refine Wo.x (o_cs (α := Option Addr × Nat) (V := fun y => .slice y.1 y.2 y.2) (N := fun y => pset [.sl a19 2 l18.length (l18.map (eP (eI .i64) (eI .i64))), .rd a15 c16 2 (((l7.drop (0 : Int).toNat).take ((mi (l7.length : Int) (210 : Int) : Int).toNat - (0 : Int).toNat)).length) (((l7.drop (0 : Int).toNat).take ((mi (l7.length : Int) (210 : Int) : Int).toNat - (0 : Int).toNat)).map (eP (eI .i64) (eI .i64))), .obj b13 (.cells [.int .i64 0, .slice none 0 0] .own), .obj b12 (.cells [.int .i64 x6, .slice a19 l18.length l18.length] .own), .obj b11 (.cells [.int .u8 ((x1 : Nat) : Int), .int .u8 ((x2 : Nat) : Int), .int .i64 x3, .int .i64 x4, .int .i64 x5] .own), .rd a8 c9 2 l7.length (l7.map (eP (eI .i64) (eI .i64)))] 0 (.sl y.1 2 y.2 (l269.map (eP (eI .i64) (eI .i64))))) rfl rfl (fun m hm => f49_use n hm (k := 0) rfl h270)) gn rfl ?_
      rintro ⟨a271, n272⟩
      refine Wo.len (k := 0) (xs := l269) rfl ?_
      rintro rfl
      refine Wo.od (o_fa (r := ptr b12 1) rfl (fa25_1 _ _)) rfl ?_
      refine Wo.o0 (o_st (k := 3) t23 rfl rfl rfl rfl rfl) ?_
      refine Wo.nil <| At.bn ?_
      cases hF
      exact At.en a271 rfl (sc rfl (sc rfl sn)) (Turn.picks [3, 0, 2] rfl rfl)
     ·refine Wk.condF rfl h268 ?_
      refine Wk.skip <| At.bn ?_
      cases hF
      exact At.en a19 rfl (sc rfl (sc rfl sn)) (Turn.picks [3, 0, 2] rfl rfl)
    ·refine Wk.condF rfl h267 ?_
     refine Wk.seq <| Wk.region <| Wo.od (o_bi rfl rfl (ub_eql _ _)) rfl ?_
     refine Wo.od (o_as rfl) rfl ?_
     refine Wo.nil <| At.tn ?_
     rcases br_some hF with ⟨h273, hF⟩ | ⟨h273, hF⟩
     ·refine Wk.condT rfl h273 ?_
      refine Wk.seq <| Wk.region <| Wo.od (o_mv rfl) rfl ?_
      refine Wo.od (o_mv rfl) rfl ?_
      refine Wo.od (o_bi rfl rfl (bin_lss _ _ _)) rfl ?_
      refine Wo.nil <| At.tn ?_
      rcases br_some hF with ⟨h274, hF⟩ | ⟨h274, hF⟩
      ·refine Wk.condT rfl h274 ?_
       refine Wk.drawc (prs := [(4, 20)]) (by kernel_rfl) ?_
       refine Wn.od (o_fa (r := ptr b12 1) rfl (fa25_1 _ _)) rfl ?_
       refine Wn.od (o_ld (k := 3) t23 rfl rfl rfl) rfl ?_
       refine Wn.od (o_mv rfl) rfl ?_
       refine Wn.od (o_fa (r := ptr b12 1) rfl (fa25_1 _ _)) rfl ?_
       refine Wn.odr rfl (o_ld (k := 3) t23 rfl rfl rfl) rfl ?_
       refine Wn.od (o_mv rfl) rfl ?_
       refine Wn.od (o_fa (r := ptr b12 1) rfl (fa25_1 _ _)) rfl ?_
       refine Wn.od (o_ld (k := 3) t23 rfl rfl rfl) rfl ?_
       refine Wn.od (o_mv rfl) rfl ?_
       obtain ⟨h275, hF⟩ := gd_some hF
       replace h275 := inB_some h275
       refine Wn.open (k := 0) rfl (pos_of h275) ?_
       rintro b276 tg277 rfl h278
       refine Wn.og (o_ixa s23 rfl rfl h275) gn rfl ?_
       refine Wn.od (o_ia (r := ptr b276 (y22.toNat * 2 + 1)) rfl rfl (ia_c ar26 (i := 1) (by decide))) rfl ?_
       obtain ⟨⟨x279, x280⟩, h281, hF⟩ := ob_some hF
       refine Wn.od (o_lda (k := 0) t3 rfl rfl (map_at h281) rfl rfl) rfl ?_
       refine Wn.od (o_fa (r := ptr b12 1) rfl (fa25_1 _ _)) rfl ?_
       refine Wn.od (o_ld (k := 3) t23 rfl rfl rfl) rfl ?_
       refine Wn.od (o_mv rfl) rfl ?_
       obtain ⟨h282, hF⟩ := gd_some hF
       replace h282 := inB_some h282
       refine Wn.og (o_ixa s23 rfl rfl h282) gn rfl ?_
       refine Wn.od (o_ia (r := ptr b276 (y22.toNat * 2 + 0)) rfl rfl (ia_c ar26 (i := 0) (by decide))) rfl ?_
       refine Wn.od (o_lda (k := 0) t3 rfl rfl (map_at h281) rfl rfl) rfl ?_
       obtain ⟨h283, hF⟩ := gd_some hF
       replace h283 := inB_some h283
       refine Wn.og (o_ixa s23 rfl rfl h283) gn rfl ?_
       refine Wn.od (o_ia (r := ptr b276 (y22.toNat * 2 + 0)) rfl rfl (ia_c ar26 (i := 0) (by decide))) rfl ?_
       refine Wn.o0w rfl (o_stl (k := 0) (x1 := (x279, x280)) (x2 := (x280, x280)) t3 rfl rfl rfl h281 rfl) ?_
       obtain ⟨h285, hF⟩ := gd_some hF
       replace h285 := inB_some h285
       refine Wn.og (o_ixa s23 rfl rfl h285) gn rfl ?_
       refine Wn.od (o_ia (r := ptr b276 (y22.toNat * 2 + 1)) rfl rfl (ia_c ar26 (i := 1) (by decide))) rfl ?_
       obtain ⟨⟨x286, x287⟩, h288, hF⟩ := ob_some hF
       refine Wn.o0 (o_stl (k := 0) (x1 := (x286, x287)) (x2 := (x286, x279)) t3 rfl rfl rfl h288 rfl) ?_
       refine Wn.nil (fun m hm => (OkP.rw rfl rfl rfl (hm.ne (i := 3) (j := 0) rfl rfl rfl rfl (by decide) rfl) OkP.nil)) ?_
       refine At.bn ?_
       cases hF
       exact At.en (some ⟨b276, 0, none⟩) rfl (sc rfl (sc rfl sn)) (Turn.trans (Turn.close (k := 0) rfl) (Turn.picks [3, 0, 2] rfl rfl))
      ·refine Wk.condF rfl h274 ?_
       refine Wk.skip <| At.bn ?_
       cases hF
       exact At.en a19 rfl (sc rfl (sc rfl sn)) (Turn.picks [3, 0, 2] rfl rfl)
     ·refine Wk.condF rfl h273 ?_
      refine Wk.seq <| Wk.region <| Wo.od (o_bi rfl rfl (ub_eql _ _)) rfl ?_
      refine Wo.od (o_as rfl) rfl ?_
      refine Wo.nil <| At.tn ?_
      rcases br_some hF with ⟨h290, hF⟩ | ⟨h290, hF⟩
      ·refine Wk.condT rfl h290 ?_
       refine Wk.seq <| Wk.region <| Wo.od (o_mv rfl) rfl ?_
       refine Wo.od (o_mv rfl) rfl ?_
       refine Wo.od (o_bi rfl rfl (bin_lss _ _ _)) rfl ?_
       refine Wo.nil <| At.tn ?_
       rcases br_some hF with ⟨h291, hF⟩ | ⟨h291, hF⟩
       ·refine Wk.condT rfl h291 ?_
        refine Wk.draw (by kernel_rfl) ?_
        refine Wo.od (o_fa (r := ptr b12 1) rfl (fa25_1 _ _)) rfl ?_
        refine Wo.od (o_ld (k := 3) t23 rfl rfl rfl) rfl ?_
        refine Wo.od (o_mv rfl) rfl ?_
        refine Wo.od (o_fa (r := ptr b12 1) rfl (fa25_1 _ _)) rfl ?_
        refine Wo.od (o_ld (k := 3) t23 rfl rfl rfl) rfl ?_
        refine Wo.od (o_mv rfl) rfl ?_
        obtain ⟨h292, hF⟩ := gd_some hF
        replace h292 := inB_some h292
        refine Wo.open (k := 0) rfl (pos_of h292) ?_
        rintro b293 tg294 rfl h295
        refine Wo.og (o_ixa s23 rfl rfl h292) gn rfl ?_
        obtain ⟨⟨x296, x297⟩, h298, hF⟩ := ob_some hF
        refine Wo.od (o_lda (k := 0) t26 rfl rfl (map_at h298) rfl rfl) rfl ?_
        refine Wo.x (o_bs (es := ([(x296, x297)] : List (Int × Int)).map (eP (eI .i64) (eI .i64))) s23 rfl (bs_c s23 z26 rfl rfl) rfl rfl) gn rfl fun b299 => ?_
        obtain ⟨l300, h301, hF⟩ := ob_some hF
        refine Wo.turn (Turn.close (k := 1) rfl) ?_
        refine Wo.x (o_cs (α := Option Addr × Nat) (V := fun y => .slice y.1 y.2 y.2) (N := fun y => pset [.arr b299 2 1 (([(x296, x297)]).map (eP (eI .i64) (eI .i64))) .own, .sl (some ⟨b293, 0, none⟩) 2 l18.length (l18.map (eP (eI .i64) (eI .i64))), .rd a15 c16 2 (((l7.drop (0 : Int).toNat).take ((mi (l7.length : Int) (210 : Int) : Int).toNat - (0 : Int).toNat)).length) (((l7.drop (0 : Int).toNat).take ((mi (l7.length : Int) (210 : Int) : Int).toNat - (0 : Int).toNat)).map (eP (eI .i64) (eI .i64))), .obj b13 (.cells [.int .i64 0, .slice none 0 0] .own), .obj b12 (.cells [.int .i64 x6, .slice (some ⟨b293, 0, none⟩) l18.length l18.length] .own), .obj b11 (.cells [.int .u8 ((x1 : Nat) : Int), .int .u8 ((x2 : Nat) : Int), .int .i64 x3, .int .i64 x4, .int .i64 x5] .own), .rd a8 c9 2 l7.length (l7.map (eP (eI .i64) (eI .i64)))] 1 (.sl y.1 2 y.2 (l300.map (eP (eI .i64) (eI .i64))))) rfl rfl (fun m hm => f82_use n hm (k := 1) rfl (k2 := 0) rfl rfl h301)) gn rfl ?_
        rintro ⟨a302, n303⟩
        refine Wo.len (k := 1) (xs := l300) rfl ?_
        rintro rfl
        refine Wo.od (o_fa (r := ptr b12 1) rfl (fa25_1 _ _)) rfl ?_
        refine Wo.o0 (o_st (k := 4) t23 rfl rfl rfl rfl rfl) ?_
        refine Wo.nil <| At.bn ?_
        cases hF
        exact At.en a302 rfl (sc rfl (sc rfl sn)) (Turn.picks [4, 1, 3] rfl rfl)
       ·refine Wk.condF rfl h291 ?_
        refine Wk.skip <| At.bn ?_
        cases hF
        exact At.en a19 rfl (sc rfl (sc rfl sn)) (Turn.picks [3, 0, 2] rfl rfl)
      ·refine Wk.condF rfl h290 ?_
       refine Wk.seq <| Wk.region <| Wo.od (o_bi rfl rfl (ub_eql _ _)) rfl ?_
       refine Wo.od (o_as rfl) rfl ?_
       refine Wo.nil <| At.tn ?_
       rcases br_some hF with ⟨h304, hF⟩ | ⟨h304, hF⟩
       ·refine Wk.condT rfl h304 ?_
        refine Wk.region <| Wo.od (o_fa (r := ptr b12 0) rfl (fa25_0 _ _)) rfl ?_
        refine Wo.od (o_ld (k := 3) t3 rfl rfl rfl) rfl ?_
        refine Wo.od (o_bu rfl rfl (bu_ma _ _)) rfl ?_
        refine Wo.od (o_bi rfl rfl (ib_rem _ _ (by decide))) rfl ?_
        refine Wo.od (o_bi rfl rfl (bin_add _ _ _)) rfl ?_
        refine Wo.od (o_fa (r := ptr b12 0) rfl (fa25_0 _ _)) rfl ?_
        refine Wo.o0 (o_st (k := 3) t3 rfl rfl rfl rfl rfl) ?_
        refine Wo.nil <| At.bn ?_
        cases hF
        exact At.en a19 rfl (sc rfl (sc rfl sn)) (Turn.picks [3, 0, 2] rfl rfl)
       ·refine Wk.condF rfl h304 ?_
        refine Wk.seq <| Wk.region <| Wo.od (o_bi rfl rfl (ub_eql _ _)) rfl ?_
        refine Wo.od (o_as rfl) rfl ?_
        refine Wo.nil <| At.tn ?_
        rcases br_some hF with ⟨h305, hF⟩ | ⟨h305, hF⟩
        ·refine Wk.condT rfl h305 ?_
         refine Wk.seq <| Wk.region <| Wo.od (o_fa (r := ptr b12 0) rfl (fa25_0 _ _)) rfl ?_
         refine Wo.o0 (o_st (k := 3) t3 rfl rfl rfl rfl rfl) ?_
         refine Wo.od (o_fa (r := ptr b12 1) rfl (fa25_1 _ _)) rfl ?_
         refine Wo.o0 (o_st (k := 3) t23 rfl rfl rfl rfl rfl) ?_
         refine Wo.nil <| At.tn <| Wk.seq <| Wk.region <| Wo.od (o_mv rfl) rfl ?_
         refine Wo.nil <| At.tn <| Wk.block ?_
         obtain ⟨l430, h490, hF⟩ := ob_some hF
         refine Wk.cut (G := (fun (r : List (Int × Int)) (g : Option Addr) => match r, g with | l430, a431 => ⟨(.exit 1), [(3, ptr b12 0), (4, ptr b13 0)], [.obj b12 (.cells [.int .i64 64, .slice a431 l430.length l430.length] .own), .sl a431 2 l430.length (l430.map (eP (eI .i64) (eI .i64))), .obj b13 (.cells [.int .i64 0, .slice none 0 0] .own)]⟩) l430) ?_ ?_
         ·refine Wk.weak (fs' := [(2, ptr b11 0), (3, ptr b12 0), (4, ptr b13 0), (112, .int .i64 0)]) (ps' := [.obj b11 (.cells [.int .u8 ((x1 : Nat) : Int), .int .u8 ((x2 : Nat) : Int), .int .i64 x3, .int .i64 x4, .int .i64 x5] .own), .obj b12 (.cells [.int .i64 64, .slice none ([] : List (Int × Int)).length ([] : List (Int × Int)).length] .own), .sl none 2 ([] : List (Int × Int)).length (([] : List (Int × Int)).map (eP (eI .i64) (eI .i64))), .obj b13 (.cells [.int .i64 0, .slice none 0 0] .own)]) (sc rfl (sc rfl (sc rfl (sc rfl sn)))) (Turn.trans (Turn.nil 2 rfl) (Turn.picks [5, 4, 0, 3] rfl rfl)) ?_
          refine Wk.loop (σ := List (Int × Int) × Int) (ρ := List (Int × Int)) (γ := Option Addr) (δ := fun _ => Option Addr) _ (fun (s : List (Int × Int) × Int) (g : Option Addr) => match s, g with | (l366, v368), a367 => ⟨.normal, [(2, ptr b11 0), (3, ptr b12 0), (4, ptr b13 0), (112, .int .i64 v368)], [.obj b11 (.cells [.int .u8 ((x1 : Nat) : Int), .int .u8 ((x2 : Nat) : Int), .int .i64 x3, .int .i64 x4, .int .i64 x5] .own), .obj b12 (.cells [.int .i64 64, .slice a367 l366.length l366.length] .own), .sl a367 2 l366.length (l366.map (eP (eI .i64) (eI .i64))), .obj b13 (.cells [.int .i64 0, .slice none 0 0] .own)]⟩) (fun (r : List (Int × Int)) (g : Option Addr) => match r, g with | l430, a431 => ⟨(.exit 1), [(3, ptr b12 0), (4, ptr b13 0)], [.obj b12 (.cells [.int .i64 64, .slice a431 l430.length l430.length] .own), .sl a431 2 l430.length (l430.map (eP (eI .i64) (eI .i64))), .obj b13 (.cells [.int .i64 0, .slice none 0 0] .own)]⟩) ?_ (fun _ _ => rfl) (fun r d => by intro e; cases e) _ _ _ h490 none
          clear hF h490
          rintro ⟨l366, v368⟩ a367 r hF
          unfold L65_2 at hF
          refine Wk.seq <| Wk.region <| Wo.od (o_bi rfl rfl (bin_lss _ _ _)) rfl ?_
          refine Wo.nil <| At.tn <| Wk.seq ?_
          rcases br_some hF with ⟨h432, hF⟩ | ⟨h432, hF⟩
          ·refine Wk.condT rfl h432 ?_
           refine Wk.skip <| At.tn <| Wk.seq <| Wk.block <| Wk.seq <| Wk.region <| Wo.od (o_mv rfl) rfl ?_
           refine Wo.od (o_as rfl) rfl ?_
           refine Wo.nil <| At.tn <| Wk.seq <| Wk.region <| Wo.od (o_mv rfl) rfl ?_
           refine Wo.od (o_bi rfl rfl (bin_add _ _ _)) rfl ?_
           refine Wo.od (o_as rfl) rfl ?_
           refine Wo.nil <| At.tn <| Wk.block ?_
           obtain ⟨l471, h488, hF⟩ := ob_some hF
           refine Wk.cut (G := (fun (r : List (Int × Int)) (g : Option Addr) => match r, g with | l471, a472 => ⟨(.exit 3), [(2, ptr b11 0), (3, ptr b12 0), (4, ptr b13 0), (112, .int .i64 v368)], [.obj b11 (.cells [.int .u8 ((x1 : Nat) : Int), .int .u8 ((x2 : Nat) : Int), .int .i64 x3, .int .i64 x4, .int .i64 x5] .own), .obj b12 (.cells [.int .i64 64, .slice a472 l471.length l471.length] .own), .sl a472 2 l471.length (l471.map (eP (eI .i64) (eI .i64))), .obj b13 (.cells [.int .i64 0, .slice none 0 0] .own)]⟩) l471) ?_ ?_
           ·refine Wk.weak (fs' := [(2, ptr b11 0), (3, ptr b12 0), (4, ptr b13 0), (7, .int .i64 v368), (8, .int .i64 (IntKind.wrap .i64 (v368 + 1))), (112, .int .i64 v368)]) (ps' := [.obj b11 (.cells [.int .u8 ((x1 : Nat) : Int), .int .u8 ((x2 : Nat) : Int), .int .i64 x3, .int .i64 x4, .int .i64 x5] .own), .obj b12 (.cells [.int .i64 64, .slice a367 l366.length l366.length] .own), .sl a367 2 l366.length (l366.map (eP (eI .i64) (eI .i64))), .obj b13 (.cells [.int .i64 0, .slice none 0 0] .own)]) (sc rfl (sc rfl (sc rfl (sc rfl (sc rfl (sc rfl sn)))))) (Turn.picks [0, 1, 2, 3] rfl rfl) ?_
            refine Wk.loop (σ := List (Int × Int) × Int) (ρ := List (Int × Int)) (γ := Option Addr) (δ := fun _ => Option Addr) _ (fun (s : List (Int × Int) × Int) (g : Option Addr) => match s, g with | (l450, v452), a451 => ⟨.normal, [(2, ptr b11 0), (3, ptr b12 0), (4, ptr b13 0), (7, .int .i64 v368), (8, .int .i64 v452), (112, .int .i64 v368)], [.obj b11 (.cells [.int .u8 ((x1 : Nat) : Int), .int .u8 ((x2 : Nat) : Int), .int .i64 x3, .int .i64 x4, .int .i64 x5] .own), .obj b12 (.cells [.int .i64 64, .slice a451 l450.length l450.length] .own), .sl a451 2 l450.length (l450.map (eP (eI .i64) (eI .i64))), .obj b13 (.cells [.int .i64 0, .slice none 0 0] .own)]⟩) (fun (r : List (Int × Int)) (g : Option Addr) => match r, g with | l471, a472 => ⟨(.exit 3), [(2, ptr b11 0), (3, ptr b12 0), (4, ptr b13 0), (112, .int .i64 v368)], [.obj b11 (.cells [.int .u8 ((x1 : Nat) : Int), .int .u8 ((x2 : Nat) : Int), .int .i64 x3, .int .i64 x4, .int .i64 x5] .own), .obj b12 (.cells [.int .i64 64, .slice a472 l471.length l471.length] .own), .sl a472 2 l471.length (l471.map (eP (eI .i64) (eI .i64))), .obj b13 (.cells [.int .i64 0, .slice none 0 0] .own)]⟩) ?_ (fun _ _ => rfl) (fun r d => by intro e; cases e) _ _ _ h488 a367
            clear hF h488
            rintro ⟨l450, v452⟩ a451 r hF
            unfold L65_1 at hF
            refine Wk.seq <| Wk.seq ?_
            obtain ⟨v480, h482, hF⟩ := ob_some hF
            refine Wk.cut (G := (fun (r : Bool) (g : Unit) => match r, g with | v480, _ => ⟨.normal, [(2, ptr b11 0), (3, ptr b12 0), (4, ptr b13 0), (7, .int .i64 v368), (8, .int .i64 v452), (112, .int .i64 v368), (132, .bool v480)], [.obj b11 (.cells [.int .u8 ((x1 : Nat) : Int), .int .u8 ((x2 : Nat) : Int), .int .i64 x3, .int .i64 x4, .int .i64 x5] .own), .obj b12 (.cells [.int .i64 64, .slice a451 l450.length l450.length] .own), .sl a451 2 l450.length (l450.map (eP (eI .i64) (eI .i64))), .obj b13 (.cells [.int .i64 0, .slice none 0 0] .own)]⟩) v480) ?_ ?_
            ·clear hF
             revert v480
             intro r hF
             refine Wk.region <| Wo.od (o_mv rfl) rfl ?_
             refine Wo.od (o_mv rfl) rfl ?_
             refine Wo.od (o_bi rfl rfl (bin_add _ _ _)) rfl ?_
             refine Wo.od (o_bu rfl rfl (bu_mi _ _)) rfl ?_
             refine Wo.od (o_bi rfl rfl (bin_lss _ _ _)) rfl ?_
             refine Wo.od (o_mv rfl) rfl ?_
             rcases br_some hF with ⟨h481, hF⟩ | ⟨h481, hF⟩
             ·refine Wo.og (o_fa (r := ptr b12 1) rfl (fa25_1 _ _)) (gg rfl rfl (eTT h481)) rfl ?_
              refine Wo.og (o_ld (k := 1) t23 rfl rfl rfl) (gg rfl rfl (eTT h481)) rfl ?_
              refine Wo.og (o_ln (k := 2) u23 rfl rfl (.inl rfl)) (gg rfl rfl (eTT h481)) rfl ?_
              refine Wo.og (o_fa (r := ptr b11 1) rfl (fa57_1 _ _)) (gg rfl rfl (eTT h481)) rfl ?_
              refine Wo.og (o_ld (k := 0) t5 rfl rfl rfl) (gg rfl rfl (eTT h481)) rfl ?_
              refine Wo.og (o_bi rfl rfl (ub_rem _ _ (by decide))) (gg rfl rfl (eTT h481)) rfl ?_
              refine Wo.og (o_cv rfl (cv_i (by rw [u5]; rfl) u3)) (gg rfl rfl (eTT h481)) rfl ?_
              refine Wo.og (o_bi rfl rfl (bin_add _ _ _)) (gg rfl rfl (eTT h481)) rfl ?_
              refine Wo.og (o_bi rfl rfl (bin_lss _ _ _)) (gg rfl rfl (eTT h481)) rfl ?_
              refine Wo.od (o_pt rfl h481 rfl) rfl ?_
              refine Wo.nil ?_
              cases hF
              exact At.en () rfl (sc rfl (sc rfl (sc rfl (sc rfl (sc rfl (sc rfl (sc rfl sn))))))) (Turn.picks [0, 1, 2, 3] rfl rfl)
             ·refine Wo.s (gg rfl rfl (eFT h481)) rfl ?_
              refine Wo.s (gg rfl rfl (eFT h481)) rfl ?_
              refine Wo.s (gg rfl rfl (eFT h481)) rfl ?_
              refine Wo.s (gg rfl rfl (eFT h481)) rfl ?_
              refine Wo.s (gg rfl rfl (eFT h481)) rfl ?_
              refine Wo.s (gg rfl rfl (eFT h481)) rfl ?_
              refine Wo.s (gg rfl rfl (eFT h481)) rfl ?_
              refine Wo.s (gg rfl rfl (eFT h481)) rfl ?_
              refine Wo.s (gg rfl rfl (eFT h481)) rfl ?_
              refine Wo.od (o_pf rfl h481 rfl) rfl ?_
              refine Wo.nil ?_
              cases hF
              exact At.en () rfl (sc rfl (sc rfl (sc rfl (sc rfl (sc rfl (sc rfl (sc rfl sn))))))) (Turn.picks [0, 1, 2, 3] rfl rfl)
            ·clear h482
             rintro ⟨⟩
             refine At.tn ?_
             rcases br_some hF with ⟨h484, hF⟩ | ⟨h484, hF⟩
             ·refine Wk.condT rfl h484 ?_
              refine Wk.skip <| At.tn <| Wk.seq <| Wk.block <| Wk.region <| Wo.od (o_fa (r := ptr b12 1) rfl (fa25_1 _ _)) rfl ?_
              refine Wo.od (o_ld (k := 1) t23 rfl rfl rfl) rfl ?_
              refine Wo.od (o_mv rfl) rfl ?_
              refine Wo.od (o_mv rfl) rfl ?_
              refine Wo.od (o_bd rfl z26 rfl (bd_s bs26 rfl rfl rfl)) rfl ?_
              refine Wo.x (o_bs (es := ([(v368, v452)] : List (Int × Int)).map (eP (eI .i64) (eI .i64))) s23 rfl (bs_c s23 z26 rfl rfl) rfl rfl) gn rfl fun b485 => ?_
              obtain ⟨h486, hF⟩ := gd_some hF
              refine Wo.x (o_apl (k := 3) (k2 := 0) (xs := (l450 : List (Int × Int))) (ys := ([(v368, v452)] : List (Int × Int))) (enP (enI .i64) (enI .i64)) s23 ⟨_, u23⟩ rfl rfl rfl (.arr _ _ _ _ _) h486) gn rfl fun a487 => ?_
              refine Wo.od (o_fa (r := ptr b12 1) rfl (fa25_1 _ _)) rfl ?_
              refine Wo.o0 (o_st (k := 2) t23 rfl rfl rfl rfl rfl) ?_
              refine Wo.nil <| At.bn <| At.tn <| Wk.region <| Wo.od (o_mv rfl) rfl ?_
              refine Wo.od (o_bi rfl rfl (bin_add _ _ _)) rfl ?_
              refine Wo.od (o_as rfl) rfl ?_
              refine Wo.nil ?_
              cases hF
              exact At.en a487 rfl (sc rfl (sc rfl (sc rfl (sc rfl (sc rfl (sc rfl sn)))))) (Turn.picks [1, 2, 3, 4] rfl rfl)
             ·refine Wk.condF rfl h484 ?_
              refine Wk.exit <| At.te ?_
              cases hF
              exact At.en a451 rfl (sc rfl (sc rfl (sc rfl (sc rfl sn)))) (Turn.picks [0, 1, 2, 3] rfl rfl)
           ·clear h488
            rintro a472
            refine At.be <| At.bn <| At.tn <| Wk.region <| Wo.od (o_bi rfl rfl (bin_add _ _ _)) rfl ?_
            refine Wo.od (o_mv rfl) rfl ?_
            refine Wo.nil ?_
            cases hF
            exact At.en a472 rfl (sc rfl (sc rfl (sc rfl (sc rfl sn)))) (Turn.picks [0, 1, 2, 3] rfl rfl)
          ·refine Wk.condF rfl h432 ?_
           refine Wk.exit <| At.te ?_
           cases hF
           exact At.en a367 rfl (sc rfl (sc rfl sn)) (Turn.picks [1, 2, 3] rfl rfl)
         ·clear h490
          rintro a431
          refine At.be <| At.bn ?_
          cases hF
          exact At.en a431 rfl (sc rfl (sc rfl sn)) (Turn.picks [0, 1, 2] rfl rfl)
        ·refine Wk.condF rfl h305 ?_
         refine Wk.skip <| At.bn ?_
         cases hF
         exact At.en a19 rfl (sc rfl (sc rfl sn)) (Turn.picks [3, 0, 2] rfl rfl)
 ·clear h492
  obtain ⟨v256, l257, n259⟩ := r493
  rintro a258
  refine At.tn <| Wk.seq <| Wk.region <| Wo.od (o_ld (k := 0) t25 rfl rfl rfl) rfl ?_
  refine Wo.o0 (o_st (k := 2) t25 rfl rfl rfl rfl rfl) ?_
  refine Wo.nil <| At.tn <| Wk.ret ?_
  cases hF
  exact At.ret (.cell (k := 2) t25 rfl rfl rfl .nil) fun m' hm => ⟨(a258, n259), rfl, (Turn.picks [1] rfl rfl) m' hm⟩
theorem f28_ok (n : Nat) (x1 : Nat) (x2 : Nat) (x3 : Nat) (l4 : List (Nat × Nat)) (x8 : Nat) (x9 : Nat) (x10 : Int) (x11 : Int) (x12 : Int) (x13 : Nat) (x14 : Nat) (x15 : Int) (x16 : Int) (x17 : Int) (a5 : Option Addr) (c6 : Nat) (r : Int × List (Int × Int) × Int × List (Int × Int) × Int × List (Int × Int)) (hF : F28 n x1 x2 x3 l4 x8 x9 x10 x11 x12 x13 x14 x15 x16 x17 = some r) (m : AMem) (h7 : Rd m a5 c6 2 l4.length (l4.map (eP (eN .u8) (eN .u8)))) :
  CallA E18w 28 [.agg #[.int .u8 ((x1 : Nat) : Int), .int .u8 ((x2 : Nat) : Int), .int .u16 ((x3 : Nat) : Int), .slice a5 l4.length c6], .agg #[.int .u8 ((x8 : Nat) : Int), .int .u8 ((x9 : Nat) : Int), .int .i64 x10, .int .i64 x11, .int .i64 x12, .int .u8 ((x13 : Nat) : Int), .int .u8 ((x14 : Nat) : Int), .int .i64 x15, .int .i64 x16, .int .i64 x17]] m (fun v m' => ∃ x : Option Addr × Nat × Option Addr × Nat × Option Addr × Nat, v = .agg #[.int .i64 r.1, .slice x.1 x.2.1 x.2.1, .int .i64 r.2.2.1, .slice x.2.2.1 x.2.2.2.1 x.2.2.2.1, .int .i64 r.2.2.2.2.1, .slice x.2.2.2.2.1 x.2.2.2.2.2 x.2.2.2.2.2] ∧ Hp m m' [.sl x.1 2 x.2.1 (r.2.1.map (eP (eI .i64) (eI .i64))), .sl x.2.2.1 2 x.2.2.2.1 (r.2.2.2.1.map (eP (eI .i64) (eI .i64))), .sl x.2.2.2.2.1 2 x.2.2.2.2.2 (r.2.2.2.2.2.map (eP (eI .i64) (eI .i64)))]) := by
 unfold F28 at hF
 refine call_wk (m0 := m) (ps := [.rd a5 c6 2 l4.length (l4.map (eP (eN .u8) (eN .u8)))]) (N := 20) (rs := [.cell 4 59]) rfl Tryd.func28 rfl rfl rfl ((Hp.start m).inn rfl h7) ?_
 refine Wk.seq <| Wk.region <| Wo.x (o_bx rfl) gn rfl fun b18 => ?_
 refine Wo.x (o_bx rfl) gn rfl fun b19 => ?_
 refine Wo.x (o_al z59 rfl) gn rfl fun b20 => ?_
 refine Wo.nil <| At.tn <| Wk.seq <| Wk.region <| Wo.od (o_ld (k := 2) t55 rfl rfl rfl) rfl ?_
 obtain ⟨⟨r22, l23⟩, h21, hF⟩ := ob_some hF
 refine Wo.x (o_cl rfl rfl (fun m hm => f40_ok n x1 x2 x3 l4 a5 c6 _ h21 m (hm.rd (k := 3) rfl (.rd _ _ _ _ _))) fun _ => rfl) gn rfl ?_
 rintro ⟨a24, n25⟩
 refine Wo.len (k := 0) (xs := l23) rfl ?_
 rintro rfl
 refine Wo.x (o_al z25 rfl) gn rfl fun b26 => ?_
 refine Wo.o0 (o_st (k := 0) t25 rfl rfl rfl rfl rfl) ?_
 refine Wo.nil <| At.tn <| Wk.seq <| Wk.region <| Wo.od (o_ia (r := ptr b19 0) rfl rfl (ia_c ar58 (i := 0) (by decide))) rfl ?_
 refine Wo.od (o_ld (k := 3) t57 rfl rfl rfl) rfl ?_
 refine Wo.od (o_ld (k := 0) t25 rfl rfl rfl) rfl ?_
 obtain ⟨⟨r28, l29⟩, h27, hF⟩ := ob_some hF
 refine Wo.x (o_cl rfl rfl (fun m hm => f65_ok n x8 x9 x10 x11 x12 r22 l23 a24 l23.length _ h27 m (hm.rd (k := 1) rfl (.sl _ _ _ _))) fun _ => rfl) gn rfl ?_
 rintro ⟨a30, n31⟩
 refine Wo.len (k := 0) (xs := l29) rfl ?_
 rintro rfl
 refine Wo.x (o_al z25 rfl) gn rfl fun b32 => ?_
 refine Wo.o0 (o_st (k := 0) t25 rfl rfl rfl rfl rfl) ?_
 refine Wo.nil <| At.tn <| Wk.seq <| Wk.drawc (prs := [(0, 5), (1, 5)]) (by kernel_rfl) ?_
 refine Wn.od (o_ld (k := 2) t25 rfl rfl rfl) rfl ?_
 refine Wn.od (o_ld (k := 0) t25 rfl rfl rfl) rfl ?_
 refine Wn.od (o_ia (r := ptr b19 5) rfl rfl (ia_c ar58 (i := 1) (by decide))) rfl ?_
 refine Wn.od (o_ld (k := 5) t57 rfl rfl rfl) rfl ?_
 refine Wn.od (o_ld (k := 0) t25 rfl rfl rfl) rfl ?_
 obtain ⟨⟨r34, l35⟩, h33, hF⟩ := ob_some hF
 refine Wn.c (o_ce rfl rfl (fun m hm => f65_ok n x13 x14 x15 x16 x17 r28 l29 a30 l29.length _ h33 m (hm.rd (k := 1) rfl (.sl _ _ _ _))) fun _ => rfl) gn rfl ?_
 rintro ⟨a36, n37⟩
 refine Wn.len (k := 0) (xs := l35) rfl ?_
 rintro rfl
 refine Wn.od (o_bd rfl z59 rfl (bd_s bs59 rfl rfl rfl)) rfl ?_
 refine Wn.o0 (o_st (k := 5) t59 rfl rfl rfl rfl rfl) ?_
 refine Wn.nil (fun m hm => OkP.all rfl) ?_
 refine At.tn <| Wk.ret ?_
 cases hF
 exact At.ret (.cell (k := 5) t59 rfl rfl rfl .nil) fun m' hm => ⟨(a24, l23.length, a30, l29.length, a36, l35.length), rfl, (Turn.picks [4, 2, 0] rfl rfl) m' hm⟩
theorem f94_ok (n : Nat) (x1 : Int)  (r : Bool) (hF : F94 n x1 = some r) (m : AMem)  :
  CallA E18w 94 [.int .i64 x1] m (fun v m' => ∃ x : Unit, v = .bool r ∧ Hp m m' []) := by
 unfold F94 at hF
 refine call_wk (m0 := m) (ps := []) (N := 6) (rs := [.tmp 2]) rfl Tryd.func94 rfl rfl rfl (Hp.start m) ?_
 refine Wk.seq <| Wk.region <| Wo.od (o_as rfl) rfl ?_
 refine Wo.nil <| At.tn <| Wk.seq <| Wk.region <| Wo.od (o_mv rfl) rfl ?_
 refine Wo.od (o_mv rfl) rfl ?_
 refine Wo.od (o_bi rfl rfl (ib_neq _ _)) rfl ?_
 refine Wo.od (o_as rfl) rfl ?_
 refine Wo.nil <| At.tn <| Wk.ret ?_
 cases hF
 exact At.ret (.tmp rfl .nil) fun m' hm => ⟨(), rfl, (Turn.picks [] rfl rfl) m' hm⟩
theorem f81_ok (n : Nat) (x1 : Int) (x2 : Int)  (r : Int) (hF : F81 n x1 x2 = some r) (m : AMem)  :
  CallA E18w 81 [.int .i64 x1, .int .i64 x2] m (fun v m' => ∃ x : Unit, v = .int .i64 r ∧ Hp m m' []) := by
 unfold F81 at hF
 refine call_wk (m0 := m) (ps := []) (N := 20) (rs := [.tmp 4]) rfl Tryd.func81 rfl rfl rfl (Hp.start m) ?_
 refine Wk.seq <| Wk.region <| Wo.od (o_as rfl) rfl ?_
 refine Wo.nil <| At.tn <| Wk.seq <| Wk.region <| Wo.od (o_mv rfl) rfl ?_
 obtain ⟨r4, h3, hF⟩ := ob_some hF
 refine Wo.x (o_cl rfl rfl (fun m hm => f94_ok n x1  _ h3 m ) fun _ => rfl) gn rfl ?_
 rintro ⟨⟩
 refine Wo.od (o_as rfl) rfl ?_
 refine Wo.nil <| At.tn <| Wk.seq <| Wk.region <| Wo.od (o_mv rfl) rfl ?_
 obtain ⟨r6, h5, hF⟩ := ob_some hF
 refine Wo.x (o_cl rfl rfl (fun m hm => f94_ok n x2  _ h5 m ) fun _ => rfl) gn rfl ?_
 rintro ⟨⟩
 refine Wo.od (o_as rfl) rfl ?_
 refine Wo.nil <| At.tn <| Wk.seq <| Wk.seq <| Wk.region <| Wo.od (o_mv rfl) rfl ?_
 refine Wo.nil <| At.tn ?_
 rcases br_some hF with ⟨h7, hF⟩ | ⟨h7, hF⟩
 ·refine Wk.condT rfl h7 ?_
  refine Wk.seq <| Wk.seq <| Wk.region <| Wo.od (o_mv rfl) rfl ?_
  refine Wo.nil <| At.tn ?_
  rcases br_some hF with ⟨h8, hF⟩ | ⟨h8, hF⟩
  ·refine Wk.condT rfl h8 ?_
   refine Wk.seq <| Wk.region <| Wo.od (o_as rfl) rfl ?_
   refine Wo.nil <| At.tn <| Wk.ret <| At.tr <| At.tr ?_
   cases hF
   exact At.ret (.tmp rfl .nil) fun m' hm => ⟨(), rfl, (Turn.picks [] rfl rfl) m' hm⟩
  ·refine Wk.condF rfl h8 ?_
   refine Wk.skip <| At.tn <| Wk.seq <| Wk.region <| Wo.od (o_as rfl) rfl ?_
   refine Wo.nil <| At.tn <| Wk.ret <| At.tr ?_
   cases hF
   exact At.ret (.tmp rfl .nil) fun m' hm => ⟨(), rfl, (Turn.picks [] rfl rfl) m' hm⟩
 ·refine Wk.condF rfl h7 ?_
  refine Wk.skip <| At.tn <| Wk.seq <| Wk.seq <| Wk.region <| Wo.od (o_mv rfl) rfl ?_
  refine Wo.nil <| At.tn ?_
  rcases br_some hF with ⟨h9, hF⟩ | ⟨h9, hF⟩
  ·refine Wk.condT rfl h9 ?_
   refine Wk.seq <| Wk.region <| Wo.od (o_as rfl) rfl ?_
   refine Wo.nil <| At.tn <| Wk.ret <| At.tr ?_
   cases hF
   exact At.ret (.tmp rfl .nil) fun m' hm => ⟨(), rfl, (Turn.picks [] rfl rfl) m' hm⟩
  ·refine Wk.condF rfl h9 ?_
   refine Wk.skip <| At.tn <| Wk.seq <| Wk.seq <| Wk.region <| Wo.od (o_mv rfl) rfl ?_
   refine Wo.od (o_mv rfl) rfl ?_
   refine Wo.od (o_bi rfl rfl (bin_lss _ _ _)) rfl ?_
   refine Wo.nil <| At.tn ?_
   rcases br_some hF with ⟨h10, hF⟩ | ⟨h10, hF⟩
   ·refine Wk.condT rfl h10 ?_
    refine Wk.seq <| Wk.region <| Wo.od (o_as rfl) rfl ?_
    refine Wo.nil <| At.tn <| Wk.ret <| At.tr ?_
    cases hF
    exact At.ret (.tmp rfl .nil) fun m' hm => ⟨(), rfl, (Turn.picks [] rfl rfl) m' hm⟩
   ·refine Wk.condF rfl h10 ?_
    refine Wk.skip <| At.tn <| Wk.seq <| Wk.seq <| Wk.region <| Wo.od (o_mv rfl) rfl ?_
    refine Wo.od (o_mv rfl) rfl ?_
    refine Wo.od (o_bi rfl rfl (bin_gtr _ _ _)) rfl ?_
    refine Wo.nil <| At.tn ?_
    rcases br_some hF with ⟨h11, hF⟩ | ⟨h11, hF⟩
    ·refine Wk.condT rfl h11 ?_
     refine Wk.seq <| Wk.region <| Wo.od (o_as rfl) rfl ?_
     refine Wo.nil <| At.tn <| Wk.ret <| At.tr ?_
     cases hF
     exact At.ret (.tmp rfl .nil) fun m' hm => ⟨(), rfl, (Turn.picks [] rfl rfl) m' hm⟩
    ·refine Wk.condF rfl h11 ?_
     refine Wk.skip <| At.tn <| Wk.seq <| Wk.region <| Wo.od (o_as rfl) rfl ?_
     refine Wo.nil <| At.tn <| Wk.ret ?_
     cases hF
     exact At.ret (.tmp rfl .nil) fun m' hm => ⟨(), rfl, (Turn.picks [] rfl rfl) m' hm⟩
theorem f64_ok (n : Nat) (l1 : List (Int)) (l5 : List (Int)) (a2 : Option Addr) (c3 : Nat) (a6 : Option Addr) (c7 : Nat) (r : Int) (hF : F64 n l1 l5 = some r) (m : AMem) (h4 : Rd m a2 c3 1 l1.length (l1.map (eI .i64))) (h8 : Rd m a6 c7 1 l5.length (l5.map (eI .i64))) :
  CallA E18w 64 [.slice a2 l1.length c3, .slice a6 l5.length c7] m (fun v m' => ∃ x : Unit, v = .int .i64 r ∧ Hp m m' []) := by
 unfold F64 at hF
 refine call_wk (m0 := m) (ps := [.rd a6 c7 1 l5.length (l5.map (eI .i64)), .rd a2 c3 1 l1.length (l1.map (eI .i64))]) (N := 36) (rs := [.tmp 4]) rfl Tryd.func64 rfl rfl rfl (((Hp.start m).inn rfl h4).inn rfl h8) ?_
 refine Wk.seq <| Wk.region <| Wo.od (o_as rfl) rfl ?_
 refine Wo.nil <| At.tn <| Wk.seq <| Wk.seq <| Wk.region <| Wo.od (o_mv rfl) rfl ?_
 refine Wo.od (o_ln (k := 1) u39 rfl rfl (.inl rfl)) rfl ?_
 refine Wo.od (o_mv rfl) rfl ?_
 refine Wo.nil <| At.tn <| Wk.block ?_
 obtain ⟨r44, h43, hF⟩ := ob_some hF
 refine Wk.cut (G := (fun (r : (Int) ⊕ (Unit)) (g : Unit) => match r, g with | .inl v27, _ => ⟨.ret, [(4, .int .i64 v27)], []⟩ | .inr _, _ => ⟨(.exit 0), [(0, .slice a2 l1.length c3), (1, .slice a6 l5.length c7)], [.rd a2 c3 1 l1.length (l1.map (eI .i64)), .rd a6 c7 1 l5.length (l5.map (eI .i64))]⟩) r44) ?_ ?_
 ·refine Wk.weak (fs' := [(0, .slice a2 l1.length c3), (1, .slice a6 l5.length c7), (9, .slice a2 l1.length c3), (10, .int .i64 (l1.length : Int)), (11, .int .i64 0)]) (ps' := [.rd a2 c3 1 l1.length (l1.map (eI .i64)), .rd a6 c7 1 l5.length (l5.map (eI .i64))]) (sc rfl (sc rfl (sc rfl (sc rfl (sc rfl sn))))) (Turn.picks [1, 0] rfl rfl) ?_
  refine Wk.loop (σ := Int) (ρ := (Int) ⊕ (Unit)) (γ := Unit) (δ := fun _ => Unit) _ (fun (s : Int) (g : Unit) => match s, g with | v10, _ => ⟨.normal, [(0, .slice a2 l1.length c3), (1, .slice a6 l5.length c7), (9, .slice a2 l1.length c3), (10, .int .i64 (l1.length : Int)), (11, .int .i64 v10)], [.rd a2 c3 1 l1.length (l1.map (eI .i64)), .rd a6 c7 1 l5.length (l5.map (eI .i64))]⟩) (fun (r : (Int) ⊕ (Unit)) (g : Unit) => match r, g with | .inl v27, _ => ⟨.ret, [(4, .int .i64 v27)], []⟩ | .inr _, _ => ⟨(.exit 0), [(0, .slice a2 l1.length c3), (1, .slice a6 l5.length c7)], [.rd a2 c3 1 l1.length (l1.map (eI .i64)), .rd a6 c7 1 l5.length (l5.map (eI .i64))]⟩) ?_ (fun _ _ => rfl) (fun r d => by rcases r with _ | _ <;> (intro e; cases e)) _ _ _ h43 ()
  clear hF h43
  rintro v10 ⟨⟩ r hF
  unfold L64_1 at hF
  refine Wk.seq <| Wk.region <| Wo.od (o_bi rfl rfl (bin_lss _ _ _)) rfl ?_
  refine Wo.nil <| At.tn <| Wk.seq ?_
  rcases br_some hF with ⟨h28, hF⟩ | ⟨h28, hF⟩
  ·refine Wk.condT rfl h28 ?_
   refine Wk.skip <| At.tn <| Wk.seq <| Wk.block <| Wk.seq <| Wk.region <| Wo.od (o_mv rfl) rfl ?_
   obtain ⟨h29, hF⟩ := gd_some hF
   replace h29 := inB_some h29
   refine Wo.openr (k := 0) rfl (pos_of h29) ?_
   rintro b30 o31 rfl
   refine Wo.og (o_ixs s39 rfl rfl h29) gn rfl ?_
   obtain ⟨x32, h33, hF⟩ := ob_some hF
   refine Wo.od (o_ldr (k := 0) t3 rfl rfl (map_at h33) rfl rfl) rfl ?_
   refine Wo.od (o_as rfl) rfl ?_
   refine Wo.od (o_as rfl) rfl ?_
   refine Wo.nil <| At.tn <| Wk.seq <| Wk.seq <| Wk.region <| Wo.od (o_mv rfl) rfl ?_
   refine Wo.od (o_mv rfl) rfl ?_
   refine Wo.od (o_ln (k := 2) u39 rfl rfl (.inl rfl)) rfl ?_
   refine Wo.od (o_bi rfl rfl (bin_geq _ _ _)) rfl ?_
   refine Wo.nil <| At.tn ?_
   rcases br_some hF with ⟨h34, hF⟩ | ⟨h34, hF⟩
   ·refine Wk.condT rfl h34 ?_
    refine Wk.seq <| Wk.region <| Wo.od (o_as rfl) rfl ?_
    refine Wo.nil <| At.tn <| Wk.ret <| At.tr <| At.br <| At.tr ?_
    cases hF
    exact At.en () rfl (sc rfl sn) (Turn.picks [] rfl rfl)
   ·refine Wk.condF rfl h34 ?_
    refine Wk.skip <| At.tn <| Wk.seq <| Wk.region <| Wo.od (o_mv rfl) rfl ?_
    refine Wo.od (o_mv rfl) rfl ?_
    obtain ⟨h35, hF⟩ := gd_some hF
    replace h35 := inB_some h35
    refine Wo.openr (k := 2) rfl (pos_of h35) ?_
    rintro b36 o37 rfl
    refine Wo.og (o_ixs s39 rfl rfl h35) gn rfl ?_
    obtain ⟨x38, h39, hF⟩ := ob_some hF
    refine Wo.od (o_ldr (k := 0) t3 rfl rfl (map_at h39) rfl rfl) rfl ?_
    refine Wo.od (o_as rfl) rfl ?_
    refine Wo.nil <| At.tn <| Wk.seq <| Wk.region <| Wo.od (o_mv rfl) rfl ?_
    refine Wo.od (o_mv rfl) rfl ?_
    obtain ⟨r41, h40, hF⟩ := ob_some hF
    refine Wo.x (o_cl rfl rfl (fun m hm => f81_ok n x32 x38  _ h40 m ) fun _ => rfl) gn rfl ?_
    rintro ⟨⟩
    refine Wo.od (o_as rfl) rfl ?_
    refine Wo.nil <| At.tn <| Wk.seq <| Wk.region <| Wo.od (o_mv rfl) rfl ?_
    refine Wo.od (o_bi rfl rfl (ib_neq _ _)) rfl ?_
    refine Wo.nil <| At.tn ?_
    rcases br_some hF with ⟨h42, hF⟩ | ⟨h42, hF⟩
    ·refine Wk.condT rfl h42 ?_
     refine Wk.seq <| Wk.region <| Wo.od (o_mv rfl) rfl ?_
     refine Wo.od (o_as rfl) rfl ?_
     refine Wo.nil <| At.tn <| Wk.ret <| At.br <| At.tr ?_
     cases hF
     exact At.en () rfl (sc rfl sn) (Turn.picks [] rfl rfl)
    ·refine Wk.condF rfl h42 ?_
     refine Wk.skip <| At.bn <| At.tn <| Wk.region <| Wo.od (o_bi rfl rfl (bin_add _ _ _)) rfl ?_
     refine Wo.od (o_mv rfl) rfl ?_
     refine Wo.nil ?_
     cases hF
     exact At.en () rfl (sc rfl (sc rfl (sc rfl (sc rfl (sc rfl sn))))) (Turn.picks [2, 3] rfl rfl)
  ·refine Wk.condF rfl h28 ?_
   refine Wk.exit <| At.te ?_
   cases hF
   exact At.en () rfl (sc rfl (sc rfl sn)) (Turn.picks [0, 1] rfl rfl)
 ·clear h43
  rcases r44 with v27 | _
  ·rintro ⟨⟩
   refine At.br <| At.tr ?_
   have hr := Option.some.inj hF
   subst r
   exact At.ret (.tmp rfl .nil) fun m' hm => ⟨(), rfl, (Turn.picks [] rfl rfl) m' hm⟩
  ·rintro ⟨⟩
   refine At.be <| At.tn <| Wk.seq <| Wk.seq <| Wk.region <| Wo.od (o_mv rfl) rfl ?_
   refine Wo.od (o_ln (k := 0) u39 rfl rfl (.inl rfl)) rfl ?_
   refine Wo.od (o_mv rfl) rfl ?_
   refine Wo.od (o_ln (k := 1) u39 rfl rfl (.inl rfl)) rfl ?_
   refine Wo.od (o_bi rfl rfl (bin_lss _ _ _)) rfl ?_
   refine Wo.nil <| At.tn ?_
   rcases br_some hF with ⟨h45, hF⟩ | ⟨h45, hF⟩
   ·refine Wk.condT rfl h45 ?_
    refine Wk.seq <| Wk.region <| Wo.od (o_as rfl) rfl ?_
    refine Wo.nil <| At.tn <| Wk.ret <| At.tr ?_
    cases hF
    exact At.ret (.tmp rfl .nil) fun m' hm => ⟨(), rfl, (Turn.picks [] rfl rfl) m' hm⟩
   ·refine Wk.condF rfl h45 ?_
    refine Wk.skip <| At.tn <| Wk.seq <| Wk.region <| Wo.od (o_as rfl) rfl ?_
    refine Wo.nil <| At.tn <| Wk.ret ?_
    cases hF
    exact At.ret (.tmp rfl .nil) fun m' hm => ⟨(), rfl, (Turn.picks [] rfl rfl) m' hm⟩
theorem f23_ok (n : Nat) (x1 : Int) (l2 : List (Int × Int)) (a3 : Option Addr) (c4 : Nat) (r : Int) (hF : F23 n x1 l2 = some r) (m : AMem) (h5 : Rd m a3 c4 2 l2.length (l2.map (eP (eI .i64) (eI .i64)))) :
  CallA E18w 23 [.agg #[.int .i64 x1, .slice a3 l2.length c4]] m (fun v m' => ∃ x : Unit, v = .int .i64 r ∧ Hp m m' []) := by
 unfold F23 at hF
 refine call_wk (m0 := m) (ps := [.rd a3 c4 2 l2.length (l2.map (eP (eI .i64) (eI .i64)))]) (N := 53) (rs := [.tmp 2]) rfl Tryd.func23 rfl rfl rfl ((Hp.start m).inn rfl h5) ?_
 refine Wk.seq <| Wk.region <| Wo.x (o_bx rfl) gn rfl fun b6 => ?_
 refine Wo.od (o_as rfl) rfl ?_
 refine Wo.nil <| At.tn <| Wk.seq <| Wk.seq ?_
 obtain ⟨v17, h20, hF⟩ := ob_some hF
 refine Wk.cut (G := (fun (r : Bool) (g : Unit) => match r, g with | v17, _ => ⟨.normal, [(1, ptr b6 0), (19, .bool v17)], [.obj b6 (.cells [.int .i64 x1, .slice a3 l2.length c4] .own), .rd a3 c4 2 l2.length (l2.map (eP (eI .i64) (eI .i64)))]⟩) v17) ?_ ?_
 ·clear hF
  revert v17
  intro r hF
  refine Wk.region <| Wo.od (o_fa (r := ptr b6 0) rfl (fa25_0 _ _)) rfl ?_
  refine Wo.od (o_ld (k := 0) t3 rfl rfl rfl) rfl ?_
  refine Wo.od (o_bi rfl rfl (bin_lss _ _ _)) rfl ?_
  refine Wo.od (o_mv rfl) rfl ?_
  rcases br_some hF with ⟨h18, hF⟩ | ⟨h18, hF⟩
  ·refine Wo.s (gg rfl rfl (eTF h18)) rfl ?_
   refine Wo.s (gg rfl rfl (eTF h18)) rfl ?_
   refine Wo.s (gg rfl rfl (eTF h18)) rfl ?_
   refine Wo.od (o_pt rfl h18 rfl) rfl ?_
   refine Wo.od (o_mv rfl) rfl ?_
   refine Wo.s (gg rfl rfl rfl) rfl ?_
   refine Wo.s (gg rfl rfl rfl) rfl ?_
   refine Wo.s (gg rfl rfl rfl) rfl ?_
   refine Wo.s (gg rfl rfl rfl) rfl ?_
   refine Wo.od (o_pT rfl rfl) rfl ?_
   refine Wo.nil ?_
   cases hF
   exact At.en () rfl (sc rfl (sc rfl sn)) (Turn.picks [0, 1] rfl rfl)
  ·refine Wo.og (o_fa (r := ptr b6 0) rfl (fa25_0 _ _)) (gg rfl rfl (eFF h18)) rfl ?_
   refine Wo.og (o_ld (k := 0) t3 rfl rfl rfl) (gg rfl rfl (eFF h18)) rfl ?_
   refine Wo.og (o_bi rfl rfl (bin_gtr _ _ _)) (gg rfl rfl (eFF h18)) rfl ?_
   refine Wo.od (o_pf rfl h18 rfl) rfl ?_
   refine Wo.od (o_mv rfl) rfl ?_
   rcases br_some hF with ⟨h19, hF⟩ | ⟨h19, hF⟩
   ·refine Wo.s (gg rfl rfl (eTF h19)) rfl ?_
    refine Wo.s (gg rfl rfl (eTF h19)) rfl ?_
    refine Wo.s (gg rfl rfl (eTF h19)) rfl ?_
    refine Wo.s (gg rfl rfl (eTF h19)) rfl ?_
    refine Wo.od (o_pt rfl h19 rfl) rfl ?_
    refine Wo.nil ?_
    cases hF
    exact At.en () rfl (sc rfl (sc rfl sn)) (Turn.picks [0, 1] rfl rfl)
   ·refine Wo.og (o_fa (r := ptr b6 1) rfl (fa25_1 _ _)) (gg rfl rfl (eFF h19)) rfl ?_
    refine Wo.og (o_ld (k := 0) t23 rfl rfl rfl) (gg rfl rfl (eFF h19)) rfl ?_
    refine Wo.og (o_ln (k := 1) u23 rfl rfl (.inl rfl)) (gg rfl rfl (eFF h19)) rfl ?_
    refine Wo.og (o_bi rfl rfl (bin_gtr _ _ _)) (gg rfl rfl (eFF h19)) rfl ?_
    refine Wo.od (o_pf rfl h19 rfl) rfl ?_
    refine Wo.nil ?_
    cases hF
    exact At.en () rfl (sc rfl (sc rfl sn)) (Turn.picks [0, 1] rfl rfl)
 ·clear h20
  rintro ⟨⟩
  refine At.tn ?_
  rcases br_some hF with ⟨h22, hF⟩ | ⟨h22, hF⟩
  ·refine Wk.condT rfl h22 ?_
   refine Wk.seq <| Wk.region <| Wo.od (o_as rfl) rfl ?_
   refine Wo.nil <| At.tn <| Wk.ret <| At.tr ?_
   cases hF
   exact At.ret (.tmp rfl .nil) fun m' hm => ⟨(), rfl, (Turn.picks [] rfl rfl) m' hm⟩
  ·refine Wk.condF rfl h22 ?_
   refine Wk.skip <| At.tn <| Wk.seq <| Wk.region <| Wo.od (o_bd rfl z26 rfl (bd_s bs26 rfl rfl rfl)) rfl ?_
   refine Wo.x (o_al z26 rfl) gn rfl fun b23 => ?_
   refine Wo.o0 (o_st (k := 0) t26 rfl rfl rfl rfl rfl) ?_
   refine Wo.nil <| At.tn <| Wk.seq <| Wk.seq <| Wk.region <| Wo.od (o_fa (r := ptr b6 1) rfl (fa25_1 _ _)) rfl ?_
   refine Wo.od (o_ld (k := 1) t23 rfl rfl rfl) rfl ?_
   refine Wo.od (o_ln (k := 2) u23 rfl rfl (.inl rfl)) rfl ?_
   refine Wo.od (o_mv rfl) rfl ?_
   refine Wo.nil <| At.tn <| Wk.block ?_
   obtain ⟨r246, h245, hF⟩ := ob_some hF
   refine Wk.cut (G := (fun (r : (Unit) ⊕ (Unit)) (g : Unit) => match r, g with | .inl _, _ => ⟨.ret, [(2, .int .i64 180)], []⟩ | .inr _, _ => ⟨(.exit 0), [], []⟩) r246) ?_ ?_
   ·refine Wk.weak (fs' := [(1, ptr b6 0), (3, ptr b23 0), (22, .slice a3 l2.length c4), (23, .int .i64 (l2.length : Int)), (24, .int .i64 0)]) (ps' := [.obj b6 (.cells [.int .i64 x1, .slice a3 l2.length c4] .own), .rd a3 c4 2 l2.length (l2.map (eP (eI .i64) (eI .i64))), .obj b23 (.cells [.int .i64 (-1), .int .i64 (-1)] .own)]) (sc rfl (sc rfl (sc rfl (sc rfl (sc rfl sn))))) (Turn.picks [1, 2, 0] rfl rfl) ?_
    refine Wk.loop (σ := Int × Int × Int) (ρ := (Unit) ⊕ (Unit)) (γ := Unit) (δ := fun _ => Unit) _ (fun (s : Int × Int × Int) (g : Unit) => match s, g with | (v97, v98, v99), _ => ⟨.normal, [(1, ptr b6 0), (3, ptr b23 0), (22, .slice a3 l2.length c4), (23, .int .i64 (l2.length : Int)), (24, .int .i64 v99)], [.obj b6 (.cells [.int .i64 x1, .slice a3 l2.length c4] .own), .rd a3 c4 2 l2.length (l2.map (eP (eI .i64) (eI .i64))), .obj b23 (.cells [.int .i64 v97, .int .i64 v98] .own)]⟩) (fun (r : (Unit) ⊕ (Unit)) (g : Unit) => match r, g with | .inl _, _ => ⟨.ret, [(2, .int .i64 180)], []⟩ | .inr _, _ => ⟨(.exit 0), [], []⟩) ?_ (fun _ _ => rfl) (fun r d => by rcases r with _ | _ <;> (intro e; cases e)) _ _ _ h245 ()
    clear hF h245
    rintro ⟨v97, v98, v99⟩ ⟨⟩ r hF
    unfold L23_1 at hF
    refine Wk.seq <| Wk.region <| Wo.od (o_bi rfl rfl (bin_lss _ _ _)) rfl ?_
    refine Wo.nil <| At.tn <| Wk.seq ?_
    rcases br_some hF with ⟨h174, hF⟩ | ⟨h174, hF⟩
    ·refine Wk.condT rfl h174 ?_
     refine Wk.skip <| At.tn <| Wk.seq <| Wk.block <| Wk.seq <| Wk.region ?_
     obtain ⟨h210, hF⟩ := gd_some hF
     replace h210 := inB_some h210
     refine Wo.openr (k := 1) rfl (pos_of h210) ?_
     rintro b211 o212 rfl
     refine Wo.og (o_ixs s23 rfl rfl h210) gn rfl ?_
     obtain ⟨⟨x213, x214⟩, h215, hF⟩ := ob_some hF
     refine Wo.od (o_ldr (k := 0) t26 rfl rfl (map_at h215) rfl rfl) rfl ?_
     refine Wo.x (o_al z26 rfl) gn rfl fun b216 => ?_
     refine Wo.o0 (o_st (k := 0) t26 rfl rfl rfl rfl rfl) ?_
     refine Wo.nil <| At.tn <| Wk.seq <| Wk.seq ?_
     obtain ⟨v236, h242, hF⟩ := ob_some hF
     refine Wk.cut (G := (fun (r : Bool) (g : Unit) => match r, g with | v236, _ => ⟨.normal, [(1, ptr b6 0), (3, ptr b23 0), (5, ptr b216 0), (22, .slice (some ⟨b211, o212, none⟩) l2.length c4), (23, .int .i64 (l2.length : Int)), (24, .int .i64 v99), (50, .bool v236)], [.obj b6 (.cells [.int .i64 x1, .slice (some ⟨b211, o212, none⟩) l2.length c4] .own), .ro b211 o212 2 l2.length (l2.map (eP (eI .i64) (eI .i64))), .rd (some ⟨b211, o212, none⟩) c4 2 l2.length (l2.map (eP (eI .i64) (eI .i64))), .obj b23 (.cells [.int .i64 v97, .int .i64 v98] .own), .obj b216 (.cells [.int .i64 x213, .int .i64 x214] .own)]⟩) v236) ?_ ?_
     ·clear hF
      revert v236
      intro r hF
      refine Wk.draw (by kernel_rfl) ?_
      refine Wo.od (o_ia (r := ptr b216 0) rfl rfl (ia_c ar26 (i := 0) (by decide))) rfl ?_
      refine Wo.od (o_ld (k := 0) t3 rfl rfl rfl) rfl ?_
      refine Wo.od (o_bi rfl rfl (bin_lss _ _ _)) rfl ?_
      refine Wo.od (o_mv rfl) rfl ?_
      rcases br_some hF with ⟨h237, hF⟩ | ⟨h237, hF⟩
      ·refine Wo.s (gg rfl rfl (eTF h237)) rfl ?_
       refine Wo.s (gg rfl rfl (eTF h237)) rfl ?_
       refine Wo.s (gg rfl rfl (eTF h237)) rfl ?_
       refine Wo.s (gg rfl rfl (eTF h237)) rfl ?_
       refine Wo.s (gg rfl rfl (eTF h237)) rfl ?_
       refine Wo.od (o_pt rfl h237 rfl) rfl ?_
       refine Wo.od (o_mv rfl) rfl ?_
       refine Wo.s (gg rfl rfl rfl) rfl ?_
       refine Wo.s (gg rfl rfl rfl) rfl ?_
       refine Wo.s (gg rfl rfl rfl) rfl ?_
       refine Wo.s (gg rfl rfl rfl) rfl ?_
       refine Wo.s (gg rfl rfl rfl) rfl ?_
       refine Wo.od (o_pT rfl rfl) rfl ?_
       refine Wo.od (o_mv rfl) rfl ?_
       refine Wo.s (gg rfl rfl rfl) rfl ?_
       refine Wo.s (gg rfl rfl rfl) rfl ?_
       refine Wo.s (gg rfl rfl rfl) rfl ?_
       refine Wo.s (gg rfl rfl rfl) rfl ?_
       refine Wo.od (o_pT rfl rfl) rfl ?_
       refine Wo.nil ?_
       cases hF
       exact At.en () rfl (sc rfl (sc rfl (sc rfl (sc rfl (sc rfl (sc rfl (sc rfl sn))))))) (Turn.picks [2, 1, 3, 4, 0] rfl rfl)
      ·refine Wo.og (o_ia (r := ptr b216 0) rfl rfl (ia_c ar26 (i := 0) (by decide))) (gg rfl rfl (eFF h237)) rfl ?_
       refine Wo.og (o_ld (k := 0) t3 rfl rfl rfl) (gg rfl rfl (eFF h237)) rfl ?_
       refine Wo.og (o_ia (r := ptr b216 1) rfl rfl (ia_c ar26 (i := 1) (by decide))) (gg rfl rfl (eFF h237)) rfl ?_
       refine Wo.og (o_ld (k := 0) t3 rfl rfl rfl) (gg rfl rfl (eFF h237)) rfl ?_
       refine Wo.og (o_bi rfl rfl (bin_geq _ _ _)) (gg rfl rfl (eFF h237)) rfl ?_
       refine Wo.od (o_pf rfl h237 rfl) rfl ?_
       refine Wo.od (o_mv rfl) rfl ?_
       rcases br_some hF with ⟨h238, hF⟩ | ⟨h238, hF⟩
       ·refine Wo.s (gg rfl rfl (eTF h238)) rfl ?_
        refine Wo.s (gg rfl rfl (eTF h238)) rfl ?_
        refine Wo.s (gg rfl rfl (eTF h238)) rfl ?_
        refine Wo.s (gg rfl rfl (eTF h238)) rfl ?_
        refine Wo.s (gg rfl rfl (eTF h238)) rfl ?_
        refine Wo.od (o_pt rfl h238 rfl) rfl ?_
        refine Wo.od (o_mv rfl) rfl ?_
        refine Wo.s (gg rfl rfl rfl) rfl ?_
        refine Wo.s (gg rfl rfl rfl) rfl ?_
        refine Wo.s (gg rfl rfl rfl) rfl ?_
        refine Wo.s (gg rfl rfl rfl) rfl ?_
        refine Wo.od (o_pT rfl rfl) rfl ?_
        refine Wo.nil ?_
        cases hF
        exact At.en () rfl (sc rfl (sc rfl (sc rfl (sc rfl (sc rfl (sc rfl (sc rfl sn))))))) (Turn.picks [2, 1, 3, 4, 0] rfl rfl)
       ·refine Wo.og (o_ia (r := ptr b216 1) rfl rfl (ia_c ar26 (i := 1) (by decide))) (gg rfl rfl (eFF h238)) rfl ?_
        refine Wo.og (o_ld (k := 0) t3 rfl rfl rfl) (gg rfl rfl (eFF h238)) rfl ?_
        refine Wo.og (o_fa (r := ptr b6 0) rfl (fa25_0 _ _)) (gg rfl rfl (eFF h238)) rfl ?_
        refine Wo.og (o_ld (k := 2) t3 rfl rfl rfl) (gg rfl rfl (eFF h238)) rfl ?_
        refine Wo.og (o_bi rfl rfl (bin_geq _ _ _)) (gg rfl rfl (eFF h238)) rfl ?_
        refine Wo.od (o_pf rfl h238 rfl) rfl ?_
        refine Wo.od (o_mv rfl) rfl ?_
        rcases br_some hF with ⟨h239, hF⟩ | ⟨h239, hF⟩
        ·refine Wo.s (gg rfl rfl (eTF h239)) rfl ?_
         refine Wo.s (gg rfl rfl (eTF h239)) rfl ?_
         refine Wo.s (gg rfl rfl (eTF h239)) rfl ?_
         refine Wo.s (gg rfl rfl (eTF h239)) rfl ?_
         refine Wo.od (o_pt rfl h239 rfl) rfl ?_
         refine Wo.nil ?_
         cases hF
         exact At.en () rfl (sc rfl (sc rfl (sc rfl (sc rfl (sc rfl (sc rfl (sc rfl sn))))))) (Turn.picks [2, 1, 3, 4, 0] rfl rfl)
        ·refine Wo.og (o_sa (k := 4) ar26 rfl rfl rfl rfl) (gg rfl rfl (eFF h239)) rfl ?_
         refine Wo.og (o_sa (k := 0) ar26 rfl rfl rfl rfl) (gg rfl rfl (eFF h239)) rfl ?_
         obtain ⟨r241, h240, hF⟩ := ob_some hF
         refine Wo.x (o_cl rfl rfl (fun m hm => f64_ok n [v97, v98] [x213, x214] (some ⟨b23, 0, none⟩) 2 (some ⟨b216, 0, none⟩) 2 _ h240 m (hm.rdo (k := 4) (xs := [v97, v98]) (f := eI .i64) rfl rfl rfl rfl (enI .i64)) (hm.rdo (k := 0) (xs := [x213, x214]) (f := eI .i64) rfl rfl rfl rfl (enI .i64))) fun _ => rfl) (gg rfl rfl (eFF h239)) rfl ?_
         rintro ⟨⟩
         refine Wo.og (o_bi rfl rfl (bin_geq _ _ _)) (gg rfl rfl (eFF h239)) rfl ?_
         refine Wo.od (o_pf rfl h239 rfl) rfl ?_
         refine Wo.nil ?_
         cases hF
         exact At.en () rfl (sc rfl (sc rfl (sc rfl (sc rfl (sc rfl (sc rfl (sc rfl sn))))))) (Turn.picks [2, 1, 3, 4, 0] rfl rfl)
     ·clear h242
      rintro ⟨⟩
      refine At.tn ?_
      rcases br_some hF with ⟨h244, hF⟩ | ⟨h244, hF⟩
      ·refine Wk.condT rfl h244 ?_
       refine Wk.seq <| Wk.region <| Wo.od (o_as rfl) rfl ?_
       refine Wo.nil <| At.tn <| Wk.ret <| At.tr <| At.br <| At.tr ?_
       cases hF
       exact At.en () rfl (sc rfl sn) (Turn.picks [] rfl rfl)
      ·refine Wk.condF rfl h244 ?_
       refine Wk.skip <| At.tn <| Wk.region <| Wo.od (o_ld (k := 4) t26 rfl rfl rfl) rfl ?_
       refine Wo.o0 (o_st (k := 3) t26 rfl rfl rfl rfl rfl) ?_
       refine Wo.nil <| At.bn <| At.tn <| Wk.region <| Wo.od (o_bi rfl rfl (bin_add _ _ _)) rfl ?_
       refine Wo.od (o_mv rfl) rfl ?_
       refine Wo.nil ?_
       cases hF
       exact At.en () rfl (sc rfl (sc rfl (sc rfl (sc rfl (sc rfl sn))))) (Turn.picks [0, 2, 3] rfl rfl)
    ·refine Wk.condF rfl h174 ?_
     refine Wk.exit <| At.te ?_
     cases hF
     exact At.en () rfl sn (Turn.picks [] rfl rfl)
   ·clear h245
    rcases r246 with _ | _
    ·rintro ⟨⟩
     refine At.br <| At.tr ?_
     cases hF
     exact At.ret (.tmp rfl .nil) fun m' hm => ⟨(), rfl, (Turn.picks [] rfl rfl) m' hm⟩
    ·rintro ⟨⟩
     refine At.be <| At.tn <| Wk.seq <| Wk.region <| Wo.od (o_as rfl) rfl ?_
     refine Wo.nil <| At.tn <| Wk.ret ?_
     cases hF
     exact At.ret (.tmp rfl .nil) fun m' hm => ⟨(), rfl, (Turn.picks [] rfl rfl) m' hm⟩
end Go.Proofs.YtpclggcpobakhaaDoor.W0
end

section
namespace Go.Proofs.YtpclggcpobakhaaDoor.WT
open Go Go.Ab Go.Ab.W Go.Proofs.YtpclggcpobakhaaDoor Go.Proofs.YtpclggcpobakhaaDoor.W0
set_option maxRecDepth 10000
set_option maxHeartbeats 4000000
attribute [local irreducible] Tm.at Trie.set Trie.get AMem.get AMem.set AMem.alloc AMem.ww AMem.kill
theorem t25 : TyI E18w.P 25 true 2 := ⟨by kernel_rfl, by kernel_rfl, by kernel_rfl⟩
theorem u28 : E18w.P.underlying 28 = some (.int .u64) := by kernel_rfl
theorem u5 : E18w.P.underlying 5 = some (.int .u8) := by kernel_rfl
theorem u9 : E18w.P.underlying 9 = some (.string) := by kernel_rfl
theorem u3 : E18w.P.underlying 3 = some (.int .i64) := by kernel_rfl
theorem fa25_0 : ∀ b o, fieldAddrA E18w.P 25 (ptr b o) 0 = some (ptr b (o + 0)) := fun _ _ => by kernel_rfl
theorem t3 : TyI E18w.P 3 false 1 := ⟨by kernel_rfl, by kernel_rfl, by kernel_rfl⟩
theorem z87 : zeroA E18w.P 87 = some (.map none) := by kernel_rfl
theorem z28 : zeroA E18w.P 28 = some (.int .u64 ((0 : Nat) : Int)) := by kernel_rfl
theorem fa25_1 : ∀ b o, fieldAddrA E18w.P 25 (ptr b o) 1 = some (ptr b (o + 1)) := fun _ _ => by kernel_rfl
theorem t23 : TyI E18w.P 23 false 1 := ⟨by kernel_rfl, by kernel_rfl, by kernel_rfl⟩
theorem u23 : E18w.P.underlying 23 = some (.slice 26) := by kernel_rfl
theorem s23 : SlT E18w.P 23 26 2 := SlT.of (by kernel_rfl)
theorem t26 : TyI E18w.P 26 true 2 := ⟨by kernel_rfl, by kernel_rfl, by kernel_rfl⟩
theorem z26 : zeroA E18w.P 26 = some (.agg #[.int .i64 0, .int .i64 0]) := by kernel_rfl
theorem ar26 : ArT E18w.P 26 3 2 1 := ⟨by kernel_rfl, by kernel_rfl, by kernel_rfl⟩
theorem s36 : SlT E18w.P 36 28 1 := SlT.of (by kernel_rfl)
theorem t28 : TyI E18w.P 28 false 1 := ⟨by kernel_rfl, by kernel_rfl, by kernel_rfl⟩
theorem z36 : zeroA E18w.P 36 = some (.slice none 0 0) := by kernel_rfl
theorem t36 : TyI E18w.P 36 false 1 := ⟨by kernel_rfl, by kernel_rfl, by kernel_rfl⟩
theorem u26 : E18w.P.underlying 26 = some (.array 2 3) := by kernel_rfl
theorem t87 : TyI E18w.P 87 false 1 := ⟨by kernel_rfl, by kernel_rfl, by kernel_rfl⟩
theorem z94 : zeroA E18w.P 94 = some (.map none) := by kernel_rfl
theorem t94 : TyI E18w.P 94 false 1 := ⟨by kernel_rfl, by kernel_rfl, by kernel_rfl⟩
theorem z108 : zeroA E18w.P 108 = some (.nilFunc) := by kernel_rfl
theorem t108 : TyI E18w.P 108 false 1 := ⟨by kernel_rfl, by kernel_rfl, by kernel_rfl⟩
theorem u94 : E18w.P.underlying 94 = some (.map 3 3) := by kernel_rfl
theorem z3 : zeroA E18w.P 3 = some (.int .i64 0) := by kernel_rfl
theorem bs26 : BdT E18w.P 26 (.agg #[.int .i64 0, .int .i64 0]) [(0, 1), (1, 1)] := .mk' (by kernel_rfl) (by kernel_rfl)
theorem u87 : E18w.P.underlying 87 = some (.map 26 4) := by kernel_rfl
theorem z4 : zeroA E18w.P 4 = some (.bool false) := by kernel_rfl
theorem f51_ok (n : Nat) (x1 : Nat)  (r : Int) (hF : F51 n x1 = some r) (m : AMem)  :
  CallA E18w 51 [.int .u64 ((x1 : Nat) : Int)] m (fun v m' => ∃ x : Unit, v = .int .i64 r ∧ Hp m m' []) := by
 unfold F51 at hF
 refine call_wk (m0 := m) (ps := []) (N := 25) (rs := [.tmp 2]) rfl Tryd.func51 rfl rfl rfl (Hp.start m) ?_
 refine Wk.seq <| Wk.region <| Wo.od (o_as rfl) rfl ?_
 refine Wo.nil <| At.tn <| Wk.seq ?_
 obtain ⟨r7, h6, hF⟩ := ob_some hF
 refine Wk.cut (G := (fun (r : Nat × Int) (g : Unit) => match r, g with | (v3, v4), _ => ⟨.normal, [(0, .int .u64 ((v3 : Nat) : Int)), (2, .int .i64 v4)], []⟩) r7) ?_ ?_
 ·clear hF
  revert r7
  intro r hF
  refine Wk.seq <| Wk.region <| Wo.od (o_mv rfl) rfl ?_
  refine Wo.od (o_bi rfl rfl (ub_geq _ _)) rfl ?_
  refine Wo.nil <| At.tn ?_
  rcases br_some hF with ⟨h5, hF⟩ | ⟨h5, hF⟩
  ·refine Wk.condT rfl h5 ?_
   refine Wk.seq <| Wk.region <| Wo.od (o_mv rfl) rfl ?_
   refine Wo.od (o_bi rfl rfl (ub_shr _ _ rfl)) rfl ?_
   refine Wo.od (o_as rfl) rfl ?_
   refine Wo.nil <| At.tn <| Wk.region <| Wo.od (o_as rfl) rfl ?_
   refine Wo.nil ?_
   cases hF
   exact At.en () rfl (sc rfl (sc rfl sn)) (Turn.picks [] rfl rfl)
  ·refine Wk.condF rfl h5 ?_
   refine Wk.skip ?_
   cases hF
   exact At.en () rfl (sc rfl (sc rfl sn)) (Turn.picks [] rfl rfl)
 ·clear h6
  obtain ⟨v3, v4⟩ := r7
  rintro ⟨⟩
  refine At.tn <| Wk.seq ?_
  obtain ⟨r13, h12, hF⟩ := ob_some hF
  refine Wk.cut (G := (fun (r : Nat × Int) (g : Unit) => match r, g with | (v9, v10), _ => ⟨.normal, [(0, .int .u64 ((v9 : Nat) : Int)), (2, .int .i64 v10)], []⟩) r13) ?_ ?_
  ·clear hF
   revert r13
   intro r hF
   refine Wk.seq <| Wk.region <| Wo.od (o_mv rfl) rfl ?_
   refine Wo.od (o_bi rfl rfl (ub_geq _ _)) rfl ?_
   refine Wo.nil <| At.tn ?_
   rcases br_some hF with ⟨h11, hF⟩ | ⟨h11, hF⟩
   ·refine Wk.condT rfl h11 ?_
    refine Wk.seq <| Wk.region <| Wo.od (o_mv rfl) rfl ?_
    refine Wo.od (o_bi rfl rfl (ub_shr _ _ rfl)) rfl ?_
    refine Wo.od (o_as rfl) rfl ?_
    refine Wo.nil <| At.tn <| Wk.region <| Wo.od (o_mv rfl) rfl ?_
    refine Wo.od (o_bi rfl rfl (bin_add _ _ _)) rfl ?_
    refine Wo.od (o_as rfl) rfl ?_
    refine Wo.nil ?_
    cases hF
    exact At.en () rfl (sc rfl (sc rfl sn)) (Turn.picks [] rfl rfl)
   ·refine Wk.condF rfl h11 ?_
    refine Wk.skip ?_
    cases hF
    exact At.en () rfl (sc rfl (sc rfl sn)) (Turn.picks [] rfl rfl)
  ·clear h12
   obtain ⟨v9, v10⟩ := r13
   rintro ⟨⟩
   refine At.tn <| Wk.seq ?_
   obtain ⟨r19, h18, hF⟩ := ob_some hF
   refine Wk.cut (G := (fun (r : Nat × Int) (g : Unit) => match r, g with | (v15, v16), _ => ⟨.normal, [(0, .int .u64 ((v15 : Nat) : Int)), (2, .int .i64 v16)], []⟩) r19) ?_ ?_
   ·clear hF
    revert r19
    intro r hF
    refine Wk.seq <| Wk.region <| Wo.od (o_mv rfl) rfl ?_
    refine Wo.od (o_bi rfl rfl (ub_geq _ _)) rfl ?_
    refine Wo.nil <| At.tn ?_
    rcases br_some hF with ⟨h17, hF⟩ | ⟨h17, hF⟩
    ·refine Wk.condT rfl h17 ?_
     refine Wk.seq <| Wk.region <| Wo.od (o_mv rfl) rfl ?_
     refine Wo.od (o_bi rfl rfl (ub_shr _ _ rfl)) rfl ?_
     refine Wo.od (o_as rfl) rfl ?_
     refine Wo.nil <| At.tn <| Wk.region <| Wo.od (o_mv rfl) rfl ?_
     refine Wo.od (o_bi rfl rfl (bin_add _ _ _)) rfl ?_
     refine Wo.od (o_as rfl) rfl ?_
     refine Wo.nil ?_
     cases hF
     exact At.en () rfl (sc rfl (sc rfl sn)) (Turn.picks [] rfl rfl)
    ·refine Wk.condF rfl h17 ?_
     refine Wk.skip ?_
     cases hF
     exact At.en () rfl (sc rfl (sc rfl sn)) (Turn.picks [] rfl rfl)
   ·clear h18
    obtain ⟨v15, v16⟩ := r19
    rintro ⟨⟩
    refine At.tn <| Wk.seq <| Wk.region <| Wo.od (o_mv rfl) rfl ?_
    refine Wo.od (o_mv rfl) rfl ?_
    refine Wo.od (o_cv rfl (cv_uu (by rw [u28]; rfl) u5 rfl)) rfl ?_
    obtain ⟨h20, hF⟩ := gd_some hF
    obtain ⟨y22, h21, hF⟩ := ob_some hF
    refine Wo.od (o_ixt tab256_482390 u9 rfl (by rfl) rfl h20 h21) rfl ?_
    refine Wo.od (o_cv rfl (cv_i (by rw [u5]; rfl) u3)) rfl ?_
    refine Wo.od (o_bi rfl rfl (bin_add _ _ _)) rfl ?_
    refine Wo.od (o_as rfl) rfl ?_
    refine Wo.nil <| At.tn <| Wk.ret ?_
    cases hF
    exact At.ret (.tmp rfl .nil) fun m' hm => ⟨(), rfl, (Turn.picks [] rfl rfl) m' hm⟩
theorem f55_ok (n : Nat) (x1 : Int) (l2 : List (Int × Int)) (x6 : Nat) (a3 : Option Addr) (c4 : Nat) (r : Int) (hF : F55 n x1 l2 x6 = some r) (m : AMem) (h5 : Rd m a3 c4 2 l2.length (l2.map (eP (eI .i64) (eI .i64)))) :
  CallA E18w 55 [.agg #[.int .i64 x1, .slice a3 l2.length c4], .int .u64 ((x6 : Nat) : Int)] m (fun v m' => ∃ x : Unit, v = .int .i64 r ∧ Hp m m' []) := by
 unfold F55 at hF
 refine call_wk (m0 := m) (ps := [.rd a3 c4 2 l2.length (l2.map (eP (eI .i64) (eI .i64)))]) (N := 16) (rs := [.tmp 4]) rfl Tryd.func55 rfl rfl rfl ((Hp.start m).inn rfl h5) ?_
 refine Wk.seq <| Wk.region <| Wo.x (o_bx rfl) gn rfl fun b7 => ?_
 refine Wo.od (o_as rfl) rfl ?_
 refine Wo.nil <| At.tn <| Wk.seq <| Wk.seq <| Wk.region <| Wo.od (o_ld (k := 0) t25 rfl rfl rfl) rfl ?_
 obtain ⟨r9, h8, hF⟩ := ob_some hF
 refine Wo.x (o_cl rfl rfl (fun m hm => f23_ok n x1 l2 a3 c4 _ h8 m (hm.rd (k := 1) rfl (.rd _ _ _ _ _))) fun _ => rfl) gn rfl ?_
 rintro ⟨⟩
 refine Wo.od (o_as rfl) rfl ?_
 refine Wo.nil <| At.tn <| Wk.seq <| Wk.region <| Wo.od (o_mv rfl) rfl ?_
 refine Wo.od (o_bi rfl rfl (ib_neq _ _)) rfl ?_
 refine Wo.nil <| At.tn ?_
 rcases br_some hF with ⟨h10, hF⟩ | ⟨h10, hF⟩
 ·refine Wk.condT rfl h10 ?_
  refine Wk.seq <| Wk.region <| Wo.od (o_mv rfl) rfl ?_
  refine Wo.od (o_as rfl) rfl ?_
  refine Wo.nil <| At.tn <| Wk.ret <| At.tr ?_
  have hr := Option.some.inj hF
  subst r
  exact At.ret (.tmp rfl .nil) fun m' hm => ⟨(), rfl, (Turn.picks [] rfl rfl) m' hm⟩
 ·refine Wk.condF rfl h10 ?_
  refine Wk.skip <| At.tn <| Wk.seq <| Wk.seq <| Wk.drawc (prs := [(1, 3)]) (by kernel_rfl) ?_
  refine Wn.od (o_mv rfl) rfl ?_
  obtain ⟨r12, h11, hF⟩ := ob_some hF
  refine Wn.c (o_ce rfl rfl (fun m hm => f51_ok n x6  _ h11 m ) fun _ => rfl) gn rfl ?_
  rintro ⟨⟩
  refine Wn.od (o_fa (r := ptr b7 0) rfl (fa25_0 _ _)) rfl ?_
  refine Wn.od (o_ld (k := 0) t3 rfl rfl rfl) rfl ?_
  refine Wn.od (o_bi rfl rfl (bin_gtr _ _ _)) rfl ?_
  refine Wn.nil (fun m hm => OkP.all rfl) ?_
  refine At.tn ?_
  rcases br_some hF with ⟨h13, hF⟩ | ⟨h13, hF⟩
  ·refine Wk.condT rfl h13 ?_
   refine Wk.seq <| Wk.region <| Wo.od (o_as rfl) rfl ?_
   refine Wo.nil <| At.tn <| Wk.ret <| At.tr ?_
   cases hF
   exact At.ret (.tmp rfl .nil) fun m' hm => ⟨(), rfl, (Turn.picks [] rfl rfl) m' hm⟩
  ·refine Wk.condF rfl h13 ?_
   refine Wk.skip <| At.tn <| Wk.seq <| Wk.region <| Wo.od (o_as rfl) rfl ?_
   refine Wo.nil <| At.tn <| Wk.ret ?_
   cases hF
   exact At.ret (.tmp rfl .nil) fun m' hm => ⟨(), rfl, (Turn.picks [] rfl rfl) m' hm⟩
theorem f75_ok (n : Nat) (x1 : Int) (l2 : List (Int × Int)) (a3 : Option Addr) (c4 : Nat) (r : List Nat) (hF : F75 n x1 l2 = some r) (m : AMem) (h5 : Rd m a3 c4 2 l2.length (l2.map (eP (eI .i64) (eI .i64)))) :
  CallA E18w 75 [.agg #[.int .i64 x1, .slice a3 l2.length c4]] m (fun v m' => ∃ x : Option Addr × Nat, v = .slice x.1 x.2 x.2 ∧ Hp m m' [.sl x.1 1 x.2 (r.map (eN .u64))]) := by
 unfold F75 at hF
 refine call_wk (m0 := m) (ps := [.rd a3 c4 2 l2.length (l2.map (eP (eI .i64) (eI .i64)))]) (N := 38) (rs := [.tmp 2]) rfl Tryd.func75 rfl rfl rfl ((Hp.start m).inn rfl h5) ?_
 refine Wk.seq <| Wk.region <| Wo.x (o_bx rfl) gn rfl fun b6 => ?_
 refine Wo.od (o_as rfl) rfl ?_
 refine Wo.nil <| At.tn <| Wk.seq <| Wk.region <| Wo.od (o_fa (r := ptr b6 0) rfl (fa25_0 _ _)) rfl ?_
 refine Wo.od (o_ld (k := 0) t3 rfl rfl rfl) rfl ?_
 obtain ⟨h7, hF⟩ := gd_some hF
 obtain ⟨h8, hF⟩ := gd_some hF
 refine Wo.x (o_msl (f := eN .u64) (z0 := 0) s36 rfl h7 h8 z28 rfl rfl) gn rfl fun b9 => ?_
 refine Wo.od (o_as rfl) rfl ?_
 refine Wo.nil <| At.tn <| Wk.seq <| Wk.seq <| Wk.region <| Wo.od (o_fa (r := ptr b6 1) rfl (fa25_1 _ _)) rfl ?_
 refine Wo.od (o_ld (k := 1) t23 rfl rfl rfl) rfl ?_
 refine Wo.od (o_ln (k := 2) u23 rfl rfl (.inl rfl)) rfl ?_
 refine Wo.od (o_mv rfl) rfl ?_
 refine Wo.nil <| At.tn <| Wk.block ?_
 obtain ⟨l56, h77, hF⟩ := ob_some hF
 refine Wk.cut (G := (fun (r : List (Nat)) (g : Unit) => match r, g with | l56, _ => ⟨(.exit 0), [(3, .slice (some ⟨b9, 0, none⟩) x1.toNat x1.toNat)], [.arr b9 1 x1.toNat (l56.map (eN .u64)) .own]⟩) l56) ?_ ?_
 ·refine Wk.weak (fs' := [(3, .slice (some ⟨b9, 0, none⟩) x1.toNat x1.toNat), (10, .slice a3 l2.length c4), (11, .int .i64 (l2.length : Int)), (12, .int .i64 0)]) (ps' := [.arr b9 1 x1.toNat ((List.replicate x1.toNat 0).map (eN .u64)) .own, .rd a3 c4 2 l2.length (l2.map (eP (eI .i64) (eI .i64)))]) (sc rfl (sc rfl (sc rfl (sc rfl sn)))) (Turn.picks [0, 2] rfl rfl) ?_
  refine Wk.loop (σ := List (Nat) × Int) (ρ := List (Nat)) (γ := Unit) (δ := fun _ => Unit) _ (fun (s : List (Nat) × Int) (g : Unit) => match s, g with | (l32, v33), _ => ⟨.normal, [(3, .slice (some ⟨b9, 0, none⟩) x1.toNat x1.toNat), (10, .slice a3 l2.length c4), (11, .int .i64 (l2.length : Int)), (12, .int .i64 v33)], [.arr b9 1 x1.toNat (l32.map (eN .u64)) .own, .rd a3 c4 2 l2.length (l2.map (eP (eI .i64) (eI .i64)))]⟩) (fun (r : List (Nat)) (g : Unit) => match r, g with | l56, _ => ⟨(.exit 0), [(3, .slice (some ⟨b9, 0, none⟩) x1.toNat x1.toNat)], [.arr b9 1 x1.toNat (l56.map (eN .u64)) .own]⟩) ?_ (fun _ _ => rfl) (fun r d => by intro e; cases e) _ _ _ h77 ()
  clear hF h77
  rintro ⟨l32, v33⟩ ⟨⟩ r hF
  unfold L75_1 at hF
  refine Wk.seq <| Wk.region <| Wo.od (o_bi rfl rfl (bin_lss _ _ _)) rfl ?_
  refine Wo.nil <| At.tn <| Wk.seq ?_
  rcases br_some hF with ⟨h57, hF⟩ | ⟨h57, hF⟩
  ·refine Wk.condT rfl h57 ?_
   refine Wk.skip <| At.tn <| Wk.seq <| Wk.block <| Wk.seq <| Wk.region ?_
   obtain ⟨h58, hF⟩ := gd_some hF
   replace h58 := inB_some h58
   refine Wo.openr (k := 1) rfl (pos_of h58) ?_
   rintro b59 o60 rfl
   refine Wo.og (o_ixs s23 rfl rfl h58) gn rfl ?_
   obtain ⟨⟨x61, x62⟩, h63, hF⟩ := ob_some hF
   refine Wo.od (o_ldr (k := 0) t26 rfl rfl (map_at h63) rfl rfl) rfl ?_
   refine Wo.x (o_al z26 rfl) gn rfl fun b64 => ?_
   refine Wo.o0 (o_st (k := 0) t26 rfl rfl rfl rfl rfl) ?_
   refine Wo.nil <| At.tn <| Wk.seq <| Wk.draw (by kernel_rfl) ?_
   refine Wo.od (o_mv rfl) rfl ?_
   refine Wo.od (o_ia (r := ptr b64 0) rfl rfl (ia_c ar26 (i := 0) (by decide))) rfl ?_
   refine Wo.od (o_ld (k := 0) t3 rfl rfl rfl) rfl ?_
   obtain ⟨h65, hF⟩ := gd_some hF
   replace h65 := inB_some h65
   refine Wo.og (o_ixa s36 rfl rfl h65) gn rfl ?_
   obtain ⟨x66, h67, hF⟩ := ob_some hF
   refine Wo.od (o_lda (k := 2) t28 rfl rfl (map_at h67) rfl rfl) rfl ?_
   refine Wo.od (o_ia (r := ptr b64 1) rfl rfl (ia_c ar26 (i := 1) (by decide))) rfl ?_
   refine Wo.od (o_ld (k := 0) t3 rfl rfl rfl) rfl ?_
   obtain ⟨h68, hF⟩ := gd_some hF
   refine Wo.od (o_bi rfl rfl (ub_shl rfl _ _ h68)) rfl ?_
   refine Wo.od (o_bi rfl rfl (ub_or rfl _ _)) rfl ?_
   obtain ⟨h69, hF⟩ := gd_some hF
   replace h69 := inB_some h69
   refine Wo.og (o_ixa s36 rfl rfl h69) gn rfl ?_
   refine Wo.o0 (o_stl (k := 2) (x1 := x66) (x2 := uw .u64 (uw .u64 x66 ||| uw .u64 (ushl .u64 1 x62.toNat))) t28 rfl rfl rfl h67 rfl) ?_
   refine Wo.nil <| At.tn <| Wk.draw (by kernel_rfl) ?_
   refine Wo.od (o_mv rfl) rfl ?_
   refine Wo.od (o_ia (r := ptr b64 1) rfl rfl (ia_c ar26 (i := 1) (by decide))) rfl ?_
   refine Wo.od (o_ld (k := 0) t3 rfl rfl rfl) rfl ?_
   obtain ⟨h71, hF⟩ := gd_some hF
   replace h71 := inB_some h71
   refine Wo.og (o_ixa s36 rfl rfl h71) gn rfl ?_
   obtain ⟨x72, h73, hF⟩ := ob_some hF
   refine Wo.od (o_lda (k := 2) t28 rfl rfl (map_at h73) rfl rfl) rfl ?_
   refine Wo.od (o_ia (r := ptr b64 0) rfl rfl (ia_c ar26 (i := 0) (by decide))) rfl ?_
   refine Wo.od (o_ld (k := 0) t3 rfl rfl rfl) rfl ?_
   obtain ⟨h74, hF⟩ := gd_some hF
   refine Wo.od (o_bi rfl rfl (ub_shl rfl _ _ h74)) rfl ?_
   refine Wo.od (o_bi rfl rfl (ub_or rfl _ _)) rfl ?_
   obtain ⟨h75, hF⟩ := gd_some hF
   replace h75 := inB_some h75
   refine Wo.og (o_ixa s36 rfl rfl h75) gn rfl ?_
   refine Wo.o0 (o_stl (k := 2) (x1 := x72) (x2 := uw .u64 (uw .u64 x72 ||| uw .u64 (ushl .u64 1 x61.toNat))) t28 rfl rfl rfl h73 rfl) ?_
   refine Wo.nil <| At.bn <| At.tn <| Wk.region <| Wo.od (o_bi rfl rfl (bin_add _ _ _)) rfl ?_
   refine Wo.od (o_mv rfl) rfl ?_
   refine Wo.nil ?_
   cases hF
   exact At.en () rfl (sc rfl (sc rfl (sc rfl (sc rfl sn)))) (Turn.picks [2, 3] rfl rfl)
  ·refine Wk.condF rfl h57 ?_
   refine Wk.exit <| At.te ?_
   cases hF
   exact At.en () rfl (sc rfl sn) (Turn.picks [0] rfl rfl)
 ·clear h77
  rintro ⟨⟩
  refine At.be <| At.tn <| Wk.seq <| Wk.region <| Wo.od (o_mv rfl) rfl ?_
  refine Wo.od (o_as rfl) rfl ?_
  refine Wo.nil <| At.tn <| Wk.ret ?_
  have hr := Option.some.inj hF
  subst r
  exact At.ret (.tmp rfl .nil) fun m' hm => ⟨((some ⟨b9, 0, none⟩), x1.toNat), rfl, (Turn.trans (Turn.close (k := 0) rfl) (Turn.picks [0] rfl rfl)) m' hm⟩
theorem r76_ok (n : Nat) (l16 : List Nat) (x6 : Nat) (b23 : Nat) (b21 : Nat) (b24 : Nat) (b22 : Nat) (b19 : Nat) (a17 : Option Addr) (b12 : Nat) (b25 : Nat) (b13 : Nat) (b14 : Nat) (b20 : Nat) {m0 : AMem} (hG : Gl m0) : ∀ (k : Nat) (l651 : List (Int × Int)) (l652 : List (Int × Int)) (l653 : List ((Int × Int) × Bool)) (v654 : Nat) (x1328 : Int) (x1329 : Int) (l1330 : List (Int × Int)) (l1331 : List (Int × Int)) (l1332 : List ((Int × Int) × Bool)) (v1333 : Nat), R76 n l16 x6 k (l651, l652, l653, v654) (x1328, x1329) = some (l1330, l1331, l1332, v1333) → ∀ (rest : List Pc) (m : AMem), Hp m0 m (.obj b23 (.cells [.map (some b21)] .own) :: .obj b21 (.map (l651.map (eM (fun n : Int => .int .i64 n) (fun n : Int => .int .i64 n)))) :: .obj b24 (.cells [.map (some b22)] .own) :: .obj b22 (.map (l652.map (eM (fun n : Int => .int .i64 n) (fun n : Int => .int .i64 n)))) :: .obj b19 (.cells [.slice a17 l16.length l16.length] .own) :: .sl a17 1 l16.length (l16.map (eN .u64)) :: .obj b12 (.cells [.int .u64 ((x6 : Nat) : Int)] .own) :: .obj b25 (.cells [.func (.func 76) #[] #[ptr b23 0, ptr b24 0, ptr b19 0, ptr b12 0, ptr b25 0, ptr b13 0, ptr b14 0]] .own) :: .obj b13 (.cells [.map (some b20)] .own) :: .obj b20 (.map (l653.map (eM (fun p : Int × Int => .agg #[.int .i64 p.1, .int .i64 p.2]) (fun b : Bool => .bool b)))) :: .obj b14 (.cells [.int .u64 ((v654 : Nat) : Int)] .own) :: rest) →
  CallA E18w 76 [.int .i64 x1328, .int .i64 x1329, ptr b23 0, ptr b24 0, ptr b19 0, ptr b12 0, ptr b25 0, ptr b13 0, ptr b14 0] m (fun v m' => ∃ _ : Unit, v = .tuple #[] ∧ Hp m0 m' (.obj b23 (.cells [.map (some b21)] .own) :: .obj b21 (.map (l1330.map (eM (fun n : Int => .int .i64 n) (fun n : Int => .int .i64 n)))) :: .obj b24 (.cells [.map (some b22)] .own) :: .obj b22 (.map (l1331.map (eM (fun n : Int => .int .i64 n) (fun n : Int => .int .i64 n)))) :: .obj b19 (.cells [.slice a17 l16.length l16.length] .own) :: .sl a17 1 l16.length (l16.map (eN .u64)) :: .obj b12 (.cells [.int .u64 ((x6 : Nat) : Int)] .own) :: .obj b25 (.cells [.func (.func 76) #[] #[ptr b23 0, ptr b24 0, ptr b19 0, ptr b12 0, ptr b25 0, ptr b13 0, ptr b14 0]] .own) :: .obj b13 (.cells [.map (some b20)] .own) :: .obj b20 (.map (l1332.map (eM (fun p : Int × Int => .agg #[.int .i64 p.1, .int .i64 p.2]) (fun b : Bool => .bool b)))) :: .obj b14 (.cells [.int .u64 ((v1333 : Nat) : Int)] .own) :: rest)) := by
 intro k
 induction k with
 | zero => intro l651 l652 l653 v654 x1328 x1329 l1330 l1331 l1332 v1333 hF; cases hF
 | succ k ih =>
  intro l651 l652 l653 v654 x1328 x1329 l1330 l1331 l1332 v1333 hF rest m hm
  replace hF : R76b n (R76 n l16 x6 k) l16 x6 (l651, l652, l653, v654) (x1328, x1329) = _ := hF
  unfold R76b at hF
  refine call_wk (N := 102) (rs := []) rfl Tryd.func76 rfl rfl rfl hm ?_
  clear hm
  refine Wk.seq <| Wk.region <| Wo.x (o_bx rfl) gn rfl fun b1334 => ?_
  refine Wo.x (o_bx rfl) gn rfl fun b1335 => ?_
  refine Wo.nil <| At.tn <| Wk.seq <| Wk.region <| Wo.od (o_ld (k := 2) t94 rfl rfl rfl) rfl ?_
  refine Wo.od (o_ld (k := 1) t3 rfl rfl rfl) rfl ?_
  refine Wo.od (o_ld (k := 2) t94 rfl rfl rfl) rfl ?_
  obtain ⟨y1336, h1337, hF⟩ := ob_some hF
  replace h1337 := Option.some.inj h1337
  refine Wo.od (o_lnme (q := 3) (xs := l651) u94 rfl rfl h1337) rfl ?_
  refine Wo.od (o_bi rfl rfl (bin_add _ _ _)) rfl ?_
  refine Wo.o0 (o_mu (q := 3) (xs := l651) (k := x1328) (v := IntKind.wrap .i64 ((y1336 : Int) + 1)) (vE := (fun n : Int => .int .i64 n)) u94 (keyI u3) rfl rfl rfl rfl) ?_
  refine Wo.nil <| At.tn <| Wk.seq <| Wk.region <| Wo.od (o_ld (k := 4) t94 rfl rfl rfl) rfl ?_
  refine Wo.od (o_ld (k := 1) t3 rfl rfl rfl) rfl ?_
  refine Wo.od (o_ld (k := 2) t94 rfl rfl rfl) rfl ?_
  refine Wo.od (o_ld (k := 1) t3 rfl rfl rfl) rfl ?_
  obtain ⟨y1338, h1339, hF⟩ := ob_some hF
  refine Wo.od (o_lkv (q := 3) (xs := (mput l651 x1328 (IntKind.wrap .i64 ((y1336 : Int) + 1)))) (k := x1328) (vE := (fun n : Int => .int .i64 n)) (z0 := (0 : Int)) u94 (keyI u3) z3 rfl rfl rfl rfl h1339) rfl ?_
  refine Wo.o0 (o_mu (q := 5) (xs := l652) (k := x1328) (v := y1338) (vE := (fun n : Int => .int .i64 n)) u94 (keyI u3) rfl rfl rfl rfl) ?_
  refine Wo.nil <| At.tn <| Wk.seq <| Wk.region <| Wo.x (o_al z3 rfl) gn rfl fun b1340 => ?_
  refine Wo.o0 (o_st (k := 0) t3 rfl rfl rfl rfl rfl) ?_
  refine Wo.nil <| At.tn <| Wk.seq <| Wk.seq <| Wk.draw (by kernel_rfl) ?_
  refine Wo.od (o_ld (k := 7) t36 rfl rfl rfl) rfl ?_
  refine Wo.od (o_ld (k := 2) t3 rfl rfl rfl) rfl ?_
  obtain ⟨h1341, hF⟩ := gd_some hF
  replace h1341 := inB_some h1341
  refine Wo.open (k := 8) rfl (pos_of h1341) ?_
  rintro b1342 tg1343 rfl h1344
  refine Wo.og (o_ixa s36 rfl rfl h1341) gn rfl ?_
  obtain ⟨x1345, h1346, hF⟩ := ob_some hF
  refine Wo.od (o_lda (k := 8) t28 rfl rfl (map_at h1346) rfl rfl) rfl ?_
  refine Wo.od (o_ld (k := 9) t28 rfl rfl rfl) rfl ?_
  refine Wo.od (o_bi rfl rfl (ub_and rfl _ _)) rfl ?_
  obtain ⟨r1350, h1351, hF⟩ := ob_some hF
  refine Wo.x (o_cs (α := Nat) (V := fun g => (fun (r : Unit) (g : Nat) => match r, g with | _, b1348 => (.func (.func 78) #[] #[ptr b1348 0] : Value)) r1350 g) (N := fun g => (fun (r : Unit) (g : Nat) => match r, g with | _, b1348 => ((.obj b1348 (.cells [.int .u64 ((uw .u64 (uw .u64 x1345 &&& uw .u64 x6) : Nat) : Int)] .own) :: .obj b23 (.cells [.map (some b21)] .own) :: .obj b21 (.map ((mput l651 x1328 (IntKind.wrap .i64 ((y1336 : Int) + 1))).map (eM (fun n : Int => .int .i64 n) (fun n : Int => .int .i64 n)))) :: .obj b24 (.cells [.map (some b22)] .own) :: .obj b22 (.map ((mput l652 x1328 y1338).map (eM (fun n : Int => .int .i64 n) (fun n : Int => .int .i64 n)))) :: .obj b19 (.cells [.slice (some ⟨b1342, 0, none⟩) l16.length l16.length] .own) :: .arr b1342 1 l16.length (l16.map (eN .u64)) tg1343 :: .obj b12 (.cells [.int .u64 ((x6 : Nat) : Int)] .own) :: .obj b25 (.cells [.func (.func 76) #[] #[ptr b23 0, ptr b24 0, ptr b19 0, ptr b12 0, ptr b25 0, ptr b13 0, ptr b14 0]] .own) :: .obj b13 (.cells [.map (some b20)] .own) :: .obj b20 (.map (l653.map (eM (fun p : Int × Int => .agg #[.int .i64 p.1, .int .i64 p.2]) (fun b : Bool => .bool b)))) :: .obj b14 (.cells [.int .u64 ((v654 : Nat) : Int)] .own) :: .obj b1334 (.cells [.int .i64 x1328] .own) :: .obj b1335 (.cells [.int .i64 x1329] .own) :: .obj b1340 (.cells [.int .i64 0] .own) :: rest) : List Pc)) r1350 g) rfl rfl (fun m hm => ?_)) gn rfl ?_
  ·clear hF
   revert r1350
   intro r hF
   refine call_wk (N := 4) (rs := [.tmp 2]) rfl Tryd.func61 rfl rfl rfl hm ?_
   refine Wk.seq <| Wk.region <| Wo.x (o_bx rfl) gn rfl fun b1349 => ?_
   refine Wo.od (o_as rfl) rfl ?_
   refine Wo.nil <| At.tn <| Wk.seq <| Wk.region <| Wo.od (o_mf rfl rfl) rfl ?_
   refine Wo.od (o_as rfl) rfl ?_
   refine Wo.nil <| At.tn <| Wk.ret ?_
   cases hF
   exact At.ret (.tmp rfl .nil) fun m' hm => ⟨b1349, rfl, (Turn.picksR 15 [0, 4, 5, 6, 7, 8, 9, 10, 11, 12, 13, 14, 3, 2, 1] rfl rfl rfl) m' hm⟩
  ·clear h1351
   rintro b1348
   refine Wo.nil <| At.tn <| Wk.block ?_
   obtain ⟨r2004, h2005, hF⟩ := ob_some hF
   refine Wk.range (N := 14) (rs := []) (γ := Unit) (X := fun g => (fun (r : List (Int × Int) × List (Int × Int) × List ((Int × Int) × Bool) × Nat × Int) (g : Unit) => (match r, g with | (l1678, l1679, l1680, v1681, v1682), _ => ⟨.ready, none, (.obj b23 (.cells [.map (some b21)] .own) :: .obj b21 (.map (l1678.map (eM (fun n : Int => .int .i64 n) (fun n : Int => .int .i64 n)))) :: .obj b24 (.cells [.map (some b22)] .own) :: .obj b22 (.map (l1679.map (eM (fun n : Int => .int .i64 n) (fun n : Int => .int .i64 n)))) :: .obj b19 (.cells [.slice (some ⟨b1342, 0, none⟩) l16.length l16.length] .own) :: .sl (some ⟨b1342, 0, none⟩) 1 l16.length (l16.map (eN .u64)) :: .obj b12 (.cells [.int .u64 ((x6 : Nat) : Int)] .own) :: .obj b25 (.cells [.func (.func 76) #[] #[ptr b23 0, ptr b24 0, ptr b19 0, ptr b12 0, ptr b25 0, ptr b13 0, ptr b14 0]] .own) :: .obj b13 (.cells [.map (some b20)] .own) :: .obj b20 (.map (l1680.map (eM (fun p : Int × Int => .agg #[.int .i64 p.1, .int .i64 p.2]) (fun b : Bool => .bool b)))) :: .obj b14 (.cells [.int .u64 ((v1681 : Nat) : Int)] .own) :: .obj b1334 (.cells [.int .i64 x1328] .own) :: .obj b1335 (.cells [.int .i64 x1329] .own) :: .obj b1340 (.cells [.int .i64 v1682] .own) :: rest)⟩ : Rn)) r2004 g) rfl rfl Tryd.func78 rfl rfl rfl ?_ (fun y => by intro e; cases e) ?_
   ·clear hF
    revert r2004
    intro r hF
    intro t1354 l1352 rc1353 h1355 h1356
    refine Wk.block ?_
    obtain ⟨r2003, h2002, hF⟩ := ob_some hF
    refine Wk.cut (G := (fun (r : List (Int × Int) × List (Int × Int) × List ((Int × Int) × Bool) × Nat × Int) (g : Unit) => match r, g with | (l1897, l1898, l1899, v1900, v1901), _ => ⟨(.exit 0), [], (.obj l1352 (rc1353 .ready none) :: .obj b23 (.cells [.map (some b21)] .own) :: .obj b21 (.map (l1897.map (eM (fun n : Int => .int .i64 n) (fun n : Int => .int .i64 n)))) :: .obj b24 (.cells [.map (some b22)] .own) :: .obj b22 (.map (l1898.map (eM (fun n : Int => .int .i64 n) (fun n : Int => .int .i64 n)))) :: .obj b19 (.cells [.slice (some ⟨b1342, 0, none⟩) l16.length l16.length] .own) :: .sl (some ⟨b1342, 0, none⟩) 1 l16.length (l16.map (eN .u64)) :: .obj b12 (.cells [.int .u64 ((x6 : Nat) : Int)] .own) :: .obj b25 (.cells [.func (.func 76) #[] #[ptr b23 0, ptr b24 0, ptr b19 0, ptr b12 0, ptr b25 0, ptr b13 0, ptr b14 0]] .own) :: .obj b13 (.cells [.map (some b20)] .own) :: .obj b20 (.map (l1899.map (eM (fun p : Int × Int => .agg #[.int .i64 p.1, .int .i64 p.2]) (fun b : Bool => .bool b)))) :: .obj b14 (.cells [.int .u64 ((v1900 : Nat) : Int)] .own) :: .obj b1334 (.cells [.int .i64 x1328] .own) :: .obj b1335 (.cells [.int .i64 x1329] .own) :: .obj b1340 (.cells [.int .i64 v1901] .own) :: rest)⟩) r2003) ?_ ?_
    ·refine Wk.weak (fs' := [(0, .func (.yield l1352) #[] #[]), (1, ptr b1348 0)]) (ps' := (.obj l1352 (rc1353 .ready none) :: .obj b1348 (.cells [.int .u64 (((uw .u64 (uw .u64 x1345 &&& uw .u64 x6)) : Nat) : Int)] .own) :: .obj b23 (.cells [.map (some b21)] .own) :: .obj b21 (.map ((mput l651 x1328 (IntKind.wrap .i64 ((y1336 : Int) + 1))).map (eM (fun n : Int => .int .i64 n) (fun n : Int => .int .i64 n)))) :: .obj b24 (.cells [.map (some b22)] .own) :: .obj b22 (.map ((mput l652 x1328 y1338).map (eM (fun n : Int => .int .i64 n) (fun n : Int => .int .i64 n)))) :: .obj b19 (.cells [.slice (some ⟨b1342, 0, none⟩) l16.length l16.length] .own) :: .sl (some ⟨b1342, 0, none⟩) 1 l16.length (l16.map (eN .u64)) :: .obj b12 (.cells [.int .u64 ((x6 : Nat) : Int)] .own) :: .obj b25 (.cells [.func (.func 76) #[] #[ptr b23 0, ptr b24 0, ptr b19 0, ptr b12 0, ptr b25 0, ptr b13 0, ptr b14 0]] .own) :: .obj b13 (.cells [.map (some b20)] .own) :: .obj b20 (.map (l653.map (eM (fun p : Int × Int => .agg #[.int .i64 p.1, .int .i64 p.2]) (fun b : Bool => .bool b)))) :: .obj b14 (.cells [.int .u64 ((v654 : Nat) : Int)] .own) :: .obj b1334 (.cells [.int .i64 x1328] .own) :: .obj b1335 (.cells [.int .i64 x1329] .own) :: .obj b1340 (.cells [.int .i64 0] .own) :: rest)) (sc rfl (sc rfl sn)) (Turn.trans (Turn.close (k := 7) rfl) (Turn.picksR 16 [0, 1, 2, 3, 4, 5, 6, 7, 8, 9, 10, 11, 12, 13, 14, 15] rfl rfl rfl)) ?_
     refine Wk.loop (σ := Nat × List (Int × Int) × List (Int × Int) × List ((Int × Int) × Bool) × Nat × Int) (ρ := List (Int × Int) × List (Int × Int) × List ((Int × Int) × Bool) × Nat × Int) (γ := Unit) (δ := fun _ => Unit) _ (fun (s : Nat × List (Int × Int) × List (Int × Int) × List ((Int × Int) × Bool) × Nat × Int) (g : Unit) => match s, g with | (v1785, l1786, l1787, l1788, v1789, v1790), _ => ⟨.normal, [(0, .func (.yield l1352) #[] #[]), (1, ptr b1348 0)], (.obj l1352 (rc1353 .ready none) :: .obj b1348 (.cells [.int .u64 ((v1785 : Nat) : Int)] .own) :: .obj b23 (.cells [.map (some b21)] .own) :: .obj b21 (.map (l1786.map (eM (fun n : Int => .int .i64 n) (fun n : Int => .int .i64 n)))) :: .obj b24 (.cells [.map (some b22)] .own) :: .obj b22 (.map (l1787.map (eM (fun n : Int => .int .i64 n) (fun n : Int => .int .i64 n)))) :: .obj b19 (.cells [.slice (some ⟨b1342, 0, none⟩) l16.length l16.length] .own) :: .sl (some ⟨b1342, 0, none⟩) 1 l16.length (l16.map (eN .u64)) :: .obj b12 (.cells [.int .u64 ((x6 : Nat) : Int)] .own) :: .obj b25 (.cells [.func (.func 76) #[] #[ptr b23 0, ptr b24 0, ptr b19 0, ptr b12 0, ptr b25 0, ptr b13 0, ptr b14 0]] .own) :: .obj b13 (.cells [.map (some b20)] .own) :: .obj b20 (.map (l1788.map (eM (fun p : Int × Int => .agg #[.int .i64 p.1, .int .i64 p.2]) (fun b : Bool => .bool b)))) :: .obj b14 (.cells [.int .u64 ((v1789 : Nat) : Int)] .own) :: .obj b1334 (.cells [.int .i64 x1328] .own) :: .obj b1335 (.cells [.int .i64 x1329] .own) :: .obj b1340 (.cells [.int .i64 v1790] .own) :: rest)⟩) (fun (r : List (Int × Int) × List (Int × Int) × List ((Int × Int) × Bool) × Nat × Int) (g : Unit) => match r, g with | (l1897, l1898, l1899, v1900, v1901), _ => ⟨(.exit 0), [], (.obj l1352 (rc1353 .ready none) :: .obj b23 (.cells [.map (some b21)] .own) :: .obj b21 (.map (l1897.map (eM (fun n : Int => .int .i64 n) (fun n : Int => .int .i64 n)))) :: .obj b24 (.cells [.map (some b22)] .own) :: .obj b22 (.map (l1898.map (eM (fun n : Int => .int .i64 n) (fun n : Int => .int .i64 n)))) :: .obj b19 (.cells [.slice (some ⟨b1342, 0, none⟩) l16.length l16.length] .own) :: .sl (some ⟨b1342, 0, none⟩) 1 l16.length (l16.map (eN .u64)) :: .obj b12 (.cells [.int .u64 ((x6 : Nat) : Int)] .own) :: .obj b25 (.cells [.func (.func 76) #[] #[ptr b23 0, ptr b24 0, ptr b19 0, ptr b12 0, ptr b25 0, ptr b13 0, ptr b14 0]] .own) :: .obj b13 (.cells [.map (some b20)] .own) :: .obj b20 (.map (l1899.map (eM (fun p : Int × Int => .agg #[.int .i64 p.1, .int .i64 p.2]) (fun b : Bool => .bool b)))) :: .obj b14 (.cells [.int .u64 ((v1900 : Nat) : Int)] .own) :: .obj b1334 (.cells [.int .i64 x1328] .own) :: .obj b1335 (.cells [.int .i64 x1329] .own) :: .obj b1340 (.cells [.int .i64 v1901] .own) :: rest)⟩) ?_ (fun _ _ => rfl) (fun r d => by intro e; cases e) _ _ _ h2002 ()
     clear hF h2002
     rintro ⟨v1785, l1786, l1787, l1788, v1789, v1790⟩ ⟨⟩ r hF
     unfold L76_1 at hF
     refine Wk.seq <| Wk.seq <| Wk.region <| Wo.od (o_ld (k := 1) t28 rfl rfl rfl) rfl ?_
     refine Wo.od (o_bi rfl rfl (ub_neq _ _)) rfl ?_
     refine Wo.nil <| At.tn ?_
     rcases br_some hF with ⟨h1902, hF⟩ | ⟨h1902, hF⟩
     ·refine Wk.condT rfl h1902 ?_
      refine Wk.skip <| At.tn <| Wk.seq <| Wk.block <| Wk.seq <| Wk.region <| Wo.od (o_mv rfl) rfl ?_
      refine Wo.od (o_ld (k := 1) t28 rfl rfl rfl) rfl ?_
      obtain ⟨r1904, h1903, hF⟩ := ob_some hF
      refine Wo.x (o_cl rfl rfl (fun m hm => f42_ok n v1785  _ h1903 m (hG.ext hm.ext) ) fun _ => rfl) gn rfl ?_
      rintro ⟨⟩
      obtain ⟨r2000, h2001, hF⟩ := ob_some hF
      refine Wo.x (o_yd (k := 0) (k1 := 0) (γA := Unit) (GA := (fun g : Unit => (match g with | _ => ⟨.normal, [(2, ptr b23 0), (3, ptr b24 0), (6, ptr b25 0), (7, ptr b13 0), (8, ptr b14 0), (9, ptr b1334 0), (10, ptr b1335 0), (11, ptr b1340 0), (12, .int .i64 r1904)], (.obj l1352 (rc1353 .ready none) :: .obj b23 (.cells [.map (some b21)] .own) :: .obj b21 (.map (l1786.map (eM (fun n : Int => .int .i64 n) (fun n : Int => .int .i64 n)))) :: .obj b24 (.cells [.map (some b22)] .own) :: .obj b22 (.map (l1787.map (eM (fun n : Int => .int .i64 n) (fun n : Int => .int .i64 n)))) :: .obj b25 (.cells [.func (.func 76) #[] #[ptr b23 0, ptr b24 0, ptr b19 0, ptr b12 0, ptr b25 0, ptr b13 0, ptr b14 0]] .own) :: .obj b19 (.cells [.slice (some ⟨b1342, 0, none⟩) l16.length l16.length] .own) :: .sl (some ⟨b1342, 0, none⟩) 1 l16.length (l16.map (eN .u64)) :: .obj b12 (.cells [.int .u64 ((x6 : Nat) : Int)] .own) :: .obj b13 (.cells [.map (some b20)] .own) :: .obj b20 (.map (l1788.map (eM (fun p : Int × Int => .agg #[.int .i64 p.1, .int .i64 p.2]) (fun b : Bool => .bool b)))) :: .obj b14 (.cells [.int .u64 ((v1789 : Nat) : Int)] .own) :: .obj b1334 (.cells [.int .i64 x1328] .own) :: .obj b1335 (.cells [.int .i64 x1329] .own) :: .obj b1340 (.cells [.int .i64 v1790] .own) :: .obj b1348 (.cells [.int .u64 ((v1785 : Nat) : Int)] .own) :: rest)⟩ : En))) (γ := Unit) (G := fun g => (fun (r : List (Int × Int) × List (Int × Int) × List ((Int × Int) × Bool) × Nat × Int) (g : Unit) => (match r, g with | (l1950, l1951, l1952, v1953, v1954), _ => ⟨.normal, [], (.obj l1352 (rc1353 .busy none) :: .obj b23 (.cells [.map (some b21)] .own) :: .obj b21 (.map (l1950.map (eM (fun n : Int => .int .i64 n) (fun n : Int => .int .i64 n)))) :: .obj b24 (.cells [.map (some b22)] .own) :: .obj b22 (.map (l1951.map (eM (fun n : Int => .int .i64 n) (fun n : Int => .int .i64 n)))) :: .obj b19 (.cells [.slice (some ⟨b1342, 0, none⟩) l16.length l16.length] .own) :: .sl (some ⟨b1342, 0, none⟩) 1 l16.length (l16.map (eN .u64)) :: .obj b12 (.cells [.int .u64 ((x6 : Nat) : Int)] .own) :: .obj b25 (.cells [.func (.func 76) #[] #[ptr b23 0, ptr b24 0, ptr b19 0, ptr b12 0, ptr b25 0, ptr b13 0, ptr b14 0]] .own) :: .obj b13 (.cells [.map (some b20)] .own) :: .obj b20 (.map (l1952.map (eM (fun p : Int × Int => .agg #[.int .i64 p.1, .int .i64 p.2]) (fun b : Bool => .bool b)))) :: .obj b14 (.cells [.int .u64 ((v1953 : Nat) : Int)] .own) :: .obj b1334 (.cells [.int .i64 x1328] .own) :: .obj b1335 (.cells [.int .i64 x1329] .own) :: .obj b1340 (.cells [.int .i64 v1954] .own) :: .obj b1348 (.cells [.int .u64 ((v1785 : Nat) : Int)] .own) :: rest)⟩ : En)) r2000 g) rfl rfl rfl h1356 h1355 rfl ?_ (fun _ => rfl) (fun _ => rfl) ?_ (fun y => rfl)) gn rfl ?_
      ·clear hF h2001
       refine Wk.region <| Wo.od (o_as rfl) rfl ?_
       refine Wo.nil ?_
       exact At.en () rfl (sc rfl (sc rfl (sc rfl (sc rfl (sc rfl (sc rfl (sc rfl (sc rfl (sc rfl sn))))))))) (Turn.picksR 16 [0, 2, 3, 4, 5, 9, 6, 7, 8, 10, 11, 12, 13, 14, 15, 1] rfl rfl rfl)
      ·clear hF
       revert r2000
       intro r hF
       rintro ⟨⟩
       refine Wk.block <| Wk.seq <| Wk.seq <| Wk.region <| Wo.od (o_mv rfl) rfl ?_
       refine Wo.od (o_ld (k := 13) t3 rfl rfl rfl) rfl ?_
       refine Wo.od (o_bi rfl rfl (bin_eql _ _ _)) rfl ?_
       refine Wo.nil <| At.tn ?_
       rcases br_some hF with ⟨h1955, hF⟩ | ⟨h1955, hF⟩
       ·refine Wk.condT rfl h1955 ?_
        refine Wk.exit <| At.te <| At.be ?_
        cases hF
        exact At.en () rfl sn (Turn.picksR 16 [0, 1, 2, 3, 4, 6, 7, 8, 5, 9, 10, 11, 12, 13, 14, 15] rfl rfl rfl)
       ·refine Wk.condF rfl h1955 ?_
        refine Wk.skip <| At.tn <| Wk.seq <| Wk.seq <| Wk.region <| Wo.od (o_ld (k := 1) t94 rfl rfl rfl) rfl ?_
        refine Wo.od (o_mv rfl) rfl ?_
        obtain ⟨y1956, h1957, hF⟩ := ob_some hF
        refine Wo.od (o_lkv (q := 2) (xs := l1786) (k := r1904) (vE := (fun n : Int => .int .i64 n)) (z0 := (0 : Int)) u94 (keyI u3) z3 rfl rfl rfl rfl h1957) rfl ?_
        refine Wo.od (o_bi rfl rfl (bin_gtr _ _ _)) rfl ?_
        refine Wo.nil <| At.tn ?_
        rcases br_some hF with ⟨h1958, hF⟩ | ⟨h1958, hF⟩
        ·refine Wk.condT rfl h1958 ?_
         refine Wk.seq <| Wk.region <| Wo.od (o_ld (k := 3) t94 rfl rfl rfl) rfl ?_
         refine Wo.od (o_ld (k := 12) t3 rfl rfl rfl) rfl ?_
         refine Wo.od (o_ld (k := 3) t94 rfl rfl rfl) rfl ?_
         refine Wo.od (o_ld (k := 12) t3 rfl rfl rfl) rfl ?_
         obtain ⟨y1959, h1960, hF⟩ := ob_some hF
         refine Wo.od (o_lkv (q := 4) (xs := l1787) (k := x1328) (vE := (fun n : Int => .int .i64 n)) (z0 := (0 : Int)) u94 (keyI u3) z3 rfl rfl rfl rfl h1960) rfl ?_
         refine Wo.od (o_ld (k := 1) t94 rfl rfl rfl) rfl ?_
         refine Wo.od (o_mv rfl) rfl ?_
         obtain ⟨y1961, h1962, hF⟩ := ob_some hF
         refine Wo.od (o_lkv (q := 2) (xs := l1786) (k := r1904) (vE := (fun n : Int => .int .i64 n)) (z0 := (0 : Int)) u94 (keyI u3) z3 rfl rfl rfl rfl h1962) rfl ?_
         refine Wo.od (o_bu rfl rfl (bu_mi _ _)) rfl ?_
         refine Wo.o0 (o_mu (q := 4) (xs := l1787) (k := x1328) (v := mi y1959 y1961) (vE := (fun n : Int => .int .i64 n)) u94 (keyI u3) rfl rfl rfl rfl) ?_
         refine Wo.nil <| At.tn <| Wk.exit <| At.te <| At.be ?_
         cases hF
         exact At.en () rfl sn (Turn.picksR 16 [0, 1, 2, 3, 4, 6, 7, 8, 5, 9, 10, 11, 12, 13, 14, 15] rfl rfl rfl)
        ·refine Wk.condF rfl h1958 ?_
         refine Wk.skip <| At.tn <| Wk.seq <| Wk.region <| Wo.od (o_ld (k := 14) t3 rfl rfl rfl) rfl ?_
         refine Wo.od (o_bi rfl rfl (bin_add _ _ _)) rfl ?_
         refine Wo.o0 (o_st (k := 14) t3 rfl rfl rfl rfl rfl) ?_
         refine Wo.nil <| At.tn <| Wk.seq <| Wk.region <| Wo.od (o_ld (k := 5) t108 rfl rfl rfl) rfl ?_
         refine Wo.od (o_mv rfl) rfl ?_
         refine Wo.od (o_ld (k := 12) t3 rfl rfl rfl) rfl ?_
         obtain ⟨⟨l1963, l1964, l1965, v1966⟩, h1967, hF⟩ := ob_some hF
         refine Wo.turn (Turn.picksR 16 [1, 2, 3, 4, 6, 7, 8, 5, 9, 10, 11, 0, 12, 13, 14, 15] rfl rfl rfl) ?_
         refine Wo.x (o_cs (α := Unit) (V := fun _ => .tuple #[]) (N := fun _ => (.obj b23 (.cells [.map (some b21)] .own) :: .obj b21 (.map (l1963.map (eM (fun n : Int => .int .i64 n) (fun n : Int => .int .i64 n)))) :: .obj b24 (.cells [.map (some b22)] .own) :: .obj b22 (.map (l1964.map (eM (fun n : Int => .int .i64 n) (fun n : Int => .int .i64 n)))) :: .obj b19 (.cells [.slice (some ⟨b1342, 0, none⟩) l16.length l16.length] .own) :: .sl (some ⟨b1342, 0, none⟩) 1 l16.length (l16.map (eN .u64)) :: .obj b12 (.cells [.int .u64 ((x6 : Nat) : Int)] .own) :: .obj b25 (.cells [.func (.func 76) #[] #[ptr b23 0, ptr b24 0, ptr b19 0, ptr b12 0, ptr b25 0, ptr b13 0, ptr b14 0]] .own) :: .obj b13 (.cells [.map (some b20)] .own) :: .obj b20 (.map (l1965.map (eM (fun p : Int × Int => .agg #[.int .i64 p.1, .int .i64 p.2]) (fun b : Bool => .bool b)))) :: .obj b14 (.cells [.int .u64 ((v1966 : Nat) : Int)] .own) :: .obj l1352 (rc1353 .busy none) :: .obj b1334 (.cells [.int .i64 x1328] .own) :: .obj b1335 (.cells [.int .i64 x1329] .own) :: .obj b1340 (.cells [.int .i64 (IntKind.wrap .i64 (v1790 + 1))] .own) :: .obj b1348 (.cells [.int .u64 ((v1785 : Nat) : Int)] .own) :: rest)) rfl rfl (fun m hm => ih l1786 l1787 l1788 v1789 r1904 x1328 l1963 l1964 l1965 v1966 h1967 (.obj l1352 (rc1353 .busy none) :: .obj b1334 (.cells [.int .i64 x1328] .own) :: .obj b1335 (.cells [.int .i64 x1329] .own) :: .obj b1340 (.cells [.int .i64 (IntKind.wrap .i64 (v1790 + 1))] .own) :: .obj b1348 (.cells [.int .u64 ((v1785 : Nat) : Int)] .own) :: rest) m hm)) gn rfl fun _ => ?_
         refine Wo.nil <| At.tn <| Wk.seq <| Wk.region <| Wo.od (o_ld (k := 2) t94 rfl rfl rfl) rfl ?_
         refine Wo.od (o_ld (k := 12) t3 rfl rfl rfl) rfl ?_
         refine Wo.od (o_ld (k := 2) t94 rfl rfl rfl) rfl ?_
         refine Wo.od (o_ld (k := 12) t3 rfl rfl rfl) rfl ?_
         obtain ⟨y1968, h1969, hF⟩ := ob_some hF
         refine Wo.od (o_lkv (q := 3) (xs := l1964) (k := x1328) (vE := (fun n : Int => .int .i64 n)) (z0 := (0 : Int)) u94 (keyI u3) z3 rfl rfl rfl rfl h1969) rfl ?_
         refine Wo.od (o_ld (k := 2) t94 rfl rfl rfl) rfl ?_
         refine Wo.od (o_mv rfl) rfl ?_
         obtain ⟨y1970, h1971, hF⟩ := ob_some hF
         refine Wo.od (o_lkv (q := 3) (xs := l1964) (k := r1904) (vE := (fun n : Int => .int .i64 n)) (z0 := (0 : Int)) u94 (keyI u3) z3 rfl rfl rfl rfl h1971) rfl ?_
         refine Wo.od (o_bu rfl rfl (bu_mi _ _)) rfl ?_
         refine Wo.o0 (o_mu (q := 3) (xs := l1964) (k := x1328) (v := mi y1968 y1970) (vE := (fun n : Int => .int .i64 n)) u94 (keyI u3) rfl rfl rfl rfl) ?_
         refine Wo.nil <| At.tn <| Wk.seq ?_
         obtain ⟨l1977, h1983, hF⟩ := ob_some hF
         refine Wk.cut (G := (fun (r : List ((Int × Int) × Bool)) (g : Unit) => match r, g with | l1977, _ => ⟨.normal, [(2, ptr b23 0), (3, ptr b24 0), (6, ptr b25 0), (7, ptr b13 0), (8, ptr b14 0), (9, ptr b1334 0), (10, ptr b1335 0), (11, ptr b1340 0), (12, .int .i64 r1904)], (.obj l1352 (rc1353 .busy none) :: .obj b23 (.cells [.map (some b21)] .own) :: .obj b21 (.map (l1963.map (eM (fun n : Int => .int .i64 n) (fun n : Int => .int .i64 n)))) :: .obj b24 (.cells [.map (some b22)] .own) :: .obj b22 (.map ((mput l1964 x1328 (mi y1968 y1970)).map (eM (fun n : Int => .int .i64 n) (fun n : Int => .int .i64 n)))) :: .obj b25 (.cells [.func (.func 76) #[] #[ptr b23 0, ptr b24 0, ptr b19 0, ptr b12 0, ptr b25 0, ptr b13 0, ptr b14 0]] .own) :: .obj b19 (.cells [.slice (some ⟨b1342, 0, none⟩) l16.length l16.length] .own) :: .sl (some ⟨b1342, 0, none⟩) 1 l16.length (l16.map (eN .u64)) :: .obj b12 (.cells [.int .u64 ((x6 : Nat) : Int)] .own) :: .obj b13 (.cells [.map (some b20)] .own) :: .obj b20 (.map (l1977.map (eM (fun p : Int × Int => .agg #[.int .i64 p.1, .int .i64 p.2]) (fun b : Bool => .bool b)))) :: .obj b14 (.cells [.int .u64 ((v1966 : Nat) : Int)] .own) :: .obj b1334 (.cells [.int .i64 x1328] .own) :: .obj b1335 (.cells [.int .i64 x1329] .own) :: .obj b1340 (.cells [.int .i64 (IntKind.wrap .i64 (v1790 + 1))] .own) :: .obj b1348 (.cells [.int .u64 ((v1785 : Nat) : Int)] .own) :: rest)⟩) l1977) ?_ ?_
         ·clear hF
          revert l1977
          intro r hF
          refine Wk.seq <| Wk.region <| Wo.od (o_ld (k := 2) t94 rfl rfl rfl) rfl ?_
          refine Wo.od (o_mv rfl) rfl ?_
          obtain ⟨y1978, h1979, hF⟩ := ob_some hF
          refine Wo.od (o_lkv (q := 3) (xs := (mput l1964 x1328 (mi y1968 y1970))) (k := r1904) (vE := (fun n : Int => .int .i64 n)) (z0 := (0 : Int)) u94 (keyI u3) z3 rfl rfl rfl rfl h1979) rfl ?_
          refine Wo.od (o_ld (k := 0) t94 rfl rfl rfl) rfl ?_
          refine Wo.od (o_ld (k := 12) t3 rfl rfl rfl) rfl ?_
          obtain ⟨y1980, h1981, hF⟩ := ob_some hF
          refine Wo.od (o_lkv (q := 1) (xs := l1963) (k := x1328) (vE := (fun n : Int => .int .i64 n)) (z0 := (0 : Int)) u94 (keyI u3) z3 rfl rfl rfl rfl h1981) rfl ?_
          refine Wo.od (o_bi rfl rfl (bin_gtr _ _ _)) rfl ?_
          refine Wo.nil <| At.tn ?_
          rcases br_some hF with ⟨h1982, hF⟩ | ⟨h1982, hF⟩
          ·refine Wk.condT rfl h1982 ?_
           refine Wk.region <| Wo.od (o_ld (k := 8) t87 rfl rfl rfl) rfl ?_
           refine Wo.od (o_ld (k := 12) t3 rfl rfl rfl) rfl ?_
           refine Wo.od (o_mv rfl) rfl ?_
           refine Wo.od (o_bu rfl rfl (bu_mi _ _)) rfl ?_
           refine Wo.od (o_ld (k := 12) t3 rfl rfl rfl) rfl ?_
           refine Wo.od (o_mv rfl) rfl ?_
           refine Wo.od (o_bu rfl rfl (bu_ma _ _)) rfl ?_
           refine Wo.od (o_bd rfl z26 rfl (bd_s bs26 rfl rfl rfl)) rfl ?_
           refine Wo.o0 (o_mu (q := 9) (xs := l1965) (k := (mi x1328 r1904, ma x1328 r1904)) (v := true) (vE := (fun b : Bool => .bool b)) u87 (keyP u26 t3.known t3.size t3.agg u3) rfl rfl rfl rfl) ?_
           refine Wo.nil ?_
           cases hF
           exact At.en () rfl (sc rfl (sc rfl (sc rfl (sc rfl (sc rfl (sc rfl (sc rfl (sc rfl (sc rfl sn))))))))) (Turn.picksR 16 [11, 0, 1, 2, 3, 7, 4, 5, 6, 8, 9, 10, 12, 13, 14, 15] rfl rfl rfl)
          ·refine Wk.condF rfl h1982 ?_
           refine Wk.skip ?_
           have hr := Option.some.inj hF
           subst r
           exact At.en () rfl (sc rfl (sc rfl (sc rfl (sc rfl (sc rfl (sc rfl (sc rfl (sc rfl (sc rfl sn))))))))) (Turn.picksR 16 [11, 0, 1, 2, 3, 7, 4, 5, 6, 8, 9, 10, 12, 13, 14, 15] rfl rfl rfl)
         ·clear h1983
          rintro ⟨⟩
          refine At.tn <| Wk.seq ?_
          obtain ⟨v1990, h1996, hF⟩ := ob_some hF
          refine Wk.cut (G := (fun (r : Bool) (g : Unit) => match r, g with | v1990, _ => ⟨.normal, [(2, ptr b23 0), (3, ptr b24 0), (6, ptr b25 0), (7, ptr b13 0), (8, ptr b14 0), (9, ptr b1334 0), (10, ptr b1335 0), (11, ptr b1340 0), (12, .int .i64 r1904), (87, .bool v1990)], (.obj l1352 (rc1353 .busy none) :: .obj b23 (.cells [.map (some b21)] .own) :: .obj b21 (.map (l1963.map (eM (fun n : Int => .int .i64 n) (fun n : Int => .int .i64 n)))) :: .obj b24 (.cells [.map (some b22)] .own) :: .obj b22 (.map ((mput l1964 x1328 (mi y1968 y1970)).map (eM (fun n : Int => .int .i64 n) (fun n : Int => .int .i64 n)))) :: .obj b25 (.cells [.func (.func 76) #[] #[ptr b23 0, ptr b24 0, ptr b19 0, ptr b12 0, ptr b25 0, ptr b13 0, ptr b14 0]] .own) :: .obj b19 (.cells [.slice (some ⟨b1342, 0, none⟩) l16.length l16.length] .own) :: .sl (some ⟨b1342, 0, none⟩) 1 l16.length (l16.map (eN .u64)) :: .obj b12 (.cells [.int .u64 ((x6 : Nat) : Int)] .own) :: .obj b13 (.cells [.map (some b20)] .own) :: .obj b20 (.map (l1977.map (eM (fun p : Int × Int => .agg #[.int .i64 p.1, .int .i64 p.2]) (fun b : Bool => .bool b)))) :: .obj b14 (.cells [.int .u64 ((v1966 : Nat) : Int)] .own) :: .obj b1334 (.cells [.int .i64 x1328] .own) :: .obj b1335 (.cells [.int .i64 x1329] .own) :: .obj b1340 (.cells [.int .i64 (IntKind.wrap .i64 (v1790 + 1))] .own) :: .obj b1348 (.cells [.int .u64 ((v1785 : Nat) : Int)] .own) :: rest)⟩) v1990) ?_ ?_
          ·clear hF
           revert v1990
           intro r hF
           refine Wk.region <| Wo.od (o_ld (k := 13) t3 rfl rfl rfl) rfl ?_
           refine Wo.od (o_bi rfl rfl (bin_geq _ _ _)) rfl ?_
           refine Wo.od (o_mv rfl) rfl ?_
           rcases br_some hF with ⟨h1991, hF⟩ | ⟨h1991, hF⟩
           ·refine Wo.og (o_ld (k := 3) t94 rfl rfl rfl) (gg rfl rfl (eTT h1991)) rfl ?_
            refine Wo.og (o_mv rfl) (gg rfl rfl (eTT h1991)) rfl ?_
            obtain ⟨y1992, h1993, hF⟩ := ob_some hF
            refine Wo.og (o_lkv (q := 4) (xs := (mput l1964 x1328 (mi y1968 y1970))) (k := r1904) (vE := (fun n : Int => .int .i64 n)) (z0 := (0 : Int)) u94 (keyI u3) z3 rfl rfl rfl rfl h1993) (gg rfl rfl (eTT h1991)) rfl ?_
            refine Wo.og (o_ld (k := 1) t94 rfl rfl rfl) (gg rfl rfl (eTT h1991)) rfl ?_
            refine Wo.og (o_ld (k := 12) t3 rfl rfl rfl) (gg rfl rfl (eTT h1991)) rfl ?_
            obtain ⟨y1994, h1995, hF⟩ := ob_some hF
            refine Wo.og (o_lkv (q := 2) (xs := l1963) (k := x1328) (vE := (fun n : Int => .int .i64 n)) (z0 := (0 : Int)) u94 (keyI u3) z3 rfl rfl rfl rfl h1995) (gg rfl rfl (eTT h1991)) rfl ?_
            refine Wo.og (o_bi rfl rfl (bin_geq _ _ _)) (gg rfl rfl (eTT h1991)) rfl ?_
            refine Wo.od (o_pt rfl h1991 rfl) rfl ?_
            refine Wo.nil ?_
            cases hF
            exact At.en () rfl (sc rfl (sc rfl (sc rfl (sc rfl (sc rfl (sc rfl (sc rfl (sc rfl (sc rfl (sc rfl sn)))))))))) (Turn.picksR 16 [0, 1, 2, 3, 4, 5, 6, 7, 8, 9, 10, 11, 12, 13, 14, 15] rfl rfl rfl)
           ·refine Wo.s (gg rfl rfl (eFT h1991)) rfl ?_
            refine Wo.s (gg rfl rfl (eFT h1991)) rfl ?_
            refine Wo.s (gg rfl rfl (eFT h1991)) rfl ?_
            refine Wo.s (gg rfl rfl (eFT h1991)) rfl ?_
            refine Wo.s (gg rfl rfl (eFT h1991)) rfl ?_
            refine Wo.s (gg rfl rfl (eFT h1991)) rfl ?_
            refine Wo.s (gg rfl rfl (eFT h1991)) rfl ?_
            refine Wo.od (o_pf rfl h1991 rfl) rfl ?_
            refine Wo.nil ?_
            cases hF
            exact At.en () rfl (sc rfl (sc rfl (sc rfl (sc rfl (sc rfl (sc rfl (sc rfl (sc rfl (sc rfl (sc rfl sn)))))))))) (Turn.picksR 16 [0, 1, 2, 3, 4, 5, 6, 7, 8, 9, 10, 11, 12, 13, 14, 15] rfl rfl rfl)
          ·clear h1996
           rintro ⟨⟩
           refine At.tn ?_
           rcases br_some hF with ⟨h1998, hF⟩ | ⟨h1998, hF⟩
           ·refine Wk.condT rfl h1998 ?_
            refine Wk.draw (by kernel_rfl) ?_
            refine Wo.od (o_ld (k := 11) t28 rfl rfl rfl) rfl ?_
            refine Wo.od (o_ld (k := 12) t3 rfl rfl rfl) rfl ?_
            obtain ⟨h1999, hF⟩ := gd_some hF
            refine Wo.od (o_bi rfl rfl (ub_shl rfl _ _ h1999)) rfl ?_
            refine Wo.od (o_bi rfl rfl (ub_or rfl _ _)) rfl ?_
            refine Wo.o0 (o_st (k := 11) t28 rfl rfl rfl rfl rfl) ?_
            refine Wo.nil <| At.bn ?_
            cases hF
            exact At.en () rfl sn (Turn.picksR 16 [0, 1, 2, 3, 4, 6, 7, 8, 5, 9, 10, 11, 12, 13, 14, 15] rfl rfl rfl)
           ·refine Wk.condF rfl h1998 ?_
            refine Wk.skip <| At.bn ?_
            cases hF
            exact At.en () rfl sn (Turn.picksR 16 [0, 1, 2, 3, 4, 6, 7, 8, 5, 9, 10, 11, 12, 13, 14, 15] rfl rfl rfl)
      ·clear h2001
       obtain ⟨l1950, l1951, l1952, v1953, v1954⟩ := r2000
       rintro ⟨⟩
       refine Wo.od (o_un rfl rfl) rfl ?_
       refine Wo.nil <| At.tn <| Wk.condF rfl rfl ?_
       refine Wk.skip <| At.bn <| At.tn <| Wk.region <| Wo.od (o_ld (k := 15) t28 rfl rfl rfl) rfl ?_
       refine Wo.od (o_ld (k := 15) t28 rfl rfl rfl) rfl ?_
       refine Wo.od (o_bi rfl rfl (ub_sub rfl _ _)) rfl ?_
       refine Wo.od (o_bi rfl rfl (ub_and rfl _ _)) rfl ?_
       refine Wo.o0 (o_st (k := 15) t28 rfl rfl rfl rfl rfl) ?_
       refine Wo.nil ?_
       cases hF
       exact At.en () rfl (sc rfl (sc rfl sn)) (Turn.picksR 16 [0, 15, 1, 2, 3, 4, 5, 6, 7, 8, 9, 10, 11, 12, 13, 14] rfl rfl rfl)
     ·refine Wk.condF rfl h1902 ?_
      refine Wk.exit <| At.te ?_
      cases hF
      exact At.en () rfl sn (Turn.picksR 16 [0, 2, 3, 4, 5, 6, 7, 8, 9, 10, 11, 12, 13, 14, 15] rfl rfl rfl)
    ·clear h2002
     obtain ⟨l1897, l1898, l1899, v1900, v1901⟩ := r2003
     rintro ⟨⟩
     refine At.be ?_
     cases hF
     exact At.fin .nil fun m' hm => ⟨(), (Turn.picksR 15 [0, 1, 2, 3, 4, 5, 6, 7, 8, 9, 10, 11, 12, 13, 14] rfl rfl rfl) m' hm⟩
   ·clear h2005
    obtain ⟨l1678, l1679, l1680, v1681, v1682⟩ := r2004
    rintro ⟨⟩
    change At _ .normal _ _ _
    refine At.bn <| At.tn <| Wk.seq ?_
    obtain ⟨v2007, h2009, hF⟩ := ob_some hF
    refine Wk.cut (G := (fun (r : Bool) (g : Unit) => match r, g with | v2007, _ => ⟨.normal, [(8, ptr b14 0), (9, ptr b1334 0), (97, .bool v2007)], (.obj b14 (.cells [.int .u64 ((v1681 : Nat) : Int)] .own) :: .obj b1334 (.cells [.int .i64 x1328] .own) :: .obj b23 (.cells [.map (some b21)] .own) :: .obj b21 (.map (l1678.map (eM (fun n : Int => .int .i64 n) (fun n : Int => .int .i64 n)))) :: .obj b24 (.cells [.map (some b22)] .own) :: .obj b22 (.map (l1679.map (eM (fun n : Int => .int .i64 n) (fun n : Int => .int .i64 n)))) :: .obj b19 (.cells [.slice (some ⟨b1342, 0, none⟩) l16.length l16.length] .own) :: .sl (some ⟨b1342, 0, none⟩) 1 l16.length (l16.map (eN .u64)) :: .obj b12 (.cells [.int .u64 ((x6 : Nat) : Int)] .own) :: .obj b25 (.cells [.func (.func 76) #[] #[ptr b23 0, ptr b24 0, ptr b19 0, ptr b12 0, ptr b25 0, ptr b13 0, ptr b14 0]] .own) :: .obj b13 (.cells [.map (some b20)] .own) :: .obj b20 (.map (l1680.map (eM (fun p : Int × Int => .agg #[.int .i64 p.1, .int .i64 p.2]) (fun b : Bool => .bool b)))) :: rest)⟩) v2007) ?_ ?_
    ·clear hF
     revert v2007
     intro r hF
     refine Wk.region <| Wo.od (o_ld (k := 12) t3 rfl rfl rfl) rfl ?_
     refine Wo.od (o_bi rfl rfl (bin_lss _ _ _)) rfl ?_
     refine Wo.od (o_mv rfl) rfl ?_
     rcases br_some hF with ⟨h2008, hF⟩ | ⟨h2008, hF⟩
     ·refine Wo.og (o_ld (k := 13) t3 rfl rfl rfl) (gg rfl rfl (eTT h2008)) rfl ?_
      refine Wo.og (o_bi rfl rfl (bin_gtr _ _ _)) (gg rfl rfl (eTT h2008)) rfl ?_
      refine Wo.od (o_pt rfl h2008 rfl) rfl ?_
      refine Wo.nil ?_
      cases hF
      exact At.en () rfl (sc rfl (sc rfl (sc rfl sn))) (Turn.picksR 14 [10, 11, 0, 1, 2, 3, 4, 5, 6, 7, 8, 9] rfl rfl rfl)
     ·refine Wo.s (gg rfl rfl (eFT h2008)) rfl ?_
      refine Wo.s (gg rfl rfl (eFT h2008)) rfl ?_
      refine Wo.od (o_pf rfl h2008 rfl) rfl ?_
      refine Wo.nil ?_
      cases hF
      exact At.en () rfl (sc rfl (sc rfl (sc rfl sn))) (Turn.picksR 14 [10, 11, 0, 1, 2, 3, 4, 5, 6, 7, 8, 9] rfl rfl rfl)
    ·clear h2009
     rintro ⟨⟩
     refine At.tn ?_
     rcases br_some hF with ⟨h2011, hF⟩ | ⟨h2011, hF⟩
     ·refine Wk.condT rfl h2011 ?_
      refine Wk.draw (by kernel_rfl) ?_
      refine Wo.od (o_ld (k := 0) t28 rfl rfl rfl) rfl ?_
      refine Wo.od (o_ld (k := 1) t3 rfl rfl rfl) rfl ?_
      obtain ⟨h2012, hF⟩ := gd_some hF
      refine Wo.od (o_bi rfl rfl (ub_shl rfl _ _ h2012)) rfl ?_
      refine Wo.od (o_bi rfl rfl (ub_or rfl _ _)) rfl ?_
      refine Wo.o0 (o_st (k := 0) t28 rfl rfl rfl rfl rfl) ?_
      refine Wo.nil ?_
      cases hF
      exact At.fin .nil fun m' hm => ⟨(), rfl, (Turn.picksR 12 [2, 3, 4, 5, 6, 7, 8, 9, 10, 11, 0] rfl rfl rfl) m' hm⟩
     ·refine Wk.condF rfl h2011 ?_
      refine Wk.skip ?_
      cases hF
      exact At.fin .nil fun m' hm => ⟨(), rfl, (Turn.picksR 12 [2, 3, 4, 5, 6, 7, 8, 9, 10, 11, 0] rfl rfl rfl) m' hm⟩
theorem f18_ok (n : Nat) (x1 : Int) (l2 : List (Int × Int)) (x6 : Nat) (a3 : Option Addr) (c4 : Nat) (r : List (Int × Int) × Int) (hF : F18 n x1 l2 x6 = some r) (m : AMem) (hG : Gl m) (h5 : Rd m a3 c4 2 l2.length (l2.map (eP (eI .i64) (eI .i64)))) :
  CallA E18w 18 [.agg #[.int .i64 x1, .slice a3 l2.length c4], .int .u64 ((x6 : Nat) : Int)] m (fun v m' => ∃ x : Option Addr × Nat, v = .tuple #[.slice x.1 x.2 x.2, .int .i64 r.2] ∧ Hp m m' [.sl x.1 2 x.2 (r.1.map (eP (eI .i64) (eI .i64)))]) := by
 unfold F18 at hF
 refine call_wk (m0 := m) (ps := [.rd a3 c4 2 l2.length (l2.map (eP (eI .i64) (eI .i64)))]) (N := 40) (rs := [.tmp 4, .tmp 5]) rfl Tryd.func18 rfl rfl rfl ((Hp.start m).inn rfl h5) ?_
 refine Wk.seq <| Wk.region <| Wo.x (o_bx rfl) gn rfl fun b7 => ?_
 refine Wo.od (o_as rfl) rfl ?_
 refine Wo.od (o_as rfl) rfl ?_
 refine Wo.nil <| At.tn <| Wk.seq <| Wk.seq <| Wk.region <| Wo.od (o_ld (k := 0) t25 rfl rfl rfl) rfl ?_
 refine Wo.od (o_mv rfl) rfl ?_
 obtain ⟨r9, h8, hF⟩ := ob_some hF
 refine Wo.x (o_cl rfl rfl (fun m hm => f55_ok n x1 l2 x6 a3 c4 _ h8 m (hm.rd (k := 1) rfl (.rd _ _ _ _ _))) fun _ => rfl) gn rfl ?_
 rintro ⟨⟩
 refine Wo.od (o_as rfl) rfl ?_
 refine Wo.nil <| At.tn <| Wk.seq <| Wk.region <| Wo.od (o_mv rfl) rfl ?_
 refine Wo.od (o_bi rfl rfl (ib_neq _ _)) rfl ?_
 refine Wo.nil <| At.tn ?_
 rcases br_some hF with ⟨h10, hF⟩ | ⟨h10, hF⟩
 ·refine Wk.condT rfl h10 ?_
  refine Wk.seq <| Wk.region <| Wo.od (o_mv rfl) rfl ?_
  refine Wo.od (o_as rfl) rfl ?_
  refine Wo.od (o_as rfl) rfl ?_
  refine Wo.nil <| At.tn <| Wk.ret <| At.tr ?_
  cases hF
  exact At.ret (.tmp rfl (.tmp rfl .nil)) fun m' hm => ⟨(none, 0), rfl, (Turn.trans (Turn.nil 2 rfl) (Turn.picks [0] rfl rfl)) m' hm⟩
 ·refine Wk.condF rfl h10 ?_
  refine Wk.skip <| At.tn <| Wk.seq <| Wk.region <| Wo.od (o_ld (k := 0) t25 rfl rfl rfl) rfl ?_
  refine Wo.od (o_mv rfl) rfl ?_
  obtain ⟨r2414, h2415, hF⟩ := ob_some hF
  refine Wo.x (o_cs (α := Nat) (V := fun g => (fun (r : List ((Int × Int) × Bool) × Nat) (g : Nat) => match r, g with | (l2196, v2197), b2195 => (.tuple #[.map (some b2195), .int .u64 ((v2197 : Nat) : Int)] : Value)) r2414 g) (N := fun g => (fun (r : List ((Int × Int) × Bool) × Nat) (g : Nat) => match r, g with | (l2196, v2197), b2195 => ([.obj b2195 (.map (l2196.map (eM (fun p : Int × Int => .agg #[.int .i64 p.1, .int .i64 p.2]) (fun b : Bool => .bool b)))), .obj b7 (.cells [.int .i64 x1, .slice a3 l2.length c4] .own), .rd a3 c4 2 l2.length (l2.map (eP (eI .i64) (eI .i64)))] : List Pc)) r2414 g) rfl rfl (fun m hm => ?_)) gn rfl ?_
  ·clear hF
   revert r2414
   intro r hF
   refine call_wk (N := 29) (rs := [.cell 4 87, .cell 5 28]) rfl Tryd.func59 rfl rfl rfl hm ?_
   refine Wk.seq <| Wk.region <| Wo.x (o_bx rfl) gn rfl fun b2198 => ?_
   refine Wo.x (o_bx rfl) gn rfl fun b2199 => ?_
   refine Wo.x (o_al z87 rfl) gn rfl fun b2200 => ?_
   refine Wo.x (o_al z28 rfl) gn rfl fun b2201 => ?_
   refine Wo.nil <| At.tn <| Wk.seq <| Wk.region <| Wo.od (o_ld (k := 3) t25 rfl rfl rfl) rfl ?_
   obtain ⟨l2203, h2202, hF⟩ := ob_some hF
   refine Wo.x (o_cl rfl rfl (fun m hm => f75_ok n x1 l2 a3 c4 _ h2202 m (hm.rd (k := 5) rfl (.rd _ _ _ _ _))) fun _ => rfl) gn rfl ?_
   rintro ⟨a2204, n2205⟩
   refine Wo.len (k := 0) (xs := l2203) rfl ?_
   rintro rfl
   refine Wo.x (o_al z36 rfl) gn rfl fun b2206 => ?_
   refine Wo.o0 (o_st (k := 0) t36 rfl rfl rfl rfl rfl) ?_
   refine Wo.nil <| At.tn <| Wk.seq <| Wk.region <| Wo.x o_mm gn rfl fun b2207 => ?_
   refine Wo.o0 (o_st (k := 4) t87 rfl rfl rfl rfl rfl) ?_
   refine Wo.nil <| At.tn <| Wk.seq <| Wk.region <| Wo.x o_mm gn rfl fun b2208 => ?_
   refine Wo.x o_mm gn rfl fun b2209 => ?_
   refine Wo.x (o_al z94 rfl) gn rfl fun b2210 => ?_
   refine Wo.x (o_al z94 rfl) gn rfl fun b2211 => ?_
   refine Wo.o0 (o_st (k := 1) t94 rfl rfl rfl rfl rfl) ?_
   refine Wo.o0 (o_st (k := 0) t94 rfl rfl rfl rfl rfl) ?_
   refine Wo.nil <| At.tn <| Wk.seq <| Wk.region <| Wo.x (o_al z108 rfl) gn rfl fun b2212 => ?_
   refine Wo.nil <| At.tn <| Wk.seq <| Wk.region <| Wo.od (o_mf rfl rfl) rfl ?_
   refine Wo.o0 (o_st (k := 0) t108 rfl rfl rfl rfl rfl) ?_
   refine Wo.nil <| At.tn <| Wk.seq <| Wk.seq <| Wk.region <| Wo.od (o_ld (k := 10) t28 rfl rfl rfl) rfl ?_
   obtain ⟨r2219, h2220, hF⟩ := ob_some hF
   refine Wo.x (o_cs (α := Nat) (V := fun g => (fun (r : List ((Int × Int) × Bool) × List (Int × Int) × List (Int × Int)) (g : Nat) => match r, g with | (l2215, l2216, l2217), b2214 => (.func (.func 78) #[] #[ptr b2214 0] : Value)) r2219 g) (N := fun g => (fun (r : List ((Int × Int) × Bool) × List (Int × Int) × List (Int × Int)) (g : Nat) => match r, g with | (l2215, l2216, l2217), b2214 => ([.obj b2214 (.cells [.int .u64 ((x6 : Nat) : Int)] .own), .obj b7 (.cells [.int .i64 x1, .slice a3 l2.length c4] .own), .rd a3 c4 2 l2.length (l2.map (eP (eI .i64) (eI .i64))), .obj b2200 (.cells [.map (some b2207)] .own), .obj b2207 (.map (l2215.map (eM (fun p : Int × Int => .agg #[.int .i64 p.1, .int .i64 p.2]) (fun b : Bool => .bool b)))), .obj b2201 (.cells [.int .u64 ((0 : Nat) : Int)] .own), .obj b2210 (.cells [.map (some b2208)] .own), .obj b2208 (.map (l2216.map (eM (fun n : Int => .int .i64 n) (fun n : Int => .int .i64 n)))), .obj b2212 (.cells [.func (.func 76) #[] #[ptr b2210 0, ptr b2211 0, ptr b2206 0, ptr b2199 0, ptr b2212 0, ptr b2200 0, ptr b2201 0]] .own), .obj b2211 (.cells [.map (some b2209)] .own), .obj b2209 (.map (l2217.map (eM (fun n : Int => .int .i64 n) (fun n : Int => .int .i64 n)))), .obj b2206 (.cells [.slice a2204 l2203.length l2203.length] .own), .sl a2204 1 l2203.length (l2203.map (eN .u64)), .obj b2199 (.cells [.int .u64 ((x6 : Nat) : Int)] .own)] : List Pc)) r2219 g) rfl rfl (fun m hm => ?_)) gn rfl ?_
   ·clear hF
    revert r2219
    intro r hF
    refine call_wk (N := 4) (rs := [.tmp 2]) rfl Tryd.func61 rfl rfl rfl hm ?_
    refine Wk.seq <| Wk.region <| Wo.x (o_bx rfl) gn rfl fun b2218 => ?_
    refine Wo.od (o_as rfl) rfl ?_
    refine Wo.nil <| At.tn <| Wk.seq <| Wk.region <| Wo.od (o_mf rfl rfl) rfl ?_
    refine Wo.od (o_as rfl) rfl ?_
    refine Wo.nil <| At.tn <| Wk.ret ?_
    cases hF
    exact At.ret (.tmp rfl .nil) fun m' hm => ⟨b2218, rfl, (Turn.picks [0, 13, 14, 10, 6, 9, 3, 5, 1, 2, 4, 7, 8, 11] rfl rfl) m' hm⟩
   ·clear h2220
    obtain ⟨l2215, l2216, l2217⟩ := r2219
    rintro b2214
    refine Wo.nil <| At.tn <| Wk.block ?_
    obtain ⟨r2412, h2413, hF⟩ := ob_some hF
    refine Wk.range (N := 14) (rs := []) (γ := Unit) (X := fun g => (fun (r : List ((Int × Int) × Bool) × Nat × List (Int × Int) × List (Int × Int)) (g : Unit) => (match r, g with | (l2317, v2318, l2319, l2320), _ => ⟨.ready, none, [.obj b7 (.cells [.int .i64 x1, .slice a3 l2.length c4] .own), .rd a3 c4 2 l2.length (l2.map (eP (eI .i64) (eI .i64))), .obj b2200 (.cells [.map (some b2207)] .own), .obj b2207 (.map (l2317.map (eM (fun p : Int × Int => .agg #[.int .i64 p.1, .int .i64 p.2]) (fun b : Bool => .bool b)))), .obj b2201 (.cells [.int .u64 ((v2318 : Nat) : Int)] .own), .obj b2210 (.cells [.map (some b2208)] .own), .obj b2208 (.map (l2319.map (eM (fun n : Int => .int .i64 n) (fun n : Int => .int .i64 n)))), .obj b2212 (.cells [.func (.func 76) #[] #[ptr b2210 0, ptr b2211 0, ptr b2206 0, ptr b2199 0, ptr b2212 0, ptr b2200 0, ptr b2201 0]] .own), .obj b2211 (.cells [.map (some b2209)] .own), .obj b2209 (.map (l2320.map (eM (fun n : Int => .int .i64 n) (fun n : Int => .int .i64 n)))), .obj b2206 (.cells [.slice a2204 l2203.length l2203.length] .own), .sl a2204 1 l2203.length (l2203.map (eN .u64)), .obj b2199 (.cells [.int .u64 ((x6 : Nat) : Int)] .own)]⟩ : Rn)) r2412 g) rfl rfl Tryd.func78 rfl rfl rfl ?_ (fun y => by intro e; cases e) ?_
    ·clear hF
     revert r2412
     intro r hF
     intro t2223 l2221 rc2222 h2224 h2225
     refine Wk.block ?_
     obtain ⟨r2411, h2410, hF⟩ := ob_some hF
     refine Wk.cut (G := (fun (r : List ((Int × Int) × Bool) × Nat × List (Int × Int) × List (Int × Int)) (g : Unit) => match r, g with | (l2381, v2382, l2383, l2384), _ => ⟨(.exit 0), [], [.obj l2221 (rc2222 .ready none), .obj b7 (.cells [.int .i64 x1, .slice a3 l2.length c4] .own), .rd a3 c4 2 l2.length (l2.map (eP (eI .i64) (eI .i64))), .obj b2200 (.cells [.map (some b2207)] .own), .obj b2207 (.map (l2381.map (eM (fun p : Int × Int => .agg #[.int .i64 p.1, .int .i64 p.2]) (fun b : Bool => .bool b)))), .obj b2201 (.cells [.int .u64 ((v2382 : Nat) : Int)] .own), .obj b2210 (.cells [.map (some b2208)] .own), .obj b2208 (.map (l2383.map (eM (fun n : Int => .int .i64 n) (fun n : Int => .int .i64 n)))), .obj b2212 (.cells [.func (.func 76) #[] #[ptr b2210 0, ptr b2211 0, ptr b2206 0, ptr b2199 0, ptr b2212 0, ptr b2200 0, ptr b2201 0]] .own), .obj b2211 (.cells [.map (some b2209)] .own), .obj b2209 (.map (l2384.map (eM (fun n : Int => .int .i64 n) (fun n : Int => .int .i64 n)))), .obj b2206 (.cells [.slice a2204 l2203.length l2203.length] .own), .sl a2204 1 l2203.length (l2203.map (eN .u64)), .obj b2199 (.cells [.int .u64 ((x6 : Nat) : Int)] .own)]⟩) r2411) ?_ ?_
     ·refine Wk.weak (fs' := [(0, .func (.yield l2221) #[] #[]), (1, ptr b2214 0)]) (ps' := [.obj l2221 (rc2222 .ready none), .obj b2214 (.cells [.int .u64 ((x6 : Nat) : Int)] .own), .obj b7 (.cells [.int .i64 x1, .slice a3 l2.length c4] .own), .rd a3 c4 2 l2.length (l2.map (eP (eI .i64) (eI .i64))), .obj b2200 (.cells [.map (some b2207)] .own), .obj b2207 (.map (l2215.map (eM (fun p : Int × Int => .agg #[.int .i64 p.1, .int .i64 p.2]) (fun b : Bool => .bool b)))), .obj b2201 (.cells [.int .u64 ((0 : Nat) : Int)] .own), .obj b2210 (.cells [.map (some b2208)] .own), .obj b2208 (.map (l2216.map (eM (fun n : Int => .int .i64 n) (fun n : Int => .int .i64 n)))), .obj b2212 (.cells [.func (.func 76) #[] #[ptr b2210 0, ptr b2211 0, ptr b2206 0, ptr b2199 0, ptr b2212 0, ptr b2200 0, ptr b2201 0]] .own), .obj b2211 (.cells [.map (some b2209)] .own), .obj b2209 (.map (l2217.map (eM (fun n : Int => .int .i64 n) (fun n : Int => .int .i64 n)))), .obj b2206 (.cells [.slice a2204 l2203.length l2203.length] .own), .sl a2204 1 l2203.length (l2203.map (eN .u64)), .obj b2199 (.cells [.int .u64 ((x6 : Nat) : Int)] .own)]) (sc rfl (sc rfl sn)) (Turn.picks [0, 1, 2, 3, 4, 5, 6, 7, 8, 9, 10, 11, 12, 13, 14] rfl rfl) ?_
      refine Wk.loop (σ := Nat × List ((Int × Int) × Bool) × Nat × List (Int × Int) × List (Int × Int)) (ρ := List ((Int × Int) × Bool) × Nat × List (Int × Int) × List (Int × Int)) (γ := Unit) (δ := fun _ => Unit) _ (fun (s : Nat × List ((Int × Int) × Bool) × Nat × List (Int × Int) × List (Int × Int)) (g : Unit) => match s, g with | (v2346, l2347, v2348, l2349, l2350), _ => ⟨.normal, [(0, .func (.yield l2221) #[] #[]), (1, ptr b2214 0)], [.obj l2221 (rc2222 .ready none), .obj b2214 (.cells [.int .u64 ((v2346 : Nat) : Int)] .own), .obj b7 (.cells [.int .i64 x1, .slice a3 l2.length c4] .own), .rd a3 c4 2 l2.length (l2.map (eP (eI .i64) (eI .i64))), .obj b2200 (.cells [.map (some b2207)] .own), .obj b2207 (.map (l2347.map (eM (fun p : Int × Int => .agg #[.int .i64 p.1, .int .i64 p.2]) (fun b : Bool => .bool b)))), .obj b2201 (.cells [.int .u64 ((v2348 : Nat) : Int)] .own), .obj b2210 (.cells [.map (some b2208)] .own), .obj b2208 (.map (l2349.map (eM (fun n : Int => .int .i64 n) (fun n : Int => .int .i64 n)))), .obj b2212 (.cells [.func (.func 76) #[] #[ptr b2210 0, ptr b2211 0, ptr b2206 0, ptr b2199 0, ptr b2212 0, ptr b2200 0, ptr b2201 0]] .own), .obj b2211 (.cells [.map (some b2209)] .own), .obj b2209 (.map (l2350.map (eM (fun n : Int => .int .i64 n) (fun n : Int => .int .i64 n)))), .obj b2206 (.cells [.slice a2204 l2203.length l2203.length] .own), .sl a2204 1 l2203.length (l2203.map (eN .u64)), .obj b2199 (.cells [.int .u64 ((x6 : Nat) : Int)] .own)]⟩) (fun (r : List ((Int × Int) × Bool) × Nat × List (Int × Int) × List (Int × Int)) (g : Unit) => match r, g with | (l2381, v2382, l2383, l2384), _ => ⟨(.exit 0), [], [.obj l2221 (rc2222 .ready none), .obj b7 (.cells [.int .i64 x1, .slice a3 l2.length c4] .own), .rd a3 c4 2 l2.length (l2.map (eP (eI .i64) (eI .i64))), .obj b2200 (.cells [.map (some b2207)] .own), .obj b2207 (.map (l2381.map (eM (fun p : Int × Int => .agg #[.int .i64 p.1, .int .i64 p.2]) (fun b : Bool => .bool b)))), .obj b2201 (.cells [.int .u64 ((v2382 : Nat) : Int)] .own), .obj b2210 (.cells [.map (some b2208)] .own), .obj b2208 (.map (l2383.map (eM (fun n : Int => .int .i64 n) (fun n : Int => .int .i64 n)))), .obj b2212 (.cells [.func (.func 76) #[] #[ptr b2210 0, ptr b2211 0, ptr b2206 0, ptr b2199 0, ptr b2212 0, ptr b2200 0, ptr b2201 0]] .own), .obj b2211 (.cells [.map (some b2209)] .own), .obj b2209 (.map (l2384.map (eM (fun n : Int => .int .i64 n) (fun n : Int => .int .i64 n)))), .obj b2206 (.cells [.slice a2204 l2203.length l2203.length] .own), .sl a2204 1 l2203.length (l2203.map (eN .u64)), .obj b2199 (.cells [.int .u64 ((x6 : Nat) : Int)] .own)]⟩) ?_ (fun _ _ => rfl) (fun r d => by intro e; cases e) _ _ _ h2410 ()
      clear hF h2410
      rintro ⟨v2346, l2347, v2348, l2349, l2350⟩ ⟨⟩ r hF
      unfold L18_1 at hF
      refine Wk.seq <| Wk.seq <| Wk.region <| Wo.od (o_ld (k := 1) t28 rfl rfl rfl) rfl ?_
      refine Wo.od (o_bi rfl rfl (ub_neq _ _)) rfl ?_
      refine Wo.nil <| At.tn ?_
      rcases br_some hF with ⟨h2385, hF⟩ | ⟨h2385, hF⟩
      ·refine Wk.condT rfl h2385 ?_
       refine Wk.skip <| At.tn <| Wk.seq <| Wk.block <| Wk.seq <| Wk.region <| Wo.od (o_mv rfl) rfl ?_
       refine Wo.od (o_ld (k := 1) t28 rfl rfl rfl) rfl ?_
       obtain ⟨r2387, h2386, hF⟩ := ob_some hF
       refine Wo.x (o_cl rfl rfl (fun m hm => f42_ok n v2346  _ h2386 m (hG.ext hm.ext) ) fun _ => rfl) gn rfl ?_
       rintro ⟨⟩
       obtain ⟨r2408, h2409, hF⟩ := ob_some hF
       refine Wo.x (o_yd (k := 0) (k1 := 0) (γA := Unit) (GA := (fun g : Unit => (match g with | _ => ⟨.normal, [(7, ptr b2210 0), (9, ptr b2212 0), (10, .int .i64 r2387)], [.obj l2221 (rc2222 .ready none), .obj b2210 (.cells [.map (some b2208)] .own), .obj b2208 (.map (l2349.map (eM (fun n : Int => .int .i64 n) (fun n : Int => .int .i64 n)))), .obj b2212 (.cells [.func (.func 76) #[] #[ptr b2210 0, ptr b2211 0, ptr b2206 0, ptr b2199 0, ptr b2212 0, ptr b2200 0, ptr b2201 0]] .own), .obj b2211 (.cells [.map (some b2209)] .own), .obj b2209 (.map (l2350.map (eM (fun n : Int => .int .i64 n) (fun n : Int => .int .i64 n)))), .obj b2206 (.cells [.slice a2204 l2203.length l2203.length] .own), .sl a2204 1 l2203.length (l2203.map (eN .u64)), .obj b2199 (.cells [.int .u64 ((x6 : Nat) : Int)] .own), .obj b2200 (.cells [.map (some b2207)] .own), .obj b2207 (.map (l2347.map (eM (fun p : Int × Int => .agg #[.int .i64 p.1, .int .i64 p.2]) (fun b : Bool => .bool b)))), .obj b2201 (.cells [.int .u64 ((v2348 : Nat) : Int)] .own), .obj b7 (.cells [.int .i64 x1, .slice a3 l2.length c4] .own), .rd a3 c4 2 l2.length (l2.map (eP (eI .i64) (eI .i64))), .obj b2214 (.cells [.int .u64 ((v2346 : Nat) : Int)] .own)]⟩ : En))) (γ := Unit) (G := fun g => (fun (r : List ((Int × Int) × Bool) × Nat × List (Int × Int) × List (Int × Int)) (g : Unit) => (match r, g with | (l2396, v2397, l2398, l2399), _ => ⟨.normal, [], [.obj l2221 (rc2222 .busy none), .obj b7 (.cells [.int .i64 x1, .slice a3 l2.length c4] .own), .rd a3 c4 2 l2.length (l2.map (eP (eI .i64) (eI .i64))), .obj b2200 (.cells [.map (some b2207)] .own), .obj b2207 (.map (l2396.map (eM (fun p : Int × Int => .agg #[.int .i64 p.1, .int .i64 p.2]) (fun b : Bool => .bool b)))), .obj b2201 (.cells [.int .u64 ((v2397 : Nat) : Int)] .own), .obj b2210 (.cells [.map (some b2208)] .own), .obj b2208 (.map (l2398.map (eM (fun n : Int => .int .i64 n) (fun n : Int => .int .i64 n)))), .obj b2212 (.cells [.func (.func 76) #[] #[ptr b2210 0, ptr b2211 0, ptr b2206 0, ptr b2199 0, ptr b2212 0, ptr b2200 0, ptr b2201 0]] .own), .obj b2211 (.cells [.map (some b2209)] .own), .obj b2209 (.map (l2399.map (eM (fun n : Int => .int .i64 n) (fun n : Int => .int .i64 n)))), .obj b2206 (.cells [.slice a2204 l2203.length l2203.length] .own), .sl a2204 1 l2203.length (l2203.map (eN .u64)), .obj b2199 (.cells [.int .u64 ((x6 : Nat) : Int)] .own), .obj b2214 (.cells [.int .u64 ((v2346 : Nat) : Int)] .own)]⟩ : En)) r2408 g) rfl rfl rfl h2225 h2224 rfl ?_ (fun _ => rfl) (fun _ => rfl) ?_ (fun y => rfl)) gn rfl ?_
       ·clear hF h2409
        refine Wk.region <| Wo.od (o_as rfl) rfl ?_
        refine Wo.nil ?_
        exact At.en () rfl (sc rfl (sc rfl (sc rfl sn))) (Turn.picks [0, 7, 8, 9, 10, 11, 12, 13, 14, 4, 5, 6, 2, 3, 1] rfl rfl)
       ·clear hF
        revert r2408
        intro r hF
        rintro ⟨⟩
        refine Wk.block <| Wk.seq <| Wk.region <| Wo.od (o_ld (k := 1) t94 rfl rfl rfl) rfl ?_
        refine Wo.od (o_mv rfl) rfl ?_
        obtain ⟨y2400, h2401, hF⟩ := ob_some hF
        refine Wo.od (o_lkv (q := 2) (xs := l2349) (k := r2387) (vE := (fun n : Int => .int .i64 n)) (z0 := (0 : Int)) u94 (keyI u3) z3 rfl rfl rfl rfl h2401) rfl ?_
        refine Wo.od (o_bi rfl rfl (bin_eql _ _ _)) rfl ?_
        refine Wo.nil <| At.tn ?_
        rcases br_some hF with ⟨h2402, hF⟩ | ⟨h2402, hF⟩
        ·refine Wk.condT rfl h2402 ?_
         refine Wk.region <| Wo.od (o_ld (k := 3) t108 rfl rfl rfl) rfl ?_
         refine Wo.od (o_mv rfl) rfl ?_
         obtain ⟨⟨l2403, l2404, l2405, v2406⟩, h2407, hF⟩ := ob_some hF
         refine Wo.turn (Turn.picks [1, 2, 4, 5, 6, 7, 8, 3, 9, 10, 11, 0, 12, 13, 14] rfl rfl) ?_
         refine Wo.x (o_cs (α := Unit) (V := fun _ => .tuple #[]) (N := fun _ => [.obj b2210 (.cells [.map (some b2208)] .own), .obj b2208 (.map (l2403.map (eM (fun n : Int => .int .i64 n) (fun n : Int => .int .i64 n)))), .obj b2211 (.cells [.map (some b2209)] .own), .obj b2209 (.map (l2404.map (eM (fun n : Int => .int .i64 n) (fun n : Int => .int .i64 n)))), .obj b2206 (.cells [.slice a2204 l2203.length l2203.length] .own), .sl a2204 1 l2203.length (l2203.map (eN .u64)), .obj b2199 (.cells [.int .u64 ((x6 : Nat) : Int)] .own), .obj b2212 (.cells [.func (.func 76) #[] #[ptr b2210 0, ptr b2211 0, ptr b2206 0, ptr b2199 0, ptr b2212 0, ptr b2200 0, ptr b2201 0]] .own), .obj b2200 (.cells [.map (some b2207)] .own), .obj b2207 (.map (l2405.map (eM (fun p : Int × Int => .agg #[.int .i64 p.1, .int .i64 p.2]) (fun b : Bool => .bool b)))), .obj b2201 (.cells [.int .u64 ((v2406 : Nat) : Int)] .own), .obj l2221 (rc2222 .busy none), .obj b7 (.cells [.int .i64 x1, .slice a3 l2.length c4] .own), .rd a3 c4 2 l2.length (l2.map (eP (eI .i64) (eI .i64))), .obj b2214 (.cells [.int .u64 ((v2346 : Nat) : Int)] .own)]) rfl rfl (fun m hm => r76_ok n l2203 x6 b2210 b2208 b2211 b2209 b2206 a2204 b2199 b2212 b2200 b2201 b2207 hG n l2349 l2350 l2347 v2348 r2387 (-1) l2403 l2404 l2405 v2406 h2407 ([.obj l2221 (rc2222 .busy none), .obj b7 (.cells [.int .i64 x1, .slice a3 l2.length c4] .own), .rd a3 c4 2 l2.length (l2.map (eP (eI .i64) (eI .i64))), .obj b2214 (.cells [.int .u64 ((v2346 : Nat) : Int)] .own)]) m hm)) gn rfl fun _ => ?_
         refine Wo.nil <| At.bn ?_
         cases hF
         exact At.en () rfl sn (Turn.picks [11, 12, 13, 8, 9, 10, 0, 1, 7, 2, 3, 4, 5, 6, 14] rfl rfl)
        ·refine Wk.condF rfl h2402 ?_
         refine Wk.skip <| At.bn ?_
         cases hF
         exact At.en () rfl sn (Turn.picks [0, 12, 13, 9, 10, 11, 1, 2, 3, 4, 5, 6, 7, 8, 14] rfl rfl)
       ·clear h2409
        obtain ⟨l2396, v2397, l2398, l2399⟩ := r2408
        rintro ⟨⟩
        refine Wo.od (o_un rfl rfl) rfl ?_
        refine Wo.nil <| At.tn <| Wk.condF rfl rfl ?_
        refine Wk.skip <| At.bn <| At.tn <| Wk.region <| Wo.od (o_ld (k := 14) t28 rfl rfl rfl) rfl ?_
        refine Wo.od (o_ld (k := 14) t28 rfl rfl rfl) rfl ?_
        refine Wo.od (o_bi rfl rfl (ub_sub rfl _ _)) rfl ?_
        refine Wo.od (o_bi rfl rfl (ub_and rfl _ _)) rfl ?_
        refine Wo.o0 (o_st (k := 14) t28 rfl rfl rfl rfl rfl) ?_
        refine Wo.nil ?_
        cases hF
        exact At.en () rfl (sc rfl (sc rfl sn)) (Turn.picks [0, 14, 1, 2, 3, 4, 5, 6, 7, 8, 9, 10, 11, 12, 13] rfl rfl)
      ·refine Wk.condF rfl h2385 ?_
       refine Wk.exit <| At.te ?_
       cases hF
       exact At.en () rfl sn (Turn.picks [0, 2, 3, 4, 5, 6, 7, 8, 9, 10, 11, 12, 13, 14] rfl rfl)
     ·clear h2410
      obtain ⟨l2381, v2382, l2383, l2384⟩ := r2411
      rintro ⟨⟩
      refine At.be ?_
      cases hF
      exact At.fin .nil fun m' hm => ⟨(), (Turn.picks [0, 1, 2, 3, 4, 5, 6, 7, 8, 9, 10, 11, 12, 13] rfl rfl) m' hm⟩
    ·clear h2413
     obtain ⟨l2317, v2318, l2319, l2320⟩ := r2412
     rintro ⟨⟩
     change At _ .normal _ _ _
     refine At.bn <| At.tn <| Wk.seq <| Wk.drawc (prs := [(1, 2)]) (by kernel_rfl) ?_
     refine Wn.od (o_ld (k := 2) t87 rfl rfl rfl) rfl ?_
     refine Wn.odr rfl (o_ld (k := 4) t28 rfl rfl rfl) rfl ?_
     refine Wn.o0w rfl (o_st (k := 2) t87 rfl rfl rfl rfl rfl) ?_
     refine Wn.o0 (o_st (k := 4) t28 rfl rfl rfl rfl rfl) ?_
     refine Wn.nil (fun m hm => (OkP.rw rfl rfl rfl (hm.ne (i := 4) (j := 2) rfl rfl rfl rfl (by decide) rfl) OkP.nil)) ?_
     refine At.tn <| Wk.ret ?_
     cases hF
     exact At.ret (.cell (k := 2) t87 rfl rfl rfl (.cell (k := 4) t28 rfl rfl rfl .nil)) fun m' hm => ⟨b2207, rfl, (Turn.picks [3, 0, 1] rfl rfl) m' hm⟩
  ·clear h2415
   obtain ⟨l2196, v2197⟩ := r2414
   rintro b2195
   refine Wo.od (o_mv rfl) rfl ?_
   refine Wo.od (o_ex rfl rfl) rfl ?_
   refine Wo.od (o_ex rfl rfl) rfl ?_
   refine Wo.od (o_as rfl) rfl ?_
   refine Wo.od (o_as rfl) rfl ?_
   refine Wo.nil <| At.tn <| Wk.seq <| Wk.region <| Wo.od (o_as rfl) rfl ?_
   refine Wo.nil <| At.tn <| Wk.seq <| Wk.seq <| Wk.region <| Wo.od (o_fa (r := ptr b7 1) rfl (fa25_1 _ _)) rfl ?_
   refine Wo.od (o_ld (k := 1) t23 rfl rfl rfl) rfl ?_
   refine Wo.od (o_ln (k := 2) u23 rfl rfl (.inl rfl)) rfl ?_
   refine Wo.od (o_mv rfl) rfl ?_
   refine Wo.nil <| At.tn <| Wk.block ?_
   obtain ⟨l2486, h2519, hF⟩ := ob_some hF
   refine Wk.cut (G := (fun (r : List (Int × Int)) (g : Option Addr) => match r, g with | l2486, a2487 => ⟨(.exit 0), [(9, .slice a2487 l2486.length l2486.length)], [.sl a2487 2 l2486.length (l2486.map (eP (eI .i64) (eI .i64)))]⟩) l2486) ?_ ?_
   ·refine Wk.weak (fs' := [(7, .map (some b2195)), (9, .slice none ([] : List (Int × Int)).length ([] : List (Int × Int)).length), (25, .slice a3 l2.length c4), (26, .int .i64 (l2.length : Int)), (27, .int .i64 0)]) (ps' := [.obj b2195 (.map (l2196.map (eM (fun p : Int × Int => .agg #[.int .i64 p.1, .int .i64 p.2]) (fun b : Bool => .bool b)))), .sl none 2 ([] : List (Int × Int)).length (([] : List (Int × Int)).map (eP (eI .i64) (eI .i64))), .rd a3 c4 2 l2.length (l2.map (eP (eI .i64) (eI .i64)))]) (sc rfl (sc rfl (sc rfl (sc rfl (sc rfl sn))))) (Turn.trans (Turn.nil 2 rfl) (Turn.picks [1, 0, 3] rfl rfl)) ?_
    refine Wk.loop (σ := List (Int × Int) × Int) (ρ := List (Int × Int)) (γ := Option Addr) (δ := fun _ => Option Addr) _ (fun (s : List (Int × Int) × Int) (g : Option Addr) => match s, g with | (l2449, v2451), a2450 => ⟨.normal, [(7, .map (some b2195)), (9, .slice a2450 l2449.length l2449.length), (25, .slice a3 l2.length c4), (26, .int .i64 (l2.length : Int)), (27, .int .i64 v2451)], [.obj b2195 (.map (l2196.map (eM (fun p : Int × Int => .agg #[.int .i64 p.1, .int .i64 p.2]) (fun b : Bool => .bool b)))), .sl a2450 2 l2449.length (l2449.map (eP (eI .i64) (eI .i64))), .rd a3 c4 2 l2.length (l2.map (eP (eI .i64) (eI .i64)))]⟩) (fun (r : List (Int × Int)) (g : Option Addr) => match r, g with | l2486, a2487 => ⟨(.exit 0), [(9, .slice a2487 l2486.length l2486.length)], [.sl a2487 2 l2486.length (l2486.map (eP (eI .i64) (eI .i64)))]⟩) ?_ (fun _ _ => rfl) (fun r d => by intro e; cases e) _ _ _ h2519 none
    clear hF h2519
    rintro ⟨l2449, v2451⟩ a2450 r hF
    unfold L18_2 at hF
    refine Wk.seq <| Wk.region <| Wo.od (o_bi rfl rfl (bin_lss _ _ _)) rfl ?_
    refine Wo.nil <| At.tn <| Wk.seq ?_
    rcases br_some hF with ⟨h2488, hF⟩ | ⟨h2488, hF⟩
    ·refine Wk.condT rfl h2488 ?_
     refine Wk.skip <| At.tn <| Wk.seq ?_
     obtain ⟨l2502, h2517, hF⟩ := ob_some hF
     refine Wk.cut (G := (fun (r : List (Int × Int)) (g : Option Addr) => match r, g with | l2502, a2503 => ⟨.normal, [(7, .map (some b2195)), (9, .slice a2503 l2502.length l2502.length), (25, .slice a3 l2.length c4), (26, .int .i64 (l2.length : Int)), (27, .int .i64 v2451)], [.obj b2195 (.map (l2196.map (eM (fun p : Int × Int => .agg #[.int .i64 p.1, .int .i64 p.2]) (fun b : Bool => .bool b)))), .sl a2503 2 l2502.length (l2502.map (eP (eI .i64) (eI .i64))), .rd a3 c4 2 l2.length (l2.map (eP (eI .i64) (eI .i64)))]⟩) l2502) ?_ ?_
     ·clear hF
      revert l2502
      intro r hF
      refine Wk.block <| Wk.seq <| Wk.region ?_
      obtain ⟨h2504, hF⟩ := gd_some hF
      replace h2504 := inB_some h2504
      refine Wo.openr (k := 2) rfl (pos_of h2504) ?_
      rintro b2505 o2506 rfl
      refine Wo.og (o_ixs s23 rfl rfl h2504) gn rfl ?_
      obtain ⟨⟨x2507, x2508⟩, h2509, hF⟩ := ob_some hF
      refine Wo.od (o_ldr (k := 0) t26 rfl rfl (map_at h2509) rfl rfl) rfl ?_
      refine Wo.x (o_al z26 rfl) gn rfl fun b2510 => ?_
      refine Wo.o0 (o_st (k := 0) t26 rfl rfl rfl rfl rfl) ?_
      refine Wo.nil <| At.tn <| Wk.seq <| Wk.region <| Wo.od (o_mv rfl) rfl ?_
      refine Wo.od (o_ld (k := 0) t26 rfl rfl rfl) rfl ?_
      obtain ⟨y2511, h2512, hF⟩ := ob_some hF
      refine Wo.od (o_lkv (q := 2) (xs := l2196) (k := (x2507, x2508)) (vE := (fun b : Bool => .bool b)) (z0 := false) u87 (keyP u26 t3.known t3.size t3.agg u3) z4 rfl rfl rfl rfl h2512) rfl ?_
      refine Wo.nil <| At.tn ?_
      rcases br_some hF with ⟨h2513, hF⟩ | ⟨h2513, hF⟩
      ·refine Wk.condT rfl h2513 ?_
       refine Wk.region <| Wo.od (o_mv rfl) rfl ?_
       refine Wo.od (o_ld (k := 0) t26 rfl rfl rfl) rfl ?_
       refine Wo.x (o_bs (es := ([(x2507, x2508)] : List (Int × Int)).map (eP (eI .i64) (eI .i64))) s23 rfl (bs_c s23 z26 rfl rfl) rfl rfl) gn rfl fun b2514 => ?_
       obtain ⟨h2515, hF⟩ := gd_some hF
       refine Wo.x (o_apl (k := 4) (k2 := 0) (xs := (l2449 : List (Int × Int))) (ys := ([(x2507, x2508)] : List (Int × Int))) (enP (enI .i64) (enI .i64)) s23 ⟨_, u23⟩ rfl rfl rfl (.arr _ _ _ _ _) h2515) gn rfl fun a2516 => ?_
       refine Wo.od (o_as rfl) rfl ?_
       refine Wo.nil <| At.bn ?_
       cases hF
       exact At.en a2516 rfl (sc rfl (sc rfl (sc rfl (sc rfl (sc rfl sn))))) (Turn.picks [3, 4, 5] rfl rfl)
      ·refine Wk.condF rfl h2513 ?_
       refine Wk.skip <| At.bn ?_
       have hr := Option.some.inj hF
       subst r
       exact At.en a2450 rfl (sc rfl (sc rfl (sc rfl (sc rfl (sc rfl sn))))) (Turn.picks [2, 3, 4] rfl rfl)
     ·clear h2517
      rintro a2503
      refine At.tn <| Wk.region <| Wo.od (o_bi rfl rfl (bin_add _ _ _)) rfl ?_
      refine Wo.od (o_mv rfl) rfl ?_
      refine Wo.nil ?_
      cases hF
      exact At.en a2503 rfl (sc rfl (sc rfl (sc rfl (sc rfl (sc rfl sn))))) (Turn.picks [0, 1, 2] rfl rfl)
    ·refine Wk.condF rfl h2488 ?_
     refine Wk.exit <| At.te ?_
     cases hF
     exact At.en a2450 rfl (sc rfl sn) (Turn.picks [1] rfl rfl)
   ·clear h2519
    rintro a2487
    refine At.be <| At.tn <| Wk.seq <| Wk.region <| Wo.od (o_mv rfl) rfl ?_
    refine Wo.od (o_as rfl) rfl ?_
    refine Wo.od (o_as rfl) rfl ?_
    refine Wo.nil <| At.tn <| Wk.ret ?_
    cases hF
    exact At.ret (.tmp rfl (.tmp rfl .nil)) fun m' hm => ⟨(a2487, l2486.length), rfl, (Turn.picks [0] rfl rfl) m' hm⟩
theorem f19_ok (n : Nat) (x1 : Int) (l2 : List (Int × Int)) (x6 : Nat) (a3 : Option Addr) (c4 : Nat) (r : Nat × Int) (hF : F19 n x1 l2 x6 = some r) (m : AMem) (hG : Gl m) (h5 : Rd m a3 c4 2 l2.length (l2.map (eP (eI .i64) (eI .i64)))) :
  CallA E18w 19 [.agg #[.int .i64 x1, .slice a3 l2.length c4], .int .u64 ((x6 : Nat) : Int)] m (fun v m' => ∃ x : Unit, v = .tuple #[.int .u64 ((r.1 : Nat) : Int), .int .i64 r.2] ∧ Hp m m' []) := by
 unfold F19 at hF
 refine call_wk (m0 := m) (ps := [.rd a3 c4 2 l2.length (l2.map (eP (eI .i64) (eI .i64)))]) (N := 22) (rs := [.tmp 4, .tmp 5]) rfl Tryd.func19 rfl rfl rfl ((Hp.start m).inn rfl h5) ?_
 refine Wk.seq <| Wk.region <| Wo.x (o_bx rfl) gn rfl fun b7 => ?_
 refine Wo.od (o_as rfl) rfl ?_
 refine Wo.od (o_as rfl) rfl ?_
 refine Wo.nil <| At.tn <| Wk.seq <| Wk.seq <| Wk.region <| Wo.od (o_ld (k := 0) t25 rfl rfl rfl) rfl ?_
 refine Wo.od (o_mv rfl) rfl ?_
 obtain ⟨r9, h8, hF⟩ := ob_some hF
 refine Wo.x (o_cl rfl rfl (fun m hm => f55_ok n x1 l2 x6 a3 c4 _ h8 m (hm.rd (k := 1) rfl (.rd _ _ _ _ _))) fun _ => rfl) gn rfl ?_
 rintro ⟨⟩
 refine Wo.od (o_as rfl) rfl ?_
 refine Wo.nil <| At.tn <| Wk.seq <| Wk.region <| Wo.od (o_mv rfl) rfl ?_
 refine Wo.od (o_bi rfl rfl (ib_neq _ _)) rfl ?_
 refine Wo.nil <| At.tn ?_
 rcases br_some hF with ⟨h10, hF⟩ | ⟨h10, hF⟩
 ·refine Wk.condT rfl h10 ?_
  refine Wk.seq <| Wk.region <| Wo.od (o_mv rfl) rfl ?_
  refine Wo.od (o_as rfl) rfl ?_
  refine Wo.od (o_as rfl) rfl ?_
  refine Wo.nil <| At.tn <| Wk.ret <| At.tr ?_
  cases hF
  exact At.ret (.tmp rfl (.tmp rfl .nil)) fun m' hm => ⟨(), rfl, (Turn.picks [] rfl rfl) m' hm⟩
 ·refine Wk.condF rfl h10 ?_
  refine Wk.skip <| At.tn <| Wk.seq <| Wk.region <| Wo.od (o_ld (k := 0) t25 rfl rfl rfl) rfl ?_
  refine Wo.od (o_mv rfl) rfl ?_
  obtain ⟨r446, h447, hF⟩ := ob_some hF
  refine Wo.x (o_cs (α := Nat) (V := fun g => (fun (r : List ((Int × Int) × Bool) × Nat) (g : Nat) => match r, g with | (l228, v229), b227 => (.tuple #[.map (some b227), .int .u64 ((v229 : Nat) : Int)] : Value)) r446 g) (N := fun g => (fun (r : List ((Int × Int) × Bool) × Nat) (g : Nat) => match r, g with | (l228, v229), b227 => ([.obj b227 (.map (l228.map (eM (fun p : Int × Int => .agg #[.int .i64 p.1, .int .i64 p.2]) (fun b : Bool => .bool b))))] : List Pc)) r446 g) rfl rfl (fun m hm => ?_)) gn rfl ?_
  ·clear hF
   revert r446
   intro r hF
   refine call_wk (N := 29) (rs := [.cell 4 87, .cell 5 28]) rfl Tryd.func59 rfl rfl rfl hm ?_
   refine Wk.seq <| Wk.region <| Wo.x (o_bx rfl) gn rfl fun b230 => ?_
   refine Wo.x (o_bx rfl) gn rfl fun b231 => ?_
   refine Wo.x (o_al z87 rfl) gn rfl fun b232 => ?_
   refine Wo.x (o_al z28 rfl) gn rfl fun b233 => ?_
   refine Wo.nil <| At.tn <| Wk.seq <| Wk.region <| Wo.od (o_ld (k := 3) t25 rfl rfl rfl) rfl ?_
   obtain ⟨l235, h234, hF⟩ := ob_some hF
   refine Wo.x (o_cl rfl rfl (fun m hm => f75_ok n x1 l2 a3 c4 _ h234 m (hm.rd (k := 5) rfl (.rd _ _ _ _ _))) fun _ => rfl) gn rfl ?_
   rintro ⟨a236, n237⟩
   refine Wo.len (k := 0) (xs := l235) rfl ?_
   rintro rfl
   refine Wo.x (o_al z36 rfl) gn rfl fun b238 => ?_
   refine Wo.o0 (o_st (k := 0) t36 rfl rfl rfl rfl rfl) ?_
   refine Wo.nil <| At.tn <| Wk.seq <| Wk.region <| Wo.x o_mm gn rfl fun b239 => ?_
   refine Wo.o0 (o_st (k := 4) t87 rfl rfl rfl rfl rfl) ?_
   refine Wo.nil <| At.tn <| Wk.seq <| Wk.region <| Wo.x o_mm gn rfl fun b240 => ?_
   refine Wo.x o_mm gn rfl fun b241 => ?_
   refine Wo.x (o_al z94 rfl) gn rfl fun b242 => ?_
   refine Wo.x (o_al z94 rfl) gn rfl fun b243 => ?_
   refine Wo.o0 (o_st (k := 1) t94 rfl rfl rfl rfl rfl) ?_
   refine Wo.o0 (o_st (k := 0) t94 rfl rfl rfl rfl rfl) ?_
   refine Wo.nil <| At.tn <| Wk.seq <| Wk.region <| Wo.x (o_al z108 rfl) gn rfl fun b244 => ?_
   refine Wo.nil <| At.tn <| Wk.seq <| Wk.region <| Wo.od (o_mf rfl rfl) rfl ?_
   refine Wo.o0 (o_st (k := 0) t108 rfl rfl rfl rfl rfl) ?_
   refine Wo.nil <| At.tn <| Wk.seq <| Wk.seq <| Wk.region <| Wo.od (o_ld (k := 10) t28 rfl rfl rfl) rfl ?_
   obtain ⟨r251, h252, hF⟩ := ob_some hF
   refine Wo.x (o_cs (α := Nat) (V := fun g => (fun (r : List ((Int × Int) × Bool) × List (Int × Int) × List (Int × Int)) (g : Nat) => match r, g with | (l247, l248, l249), b246 => (.func (.func 78) #[] #[ptr b246 0] : Value)) r251 g) (N := fun g => (fun (r : List ((Int × Int) × Bool) × List (Int × Int) × List (Int × Int)) (g : Nat) => match r, g with | (l247, l248, l249), b246 => ([.obj b246 (.cells [.int .u64 ((x6 : Nat) : Int)] .own), .obj b232 (.cells [.map (some b239)] .own), .obj b239 (.map (l247.map (eM (fun p : Int × Int => .agg #[.int .i64 p.1, .int .i64 p.2]) (fun b : Bool => .bool b)))), .obj b233 (.cells [.int .u64 ((0 : Nat) : Int)] .own), .obj b242 (.cells [.map (some b240)] .own), .obj b240 (.map (l248.map (eM (fun n : Int => .int .i64 n) (fun n : Int => .int .i64 n)))), .obj b244 (.cells [.func (.func 76) #[] #[ptr b242 0, ptr b243 0, ptr b238 0, ptr b231 0, ptr b244 0, ptr b232 0, ptr b233 0]] .own), .obj b243 (.cells [.map (some b241)] .own), .obj b241 (.map (l249.map (eM (fun n : Int => .int .i64 n) (fun n : Int => .int .i64 n)))), .obj b238 (.cells [.slice a236 l235.length l235.length] .own), .sl a236 1 l235.length (l235.map (eN .u64)), .obj b231 (.cells [.int .u64 ((x6 : Nat) : Int)] .own)] : List Pc)) r251 g) rfl rfl (fun m hm => ?_)) gn rfl ?_
   ·clear hF
    revert r251
    intro r hF
    refine call_wk (N := 4) (rs := [.tmp 2]) rfl Tryd.func61 rfl rfl rfl hm ?_
    refine Wk.seq <| Wk.region <| Wo.x (o_bx rfl) gn rfl fun b250 => ?_
    refine Wo.od (o_as rfl) rfl ?_
    refine Wo.nil <| At.tn <| Wk.seq <| Wk.region <| Wo.od (o_mf rfl rfl) rfl ?_
    refine Wo.od (o_as rfl) rfl ?_
    refine Wo.nil <| At.tn <| Wk.ret ?_
    cases hF
    exact At.ret (.tmp rfl .nil) fun m' hm => ⟨b250, rfl, (Turn.picks [0, 10, 6, 9, 3, 5, 1, 2, 4, 7, 8, 11] rfl rfl) m' hm⟩
   ·clear h252
    obtain ⟨l247, l248, l249⟩ := r251
    rintro b246
    refine Wo.nil <| At.tn <| Wk.block ?_
    obtain ⟨r444, h445, hF⟩ := ob_some hF
    refine Wk.range (N := 14) (rs := []) (γ := Unit) (X := fun g => (fun (r : List ((Int × Int) × Bool) × Nat × List (Int × Int) × List (Int × Int)) (g : Unit) => (match r, g with | (l349, v350, l351, l352), _ => ⟨.ready, none, [.obj b232 (.cells [.map (some b239)] .own), .obj b239 (.map (l349.map (eM (fun p : Int × Int => .agg #[.int .i64 p.1, .int .i64 p.2]) (fun b : Bool => .bool b)))), .obj b233 (.cells [.int .u64 ((v350 : Nat) : Int)] .own), .obj b242 (.cells [.map (some b240)] .own), .obj b240 (.map (l351.map (eM (fun n : Int => .int .i64 n) (fun n : Int => .int .i64 n)))), .obj b244 (.cells [.func (.func 76) #[] #[ptr b242 0, ptr b243 0, ptr b238 0, ptr b231 0, ptr b244 0, ptr b232 0, ptr b233 0]] .own), .obj b243 (.cells [.map (some b241)] .own), .obj b241 (.map (l352.map (eM (fun n : Int => .int .i64 n) (fun n : Int => .int .i64 n)))), .obj b238 (.cells [.slice a236 l235.length l235.length] .own), .sl a236 1 l235.length (l235.map (eN .u64)), .obj b231 (.cells [.int .u64 ((x6 : Nat) : Int)] .own)]⟩ : Rn)) r444 g) rfl rfl Tryd.func78 rfl rfl rfl ?_ (fun y => by intro e; cases e) ?_
    ·clear hF
     revert r444
     intro r hF
     intro t255 l253 rc254 h256 h257
     refine Wk.block ?_
     obtain ⟨r443, h442, hF⟩ := ob_some hF
     refine Wk.cut (G := (fun (r : List ((Int × Int) × Bool) × Nat × List (Int × Int) × List (Int × Int)) (g : Unit) => match r, g with | (l413, v414, l415, l416), _ => ⟨(.exit 0), [], [.obj l253 (rc254 .ready none), .obj b232 (.cells [.map (some b239)] .own), .obj b239 (.map (l413.map (eM (fun p : Int × Int => .agg #[.int .i64 p.1, .int .i64 p.2]) (fun b : Bool => .bool b)))), .obj b233 (.cells [.int .u64 ((v414 : Nat) : Int)] .own), .obj b242 (.cells [.map (some b240)] .own), .obj b240 (.map (l415.map (eM (fun n : Int => .int .i64 n) (fun n : Int => .int .i64 n)))), .obj b244 (.cells [.func (.func 76) #[] #[ptr b242 0, ptr b243 0, ptr b238 0, ptr b231 0, ptr b244 0, ptr b232 0, ptr b233 0]] .own), .obj b243 (.cells [.map (some b241)] .own), .obj b241 (.map (l416.map (eM (fun n : Int => .int .i64 n) (fun n : Int => .int .i64 n)))), .obj b238 (.cells [.slice a236 l235.length l235.length] .own), .sl a236 1 l235.length (l235.map (eN .u64)), .obj b231 (.cells [.int .u64 ((x6 : Nat) : Int)] .own)]⟩) r443) ?_ ?_
     ·refine Wk.weak (fs' := [(0, .func (.yield l253) #[] #[]), (1, ptr b246 0)]) (ps' := [.obj l253 (rc254 .ready none), .obj b246 (.cells [.int .u64 ((x6 : Nat) : Int)] .own), .obj b232 (.cells [.map (some b239)] .own), .obj b239 (.map (l247.map (eM (fun p : Int × Int => .agg #[.int .i64 p.1, .int .i64 p.2]) (fun b : Bool => .bool b)))), .obj b233 (.cells [.int .u64 ((0 : Nat) : Int)] .own), .obj b242 (.cells [.map (some b240)] .own), .obj b240 (.map (l248.map (eM (fun n : Int => .int .i64 n) (fun n : Int => .int .i64 n)))), .obj b244 (.cells [.func (.func 76) #[] #[ptr b242 0, ptr b243 0, ptr b238 0, ptr b231 0, ptr b244 0, ptr b232 0, ptr b233 0]] .own), .obj b243 (.cells [.map (some b241)] .own), .obj b241 (.map (l249.map (eM (fun n : Int => .int .i64 n) (fun n : Int => .int .i64 n)))), .obj b238 (.cells [.slice a236 l235.length l235.length] .own), .sl a236 1 l235.length (l235.map (eN .u64)), .obj b231 (.cells [.int .u64 ((x6 : Nat) : Int)] .own)]) (sc rfl (sc rfl sn)) (Turn.picks [0, 1, 2, 3, 4, 5, 6, 7, 8, 9, 10, 11, 12] rfl rfl) ?_
      refine Wk.loop (σ := Nat × List ((Int × Int) × Bool) × Nat × List (Int × Int) × List (Int × Int)) (ρ := List ((Int × Int) × Bool) × Nat × List (Int × Int) × List (Int × Int)) (γ := Unit) (δ := fun _ => Unit) _ (fun (s : Nat × List ((Int × Int) × Bool) × Nat × List (Int × Int) × List (Int × Int)) (g : Unit) => match s, g with | (v378, l379, v380, l381, l382), _ => ⟨.normal, [(0, .func (.yield l253) #[] #[]), (1, ptr b246 0)], [.obj l253 (rc254 .ready none), .obj b246 (.cells [.int .u64 ((v378 : Nat) : Int)] .own), .obj b232 (.cells [.map (some b239)] .own), .obj b239 (.map (l379.map (eM (fun p : Int × Int => .agg #[.int .i64 p.1, .int .i64 p.2]) (fun b : Bool => .bool b)))), .obj b233 (.cells [.int .u64 ((v380 : Nat) : Int)] .own), .obj b242 (.cells [.map (some b240)] .own), .obj b240 (.map (l381.map (eM (fun n : Int => .int .i64 n) (fun n : Int => .int .i64 n)))), .obj b244 (.cells [.func (.func 76) #[] #[ptr b242 0, ptr b243 0, ptr b238 0, ptr b231 0, ptr b244 0, ptr b232 0, ptr b233 0]] .own), .obj b243 (.cells [.map (some b241)] .own), .obj b241 (.map (l382.map (eM (fun n : Int => .int .i64 n) (fun n : Int => .int .i64 n)))), .obj b238 (.cells [.slice a236 l235.length l235.length] .own), .sl a236 1 l235.length (l235.map (eN .u64)), .obj b231 (.cells [.int .u64 ((x6 : Nat) : Int)] .own)]⟩) (fun (r : List ((Int × Int) × Bool) × Nat × List (Int × Int) × List (Int × Int)) (g : Unit) => match r, g with | (l413, v414, l415, l416), _ => ⟨(.exit 0), [], [.obj l253 (rc254 .ready none), .obj b232 (.cells [.map (some b239)] .own), .obj b239 (.map (l413.map (eM (fun p : Int × Int => .agg #[.int .i64 p.1, .int .i64 p.2]) (fun b : Bool => .bool b)))), .obj b233 (.cells [.int .u64 ((v414 : Nat) : Int)] .own), .obj b242 (.cells [.map (some b240)] .own), .obj b240 (.map (l415.map (eM (fun n : Int => .int .i64 n) (fun n : Int => .int .i64 n)))), .obj b244 (.cells [.func (.func 76) #[] #[ptr b242 0, ptr b243 0, ptr b238 0, ptr b231 0, ptr b244 0, ptr b232 0, ptr b233 0]] .own), .obj b243 (.cells [.map (some b241)] .own), .obj b241 (.map (l416.map (eM (fun n : Int => .int .i64 n) (fun n : Int => .int .i64 n)))), .obj b238 (.cells [.slice a236 l235.length l235.length] .own), .sl a236 1 l235.length (l235.map (eN .u64)), .obj b231 (.cells [.int .u64 ((x6 : Nat) : Int)] .own)]⟩) ?_ (fun _ _ => rfl) (fun r d => by intro e; cases e) _ _ _ h442 ()
      clear hF h442
      rintro ⟨v378, l379, v380, l381, l382⟩ ⟨⟩ r hF
      unfold L19_1 at hF
      refine Wk.seq <| Wk.seq <| Wk.region <| Wo.od (o_ld (k := 1) t28 rfl rfl rfl) rfl ?_
      refine Wo.od (o_bi rfl rfl (ub_neq _ _)) rfl ?_
      refine Wo.nil <| At.tn ?_
      rcases br_some hF with ⟨h417, hF⟩ | ⟨h417, hF⟩
      ·refine Wk.condT rfl h417 ?_
       refine Wk.skip <| At.tn <| Wk.seq <| Wk.block <| Wk.seq <| Wk.region <| Wo.od (o_mv rfl) rfl ?_
       refine Wo.od (o_ld (k := 1) t28 rfl rfl rfl) rfl ?_
       obtain ⟨r419, h418, hF⟩ := ob_some hF
       refine Wo.x (o_cl rfl rfl (fun m hm => f42_ok n v378  _ h418 m (hG.ext hm.ext) ) fun _ => rfl) gn rfl ?_
       rintro ⟨⟩
       obtain ⟨r440, h441, hF⟩ := ob_some hF
       refine Wo.x (o_yd (k := 0) (k1 := 0) (γA := Unit) (GA := (fun g : Unit => (match g with | _ => ⟨.normal, [(7, ptr b242 0), (9, ptr b244 0), (10, .int .i64 r419)], [.obj l253 (rc254 .ready none), .obj b242 (.cells [.map (some b240)] .own), .obj b240 (.map (l381.map (eM (fun n : Int => .int .i64 n) (fun n : Int => .int .i64 n)))), .obj b244 (.cells [.func (.func 76) #[] #[ptr b242 0, ptr b243 0, ptr b238 0, ptr b231 0, ptr b244 0, ptr b232 0, ptr b233 0]] .own), .obj b243 (.cells [.map (some b241)] .own), .obj b241 (.map (l382.map (eM (fun n : Int => .int .i64 n) (fun n : Int => .int .i64 n)))), .obj b238 (.cells [.slice a236 l235.length l235.length] .own), .sl a236 1 l235.length (l235.map (eN .u64)), .obj b231 (.cells [.int .u64 ((x6 : Nat) : Int)] .own), .obj b232 (.cells [.map (some b239)] .own), .obj b239 (.map (l379.map (eM (fun p : Int × Int => .agg #[.int .i64 p.1, .int .i64 p.2]) (fun b : Bool => .bool b)))), .obj b233 (.cells [.int .u64 ((v380 : Nat) : Int)] .own), .obj b246 (.cells [.int .u64 ((v378 : Nat) : Int)] .own)]⟩ : En))) (γ := Unit) (G := fun g => (fun (r : List ((Int × Int) × Bool) × Nat × List (Int × Int) × List (Int × Int)) (g : Unit) => (match r, g with | (l428, v429, l430, l431), _ => ⟨.normal, [], [.obj l253 (rc254 .busy none), .obj b232 (.cells [.map (some b239)] .own), .obj b239 (.map (l428.map (eM (fun p : Int × Int => .agg #[.int .i64 p.1, .int .i64 p.2]) (fun b : Bool => .bool b)))), .obj b233 (.cells [.int .u64 ((v429 : Nat) : Int)] .own), .obj b242 (.cells [.map (some b240)] .own), .obj b240 (.map (l430.map (eM (fun n : Int => .int .i64 n) (fun n : Int => .int .i64 n)))), .obj b244 (.cells [.func (.func 76) #[] #[ptr b242 0, ptr b243 0, ptr b238 0, ptr b231 0, ptr b244 0, ptr b232 0, ptr b233 0]] .own), .obj b243 (.cells [.map (some b241)] .own), .obj b241 (.map (l431.map (eM (fun n : Int => .int .i64 n) (fun n : Int => .int .i64 n)))), .obj b238 (.cells [.slice a236 l235.length l235.length] .own), .sl a236 1 l235.length (l235.map (eN .u64)), .obj b231 (.cells [.int .u64 ((x6 : Nat) : Int)] .own), .obj b246 (.cells [.int .u64 ((v378 : Nat) : Int)] .own)]⟩ : En)) r440 g) rfl rfl rfl h257 h256 rfl ?_ (fun _ => rfl) (fun _ => rfl) ?_ (fun y => rfl)) gn rfl ?_
       ·clear hF h441
        refine Wk.region <| Wo.od (o_as rfl) rfl ?_
        refine Wo.nil ?_
        exact At.en () rfl (sc rfl (sc rfl (sc rfl sn))) (Turn.picks [0, 5, 6, 7, 8, 9, 10, 11, 12, 2, 3, 4, 1] rfl rfl)
       ·clear hF
        revert r440
        intro r hF
        rintro ⟨⟩
        refine Wk.block <| Wk.seq <| Wk.region <| Wo.od (o_ld (k := 1) t94 rfl rfl rfl) rfl ?_
        refine Wo.od (o_mv rfl) rfl ?_
        obtain ⟨y432, h433, hF⟩ := ob_some hF
        refine Wo.od (o_lkv (q := 2) (xs := l381) (k := r419) (vE := (fun n : Int => .int .i64 n)) (z0 := (0 : Int)) u94 (keyI u3) z3 rfl rfl rfl rfl h433) rfl ?_
        refine Wo.od (o_bi rfl rfl (bin_eql _ _ _)) rfl ?_
        refine Wo.nil <| At.tn ?_
        rcases br_some hF with ⟨h434, hF⟩ | ⟨h434, hF⟩
        ·refine Wk.condT rfl h434 ?_
         refine Wk.region <| Wo.od (o_ld (k := 3) t108 rfl rfl rfl) rfl ?_
         refine Wo.od (o_mv rfl) rfl ?_
         obtain ⟨⟨l435, l436, l437, v438⟩, h439, hF⟩ := ob_some hF
         refine Wo.turn (Turn.picks [1, 2, 4, 5, 6, 7, 8, 3, 9, 10, 11, 0, 12] rfl rfl) ?_
         refine Wo.x (o_cs (α := Unit) (V := fun _ => .tuple #[]) (N := fun _ => [.obj b242 (.cells [.map (some b240)] .own), .obj b240 (.map (l435.map (eM (fun n : Int => .int .i64 n) (fun n : Int => .int .i64 n)))), .obj b243 (.cells [.map (some b241)] .own), .obj b241 (.map (l436.map (eM (fun n : Int => .int .i64 n) (fun n : Int => .int .i64 n)))), .obj b238 (.cells [.slice a236 l235.length l235.length] .own), .sl a236 1 l235.length (l235.map (eN .u64)), .obj b231 (.cells [.int .u64 ((x6 : Nat) : Int)] .own), .obj b244 (.cells [.func (.func 76) #[] #[ptr b242 0, ptr b243 0, ptr b238 0, ptr b231 0, ptr b244 0, ptr b232 0, ptr b233 0]] .own), .obj b232 (.cells [.map (some b239)] .own), .obj b239 (.map (l437.map (eM (fun p : Int × Int => .agg #[.int .i64 p.1, .int .i64 p.2]) (fun b : Bool => .bool b)))), .obj b233 (.cells [.int .u64 ((v438 : Nat) : Int)] .own), .obj l253 (rc254 .busy none), .obj b246 (.cells [.int .u64 ((v378 : Nat) : Int)] .own)]) rfl rfl (fun m hm => r76_ok n l235 x6 b242 b240 b243 b241 b238 a236 b231 b244 b232 b233 b239 hG n l381 l382 l379 v380 r419 (-1) l435 l436 l437 v438 h439 ([.obj l253 (rc254 .busy none), .obj b246 (.cells [.int .u64 ((v378 : Nat) : Int)] .own)]) m hm)) gn rfl fun _ => ?_
         refine Wo.nil <| At.bn ?_
         cases hF
         exact At.en () rfl sn (Turn.picks [11, 8, 9, 10, 0, 1, 7, 2, 3, 4, 5, 6, 12] rfl rfl)
        ·refine Wk.condF rfl h434 ?_
         refine Wk.skip <| At.bn ?_
         cases hF
         exact At.en () rfl sn (Turn.picks [0, 9, 10, 11, 1, 2, 3, 4, 5, 6, 7, 8, 12] rfl rfl)
       ·clear h441
        obtain ⟨l428, v429, l430, l431⟩ := r440
        rintro ⟨⟩
        refine Wo.od (o_un rfl rfl) rfl ?_
        refine Wo.nil <| At.tn <| Wk.condF rfl rfl ?_
        refine Wk.skip <| At.bn <| At.tn <| Wk.region <| Wo.od (o_ld (k := 12) t28 rfl rfl rfl) rfl ?_
        refine Wo.od (o_ld (k := 12) t28 rfl rfl rfl) rfl ?_
        refine Wo.od (o_bi rfl rfl (ub_sub rfl _ _)) rfl ?_
        refine Wo.od (o_bi rfl rfl (ub_and rfl _ _)) rfl ?_
        refine Wo.o0 (o_st (k := 12) t28 rfl rfl rfl rfl rfl) ?_
        refine Wo.nil ?_
        cases hF
        exact At.en () rfl (sc rfl (sc rfl sn)) (Turn.picks [0, 12, 1, 2, 3, 4, 5, 6, 7, 8, 9, 10, 11] rfl rfl)
      ·refine Wk.condF rfl h417 ?_
       refine Wk.exit <| At.te ?_
       cases hF
       exact At.en () rfl sn (Turn.picks [0, 2, 3, 4, 5, 6, 7, 8, 9, 10, 11, 12] rfl rfl)
     ·clear h442
      obtain ⟨l413, v414, l415, l416⟩ := r443
      rintro ⟨⟩
      refine At.be ?_
      cases hF
      exact At.fin .nil fun m' hm => ⟨(), (Turn.picks [0, 1, 2, 3, 4, 5, 6, 7, 8, 9, 10, 11] rfl rfl) m' hm⟩
    ·clear h445
     obtain ⟨l349, v350, l351, l352⟩ := r444
     rintro ⟨⟩
     change At _ .normal _ _ _
     refine At.bn <| At.tn <| Wk.seq <| Wk.drawc (prs := [(1, 2)]) (by kernel_rfl) ?_
     refine Wn.od (o_ld (k := 0) t87 rfl rfl rfl) rfl ?_
     refine Wn.odr rfl (o_ld (k := 2) t28 rfl rfl rfl) rfl ?_
     refine Wn.o0w rfl (o_st (k := 0) t87 rfl rfl rfl rfl rfl) ?_
     refine Wn.o0 (o_st (k := 2) t28 rfl rfl rfl rfl rfl) ?_
     refine Wn.nil (fun m hm => (OkP.rw rfl rfl rfl (hm.ne (i := 2) (j := 0) rfl rfl rfl rfl (by decide) rfl) OkP.nil)) ?_
     refine At.tn <| Wk.ret ?_
     cases hF
     exact At.ret (.cell (k := 0) t87 rfl rfl rfl (.cell (k := 2) t28 rfl rfl rfl .nil)) fun m' hm => ⟨b239, rfl, (Turn.picks [1] rfl rfl) m' hm⟩
  ·clear h447
   obtain ⟨l228, v229⟩ := r446
   rintro b227
   refine Wo.od (o_mv rfl) rfl ?_
   refine Wo.od (o_ex rfl rfl) rfl ?_
   refine Wo.od (o_ex rfl rfl) rfl ?_
   refine Wo.od (o_as rfl) rfl ?_
   refine Wo.od (o_as rfl) rfl ?_
   refine Wo.nil <| At.tn <| Wk.seq <| Wk.region <| Wo.od (o_mv rfl) rfl ?_
   refine Wo.od (o_as rfl) rfl ?_
   refine Wo.od (o_as rfl) rfl ?_
   refine Wo.nil <| At.tn <| Wk.ret ?_
   cases hF
   exact At.ret (.tmp rfl (.tmp rfl .nil)) fun m' hm => ⟨(), rfl, (Turn.picks [] rfl rfl) m' hm⟩
end Go.Proofs.YtpclggcpobakhaaDoor.WT
end

section
namespace Go.Proofs.YtpclggcpobakhaaDoor.W0
open Go Go.Ab Go.Ab.W Go.Proofs.YtpclggcpobakhaaDoor
set_option maxRecDepth 10000
set_option maxHeartbeats 4000000
attribute [local irreducible] Tm.at Trie.set Trie.get AMem.get AMem.set AMem.alloc AMem.ww AMem.kill
theorem fu27 : E18w.P.underlying 27 = some (.slice 25) := by kernel_rfl
theorem fs27 : SlT E18w.P 27 25 2 := SlT.of (by kernel_rfl)
theorem fz25 : zeroA E18w.P 25 = some (.agg #[.int .i64 0, .slice none 0 0]) := by kernel_rfl
theorem ft25 : TyI E18w.P 25 true 2 := ⟨by kernel_rfl, by kernel_rfl, by kernel_rfl⟩
theorem ft55 : TyI E18w.P 55 true 4 := ⟨by kernel_rfl, by kernel_rfl, by kernel_rfl⟩
theorem ft58 : TyI E18w.P 58 true 10 := ⟨by kernel_rfl, by kernel_rfl, by kernel_rfl⟩
theorem far59 : ArT E18w.P 59 25 3 2 := ⟨by kernel_rfl, by kernel_rfl, by kernel_rfl⟩
abbrev enE : Int × Int → List Value := eP (eI .i64) (eI .i64)
def cOf (N1 : Int) (a1 : Option Addr) (l1 : List (Int × Int)) (N2 : Int) (a2 : Option Addr) (l2 : List (Int × Int)) (N3 : Int) (a3 : Option Addr) (l3 : List (Int × Int)) (j : Nat) : List Value :=
 match j with
 | 0 => [.int .i64 N1, .slice a1 l1.length l1.length]
 | 1 => [.int .i64 N2, .slice a2 l2.length l2.length]
 | _ => [.int .i64 N3, .slice a3 l3.length l3.length]
theorem cOf_two (N1 : Int) (a1 : Option Addr) (l1 : List (Int × Int)) (N2 : Int) (a2 : Option Addr) (l2 : List (Int × Int)) (N3 : Int) (a3 : Option Addr) (l3 : List (Int × Int)) (j : Nat) : (cOf N1 a1 l1 N2 a2 l2 N3 a3 l3 j).length = 2 ∧ (cOf N1 a1 l1 N2 a2 l2 N3 a3 l3 j).all oneC = true := by
 unfold cOf
 split <;> exact ⟨rfl, rfl⟩
section
variable {m0 : AMem} {n : Nat} {N1 N2 N3 : Int} {a1 a2 a3 : Option Addr} {l1 l2 l3 : List (Int × Int)}
abbrev AGG (N1 : Int) (a1 : Option Addr) (l1 : List (Int × Int)) (N2 : Int) (a2 : Option Addr) (l2 : List (Int × Int)) (N3 : Int) (a3 : Option Addr) (l3 : List (Int × Int)) : Value := .agg #[.int .i64 N1, .slice a1 l1.length l1.length, .int .i64 N2, .slice a2 l2.length l2.length, .int .i64 N3, .slice a3 l3.length l3.length]
abbrev iFs (N1 : Int) (a1 : Option Addr) (l1 : List (Int × Int)) (N2 : Int) (a2 : Option Addr) (l2 : List (Int × Int)) (N3 : Int) (a3 : Option Addr) (l3 : List (Int × Int)) (o : Option Addr) (J : List Nat) (i : Int) : Fs := [(5, .slice o J.length J.length), (10, AGG N1 a1 l1 N2 a2 l2 N3 a3 l3), (11, .int .i64 i)]
abbrev iPs (N1 : Int) (a1 : Option Addr) (l1 : List (Int × Int)) (N2 : Int) (a2 : Option Addr) (l2 : List (Int × Int)) (N3 : Int) (a3 : Option Addr) (l3 : List (Int × Int)) (o : Option Addr) (J : List Nat) : List Pc := [.sl o 2 J.length (J.map (cOf N1 a1 l1 N2 a2 l2 N3 a3 l3)), .rd a1 l1.length 2 l1.length (l1.map enE), .rd a2 l2.length 2 l2.length (l2.map enE), .rd a3 l3.length 2 l3.length (l3.map enE)]
def aOf (a1 a2 a3 : Option Addr) (j : Nat) : Option Addr :=
 match j with
 | 0 => a1
 | 1 => a2
 | _ => a3
theorem ix59 : ∀ j : Nat, j < 3 → indexA E18w.P 59 (AGG N1 a1 l1 N2 a2 l2 N3 a3 l3) (.int .i64 (j : Int)) = some (.agg #[.int .i64 (gOf N1 l1 N2 l2 N3 l3 j).1, .slice (aOf a1 a2 a3 j) (gOf N1 l1 N2 l2 N3 l3 j).2.length (gOf N1 l1 N2 l2 N3 l3 j).2.length])
 | 0, _ => ix_c far59 (i := 0) (by decide) (part_a ft25 rfl)
 | 1, _ => ix_c far59 (i := 1) (by decide) (part_a ft25 rfl)
 | 2, _ => ix_c far59 (i := 2) (by decide) (part_a ft25 rfl)
theorem pk59 {o : Option Addr} {J : List Nat} : ∀ j : Nat, j < 3 → pk (iPs N1 a1 l1 N2 a2 l2 N3 a3 l3 o J) (j + 1) = some (.rd (aOf a1 a2 a3 j) (gOf N1 l1 N2 l2 N3 l3 j).2.length 2 (gOf N1 l1 N2 l2 N3 l3 j).2.length ((gOf N1 l1 N2 l2 N3 l3 j).2.map enE))
 | 0, _ => rfl
 | 1, _ => rfl
 | 2, _ => rfl
theorem cOf_eq (j : Nat) : cOf N1 a1 l1 N2 a2 l2 N3 a3 l3 j = [.int .i64 (gOf N1 l1 N2 l2 N3 l3 j).1, .slice (aOf a1 a2 a3 j) (gOf N1 l1 N2 l2 N3 l3 j).2.length (gOf N1 l1 N2 l2 N3 l3 j).2.length] := by
 match j with
 | 0 => rfl
 | 1 => rfl
 | _ + 2 => rfl
theorem enC : Enc (cOf N1 a1 l1 N2 a2 l2 N3 a3 l3) 2 := ⟨fun j => (cOf_two N1 a1 l1 N2 a2 l2 N3 a3 l3 j).1, fun j => (cOf_two N1 a1 l1 N2 a2 l2 N3 a3 l3 j).2⟩
def fitI (N1 : Int) (a1 : Option Addr) (l1 : List (Int × Int)) (N2 : Int) (a2 : Option Addr) (l2 : List (Int × Int)) (N3 : Int) (a3 : Option Addr) (l3 : List (Int × Int)) (s : List Nat × Int) (o : Option Addr) : En := ⟨.normal, iFs N1 a1 l1 N2 a2 l2 N3 a3 l3 o s.1 s.2, iPs N1 a1 l1 N2 a2 l2 N3 a3 l3 o s.1⟩
def fitX (N1 : Int) (a1 : Option Addr) (l1 : List (Int × Int)) (N2 : Int) (a2 : Option Addr) (l2 : List (Int × Int)) (N3 : Int) (a3 : Option Addr) (l3 : List (Int × Int)) (J : List Nat) (o : Option Addr) : En := ⟨.exit 0, [(5, .slice o J.length J.length)], iPs N1 a1 l1 N2 a2 l2 N3 a3 l3 o J⟩
end
theorem f41_ok (n : Nat) (x1 : Nat) (x2 : Nat) (x3 : Nat) (l4 : List (Nat × Nat)) (x8 : Nat) (x9 : Nat) (x10 : Int) (x11 : Int) (x12 : Int) (x13 : Nat) (x14 : Nat) (x15 : Int) (x16 : Int) (x17 : Int) (a5 : Option Addr) (c6 : Nat) (r : List (Int × List (Int × Int))) (hF : F41 n x1 x2 x3 l4 x8 x9 x10 x11 x12 x13 x14 x15 x16 x17 = some r) (m : AMem) (h7 : Rd m a5 c6 2 l4.length (l4.map (eP (eN .u8) (eN .u8)))) :
  CallA E18w 41 [.agg #[.int .u8 ((x1 : Nat) : Int), .int .u8 ((x2 : Nat) : Int), .int .u16 ((x3 : Nat) : Int), .slice a5 l4.length c6], .agg #[.int .u8 ((x8 : Nat) : Int), .int .u8 ((x9 : Nat) : Int), .int .i64 x10, .int .i64 x11, .int .i64 x12, .int .u8 ((x13 : Nat) : Int), .int .u8 ((x14 : Nat) : Int), .int .i64 x15, .int .i64 x16, .int .i64 x17]] m (fun v m' => ∃ a : Option Addr, v = .slice a r.length r.length ∧ Ext m m' ∧ Gs m' a r.length r.length r) := by
 unfold F41 at hF
 refine call_wk (m0 := m) (ps := [.rd a5 c6 2 l4.length (l4.map (eP (eN .u8) (eN .u8)))]) (N := 23) (rs := [.tmp 4]) rfl Tryd.func41 rfl rfl rfl ((Hp.start m).inn rfl h7) ?_
 refine Wk.seq ?_
 refine Wk.region ?_
 refine Wo.x (o_bx rfl) gn rfl fun b19 => ?_
 refine Wo.x (o_bx rfl) gn rfl fun b20 => ?_
 refine Wo.od (o_as rfl) rfl ?_
 refine Wo.nil ?_
 refine At.tn ?_
 refine Wk.seq ?_
 refine Wk.region ?_
 refine Wo.od (o_as rfl) rfl ?_
 refine Wo.nil ?_
 refine At.tn ?_
 refine Wk.seq ?_
 refine Wk.seq ?_
 refine Wk.region ?_
 refine Wo.od (o_ld (k := 1) ft55 rfl rfl rfl) rfl ?_
 refine Wo.od (o_ld (k := 0) ft58 rfl rfl rfl) rfl ?_
 obtain ⟨⟨N1, l1, N2, l2, N3, l3⟩, h21, hF⟩ := ob_some hF
 refine Wo.x (o_cl rfl rfl (fun m hm => f28_ok n x1 x2 x3 l4 x8 x9 x10 x11 x12 x13 x14 x15 x16 x17 a5 c6 _ h21 m (hm.rd (k := 2) rfl (.rd _ _ _ _ _))) fun _ => rfl) gn rfl ?_
 rintro ⟨a1, n1, a2, n2, a3, n3⟩
 refine Wo.len (k := 0) (xs := l1) rfl ?_
 rintro rfl
 refine Wo.len (k := 1) (xs := l2) rfl ?_
 rintro rfl
 refine Wo.len (k := 2) (xs := l3) rfl ?_
 rintro rfl
 refine Wo.od (o_mv rfl) rfl ?_
 refine Wo.nil ?_
 refine At.tn ?_
 refine Wk.block ?_
 obtain ⟨J, h22, hF⟩ := ob_some hF
 cases hF
 refine Wk.cut (G := fitX N1 a1 l1 N2 a2 l2 N3 a3 l3 J) ?_ ?_
 ·refine Wk.weak (fs' := iFs N1 a1 l1 N2 a2 l2 N3 a3 l3 none [] 0) (ps' := iPs N1 a1 l1 N2 a2 l2 N3 a3 l3 none []) (sc rfl (sc rfl (sc rfl sn))) (Turn.trans (Turn.freeze (k := 0) rfl) (Turn.trans (Turn.freeze (k := 1) rfl) (Turn.trans (Turn.freeze (k := 2) rfl) (Turn.trans (Turn.nil 2 rfl) (Turn.picks [0, 1, 2, 3] rfl rfl))))) ?_
  refine Wk.loop (σ := List Nat × Int) (ρ := List Nat) (γ := Option Addr) (δ := fun _ => Option Addr) _ (fitI N1 a1 l1 N2 a2 l2 N3 a3 l3) (fitX N1 a1 l1 N2 a2 l2 N3 a3 l3) ?_ (fun _ _ => rfl) (fun r d => by intro e; cases e) _ _ _ h22 none
  clear h22
  rintro ⟨J, i⟩ o r hF
  unfold L41_1 at hF
  show Wk _ _ _ _ _ _ _ (iFs N1 a1 l1 N2 a2 l2 N3 a3 l3 o J i) (iPs N1 a1 l1 N2 a2 l2 N3 a3 l3 o J)
  refine Wk.seq ?_
  refine Wk.region ?_
  refine Wo.od (o_bi rfl rfl (bin_lss _ _ _)) rfl ?_
  refine Wo.nil ?_
  refine At.tn ?_
  refine Wk.seq ?_
  rcases br_some hF with ⟨h23, hF⟩ | ⟨h23, hF⟩
  ·refine Wk.condT rfl h23 ?_
   refine Wk.skip ?_
   refine At.tn ?_
   obtain ⟨h24, hF⟩ := gd_some hF
   obtain ⟨hi0, hi3⟩ := inB_some h24
   obtain ⟨j, rfl⟩ := Int.eq_ofNat_of_zero_le hi0
   rw [Int.toNat_natCast] at hF hi3
   have hix := ix59 (N1 := N1) (N2 := N2) (N3 := N3) (a1 := a1) (a2 := a2) (a3 := a3) (l1 := l1) (l2 := l2) (l3 := l3) j hi3
   have hpk := pk59 (N1 := N1) (N2 := N2) (N3 := N3) (a1 := a1) (a2 := a2) (a3 := a3) (l1 := l1) (l2 := l2) (l3 := l3) (o := o) (J := J) j hi3
   have hce := cOf_eq (N1 := N1) (N2 := N2) (N3 := N3) (a1 := a1) (a2 := a2) (a3 := a3) (l1 := l1) (l2 := l2) (l3 := l3) j
   generalize gOf N1 l1 N2 l2 N3 l3 j = g at hF hix hpk hce
   generalize aOf a1 a2 a3 j = aj at hix hpk hce
   obtain ⟨N, l⟩ := g
   simp only at hF hix hpk hce
   refine Wk.seq ?_
   refine Wk.block ?_
   refine Wk.seq ?_
   refine Wk.region ?_
   refine Wo.od (o_ix rfl rfl hix) rfl ?_
   refine Wo.x (o_al fz25 rfl) gn rfl fun b => ?_
   refine Wo.o0 (o_st (k := 0) ft25 rfl rfl rfl rfl rfl) ?_
   refine Wo.nil ?_
   refine At.tn ?_
   refine Wk.seq ?_
   refine Wk.region ?_
   refine Wo.od (o_ld (k := 0) ft25 rfl rfl rfl) rfl ?_
   obtain ⟨e, h25, hF⟩ := ob_some hF
   refine Wo.x (o_cl rfl rfl (fun m hm => f23_ok n N l aj l.length _ h25 m (hm.rd (k := j + 2) hpk (.rd _ _ _ _ _))) fun _ => rfl) gn rfl ?_
   rintro ⟨⟩
   refine Wo.od (o_bi rfl rfl (bin_eql _ _ _)) rfl ?_
   refine Wo.nil ?_
   refine At.tn ?_
   rcases br_some hF with ⟨h26, hF⟩ | ⟨h26, hF⟩
   ·obtain ⟨h27, hF⟩ := gd_some hF
    refine Wk.condT rfl h26 ?_
    refine Wk.region ?_
    refine Wo.od (o_mv rfl) rfl ?_
    refine Wo.od (o_ld (k := 0) ft25 rfl rfl rfl) rfl ?_
    refine Wo.x (o_bs (es := ([j] : List Nat).map (cOf N1 a1 l1 N2 a2 l2 N3 a3 l3)) fs27 rfl (bs_c fs27 fz25 rfl (by simp only [List.map_cons, List.map_nil, List.flatten_cons, List.flatten_nil, hce]; rfl)) rfl (by simp only [List.map_cons, List.map_nil, hce]; rfl)) gn rfl fun b2 => ?_
    refine Wo.turn (Turn.close (k := 0) rfl) ?_
    refine Wo.x (o_apl (k := 2) (k2 := 0) (xs := J) (ys := [j]) enC fs27 ⟨_, fu27⟩ rfl rfl rfl (.sl _ _ _ _) (by simpa using h27)) gn rfl fun o2 => ?_
    refine Wo.od (o_as rfl) rfl ?_
    refine Wo.nil ?_
    refine At.bn ?_
    refine At.tn ?_
    refine Wk.region ?_
    refine Wo.od (o_bi rfl rfl (bin_add _ _ _)) rfl ?_
    refine Wo.od (o_mv rfl) rfl ?_
    refine Wo.nil ?_
    cases hF
    exact At.en o2 rfl (sc rfl (sc rfl (sc rfl sn))) (Turn.picks [2, 3, 4, 5] rfl rfl)
   ·refine Wk.condF rfl h26 ?_
    refine Wk.skip ?_
    refine At.bn ?_
    refine At.tn ?_
    refine Wk.region ?_
    refine Wo.od (o_bi rfl rfl (bin_add _ _ _)) rfl ?_
    refine Wo.od (o_mv rfl) rfl ?_
    refine Wo.nil ?_
    cases hF
    exact At.en o rfl (sc rfl (sc rfl (sc rfl sn))) (Turn.picks [1, 2, 3, 4] rfl rfl)
  ·refine Wk.condF rfl h23 ?_
   refine Wk.exit ?_
   refine At.te ?_
   cases hF
   exact At.en o rfl (sc rfl sn) Turn.refl
 ·intro o
  show At _ (.exit 0) _ [(5, .slice o J.length J.length)] (iPs N1 a1 l1 N2 a2 l2 N3 a3 l3 o J)
  refine At.be ?_
  refine At.tn ?_
  refine Wk.seq ?_
  refine Wk.region ?_
  refine Wo.od (o_mv rfl) rfl ?_
  refine Wo.od (o_as rfl) rfl ?_
  refine Wo.nil ?_
  refine At.tn ?_
  refine Wk.ret ?_
  refine At.ret (.tmp rfl .nil) fun m' hm => ⟨o, by rw [List.length_map]; rfl, hm.ext, ?_⟩
  rw [List.length_map]
  refine ⟨List.length_map _, Nat.le_refl _, ?_⟩
  have hrd : ∀ j, Rd m' (aOf a1 a2 a3 j) (gOf N1 l1 N2 l2 N3 l3 j).2.length 2 (gOf N1 l1 N2 l2 N3 l3 j).2.length ((gOf N1 l1 N2 l2 N3 l3 j).2.map enE) := fun j => by
   match j with
   | 0 => exact hm.get (k := 1) rfl
   | 1 => exact hm.get (k := 2) rfl
   | _ + 2 => exact hm.get (k := 3) rfl
  rcases hm.get (k := 0) rfl with ⟨h0, _, h2, _⟩ | ⟨b, tg, rfl, hown⟩
  ·exact .inl ⟨h2, h0⟩
  ·obtain ⟨hb, all, tg', h1, h2, h3⟩ := hown.lies
   refine .inr ⟨b, 0, rfl, hb, all, tg', h1, h2, fun i g hg => ?_⟩
   rw [List.getElem?_map] at hg
   obtain ⟨j, hj, rfl⟩ := Option.map_eq_some_iff.1 hg
   have := (h3 i (cOf N1 a1 l1 N2 a2 l2 N3 a3 l3 j) (by rw [List.getElem?_map, hj]; rfl)).1
   rw [cOf_eq] at this
   exact ⟨_, _, this, hrd j⟩
end Go.Proofs.YtpclggcpobakhaaDoor.W0
end
