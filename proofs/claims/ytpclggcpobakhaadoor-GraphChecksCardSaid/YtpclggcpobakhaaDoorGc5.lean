/- Texts of the abstract machine and of the walks, joined: S18W7 S18P S18P2 S18P3. -/
import Derived.Test.YtpclggcpobakhaaDoorGc4
section
namespace Go.Proofs.YtpclggcpobakhaaDoor.W7
open Go Go.Ab Go.Ab.W Go.Proofs.YtpclggcpobakhaaDoor
set_option maxRecDepth 10000
set_option maxHeartbeats 4000000
attribute [local irreducible] Tm.at Trie.set Trie.get AMem.get AMem.set AMem.alloc AMem.ww AMem.kill
theorem fa25_1 : ∀ b o, fieldAddrA E18w.P 25 (ptr b o) 1 = some (ptr b (o + 1)) := fun _ _ => by kernel_rfl
theorem t23 : TyI E18w.P 23 false 1 := ⟨by kernel_rfl, by kernel_rfl, by kernel_rfl⟩
theorem u23 : E18w.P.underlying 23 = some (.slice 26) := by kernel_rfl
theorem t55 : TyI E18w.P 55 true 4 := ⟨by kernel_rfl, by kernel_rfl, by kernel_rfl⟩
theorem t58 : TyI E18w.P 58 true 10 := ⟨by kernel_rfl, by kernel_rfl, by kernel_rfl⟩
theorem z59 : zeroA E18w.P 59 = some (.agg #[.int .i64 0, .slice none 0 0, .int .i64 0, .slice none 0 0, .int .i64 0, .slice none 0 0]) := by kernel_rfl
theorem z25 : zeroA E18w.P 25 = some (.agg #[.int .i64 0, .slice none 0 0]) := by kernel_rfl
theorem fa55_0 : ∀ b o, fieldAddrA E18w.P 55 (ptr b o) 0 = some (ptr b (o + 0)) := fun _ _ => by kernel_rfl
theorem t5 : TyI E18w.P 5 false 1 := ⟨by kernel_rfl, by kernel_rfl, by kernel_rfl⟩
theorem u5 : E18w.P.underlying 5 = some (.int .u8) := by kernel_rfl
theorem u3 : E18w.P.underlying 3 = some (.int .i64) := by kernel_rfl
theorem fa55_1 : ∀ b o, fieldAddrA E18w.P 55 (ptr b o) 1 = some (ptr b (o + 1)) := fun _ _ => by kernel_rfl
theorem bs25 : BdT E18w.P 25 (.agg #[.int .i64 0, .slice none 0 0]) [(0, 1), (1, 1)] := .mk' (by kernel_rfl) (by kernel_rfl)
theorem t25 : TyI E18w.P 25 true 2 := ⟨by kernel_rfl, by kernel_rfl, by kernel_rfl⟩
theorem fa25_0 : ∀ b o, fieldAddrA E18w.P 25 (ptr b o) 0 = some (ptr b (o + 0)) := fun _ _ => by kernel_rfl
theorem t3 : TyI E18w.P 3 false 1 := ⟨by kernel_rfl, by kernel_rfl, by kernel_rfl⟩
theorem fa55_2 : ∀ b o, fieldAddrA E18w.P 55 (ptr b o) 2 = some (ptr b (o + 2)) := fun _ _ => by kernel_rfl
theorem t52 : TyI E18w.P 52 false 1 := ⟨by kernel_rfl, by kernel_rfl, by kernel_rfl⟩
theorem u102 : E18w.P.underlying 102 = some (.int .u64) := by kernel_rfl
theorem fa55_3 : ∀ b o, fieldAddrA E18w.P 55 (ptr b o) 3 = some (ptr b (o + 3)) := fun _ _ => by kernel_rfl
theorem t53 : TyI E18w.P 53 false 1 := ⟨by kernel_rfl, by kernel_rfl, by kernel_rfl⟩
theorem u53 : E18w.P.underlying 53 = some (.slice 103) := by kernel_rfl
theorem s53 : SlT E18w.P 53 103 2 := SlT.of (by kernel_rfl)
theorem ar103 : ArT E18w.P 103 5 2 1 := ⟨by kernel_rfl, by kernel_rfl, by kernel_rfl⟩
theorem z26 : zeroA E18w.P 26 = some (.agg #[.int .i64 0, .int .i64 0]) := by kernel_rfl
theorem bs26 : BdT E18w.P 26 (.agg #[.int .i64 0, .int .i64 0]) [(0, 1), (1, 1)] := .mk' (by kernel_rfl) (by kernel_rfl)
theorem s23 : SlT E18w.P 23 26 2 := SlT.of (by kernel_rfl)
theorem ar58 : ArT E18w.P 58 57 2 5 := ⟨by kernel_rfl, by kernel_rfl, by kernel_rfl⟩
theorem t57 : TyI E18w.P 57 true 5 := ⟨by kernel_rfl, by kernel_rfl, by kernel_rfl⟩
theorem fa57_1 : ∀ b o, fieldAddrA E18w.P 57 (ptr b o) 1 = some (ptr b (o + 1)) := fun _ _ => by kernel_rfl
theorem fa57_0 : ∀ b o, fieldAddrA E18w.P 57 (ptr b o) 0 = some (ptr b (o + 0)) := fun _ _ => by kernel_rfl
theorem fa57_2 : ∀ b o, fieldAddrA E18w.P 57 (ptr b o) 2 = some (ptr b (o + 2)) := fun _ _ => by kernel_rfl
theorem fa57_3 : ∀ b o, fieldAddrA E18w.P 57 (ptr b o) 3 = some (ptr b (o + 3)) := fun _ _ => by kernel_rfl
theorem t26 : TyI E18w.P 26 true 2 := ⟨by kernel_rfl, by kernel_rfl, by kernel_rfl⟩
theorem ar26 : ArT E18w.P 26 3 2 1 := ⟨by kernel_rfl, by kernel_rfl, by kernel_rfl⟩
theorem bs59 : BdT E18w.P 59 (.agg #[.int .i64 0, .slice none 0 0, .int .i64 0, .slice none 0 0, .int .i64 0, .slice none 0 0]) [(0, 2), (2, 2), (4, 2)] := .mk' (by kernel_rfl) (by kernel_rfl)
theorem t59 : TyI E18w.P 59 true 6 := ⟨by kernel_rfl, by kernel_rfl, by kernel_rfl⟩
theorem ar59 : ArT E18w.P 59 25 3 2 := ⟨by kernel_rfl, by kernel_rfl, by kernel_rfl⟩
theorem z70 : zeroA E18w.P 70 = some (.agg #[.int .i64 0, .slice none 0 0, .int .i64 0, .slice none 0 0, .int .i64 0, .slice none 0 0, .int .i64 0, .slice none 0 0]) := by kernel_rfl
theorem bs70 : BdT E18w.P 70 (.agg #[.int .i64 0, .slice none 0 0, .int .i64 0, .slice none 0 0, .int .i64 0, .slice none 0 0, .int .i64 0, .slice none 0 0]) [(0, 2), (2, 2), (4, 2), (6, 2)] := .mk' (by kernel_rfl) (by kernel_rfl)
theorem t70 : TyI E18w.P 70 true 8 := ⟨by kernel_rfl, by kernel_rfl, by kernel_rfl⟩
theorem ar70 : ArT E18w.P 70 25 4 2 := ⟨by kernel_rfl, by kernel_rfl, by kernel_rfl⟩
theorem u39 : E18w.P.underlying 39 = some (.slice 3) := by kernel_rfl
theorem s39 : SlT E18w.P 39 3 1 := SlT.of (by kernel_rfl)
theorem u26 : E18w.P.underlying 26 = some (.array 2 3) := by kernel_rfl
theorem eq26 : ∀ (x0 y0 : Int) (x1 y1 : Int), eqA E18w.P Op.maxDepth 26 (.agg #[.int .i64 x0, .int .i64 x1]) (.agg #[.int .i64 y0, .int .i64 y1]) = some (decide (x0 = y0) && decide (x1 = y1)) := fun x0 y0 x1 y1 => eq_i2 u26 t3.known t3.size t3.agg u3 x0 x1 y0 y1
theorem eg26 : E18w.P.eqGuardType E18w.P.depth 26 = false := by kernel_rfl
theorem u4 : E18w.P.underlying 4 = some (.bool) := by kernel_rfl
theorem f40_ok (n : Nat) (x1 : Nat) (x2 : Nat) (x3 : Nat) (l4 : List (Nat × Nat)) (a5 : Option Addr) (c6 : Nat) (r : Int × List (Int × Int)) (hF : F40 n x1 x2 x3 l4 = some r) (m : AMem) (h7 : Rd m a5 c6 2 l4.length (l4.map (eP (eN .u8) (eN .u8)))) :
    CallA E18w 40 [.agg #[.int .u8 ((x1 : Nat) : Int), .int .u8 ((x2 : Nat) : Int), .int .u16 ((x3 : Nat) : Int), .slice a5 l4.length c6]] m (fun v m' => ∃ x : Option Addr × Nat, v = .agg #[.int .i64 r.1, .slice x.1 x.2 x.2] ∧ Hp m m' [.sl x.1 2 x.2 (r.2.map (eP (eI .i64) (eI .i64)))]) := by
  unfold F40 at hF
  refine call_wk (m0 := m) (ps := [.rd a5 c6 2 l4.length (l4.map (eP (eN .u8) (eN .u8)))]) (N := 137) (rs := [.cell 2 25]) rfl Tryd.func40 rfl rfl rfl ((Hp.start m).inn rfl h7) ?_
  refine Wk.seq ?_
  refine Wk.region ?_
  refine Wo.x (o_bx rfl) gn rfl fun b8 => ?_
  refine Wo.x (o_al z25 rfl) gn rfl fun b9 => ?_
  refine Wo.nil ?_
  refine At.tn ?_
  refine Wk.seq ?_
  refine Wk.draw (by kernel_rfl) ?_
  refine Wo.od (o_fa (r := ptr b8 0) rfl (fa55_0 _ _)) rfl ?_
  refine Wo.od (o_ld (k := 1) t5 rfl rfl rfl) rfl ?_
  refine Wo.od (o_bi rfl rfl (ub_rem _ _ (by decide))) rfl ?_
  refine Wo.od (o_cv rfl (cv_i (by rw [u5]; rfl) u3)) rfl ?_
  refine Wo.od (o_bi rfl rfl (bin_add _ _ _)) rfl ?_
  refine Wo.od (o_fa (r := ptr b8 1) rfl (fa55_1 _ _)) rfl ?_
  refine Wo.od (o_ld (k := 1) t5 rfl rfl rfl) rfl ?_
  refine Wo.od (o_bi rfl rfl (ub_rem _ _ (by decide))) rfl ?_
  refine Wo.od (o_cv rfl (cv_i (by rw [u5]; rfl) u3)) rfl ?_
  refine Wo.od (o_bi rfl rfl (bin_add _ _ _)) rfl ?_
  refine Wo.od (o_as rfl) rfl ?_
  refine Wo.od (o_as rfl) rfl ?_
  refine Wo.nil ?_
  refine At.tn ?_
  refine Wk.seq ?_
  refine Wk.region ?_
  refine Wo.od (o_mv rfl) rfl ?_
  refine Wo.od (o_mv rfl) rfl ?_
  obtain ⟨y10, h11, hF⟩ := ob_some hF
  refine Wo.od (o_bi rfl rfl ((bin_mul _ _ _).trans (cI h11))) rfl ?_
  refine Wo.od (o_bd rfl z25 rfl (bd_s bs25 rfl rfl rfl)) rfl ?_
  refine Wo.x (o_al z25 rfl) gn rfl fun b12 => ?_
  refine Wo.o0 (o_st (k := 0) t25 rfl rfl rfl rfl rfl) ?_
  refine Wo.nil ?_
  refine At.tn ?_
  refine Wk.seq ?_
  refine Wk.region ?_
  refine Wo.od (o_as rfl) rfl ?_
  refine Wo.nil ?_
  refine At.tn ?_
  refine Wk.seq ?_
  refine Wk.seq ?_
  refine Wk.region ?_
  refine Wo.od (o_as rfl) rfl ?_
  refine Wo.nil ?_
  refine At.tn ?_
  refine Wk.block ?_
  obtain ⟨l2020, h3018, hF⟩ := ob_some hF
  refine Wk.cut (G := (fun (r : List (Int × Int)) (g : Option Addr) => match r, g with | l2020, a2021 => ⟨(.exit 0), [(2, ptr b9 0), (5, ptr b12 0)], [.obj b9 (.cells [.int .i64 0, .slice none 0 0] .own), .obj b12 (.cells [.int .i64 y10, .slice a2021 l2020.length l2020.length] .own), .sl a2021 2 l2020.length (l2020.map (eP (eI .i64) (eI .i64)))]⟩) l2020) ?_ ?_
  · refine Wk.weak (fs' := [(1, ptr b8 0), (2, ptr b9 0), (3, .int .i64 (IntKind.wrap .i64 (1 + (IntKind.wrap .i64 ((x1 % 4 : Nat) : Int))))), (5, ptr b12 0), (6, .int .i64 0), (7, .int .i64 0)]) (ps' := [.obj b8 (.cells [.int .u8 ((x1 : Nat) : Int), .int .u8 ((x2 : Nat) : Int), .int .u16 ((x3 : Nat) : Int), .slice a5 l4.length c6] .own), .rd a5 c6 2 l4.length (l4.map (eP (eN .u8) (eN .u8))), .obj b9 (.cells [.int .i64 0, .slice none 0 0] .own), .obj b12 (.cells [.int .i64 y10, .slice none ([] : List (Int × Int)).length ([] : List (Int × Int)).length] .own), .sl none 2 ([] : List (Int × Int)).length (([] : List (Int × Int)).map (eP (eI .i64) (eI .i64)))]) (sc rfl (sc rfl (sc rfl (sc rfl (sc rfl (sc rfl sn)))))) (Turn.trans (Turn.nil 2 rfl) (Turn.picks [3, 4, 2, 1, 0] rfl rfl)) ?_
    refine Wk.loop (σ := Int × List (Int × Int) × Int × Int) (ρ := List (Int × Int)) (γ := Option Addr) (δ := fun _ => Option Addr) _ (fun (s : Int × List (Int × Int) × Int × Int) (g : Option Addr) => match s, g with | (v1014, l1015, v1017, v1018), a1016 => ⟨.normal, [(1, ptr b8 0), (2, ptr b9 0), (3, .int .i64 v1014), (5, ptr b12 0), (6, .int .i64 v1017), (7, .int .i64 v1018)], [.obj b8 (.cells [.int .u8 ((x1 : Nat) : Int), .int .u8 ((x2 : Nat) : Int), .int .u16 ((x3 : Nat) : Int), .slice a5 l4.length c6] .own), .rd a5 c6 2 l4.length (l4.map (eP (eN .u8) (eN .u8))), .obj b9 (.cells [.int .i64 0, .slice none 0 0] .own), .obj b12 (.cells [.int .i64 y10, .slice a1016 l1015.length l1015.length] .own), .sl a1016 2 l1015.length (l1015.map (eP (eI .i64) (eI .i64)))]⟩) (fun (r : List (Int × Int)) (g : Option Addr) => match r, g with | l2020, a2021 => ⟨(.exit 0), [(2, ptr b9 0), (5, ptr b12 0)], [.obj b9 (.cells [.int .i64 0, .slice none 0 0] .own), .obj b12 (.cells [.int .i64 y10, .slice a2021 l2020.length l2020.length] .own), .sl a2021 2 l2020.length (l2020.map (eP (eI .i64) (eI .i64)))]⟩) ?_ (fun _ _ => rfl) (fun r d => by intro e; cases e) _ _ _ h3018 none
    clear hF h3018
    rintro ⟨v1014, l1015, v1017, v1018⟩ a1016 r hF
    unfold L40_3 at hF
    refine Wk.seq ?_
    refine Wk.seq ?_
    refine Wk.region ?_
    refine Wo.od (o_mv rfl) rfl ?_
    refine Wo.od (o_fa (r := ptr b12 0) rfl (fa25_0 _ _)) rfl ?_
    refine Wo.od (o_ld (k := 3) t3 rfl rfl rfl) rfl ?_
    refine Wo.od (o_bi rfl rfl (bin_lss _ _ _)) rfl ?_
    refine Wo.nil ?_
    refine At.tn ?_
    rcases br_some hF with ⟨h2022, hF⟩ | ⟨h2022, hF⟩
    · refine Wk.condT rfl h2022 ?_
      refine Wk.skip ?_
      refine At.tn ?_
      refine Wk.seq ?_
      refine Wk.block ?_
      refine Wk.seq ?_
      refine Wk.region ?_
      refine Wo.od (o_mv rfl) rfl ?_
      refine Wo.od (o_bi rfl rfl (bin_add _ _ _)) rfl ?_
      refine Wo.od (o_as rfl) rfl ?_
      refine Wo.nil ?_
      refine At.tn ?_
      refine Wk.block ?_
      obtain ⟨r3017, h3016, hF⟩ := ob_some hF
      refine Wk.cut (G := (fun (r : List (Int × Int) × Int) (g : Option Addr) => match r, g with | (l2687, v2689), a2688 => ⟨(.exit 2), [(1, ptr b8 0), (2, ptr b9 0), (3, .int .i64 v1014), (5, ptr b12 0), (6, .int .i64 v2689), (7, .int .i64 v1018)], [.obj b8 (.cells [.int .u8 ((x1 : Nat) : Int), .int .u8 ((x2 : Nat) : Int), .int .u16 ((x3 : Nat) : Int), .slice a5 l4.length c6] .own), .rd a5 c6 2 l4.length (l4.map (eP (eN .u8) (eN .u8))), .obj b9 (.cells [.int .i64 0, .slice none 0 0] .own), .obj b12 (.cells [.int .i64 y10, .slice a2688 l2687.length l2687.length] .own), .sl a2688 2 l2687.length (l2687.map (eP (eI .i64) (eI .i64)))]⟩) r3017) ?_ ?_
      · refine Wk.weak (fs' := [(1, ptr b8 0), (2, ptr b9 0), (3, .int .i64 v1014), (5, ptr b12 0), (6, .int .i64 v1017), (7, .int .i64 v1018), (8, .int .i64 (IntKind.wrap .i64 (v1018 + 1)))]) (ps' := [.obj b8 (.cells [.int .u8 ((x1 : Nat) : Int), .int .u8 ((x2 : Nat) : Int), .int .u16 ((x3 : Nat) : Int), .slice a5 l4.length c6] .own), .rd a5 c6 2 l4.length (l4.map (eP (eN .u8) (eN .u8))), .obj b9 (.cells [.int .i64 0, .slice none 0 0] .own), .obj b12 (.cells [.int .i64 y10, .slice a1016 l1015.length l1015.length] .own), .sl a1016 2 l1015.length (l1015.map (eP (eI .i64) (eI .i64)))]) (sc rfl (sc rfl (sc rfl (sc rfl (sc rfl (sc rfl (sc rfl sn))))))) (Turn.picks [0, 1, 2, 3, 4] rfl rfl) ?_
        refine Wk.loop (σ := List (Int × Int) × Int × Int) (ρ := List (Int × Int) × Int) (γ := Option Addr) (δ := fun _ => Option Addr) _ (fun (s : List (Int × Int) × Int × Int) (g : Option Addr) => match s, g with | (l2353, v2355, v2356), a2354 => ⟨.normal, [(1, ptr b8 0), (2, ptr b9 0), (3, .int .i64 v1014), (5, ptr b12 0), (6, .int .i64 v2355), (7, .int .i64 v1018), (8, .int .i64 v2356)], [.obj b8 (.cells [.int .u8 ((x1 : Nat) : Int), .int .u8 ((x2 : Nat) : Int), .int .u16 ((x3 : Nat) : Int), .slice a5 l4.length c6] .own), .rd a5 c6 2 l4.length (l4.map (eP (eN .u8) (eN .u8))), .obj b9 (.cells [.int .i64 0, .slice none 0 0] .own), .obj b12 (.cells [.int .i64 y10, .slice a2354 l2353.length l2353.length] .own), .sl a2354 2 l2353.length (l2353.map (eP (eI .i64) (eI .i64)))]⟩) (fun (r : List (Int × Int) × Int) (g : Option Addr) => match r, g with | (l2687, v2689), a2688 => ⟨(.exit 2), [(1, ptr b8 0), (2, ptr b9 0), (3, .int .i64 v1014), (5, ptr b12 0), (6, .int .i64 v2689), (7, .int .i64 v1018)], [.obj b8 (.cells [.int .u8 ((x1 : Nat) : Int), .int .u8 ((x2 : Nat) : Int), .int .u16 ((x3 : Nat) : Int), .slice a5 l4.length c6] .own), .rd a5 c6 2 l4.length (l4.map (eP (eN .u8) (eN .u8))), .obj b9 (.cells [.int .i64 0, .slice none 0 0] .own), .obj b12 (.cells [.int .i64 y10, .slice a2688 l2687.length l2687.length] .own), .sl a2688 2 l2687.length (l2687.map (eP (eI .i64) (eI .i64)))]⟩) ?_ (fun _ _ => rfl) (fun r d => by intro e; cases e) _ _ _ h3016 a1016
        clear hF h3016
        rintro ⟨l2353, v2355, v2356⟩ a2354 r hF
        unfold L40_2 at hF
        refine Wk.seq ?_
        refine Wk.seq ?_
        refine Wk.region ?_
        refine Wo.od (o_mv rfl) rfl ?_
        refine Wo.od (o_fa (r := ptr b12 0) rfl (fa25_0 _ _)) rfl ?_
        refine Wo.od (o_ld (k := 3) t3 rfl rfl rfl) rfl ?_
        refine Wo.od (o_bi rfl rfl (bin_lss _ _ _)) rfl ?_
        refine Wo.nil ?_
        refine At.tn ?_
        rcases br_some hF with ⟨h2690, hF⟩ | ⟨h2690, hF⟩
        · refine Wk.condT rfl h2690 ?_
          refine Wk.skip ?_
          refine At.tn ?_
          refine Wk.seq ?_
          obtain ⟨r3015, h3014, hF⟩ := ob_some hF
          refine Wk.cut (G := (fun (r : List (Int × Int) × Int) (g : Option Addr) => match r, g with | (l2851, v2853), a2852 => ⟨.normal, [(1, ptr b8 0), (2, ptr b9 0), (3, .int .i64 v1014), (5, ptr b12 0), (6, .int .i64 v2853), (7, .int .i64 v1018), (8, .int .i64 v2356)], [.obj b8 (.cells [.int .u8 ((x1 : Nat) : Int), .int .u8 ((x2 : Nat) : Int), .int .u16 ((x3 : Nat) : Int), .slice a5 l4.length c6] .own), .rd a5 c6 2 l4.length (l4.map (eP (eN .u8) (eN .u8))), .obj b9 (.cells [.int .i64 0, .slice none 0 0] .own), .obj b12 (.cells [.int .i64 y10, .slice a2852 l2851.length l2851.length] .own), .sl a2852 2 l2851.length (l2851.map (eP (eI .i64) (eI .i64)))]⟩) r3015) ?_ ?_
          · clear hF
            revert r3015
            intro r hF
            refine Wk.block ?_
            refine Wk.seq ?_
            obtain ⟨v2857, h2861, hF⟩ := ob_some hF
            refine Wk.cut (G := (fun (r : Bool) (g : Unit) => match r, g with | v2857, _ => ⟨.normal, [(1, ptr b8 0), (2, ptr b9 0), (3, .int .i64 v1014), (5, ptr b12 0), (6, .int .i64 v2355), (7, .int .i64 v1018), (8, .int .i64 v2356), (9, .bool v2857)], [.obj b8 (.cells [.int .u8 ((x1 : Nat) : Int), .int .u8 ((x2 : Nat) : Int), .int .u16 ((x3 : Nat) : Int), .slice a5 l4.length c6] .own), .rd a5 c6 2 l4.length (l4.map (eP (eN .u8) (eN .u8))), .obj b9 (.cells [.int .i64 0, .slice none 0 0] .own), .obj b12 (.cells [.int .i64 y10, .slice a2354 l2353.length l2353.length] .own), .sl a2354 2 l2353.length (l2353.map (eP (eI .i64) (eI .i64)))]⟩) v2857) ?_ ?_
            · clear hF
              revert v2857
              intro r hF
              refine Wk.region ?_
              refine Wo.od (o_mv rfl) rfl ?_
              refine Wo.od (o_mv rfl) rfl ?_
              refine Wo.od (o_mv rfl) rfl ?_
              refine Wo.od (o_bi rfl rfl (bin_add _ _ _)) rfl ?_
              refine Wo.od (o_bi rfl rfl (bin_eql _ _ _)) rfl ?_
              refine Wo.od (o_mv rfl) rfl ?_
              rcases br_some hF with ⟨h2858, hF⟩ | ⟨h2858, hF⟩
              · refine Wo.s (gg rfl rfl (eTF h2858)) rfl ?_
                refine Wo.s (gg rfl rfl (eTF h2858)) rfl ?_
                refine Wo.s (gg rfl rfl (eTF h2858)) rfl ?_
                refine Wo.s (gg rfl rfl (eTF h2858)) rfl ?_
                refine Wo.s (gg rfl rfl (eTF h2858)) rfl ?_
                refine Wo.s (gu rfl rfl) rfl ?_
                refine Wo.s (gu rfl rfl) rfl ?_
                refine Wo.s (gu rfl rfl) rfl ?_
                refine Wo.s (gu rfl rfl) rfl ?_
                refine Wo.s (gg rfl rfl (eTF h2858)) rfl ?_
                refine Wo.od (o_pt rfl h2858 rfl) rfl ?_
                refine Wo.od (o_as rfl) rfl ?_
                refine Wo.nil ?_
                cases hF
                exact At.en () rfl (sc rfl (sc rfl (sc rfl (sc rfl (sc rfl (sc rfl (sc rfl (sc rfl sn)))))))) (Turn.picks [0, 1, 2, 3, 4] rfl rfl)
              · refine Wo.og (o_mv rfl) (gg rfl rfl (eFF h2858)) rfl ?_
                refine Wo.og (o_mv rfl) (gg rfl rfl (eFF h2858)) rfl ?_
                refine Wo.og (o_bi rfl rfl (bin_add _ _ _)) (gg rfl rfl (eFF h2858)) rfl ?_
                refine Wo.og (o_bi rfl rfl (bin_eql _ _ _)) (gg rfl rfl (eFF h2858)) rfl ?_
                refine Wo.og (o_mv rfl) (gg rfl rfl (eFF h2858)) rfl ?_
                rcases br_some hF with ⟨h2859, hF⟩ | ⟨h2859, hF⟩
                · refine Wo.og (o_mv rfl) (gg rfl rfl (eTT h2859)) rfl ?_
                  refine Wo.og (o_mv rfl) (gg rfl rfl (eTT h2859)) rfl ?_
                  obtain ⟨h2860, hF⟩ := gd_some hF
                  refine Wo.og (o_bi rfl rfl (ib_rem _ _ h2860)) (gg rfl rfl (eTT h2859)) rfl ?_
                  refine Wo.og (o_bi rfl rfl (ib_neq _ _)) (gg rfl rfl (eTT h2859)) rfl ?_
                  refine Wo.og (o_pt rfl h2859 rfl) (gg rfl rfl (eFF h2858)) rfl ?_
                  refine Wo.od (o_pf rfl h2858 rfl) rfl ?_
                  refine Wo.od (o_as rfl) rfl ?_
                  refine Wo.nil ?_
                  cases hF
                  exact At.en () rfl (sc rfl (sc rfl (sc rfl (sc rfl (sc rfl (sc rfl (sc rfl (sc rfl sn)))))))) (Turn.picks [0, 1, 2, 3, 4] rfl rfl)
                · refine Wo.s (gg rfl rfl (eFT h2859)) rfl ?_
                  refine Wo.s (gg rfl rfl (eFT h2859)) rfl ?_
                  refine Wo.s (gg rfl rfl (eFT h2859)) rfl ?_
                  refine Wo.s (gg rfl rfl (eFT h2859)) rfl ?_
                  refine Wo.og (o_pf rfl h2859 rfl) (gg rfl rfl (eFF h2858)) rfl ?_
                  refine Wo.od (o_pf rfl h2858 rfl) rfl ?_
                  refine Wo.od (o_as rfl) rfl ?_
                  refine Wo.nil ?_
                  cases hF
                  exact At.en () rfl (sc rfl (sc rfl (sc rfl (sc rfl (sc rfl (sc rfl (sc rfl (sc rfl sn)))))))) (Turn.picks [0, 1, 2, 3, 4] rfl rfl)
            · clear h2861
              rintro ⟨⟩
              refine At.tn ?_
              refine Wk.seq ?_
              obtain ⟨r2914, h2913, hF⟩ := ob_some hF
              refine Wk.cut (G := (fun (r : Int × Bool) (g : Unit) => match r, g with | (v2887, v2888), _ => ⟨.normal, [(1, ptr b8 0), (2, ptr b9 0), (3, .int .i64 v1014), (5, ptr b12 0), (6, .int .i64 v2887), (7, .int .i64 v1018), (8, .int .i64 v2356), (9, .bool v2888)], [.obj b8 (.cells [.int .u8 ((x1 : Nat) : Int), .int .u8 ((x2 : Nat) : Int), .int .u16 ((x3 : Nat) : Int), .slice a5 l4.length c6] .own), .rd a5 c6 2 l4.length (l4.map (eP (eN .u8) (eN .u8))), .obj b9 (.cells [.int .i64 0, .slice none 0 0] .own), .obj b12 (.cells [.int .i64 y10, .slice a2354 l2353.length l2353.length] .own), .sl a2354 2 l2353.length (l2353.map (eP (eI .i64) (eI .i64)))]⟩) r2914) ?_ ?_
              · clear hF
                revert r2914
                intro r hF
                refine Wk.seq ?_
                refine Wk.region ?_
                refine Wo.od (o_mv rfl) rfl ?_
                refine Wo.nil ?_
                refine At.tn ?_
                rcases br_some hF with ⟨h2889, hF⟩ | ⟨h2889, hF⟩
                · refine Wk.condT rfl h2889 ?_
                  refine Wk.seq ?_
                  obtain ⟨v2900, h2911, hF⟩ := ob_some hF
                  refine Wk.cut (G := (fun (r : Bool) (g : Unit) => match r, g with | v2900, _ => ⟨.normal, [(1, ptr b8 0), (2, ptr b9 0), (3, .int .i64 v1014), (5, ptr b12 0), (6, .int .i64 v2355), (7, .int .i64 v1018), (8, .int .i64 v2356), (9, .bool v2900)], [.obj b8 (.cells [.int .u8 ((x1 : Nat) : Int), .int .u8 ((x2 : Nat) : Int), .int .u16 ((x3 : Nat) : Int), .slice a5 l4.length c6] .own), .rd a5 c6 2 l4.length (l4.map (eP (eN .u8) (eN .u8))), .obj b9 (.cells [.int .i64 0, .slice none 0 0] .own), .obj b12 (.cells [.int .i64 y10, .slice a2354 l2353.length l2353.length] .own), .sl a2354 2 l2353.length (l2353.map (eP (eI .i64) (eI .i64)))]⟩) v2900) ?_ ?_
                  · clear hF
                    revert v2900
                    intro r hF
                    refine Wk.seq ?_
                    obtain ⟨v2904, h2908, hF⟩ := ob_some hF
                    refine Wk.cut (G := (fun (r : Bool) (g : Unit) => match r, g with | v2904, _ => ⟨.normal, [(1, ptr b8 0), (2, ptr b9 0), (3, .int .i64 v1014), (5, ptr b12 0), (6, .int .i64 v2355), (7, .int .i64 v1018), (8, .int .i64 v2356), (9, .bool v2857), (72, .bool v2904)], [.obj b8 (.cells [.int .u8 ((x1 : Nat) : Int), .int .u8 ((x2 : Nat) : Int), .int .u16 ((x3 : Nat) : Int), .slice a5 l4.length c6] .own), .rd a5 c6 2 l4.length (l4.map (eP (eN .u8) (eN .u8))), .obj b9 (.cells [.int .i64 0, .slice none 0 0] .own), .obj b12 (.cells [.int .i64 y10, .slice a2354 l2353.length l2353.length] .own), .sl a2354 2 l2353.length (l2353.map (eP (eI .i64) (eI .i64)))]⟩) v2904) ?_ ?_
                    · clear hF
                      revert v2904
                      intro r hF
                      refine Wk.region ?_
                      refine Wo.od (o_mv rfl) rfl ?_
                      refine Wo.od (o_bi rfl rfl (ib_rem _ _ (by decide))) rfl ?_
                      refine Wo.od (o_bi rfl rfl (bin_eql _ _ _)) rfl ?_
                      refine Wo.od (o_mv rfl) rfl ?_
                      rcases br_some hF with ⟨h2905, hF⟩ | ⟨h2905, hF⟩
                      · refine Wo.og (o_fa (r := ptr b8 2) rfl (fa55_2 _ _)) (gg rfl rfl (eTT h2905)) rfl ?_
                        refine Wo.og (o_ld (k := 0) t52 rfl rfl rfl) (gg rfl rfl (eTT h2905)) rfl ?_
                        refine Wo.og (o_mv rfl) (gg rfl rfl (eTT h2905)) rfl ?_
                        refine Wo.og (o_bi rfl rfl (ib_quo _ _ (by decide))) (gg rfl rfl (eTT h2905)) rfl ?_
                        refine Wo.og (o_bi rfl rfl (ib_rem _ _ (by decide))) (gg rfl rfl (eTT h2905)) rfl ?_
                        refine Wo.og (o_cv rfl (cv_u (by rw [u3]; rfl) u102 rfl)) (gg rfl rfl (eTT h2905)) rfl ?_
                        obtain ⟨y2906, h2907, hF⟩ := ob_some hF
                        refine Wo.og (o_bi rfl rfl ((ub_shr _ _ (nn _)).trans (cN h2907))) (gg rfl rfl (eTT h2905)) rfl ?_
                        refine Wo.og (o_bi rfl rfl (ub_and rfl _ _)) (gg rfl rfl (eTT h2905)) rfl ?_
                        refine Wo.og (o_bi rfl rfl (ub_eql _ _)) (gg rfl rfl (eTT h2905)) rfl ?_
                        refine Wo.od (o_pt rfl h2905 rfl) rfl ?_
                        refine Wo.nil ?_
                        cases hF
                        exact At.en () rfl (sc rfl (sc rfl (sc rfl (sc rfl (sc rfl (sc rfl (sc rfl (sc rfl (sc rfl sn))))))))) (Turn.picks [0, 1, 2, 3, 4] rfl rfl)
                      · refine Wo.s (gg rfl rfl (eFT h2905)) rfl ?_
                        refine Wo.s (gg rfl rfl (eFT h2905)) rfl ?_
                        refine Wo.s (gg rfl rfl (eFT h2905)) rfl ?_
                        refine Wo.s (gg rfl rfl (eFT h2905)) rfl ?_
                        refine Wo.s (gg rfl rfl (eFT h2905)) rfl ?_
                        refine Wo.s (gg rfl rfl (eFT h2905)) rfl ?_
                        refine Wo.s (gg rfl rfl (eFT h2905)) rfl ?_
                        refine Wo.s (gg rfl rfl (eFT h2905)) rfl ?_
                        refine Wo.s (gg rfl rfl (eFT h2905)) rfl ?_
                        refine Wo.od (o_pf rfl h2905 rfl) rfl ?_
                        refine Wo.nil ?_
                        cases hF
                        exact At.en () rfl (sc rfl (sc rfl (sc rfl (sc rfl (sc rfl (sc rfl (sc rfl (sc rfl (sc rfl sn))))))))) (Turn.picks [0, 1, 2, 3, 4] rfl rfl)
                    · clear h2908
                      rintro ⟨⟩
                      refine At.tn ?_
                      rcases br_some hF with ⟨h2910, hF⟩ | ⟨h2910, hF⟩
                      · refine Wk.condT rfl h2910 ?_
                        refine Wk.region ?_
                        refine Wo.od (o_as rfl) rfl ?_
                        refine Wo.nil ?_
                        cases hF
                        exact At.en () rfl (sc rfl (sc rfl (sc rfl (sc rfl (sc rfl (sc rfl (sc rfl (sc rfl sn)))))))) (Turn.picks [0, 1, 2, 3, 4] rfl rfl)
                      · refine Wk.condF rfl h2910 ?_
                        refine Wk.skip ?_
                        have hr := Option.some.inj hF
                        subst r
                        exact At.en () rfl (sc rfl (sc rfl (sc rfl (sc rfl (sc rfl (sc rfl (sc rfl (sc rfl sn)))))))) (Turn.picks [0, 1, 2, 3, 4] rfl rfl)
                  · clear h2911
                    rintro ⟨⟩
                    refine At.tn ?_
                    refine Wk.region ?_
                    refine Wo.od (o_mv rfl) rfl ?_
                    refine Wo.od (o_bi rfl rfl (bin_add _ _ _)) rfl ?_
                    refine Wo.od (o_as rfl) rfl ?_
                    refine Wo.nil ?_
                    cases hF
                    exact At.en () rfl (sc rfl (sc rfl (sc rfl (sc rfl (sc rfl (sc rfl (sc rfl (sc rfl sn)))))))) (Turn.picks [0, 1, 2, 3, 4] rfl rfl)
                · refine Wk.condF rfl h2889 ?_
                  refine Wk.skip ?_
                  cases hF
                  exact At.en () rfl (sc rfl (sc rfl (sc rfl (sc rfl (sc rfl (sc rfl (sc rfl (sc rfl sn)))))))) (Turn.picks [0, 1, 2, 3, 4] rfl rfl)
              · clear h2913
                obtain ⟨v2887, v2888⟩ := r2914
                rintro ⟨⟩
                refine At.tn ?_
                refine Wk.seq ?_
                refine Wk.seq ?_
                refine Wk.region ?_
                refine Wo.od (o_as rfl) rfl ?_
                refine Wo.nil ?_
                refine At.tn ?_
                refine Wk.block ?_
                obtain ⟨v2964, h3008, hF⟩ := ob_some hF
                refine Wk.cut (G := (fun (r : Bool) (g : Unit) => match r, g with | v2964, _ => ⟨(.exit 4), [(1, ptr b8 0), (2, ptr b9 0), (3, .int .i64 v1014), (5, ptr b12 0), (6, .int .i64 v2887), (7, .int .i64 v1018), (8, .int .i64 v2356), (9, .bool v2964)], [.obj b8 (.cells [.int .u8 ((x1 : Nat) : Int), .int .u8 ((x2 : Nat) : Int), .int .u16 ((x3 : Nat) : Int), .slice a5 l4.length c6] .own), .rd a5 c6 2 l4.length (l4.map (eP (eN .u8) (eN .u8))), .obj b9 (.cells [.int .i64 0, .slice none 0 0] .own), .obj b12 (.cells [.int .i64 y10, .slice a2354 l2353.length l2353.length] .own), .sl a2354 2 l2353.length (l2353.map (eP (eI .i64) (eI .i64)))]⟩) v2964) ?_ ?_
                · refine Wk.weak (fs' := [(1, ptr b8 0), (2, ptr b9 0), (3, .int .i64 v1014), (5, ptr b12 0), (6, .int .i64 v2887), (7, .int .i64 v1018), (8, .int .i64 v2356), (9, .bool v2888), (10, .int .i64 0)]) (ps' := [.obj b8 (.cells [.int .u8 ((x1 : Nat) : Int), .int .u8 ((x2 : Nat) : Int), .int .u16 ((x3 : Nat) : Int), .slice a5 l4.length c6] .own), .rd a5 c6 2 l4.length (l4.map (eP (eN .u8) (eN .u8))), .obj b9 (.cells [.int .i64 0, .slice none 0 0] .own), .obj b12 (.cells [.int .i64 y10, .slice a2354 l2353.length l2353.length] .own), .sl a2354 2 l2353.length (l2353.map (eP (eI .i64) (eI .i64)))]) (sc rfl (sc rfl (sc rfl (sc rfl (sc rfl (sc rfl (sc rfl (sc rfl (sc rfl sn))))))))) (Turn.picks [0, 1, 2, 3, 4] rfl rfl) ?_
                  refine Wk.loop (σ := Bool × Int) (ρ := Bool) (γ := Unit) (δ := fun _ => Unit) _ (fun (s : Bool × Int) (g : Unit) => match s, g with | (v2917, v2918), _ => ⟨.normal, [(1, ptr b8 0), (2, ptr b9 0), (3, .int .i64 v1014), (5, ptr b12 0), (6, .int .i64 v2887), (7, .int .i64 v1018), (8, .int .i64 v2356), (9, .bool v2917), (10, .int .i64 v2918)], [.obj b8 (.cells [.int .u8 ((x1 : Nat) : Int), .int .u8 ((x2 : Nat) : Int), .int .u16 ((x3 : Nat) : Int), .slice a5 l4.length c6] .own), .rd a5 c6 2 l4.length (l4.map (eP (eN .u8) (eN .u8))), .obj b9 (.cells [.int .i64 0, .slice none 0 0] .own), .obj b12 (.cells [.int .i64 y10, .slice a2354 l2353.length l2353.length] .own), .sl a2354 2 l2353.length (l2353.map (eP (eI .i64) (eI .i64)))]⟩) (fun (r : Bool) (g : Unit) => match r, g with | v2964, _ => ⟨(.exit 4), [(1, ptr b8 0), (2, ptr b9 0), (3, .int .i64 v1014), (5, ptr b12 0), (6, .int .i64 v2887), (7, .int .i64 v1018), (8, .int .i64 v2356), (9, .bool v2964)], [.obj b8 (.cells [.int .u8 ((x1 : Nat) : Int), .int .u8 ((x2 : Nat) : Int), .int .u16 ((x3 : Nat) : Int), .slice a5 l4.length c6] .own), .rd a5 c6 2 l4.length (l4.map (eP (eN .u8) (eN .u8))), .obj b9 (.cells [.int .i64 0, .slice none 0 0] .own), .obj b12 (.cells [.int .i64 y10, .slice a2354 l2353.length l2353.length] .own), .sl a2354 2 l2353.length (l2353.map (eP (eI .i64) (eI .i64)))]⟩) ?_ (fun _ _ => rfl) (fun r d => by intro e; cases e) _ _ _ h3008 ()
                  clear hF h3008
                  rintro ⟨v2917, v2918⟩ ⟨⟩ r hF
                  unfold L40_1 at hF
                  refine Wk.seq ?_
                  refine Wk.seq ?_
                  obtain ⟨v2972, h2974, hF⟩ := ob_some hF
                  refine Wk.cut (G := (fun (r : Bool) (g : Unit) => match r, g with | v2972, _ => ⟨.normal, [(1, ptr b8 0), (2, ptr b9 0), (3, .int .i64 v1014), (5, ptr b12 0), (6, .int .i64 v2887), (7, .int .i64 v1018), (8, .int .i64 v2356), (9, .bool v2917), (10, .int .i64 v2918), (83, .bool v2972)], [.obj b8 (.cells [.int .u8 ((x1 : Nat) : Int), .int .u8 ((x2 : Nat) : Int), .int .u16 ((x3 : Nat) : Int), .slice a5 l4.length c6] .own), .rd a5 c6 2 l4.length (l4.map (eP (eN .u8) (eN .u8))), .obj b9 (.cells [.int .i64 0, .slice none 0 0] .own), .obj b12 (.cells [.int .i64 y10, .slice a2354 l2353.length l2353.length] .own), .sl a2354 2 l2353.length (l2353.map (eP (eI .i64) (eI .i64)))]⟩) v2972) ?_ ?_
                  · clear hF
                    revert v2972
                    intro r hF
                    refine Wk.region ?_
                    refine Wo.od (o_mv rfl) rfl ?_
                    refine Wo.od (o_fa (r := ptr b8 3) rfl (fa55_3 _ _)) rfl ?_
                    refine Wo.od (o_ld (k := 0) t53 rfl rfl rfl) rfl ?_
                    refine Wo.od (o_ln (k := 1) u53 rfl rfl (.inl rfl)) rfl ?_
                    refine Wo.od (o_bi rfl rfl (bin_lss _ _ _)) rfl ?_
                    refine Wo.od (o_mv rfl) rfl ?_
                    rcases br_some hF with ⟨h2973, hF⟩ | ⟨h2973, hF⟩
                    · refine Wo.og (o_mv rfl) (gg rfl rfl (eTT h2973)) rfl ?_
                      refine Wo.og (o_bi rfl rfl (bin_lss _ _ _)) (gg rfl rfl (eTT h2973)) rfl ?_
                      refine Wo.od (o_pt rfl h2973 rfl) rfl ?_
                      refine Wo.nil ?_
                      cases hF
                      exact At.en () rfl (sc rfl (sc rfl (sc rfl (sc rfl (sc rfl (sc rfl (sc rfl (sc rfl (sc rfl (sc rfl sn)))))))))) (Turn.picks [0, 1, 2, 3, 4] rfl rfl)
                    · refine Wo.s (gg rfl rfl (eFT h2973)) rfl ?_
                      refine Wo.s (gg rfl rfl (eFT h2973)) rfl ?_
                      refine Wo.od (o_pf rfl h2973 rfl) rfl ?_
                      refine Wo.nil ?_
                      cases hF
                      exact At.en () rfl (sc rfl (sc rfl (sc rfl (sc rfl (sc rfl (sc rfl (sc rfl (sc rfl (sc rfl (sc rfl sn)))))))))) (Turn.picks [0, 1, 2, 3, 4] rfl rfl)
                  · clear h2974
                    rintro ⟨⟩
                    refine At.tn ?_
                    rcases br_some hF with ⟨h2976, hF⟩ | ⟨h2976, hF⟩
                    · refine Wk.condT rfl h2976 ?_
                      refine Wk.skip ?_
                      refine At.tn ?_
                      refine Wk.seq ?_
                      obtain ⟨v2991, h3006, hF⟩ := ob_some hF
                      refine Wk.cut (G := (fun (r : Bool) (g : Unit) => match r, g with | v2991, _ => ⟨.normal, [(1, ptr b8 0), (2, ptr b9 0), (3, .int .i64 v1014), (5, ptr b12 0), (6, .int .i64 v2887), (7, .int .i64 v1018), (8, .int .i64 v2356), (9, .bool v2991), (10, .int .i64 v2918)], [.obj b8 (.cells [.int .u8 ((x1 : Nat) : Int), .int .u8 ((x2 : Nat) : Int), .int .u16 ((x3 : Nat) : Int), .slice a5 l4.length c6] .own), .rd a5 c6 2 l4.length (l4.map (eP (eN .u8) (eN .u8))), .obj b9 (.cells [.int .i64 0, .slice none 0 0] .own), .obj b12 (.cells [.int .i64 y10, .slice a2354 l2353.length l2353.length] .own), .sl a2354 2 l2353.length (l2353.map (eP (eI .i64) (eI .i64)))]⟩) v2991) ?_ ?_
                      · clear hF
                        revert v2991
                        intro r hF
                        refine Wk.block ?_
                        refine Wk.seq ?_
                        refine Wk.draw (by kernel_rfl) ?_
                        refine Wo.od (o_fa (r := ptr b8 3) rfl (fa55_3 _ _)) rfl ?_
                        refine Wo.od (o_ld (k := 0) t53 rfl rfl rfl) rfl ?_
                        refine Wo.od (o_mv rfl) rfl ?_
                        obtain ⟨h2992, hF⟩ := gd_some hF
                        replace h2992 := inB_some h2992
                        refine Wo.openr (k := 1) rfl (pos_of h2992) ?_
                        rintro b2993 o2994 rfl
                        refine Wo.og (o_ixs s53 rfl rfl h2992) gn rfl ?_
                        refine Wo.od (o_ia (r := ptr b2993 (o2994 + v2918.toNat * 2 + 0)) rfl rfl (ia_c ar103 (i := 0) (by decide))) rfl ?_
                        obtain ⟨⟨x2995, x2996⟩, h2997, hF⟩ := ob_some hF
                        refine Wo.od (o_ldr (k := 0) t5 rfl rfl (map_at h2997) rfl rfl) rfl ?_
                        refine Wo.od (o_cv rfl (cv_i (by rw [u5]; rfl) u3)) rfl ?_
                        refine Wo.od (o_fa (r := ptr b12 0) rfl (fa25_0 _ _)) rfl ?_
                        refine Wo.od (o_ld (k := 4) t3 rfl rfl rfl) rfl ?_
                        obtain ⟨h2998, hF⟩ := gd_some hF
                        refine Wo.od (o_bi rfl rfl (ib_rem _ _ h2998)) rfl ?_
                        refine Wo.od (o_fa (r := ptr b8 3) rfl (fa55_3 _ _)) rfl ?_
                        refine Wo.od (o_ld (k := 1) t53 rfl rfl rfl) rfl ?_
                        refine Wo.od (o_mv rfl) rfl ?_
                        obtain ⟨h2999, hF⟩ := gd_some hF
                        replace h2999 := inB_some h2999
                        refine Wo.og (o_ixs s53 rfl rfl h2999) gn rfl ?_
                        refine Wo.od (o_ia (r := ptr b2993 (o2994 + v2918.toNat * 2 + 1)) rfl rfl (ia_c ar103 (i := 1) (by decide))) rfl ?_
                        refine Wo.od (o_ldr (k := 0) t5 rfl rfl (map_at h2997) rfl rfl) rfl ?_
                        refine Wo.od (o_cv rfl (cv_i (by rw [u5]; rfl) u3)) rfl ?_
                        refine Wo.od (o_fa (r := ptr b12 0) rfl (fa25_0 _ _)) rfl ?_
                        refine Wo.od (o_ld (k := 4) t3 rfl rfl rfl) rfl ?_
                        obtain ⟨h3000, hF⟩ := gd_some hF
                        refine Wo.od (o_bi rfl rfl (ib_rem _ _ h3000)) rfl ?_
                        refine Wo.od (o_as rfl) rfl ?_
                        refine Wo.od (o_as rfl) rfl ?_
                        refine Wo.nil ?_
                        refine At.tn ?_
                        refine Wk.region ?_
                        refine Wo.od (o_mv rfl) rfl ?_
                        refine Wo.od (o_mv rfl) rfl ?_
                        rcases br_some hF with ⟨h3001, hF⟩ | ⟨h3001, hF⟩
                        · refine Wo.s (gg rfl rfl (eTF h3001)) rfl ?_
                          refine Wo.s (gg rfl rfl (eTF h3001)) rfl ?_
                          refine Wo.s (gg rfl rfl (eTF h3001)) rfl ?_
                          refine Wo.s (gg rfl rfl (eTF h3001)) rfl ?_
                          refine Wo.s (gu rfl rfl) rfl ?_
                          refine Wo.s (gu rfl rfl) rfl ?_
                          refine Wo.s (gu rfl rfl) rfl ?_
                          refine Wo.s (gg rfl rfl (eTF h3001)) rfl ?_
                          refine Wo.od (o_pt rfl h3001 rfl) rfl ?_
                          refine Wo.od (o_mv rfl) rfl ?_
                          refine Wo.s (gg rfl rfl rfl) rfl ?_
                          refine Wo.s (gg rfl rfl rfl) rfl ?_
                          refine Wo.s (gg rfl rfl rfl) rfl ?_
                          refine Wo.s (gg rfl rfl rfl) rfl ?_
                          refine Wo.s (gu rfl rfl) rfl ?_
                          refine Wo.s (gu rfl rfl) rfl ?_
                          refine Wo.s (gu rfl rfl) rfl ?_
                          refine Wo.s (gg rfl rfl rfl) rfl ?_
                          refine Wo.od (o_pT rfl rfl) rfl ?_
                          refine Wo.od (o_as rfl) rfl ?_
                          refine Wo.nil ?_
                          refine At.bn ?_
                          cases hF
                          exact At.en () rfl (sc rfl (sc rfl (sc rfl (sc rfl (sc rfl (sc rfl (sc rfl (sc rfl (sc rfl sn))))))))) (Turn.picks [1, 2, 3, 4, 5] rfl rfl)
                        · refine Wo.og (o_mv rfl) (gg rfl rfl (eFF h3001)) rfl ?_
                          refine Wo.og (o_mv rfl) (gg rfl rfl (eFF h3001)) rfl ?_
                          refine Wo.og (o_bi rfl rfl (bin_eql _ _ _)) (gg rfl rfl (eFF h3001)) rfl ?_
                          refine Wo.og (o_mv rfl) (gg rfl rfl (eFF h3001)) rfl ?_
                          rcases br_some hF with ⟨h3002, hF⟩ | ⟨h3002, hF⟩
                          · refine Wo.og (o_mv rfl) (gg rfl rfl (eTT h3002)) rfl ?_
                            refine Wo.og (o_mv rfl) (gg rfl rfl (eTT h3002)) rfl ?_
                            refine Wo.og (o_bi rfl rfl (bin_eql _ _ _)) (gg rfl rfl (eTT h3002)) rfl ?_
                            refine Wo.og (o_pt rfl h3002 rfl) (gg rfl rfl (eFF h3001)) rfl ?_
                            refine Wo.od (o_pf rfl h3001 rfl) rfl ?_
                            refine Wo.od (o_mv rfl) rfl ?_
                            rcases br_some hF with ⟨h3003, hF⟩ | ⟨h3003, hF⟩
                            · refine Wo.s (gg rfl rfl (eTF h3003)) rfl ?_
                              refine Wo.s (gg rfl rfl (eTF h3003)) rfl ?_
                              refine Wo.s (gg rfl rfl (eTF h3003)) rfl ?_
                              refine Wo.s (gg rfl rfl (eTF h3003)) rfl ?_
                              refine Wo.s (gu rfl rfl) rfl ?_
                              refine Wo.s (gu rfl rfl) rfl ?_
                              refine Wo.s (gu rfl rfl) rfl ?_
                              refine Wo.s (gg rfl rfl (eTF h3003)) rfl ?_
                              refine Wo.od (o_pt rfl h3003 rfl) rfl ?_
                              refine Wo.od (o_as rfl) rfl ?_
                              refine Wo.nil ?_
                              refine At.bn ?_
                              cases hF
                              exact At.en () rfl (sc rfl (sc rfl (sc rfl (sc rfl (sc rfl (sc rfl (sc rfl (sc rfl (sc rfl sn))))))))) (Turn.picks [1, 2, 3, 4, 5] rfl rfl)
                            · refine Wo.og (o_mv rfl) (gg rfl rfl (eFF h3003)) rfl ?_
                              refine Wo.og (o_mv rfl) (gg rfl rfl (eFF h3003)) rfl ?_
                              refine Wo.og (o_bi rfl rfl (bin_eql _ _ _)) (gg rfl rfl (eFF h3003)) rfl ?_
                              refine Wo.og (o_mv rfl) (gg rfl rfl (eFF h3003)) rfl ?_
                              rcases br_some hF with ⟨h3004, hF⟩ | ⟨h3004, hF⟩
                              · refine Wo.og (o_mv rfl) (gg rfl rfl (eTT h3004)) rfl ?_
                                refine Wo.og (o_mv rfl) (gg rfl rfl (eTT h3004)) rfl ?_
                                refine Wo.og (o_bi rfl rfl (bin_eql _ _ _)) (gg rfl rfl (eTT h3004)) rfl ?_
                                refine Wo.og (o_pt rfl h3004 rfl) (gg rfl rfl (eFF h3003)) rfl ?_
                                refine Wo.od (o_pf rfl h3003 rfl) rfl ?_
                                refine Wo.od (o_as rfl) rfl ?_
                                refine Wo.nil ?_
                                refine At.bn ?_
                                cases hF
                                exact At.en () rfl (sc rfl (sc rfl (sc rfl (sc rfl (sc rfl (sc rfl (sc rfl (sc rfl (sc rfl sn))))))))) (Turn.picks [1, 2, 3, 4, 5] rfl rfl)
                              · refine Wo.s (gg rfl rfl (eFT h3004)) rfl ?_
                                refine Wo.s (gg rfl rfl (eFT h3004)) rfl ?_
                                refine Wo.s (gg rfl rfl (eFT h3004)) rfl ?_
                                refine Wo.og (o_pf rfl h3004 rfl) (gg rfl rfl (eFF h3003)) rfl ?_
                                refine Wo.od (o_pf rfl h3003 rfl) rfl ?_
                                refine Wo.od (o_as rfl) rfl ?_
                                refine Wo.nil ?_
                                refine At.bn ?_
                                cases hF
                                exact At.en () rfl (sc rfl (sc rfl (sc rfl (sc rfl (sc rfl (sc rfl (sc rfl (sc rfl (sc rfl sn))))))))) (Turn.picks [1, 2, 3, 4, 5] rfl rfl)
                          · refine Wo.s (gg rfl rfl (eFT h3002)) rfl ?_
                            refine Wo.s (gg rfl rfl (eFT h3002)) rfl ?_
                            refine Wo.s (gg rfl rfl (eFT h3002)) rfl ?_
                            refine Wo.og (o_pf rfl h3002 rfl) (gg rfl rfl (eFF h3001)) rfl ?_
                            refine Wo.od (o_pf rfl h3001 rfl) rfl ?_
                            refine Wo.od (o_mv rfl) rfl ?_
                            refine Wo.og (o_mv rfl) (gg rfl rfl rfl) rfl ?_
                            refine Wo.og (o_mv rfl) (gg rfl rfl rfl) rfl ?_
                            refine Wo.og (o_bi rfl rfl (bin_eql _ _ _)) (gg rfl rfl rfl) rfl ?_
                            refine Wo.og (o_mv rfl) (gg rfl rfl rfl) rfl ?_
                            rcases br_some hF with ⟨h3005, hF⟩ | ⟨h3005, hF⟩
                            · refine Wo.og (o_mv rfl) (gg rfl rfl (eTT h3005)) rfl ?_
                              refine Wo.og (o_mv rfl) (gg rfl rfl (eTT h3005)) rfl ?_
                              refine Wo.og (o_bi rfl rfl (bin_eql _ _ _)) (gg rfl rfl (eTT h3005)) rfl ?_
                              refine Wo.og (o_pt rfl h3005 rfl) (gg rfl rfl rfl) rfl ?_
                              refine Wo.od (o_pF rfl rfl) rfl ?_
                              refine Wo.od (o_as rfl) rfl ?_
                              refine Wo.nil ?_
                              refine At.bn ?_
                              cases hF
                              exact At.en () rfl (sc rfl (sc rfl (sc rfl (sc rfl (sc rfl (sc rfl (sc rfl (sc rfl (sc rfl sn))))))))) (Turn.picks [1, 2, 3, 4, 5] rfl rfl)
                            · refine Wo.s (gg rfl rfl (eFT h3005)) rfl ?_
                              refine Wo.s (gg rfl rfl (eFT h3005)) rfl ?_
                              refine Wo.s (gg rfl rfl (eFT h3005)) rfl ?_
                              refine Wo.og (o_pf rfl h3005 rfl) (gg rfl rfl rfl) rfl ?_
                              refine Wo.od (o_pF rfl rfl) rfl ?_
                              refine Wo.od (o_as rfl) rfl ?_
                              refine Wo.nil ?_
                              refine At.bn ?_
                              cases hF
                              exact At.en () rfl (sc rfl (sc rfl (sc rfl (sc rfl (sc rfl (sc rfl (sc rfl (sc rfl (sc rfl sn))))))))) (Turn.picks [1, 2, 3, 4, 5] rfl rfl)
                      · clear h3006
                        rintro ⟨⟩
                        refine At.tn ?_
                        refine Wk.region ?_
                        refine Wo.od (o_mv rfl) rfl ?_
                        refine Wo.od (o_bi rfl rfl (bin_add _ _ _)) rfl ?_
                        refine Wo.od (o_as rfl) rfl ?_
                        refine Wo.nil ?_
                        cases hF
                        exact At.en () rfl (sc rfl (sc rfl (sc rfl (sc rfl (sc rfl (sc rfl (sc rfl (sc rfl (sc rfl sn))))))))) (Turn.picks [0, 1, 2, 3, 4] rfl rfl)
                    · refine Wk.condF rfl h2976 ?_
                      refine Wk.exit ?_
                      refine At.te ?_
                      cases hF
                      exact At.en () rfl (sc rfl (sc rfl (sc rfl (sc rfl (sc rfl (sc rfl (sc rfl (sc rfl sn)))))))) (Turn.picks [0, 1, 2, 3, 4] rfl rfl)
                · clear h3008
                  rintro ⟨⟩
                  refine At.be ?_
                  refine At.tn ?_
                  refine Wk.seq ?_
                  refine Wk.region ?_
                  refine Wo.od (o_mv rfl) rfl ?_
                  refine Wo.nil ?_
                  refine At.tn ?_
                  rcases br_some hF with ⟨h3010, hF⟩ | ⟨h3010, hF⟩
                  · refine Wk.condT rfl h3010 ?_
                    refine Wk.region ?_
                    refine Wo.od (o_fa (r := ptr b12 1) rfl (fa25_1 _ _)) rfl ?_
                    refine Wo.od (o_ld (k := 3) t23 rfl rfl rfl) rfl ?_
                    refine Wo.od (o_mv rfl) rfl ?_
                    refine Wo.od (o_mv rfl) rfl ?_
                    refine Wo.od (o_bd rfl z26 rfl (bd_s bs26 rfl rfl rfl)) rfl ?_
                    refine Wo.x (o_bs (es := ([(v1018, v2356)] : List (Int × Int)).map (eP (eI .i64) (eI .i64))) s23 rfl (bs_c s23 z26 rfl rfl) rfl rfl) gn rfl fun b3011 => ?_
                    obtain ⟨h3012, hF⟩ := gd_some hF
                    refine Wo.x (o_apl (k := 5) (k2 := 0) (xs := (l2353 : List (Int × Int))) (ys := ([(v1018, v2356)] : List (Int × Int))) (enP (enI .i64) (enI .i64)) s23 ⟨_, u23⟩ rfl rfl rfl (.arr _ _ _ _ _) h3012) gn rfl fun a3013 => ?_
                    refine Wo.od (o_fa (r := ptr b12 1) rfl (fa25_1 _ _)) rfl ?_
                    refine Wo.o0 (o_st (k := 4) t23 rfl rfl rfl rfl rfl) ?_
                    refine Wo.nil ?_
                    refine At.bn ?_
                    cases hF
                    exact At.en a3013 rfl (sc rfl (sc rfl (sc rfl (sc rfl (sc rfl (sc rfl (sc rfl sn))))))) (Turn.picks [1, 2, 3, 4, 5] rfl rfl)
                  · refine Wk.condF rfl h3010 ?_
                    refine Wk.skip ?_
                    refine At.bn ?_
                    cases hF
                    exact At.en a2354 rfl (sc rfl (sc rfl (sc rfl (sc rfl (sc rfl (sc rfl (sc rfl sn))))))) (Turn.picks [0, 1, 2, 3, 4] rfl rfl)
          · clear h3014
            obtain ⟨l2851, v2853⟩ := r3015
            rintro a2852
            refine At.tn ?_
            refine Wk.region ?_
            refine Wo.od (o_mv rfl) rfl ?_
            refine Wo.od (o_bi rfl rfl (bin_add _ _ _)) rfl ?_
            refine Wo.od (o_as rfl) rfl ?_
            refine Wo.nil ?_
            cases hF
            exact At.en a2852 rfl (sc rfl (sc rfl (sc rfl (sc rfl (sc rfl (sc rfl (sc rfl sn))))))) (Turn.picks [0, 1, 2, 3, 4] rfl rfl)
        · refine Wk.condF rfl h2690 ?_
          refine Wk.exit ?_
          refine At.te ?_
          cases hF
          exact At.en a2354 rfl (sc rfl (sc rfl (sc rfl (sc rfl (sc rfl (sc rfl sn)))))) (Turn.picks [0, 1, 2, 3, 4] rfl rfl)
      · clear h3016
        obtain ⟨l2687, v2689⟩ := r3017
        rintro a2688
        refine At.be ?_
        refine At.bn ?_
        refine At.tn ?_
        refine Wk.region ?_
        refine Wo.od (o_mv rfl) rfl ?_
        refine Wo.od (o_bi rfl rfl (bin_add _ _ _)) rfl ?_
        refine Wo.od (o_as rfl) rfl ?_
        refine Wo.nil ?_
        cases hF
        exact At.en a2688 rfl (sc rfl (sc rfl (sc rfl (sc rfl (sc rfl (sc rfl sn)))))) (Turn.picks [0, 1, 2, 3, 4] rfl rfl)
    · refine Wk.condF rfl h2022 ?_
      refine Wk.exit ?_
      refine At.te ?_
      cases hF
      exact At.en a1016 rfl (sc rfl (sc rfl sn)) (Turn.picks [2, 3, 4] rfl rfl)
  · clear h3018
    rintro a2021
    refine At.be ?_
    refine At.tn ?_
    refine Wk.seq ?_
    refine Wk.region ?_
    refine Wo.od (o_ld (k := 1) t25 rfl rfl rfl) rfl ?_
    refine Wo.o0 (o_st (k := 0) t25 rfl rfl rfl rfl rfl) ?_
    refine Wo.nil ?_
    refine At.tn ?_
    refine Wk.ret ?_
    cases hF
    exact At.ret (.cell (k := 0) t25 rfl rfl rfl .nil) fun m' hm => ⟨(a2021, l2020.length), rfl, (Turn.picks [2] rfl rfl) m' hm⟩

theorem f65_ok (n : Nat) (x1 : Nat) (x2 : Nat) (x3 : Int) (x4 : Int) (x5 : Int) (x6 : Int) (l7 : List (Int × Int)) (a8 : Option Addr) (c9 : Nat) (r : Int × List (Int × Int)) (hF : F65 n x1 x2 x3 x4 x5 x6 l7 = some r) (m : AMem) (h10 : Rd m a8 c9 2 l7.length (l7.map (eP (eI .i64) (eI .i64)))) :
    CallA E18w 65 [.agg #[.int .u8 ((x1 : Nat) : Int), .int .u8 ((x2 : Nat) : Int), .int .i64 x3, .int .i64 x4, .int .i64 x5], .agg #[.int .i64 x6, .slice a8 l7.length c9]] m (fun v m' => ∃ x : Option Addr × Nat, v = .agg #[.int .i64 r.1, .slice x.1 x.2 x.2] ∧ Hp m m' [.sl x.1 2 x.2 (r.2.map (eP (eI .i64) (eI .i64)))]) := by
  unfold F65 at hF
  refine call_wk (m0 := m) (ps := [.rd a8 c9 2 l7.length (l7.map (eP (eI .i64) (eI .i64)))]) (N := 145) (rs := [.cell 4 25]) rfl Tryd.func65 rfl rfl rfl ((Hp.start m).inn rfl h10) ?_
  refine Wk.seq ?_
  refine Wk.region ?_
  refine Wo.x (o_bx rfl) gn rfl fun b11 => ?_
  refine Wo.x (o_bx rfl) gn rfl fun b12 => ?_
  refine Wo.x (o_al z25 rfl) gn rfl fun b13 => ?_
  refine Wo.nil ?_
  refine At.tn ?_
  refine Wk.seq ?_
  refine Wk.region ?_
  refine Wo.od (o_fa (r := ptr b12 1) rfl (fa25_1 _ _)) rfl ?_
  refine Wo.od (o_ld (k := 1) t23 rfl rfl rfl) rfl ?_
  refine Wo.od (o_fa (r := ptr b12 1) rfl (fa25_1 _ _)) rfl ?_
  refine Wo.od (o_ld (k := 1) t23 rfl rfl rfl) rfl ?_
  refine Wo.od (o_ln (k := 3) u23 rfl rfl (.inl rfl)) rfl ?_
  refine Wo.od (o_bu rfl rfl (bu_mi _ _)) rfl ?_
  obtain ⟨h14, hF⟩ := gd_some hF
  refine Wo.x (o_srl (k := 3) (lo := 0) (hi := mi (l7.length : Int) (210 : Int)) s23 rfl rfl rfl rfl h14 (.inl ⟨rfl, rfl⟩) (.inr ⟨_, rfl⟩)) gn rfl ?_
  rintro ⟨a15, c16⟩
  obtain ⟨l18, h17, hF⟩ := ob_some hF
  refine Wo.x (o_cl rfl rfl (fun m hm => f26_ok n ((l7.drop (0 : Int).toNat).take ((mi (l7.length : Int) (210 : Int) : Int).toNat - (0 : Int).toNat)) a15 c16 _ h17 m (hm.rd (k := 0) rfl (.rd _ _ _ _ _))) fun _ => rfl) gn rfl ?_
  rintro ⟨a19, n20⟩
  refine Wo.len (k := 0) (xs := l18) rfl ?_
  rintro rfl
  refine Wo.od (o_fa (r := ptr b12 1) rfl (fa25_1 _ _)) rfl ?_
  refine Wo.o0 (o_st (k := 3) t23 rfl rfl rfl rfl rfl) ?_
  refine Wo.nil ?_
  refine At.tn ?_
  refine Wk.seq ?_
  refine Wk.region ?_
  refine Wo.od (o_fa (r := ptr b12 1) rfl (fa25_1 _ _)) rfl ?_
  refine Wo.od (o_ld (k := 3) t23 rfl rfl rfl) rfl ?_
  refine Wo.od (o_ln (k := 0) u23 rfl rfl (.inl rfl)) rfl ?_
  refine Wo.od (o_as rfl) rfl ?_
  refine Wo.nil ?_
  refine At.tn ?_
  refine Wk.seq ?_
  refine Wk.region ?_
  refine Wo.od (o_fa (r := ptr b11 1) rfl (fa57_1 _ _)) rfl ?_
  refine Wo.od (o_ld (k := 4) t5 rfl rfl rfl) rfl ?_
  refine Wo.od (o_cv rfl (cv_i (by rw [u5]; rfl) u3)) rfl ?_
  refine Wo.od (o_mv rfl) rfl ?_
  refine Wo.od (o_bi rfl rfl (bin_add _ _ _)) rfl ?_
  obtain ⟨h21, hF⟩ := gd_some hF
  obtain ⟨y22, h23, hF⟩ := ob_some hF
  refine Wo.od (o_bi rfl rfl ((ib_rem _ _ h21).trans (cI h23))) rfl ?_
  refine Wo.od (o_as rfl) rfl ?_
  refine Wo.nil ?_
  refine At.tn ?_
  refine Wk.seq ?_
  obtain ⟨r493, h492, hF⟩ := ob_some hF
  refine Wk.cut (G := (fun (r : Int × List (Int × Int) × Nat) (g : Option Addr) => match r, g with | (v256, l257, n259), a258 => ⟨.normal, [(3, ptr b12 0), (4, ptr b13 0)], [.obj b12 (.cells [.int .i64 v256, .slice a258 n259 n259] .own), .sl a258 2 n259 (l257.map (eP (eI .i64) (eI .i64))), .obj b13 (.cells [.int .i64 0, .slice none 0 0] .own)]⟩) r493) ?_ ?_
  · clear hF
    revert r493
    intro r hF
    refine Wk.seq ?_
    refine Wk.region ?_
    refine Wo.od (o_fa (r := ptr b11 0) rfl (fa57_0 _ _)) rfl ?_
    refine Wo.od (o_ld (k := 4) t5 rfl rfl rfl) rfl ?_
    refine Wo.od (o_bi rfl rfl (ub_rem _ _ (by decide))) rfl ?_
    refine Wo.nil ?_
    refine At.tn ?_
    refine Wk.block ?_
    refine Wk.seq ?_
    refine Wk.region ?_
    refine Wo.od (o_bi rfl rfl (ub_eql _ _)) rfl ?_
    refine Wo.od (o_as rfl) rfl ?_
    refine Wo.nil ?_
    refine At.tn ?_
    rcases br_some hF with ⟨h260, hF⟩ | ⟨h260, hF⟩
    · refine Wk.condT rfl h260 ?_
      refine Wk.region ?_
      refine Wo.od (o_fa (r := ptr b11 2) rfl (fa57_2 _ _)) rfl ?_
      refine Wo.od (o_ld (k := 4) t3 rfl rfl rfl) rfl ?_
      refine Wo.od (o_fa (r := ptr b12 0) rfl (fa25_0 _ _)) rfl ?_
      refine Wo.o0 (o_st (k := 3) t3 rfl rfl rfl rfl rfl) ?_
      refine Wo.nil ?_
      refine At.bn ?_
      cases hF
      exact At.en a19 rfl (sc rfl (sc rfl sn)) (Turn.picks [3, 0, 2] rfl rfl)
    · refine Wk.condF rfl h260 ?_
      refine Wk.seq ?_
      refine Wk.region ?_
      refine Wo.od (o_bi rfl rfl (ub_eql _ _)) rfl ?_
      refine Wo.od (o_as rfl) rfl ?_
      refine Wo.nil ?_
      refine At.tn ?_
      rcases br_some hF with ⟨h261, hF⟩ | ⟨h261, hF⟩
      · refine Wk.condT rfl h261 ?_
        refine Wk.region ?_
        refine Wo.od (o_fa (r := ptr b12 1) rfl (fa25_1 _ _)) rfl ?_
        refine Wo.od (o_ld (k := 3) t23 rfl rfl rfl) rfl ?_
        refine Wo.od (o_mv rfl) rfl ?_
        refine Wo.od (o_fa (r := ptr b11 3) rfl (fa57_3 _ _)) rfl ?_
        refine Wo.od (o_ld (k := 4) t26 rfl rfl rfl) rfl ?_
        refine Wo.x (o_bs (es := ([(x4, x5)] : List (Int × Int)).map (eP (eI .i64) (eI .i64))) s23 rfl (bs_c s23 z26 rfl rfl) rfl rfl) gn rfl fun b262 => ?_
        obtain ⟨l263, h264, hF⟩ := ob_some hF
        refine Wo.x (o_cs (α := Option Addr × Nat) (V := fun y => .slice y.1 y.2 y.2) (N := fun y => pset [.arr b262 2 1 (([(x4, x5)]).map (eP (eI .i64) (eI .i64))) .own, .sl a19 2 l18.length (l18.map (eP (eI .i64) (eI .i64))), .rd a15 c16 2 (((l7.drop (0 : Int).toNat).take ((mi (l7.length : Int) (210 : Int) : Int).toNat - (0 : Int).toNat)).length) (((l7.drop (0 : Int).toNat).take ((mi (l7.length : Int) (210 : Int) : Int).toNat - (0 : Int).toNat)).map (eP (eI .i64) (eI .i64))), .obj b13 (.cells [.int .i64 0, .slice none 0 0] .own), .obj b12 (.cells [.int .i64 x6, .slice a19 l18.length l18.length] .own), .obj b11 (.cells [.int .u8 ((x1 : Nat) : Int), .int .u8 ((x2 : Nat) : Int), .int .i64 x3, .int .i64 x4, .int .i64 x5] .own), .rd a8 c9 2 l7.length (l7.map (eP (eI .i64) (eI .i64)))] 1 (.sl y.1 2 y.2 (l263.map (eP (eI .i64) (eI .i64))))) rfl rfl (fun m hm => f82_use n hm (k := 1) rfl (k2 := 0) rfl rfl h264)) gn rfl ?_
        rintro ⟨a265, n266⟩
        refine Wo.len (k := 1) (xs := l263) rfl ?_
        rintro rfl
        refine Wo.od (o_fa (r := ptr b12 1) rfl (fa25_1 _ _)) rfl ?_
        refine Wo.o0 (o_st (k := 4) t23 rfl rfl rfl rfl rfl) ?_
        refine Wo.nil ?_
        refine At.bn ?_
        cases hF
        exact At.en a265 rfl (sc rfl (sc rfl sn)) (Turn.picks [4, 1, 3] rfl rfl)
      · refine Wk.condF rfl h261 ?_
        refine Wk.seq ?_
        refine Wk.region ?_
        refine Wo.od (o_bi rfl rfl (ub_eql _ _)) rfl ?_
        refine Wo.od (o_as rfl) rfl ?_
        refine Wo.nil ?_
        refine At.tn ?_
        rcases br_some hF with ⟨h267, hF⟩ | ⟨h267, hF⟩
        · refine Wk.condT rfl h267 ?_
          refine Wk.seq ?_
          refine Wk.region ?_
          refine Wo.od (o_mv rfl) rfl ?_
          refine Wo.od (o_mv rfl) rfl ?_
          refine Wo.od (o_bi rfl rfl (bin_lss _ _ _)) rfl ?_
          refine Wo.nil ?_
          refine At.tn ?_
          rcases br_some hF with ⟨h268, hF⟩ | ⟨h268, hF⟩
          · refine Wk.condT rfl h268 ?_
            refine Wk.region ?_
            refine Wo.od (o_fa (r := ptr b12 1) rfl (fa25_1 _ _)) rfl ?_
            refine Wo.od (o_ld (k := 3) t23 rfl rfl rfl) rfl ?_
            refine Wo.od (o_mv rfl) rfl ?_
            refine Wo.od (o_mv rfl) rfl ?_
            refine Wo.od (o_bi rfl rfl (bin_add _ _ _)) rfl ?_
            obtain ⟨l269, h270, hF⟩ := ob_some hF
            refine Wo.x (o_cs (α := Option Addr × Nat) (V := fun y => .slice y.1 y.2 y.2) (N := fun y => pset [.sl a19 2 l18.length (l18.map (eP (eI .i64) (eI .i64))), .rd a15 c16 2 (((l7.drop (0 : Int).toNat).take ((mi (l7.length : Int) (210 : Int) : Int).toNat - (0 : Int).toNat)).length) (((l7.drop (0 : Int).toNat).take ((mi (l7.length : Int) (210 : Int) : Int).toNat - (0 : Int).toNat)).map (eP (eI .i64) (eI .i64))), .obj b13 (.cells [.int .i64 0, .slice none 0 0] .own), .obj b12 (.cells [.int .i64 x6, .slice a19 l18.length l18.length] .own), .obj b11 (.cells [.int .u8 ((x1 : Nat) : Int), .int .u8 ((x2 : Nat) : Int), .int .i64 x3, .int .i64 x4, .int .i64 x5] .own), .rd a8 c9 2 l7.length (l7.map (eP (eI .i64) (eI .i64)))] 0 (.sl y.1 2 y.2 (l269.map (eP (eI .i64) (eI .i64))))) rfl rfl (fun m hm => f49_use n hm (k := 0) rfl h270)) gn rfl ?_
            rintro ⟨a271, n272⟩
            refine Wo.len (k := 0) (xs := l269) rfl ?_
            rintro rfl
            refine Wo.od (o_fa (r := ptr b12 1) rfl (fa25_1 _ _)) rfl ?_
            refine Wo.o0 (o_st (k := 3) t23 rfl rfl rfl rfl rfl) ?_
            refine Wo.nil ?_
            refine At.bn ?_
            cases hF
            exact At.en a271 rfl (sc rfl (sc rfl sn)) (Turn.picks [3, 0, 2] rfl rfl)
          · refine Wk.condF rfl h268 ?_
            refine Wk.skip ?_
            refine At.bn ?_
            cases hF
            exact At.en a19 rfl (sc rfl (sc rfl sn)) (Turn.picks [3, 0, 2] rfl rfl)
        · refine Wk.condF rfl h267 ?_
          refine Wk.seq ?_
          refine Wk.region ?_
          refine Wo.od (o_bi rfl rfl (ub_eql _ _)) rfl ?_
          refine Wo.od (o_as rfl) rfl ?_
          refine Wo.nil ?_
          refine At.tn ?_
          rcases br_some hF with ⟨h273, hF⟩ | ⟨h273, hF⟩
          · refine Wk.condT rfl h273 ?_
            refine Wk.seq ?_
            refine Wk.region ?_
            refine Wo.od (o_mv rfl) rfl ?_
            refine Wo.od (o_mv rfl) rfl ?_
            refine Wo.od (o_bi rfl rfl (bin_lss _ _ _)) rfl ?_
            refine Wo.nil ?_
            refine At.tn ?_
            rcases br_some hF with ⟨h274, hF⟩ | ⟨h274, hF⟩
            · refine Wk.condT rfl h274 ?_
              refine Wk.drawc (prs := [(4, 20)]) (by kernel_rfl) ?_
              refine Wn.od (o_fa (r := ptr b12 1) rfl (fa25_1 _ _)) rfl ?_
              refine Wn.od (o_ld (k := 3) t23 rfl rfl rfl) rfl ?_
              refine Wn.od (o_mv rfl) rfl ?_
              refine Wn.od (o_fa (r := ptr b12 1) rfl (fa25_1 _ _)) rfl ?_
              refine Wn.odr rfl (o_ld (k := 3) t23 rfl rfl rfl) rfl ?_
              refine Wn.od (o_mv rfl) rfl ?_
              refine Wn.od (o_fa (r := ptr b12 1) rfl (fa25_1 _ _)) rfl ?_
              refine Wn.od (o_ld (k := 3) t23 rfl rfl rfl) rfl ?_
              refine Wn.od (o_mv rfl) rfl ?_
              obtain ⟨h275, hF⟩ := gd_some hF
              replace h275 := inB_some h275
              refine Wn.open (k := 0) rfl (pos_of h275) ?_
              rintro b276 tg277 rfl h278
              refine Wn.og (o_ixa s23 rfl rfl h275) gn rfl ?_
              refine Wn.od (o_ia (r := ptr b276 (y22.toNat * 2 + 1)) rfl rfl (ia_c ar26 (i := 1) (by decide))) rfl ?_
              obtain ⟨⟨x279, x280⟩, h281, hF⟩ := ob_some hF
              refine Wn.od (o_lda (k := 0) t3 rfl rfl (map_at h281) rfl rfl) rfl ?_
              refine Wn.od (o_fa (r := ptr b12 1) rfl (fa25_1 _ _)) rfl ?_
              refine Wn.od (o_ld (k := 3) t23 rfl rfl rfl) rfl ?_
              refine Wn.od (o_mv rfl) rfl ?_
              obtain ⟨h282, hF⟩ := gd_some hF
              replace h282 := inB_some h282
              refine Wn.og (o_ixa s23 rfl rfl h282) gn rfl ?_
              refine Wn.od (o_ia (r := ptr b276 (y22.toNat * 2 + 0)) rfl rfl (ia_c ar26 (i := 0) (by decide))) rfl ?_
              refine Wn.od (o_lda (k := 0) t3 rfl rfl (map_at h281) rfl rfl) rfl ?_
              obtain ⟨h283, hF⟩ := gd_some hF
              replace h283 := inB_some h283
              refine Wn.og (o_ixa s23 rfl rfl h283) gn rfl ?_
              refine Wn.od (o_ia (r := ptr b276 (y22.toNat * 2 + 0)) rfl rfl (ia_c ar26 (i := 0) (by decide))) rfl ?_
              refine Wn.o0w rfl (o_stl (k := 0) (x1 := (x279, x280)) (x2 := (x280, x280)) t3 rfl rfl rfl h281 rfl) ?_
              obtain ⟨h285, hF⟩ := gd_some hF
              replace h285 := inB_some h285
              refine Wn.og (o_ixa s23 rfl rfl h285) gn rfl ?_
              refine Wn.od (o_ia (r := ptr b276 (y22.toNat * 2 + 1)) rfl rfl (ia_c ar26 (i := 1) (by decide))) rfl ?_
              obtain ⟨⟨x286, x287⟩, h288, hF⟩ := ob_some hF
              refine Wn.o0 (o_stl (k := 0) (x1 := (x286, x287)) (x2 := (x286, x279)) t3 rfl rfl rfl h288 rfl) ?_
              refine Wn.nil (fun m hm => (OkP.rw rfl rfl rfl (hm.ne (i := 3) (j := 0) rfl rfl rfl rfl (by decide) rfl) OkP.nil)) ?_
              refine At.bn ?_
              cases hF
              exact At.en (some ⟨b276, 0, none⟩) rfl (sc rfl (sc rfl sn)) (Turn.trans (Turn.close (k := 0) rfl) (Turn.picks [3, 0, 2] rfl rfl))
            · refine Wk.condF rfl h274 ?_
              refine Wk.skip ?_
              refine At.bn ?_
              cases hF
              exact At.en a19 rfl (sc rfl (sc rfl sn)) (Turn.picks [3, 0, 2] rfl rfl)
          · refine Wk.condF rfl h273 ?_
            refine Wk.seq ?_
            refine Wk.region ?_
            refine Wo.od (o_bi rfl rfl (ub_eql _ _)) rfl ?_
            refine Wo.od (o_as rfl) rfl ?_
            refine Wo.nil ?_
            refine At.tn ?_
            rcases br_some hF with ⟨h290, hF⟩ | ⟨h290, hF⟩
            · refine Wk.condT rfl h290 ?_
              refine Wk.seq ?_
              refine Wk.region ?_
              refine Wo.od (o_mv rfl) rfl ?_
              refine Wo.od (o_mv rfl) rfl ?_
              refine Wo.od (o_bi rfl rfl (bin_lss _ _ _)) rfl ?_
              refine Wo.nil ?_
              refine At.tn ?_
              rcases br_some hF with ⟨h291, hF⟩ | ⟨h291, hF⟩
              · refine Wk.condT rfl h291 ?_
                refine Wk.draw (by kernel_rfl) ?_
                refine Wo.od (o_fa (r := ptr b12 1) rfl (fa25_1 _ _)) rfl ?_
                refine Wo.od (o_ld (k := 3) t23 rfl rfl rfl) rfl ?_
                refine Wo.od (o_mv rfl) rfl ?_
                refine Wo.od (o_fa (r := ptr b12 1) rfl (fa25_1 _ _)) rfl ?_
                refine Wo.od (o_ld (k := 3) t23 rfl rfl rfl) rfl ?_
                refine Wo.od (o_mv rfl) rfl ?_
                obtain ⟨h292, hF⟩ := gd_some hF
                replace h292 := inB_some h292
                refine Wo.open (k := 0) rfl (pos_of h292) ?_
                rintro b293 tg294 rfl h295
                refine Wo.og (o_ixa s23 rfl rfl h292) gn rfl ?_
                obtain ⟨⟨x296, x297⟩, h298, hF⟩ := ob_some hF
                refine Wo.od (o_lda (k := 0) t26 rfl rfl (map_at h298) rfl rfl) rfl ?_
                refine Wo.x (o_bs (es := ([(x296, x297)] : List (Int × Int)).map (eP (eI .i64) (eI .i64))) s23 rfl (bs_c s23 z26 rfl rfl) rfl rfl) gn rfl fun b299 => ?_
                obtain ⟨l300, h301, hF⟩ := ob_some hF
                refine Wo.turn (Turn.close (k := 1) rfl) ?_
                refine Wo.x (o_cs (α := Option Addr × Nat) (V := fun y => .slice y.1 y.2 y.2) (N := fun y => pset [.arr b299 2 1 (([(x296, x297)]).map (eP (eI .i64) (eI .i64))) .own, .sl (some ⟨b293, 0, none⟩) 2 l18.length (l18.map (eP (eI .i64) (eI .i64))), .rd a15 c16 2 (((l7.drop (0 : Int).toNat).take ((mi (l7.length : Int) (210 : Int) : Int).toNat - (0 : Int).toNat)).length) (((l7.drop (0 : Int).toNat).take ((mi (l7.length : Int) (210 : Int) : Int).toNat - (0 : Int).toNat)).map (eP (eI .i64) (eI .i64))), .obj b13 (.cells [.int .i64 0, .slice none 0 0] .own), .obj b12 (.cells [.int .i64 x6, .slice (some ⟨b293, 0, none⟩) l18.length l18.length] .own), .obj b11 (.cells [.int .u8 ((x1 : Nat) : Int), .int .u8 ((x2 : Nat) : Int), .int .i64 x3, .int .i64 x4, .int .i64 x5] .own), .rd a8 c9 2 l7.length (l7.map (eP (eI .i64) (eI .i64)))] 1 (.sl y.1 2 y.2 (l300.map (eP (eI .i64) (eI .i64))))) rfl rfl (fun m hm => f82_use n hm (k := 1) rfl (k2 := 0) rfl rfl h301)) gn rfl ?_
                rintro ⟨a302, n303⟩
                refine Wo.len (k := 1) (xs := l300) rfl ?_
                rintro rfl
                refine Wo.od (o_fa (r := ptr b12 1) rfl (fa25_1 _ _)) rfl ?_
                refine Wo.o0 (o_st (k := 4) t23 rfl rfl rfl rfl rfl) ?_
                refine Wo.nil ?_
                refine At.bn ?_
                cases hF
                exact At.en a302 rfl (sc rfl (sc rfl sn)) (Turn.picks [4, 1, 3] rfl rfl)
              · refine Wk.condF rfl h291 ?_
                refine Wk.skip ?_
                refine At.bn ?_
                cases hF
                exact At.en a19 rfl (sc rfl (sc rfl sn)) (Turn.picks [3, 0, 2] rfl rfl)
            · refine Wk.condF rfl h290 ?_
              refine Wk.seq ?_
              refine Wk.region ?_
              refine Wo.od (o_bi rfl rfl (ub_eql _ _)) rfl ?_
              refine Wo.od (o_as rfl) rfl ?_
              refine Wo.nil ?_
              refine At.tn ?_
              rcases br_some hF with ⟨h304, hF⟩ | ⟨h304, hF⟩
              · refine Wk.condT rfl h304 ?_
                refine Wk.region ?_
                refine Wo.od (o_fa (r := ptr b12 0) rfl (fa25_0 _ _)) rfl ?_
                refine Wo.od (o_ld (k := 3) t3 rfl rfl rfl) rfl ?_
                refine Wo.od (o_bu rfl rfl (bu_ma _ _)) rfl ?_
                refine Wo.od (o_bi rfl rfl (ib_rem _ _ (by decide))) rfl ?_
                refine Wo.od (o_bi rfl rfl (bin_add _ _ _)) rfl ?_
                refine Wo.od (o_fa (r := ptr b12 0) rfl (fa25_0 _ _)) rfl ?_
                refine Wo.o0 (o_st (k := 3) t3 rfl rfl rfl rfl rfl) ?_
                refine Wo.nil ?_
                refine At.bn ?_
                cases hF
                exact At.en a19 rfl (sc rfl (sc rfl sn)) (Turn.picks [3, 0, 2] rfl rfl)
              · refine Wk.condF rfl h304 ?_
                refine Wk.seq ?_
                refine Wk.region ?_
                refine Wo.od (o_bi rfl rfl (ub_eql _ _)) rfl ?_
                refine Wo.od (o_as rfl) rfl ?_
                refine Wo.nil ?_
                refine At.tn ?_
                rcases br_some hF with ⟨h305, hF⟩ | ⟨h305, hF⟩
                · refine Wk.condT rfl h305 ?_
                  refine Wk.seq ?_
                  refine Wk.region ?_
                  refine Wo.od (o_fa (r := ptr b12 0) rfl (fa25_0 _ _)) rfl ?_
                  refine Wo.o0 (o_st (k := 3) t3 rfl rfl rfl rfl rfl) ?_
                  refine Wo.od (o_fa (r := ptr b12 1) rfl (fa25_1 _ _)) rfl ?_
                  refine Wo.o0 (o_st (k := 3) t23 rfl rfl rfl rfl rfl) ?_
                  refine Wo.nil ?_
                  refine At.tn ?_
                  refine Wk.seq ?_
                  refine Wk.region ?_
                  refine Wo.od (o_mv rfl) rfl ?_
                  refine Wo.nil ?_
                  refine At.tn ?_
                  refine Wk.block ?_
                  obtain ⟨l430, h490, hF⟩ := ob_some hF
                  refine Wk.cut (G := (fun (r : List (Int × Int)) (g : Option Addr) => match r, g with | l430, a431 => ⟨(.exit 1), [(3, ptr b12 0), (4, ptr b13 0)], [.obj b12 (.cells [.int .i64 64, .slice a431 l430.length l430.length] .own), .sl a431 2 l430.length (l430.map (eP (eI .i64) (eI .i64))), .obj b13 (.cells [.int .i64 0, .slice none 0 0] .own)]⟩) l430) ?_ ?_
                  · refine Wk.weak (fs' := [(2, ptr b11 0), (3, ptr b12 0), (4, ptr b13 0), (112, .int .i64 0)]) (ps' := [.obj b11 (.cells [.int .u8 ((x1 : Nat) : Int), .int .u8 ((x2 : Nat) : Int), .int .i64 x3, .int .i64 x4, .int .i64 x5] .own), .obj b12 (.cells [.int .i64 64, .slice none ([] : List (Int × Int)).length ([] : List (Int × Int)).length] .own), .sl none 2 ([] : List (Int × Int)).length (([] : List (Int × Int)).map (eP (eI .i64) (eI .i64))), .obj b13 (.cells [.int .i64 0, .slice none 0 0] .own)]) (sc rfl (sc rfl (sc rfl (sc rfl sn)))) (Turn.trans (Turn.nil 2 rfl) (Turn.picks [5, 4, 0, 3] rfl rfl)) ?_
                    refine Wk.loop (σ := List (Int × Int) × Int) (ρ := List (Int × Int)) (γ := Option Addr) (δ := fun _ => Option Addr) _ (fun (s : List (Int × Int) × Int) (g : Option Addr) => match s, g with | (l366, v368), a367 => ⟨.normal, [(2, ptr b11 0), (3, ptr b12 0), (4, ptr b13 0), (112, .int .i64 v368)], [.obj b11 (.cells [.int .u8 ((x1 : Nat) : Int), .int .u8 ((x2 : Nat) : Int), .int .i64 x3, .int .i64 x4, .int .i64 x5] .own), .obj b12 (.cells [.int .i64 64, .slice a367 l366.length l366.length] .own), .sl a367 2 l366.length (l366.map (eP (eI .i64) (eI .i64))), .obj b13 (.cells [.int .i64 0, .slice none 0 0] .own)]⟩) (fun (r : List (Int × Int)) (g : Option Addr) => match r, g with | l430, a431 => ⟨(.exit 1), [(3, ptr b12 0), (4, ptr b13 0)], [.obj b12 (.cells [.int .i64 64, .slice a431 l430.length l430.length] .own), .sl a431 2 l430.length (l430.map (eP (eI .i64) (eI .i64))), .obj b13 (.cells [.int .i64 0, .slice none 0 0] .own)]⟩) ?_ (fun _ _ => rfl) (fun r d => by intro e; cases e) _ _ _ h490 none
                    clear hF h490
                    rintro ⟨l366, v368⟩ a367 r hF
                    unfold L65_2 at hF
                    refine Wk.seq ?_
                    refine Wk.region ?_
                    refine Wo.od (o_bi rfl rfl (bin_lss _ _ _)) rfl ?_
                    refine Wo.nil ?_
                    refine At.tn ?_
                    refine Wk.seq ?_
                    rcases br_some hF with ⟨h432, hF⟩ | ⟨h432, hF⟩
                    · refine Wk.condT rfl h432 ?_
                      refine Wk.skip ?_
                      refine At.tn ?_
                      refine Wk.seq ?_
                      refine Wk.block ?_
                      refine Wk.seq ?_
                      refine Wk.region ?_
                      refine Wo.od (o_mv rfl) rfl ?_
                      refine Wo.od (o_as rfl) rfl ?_
                      refine Wo.nil ?_
                      refine At.tn ?_
                      refine Wk.seq ?_
                      refine Wk.region ?_
                      refine Wo.od (o_mv rfl) rfl ?_
                      refine Wo.od (o_bi rfl rfl (bin_add _ _ _)) rfl ?_
                      refine Wo.od (o_as rfl) rfl ?_
                      refine Wo.nil ?_
                      refine At.tn ?_
                      refine Wk.block ?_
                      obtain ⟨l471, h488, hF⟩ := ob_some hF
                      refine Wk.cut (G := (fun (r : List (Int × Int)) (g : Option Addr) => match r, g with | l471, a472 => ⟨(.exit 3), [(2, ptr b11 0), (3, ptr b12 0), (4, ptr b13 0), (112, .int .i64 v368)], [.obj b11 (.cells [.int .u8 ((x1 : Nat) : Int), .int .u8 ((x2 : Nat) : Int), .int .i64 x3, .int .i64 x4, .int .i64 x5] .own), .obj b12 (.cells [.int .i64 64, .slice a472 l471.length l471.length] .own), .sl a472 2 l471.length (l471.map (eP (eI .i64) (eI .i64))), .obj b13 (.cells [.int .i64 0, .slice none 0 0] .own)]⟩) l471) ?_ ?_
                      · refine Wk.weak (fs' := [(2, ptr b11 0), (3, ptr b12 0), (4, ptr b13 0), (7, .int .i64 v368), (8, .int .i64 (IntKind.wrap .i64 (v368 + 1))), (112, .int .i64 v368)]) (ps' := [.obj b11 (.cells [.int .u8 ((x1 : Nat) : Int), .int .u8 ((x2 : Nat) : Int), .int .i64 x3, .int .i64 x4, .int .i64 x5] .own), .obj b12 (.cells [.int .i64 64, .slice a367 l366.length l366.length] .own), .sl a367 2 l366.length (l366.map (eP (eI .i64) (eI .i64))), .obj b13 (.cells [.int .i64 0, .slice none 0 0] .own)]) (sc rfl (sc rfl (sc rfl (sc rfl (sc rfl (sc rfl sn)))))) (Turn.picks [0, 1, 2, 3] rfl rfl) ?_
                        refine Wk.loop (σ := List (Int × Int) × Int) (ρ := List (Int × Int)) (γ := Option Addr) (δ := fun _ => Option Addr) _ (fun (s : List (Int × Int) × Int) (g : Option Addr) => match s, g with | (l450, v452), a451 => ⟨.normal, [(2, ptr b11 0), (3, ptr b12 0), (4, ptr b13 0), (7, .int .i64 v368), (8, .int .i64 v452), (112, .int .i64 v368)], [.obj b11 (.cells [.int .u8 ((x1 : Nat) : Int), .int .u8 ((x2 : Nat) : Int), .int .i64 x3, .int .i64 x4, .int .i64 x5] .own), .obj b12 (.cells [.int .i64 64, .slice a451 l450.length l450.length] .own), .sl a451 2 l450.length (l450.map (eP (eI .i64) (eI .i64))), .obj b13 (.cells [.int .i64 0, .slice none 0 0] .own)]⟩) (fun (r : List (Int × Int)) (g : Option Addr) => match r, g with | l471, a472 => ⟨(.exit 3), [(2, ptr b11 0), (3, ptr b12 0), (4, ptr b13 0), (112, .int .i64 v368)], [.obj b11 (.cells [.int .u8 ((x1 : Nat) : Int), .int .u8 ((x2 : Nat) : Int), .int .i64 x3, .int .i64 x4, .int .i64 x5] .own), .obj b12 (.cells [.int .i64 64, .slice a472 l471.length l471.length] .own), .sl a472 2 l471.length (l471.map (eP (eI .i64) (eI .i64))), .obj b13 (.cells [.int .i64 0, .slice none 0 0] .own)]⟩) ?_ (fun _ _ => rfl) (fun r d => by intro e; cases e) _ _ _ h488 a367
                        clear hF h488
                        rintro ⟨l450, v452⟩ a451 r hF
                        unfold L65_1 at hF
                        refine Wk.seq ?_
                        refine Wk.seq ?_
                        obtain ⟨v480, h482, hF⟩ := ob_some hF
                        refine Wk.cut (G := (fun (r : Bool) (g : Unit) => match r, g with | v480, _ => ⟨.normal, [(2, ptr b11 0), (3, ptr b12 0), (4, ptr b13 0), (7, .int .i64 v368), (8, .int .i64 v452), (112, .int .i64 v368), (132, .bool v480)], [.obj b11 (.cells [.int .u8 ((x1 : Nat) : Int), .int .u8 ((x2 : Nat) : Int), .int .i64 x3, .int .i64 x4, .int .i64 x5] .own), .obj b12 (.cells [.int .i64 64, .slice a451 l450.length l450.length] .own), .sl a451 2 l450.length (l450.map (eP (eI .i64) (eI .i64))), .obj b13 (.cells [.int .i64 0, .slice none 0 0] .own)]⟩) v480) ?_ ?_
                        · clear hF
                          revert v480
                          intro r hF
                          refine Wk.region ?_
                          refine Wo.od (o_mv rfl) rfl ?_
                          refine Wo.od (o_mv rfl) rfl ?_
                          refine Wo.od (o_bi rfl rfl (bin_add _ _ _)) rfl ?_
                          refine Wo.od (o_bu rfl rfl (bu_mi _ _)) rfl ?_
                          refine Wo.od (o_bi rfl rfl (bin_lss _ _ _)) rfl ?_
                          refine Wo.od (o_mv rfl) rfl ?_
                          rcases br_some hF with ⟨h481, hF⟩ | ⟨h481, hF⟩
                          · refine Wo.og (o_fa (r := ptr b12 1) rfl (fa25_1 _ _)) (gg rfl rfl (eTT h481)) rfl ?_
                            refine Wo.og (o_ld (k := 1) t23 rfl rfl rfl) (gg rfl rfl (eTT h481)) rfl ?_
                            refine Wo.og (o_ln (k := 2) u23 rfl rfl (.inl rfl)) (gg rfl rfl (eTT h481)) rfl ?_
                            refine Wo.og (o_fa (r := ptr b11 1) rfl (fa57_1 _ _)) (gg rfl rfl (eTT h481)) rfl ?_
                            refine Wo.og (o_ld (k := 0) t5 rfl rfl rfl) (gg rfl rfl (eTT h481)) rfl ?_
                            refine Wo.og (o_bi rfl rfl (ub_rem _ _ (by decide))) (gg rfl rfl (eTT h481)) rfl ?_
                            refine Wo.og (o_cv rfl (cv_i (by rw [u5]; rfl) u3)) (gg rfl rfl (eTT h481)) rfl ?_
                            refine Wo.og (o_bi rfl rfl (bin_add _ _ _)) (gg rfl rfl (eTT h481)) rfl ?_
                            refine Wo.og (o_bi rfl rfl (bin_lss _ _ _)) (gg rfl rfl (eTT h481)) rfl ?_
                            refine Wo.od (o_pt rfl h481 rfl) rfl ?_
                            refine Wo.nil ?_
                            cases hF
                            exact At.en () rfl (sc rfl (sc rfl (sc rfl (sc rfl (sc rfl (sc rfl (sc rfl sn))))))) (Turn.picks [0, 1, 2, 3] rfl rfl)
                          · refine Wo.s (gg rfl rfl (eFT h481)) rfl ?_
                            refine Wo.s (gg rfl rfl (eFT h481)) rfl ?_
                            refine Wo.s (gg rfl rfl (eFT h481)) rfl ?_
                            refine Wo.s (gg rfl rfl (eFT h481)) rfl ?_
                            refine Wo.s (gg rfl rfl (eFT h481)) rfl ?_
                            refine Wo.s (gg rfl rfl (eFT h481)) rfl ?_
                            refine Wo.s (gg rfl rfl (eFT h481)) rfl ?_
                            refine Wo.s (gg rfl rfl (eFT h481)) rfl ?_
                            refine Wo.s (gg rfl rfl (eFT h481)) rfl ?_
                            refine Wo.od (o_pf rfl h481 rfl) rfl ?_
                            refine Wo.nil ?_
                            cases hF
                            exact At.en () rfl (sc rfl (sc rfl (sc rfl (sc rfl (sc rfl (sc rfl (sc rfl sn))))))) (Turn.picks [0, 1, 2, 3] rfl rfl)
                        · clear h482
                          rintro ⟨⟩
                          refine At.tn ?_
                          rcases br_some hF with ⟨h484, hF⟩ | ⟨h484, hF⟩
                          · refine Wk.condT rfl h484 ?_
                            refine Wk.skip ?_
                            refine At.tn ?_
                            refine Wk.seq ?_
                            refine Wk.block ?_
                            refine Wk.region ?_
                            refine Wo.od (o_fa (r := ptr b12 1) rfl (fa25_1 _ _)) rfl ?_
                            refine Wo.od (o_ld (k := 1) t23 rfl rfl rfl) rfl ?_
                            refine Wo.od (o_mv rfl) rfl ?_
                            refine Wo.od (o_mv rfl) rfl ?_
                            refine Wo.od (o_bd rfl z26 rfl (bd_s bs26 rfl rfl rfl)) rfl ?_
                            refine Wo.x (o_bs (es := ([(v368, v452)] : List (Int × Int)).map (eP (eI .i64) (eI .i64))) s23 rfl (bs_c s23 z26 rfl rfl) rfl rfl) gn rfl fun b485 => ?_
                            obtain ⟨h486, hF⟩ := gd_some hF
                            refine Wo.x (o_apl (k := 3) (k2 := 0) (xs := (l450 : List (Int × Int))) (ys := ([(v368, v452)] : List (Int × Int))) (enP (enI .i64) (enI .i64)) s23 ⟨_, u23⟩ rfl rfl rfl (.arr _ _ _ _ _) h486) gn rfl fun a487 => ?_
                            refine Wo.od (o_fa (r := ptr b12 1) rfl (fa25_1 _ _)) rfl ?_
                            refine Wo.o0 (o_st (k := 2) t23 rfl rfl rfl rfl rfl) ?_
                            refine Wo.nil ?_
                            refine At.bn ?_
                            refine At.tn ?_
                            refine Wk.region ?_
                            refine Wo.od (o_mv rfl) rfl ?_
                            refine Wo.od (o_bi rfl rfl (bin_add _ _ _)) rfl ?_
                            refine Wo.od (o_as rfl) rfl ?_
                            refine Wo.nil ?_
                            cases hF
                            exact At.en a487 rfl (sc rfl (sc rfl (sc rfl (sc rfl (sc rfl (sc rfl sn)))))) (Turn.picks [1, 2, 3, 4] rfl rfl)
                          · refine Wk.condF rfl h484 ?_
                            refine Wk.exit ?_
                            refine At.te ?_
                            cases hF
                            exact At.en a451 rfl (sc rfl (sc rfl (sc rfl (sc rfl sn)))) (Turn.picks [0, 1, 2, 3] rfl rfl)
                      · clear h488
                        rintro a472
                        refine At.be ?_
                        refine At.bn ?_
                        refine At.tn ?_
                        refine Wk.region ?_
                        refine Wo.od (o_bi rfl rfl (bin_add _ _ _)) rfl ?_
                        refine Wo.od (o_mv rfl) rfl ?_
                        refine Wo.nil ?_
                        cases hF
                        exact At.en a472 rfl (sc rfl (sc rfl (sc rfl (sc rfl sn)))) (Turn.picks [0, 1, 2, 3] rfl rfl)
                    · refine Wk.condF rfl h432 ?_
                      refine Wk.exit ?_
                      refine At.te ?_
                      cases hF
                      exact At.en a367 rfl (sc rfl (sc rfl sn)) (Turn.picks [1, 2, 3] rfl rfl)
                  · clear h490
                    rintro a431
                    refine At.be ?_
                    refine At.bn ?_
                    cases hF
                    exact At.en a431 rfl (sc rfl (sc rfl sn)) (Turn.picks [0, 1, 2] rfl rfl)
                · refine Wk.condF rfl h305 ?_
                  refine Wk.skip ?_
                  refine At.bn ?_
                  cases hF
                  exact At.en a19 rfl (sc rfl (sc rfl sn)) (Turn.picks [3, 0, 2] rfl rfl)
  · clear h492
    obtain ⟨v256, l257, n259⟩ := r493
    rintro a258
    refine At.tn ?_
    refine Wk.seq ?_
    refine Wk.region ?_
    refine Wo.od (o_ld (k := 0) t25 rfl rfl rfl) rfl ?_
    refine Wo.o0 (o_st (k := 2) t25 rfl rfl rfl rfl rfl) ?_
    refine Wo.nil ?_
    refine At.tn ?_
    refine Wk.ret ?_
    cases hF
    exact At.ret (.cell (k := 2) t25 rfl rfl rfl .nil) fun m' hm => ⟨(a258, n259), rfl, (Turn.picks [1] rfl rfl) m' hm⟩

theorem f28_ok (n : Nat) (x1 : Nat) (x2 : Nat) (x3 : Nat) (l4 : List (Nat × Nat)) (x8 : Nat) (x9 : Nat) (x10 : Int) (x11 : Int) (x12 : Int) (x13 : Nat) (x14 : Nat) (x15 : Int) (x16 : Int) (x17 : Int) (a5 : Option Addr) (c6 : Nat) (r : Int × List (Int × Int) × Int × List (Int × Int) × Int × List (Int × Int)) (hF : F28 n x1 x2 x3 l4 x8 x9 x10 x11 x12 x13 x14 x15 x16 x17 = some r) (m : AMem) (h7 : Rd m a5 c6 2 l4.length (l4.map (eP (eN .u8) (eN .u8)))) :
    CallA E18w 28 [.agg #[.int .u8 ((x1 : Nat) : Int), .int .u8 ((x2 : Nat) : Int), .int .u16 ((x3 : Nat) : Int), .slice a5 l4.length c6], .agg #[.int .u8 ((x8 : Nat) : Int), .int .u8 ((x9 : Nat) : Int), .int .i64 x10, .int .i64 x11, .int .i64 x12, .int .u8 ((x13 : Nat) : Int), .int .u8 ((x14 : Nat) : Int), .int .i64 x15, .int .i64 x16, .int .i64 x17]] m (fun v m' => ∃ x : Option Addr × Nat × Option Addr × Nat × Option Addr × Nat, v = .agg #[.int .i64 r.1, .slice x.1 x.2.1 x.2.1, .int .i64 r.2.2.1, .slice x.2.2.1 x.2.2.2.1 x.2.2.2.1, .int .i64 r.2.2.2.2.1, .slice x.2.2.2.2.1 x.2.2.2.2.2 x.2.2.2.2.2] ∧ Hp m m' [.sl x.1 2 x.2.1 (r.2.1.map (eP (eI .i64) (eI .i64))), .sl x.2.2.1 2 x.2.2.2.1 (r.2.2.2.1.map (eP (eI .i64) (eI .i64))), .sl x.2.2.2.2.1 2 x.2.2.2.2.2 (r.2.2.2.2.2.map (eP (eI .i64) (eI .i64)))]) := by
  unfold F28 at hF
  refine call_wk (m0 := m) (ps := [.rd a5 c6 2 l4.length (l4.map (eP (eN .u8) (eN .u8)))]) (N := 20) (rs := [.cell 4 59]) rfl Tryd.func28 rfl rfl rfl ((Hp.start m).inn rfl h7) ?_
  refine Wk.seq ?_
  refine Wk.region ?_
  refine Wo.x (o_bx rfl) gn rfl fun b18 => ?_
  refine Wo.x (o_bx rfl) gn rfl fun b19 => ?_
  refine Wo.x (o_al z59 rfl) gn rfl fun b20 => ?_
  refine Wo.nil ?_
  refine At.tn ?_
  refine Wk.seq ?_
  refine Wk.region ?_
  refine Wo.od (o_ld (k := 2) t55 rfl rfl rfl) rfl ?_
  obtain ⟨⟨r22, l23⟩, h21, hF⟩ := ob_some hF
  refine Wo.x (o_cl rfl rfl (fun m hm => f40_ok n x1 x2 x3 l4 a5 c6 _ h21 m (hm.rd (k := 3) rfl (.rd _ _ _ _ _))) fun _ => rfl) gn rfl ?_
  rintro ⟨a24, n25⟩
  refine Wo.len (k := 0) (xs := l23) rfl ?_
  rintro rfl
  refine Wo.x (o_al z25 rfl) gn rfl fun b26 => ?_
  refine Wo.o0 (o_st (k := 0) t25 rfl rfl rfl rfl rfl) ?_
  refine Wo.nil ?_
  refine At.tn ?_
  refine Wk.seq ?_
  refine Wk.region ?_
  refine Wo.od (o_ia (r := ptr b19 0) rfl rfl (ia_c ar58 (i := 0) (by decide))) rfl ?_
  refine Wo.od (o_ld (k := 3) t57 rfl rfl rfl) rfl ?_
  refine Wo.od (o_ld (k := 0) t25 rfl rfl rfl) rfl ?_
  obtain ⟨⟨r28, l29⟩, h27, hF⟩ := ob_some hF
  refine Wo.x (o_cl rfl rfl (fun m hm => f65_ok n x8 x9 x10 x11 x12 r22 l23 a24 l23.length _ h27 m (hm.rd (k := 1) rfl (.sl _ _ _ _))) fun _ => rfl) gn rfl ?_
  rintro ⟨a30, n31⟩
  refine Wo.len (k := 0) (xs := l29) rfl ?_
  rintro rfl
  refine Wo.x (o_al z25 rfl) gn rfl fun b32 => ?_
  refine Wo.o0 (o_st (k := 0) t25 rfl rfl rfl rfl rfl) ?_
  refine Wo.nil ?_
  refine At.tn ?_
  refine Wk.seq ?_
  refine Wk.drawc (prs := [(0, 5), (1, 5)]) (by kernel_rfl) ?_
  refine Wn.od (o_ld (k := 2) t25 rfl rfl rfl) rfl ?_
  refine Wn.od (o_ld (k := 0) t25 rfl rfl rfl) rfl ?_
  refine Wn.od (o_ia (r := ptr b19 5) rfl rfl (ia_c ar58 (i := 1) (by decide))) rfl ?_
  refine Wn.od (o_ld (k := 5) t57 rfl rfl rfl) rfl ?_
  refine Wn.od (o_ld (k := 0) t25 rfl rfl rfl) rfl ?_
  obtain ⟨⟨r34, l35⟩, h33, hF⟩ := ob_some hF
  refine Wn.c (o_ce rfl rfl (fun m hm => f65_ok n x13 x14 x15 x16 x17 r28 l29 a30 l29.length _ h33 m (hm.rd (k := 1) rfl (.sl _ _ _ _))) fun _ => rfl) gn rfl ?_
  rintro ⟨a36, n37⟩
  refine Wn.len (k := 0) (xs := l35) rfl ?_
  rintro rfl
  refine Wn.od (o_bd rfl z59 rfl (bd_s bs59 rfl rfl rfl)) rfl ?_
  refine Wn.o0 (o_st (k := 5) t59 rfl rfl rfl rfl rfl) ?_
  refine Wn.nil (fun m hm => OkP.all rfl) ?_
  refine At.tn ?_
  refine Wk.ret ?_
  cases hF
  exact At.ret (.cell (k := 5) t59 rfl rfl rfl .nil) fun m' hm => ⟨(a24, l23.length, a30, l29.length, a36, l35.length), rfl, (Turn.picks [4, 2, 0] rfl rfl) m' hm⟩

theorem f94_ok (n : Nat) (x1 : Int)  (r : Bool) (hF : F94 n x1 = some r) (m : AMem)  :
    CallA E18w 94 [.int .i64 x1] m (fun v m' => ∃ x : Unit, v = .bool r ∧ Hp m m' []) := by
  unfold F94 at hF
  refine call_wk (m0 := m) (ps := []) (N := 6) (rs := [.tmp 2]) rfl Tryd.func94 rfl rfl rfl (Hp.start m) ?_
  refine Wk.seq ?_
  refine Wk.region ?_
  refine Wo.od (o_as rfl) rfl ?_
  refine Wo.nil ?_
  refine At.tn ?_
  refine Wk.seq ?_
  refine Wk.region ?_
  refine Wo.od (o_mv rfl) rfl ?_
  refine Wo.od (o_mv rfl) rfl ?_
  refine Wo.od (o_bi rfl rfl (ib_neq _ _)) rfl ?_
  refine Wo.od (o_as rfl) rfl ?_
  refine Wo.nil ?_
  refine At.tn ?_
  refine Wk.ret ?_
  cases hF
  exact At.ret (.tmp rfl .nil) fun m' hm => ⟨(), rfl, (Turn.picks [] rfl rfl) m' hm⟩

theorem f81_ok (n : Nat) (x1 : Int) (x2 : Int)  (r : Int) (hF : F81 n x1 x2 = some r) (m : AMem)  :
    CallA E18w 81 [.int .i64 x1, .int .i64 x2] m (fun v m' => ∃ x : Unit, v = .int .i64 r ∧ Hp m m' []) := by
  unfold F81 at hF
  refine call_wk (m0 := m) (ps := []) (N := 20) (rs := [.tmp 4]) rfl Tryd.func81 rfl rfl rfl (Hp.start m) ?_
  refine Wk.seq ?_
  refine Wk.region ?_
  refine Wo.od (o_as rfl) rfl ?_
  refine Wo.nil ?_
  refine At.tn ?_
  refine Wk.seq ?_
  refine Wk.region ?_
  refine Wo.od (o_mv rfl) rfl ?_
  obtain ⟨r4, h3, hF⟩ := ob_some hF
  refine Wo.x (o_cl rfl rfl (fun m hm => f94_ok n x1  _ h3 m ) fun _ => rfl) gn rfl ?_
  rintro ⟨⟩
  refine Wo.od (o_as rfl) rfl ?_
  refine Wo.nil ?_
  refine At.tn ?_
  refine Wk.seq ?_
  refine Wk.region ?_
  refine Wo.od (o_mv rfl) rfl ?_
  obtain ⟨r6, h5, hF⟩ := ob_some hF
  refine Wo.x (o_cl rfl rfl (fun m hm => f94_ok n x2  _ h5 m ) fun _ => rfl) gn rfl ?_
  rintro ⟨⟩
  refine Wo.od (o_as rfl) rfl ?_
  refine Wo.nil ?_
  refine At.tn ?_
  refine Wk.seq ?_
  refine Wk.seq ?_
  refine Wk.region ?_
  refine Wo.od (o_mv rfl) rfl ?_
  refine Wo.nil ?_
  refine At.tn ?_
  rcases br_some hF with ⟨h7, hF⟩ | ⟨h7, hF⟩
  · refine Wk.condT rfl h7 ?_
    refine Wk.seq ?_
    refine Wk.seq ?_
    refine Wk.region ?_
    refine Wo.od (o_mv rfl) rfl ?_
    refine Wo.nil ?_
    refine At.tn ?_
    rcases br_some hF with ⟨h8, hF⟩ | ⟨h8, hF⟩
    · refine Wk.condT rfl h8 ?_
      refine Wk.seq ?_
      refine Wk.region ?_
      refine Wo.od (o_as rfl) rfl ?_
      refine Wo.nil ?_
      refine At.tn ?_
      refine Wk.ret ?_
      refine At.tr ?_
      refine At.tr ?_
      cases hF
      exact At.ret (.tmp rfl .nil) fun m' hm => ⟨(), rfl, (Turn.picks [] rfl rfl) m' hm⟩
    · refine Wk.condF rfl h8 ?_
      refine Wk.skip ?_
      refine At.tn ?_
      refine Wk.seq ?_
      refine Wk.region ?_
      refine Wo.od (o_as rfl) rfl ?_
      refine Wo.nil ?_
      refine At.tn ?_
      refine Wk.ret ?_
      refine At.tr ?_
      cases hF
      exact At.ret (.tmp rfl .nil) fun m' hm => ⟨(), rfl, (Turn.picks [] rfl rfl) m' hm⟩
  · refine Wk.condF rfl h7 ?_
    refine Wk.skip ?_
    refine At.tn ?_
    refine Wk.seq ?_
    refine Wk.seq ?_
    refine Wk.region ?_
    refine Wo.od (o_mv rfl) rfl ?_
    refine Wo.nil ?_
    refine At.tn ?_
    rcases br_some hF with ⟨h9, hF⟩ | ⟨h9, hF⟩
    · refine Wk.condT rfl h9 ?_
      refine Wk.seq ?_
      refine Wk.region ?_
      refine Wo.od (o_as rfl) rfl ?_
      refine Wo.nil ?_
      refine At.tn ?_
      refine Wk.ret ?_
      refine At.tr ?_
      cases hF
      exact At.ret (.tmp rfl .nil) fun m' hm => ⟨(), rfl, (Turn.picks [] rfl rfl) m' hm⟩
    · refine Wk.condF rfl h9 ?_
      refine Wk.skip ?_
      refine At.tn ?_
      refine Wk.seq ?_
      refine Wk.seq ?_
      refine Wk.region ?_
      refine Wo.od (o_mv rfl) rfl ?_
      refine Wo.od (o_mv rfl) rfl ?_
      refine Wo.od (o_bi rfl rfl (bin_lss _ _ _)) rfl ?_
      refine Wo.nil ?_
      refine At.tn ?_
      rcases br_some hF with ⟨h10, hF⟩ | ⟨h10, hF⟩
      · refine Wk.condT rfl h10 ?_
        refine Wk.seq ?_
        refine Wk.region ?_
        refine Wo.od (o_as rfl) rfl ?_
        refine Wo.nil ?_
        refine At.tn ?_
        refine Wk.ret ?_
        refine At.tr ?_
        cases hF
        exact At.ret (.tmp rfl .nil) fun m' hm => ⟨(), rfl, (Turn.picks [] rfl rfl) m' hm⟩
      · refine Wk.condF rfl h10 ?_
        refine Wk.skip ?_
        refine At.tn ?_
        refine Wk.seq ?_
        refine Wk.seq ?_
        refine Wk.region ?_
        refine Wo.od (o_mv rfl) rfl ?_
        refine Wo.od (o_mv rfl) rfl ?_
        refine Wo.od (o_bi rfl rfl (bin_gtr _ _ _)) rfl ?_
        refine Wo.nil ?_
        refine At.tn ?_
        rcases br_some hF with ⟨h11, hF⟩ | ⟨h11, hF⟩
        · refine Wk.condT rfl h11 ?_
          refine Wk.seq ?_
          refine Wk.region ?_
          refine Wo.od (o_as rfl) rfl ?_
          refine Wo.nil ?_
          refine At.tn ?_
          refine Wk.ret ?_
          refine At.tr ?_
          cases hF
          exact At.ret (.tmp rfl .nil) fun m' hm => ⟨(), rfl, (Turn.picks [] rfl rfl) m' hm⟩
        · refine Wk.condF rfl h11 ?_
          refine Wk.skip ?_
          refine At.tn ?_
          refine Wk.seq ?_
          refine Wk.region ?_
          refine Wo.od (o_as rfl) rfl ?_
          refine Wo.nil ?_
          refine At.tn ?_
          refine Wk.ret ?_
          cases hF
          exact At.ret (.tmp rfl .nil) fun m' hm => ⟨(), rfl, (Turn.picks [] rfl rfl) m' hm⟩

theorem f64_ok (n : Nat) (l1 : List (Int)) (l5 : List (Int)) (a2 : Option Addr) (c3 : Nat) (a6 : Option Addr) (c7 : Nat) (r : Int) (hF : F64 n l1 l5 = some r) (m : AMem) (h4 : Rd m a2 c3 1 l1.length (l1.map (eI .i64))) (h8 : Rd m a6 c7 1 l5.length (l5.map (eI .i64))) :
    CallA E18w 64 [.slice a2 l1.length c3, .slice a6 l5.length c7] m (fun v m' => ∃ x : Unit, v = .int .i64 r ∧ Hp m m' []) := by
  unfold F64 at hF
  refine call_wk (m0 := m) (ps := [.rd a6 c7 1 l5.length (l5.map (eI .i64)), .rd a2 c3 1 l1.length (l1.map (eI .i64))]) (N := 36) (rs := [.tmp 4]) rfl Tryd.func64 rfl rfl rfl (((Hp.start m).inn rfl h4).inn rfl h8) ?_
  refine Wk.seq ?_
  refine Wk.region ?_
  refine Wo.od (o_as rfl) rfl ?_
  refine Wo.nil ?_
  refine At.tn ?_
  refine Wk.seq ?_
  refine Wk.seq ?_
  refine Wk.region ?_
  refine Wo.od (o_mv rfl) rfl ?_
  refine Wo.od (o_ln (k := 1) u39 rfl rfl (.inl rfl)) rfl ?_
  refine Wo.od (o_mv rfl) rfl ?_
  refine Wo.nil ?_
  refine At.tn ?_
  refine Wk.block ?_
  obtain ⟨r44, h43, hF⟩ := ob_some hF
  refine Wk.cut (G := (fun (r : (Int) ⊕ (Unit)) (g : Unit) => match r, g with | .inl v27, _ => ⟨.ret, [(4, .int .i64 v27)], []⟩ | .inr _, _ => ⟨(.exit 0), [(0, .slice a2 l1.length c3), (1, .slice a6 l5.length c7)], [.rd a2 c3 1 l1.length (l1.map (eI .i64)), .rd a6 c7 1 l5.length (l5.map (eI .i64))]⟩) r44) ?_ ?_
  · refine Wk.weak (fs' := [(0, .slice a2 l1.length c3), (1, .slice a6 l5.length c7), (9, .slice a2 l1.length c3), (10, .int .i64 (l1.length : Int)), (11, .int .i64 0)]) (ps' := [.rd a2 c3 1 l1.length (l1.map (eI .i64)), .rd a6 c7 1 l5.length (l5.map (eI .i64))]) (sc rfl (sc rfl (sc rfl (sc rfl (sc rfl sn))))) (Turn.picks [1, 0] rfl rfl) ?_
    refine Wk.loop (σ := Int) (ρ := (Int) ⊕ (Unit)) (γ := Unit) (δ := fun _ => Unit) _ (fun (s : Int) (g : Unit) => match s, g with | v10, _ => ⟨.normal, [(0, .slice a2 l1.length c3), (1, .slice a6 l5.length c7), (9, .slice a2 l1.length c3), (10, .int .i64 (l1.length : Int)), (11, .int .i64 v10)], [.rd a2 c3 1 l1.length (l1.map (eI .i64)), .rd a6 c7 1 l5.length (l5.map (eI .i64))]⟩) (fun (r : (Int) ⊕ (Unit)) (g : Unit) => match r, g with | .inl v27, _ => ⟨.ret, [(4, .int .i64 v27)], []⟩ | .inr _, _ => ⟨(.exit 0), [(0, .slice a2 l1.length c3), (1, .slice a6 l5.length c7)], [.rd a2 c3 1 l1.length (l1.map (eI .i64)), .rd a6 c7 1 l5.length (l5.map (eI .i64))]⟩) ?_ (fun _ _ => rfl) (fun r d => by rcases r with _ | _ <;> (intro e; cases e)) _ _ _ h43 ()
    clear hF h43
    rintro v10 ⟨⟩ r hF
    unfold L64_1 at hF
    refine Wk.seq ?_
    refine Wk.region ?_
    refine Wo.od (o_bi rfl rfl (bin_lss _ _ _)) rfl ?_
    refine Wo.nil ?_
    refine At.tn ?_
    refine Wk.seq ?_
    rcases br_some hF with ⟨h28, hF⟩ | ⟨h28, hF⟩
    · refine Wk.condT rfl h28 ?_
      refine Wk.skip ?_
      refine At.tn ?_
      refine Wk.seq ?_
      refine Wk.block ?_
      refine Wk.seq ?_
      refine Wk.region ?_
      refine Wo.od (o_mv rfl) rfl ?_
      obtain ⟨h29, hF⟩ := gd_some hF
      replace h29 := inB_some h29
      refine Wo.openr (k := 0) rfl (pos_of h29) ?_
      rintro b30 o31 rfl
      refine Wo.og (o_ixs s39 rfl rfl h29) gn rfl ?_
      obtain ⟨x32, h33, hF⟩ := ob_some hF
      refine Wo.od (o_ldr (k := 0) t3 rfl rfl (map_at h33) rfl rfl) rfl ?_
      refine Wo.od (o_as rfl) rfl ?_
      refine Wo.od (o_as rfl) rfl ?_
      refine Wo.nil ?_
      refine At.tn ?_
      refine Wk.seq ?_
      refine Wk.seq ?_
      refine Wk.region ?_
      refine Wo.od (o_mv rfl) rfl ?_
      refine Wo.od (o_mv rfl) rfl ?_
      refine Wo.od (o_ln (k := 2) u39 rfl rfl (.inl rfl)) rfl ?_
      refine Wo.od (o_bi rfl rfl (bin_geq _ _ _)) rfl ?_
      refine Wo.nil ?_
      refine At.tn ?_
      rcases br_some hF with ⟨h34, hF⟩ | ⟨h34, hF⟩
      · refine Wk.condT rfl h34 ?_
        refine Wk.seq ?_
        refine Wk.region ?_
        refine Wo.od (o_as rfl) rfl ?_
        refine Wo.nil ?_
        refine At.tn ?_
        refine Wk.ret ?_
        refine At.tr ?_
        refine At.br ?_
        refine At.tr ?_
        cases hF
        exact At.en () rfl (sc rfl sn) (Turn.picks [] rfl rfl)
      · refine Wk.condF rfl h34 ?_
        refine Wk.skip ?_
        refine At.tn ?_
        refine Wk.seq ?_
        refine Wk.region ?_
        refine Wo.od (o_mv rfl) rfl ?_
        refine Wo.od (o_mv rfl) rfl ?_
        obtain ⟨h35, hF⟩ := gd_some hF
        replace h35 := inB_some h35
        refine Wo.openr (k := 2) rfl (pos_of h35) ?_
        rintro b36 o37 rfl
        refine Wo.og (o_ixs s39 rfl rfl h35) gn rfl ?_
        obtain ⟨x38, h39, hF⟩ := ob_some hF
        refine Wo.od (o_ldr (k := 0) t3 rfl rfl (map_at h39) rfl rfl) rfl ?_
        refine Wo.od (o_as rfl) rfl ?_
        refine Wo.nil ?_
        refine At.tn ?_
        refine Wk.seq ?_
        refine Wk.region ?_
        refine Wo.od (o_mv rfl) rfl ?_
        refine Wo.od (o_mv rfl) rfl ?_
        obtain ⟨r41, h40, hF⟩ := ob_some hF
        refine Wo.x (o_cl rfl rfl (fun m hm => f81_ok n x32 x38  _ h40 m ) fun _ => rfl) gn rfl ?_
        rintro ⟨⟩
        refine Wo.od (o_as rfl) rfl ?_
        refine Wo.nil ?_
        refine At.tn ?_
        refine Wk.seq ?_
        refine Wk.region ?_
        refine Wo.od (o_mv rfl) rfl ?_
        refine Wo.od (o_bi rfl rfl (ib_neq _ _)) rfl ?_
        refine Wo.nil ?_
        refine At.tn ?_
        rcases br_some hF with ⟨h42, hF⟩ | ⟨h42, hF⟩
        · refine Wk.condT rfl h42 ?_
          refine Wk.seq ?_
          refine Wk.region ?_
          refine Wo.od (o_mv rfl) rfl ?_
          refine Wo.od (o_as rfl) rfl ?_
          refine Wo.nil ?_
          refine At.tn ?_
          refine Wk.ret ?_
          refine At.br ?_
          refine At.tr ?_
          cases hF
          exact At.en () rfl (sc rfl sn) (Turn.picks [] rfl rfl)
        · refine Wk.condF rfl h42 ?_
          refine Wk.skip ?_
          refine At.bn ?_
          refine At.tn ?_
          refine Wk.region ?_
          refine Wo.od (o_bi rfl rfl (bin_add _ _ _)) rfl ?_
          refine Wo.od (o_mv rfl) rfl ?_
          refine Wo.nil ?_
          cases hF
          exact At.en () rfl (sc rfl (sc rfl (sc rfl (sc rfl (sc rfl sn))))) (Turn.picks [2, 3] rfl rfl)
    · refine Wk.condF rfl h28 ?_
      refine Wk.exit ?_
      refine At.te ?_
      cases hF
      exact At.en () rfl (sc rfl (sc rfl sn)) (Turn.picks [0, 1] rfl rfl)
  · clear h43
    rcases r44 with v27 | _
    · rintro ⟨⟩
      refine At.br ?_
      refine At.tr ?_
      have hr := Option.some.inj hF
      subst r
      exact At.ret (.tmp rfl .nil) fun m' hm => ⟨(), rfl, (Turn.picks [] rfl rfl) m' hm⟩
    · rintro ⟨⟩
      refine At.be ?_
      refine At.tn ?_
      refine Wk.seq ?_
      refine Wk.seq ?_
      refine Wk.region ?_
      refine Wo.od (o_mv rfl) rfl ?_
      refine Wo.od (o_ln (k := 0) u39 rfl rfl (.inl rfl)) rfl ?_
      refine Wo.od (o_mv rfl) rfl ?_
      refine Wo.od (o_ln (k := 1) u39 rfl rfl (.inl rfl)) rfl ?_
      refine Wo.od (o_bi rfl rfl (bin_lss _ _ _)) rfl ?_
      refine Wo.nil ?_
      refine At.tn ?_
      rcases br_some hF with ⟨h45, hF⟩ | ⟨h45, hF⟩
      · refine Wk.condT rfl h45 ?_
        refine Wk.seq ?_
        refine Wk.region ?_
        refine Wo.od (o_as rfl) rfl ?_
        refine Wo.nil ?_
        refine At.tn ?_
        refine Wk.ret ?_
        refine At.tr ?_
        cases hF
        exact At.ret (.tmp rfl .nil) fun m' hm => ⟨(), rfl, (Turn.picks [] rfl rfl) m' hm⟩
      · refine Wk.condF rfl h45 ?_
        refine Wk.skip ?_
        refine At.tn ?_
        refine Wk.seq ?_
        refine Wk.region ?_
        refine Wo.od (o_as rfl) rfl ?_
        refine Wo.nil ?_
        refine At.tn ?_
        refine Wk.ret ?_
        cases hF
        exact At.ret (.tmp rfl .nil) fun m' hm => ⟨(), rfl, (Turn.picks [] rfl rfl) m' hm⟩

theorem f23_ok (n : Nat) (x1 : Int) (l2 : List (Int × Int)) (a3 : Option Addr) (c4 : Nat) (r : Int) (hF : F23 n x1 l2 = some r) (m : AMem) (h5 : Rd m a3 c4 2 l2.length (l2.map (eP (eI .i64) (eI .i64)))) :
    CallA E18w 23 [.agg #[.int .i64 x1, .slice a3 l2.length c4]] m (fun v m' => ∃ x : Unit, v = .int .i64 r ∧ Hp m m' []) := by
  unfold F23 at hF
  refine call_wk (m0 := m) (ps := [.rd a3 c4 2 l2.length (l2.map (eP (eI .i64) (eI .i64)))]) (N := 53) (rs := [.tmp 2]) rfl Tryd.func23 rfl rfl rfl ((Hp.start m).inn rfl h5) ?_
  refine Wk.seq ?_
  refine Wk.region ?_
  refine Wo.x (o_bx rfl) gn rfl fun b6 => ?_
  refine Wo.od (o_as rfl) rfl ?_
  refine Wo.nil ?_
  refine At.tn ?_
  refine Wk.seq ?_
  refine Wk.seq ?_
  obtain ⟨v17, h20, hF⟩ := ob_some hF
  refine Wk.cut (G := (fun (r : Bool) (g : Unit) => match r, g with | v17, _ => ⟨.normal, [(1, ptr b6 0), (19, .bool v17)], [.obj b6 (.cells [.int .i64 x1, .slice a3 l2.length c4] .own), .rd a3 c4 2 l2.length (l2.map (eP (eI .i64) (eI .i64)))]⟩) v17) ?_ ?_
  · clear hF
    revert v17
    intro r hF
    refine Wk.region ?_
    refine Wo.od (o_fa (r := ptr b6 0) rfl (fa25_0 _ _)) rfl ?_
    refine Wo.od (o_ld (k := 0) t3 rfl rfl rfl) rfl ?_
    refine Wo.od (o_bi rfl rfl (bin_lss _ _ _)) rfl ?_
    refine Wo.od (o_mv rfl) rfl ?_
    rcases br_some hF with ⟨h18, hF⟩ | ⟨h18, hF⟩
    · refine Wo.s (gg rfl rfl (eTF h18)) rfl ?_
      refine Wo.s (gg rfl rfl (eTF h18)) rfl ?_
      refine Wo.s (gg rfl rfl (eTF h18)) rfl ?_
      refine Wo.od (o_pt rfl h18 rfl) rfl ?_
      refine Wo.od (o_mv rfl) rfl ?_
      refine Wo.s (gg rfl rfl rfl) rfl ?_
      refine Wo.s (gg rfl rfl rfl) rfl ?_
      refine Wo.s (gg rfl rfl rfl) rfl ?_
      refine Wo.s (gg rfl rfl rfl) rfl ?_
      refine Wo.od (o_pT rfl rfl) rfl ?_
      refine Wo.nil ?_
      cases hF
      exact At.en () rfl (sc rfl (sc rfl sn)) (Turn.picks [0, 1] rfl rfl)
    · refine Wo.og (o_fa (r := ptr b6 0) rfl (fa25_0 _ _)) (gg rfl rfl (eFF h18)) rfl ?_
      refine Wo.og (o_ld (k := 0) t3 rfl rfl rfl) (gg rfl rfl (eFF h18)) rfl ?_
      refine Wo.og (o_bi rfl rfl (bin_gtr _ _ _)) (gg rfl rfl (eFF h18)) rfl ?_
      refine Wo.od (o_pf rfl h18 rfl) rfl ?_
      refine Wo.od (o_mv rfl) rfl ?_
      rcases br_some hF with ⟨h19, hF⟩ | ⟨h19, hF⟩
      · refine Wo.s (gg rfl rfl (eTF h19)) rfl ?_
        refine Wo.s (gg rfl rfl (eTF h19)) rfl ?_
        refine Wo.s (gg rfl rfl (eTF h19)) rfl ?_
        refine Wo.s (gg rfl rfl (eTF h19)) rfl ?_
        refine Wo.od (o_pt rfl h19 rfl) rfl ?_
        refine Wo.nil ?_
        cases hF
        exact At.en () rfl (sc rfl (sc rfl sn)) (Turn.picks [0, 1] rfl rfl)
      · refine Wo.og (o_fa (r := ptr b6 1) rfl (fa25_1 _ _)) (gg rfl rfl (eFF h19)) rfl ?_
        refine Wo.og (o_ld (k := 0) t23 rfl rfl rfl) (gg rfl rfl (eFF h19)) rfl ?_
        refine Wo.og (o_ln (k := 1) u23 rfl rfl (.inl rfl)) (gg rfl rfl (eFF h19)) rfl ?_
        refine Wo.og (o_bi rfl rfl (bin_gtr _ _ _)) (gg rfl rfl (eFF h19)) rfl ?_
        refine Wo.od (o_pf rfl h19 rfl) rfl ?_
        refine Wo.nil ?_
        cases hF
        exact At.en () rfl (sc rfl (sc rfl sn)) (Turn.picks [0, 1] rfl rfl)
  · clear h20
    rintro ⟨⟩
    refine At.tn ?_
    rcases br_some hF with ⟨h22, hF⟩ | ⟨h22, hF⟩
    · refine Wk.condT rfl h22 ?_
      refine Wk.seq ?_
      refine Wk.region ?_
      refine Wo.od (o_as rfl) rfl ?_
      refine Wo.nil ?_
      refine At.tn ?_
      refine Wk.ret ?_
      refine At.tr ?_
      cases hF
      exact At.ret (.tmp rfl .nil) fun m' hm => ⟨(), rfl, (Turn.picks [] rfl rfl) m' hm⟩
    · refine Wk.condF rfl h22 ?_
      refine Wk.skip ?_
      refine At.tn ?_
      refine Wk.seq ?_
      refine Wk.region ?_
      refine Wo.od (o_bd rfl z26 rfl (bd_s bs26 rfl rfl rfl)) rfl ?_
      refine Wo.x (o_al z26 rfl) gn rfl fun b23 => ?_
      refine Wo.o0 (o_st (k := 0) t26 rfl rfl rfl rfl rfl) ?_
      refine Wo.nil ?_
      refine At.tn ?_
      refine Wk.seq ?_
      refine Wk.seq ?_
      refine Wk.region ?_
      refine Wo.od (o_fa (r := ptr b6 1) rfl (fa25_1 _ _)) rfl ?_
      refine Wo.od (o_ld (k := 1) t23 rfl rfl rfl) rfl ?_
      refine Wo.od (o_ln (k := 2) u23 rfl rfl (.inl rfl)) rfl ?_
      refine Wo.od (o_mv rfl) rfl ?_
      refine Wo.nil ?_
      refine At.tn ?_
      refine Wk.block ?_
      obtain ⟨r246, h245, hF⟩ := ob_some hF
      refine Wk.cut (G := (fun (r : (Unit) ⊕ (Unit)) (g : Unit) => match r, g with | .inl _, _ => ⟨.ret, [(2, .int .i64 180)], []⟩ | .inr _, _ => ⟨(.exit 0), [], []⟩) r246) ?_ ?_
      · refine Wk.weak (fs' := [(1, ptr b6 0), (3, ptr b23 0), (22, .slice a3 l2.length c4), (23, .int .i64 (l2.length : Int)), (24, .int .i64 0)]) (ps' := [.obj b6 (.cells [.int .i64 x1, .slice a3 l2.length c4] .own), .rd a3 c4 2 l2.length (l2.map (eP (eI .i64) (eI .i64))), .obj b23 (.cells [.int .i64 (-1), .int .i64 (-1)] .own)]) (sc rfl (sc rfl (sc rfl (sc rfl (sc rfl sn))))) (Turn.picks [1, 2, 0] rfl rfl) ?_
        refine Wk.loop (σ := Int × Int × Int) (ρ := (Unit) ⊕ (Unit)) (γ := Unit) (δ := fun _ => Unit) _ (fun (s : Int × Int × Int) (g : Unit) => match s, g with | (v97, v98, v99), _ => ⟨.normal, [(1, ptr b6 0), (3, ptr b23 0), (22, .slice a3 l2.length c4), (23, .int .i64 (l2.length : Int)), (24, .int .i64 v99)], [.obj b6 (.cells [.int .i64 x1, .slice a3 l2.length c4] .own), .rd a3 c4 2 l2.length (l2.map (eP (eI .i64) (eI .i64))), .obj b23 (.cells [.int .i64 v97, .int .i64 v98] .own)]⟩) (fun (r : (Unit) ⊕ (Unit)) (g : Unit) => match r, g with | .inl _, _ => ⟨.ret, [(2, .int .i64 180)], []⟩ | .inr _, _ => ⟨(.exit 0), [], []⟩) ?_ (fun _ _ => rfl) (fun r d => by rcases r with _ | _ <;> (intro e; cases e)) _ _ _ h245 ()
        clear hF h245
        rintro ⟨v97, v98, v99⟩ ⟨⟩ r hF
        unfold L23_1 at hF
        refine Wk.seq ?_
        refine Wk.region ?_
        refine Wo.od (o_bi rfl rfl (bin_lss _ _ _)) rfl ?_
        refine Wo.nil ?_
        refine At.tn ?_
        refine Wk.seq ?_
        rcases br_some hF with ⟨h174, hF⟩ | ⟨h174, hF⟩
        · refine Wk.condT rfl h174 ?_
          refine Wk.skip ?_
          refine At.tn ?_
          refine Wk.seq ?_
          refine Wk.block ?_
          refine Wk.seq ?_
          refine Wk.region ?_
          obtain ⟨h210, hF⟩ := gd_some hF
          replace h210 := inB_some h210
          refine Wo.openr (k := 1) rfl (pos_of h210) ?_
          rintro b211 o212 rfl
          refine Wo.og (o_ixs s23 rfl rfl h210) gn rfl ?_
          obtain ⟨⟨x213, x214⟩, h215, hF⟩ := ob_some hF
          refine Wo.od (o_ldr (k := 0) t26 rfl rfl (map_at h215) rfl rfl) rfl ?_
          refine Wo.x (o_al z26 rfl) gn rfl fun b216 => ?_
          refine Wo.o0 (o_st (k := 0) t26 rfl rfl rfl rfl rfl) ?_
          refine Wo.nil ?_
          refine At.tn ?_
          refine Wk.seq ?_
          refine Wk.seq ?_
          obtain ⟨v236, h242, hF⟩ := ob_some hF
          refine Wk.cut (G := (fun (r : Bool) (g : Unit) => match r, g with | v236, _ => ⟨.normal, [(1, ptr b6 0), (3, ptr b23 0), (5, ptr b216 0), (22, .slice (some ⟨b211, o212, none⟩) l2.length c4), (23, .int .i64 (l2.length : Int)), (24, .int .i64 v99), (50, .bool v236)], [.obj b6 (.cells [.int .i64 x1, .slice (some ⟨b211, o212, none⟩) l2.length c4] .own), .ro b211 o212 2 l2.length (l2.map (eP (eI .i64) (eI .i64))), .rd (some ⟨b211, o212, none⟩) c4 2 l2.length (l2.map (eP (eI .i64) (eI .i64))), .obj b23 (.cells [.int .i64 v97, .int .i64 v98] .own), .obj b216 (.cells [.int .i64 x213, .int .i64 x214] .own)]⟩) v236) ?_ ?_
          · clear hF
            revert v236
            intro r hF
            refine Wk.draw (by kernel_rfl) ?_
            refine Wo.od (o_ia (r := ptr b216 0) rfl rfl (ia_c ar26 (i := 0) (by decide))) rfl ?_
            refine Wo.od (o_ld (k := 0) t3 rfl rfl rfl) rfl ?_
            refine Wo.od (o_bi rfl rfl (bin_lss _ _ _)) rfl ?_
            refine Wo.od (o_mv rfl) rfl ?_
            rcases br_some hF with ⟨h237, hF⟩ | ⟨h237, hF⟩
            · refine Wo.s (gg rfl rfl (eTF h237)) rfl ?_
              refine Wo.s (gg rfl rfl (eTF h237)) rfl ?_
              refine Wo.s (gg rfl rfl (eTF h237)) rfl ?_
              refine Wo.s (gg rfl rfl (eTF h237)) rfl ?_
              refine Wo.s (gg rfl rfl (eTF h237)) rfl ?_
              refine Wo.od (o_pt rfl h237 rfl) rfl ?_
              refine Wo.od (o_mv rfl) rfl ?_
              refine Wo.s (gg rfl rfl rfl) rfl ?_
              refine Wo.s (gg rfl rfl rfl) rfl ?_
              refine Wo.s (gg rfl rfl rfl) rfl ?_
              refine Wo.s (gg rfl rfl rfl) rfl ?_
              refine Wo.s (gg rfl rfl rfl) rfl ?_
              refine Wo.od (o_pT rfl rfl) rfl ?_
              refine Wo.od (o_mv rfl) rfl ?_
              refine Wo.s (gg rfl rfl rfl) rfl ?_
              refine Wo.s (gg rfl rfl rfl) rfl ?_
              refine Wo.s (gg rfl rfl rfl) rfl ?_
              refine Wo.s (gg rfl rfl rfl) rfl ?_
              refine Wo.od (o_pT rfl rfl) rfl ?_
              refine Wo.nil ?_
              cases hF
              exact At.en () rfl (sc rfl (sc rfl (sc rfl (sc rfl (sc rfl (sc rfl (sc rfl sn))))))) (Turn.picks [2, 1, 3, 4, 0] rfl rfl)
            · refine Wo.og (o_ia (r := ptr b216 0) rfl rfl (ia_c ar26 (i := 0) (by decide))) (gg rfl rfl (eFF h237)) rfl ?_
              refine Wo.og (o_ld (k := 0) t3 rfl rfl rfl) (gg rfl rfl (eFF h237)) rfl ?_
              refine Wo.og (o_ia (r := ptr b216 1) rfl rfl (ia_c ar26 (i := 1) (by decide))) (gg rfl rfl (eFF h237)) rfl ?_
              refine Wo.og (o_ld (k := 0) t3 rfl rfl rfl) (gg rfl rfl (eFF h237)) rfl ?_
              refine Wo.og (o_bi rfl rfl (bin_geq _ _ _)) (gg rfl rfl (eFF h237)) rfl ?_
              refine Wo.od (o_pf rfl h237 rfl) rfl ?_
              refine Wo.od (o_mv rfl) rfl ?_
              rcases br_some hF with ⟨h238, hF⟩ | ⟨h238, hF⟩
              · refine Wo.s (gg rfl rfl (eTF h238)) rfl ?_
                refine Wo.s (gg rfl rfl (eTF h238)) rfl ?_
                refine Wo.s (gg rfl rfl (eTF h238)) rfl ?_
                refine Wo.s (gg rfl rfl (eTF h238)) rfl ?_
                refine Wo.s (gg rfl rfl (eTF h238)) rfl ?_
                refine Wo.od (o_pt rfl h238 rfl) rfl ?_
                refine Wo.od (o_mv rfl) rfl ?_
                refine Wo.s (gg rfl rfl rfl) rfl ?_
                refine Wo.s (gg rfl rfl rfl) rfl ?_
                refine Wo.s (gg rfl rfl rfl) rfl ?_
                refine Wo.s (gg rfl rfl rfl) rfl ?_
                refine Wo.od (o_pT rfl rfl) rfl ?_
                refine Wo.nil ?_
                cases hF
                exact At.en () rfl (sc rfl (sc rfl (sc rfl (sc rfl (sc rfl (sc rfl (sc rfl sn))))))) (Turn.picks [2, 1, 3, 4, 0] rfl rfl)
              · refine Wo.og (o_ia (r := ptr b216 1) rfl rfl (ia_c ar26 (i := 1) (by decide))) (gg rfl rfl (eFF h238)) rfl ?_
                refine Wo.og (o_ld (k := 0) t3 rfl rfl rfl) (gg rfl rfl (eFF h238)) rfl ?_
                refine Wo.og (o_fa (r := ptr b6 0) rfl (fa25_0 _ _)) (gg rfl rfl (eFF h238)) rfl ?_
                refine Wo.og (o_ld (k := 2) t3 rfl rfl rfl) (gg rfl rfl (eFF h238)) rfl ?_
                refine Wo.og (o_bi rfl rfl (bin_geq _ _ _)) (gg rfl rfl (eFF h238)) rfl ?_
                refine Wo.od (o_pf rfl h238 rfl) rfl ?_
                refine Wo.od (o_mv rfl) rfl ?_
                rcases br_some hF with ⟨h239, hF⟩ | ⟨h239, hF⟩
                · refine Wo.s (gg rfl rfl (eTF h239)) rfl ?_
                  refine Wo.s (gg rfl rfl (eTF h239)) rfl ?_
                  refine Wo.s (gg rfl rfl (eTF h239)) rfl ?_
                  refine Wo.s (gg rfl rfl (eTF h239)) rfl ?_
                  refine Wo.od (o_pt rfl h239 rfl) rfl ?_
                  refine Wo.nil ?_
                  cases hF
                  exact At.en () rfl (sc rfl (sc rfl (sc rfl (sc rfl (sc rfl (sc rfl (sc rfl sn))))))) (Turn.picks [2, 1, 3, 4, 0] rfl rfl)
                · refine Wo.og (o_sa (k := 4) ar26 rfl rfl rfl rfl) (gg rfl rfl (eFF h239)) rfl ?_
                  refine Wo.og (o_sa (k := 0) ar26 rfl rfl rfl rfl) (gg rfl rfl (eFF h239)) rfl ?_
                  obtain ⟨r241, h240, hF⟩ := ob_some hF
                  refine Wo.x (o_cl rfl rfl (fun m hm => f64_ok n [v97, v98] [x213, x214] (some ⟨b23, 0, none⟩) 2 (some ⟨b216, 0, none⟩) 2 _ h240 m (hm.rdo (k := 4) (xs := [v97, v98]) (f := eI .i64) rfl rfl rfl rfl (enI .i64)) (hm.rdo (k := 0) (xs := [x213, x214]) (f := eI .i64) rfl rfl rfl rfl (enI .i64))) fun _ => rfl) (gg rfl rfl (eFF h239)) rfl ?_
                  rintro ⟨⟩
                  refine Wo.og (o_bi rfl rfl (bin_geq _ _ _)) (gg rfl rfl (eFF h239)) rfl ?_
                  refine Wo.od (o_pf rfl h239 rfl) rfl ?_
                  refine Wo.nil ?_
                  cases hF
                  exact At.en () rfl (sc rfl (sc rfl (sc rfl (sc rfl (sc rfl (sc rfl (sc rfl sn))))))) (Turn.picks [2, 1, 3, 4, 0] rfl rfl)
          · clear h242
            rintro ⟨⟩
            refine At.tn ?_
            rcases br_some hF with ⟨h244, hF⟩ | ⟨h244, hF⟩
            · refine Wk.condT rfl h244 ?_
              refine Wk.seq ?_
              refine Wk.region ?_
              refine Wo.od (o_as rfl) rfl ?_
              refine Wo.nil ?_
              refine At.tn ?_
              refine Wk.ret ?_
              refine At.tr ?_
              refine At.br ?_
              refine At.tr ?_
              cases hF
              exact At.en () rfl (sc rfl sn) (Turn.picks [] rfl rfl)
            · refine Wk.condF rfl h244 ?_
              refine Wk.skip ?_
              refine At.tn ?_
              refine Wk.region ?_
              refine Wo.od (o_ld (k := 4) t26 rfl rfl rfl) rfl ?_
              refine Wo.o0 (o_st (k := 3) t26 rfl rfl rfl rfl rfl) ?_
              refine Wo.nil ?_
              refine At.bn ?_
              refine At.tn ?_
              refine Wk.region ?_
              refine Wo.od (o_bi rfl rfl (bin_add _ _ _)) rfl ?_
              refine Wo.od (o_mv rfl) rfl ?_
              refine Wo.nil ?_
              cases hF
              exact At.en () rfl (sc rfl (sc rfl (sc rfl (sc rfl (sc rfl sn))))) (Turn.picks [0, 2, 3] rfl rfl)
        · refine Wk.condF rfl h174 ?_
          refine Wk.exit ?_
          refine At.te ?_
          cases hF
          exact At.en () rfl sn (Turn.picks [] rfl rfl)
      · clear h245
        rcases r246 with _ | _
        · rintro ⟨⟩
          refine At.br ?_
          refine At.tr ?_
          cases hF
          exact At.ret (.tmp rfl .nil) fun m' hm => ⟨(), rfl, (Turn.picks [] rfl rfl) m' hm⟩
        · rintro ⟨⟩
          refine At.be ?_
          refine At.tn ?_
          refine Wk.seq ?_
          refine Wk.region ?_
          refine Wo.od (o_as rfl) rfl ?_
          refine Wo.nil ?_
          refine At.tn ?_
          refine Wk.ret ?_
          cases hF
          exact At.ret (.tmp rfl .nil) fun m' hm => ⟨(), rfl, (Turn.picks [] rfl rfl) m' hm⟩

theorem f43_ok (n : Nat) (x1 : Int) (l2 : List (Int × Int)) (a3 : Option Addr) (c4 : Nat) (r : Int) (hF : F43 n x1 l2 = some r) (m : AMem) (h5 : Rd m a3 c4 2 l2.length (l2.map (eP (eI .i64) (eI .i64)))) :
    CallA E18w 43 [.agg #[.int .i64 x1, .slice a3 l2.length c4]] m (fun v m' => ∃ x : Unit, v = .int .i64 r ∧ Hp m m' []) := by
  unfold F43 at hF
  refine call_wk (m0 := m) (ps := [.rd a3 c4 2 l2.length (l2.map (eP (eI .i64) (eI .i64)))]) (N := 87) (rs := [.tmp 2]) rfl Tryd.func43 rfl rfl rfl ((Hp.start m).inn rfl h5) ?_
  refine Wk.seq ?_
  refine Wk.region ?_
  refine Wo.x (o_bx rfl) gn rfl fun b6 => ?_
  refine Wo.od (o_as rfl) rfl ?_
  refine Wo.nil ?_
  refine At.tn ?_
  refine Wk.seq ?_
  refine Wk.seq ?_
  obtain ⟨v17, h20, hF⟩ := ob_some hF
  refine Wk.cut (G := (fun (r : Bool) (g : Unit) => match r, g with | v17, _ => ⟨.normal, [(1, ptr b6 0), (19, .bool v17)], [.obj b6 (.cells [.int .i64 x1, .slice a3 l2.length c4] .own), .rd a3 c4 2 l2.length (l2.map (eP (eI .i64) (eI .i64)))]⟩) v17) ?_ ?_
  · clear hF
    revert v17
    intro r hF
    refine Wk.region ?_
    refine Wo.od (o_fa (r := ptr b6 0) rfl (fa25_0 _ _)) rfl ?_
    refine Wo.od (o_ld (k := 0) t3 rfl rfl rfl) rfl ?_
    refine Wo.od (o_bi rfl rfl (bin_lss _ _ _)) rfl ?_
    refine Wo.od (o_mv rfl) rfl ?_
    rcases br_some hF with ⟨h18, hF⟩ | ⟨h18, hF⟩
    · refine Wo.s (gg rfl rfl (eTF h18)) rfl ?_
      refine Wo.s (gg rfl rfl (eTF h18)) rfl ?_
      refine Wo.s (gg rfl rfl (eTF h18)) rfl ?_
      refine Wo.od (o_pt rfl h18 rfl) rfl ?_
      refine Wo.od (o_mv rfl) rfl ?_
      refine Wo.s (gg rfl rfl rfl) rfl ?_
      refine Wo.s (gg rfl rfl rfl) rfl ?_
      refine Wo.s (gg rfl rfl rfl) rfl ?_
      refine Wo.s (gg rfl rfl rfl) rfl ?_
      refine Wo.od (o_pT rfl rfl) rfl ?_
      refine Wo.nil ?_
      cases hF
      exact At.en () rfl (sc rfl (sc rfl sn)) (Turn.picks [0, 1] rfl rfl)
    · refine Wo.og (o_fa (r := ptr b6 0) rfl (fa25_0 _ _)) (gg rfl rfl (eFF h18)) rfl ?_
      refine Wo.og (o_ld (k := 0) t3 rfl rfl rfl) (gg rfl rfl (eFF h18)) rfl ?_
      refine Wo.og (o_bi rfl rfl (bin_gtr _ _ _)) (gg rfl rfl (eFF h18)) rfl ?_
      refine Wo.od (o_pf rfl h18 rfl) rfl ?_
      refine Wo.od (o_mv rfl) rfl ?_
      rcases br_some hF with ⟨h19, hF⟩ | ⟨h19, hF⟩
      · refine Wo.s (gg rfl rfl (eTF h19)) rfl ?_
        refine Wo.s (gg rfl rfl (eTF h19)) rfl ?_
        refine Wo.s (gg rfl rfl (eTF h19)) rfl ?_
        refine Wo.s (gg rfl rfl (eTF h19)) rfl ?_
        refine Wo.od (o_pt rfl h19 rfl) rfl ?_
        refine Wo.nil ?_
        cases hF
        exact At.en () rfl (sc rfl (sc rfl sn)) (Turn.picks [0, 1] rfl rfl)
      · refine Wo.og (o_fa (r := ptr b6 1) rfl (fa25_1 _ _)) (gg rfl rfl (eFF h19)) rfl ?_
        refine Wo.og (o_ld (k := 0) t23 rfl rfl rfl) (gg rfl rfl (eFF h19)) rfl ?_
        refine Wo.og (o_ln (k := 1) u23 rfl rfl (.inl rfl)) (gg rfl rfl (eFF h19)) rfl ?_
        refine Wo.og (o_bi rfl rfl (bin_gtr _ _ _)) (gg rfl rfl (eFF h19)) rfl ?_
        refine Wo.od (o_pf rfl h19 rfl) rfl ?_
        refine Wo.nil ?_
        cases hF
        exact At.en () rfl (sc rfl (sc rfl sn)) (Turn.picks [0, 1] rfl rfl)
  · clear h20
    rintro ⟨⟩
    refine At.tn ?_
    rcases br_some hF with ⟨h22, hF⟩ | ⟨h22, hF⟩
    · refine Wk.condT rfl h22 ?_
      refine Wk.seq ?_
      refine Wk.region ?_
      refine Wo.od (o_as rfl) rfl ?_
      refine Wo.nil ?_
      refine At.tn ?_
      refine Wk.ret ?_
      refine At.tr ?_
      cases hF
      exact At.ret (.tmp rfl .nil) fun m' hm => ⟨(), rfl, (Turn.picks [] rfl rfl) m' hm⟩
    · refine Wk.condF rfl h22 ?_
      refine Wk.skip ?_
      refine At.tn ?_
      refine Wk.seq ?_
      refine Wk.seq ?_
      refine Wk.region ?_
      refine Wo.od (o_as rfl) rfl ?_
      refine Wo.nil ?_
      refine At.tn ?_
      refine Wk.block ?_
      obtain ⟨r209, h208, hF⟩ := ob_some hF
      refine Wk.cut (G := (fun (r : (Unit) ⊕ (Unit)) (g : Unit) => match r, g with | .inl _, _ => ⟨.ret, [(2, .int .i64 180)], []⟩ | .inr _, _ => ⟨(.exit 0), [], []⟩) r209) ?_ ?_
      · refine Wk.weak (fs' := [(1, ptr b6 0), (3, .int .i64 0)]) (ps' := [.obj b6 (.cells [.int .i64 x1, .slice a3 l2.length c4] .own), .rd a3 c4 2 l2.length (l2.map (eP (eI .i64) (eI .i64)))]) (sc rfl (sc rfl sn)) (Turn.picks [0, 1] rfl rfl) ?_
        refine Wk.loop (σ := Int) (ρ := (Unit) ⊕ (Unit)) (γ := Unit) (δ := fun _ => Unit) _ (fun (s : Int) (g : Unit) => match s, g with | v24, _ => ⟨.normal, [(1, ptr b6 0), (3, .int .i64 v24)], [.obj b6 (.cells [.int .i64 x1, .slice a3 l2.length c4] .own), .rd a3 c4 2 l2.length (l2.map (eP (eI .i64) (eI .i64)))]⟩) (fun (r : (Unit) ⊕ (Unit)) (g : Unit) => match r, g with | .inl _, _ => ⟨.ret, [(2, .int .i64 180)], []⟩ | .inr _, _ => ⟨(.exit 0), [], []⟩) ?_ (fun _ _ => rfl) (fun r d => by rcases r with _ | _ <;> (intro e; cases e)) _ _ _ h208 ()
        clear hF h208
        rintro v24 ⟨⟩ r hF
        unfold L43_1 at hF
        refine Wk.seq ?_
        refine Wk.seq ?_
        refine Wk.region ?_
        refine Wo.od (o_mv rfl) rfl ?_
        refine Wo.od (o_fa (r := ptr b6 1) rfl (fa25_1 _ _)) rfl ?_
        refine Wo.od (o_ld (k := 0) t23 rfl rfl rfl) rfl ?_
        refine Wo.od (o_ln (k := 1) u23 rfl rfl (.inl rfl)) rfl ?_
        refine Wo.od (o_bi rfl rfl (bin_lss _ _ _)) rfl ?_
        refine Wo.nil ?_
        refine At.tn ?_
        rcases br_some hF with ⟨h117, hF⟩ | ⟨h117, hF⟩
        · refine Wk.condT rfl h117 ?_
          refine Wk.skip ?_
          refine At.tn ?_
          refine Wk.seq ?_
          refine Wk.block ?_
          refine Wk.seq ?_
          refine Wk.draw (by kernel_rfl) ?_
          refine Wo.od (o_fa (r := ptr b6 1) rfl (fa25_1 _ _)) rfl ?_
          refine Wo.od (o_ld (k := 0) t23 rfl rfl rfl) rfl ?_
          refine Wo.od (o_mv rfl) rfl ?_
          obtain ⟨h163, hF⟩ := gd_some hF
          replace h163 := inB_some h163
          refine Wo.openr (k := 1) rfl (pos_of h163) ?_
          rintro b164 o165 rfl
          refine Wo.og (o_ixs s23 rfl rfl h163) gn rfl ?_
          refine Wo.od (o_ia (r := ptr b164 (o165 + v24.toNat * 2 + 0)) rfl rfl (ia_c ar26 (i := 0) (by decide))) rfl ?_
          obtain ⟨⟨x166, x167⟩, h168, hF⟩ := ob_some hF
          refine Wo.od (o_ldr (k := 0) t3 rfl rfl (map_at h168) rfl rfl) rfl ?_
          refine Wo.od (o_fa (r := ptr b6 1) rfl (fa25_1 _ _)) rfl ?_
          refine Wo.od (o_ld (k := 1) t23 rfl rfl rfl) rfl ?_
          refine Wo.od (o_mv rfl) rfl ?_
          obtain ⟨h169, hF⟩ := gd_some hF
          replace h169 := inB_some h169
          refine Wo.og (o_ixs s23 rfl rfl h169) gn rfl ?_
          refine Wo.od (o_ia (r := ptr b164 (o165 + v24.toNat * 2 + 1)) rfl rfl (ia_c ar26 (i := 1) (by decide))) rfl ?_
          refine Wo.od (o_ldr (k := 0) t3 rfl rfl (map_at h168) rfl rfl) rfl ?_
          refine Wo.od (o_as rfl) rfl ?_
          refine Wo.od (o_as rfl) rfl ?_
          refine Wo.nil ?_
          refine At.tn ?_
          refine Wk.seq ?_
          refine Wk.seq ?_
          obtain ⟨v180, h183, hF⟩ := ob_some hF
          refine Wk.cut (G := (fun (r : Bool) (g : Unit) => match r, g with | v180, _ => ⟨.normal, [(1, ptr b6 0), (3, .int .i64 v24), (4, .int .i64 x166), (5, .int .i64 x167), (51, .bool v180)], [.obj b6 (.cells [.int .i64 x1, .slice (some ⟨b164, o165, none⟩) l2.length c4] .own), .ro b164 o165 2 l2.length (l2.map (eP (eI .i64) (eI .i64))), .rd (some ⟨b164, o165, none⟩) c4 2 l2.length (l2.map (eP (eI .i64) (eI .i64)))]⟩) v180) ?_ ?_
          · clear hF
            revert v180
            intro r hF
            refine Wk.region ?_
            refine Wo.od (o_mv rfl) rfl ?_
            refine Wo.od (o_bi rfl rfl (bin_lss _ _ _)) rfl ?_
            refine Wo.od (o_mv rfl) rfl ?_
            rcases br_some hF with ⟨h181, hF⟩ | ⟨h181, hF⟩
            · refine Wo.s (gg rfl rfl (eTF h181)) rfl ?_
              refine Wo.s (gg rfl rfl (eTF h181)) rfl ?_
              refine Wo.s (gg rfl rfl (eTF h181)) rfl ?_
              refine Wo.od (o_pt rfl h181 rfl) rfl ?_
              refine Wo.od (o_mv rfl) rfl ?_
              refine Wo.s (gg rfl rfl rfl) rfl ?_
              refine Wo.s (gg rfl rfl rfl) rfl ?_
              refine Wo.s (gg rfl rfl rfl) rfl ?_
              refine Wo.s (gg rfl rfl rfl) rfl ?_
              refine Wo.od (o_pT rfl rfl) rfl ?_
              refine Wo.nil ?_
              cases hF
              exact At.en () rfl (sc rfl (sc rfl (sc rfl (sc rfl (sc rfl sn))))) (Turn.picks [1, 0, 2] rfl rfl)
            · refine Wo.og (o_mv rfl) (gg rfl rfl (eFF h181)) rfl ?_
              refine Wo.og (o_mv rfl) (gg rfl rfl (eFF h181)) rfl ?_
              refine Wo.og (o_bi rfl rfl (bin_geq _ _ _)) (gg rfl rfl (eFF h181)) rfl ?_
              refine Wo.od (o_pf rfl h181 rfl) rfl ?_
              refine Wo.od (o_mv rfl) rfl ?_
              rcases br_some hF with ⟨h182, hF⟩ | ⟨h182, hF⟩
              · refine Wo.s (gg rfl rfl (eTF h182)) rfl ?_
                refine Wo.s (gg rfl rfl (eTF h182)) rfl ?_
                refine Wo.s (gg rfl rfl (eTF h182)) rfl ?_
                refine Wo.s (gg rfl rfl (eTF h182)) rfl ?_
                refine Wo.od (o_pt rfl h182 rfl) rfl ?_
                refine Wo.nil ?_
                cases hF
                exact At.en () rfl (sc rfl (sc rfl (sc rfl (sc rfl (sc rfl sn))))) (Turn.picks [1, 0, 2] rfl rfl)
              · refine Wo.og (o_mv rfl) (gg rfl rfl (eFF h182)) rfl ?_
                refine Wo.og (o_fa (r := ptr b6 0) rfl (fa25_0 _ _)) (gg rfl rfl (eFF h182)) rfl ?_
                refine Wo.og (o_ld (k := 1) t3 rfl rfl rfl) (gg rfl rfl (eFF h182)) rfl ?_
                refine Wo.og (o_bi rfl rfl (bin_geq _ _ _)) (gg rfl rfl (eFF h182)) rfl ?_
                refine Wo.od (o_pf rfl h182 rfl) rfl ?_
                refine Wo.nil ?_
                cases hF
                exact At.en () rfl (sc rfl (sc rfl (sc rfl (sc rfl (sc rfl sn))))) (Turn.picks [1, 0, 2] rfl rfl)
          · clear h183
            rintro ⟨⟩
            refine At.tn ?_
            rcases br_some hF with ⟨h185, hF⟩ | ⟨h185, hF⟩
            · refine Wk.condT rfl h185 ?_
              refine Wk.seq ?_
              refine Wk.region ?_
              refine Wo.od (o_as rfl) rfl ?_
              refine Wo.nil ?_
              refine At.tn ?_
              refine Wk.ret ?_
              refine At.tr ?_
              refine At.br ?_
              refine At.tr ?_
              cases hF
              exact At.en () rfl (sc rfl sn) (Turn.picks [] rfl rfl)
            · refine Wk.condF rfl h185 ?_
              refine Wk.skip ?_
              refine At.tn ?_
              refine Wk.seq ?_
              obtain ⟨v195, h205, hF⟩ := ob_some hF
              refine Wk.cut (G := (fun (r : Bool) (g : Unit) => match r, g with | v195, _ => ⟨.normal, [(1, ptr b6 0), (3, .int .i64 v24), (86, .bool v195)], [.obj b6 (.cells [.int .i64 x1, .slice (some ⟨b164, o165, none⟩) l2.length c4] .own), .ro b164 o165 2 l2.length (l2.map (eP (eI .i64) (eI .i64))), .rd (some ⟨b164, o165, none⟩) c4 2 l2.length (l2.map (eP (eI .i64) (eI .i64)))]⟩) v195) ?_ ?_
              · clear hF
                revert v195
                intro r hF
                refine Wk.region ?_
                refine Wo.od (o_mv rfl) rfl ?_
                refine Wo.od (o_bi rfl rfl (bin_gtr _ _ _)) rfl ?_
                refine Wo.od (o_mv rfl) rfl ?_
                rcases br_some hF with ⟨h196, hF⟩ | ⟨h196, hF⟩
                · refine Wo.og (o_fa (r := ptr b6 1) rfl (fa25_1 _ _)) (gg rfl rfl (eTT h196)) rfl ?_
                  refine Wo.og (o_ld (k := 0) t23 rfl rfl rfl) (gg rfl rfl (eTT h196)) rfl ?_
                  refine Wo.og (o_mv rfl) (gg rfl rfl (eTT h196)) rfl ?_
                  refine Wo.og (o_bi rfl rfl (bin_sub _ _ _)) (gg rfl rfl (eTT h196)) rfl ?_
                  obtain ⟨h197, hF⟩ := gd_some hF
                  replace h197 := inB_some h197
                  refine Wo.og (o_ixs s23 rfl rfl h197) (gg rfl rfl (eTT h196)) rfl ?_
                  refine Wo.og (o_ia (r := ptr b164 (o165 + (IntKind.wrap .i64 (v24 - 1)).toNat * 2 + 0)) rfl rfl (ia_c ar26 (i := 0) (by decide))) (gg rfl rfl (eTT h196)) rfl ?_
                  obtain ⟨⟨x198, x199⟩, h200, hF⟩ := ob_some hF
                  refine Wo.og (o_ldr (k := 1) t3 rfl rfl (map_at h200) rfl rfl) (gg rfl rfl (eTT h196)) rfl ?_
                  refine Wo.og (o_mv rfl) (gg rfl rfl (eTT h196)) rfl ?_
                  refine Wo.og (o_bi rfl rfl (bin_gtr _ _ _)) (gg rfl rfl (eTT h196)) rfl ?_
                  refine Wo.og (o_mv rfl) (gg rfl rfl (eTT h196)) rfl ?_
                  rcases br_some hF with ⟨h201, hF⟩ | ⟨h201, hF⟩
                  · refine Wo.s (gg rfl rfl (eTF h201)) rfl ?_
                    refine Wo.s (gg rfl rfl (eTF h201)) rfl ?_
                    refine Wo.s (gg rfl rfl (eTF h201)) rfl ?_
                    refine Wo.s (gg rfl rfl (eTF h201)) rfl ?_
                    refine Wo.s (gg rfl rfl (eTF h201)) rfl ?_
                    refine Wo.s (gg rfl rfl (eTF h201)) rfl ?_
                    refine Wo.s (gg rfl rfl (eTF h201)) rfl ?_
                    refine Wo.s (gg rfl rfl (eTF h201)) rfl ?_
                    refine Wo.s (gg rfl rfl (eTF h201)) rfl ?_
                    refine Wo.s (gg rfl rfl (eTF h201)) rfl ?_
                    refine Wo.s (gu rfl rfl) rfl ?_
                    refine Wo.s (gu rfl rfl) rfl ?_
                    refine Wo.s (gu rfl rfl) rfl ?_
                    refine Wo.s (gu rfl rfl) rfl ?_
                    refine Wo.s (gu rfl rfl) rfl ?_
                    refine Wo.s (gu rfl rfl) rfl ?_
                    refine Wo.s (gu rfl rfl) rfl ?_
                    refine Wo.s (gu rfl rfl) rfl ?_
                    refine Wo.s (gu rfl rfl) rfl ?_
                    refine Wo.s (gg rfl rfl (eTF h201)) rfl ?_
                    refine Wo.og (o_pt rfl h201 rfl) (gg rfl rfl (eTT h196)) rfl ?_
                    refine Wo.od (o_pt rfl h196 rfl) rfl ?_
                    refine Wo.nil ?_
                    cases hF
                    exact At.en () rfl (sc rfl (sc rfl (sc rfl sn))) (Turn.picks [0, 1, 2] rfl rfl)
                  · refine Wo.og (o_fa (r := ptr b6 1) rfl (fa25_1 _ _)) (gg rfl rfl (eFF h201)) rfl ?_
                    refine Wo.og (o_ld (k := 0) t23 rfl rfl rfl) (gg rfl rfl (eFF h201)) rfl ?_
                    refine Wo.og (o_mv rfl) (gg rfl rfl (eFF h201)) rfl ?_
                    refine Wo.og (o_bi rfl rfl (bin_sub _ _ _)) (gg rfl rfl (eFF h201)) rfl ?_
                    obtain ⟨h202, hF⟩ := gd_some hF
                    replace h202 := inB_some h202
                    refine Wo.og (o_ixs s23 rfl rfl h202) (gg rfl rfl (eFF h201)) rfl ?_
                    refine Wo.og (o_ia (r := ptr b164 (o165 + (IntKind.wrap .i64 (v24 - 1)).toNat * 2 + 0)) rfl rfl (ia_c ar26 (i := 0) (by decide))) (gg rfl rfl (eFF h201)) rfl ?_
                    refine Wo.og (o_ldr (k := 1) t3 rfl rfl (map_at h200) rfl rfl) (gg rfl rfl (eFF h201)) rfl ?_
                    refine Wo.og (o_mv rfl) (gg rfl rfl (eFF h201)) rfl ?_
                    refine Wo.og (o_bi rfl rfl (bin_eql _ _ _)) (gg rfl rfl (eFF h201)) rfl ?_
                    refine Wo.og (o_mv rfl) (gg rfl rfl (eFF h201)) rfl ?_
                    rcases br_some hF with ⟨h203, hF⟩ | ⟨h203, hF⟩
                    · refine Wo.og (o_fa (r := ptr b6 1) rfl (fa25_1 _ _)) (gg rfl rfl (eTT h203)) rfl ?_
                      refine Wo.og (o_ld (k := 0) t23 rfl rfl rfl) (gg rfl rfl (eTT h203)) rfl ?_
                      refine Wo.og (o_mv rfl) (gg rfl rfl (eTT h203)) rfl ?_
                      refine Wo.og (o_bi rfl rfl (bin_sub _ _ _)) (gg rfl rfl (eTT h203)) rfl ?_
                      obtain ⟨h204, hF⟩ := gd_some hF
                      replace h204 := inB_some h204
                      refine Wo.og (o_ixs s23 rfl rfl h204) (gg rfl rfl (eTT h203)) rfl ?_
                      refine Wo.og (o_ia (r := ptr b164 (o165 + (IntKind.wrap .i64 (v24 - 1)).toNat * 2 + 1)) rfl rfl (ia_c ar26 (i := 1) (by decide))) (gg rfl rfl (eTT h203)) rfl ?_
                      refine Wo.og (o_ldr (k := 1) t3 rfl rfl (map_at h200) rfl rfl) (gg rfl rfl (eTT h203)) rfl ?_
                      refine Wo.og (o_mv rfl) (gg rfl rfl (eTT h203)) rfl ?_
                      refine Wo.og (o_bi rfl rfl (bin_geq _ _ _)) (gg rfl rfl (eTT h203)) rfl ?_
                      refine Wo.og (o_pt rfl h203 rfl) (gg rfl rfl (eFF h201)) rfl ?_
                      refine Wo.og (o_pf rfl h201 rfl) (gg rfl rfl (eTT h196)) rfl ?_
                      refine Wo.od (o_pt rfl h196 rfl) rfl ?_
                      refine Wo.nil ?_
                      cases hF
                      exact At.en () rfl (sc rfl (sc rfl (sc rfl sn))) (Turn.picks [0, 1, 2] rfl rfl)
                    · refine Wo.s (gg rfl rfl (eFT h203)) rfl ?_
                      refine Wo.s (gg rfl rfl (eFT h203)) rfl ?_
                      refine Wo.s (gg rfl rfl (eFT h203)) rfl ?_
                      refine Wo.s (gg rfl rfl (eFT h203)) rfl ?_
                      refine Wo.s (gg rfl rfl (eFT h203)) rfl ?_
                      refine Wo.s (gg rfl rfl (eFT h203)) rfl ?_
                      refine Wo.s (gg rfl rfl (eFT h203)) rfl ?_
                      refine Wo.s (gg rfl rfl (eFT h203)) rfl ?_
                      refine Wo.s (gg rfl rfl (eFT h203)) rfl ?_
                      refine Wo.og (o_pf rfl h203 rfl) (gg rfl rfl (eFF h201)) rfl ?_
                      refine Wo.og (o_pf rfl h201 rfl) (gg rfl rfl (eTT h196)) rfl ?_
                      refine Wo.od (o_pt rfl h196 rfl) rfl ?_
                      refine Wo.nil ?_
                      cases hF
                      exact At.en () rfl (sc rfl (sc rfl (sc rfl sn))) (Turn.picks [0, 1, 2] rfl rfl)
                · refine Wo.s (gg rfl rfl (eFT h196)) rfl ?_
                  refine Wo.s (gg rfl rfl (eFT h196)) rfl ?_
                  refine Wo.s (gg rfl rfl (eFT h196)) rfl ?_
                  refine Wo.s (gg rfl rfl (eFT h196)) rfl ?_
                  refine Wo.s (gg rfl rfl (eFT h196)) rfl ?_
                  refine Wo.s (gg rfl rfl (eFT h196)) rfl ?_
                  refine Wo.s (gg rfl rfl (eFT h196)) rfl ?_
                  refine Wo.s (gg rfl rfl (eFT h196)) rfl ?_
                  refine Wo.s (gg rfl rfl (eFT h196)) rfl ?_
                  refine Wo.s (gg rfl rfl (eFT h196)) rfl ?_
                  refine Wo.s (gu rfl rfl) rfl ?_
                  refine Wo.s (gu rfl rfl) rfl ?_
                  refine Wo.s (gu rfl rfl) rfl ?_
                  refine Wo.s (gu rfl rfl) rfl ?_
                  refine Wo.s (gu rfl rfl) rfl ?_
                  refine Wo.s (gu rfl rfl) rfl ?_
                  refine Wo.s (gu rfl rfl) rfl ?_
                  refine Wo.s (gu rfl rfl) rfl ?_
                  refine Wo.s (gu rfl rfl) rfl ?_
                  refine Wo.s (gu rfl rfl) rfl ?_
                  refine Wo.s (gu rfl rfl) rfl ?_
                  refine Wo.s (gu rfl rfl) rfl ?_
                  refine Wo.s (gu rfl rfl) rfl ?_
                  refine Wo.s (gu rfl rfl) rfl ?_
                  refine Wo.s (gu rfl rfl) rfl ?_
                  refine Wo.s (gu rfl rfl) rfl ?_
                  refine Wo.s (gu rfl rfl) rfl ?_
                  refine Wo.s (gu rfl rfl) rfl ?_
                  refine Wo.s (gu rfl rfl) rfl ?_
                  refine Wo.s (gu rfl rfl) rfl ?_
                  refine Wo.s (gg rfl rfl (eFT h196)) rfl ?_
                  refine Wo.od (o_pf rfl h196 rfl) rfl ?_
                  refine Wo.nil ?_
                  cases hF
                  exact At.en () rfl (sc rfl (sc rfl (sc rfl sn))) (Turn.picks [0, 1, 2] rfl rfl)
              · clear h205
                rintro ⟨⟩
                refine At.tn ?_
                rcases br_some hF with ⟨h207, hF⟩ | ⟨h207, hF⟩
                · refine Wk.condT rfl h207 ?_
                  refine Wk.seq ?_
                  refine Wk.region ?_
                  refine Wo.od (o_as rfl) rfl ?_
                  refine Wo.nil ?_
                  refine At.tn ?_
                  refine Wk.ret ?_
                  refine At.br ?_
                  refine At.tr ?_
                  cases hF
                  exact At.en () rfl (sc rfl sn) (Turn.picks [] rfl rfl)
                · refine Wk.condF rfl h207 ?_
                  refine Wk.skip ?_
                  refine At.bn ?_
                  refine At.tn ?_
                  refine Wk.region ?_
                  refine Wo.od (o_mv rfl) rfl ?_
                  refine Wo.od (o_bi rfl rfl (bin_add _ _ _)) rfl ?_
                  refine Wo.od (o_as rfl) rfl ?_
                  refine Wo.nil ?_
                  cases hF
                  exact At.en () rfl (sc rfl (sc rfl sn)) (Turn.picks [0, 2] rfl rfl)
        · refine Wk.condF rfl h117 ?_
          refine Wk.exit ?_
          refine At.te ?_
          cases hF
          exact At.en () rfl sn (Turn.picks [] rfl rfl)
      · clear h208
        rcases r209 with _ | _
        · rintro ⟨⟩
          refine At.br ?_
          refine At.tr ?_
          cases hF
          exact At.ret (.tmp rfl .nil) fun m' hm => ⟨(), rfl, (Turn.picks [] rfl rfl) m' hm⟩
        · rintro ⟨⟩
          refine At.be ?_
          refine At.tn ?_
          refine Wk.seq ?_
          refine Wk.region ?_
          refine Wo.od (o_as rfl) rfl ?_
          refine Wo.nil ?_
          refine At.tn ?_
          refine Wk.ret ?_
          cases hF
          exact At.ret (.tmp rfl .nil) fun m' hm => ⟨(), rfl, (Turn.picks [] rfl rfl) m' hm⟩

theorem f34_ok (n : Nat) (l1 : List (Int × Int)) (l5 : List (Int × Int)) (a2 : Option Addr) (c3 : Nat) (a6 : Option Addr) (c7 : Nat) (r : Bool) (hF : F34 n l1 l5 = some r) (m : AMem) (h4 : Rd m a2 c3 2 l1.length (l1.map (eP (eI .i64) (eI .i64)))) (h8 : Rd m a6 c7 2 l5.length (l5.map (eP (eI .i64) (eI .i64)))) :
    CallA E18w 34 [.slice a2 l1.length c3, .slice a6 l5.length c7] m (fun v m' => ∃ x : Unit, v = .bool r ∧ Hp m m' []) := by
  unfold F34 at hF
  refine call_wk (m0 := m) (ps := [.rd a6 c7 2 l5.length (l5.map (eP (eI .i64) (eI .i64))), .rd a2 c3 2 l1.length (l1.map (eP (eI .i64) (eI .i64)))]) (N := 26) (rs := [.tmp 4]) rfl Tryd.func34 rfl rfl rfl (((Hp.start m).inn rfl h4).inn rfl h8) ?_
  refine Wk.seq ?_
  refine Wk.region ?_
  refine Wo.od (o_as rfl) rfl ?_
  refine Wo.nil ?_
  refine At.tn ?_
  refine Wk.seq ?_
  refine Wk.seq ?_
  refine Wk.region ?_
  refine Wo.od (o_mv rfl) rfl ?_
  refine Wo.od (o_ln (k := 1) u23 rfl rfl (.inl rfl)) rfl ?_
  refine Wo.od (o_mv rfl) rfl ?_
  refine Wo.od (o_ln (k := 0) u23 rfl rfl (.inl rfl)) rfl ?_
  refine Wo.od (o_bi rfl rfl (ib_neq _ _)) rfl ?_
  refine Wo.nil ?_
  refine At.tn ?_
  rcases br_some hF with ⟨h9, hF⟩ | ⟨h9, hF⟩
  · refine Wk.condT rfl h9 ?_
    refine Wk.seq ?_
    refine Wk.region ?_
    refine Wo.od (o_as rfl) rfl ?_
    refine Wo.nil ?_
    refine At.tn ?_
    refine Wk.ret ?_
    refine At.tr ?_
    cases hF
    exact At.ret (.tmp rfl .nil) fun m' hm => ⟨(), rfl, (Turn.picks [] rfl rfl) m' hm⟩
  · refine Wk.condF rfl h9 ?_
    refine Wk.skip ?_
    refine At.tn ?_
    refine Wk.seq ?_
    refine Wk.seq ?_
    refine Wk.region ?_
    refine Wo.od (o_mv rfl) rfl ?_
    refine Wo.od (o_ln (k := 1) u23 rfl rfl (.inl rfl)) rfl ?_
    refine Wo.od (o_mv rfl) rfl ?_
    refine Wo.nil ?_
    refine At.tn ?_
    refine Wk.block ?_
    obtain ⟨r42, h41, hF⟩ := ob_some hF
    refine Wk.cut (G := (fun (r : (Unit) ⊕ (Unit)) (g : Unit) => match r, g with | .inl _, _ => ⟨.ret, [(4, .bool false)], []⟩ | .inr _, _ => ⟨(.exit 0), [], []⟩) r42) ?_ ?_
    · refine Wk.weak (fs' := [(0, .slice a2 l1.length c3), (1, .slice a6 l5.length c7), (12, .int .i64 (l1.length : Int)), (13, .int .i64 0)]) (ps' := [.rd a2 c3 2 l1.length (l1.map (eP (eI .i64) (eI .i64))), .rd a6 c7 2 l5.length (l5.map (eP (eI .i64) (eI .i64)))]) (sc rfl (sc rfl (sc rfl (sc rfl sn)))) (Turn.picks [1, 0] rfl rfl) ?_
      refine Wk.loop (σ := Int) (ρ := (Unit) ⊕ (Unit)) (γ := Unit) (δ := fun _ => Unit) _ (fun (s : Int) (g : Unit) => match s, g with | v11, _ => ⟨.normal, [(0, .slice a2 l1.length c3), (1, .slice a6 l5.length c7), (12, .int .i64 (l1.length : Int)), (13, .int .i64 v11)], [.rd a2 c3 2 l1.length (l1.map (eP (eI .i64) (eI .i64))), .rd a6 c7 2 l5.length (l5.map (eP (eI .i64) (eI .i64)))]⟩) (fun (r : (Unit) ⊕ (Unit)) (g : Unit) => match r, g with | .inl _, _ => ⟨.ret, [(4, .bool false)], []⟩ | .inr _, _ => ⟨(.exit 0), [], []⟩) ?_ (fun _ _ => rfl) (fun r d => by rcases r with _ | _ <;> (intro e; cases e)) _ _ _ h41 ()
      clear hF h41
      rintro v11 ⟨⟩ r hF
      unfold L34_1 at hF
      refine Wk.seq ?_
      refine Wk.region ?_
      refine Wo.od (o_bi rfl rfl (bin_lss _ _ _)) rfl ?_
      refine Wo.nil ?_
      refine At.tn ?_
      refine Wk.seq ?_
      rcases br_some hF with ⟨h27, hF⟩ | ⟨h27, hF⟩
      · refine Wk.condT rfl h27 ?_
        refine Wk.skip ?_
        refine At.tn ?_
        refine Wk.seq ?_
        refine Wk.block ?_
        refine Wk.seq ?_
        refine Wk.region ?_
        refine Wo.od (o_mv rfl) rfl ?_
        refine Wo.od (o_as rfl) rfl ?_
        refine Wo.nil ?_
        refine At.tn ?_
        refine Wk.seq ?_
        refine Wk.draw (by kernel_rfl) ?_
        refine Wo.od (o_mv rfl) rfl ?_
        refine Wo.od (o_mv rfl) rfl ?_
        obtain ⟨h28, hF⟩ := gd_some hF
        replace h28 := inB_some h28
        refine Wo.openr (k := 0) rfl (pos_of h28) ?_
        rintro b29 o30 rfl
        refine Wo.og (o_ixs s23 rfl rfl h28) gn rfl ?_
        obtain ⟨⟨x31, x32⟩, h33, hF⟩ := ob_some hF
        refine Wo.od (o_ldr (k := 0) t26 rfl rfl (map_at h33) rfl rfl) rfl ?_
        refine Wo.od (o_mv rfl) rfl ?_
        refine Wo.od (o_mv rfl) rfl ?_
        obtain ⟨h34, hF⟩ := gd_some hF
        replace h34 := inB_some h34
        refine Wo.openr (k := 2) rfl (pos_of h34) ?_
        rintro b35 o36 rfl
        refine Wo.og (o_ixs s23 rfl rfl h34) gn rfl ?_
        obtain ⟨⟨x37, x38⟩, h39, hF⟩ := ob_some hF
        refine Wo.od (o_ldr (k := 0) t26 rfl rfl (map_at h39) rfl rfl) rfl ?_
        refine Wo.od (o_bi rfl rfl (ag_ne eg26 (eq26 _ _ _ _))) rfl ?_
        refine Wo.nil ?_
        refine At.tn ?_
        rcases br_some hF with ⟨h40, hF⟩ | ⟨h40, hF⟩
        · refine Wk.condT rfl h40 ?_
          refine Wk.seq ?_
          refine Wk.region ?_
          refine Wo.od (o_as rfl) rfl ?_
          refine Wo.nil ?_
          refine At.tn ?_
          refine Wk.ret ?_
          refine At.br ?_
          refine At.tr ?_
          cases hF
          exact At.en () rfl (sc rfl sn) (Turn.picks [] rfl rfl)
        · refine Wk.condF rfl h40 ?_
          refine Wk.skip ?_
          refine At.bn ?_
          refine At.tn ?_
          refine Wk.region ?_
          refine Wo.od (o_bi rfl rfl (bin_add _ _ _)) rfl ?_
          refine Wo.od (o_mv rfl) rfl ?_
          refine Wo.nil ?_
          cases hF
          exact At.en () rfl (sc rfl (sc rfl (sc rfl (sc rfl sn)))) (Turn.picks [2, 3] rfl rfl)
      · refine Wk.condF rfl h27 ?_
        refine Wk.exit ?_
        refine At.te ?_
        cases hF
        exact At.en () rfl sn (Turn.picks [] rfl rfl)
    · clear h41
      rcases r42 with _ | _
      · rintro ⟨⟩
        refine At.br ?_
        refine At.tr ?_
        cases hF
        exact At.ret (.tmp rfl .nil) fun m' hm => ⟨(), rfl, (Turn.picks [] rfl rfl) m' hm⟩
      · rintro ⟨⟩
        refine At.be ?_
        refine At.tn ?_
        refine Wk.seq ?_
        refine Wk.region ?_
        refine Wo.od (o_as rfl) rfl ?_
        refine Wo.nil ?_
        refine At.tn ?_
        refine Wk.ret ?_
        cases hF
        exact At.ret (.tmp rfl .nil) fun m' hm => ⟨(), rfl, (Turn.picks [] rfl rfl) m' hm⟩

theorem f27_ok (n : Nat) (x1 : Int) (l2 : List (Int × Int)) (x6 : Int) (l7 : List (Int × Int)) (a3 : Option Addr) (c4 : Nat) (a8 : Option Addr) (c9 : Nat) (r : Bool) (hF : F27 n x1 l2 x6 l7 = some r) (m : AMem) (h5 : Rd m a3 c4 2 l2.length (l2.map (eP (eI .i64) (eI .i64)))) (h10 : Rd m a8 c9 2 l7.length (l7.map (eP (eI .i64) (eI .i64)))) :
    CallA E18w 27 [.agg #[.int .i64 x1, .slice a3 l2.length c4], .agg #[.int .i64 x6, .slice a8 l7.length c9]] m (fun v m' => ∃ x : Unit, v = .bool r ∧ Hp m m' []) := by
  unfold F27 at hF
  refine call_wk (m0 := m) (ps := [.rd a8 c9 2 l7.length (l7.map (eP (eI .i64) (eI .i64))), .rd a3 c4 2 l2.length (l2.map (eP (eI .i64) (eI .i64)))]) (N := 17) (rs := [.tmp 4]) rfl Tryd.func27 rfl rfl rfl (((Hp.start m).inn rfl h5).inn rfl h10) ?_
  refine Wk.seq ?_
  refine Wk.region ?_
  refine Wo.x (o_bx rfl) gn rfl fun b11 => ?_
  refine Wo.x (o_bx rfl) gn rfl fun b12 => ?_
  refine Wo.od (o_as rfl) rfl ?_
  refine Wo.nil ?_
  refine At.tn ?_
  refine Wk.seq ?_
  refine Wk.region ?_
  refine Wo.od (o_fa (r := ptr b11 0) rfl (fa25_0 _ _)) rfl ?_
  refine Wo.od (o_ld (k := 1) t3 rfl rfl rfl) rfl ?_
  refine Wo.od (o_fa (r := ptr b12 0) rfl (fa25_0 _ _)) rfl ?_
  refine Wo.od (o_ld (k := 0) t3 rfl rfl rfl) rfl ?_
  refine Wo.od (o_bi rfl rfl (bin_eql _ _ _)) rfl ?_
  refine Wo.od (o_mv rfl) rfl ?_
  rcases br_some hF with ⟨h13, hF⟩ | ⟨h13, hF⟩
  · refine Wo.og (o_fa (r := ptr b11 1) rfl (fa25_1 _ _)) (gg rfl rfl (eTT h13)) rfl ?_
    refine Wo.og (o_ld (k := 1) t23 rfl rfl rfl) (gg rfl rfl (eTT h13)) rfl ?_
    refine Wo.og (o_fa (r := ptr b12 1) rfl (fa25_1 _ _)) (gg rfl rfl (eTT h13)) rfl ?_
    refine Wo.og (o_ld (k := 0) t23 rfl rfl rfl) (gg rfl rfl (eTT h13)) rfl ?_
    obtain ⟨r15, h14, hF⟩ := ob_some hF
    refine Wo.x (o_cl rfl rfl (fun m hm => f34_ok n l2 l7 a3 c4 a8 c9 _ h14 m (hm.rd (k := 3) rfl (.rd _ _ _ _ _)) (hm.rd (k := 2) rfl (.rd _ _ _ _ _))) fun _ => rfl) (gg rfl rfl (eTT h13)) rfl ?_
    rintro ⟨⟩
    refine Wo.od (o_pt rfl h13 rfl) rfl ?_
    refine Wo.od (o_as rfl) rfl ?_
    refine Wo.nil ?_
    refine At.tn ?_
    refine Wk.ret ?_
    have hr := Option.some.inj hF
    subst r
    exact At.ret (.tmp rfl .nil) fun m' hm => ⟨(), rfl, (Turn.picks [] rfl rfl) m' hm⟩
  · refine Wo.s (gg rfl rfl (eFT h13)) rfl ?_
    refine Wo.s (gg rfl rfl (eFT h13)) rfl ?_
    refine Wo.s (gg rfl rfl (eFT h13)) rfl ?_
    refine Wo.s (gg rfl rfl (eFT h13)) rfl ?_
    refine Wo.s (gg rfl rfl (eFT h13)) rfl ?_
    refine Wo.od (o_pf rfl h13 rfl) rfl ?_
    refine Wo.od (o_as rfl) rfl ?_
    refine Wo.nil ?_
    refine At.tn ?_
    refine Wk.ret ?_
    cases hF
    exact At.ret (.tmp rfl .nil) fun m' hm => ⟨(), rfl, (Turn.picks [] rfl rfl) m' hm⟩

theorem f44_ok (n : Nat) (x1 : Int) (l2 : List (Int × Int)) (x6 : Int) (l7 : List (Int × Int)) (a3 : Option Addr) (c4 : Nat) (a8 : Option Addr) (c9 : Nat) (r : Bool) (hF : F44 n x1 l2 x6 l7 = some r) (m : AMem) (h5 : Rd m a3 c4 2 l2.length (l2.map (eP (eI .i64) (eI .i64)))) (h10 : Rd m a8 c9 2 l7.length (l7.map (eP (eI .i64) (eI .i64)))) :
    CallA E18w 44 [.agg #[.int .i64 x1, .slice a3 l2.length c4], .agg #[.int .i64 x6, .slice a8 l7.length c9]] m (fun v m' => ∃ x : Unit, v = .bool r ∧ Hp m m' []) := by
  unfold F44 at hF
  refine call_wk (m0 := m) (ps := [.rd a8 c9 2 l7.length (l7.map (eP (eI .i64) (eI .i64))), .rd a3 c4 2 l2.length (l2.map (eP (eI .i64) (eI .i64)))]) (N := 38) (rs := [.tmp 4]) rfl Tryd.func44 rfl rfl rfl (((Hp.start m).inn rfl h5).inn rfl h10) ?_
  refine Wk.seq ?_
  refine Wk.region ?_
  refine Wo.x (o_bx rfl) gn rfl fun b11 => ?_
  refine Wo.x (o_bx rfl) gn rfl fun b12 => ?_
  refine Wo.od (o_as rfl) rfl ?_
  refine Wo.nil ?_
  refine At.tn ?_
  refine Wk.seq ?_
  refine Wk.seq ?_
  obtain ⟨v20, h22, hF⟩ := ob_some hF
  refine Wk.cut (G := (fun (r : Bool) (g : Unit) => match r, g with | v20, _ => ⟨.normal, [(2, ptr b11 0), (3, ptr b12 0), (19, .bool v20)], [.obj b11 (.cells [.int .i64 x1, .slice a3 l2.length c4] .own), .rd a3 c4 2 l2.length (l2.map (eP (eI .i64) (eI .i64))), .obj b12 (.cells [.int .i64 x6, .slice a8 l7.length c9] .own), .rd a8 c9 2 l7.length (l7.map (eP (eI .i64) (eI .i64)))]⟩) v20) ?_ ?_
  · clear hF
    revert v20
    intro r hF
    refine Wk.region ?_
    refine Wo.od (o_fa (r := ptr b11 0) rfl (fa25_0 _ _)) rfl ?_
    refine Wo.od (o_ld (k := 1) t3 rfl rfl rfl) rfl ?_
    refine Wo.od (o_fa (r := ptr b12 0) rfl (fa25_0 _ _)) rfl ?_
    refine Wo.od (o_ld (k := 0) t3 rfl rfl rfl) rfl ?_
    refine Wo.od (o_bi rfl rfl (ib_neq _ _)) rfl ?_
    refine Wo.od (o_mv rfl) rfl ?_
    rcases br_some hF with ⟨h21, hF⟩ | ⟨h21, hF⟩
    · refine Wo.s (gg rfl rfl (eTF h21)) rfl ?_
      refine Wo.s (gg rfl rfl (eTF h21)) rfl ?_
      refine Wo.s (gg rfl rfl (eTF h21)) rfl ?_
      refine Wo.s (gg rfl rfl (eTF h21)) rfl ?_
      refine Wo.s (gg rfl rfl (eTF h21)) rfl ?_
      refine Wo.s (gg rfl rfl (eTF h21)) rfl ?_
      refine Wo.s (gg rfl rfl (eTF h21)) rfl ?_
      refine Wo.od (o_pt rfl h21 rfl) rfl ?_
      refine Wo.nil ?_
      cases hF
      exact At.en () rfl (sc rfl (sc rfl (sc rfl sn))) (Turn.picks [1, 3, 0, 2] rfl rfl)
    · refine Wo.og (o_fa (r := ptr b11 1) rfl (fa25_1 _ _)) (gg rfl rfl (eFF h21)) rfl ?_
      refine Wo.og (o_ld (k := 1) t23 rfl rfl rfl) (gg rfl rfl (eFF h21)) rfl ?_
      refine Wo.og (o_ln (k := 3) u23 rfl rfl (.inl rfl)) (gg rfl rfl (eFF h21)) rfl ?_
      refine Wo.og (o_fa (r := ptr b12 1) rfl (fa25_1 _ _)) (gg rfl rfl (eFF h21)) rfl ?_
      refine Wo.og (o_ld (k := 0) t23 rfl rfl rfl) (gg rfl rfl (eFF h21)) rfl ?_
      refine Wo.og (o_ln (k := 2) u23 rfl rfl (.inl rfl)) (gg rfl rfl (eFF h21)) rfl ?_
      refine Wo.og (o_bi rfl rfl (ib_neq _ _)) (gg rfl rfl (eFF h21)) rfl ?_
      refine Wo.od (o_pf rfl h21 rfl) rfl ?_
      refine Wo.nil ?_
      cases hF
      exact At.en () rfl (sc rfl (sc rfl (sc rfl sn))) (Turn.picks [1, 3, 0, 2] rfl rfl)
  · clear h22
    rintro ⟨⟩
    refine At.tn ?_
    rcases br_some hF with ⟨h24, hF⟩ | ⟨h24, hF⟩
    · refine Wk.condT rfl h24 ?_
      refine Wk.seq ?_
      refine Wk.region ?_
      refine Wo.od (o_as rfl) rfl ?_
      refine Wo.nil ?_
      refine At.tn ?_
      refine Wk.ret ?_
      refine At.tr ?_
      cases hF
      exact At.ret (.tmp rfl .nil) fun m' hm => ⟨(), rfl, (Turn.picks [] rfl rfl) m' hm⟩
    · refine Wk.condF rfl h24 ?_
      refine Wk.skip ?_
      refine At.tn ?_
      refine Wk.seq ?_
      refine Wk.seq ?_
      refine Wk.region ?_
      refine Wo.od (o_as rfl) rfl ?_
      refine Wo.nil ?_
      refine At.tn ?_
      refine Wk.block ?_
      obtain ⟨r57, h56, hF⟩ := ob_some hF
      refine Wk.cut (G := (fun (r : (Unit) ⊕ (Unit)) (g : Unit) => match r, g with | .inl _, _ => ⟨.ret, [(4, .bool false)], []⟩ | .inr _, _ => ⟨(.exit 0), [], []⟩) r57) ?_ ?_
      · refine Wk.weak (fs' := [(2, ptr b11 0), (3, ptr b12 0), (5, .int .i64 0)]) (ps' := [.obj b11 (.cells [.int .i64 x1, .slice a3 l2.length c4] .own), .rd a3 c4 2 l2.length (l2.map (eP (eI .i64) (eI .i64))), .obj b12 (.cells [.int .i64 x6, .slice a8 l7.length c9] .own), .rd a8 c9 2 l7.length (l7.map (eP (eI .i64) (eI .i64)))]) (sc rfl (sc rfl (sc rfl sn))) (Turn.picks [0, 1, 2, 3] rfl rfl) ?_
        refine Wk.loop (σ := Int) (ρ := (Unit) ⊕ (Unit)) (γ := Unit) (δ := fun _ => Unit) _ (fun (s : Int) (g : Unit) => match s, g with | v26, _ => ⟨.normal, [(2, ptr b11 0), (3, ptr b12 0), (5, .int .i64 v26)], [.obj b11 (.cells [.int .i64 x1, .slice a3 l2.length c4] .own), .rd a3 c4 2 l2.length (l2.map (eP (eI .i64) (eI .i64))), .obj b12 (.cells [.int .i64 x6, .slice a8 l7.length c9] .own), .rd a8 c9 2 l7.length (l7.map (eP (eI .i64) (eI .i64)))]⟩) (fun (r : (Unit) ⊕ (Unit)) (g : Unit) => match r, g with | .inl _, _ => ⟨.ret, [(4, .bool false)], []⟩ | .inr _, _ => ⟨(.exit 0), [], []⟩) ?_ (fun _ _ => rfl) (fun r d => by rcases r with _ | _ <;> (intro e; cases e)) _ _ _ h56 ()
        clear hF h56
        rintro v26 ⟨⟩ r hF
        unfold L44_1 at hF
        refine Wk.seq ?_
        refine Wk.seq ?_
        refine Wk.region ?_
        refine Wo.od (o_mv rfl) rfl ?_
        refine Wo.od (o_fa (r := ptr b11 1) rfl (fa25_1 _ _)) rfl ?_
        refine Wo.od (o_ld (k := 0) t23 rfl rfl rfl) rfl ?_
        refine Wo.od (o_ln (k := 1) u23 rfl rfl (.inl rfl)) rfl ?_
        refine Wo.od (o_bi rfl rfl (bin_lss _ _ _)) rfl ?_
        refine Wo.nil ?_
        refine At.tn ?_
        rcases br_some hF with ⟨h42, hF⟩ | ⟨h42, hF⟩
        · refine Wk.condT rfl h42 ?_
          refine Wk.skip ?_
          refine At.tn ?_
          refine Wk.seq ?_
          refine Wk.block ?_
          refine Wk.seq ?_
          refine Wk.draw (by kernel_rfl) ?_
          refine Wo.od (o_fa (r := ptr b11 1) rfl (fa25_1 _ _)) rfl ?_
          refine Wo.od (o_ld (k := 0) t23 rfl rfl rfl) rfl ?_
          refine Wo.od (o_mv rfl) rfl ?_
          obtain ⟨h43, hF⟩ := gd_some hF
          replace h43 := inB_some h43
          refine Wo.openr (k := 1) rfl (pos_of h43) ?_
          rintro b44 o45 rfl
          refine Wo.og (o_ixs s23 rfl rfl h43) gn rfl ?_
          obtain ⟨⟨x46, x47⟩, h48, hF⟩ := ob_some hF
          refine Wo.od (o_ldr (k := 0) t26 rfl rfl (map_at h48) rfl rfl) rfl ?_
          refine Wo.od (o_fa (r := ptr b12 1) rfl (fa25_1 _ _)) rfl ?_
          refine Wo.od (o_ld (k := 3) t23 rfl rfl rfl) rfl ?_
          refine Wo.od (o_mv rfl) rfl ?_
          obtain ⟨h49, hF⟩ := gd_some hF
          replace h49 := inB_some h49
          refine Wo.openr (k := 4) rfl (pos_of h49) ?_
          rintro b50 o51 rfl
          refine Wo.og (o_ixs s23 rfl rfl h49) gn rfl ?_
          obtain ⟨⟨x52, x53⟩, h54, hF⟩ := ob_some hF
          refine Wo.od (o_ldr (k := 0) t26 rfl rfl (map_at h54) rfl rfl) rfl ?_
          refine Wo.od (o_bi rfl rfl (ag_ne eg26 (eq26 _ _ _ _))) rfl ?_
          refine Wo.nil ?_
          refine At.tn ?_
          rcases br_some hF with ⟨h55, hF⟩ | ⟨h55, hF⟩
          · refine Wk.condT rfl h55 ?_
            refine Wk.seq ?_
            refine Wk.region ?_
            refine Wo.od (o_as rfl) rfl ?_
            refine Wo.nil ?_
            refine At.tn ?_
            refine Wk.ret ?_
            refine At.br ?_
            refine At.tr ?_
            cases hF
            exact At.en () rfl (sc rfl sn) (Turn.picks [] rfl rfl)
          · refine Wk.condF rfl h55 ?_
            refine Wk.skip ?_
            refine At.bn ?_
            refine At.tn ?_
            refine Wk.region ?_
            refine Wo.od (o_mv rfl) rfl ?_
            refine Wo.od (o_bi rfl rfl (bin_add _ _ _)) rfl ?_
            refine Wo.od (o_as rfl) rfl ?_
            refine Wo.nil ?_
            cases hF
            exact At.en () rfl (sc rfl (sc rfl (sc rfl sn))) (Turn.picks [2, 3, 4, 5] rfl rfl)
        · refine Wk.condF rfl h42 ?_
          refine Wk.exit ?_
          refine At.te ?_
          cases hF
          exact At.en () rfl sn (Turn.picks [] rfl rfl)
      · clear h56
        rcases r57 with _ | _
        · rintro ⟨⟩
          refine At.br ?_
          refine At.tr ?_
          cases hF
          exact At.ret (.tmp rfl .nil) fun m' hm => ⟨(), rfl, (Turn.picks [] rfl rfl) m' hm⟩
        · rintro ⟨⟩
          refine At.be ?_
          refine At.tn ?_
          refine Wk.seq ?_
          refine Wk.region ?_
          refine Wo.od (o_as rfl) rfl ?_
          refine Wo.nil ?_
          refine At.tn ?_
          refine Wk.ret ?_
          cases hF
          exact At.ret (.tmp rfl .nil) fun m' hm => ⟨(), rfl, (Turn.picks [] rfl rfl) m' hm⟩

theorem f7_ok (n : Nat) (x1 : Nat) (x2 : Nat) (x3 : Nat) (l4 : List (Nat × Nat)) (x8 : Nat) (x9 : Nat) (x10 : Int) (x11 : Int) (x12 : Int) (x13 : Nat) (x14 : Nat) (x15 : Int) (x16 : Int) (x17 : Int) (x18 : Int) (l19 : List (Int × Int)) (a5 : Option Addr) (c6 : Nat) (a20 : Option Addr) (c21 : Nat) (r : Bool) (hF : F7 n x1 x2 x3 l4 x8 x9 x10 x11 x12 x13 x14 x15 x16 x17 x18 l19 = some r) (m : AMem) (hG : Gl m) (h7 : Rd m a5 c6 2 l4.length (l4.map (eP (eN .u8) (eN .u8)))) (h22 : Rd m a20 c21 2 l19.length (l19.map (eP (eI .i64) (eI .i64)))) :
    CallA E18w 7 [.agg #[.int .u8 ((x1 : Nat) : Int), .int .u8 ((x2 : Nat) : Int), .int .u16 ((x3 : Nat) : Int), .slice a5 l4.length c6], .agg #[.int .u8 ((x8 : Nat) : Int), .int .u8 ((x9 : Nat) : Int), .int .i64 x10, .int .i64 x11, .int .i64 x12, .int .u8 ((x13 : Nat) : Int), .int .u8 ((x14 : Nat) : Int), .int .i64 x15, .int .i64 x16, .int .i64 x17], .agg #[.int .i64 x18, .slice a20 l19.length c21]] m (fun v m' => ∃ x : Unit, v = .bool r ∧ Hp m m' []) := by
  unfold F7 at hF
  refine call_wk (m0 := m) (ps := [.rd a20 c21 2 l19.length (l19.map (eP (eI .i64) (eI .i64))), .rd a5 c6 2 l4.length (l4.map (eP (eN .u8) (eN .u8)))]) (N := 55) (rs := [.tmp 6]) rfl Tryd.func7 rfl rfl rfl (((Hp.start m).inn rfl h7).inn rfl h22) ?_
  refine Wk.seq ?_
  refine Wk.region ?_
  refine Wo.x (o_bx rfl) gn rfl fun b23 => ?_
  refine Wo.x (o_bx rfl) gn rfl fun b24 => ?_
  refine Wo.x (o_bx rfl) gn rfl fun b25 => ?_
  refine Wo.od (o_as rfl) rfl ?_
  refine Wo.nil ?_
  refine At.tn ?_
  refine Wk.seq ?_
  refine Wk.region ?_
  refine Wo.od (o_fa (r := ptr b25 1) rfl (fa25_1 _ _)) rfl ?_
  refine Wo.od (o_ld (k := 0) t23 rfl rfl rfl) rfl ?_
  refine Wo.od (o_fa (r := ptr b25 1) rfl (fa25_1 _ _)) rfl ?_
  refine Wo.od (o_ld (k := 0) t23 rfl rfl rfl) rfl ?_
  refine Wo.od (o_ln (k := 3) u23 rfl rfl (.inl rfl)) rfl ?_
  refine Wo.od (o_bu rfl rfl (bu_mi _ _)) rfl ?_
  obtain ⟨h26, hF⟩ := gd_some hF
  refine Wo.x (o_srl (k := 3) (lo := 0) (hi := mi (l19.length : Int) (5 : Int)) s23 rfl rfl rfl rfl h26 (.inl ⟨rfl, rfl⟩) (.inr ⟨_, rfl⟩)) gn rfl ?_
  rintro ⟨a27, c28⟩
  refine Wo.od (o_fa (r := ptr b25 1) rfl (fa25_1 _ _)) rfl ?_
  refine Wo.o0 (o_st (k := 1) t23 rfl rfl rfl rfl rfl) ?_
  refine Wo.nil ?_
  refine At.tn ?_
  refine Wk.seq ?_
  refine Wk.region ?_
  refine Wo.od (o_ld (k := 3) t55 rfl rfl rfl) rfl ?_
  refine Wo.od (o_ld (k := 2) t58 rfl rfl rfl) rfl ?_
  obtain ⟨⟨r30, l31, r34, l35, r38, l39⟩, h29, hF⟩ := ob_some hF
  refine Wo.x (o_cl rfl rfl (fun m hm => f28_ok n x1 x2 x3 l4 x8 x9 x10 x11 x12 x13 x14 x15 x16 x17 a5 c6 _ h29 m (hm.rd (k := 5) rfl (.rd _ _ _ _ _))) fun _ => rfl) gn rfl ?_
  rintro ⟨a32, n33, a36, n37, a40, n41⟩
  refine Wo.len (k := 0) (xs := l31) rfl ?_
  rintro rfl
  refine Wo.len (k := 1) (xs := l35) rfl ?_
  rintro rfl
  refine Wo.len (k := 2) (xs := l39) rfl ?_
  rintro rfl
  refine Wo.x (o_al z59 rfl) gn rfl fun b42 => ?_
  refine Wo.o0 (o_st (k := 0) t59 rfl rfl rfl rfl rfl) ?_
  refine Wo.nil ?_
  refine At.tn ?_
  refine Wk.seq ?_
  refine Wk.region ?_
  refine Wo.od (o_ia (r := ptr b42 0) rfl rfl (ia_c ar59 (i := 0) (by decide))) rfl ?_
  refine Wo.od (o_ld (k := 0) t25 rfl rfl rfl) rfl ?_
  refine Wo.od (o_ia (r := ptr b42 2) rfl rfl (ia_c ar59 (i := 1) (by decide))) rfl ?_
  refine Wo.od (o_ld (k := 0) t25 rfl rfl rfl) rfl ?_
  refine Wo.od (o_ia (r := ptr b42 4) rfl rfl (ia_c ar59 (i := 2) (by decide))) rfl ?_
  refine Wo.od (o_ld (k := 0) t25 rfl rfl rfl) rfl ?_
  refine Wo.od (o_ld (k := 5) t25 rfl rfl rfl) rfl ?_
  refine Wo.od (o_bd rfl z70 rfl (bd_s bs70 rfl rfl rfl)) rfl ?_
  refine Wo.x (o_al z70 rfl) gn rfl fun b43 => ?_
  refine Wo.o0 (o_st (k := 0) t70 rfl rfl rfl rfl rfl) ?_
  refine Wo.nil ?_
  refine At.tn ?_
  refine Wk.seq ?_
  refine Wk.seq ?_
  refine Wk.region ?_
  refine Wo.od (o_ld (k := 0) t70 rfl rfl rfl) rfl ?_
  refine Wo.od (o_mv rfl) rfl ?_
  refine Wo.nil ?_
  refine At.tn ?_
  refine Wk.block ?_
  obtain ⟨r181, h180, hF⟩ := ob_some hF
  refine Wk.cut (G := (fun (r : (Unit) ⊕ (Unit)) (g : Unit) => match r, g with | .inl _, _ => ⟨.ret, [(6, .bool false)], []⟩ | .inr _, _ => ⟨(.exit 0), [], []⟩) r181) ?_ ?_
  · refine Wk.weak (fs' := [(8, ptr b43 0), (32, .agg #[.int .i64 r30, .slice a32 l31.length l31.length, .int .i64 r34, .slice a36 l35.length l35.length, .int .i64 r38, .slice a40 l39.length l39.length, .int .i64 x18, .slice a27 (((l19.drop (0 : Int).toNat).take ((mi (l19.length : Int) (5 : Int) : Int).toNat - (0 : Int).toNat)).length) c28]), (33, .int .i64 0)]) (ps' := [.obj b43 (.cells [.int .i64 r30, .slice a32 l31.length l31.length, .int .i64 r34, .slice a36 l35.length l35.length, .int .i64 r38, .slice a40 l39.length l39.length, .int .i64 x18, .slice a27 (((l19.drop (0 : Int).toNat).take ((mi (l19.length : Int) (5 : Int) : Int).toNat - (0 : Int).toNat)).length) c28] .own), .rd a32 l31.length 2 l31.length (l31.map (eP (eI .i64) (eI .i64))), .rd a36 l35.length 2 l35.length (l35.map (eP (eI .i64) (eI .i64))), .rd a40 l39.length 2 l39.length (l39.map (eP (eI .i64) (eI .i64))), .rd a27 c28 2 (((l19.drop (0 : Int).toNat).take ((mi (l19.length : Int) (5 : Int) : Int).toNat - (0 : Int).toNat)).length) (((l19.drop (0 : Int).toNat).take ((mi (l19.length : Int) (5 : Int) : Int).toNat - (0 : Int).toNat)).map (eP (eI .i64) (eI .i64)))]) (sc rfl (sc rfl (sc rfl sn))) (Turn.trans (Turn.freeze (k := 2) rfl) (Turn.trans (Turn.freeze (k := 3) rfl) (Turn.trans (Turn.freeze (k := 4) rfl) (Turn.picks [0, 2, 3, 4, 5] rfl rfl)))) ?_
    refine Wk.loop (σ := Int) (ρ := (Unit) ⊕ (Unit)) (γ := Unit) (δ := fun _ => Unit) _ (fun (s : Int) (g : Unit) => match s, g with | v90, _ => ⟨.normal, [(8, ptr b43 0), (32, .agg #[.int .i64 r30, .slice a32 l31.length l31.length, .int .i64 r34, .slice a36 l35.length l35.length, .int .i64 r38, .slice a40 l39.length l39.length, .int .i64 x18, .slice a27 (((l19.drop (0 : Int).toNat).take ((mi (l19.length : Int) (5 : Int) : Int).toNat - (0 : Int).toNat)).length) c28]), (33, .int .i64 v90)], [.obj b43 (.cells [.int .i64 r30, .slice a32 l31.length l31.length, .int .i64 r34, .slice a36 l35.length l35.length, .int .i64 r38, .slice a40 l39.length l39.length, .int .i64 x18, .slice a27 (((l19.drop (0 : Int).toNat).take ((mi (l19.length : Int) (5 : Int) : Int).toNat - (0 : Int).toNat)).length) c28] .own), .rd a32 l31.length 2 l31.length (l31.map (eP (eI .i64) (eI .i64))), .rd a36 l35.length 2 l35.length (l35.map (eP (eI .i64) (eI .i64))), .rd a40 l39.length 2 l39.length (l39.map (eP (eI .i64) (eI .i64))), .rd a27 c28 2 (((l19.drop (0 : Int).toNat).take ((mi (l19.length : Int) (5 : Int) : Int).toNat - (0 : Int).toNat)).length) (((l19.drop (0 : Int).toNat).take ((mi (l19.length : Int) (5 : Int) : Int).toNat - (0 : Int).toNat)).map (eP (eI .i64) (eI .i64)))]⟩) (fun (r : (Unit) ⊕ (Unit)) (g : Unit) => match r, g with | .inl _, _ => ⟨.ret, [(6, .bool false)], []⟩ | .inr _, _ => ⟨(.exit 0), [], []⟩) ?_ (fun _ _ => rfl) (fun r d => by rcases r with _ | _ <;> (intro e; cases e)) _ _ _ h180 ()
    clear hF h180
    rintro v90 ⟨⟩ r hF
    unfold L7_2 at hF
    refine Wk.seq ?_
    refine Wk.region ?_
    refine Wo.od (o_bi rfl rfl (bin_lss _ _ _)) rfl ?_
    refine Wo.nil ?_
    refine At.tn ?_
    refine Wk.seq ?_
    rcases br_some hF with ⟨h136, hF⟩ | ⟨h136, hF⟩
    · refine Wk.condT rfl h136 ?_
      refine Wk.skip ?_
      refine At.tn ?_
      refine Wk.seq ?_
      refine Wk.block ?_
      refine Wk.seq ?_
      refine Wk.region ?_
      obtain ⟨h141, hF⟩ := gd_some hF
      obtain ⟨⟨x137, l138⟩, h142, hF⟩ := ob_some hF
      refine Wo.x (o_sel (α := Option Addr × Nat) (V := fun g => match g with | (a139, c140) => .agg #[.int .i64 x137, .slice a139 l138.length c140]) (N := fun g => match g with | (a139, c140) => [.rd a139 c140 2 l138.length (l138.map (eP (eI .i64) (eI .i64)))] ++ [.obj b43 (.cells [.int .i64 r30, .slice a32 l31.length l31.length, .int .i64 r34, .slice a36 l35.length l35.length, .int .i64 r38, .slice a40 l39.length l39.length, .int .i64 x18, .slice a27 (((l19.drop (0 : Int).toNat).take ((mi (l19.length : Int) (5 : Int) : Int).toNat - (0 : Int).toNat)).length) c28] .own), .rd a32 l31.length 2 l31.length (l31.map (eP (eI .i64) (eI .i64))), .rd a36 l35.length 2 l35.length (l35.map (eP (eI .i64) (eI .i64))), .rd a40 l39.length 2 l39.length (l39.map (eP (eI .i64) (eI .i64))), .rd a27 c28 2 (((l19.drop (0 : Int).toNat).take ((mi (l19.length : Int) (5 : Int) : Int).toNat - (0 : Int).toNat)).length) (((l19.drop (0 : Int).toNat).take ((mi (l19.length : Int) (5 : Int) : Int).toNat - (0 : Int).toNat)).map (eP (eI .i64) (eI .i64)))]) rfl rfl (fun m hm => ?_)) gn rfl ?_
      · have hj := inB_some h141
        obtain ⟨j, hj2⟩ : ∃ j : Nat, (v90 : Int) = j := ⟨_, (Int.toNat_of_nonneg hj.1).symm⟩
        rw [hj2] at h142 hj ⊢
        rw [Int.toNat_natCast] at h142 hj
        replace hj := hj.2
        clear hF hj2
        match j, hj, h142 with
        | 0, _, h142 => cases h142; exact ⟨(a32, l31.length), ix_c ar70 (i := 0) (by decide) (part_a t25 rfl), (Hp.dup hm (k := 1) rfl)⟩
        | 1, _, h142 => cases h142; exact ⟨(a36, l35.length), ix_c ar70 (i := 1) (by decide) (part_a t25 rfl), (Hp.dup hm (k := 2) rfl)⟩
        | 2, _, h142 => cases h142; exact ⟨(a40, l39.length), ix_c ar70 (i := 2) (by decide) (part_a t25 rfl), (Hp.dup hm (k := 3) rfl)⟩
        | 3, _, h142 => cases h142; exact ⟨(a27, c28), ix_c ar70 (i := 3) (by decide) (part_a t25 rfl), (Hp.dup hm (k := 4) rfl)⟩
        | _ + 4, hj, _ => exact absurd hj (by omega)
      rintro ⟨a139, c140⟩
      refine Wo.x (o_al z25 rfl) gn rfl fun b143 => ?_
      refine Wo.o0 (o_st (k := 0) t25 rfl rfl rfl rfl rfl) ?_
      refine Wo.nil ?_
      refine At.tn ?_
      refine Wk.seq ?_
      refine Wk.seq ?_
      refine Wk.drawc (prs := [(1, 2)]) (by kernel_rfl) ?_
      refine Wn.od (o_ld (k := 0) t25 rfl rfl rfl) rfl ?_
      obtain ⟨r145, h144, hF⟩ := ob_some hF
      refine Wn.c (o_ce rfl rfl (fun m hm => f23_ok n x137 l138 a139 c140 _ h144 m (hm.rd (k := 1) rfl (.rd _ _ _ _ _))) fun _ => rfl) gn rfl ?_
      rintro ⟨⟩
      refine Wn.od (o_ld (k := 0) t25 rfl rfl rfl) rfl ?_
      obtain ⟨r147, h146, hF⟩ := ob_some hF
      refine Wn.c (o_ce rfl rfl (fun m hm => f43_ok n x137 l138 a139 c140 _ h146 m (hm.rd (k := 1) rfl (.rd _ _ _ _ _))) fun _ => rfl) gn rfl ?_
      rintro ⟨⟩
      refine Wn.od (o_bi rfl rfl (ib_neq _ _)) rfl ?_
      refine Wn.nil (fun m hm => OkP.all rfl) ?_
      refine At.tn ?_
      rcases br_some hF with ⟨h148, hF⟩ | ⟨h148, hF⟩
      · refine Wk.condT rfl h148 ?_
        refine Wk.seq ?_
        refine Wk.region ?_
        refine Wo.od (o_as rfl) rfl ?_
        refine Wo.nil ?_
        refine At.tn ?_
        refine Wk.ret ?_
        refine At.tr ?_
        refine At.br ?_
        refine At.tr ?_
        cases hF
        exact At.en () rfl (sc rfl sn) (Turn.picks [] rfl rfl)
      · refine Wk.condF rfl h148 ?_
        refine Wk.skip ?_
        refine At.tn ?_
        refine Wk.seq ?_
        refine Wk.region ?_
        refine Wo.od (o_ld (k := 2) t70 rfl rfl rfl) rfl ?_
        refine Wo.od (o_mv rfl) rfl ?_
        refine Wo.nil ?_
        refine At.tn ?_
        refine Wk.block ?_
        obtain ⟨r179, h178, hF⟩ := ob_some hF
        refine Wk.cut (G := (fun (r : (Unit) ⊕ (Unit)) (g : Unit) => match r, g with | .inl _, _ => ⟨.ret, [(6, .bool false)], []⟩ | .inr _, _ => ⟨(.exit 2), [(8, ptr b43 0), (32, .agg #[.int .i64 r30, .slice a32 l31.length l31.length, .int .i64 r34, .slice a36 l35.length l35.length, .int .i64 r38, .slice a40 l39.length l39.length, .int .i64 x18, .slice a27 (((l19.drop (0 : Int).toNat).take ((mi (l19.length : Int) (5 : Int) : Int).toNat - (0 : Int).toNat)).length) c28]), (33, .int .i64 v90)], [.obj b43 (.cells [.int .i64 r30, .slice a32 l31.length l31.length, .int .i64 r34, .slice a36 l35.length l35.length, .int .i64 r38, .slice a40 l39.length l39.length, .int .i64 x18, .slice a27 (((l19.drop (0 : Int).toNat).take ((mi (l19.length : Int) (5 : Int) : Int).toNat - (0 : Int).toNat)).length) c28] .own), .rd a32 l31.length 2 l31.length (l31.map (eP (eI .i64) (eI .i64))), .rd a36 l35.length 2 l35.length (l35.map (eP (eI .i64) (eI .i64))), .rd a40 l39.length 2 l39.length (l39.map (eP (eI .i64) (eI .i64))), .rd a27 c28 2 (((l19.drop (0 : Int).toNat).take ((mi (l19.length : Int) (5 : Int) : Int).toNat - (0 : Int).toNat)).length) (((l19.drop (0 : Int).toNat).take ((mi (l19.length : Int) (5 : Int) : Int).toNat - (0 : Int).toNat)).map (eP (eI .i64) (eI .i64)))]⟩) r179) ?_ ?_
        · refine Wk.weak (fs' := [(8, ptr b43 0), (10, ptr b143 0), (32, .agg #[.int .i64 r30, .slice a32 l31.length l31.length, .int .i64 r34, .slice a36 l35.length l35.length, .int .i64 r38, .slice a40 l39.length l39.length, .int .i64 x18, .slice a27 (((l19.drop (0 : Int).toNat).take ((mi (l19.length : Int) (5 : Int) : Int).toNat - (0 : Int).toNat)).length) c28]), (33, .int .i64 v90), (41, .agg #[.int .i64 r30, .slice a32 l31.length l31.length, .int .i64 r34, .slice a36 l35.length l35.length, .int .i64 r38, .slice a40 l39.length l39.length, .int .i64 x18, .slice a27 (((l19.drop (0 : Int).toNat).take ((mi (l19.length : Int) (5 : Int) : Int).toNat - (0 : Int).toNat)).length) c28]), (42, .int .i64 0)]) (ps' := [.obj b43 (.cells [.int .i64 r30, .slice a32 l31.length l31.length, .int .i64 r34, .slice a36 l35.length l35.length, .int .i64 r38, .slice a40 l39.length l39.length, .int .i64 x18, .slice a27 (((l19.drop (0 : Int).toNat).take ((mi (l19.length : Int) (5 : Int) : Int).toNat - (0 : Int).toNat)).length) c28] .own), .rd a32 l31.length 2 l31.length (l31.map (eP (eI .i64) (eI .i64))), .rd a36 l35.length 2 l35.length (l35.map (eP (eI .i64) (eI .i64))), .rd a40 l39.length 2 l39.length (l39.map (eP (eI .i64) (eI .i64))), .rd a27 c28 2 (((l19.drop (0 : Int).toNat).take ((mi (l19.length : Int) (5 : Int) : Int).toNat - (0 : Int).toNat)).length) (((l19.drop (0 : Int).toNat).take ((mi (l19.length : Int) (5 : Int) : Int).toNat - (0 : Int).toNat)).map (eP (eI .i64) (eI .i64))), .obj b143 (.cells [.int .i64 x137, .slice a139 l138.length c140] .own), .rd a139 c140 2 l138.length (l138.map (eP (eI .i64) (eI .i64)))]) (sc rfl (sc rfl (sc rfl (sc rfl (sc rfl (sc rfl sn)))))) (Turn.picks [2, 3, 4, 5, 6, 0, 1] rfl rfl) ?_
          refine Wk.loop (σ := Int) (ρ := (Unit) ⊕ (Unit)) (γ := Unit) (δ := fun _ => Unit) _ (fun (s : Int) (g : Unit) => match s, g with | v150, _ => ⟨.normal, [(8, ptr b43 0), (10, ptr b143 0), (32, .agg #[.int .i64 r30, .slice a32 l31.length l31.length, .int .i64 r34, .slice a36 l35.length l35.length, .int .i64 r38, .slice a40 l39.length l39.length, .int .i64 x18, .slice a27 (((l19.drop (0 : Int).toNat).take ((mi (l19.length : Int) (5 : Int) : Int).toNat - (0 : Int).toNat)).length) c28]), (33, .int .i64 v90), (41, .agg #[.int .i64 r30, .slice a32 l31.length l31.length, .int .i64 r34, .slice a36 l35.length l35.length, .int .i64 r38, .slice a40 l39.length l39.length, .int .i64 x18, .slice a27 (((l19.drop (0 : Int).toNat).take ((mi (l19.length : Int) (5 : Int) : Int).toNat - (0 : Int).toNat)).length) c28]), (42, .int .i64 v150)], [.obj b43 (.cells [.int .i64 r30, .slice a32 l31.length l31.length, .int .i64 r34, .slice a36 l35.length l35.length, .int .i64 r38, .slice a40 l39.length l39.length, .int .i64 x18, .slice a27 (((l19.drop (0 : Int).toNat).take ((mi (l19.length : Int) (5 : Int) : Int).toNat - (0 : Int).toNat)).length) c28] .own), .rd a32 l31.length 2 l31.length (l31.map (eP (eI .i64) (eI .i64))), .rd a36 l35.length 2 l35.length (l35.map (eP (eI .i64) (eI .i64))), .rd a40 l39.length 2 l39.length (l39.map (eP (eI .i64) (eI .i64))), .rd a27 c28 2 (((l19.drop (0 : Int).toNat).take ((mi (l19.length : Int) (5 : Int) : Int).toNat - (0 : Int).toNat)).length) (((l19.drop (0 : Int).toNat).take ((mi (l19.length : Int) (5 : Int) : Int).toNat - (0 : Int).toNat)).map (eP (eI .i64) (eI .i64))), .obj b143 (.cells [.int .i64 x137, .slice a139 l138.length c140] .own), .rd a139 c140 2 l138.length (l138.map (eP (eI .i64) (eI .i64)))]⟩) (fun (r : (Unit) ⊕ (Unit)) (g : Unit) => match r, g with | .inl _, _ => ⟨.ret, [(6, .bool false)], []⟩ | .inr _, _ => ⟨(.exit 2), [(8, ptr b43 0), (32, .agg #[.int .i64 r30, .slice a32 l31.length l31.length, .int .i64 r34, .slice a36 l35.length l35.length, .int .i64 r38, .slice a40 l39.length l39.length, .int .i64 x18, .slice a27 (((l19.drop (0 : Int).toNat).take ((mi (l19.length : Int) (5 : Int) : Int).toNat - (0 : Int).toNat)).length) c28]), (33, .int .i64 v90)], [.obj b43 (.cells [.int .i64 r30, .slice a32 l31.length l31.length, .int .i64 r34, .slice a36 l35.length l35.length, .int .i64 r38, .slice a40 l39.length l39.length, .int .i64 x18, .slice a27 (((l19.drop (0 : Int).toNat).take ((mi (l19.length : Int) (5 : Int) : Int).toNat - (0 : Int).toNat)).length) c28] .own), .rd a32 l31.length 2 l31.length (l31.map (eP (eI .i64) (eI .i64))), .rd a36 l35.length 2 l35.length (l35.map (eP (eI .i64) (eI .i64))), .rd a40 l39.length 2 l39.length (l39.map (eP (eI .i64) (eI .i64))), .rd a27 c28 2 (((l19.drop (0 : Int).toNat).take ((mi (l19.length : Int) (5 : Int) : Int).toNat - (0 : Int).toNat)).length) (((l19.drop (0 : Int).toNat).take ((mi (l19.length : Int) (5 : Int) : Int).toNat - (0 : Int).toNat)).map (eP (eI .i64) (eI .i64)))]⟩) ?_ (fun _ _ => rfl) (fun r d => by rcases r with _ | _ <;> (intro e; cases e)) _ _ _ h178 ()
          clear hF h178
          rintro v150 ⟨⟩ r hF
          unfold L7_1 at hF
          refine Wk.seq ?_
          refine Wk.region ?_
          refine Wo.od (o_bi rfl rfl (bin_lss _ _ _)) rfl ?_
          refine Wo.nil ?_
          refine At.tn ?_
          refine Wk.seq ?_
          rcases br_some hF with ⟨h165, hF⟩ | ⟨h165, hF⟩
          · refine Wk.condT rfl h165 ?_
            refine Wk.skip ?_
            refine At.tn ?_
            refine Wk.seq ?_
            refine Wk.block ?_
            refine Wk.seq ?_
            refine Wk.region ?_
            obtain ⟨h170, hF⟩ := gd_some hF
            obtain ⟨⟨x166, l167⟩, h171, hF⟩ := ob_some hF
            refine Wo.x (o_sel (α := Option Addr × Nat) (V := fun g => match g with | (a168, c169) => .agg #[.int .i64 x166, .slice a168 l167.length c169]) (N := fun g => match g with | (a168, c169) => [.rd a168 c169 2 l167.length (l167.map (eP (eI .i64) (eI .i64)))] ++ [.obj b43 (.cells [.int .i64 r30, .slice a32 l31.length l31.length, .int .i64 r34, .slice a36 l35.length l35.length, .int .i64 r38, .slice a40 l39.length l39.length, .int .i64 x18, .slice a27 (((l19.drop (0 : Int).toNat).take ((mi (l19.length : Int) (5 : Int) : Int).toNat - (0 : Int).toNat)).length) c28] .own), .rd a32 l31.length 2 l31.length (l31.map (eP (eI .i64) (eI .i64))), .rd a36 l35.length 2 l35.length (l35.map (eP (eI .i64) (eI .i64))), .rd a40 l39.length 2 l39.length (l39.map (eP (eI .i64) (eI .i64))), .rd a27 c28 2 (((l19.drop (0 : Int).toNat).take ((mi (l19.length : Int) (5 : Int) : Int).toNat - (0 : Int).toNat)).length) (((l19.drop (0 : Int).toNat).take ((mi (l19.length : Int) (5 : Int) : Int).toNat - (0 : Int).toNat)).map (eP (eI .i64) (eI .i64))), .obj b143 (.cells [.int .i64 x137, .slice a139 l138.length c140] .own), .rd a139 c140 2 l138.length (l138.map (eP (eI .i64) (eI .i64)))]) rfl rfl (fun m hm => ?_)) gn rfl ?_
            · have hj := inB_some h170
              obtain ⟨j, hj2⟩ : ∃ j : Nat, (v150 : Int) = j := ⟨_, (Int.toNat_of_nonneg hj.1).symm⟩
              rw [hj2] at h171 hj ⊢
              rw [Int.toNat_natCast] at h171 hj
              replace hj := hj.2
              clear hF hj2
              match j, hj, h171 with
              | 0, _, h171 => cases h171; exact ⟨(a32, l31.length), ix_c ar70 (i := 0) (by decide) (part_a t25 rfl), (Hp.dup hm (k := 1) rfl)⟩
              | 1, _, h171 => cases h171; exact ⟨(a36, l35.length), ix_c ar70 (i := 1) (by decide) (part_a t25 rfl), (Hp.dup hm (k := 2) rfl)⟩
              | 2, _, h171 => cases h171; exact ⟨(a40, l39.length), ix_c ar70 (i := 2) (by decide) (part_a t25 rfl), (Hp.dup hm (k := 3) rfl)⟩
              | 3, _, h171 => cases h171; exact ⟨(a27, c28), ix_c ar70 (i := 3) (by decide) (part_a t25 rfl), (Hp.dup hm (k := 4) rfl)⟩
              | _ + 4, hj, _ => exact absurd hj (by omega)
            rintro ⟨a168, c169⟩
            refine Wo.x (o_al z25 rfl) gn rfl fun b172 => ?_
            refine Wo.o0 (o_st (k := 0) t25 rfl rfl rfl rfl rfl) ?_
            refine Wo.nil ?_
            refine At.tn ?_
            refine Wk.seq ?_
            refine Wk.drawc (prs := [(2, 3), (2, 4)]) (by kernel_rfl) ?_
            refine Wn.od (o_ld (k := 7) t25 rfl rfl rfl) rfl ?_
            refine Wn.od (o_ld (k := 0) t25 rfl rfl rfl) rfl ?_
            obtain ⟨r174, h173, hF⟩ := ob_some hF
            refine Wn.c (o_ce rfl rfl (fun m hm => f27_ok n x137 l138 x166 l167 a139 c140 a168 c169 _ h173 m (hm.rd (k := 8) rfl (.rd _ _ _ _ _)) (hm.rd (k := 1) rfl (.rd _ _ _ _ _))) fun _ => rfl) gn rfl ?_
            rintro ⟨⟩
            refine Wn.od (o_ld (k := 7) t25 rfl rfl rfl) rfl ?_
            refine Wn.od (o_ld (k := 0) t25 rfl rfl rfl) rfl ?_
            obtain ⟨r176, h175, hF⟩ := ob_some hF
            refine Wn.c (o_ce rfl rfl (fun m hm => f44_ok n x137 l138 x166 l167 a139 c140 a168 c169 _ h175 m (hm.rd (k := 8) rfl (.rd _ _ _ _ _)) (hm.rd (k := 1) rfl (.rd _ _ _ _ _))) fun _ => rfl) gn rfl ?_
            rintro ⟨⟩
            refine Wn.od (o_bi rfl rfl (bb_ne u4)) rfl ?_
            refine Wn.nil (fun m hm => OkP.all rfl) ?_
            refine At.tn ?_
            rcases br_some hF with ⟨h177, hF⟩ | ⟨h177, hF⟩
            · refine Wk.condT rfl h177 ?_
              refine Wk.seq ?_
              refine Wk.region ?_
              refine Wo.od (o_as rfl) rfl ?_
              refine Wo.nil ?_
              refine At.tn ?_
              refine Wk.ret ?_
              refine At.br ?_
              refine At.tr ?_
              cases hF
              exact At.en () rfl (sc rfl sn) (Turn.picks [] rfl rfl)
            · refine Wk.condF rfl h177 ?_
              refine Wk.skip ?_
              refine At.bn ?_
              refine At.tn ?_
              refine Wk.region ?_
              refine Wo.od (o_bi rfl rfl (bin_add _ _ _)) rfl ?_
              refine Wo.od (o_mv rfl) rfl ?_
              refine Wo.nil ?_
              cases hF
              exact At.en () rfl (sc rfl (sc rfl (sc rfl (sc rfl (sc rfl (sc rfl sn)))))) (Turn.picks [2, 3, 4, 5, 6, 7, 8] rfl rfl)
          · refine Wk.condF rfl h165 ?_
            refine Wk.exit ?_
            refine At.te ?_
            cases hF
            exact At.en () rfl (sc rfl (sc rfl (sc rfl sn))) (Turn.picks [0, 1, 2, 3, 4] rfl rfl)
        · clear h178
          rcases r179 with _ | _
          · rintro ⟨⟩
            refine At.br ?_
            refine At.br ?_
            refine At.tr ?_
            cases hF
            exact At.en () rfl (sc rfl sn) (Turn.picks [] rfl rfl)
          · rintro ⟨⟩
            refine At.be ?_
            refine At.bn ?_
            refine At.tn ?_
            refine Wk.region ?_
            refine Wo.od (o_bi rfl rfl (bin_add _ _ _)) rfl ?_
            refine Wo.od (o_mv rfl) rfl ?_
            refine Wo.nil ?_
            cases hF
            exact At.en () rfl (sc rfl (sc rfl (sc rfl sn))) (Turn.picks [0, 1, 2, 3, 4] rfl rfl)
    · refine Wk.condF rfl h136 ?_
      refine Wk.exit ?_
      refine At.te ?_
      cases hF
      exact At.en () rfl sn (Turn.picks [] rfl rfl)
  · clear h180
    rcases r181 with _ | _
    · rintro ⟨⟩
      refine At.br ?_
      refine At.tr ?_
      cases hF
      exact At.ret (.tmp rfl .nil) fun m' hm => ⟨(), rfl, (Turn.picks [] rfl rfl) m' hm⟩
    · rintro ⟨⟩
      refine At.be ?_
      refine At.tn ?_
      refine Wk.seq ?_
      refine Wk.region ?_
      obtain ⟨r183, h182, hF⟩ := ob_some hF
      refine Wo.x (o_cl rfl rfl (fun m hm => f13_ok n   _ h182 m (hG.ext hm.ext) ) fun _ => rfl) gn rfl ?_
      rintro ⟨⟩
      refine Wo.od (o_as rfl) rfl ?_
      refine Wo.nil ?_
      refine At.tn ?_
      refine Wk.ret ?_
      have hr := Option.some.inj hF
      subst r
      exact At.ret (.tmp rfl .nil) fun m' hm => ⟨(), rfl, (Turn.picks [] rfl rfl) m' hm⟩

end Go.Proofs.YtpclggcpobakhaaDoor.W7
end

section
/-
  Chapter 18, plain laws over what the functions compute: loops; Check and Same.
-/
namespace Go.Proofs.YtpclggcpobakhaaDoor
open Go Go.Ab Go.Ab.W

section
variable {α β σ ρ : Type}
theorem br_t (a b : Option β) : br true a b = a := rfl
theorem br_f (a b : Option β) : br false a b = b := rfl
theorem gd_t (a : Option β) : gd true a = a := rfl
theorem ob_s (x : α) (f : α → Option β) : ob (some x) f = f x := rfl
theorem br_dt {p : Prop} [Decidable p] (h : p) (a b : Option β) : br (decide p) a b = a := by rw [decide_eq_true h]; rfl
theorem br_df {p : Prop} [Decidable p] (h : ¬ p) (a b : Option β) : br (decide p) a b = b := by rw [decide_eq_false h]; rfl
theorem br_ite (c : Bool) (a b : Option β) : br c a b = if c then a else b := by cases c <;> rfl
theorem gd_dt {p : Prop} [Decidable p] (h : p) (a : Option β) : gd (decide p) a = a := by rw [decide_eq_true h]; rfl
theorem inB_nat {i n : Nat} (h : i < n) : inB (i : Int) n = true := decide_eq_true ⟨Int.natCast_nonneg i, by simpa using h⟩
theorem wrap_in {x : Int} (h1 : -9223372036854775808 ≤ x) (h2 : x < 9223372036854775808) : IntKind.wrap .i64 x = x := wrap_i64 x h1 (by omega)
theorem wrap_succ {i : Nat} (h : i < 4611686018427387904) : IntKind.wrap .i64 ((i : Int) + 1) = ((i + 1 : Nat) : Int) := by rw [wrap_in (by omega) (by omega)]; rfl
theorem lp_next {body : σ → Option (σ ⊕ ρ)} {n : Nat} {s s' : σ} (h : body s = some (.inl s')) : lpN body (n + 1) s = lpN body n s' := by simp only [lpN, h]
theorem lp_end {body : σ → Option (σ ⊕ ρ)} {n : Nat} {s : σ} {r : ρ} (h : body s = some (.inr r)) : lpN body (n + 1) s = some r := by simp only [lpN, h]
end

theorem gd_df {p : Prop} [Decidable p] {β : Type} (h : p) (a : Option β) : gd (decide p) a = a := by rw [decide_eq_true h]; rfl

/-! ### Equal lists -/
theorem drop_len {α : Type} {l l' : List α} {i : Nat} (h : l.length = l'.length) (hi : l.length ≤ i) : l.drop i = l'.drop i := by
  rw [List.drop_of_length_le hi, List.drop_of_length_le (by omega)]
theorem L44_eq (n0 : Nat) {l2 l7 : List (Int × Int)} (h2 : l2.length = l7.length) (hl : l2.length < 4611686018427387904) : ∀ k i n, i + k = l2.length → k < n → lpN (L44_1 n0 l2 l7) n ((i : Nat) : Int) = some (if l2.drop i = l7.drop i then .inr () else .inl ()) := by
  intro k
  induction k with
  | zero =>
    intro i n hi hk
    obtain ⟨n, rfl⟩ : ∃ n', n = n' + 1 := ⟨n - 1, by omega⟩
    rw [if_pos (drop_len h2 (by omega))]
    exact lp_end (by unfold L44_1; rw [br_df (by omega)])
  | succ k ih =>
    intro i n hi hk
    obtain ⟨n, rfl⟩ : ∃ n', n = n' + 1 := ⟨n - 1, by omega⟩
    have a1 : i < l2.length := by omega
    have a2 : i < l7.length := by omega
    have e1 : l2[((i : Nat) : Int).toNat]? = some l2[i] := by simp [a1]
    have e2 : l7[((i : Nat) : Int).toNat]? = some l7[i] := by simp [a2]
    have c1 : decide (((i : Nat) : Int) < (l2.length : Int)) = true := decide_eq_true (by omega)
    have hb : i < 4611686018427387904 := by omega
    rw [List.drop_eq_getElem_cons a1, List.drop_eq_getElem_cons a2]
    generalize l2[i] = p at e1 ⊢
    generalize l7[i] = q at e2 ⊢
    obtain ⟨p1, p2⟩ := p
    obtain ⟨q1, q2⟩ := q
    by_cases hpq : p1 = q1 ∧ p2 = q2
    · obtain ⟨rfl, rfl⟩ := hpq
      rw [lp_next (s' := ((i + 1 : Nat) : Int)) (by simp only [L44_1, c1, br_t, inB_nat a1, gd_t, e1, ob_s, inB_nat a2, e2, decide_true, Bool.and_self, Bool.not_true, br_f, wrap_succ hb])]
      rw [ih (i + 1) n (by omega) (by omega)]
      simp
    · have hd : (!(decide (p1 = q1) && decide (p2 = q2))) = true := by
        by_cases h : p1 = q1 <;> simp_all
      rw [lp_end (r := .inl ()) (by simp only [L44_1, c1, br_t, inB_nat a1, gd_t, e1, ob_s, inB_nat a2, e2, hd])]
      rw [if_neg (by simp; intro h3 h4; exact absurd ⟨h3, h4⟩ hpq)]
theorem F44_eq (n : Nat) (x1 x6 : Int) (l2 l7 : List (Int × Int)) (hl : l2.length < 4611686018427387904) (hn : l2.length < n) : F44 n x1 l2 x6 l7 = some (decide (x1 = x6) && decide (l2 = l7)) := by
  unfold F44
  by_cases h1 : x1 = x6
  · rw [show (!decide (x1 = x6)) = false by simp [h1], br_f, ob_s]
    by_cases h2 : l2.length = l7.length
    · have h2' : ((l2.length : Int) = (l7.length : Int)) := by omega
      rw [show (!decide ((l2.length : Int) = (l7.length : Int))) = false by simp [h2'], br_f]
      have := L44_eq n h2 hl l2.length 0 n (by omega) hn
      simp only [List.drop_zero, Int.natCast_zero] at this
      rw [show lpN (L44_1 n l2 l7) n 0 = _ from this, ob_s]
      by_cases h3 : l2 = l7
      · simp [h1, h3]
      · simp [h1, h3]
    · have h2' : ¬ ((l2.length : Int) = (l7.length : Int)) := by omega
      have h3 : ¬ l2 = l7 := fun e => h2 (by rw [e])
      rw [show (!decide ((l2.length : Int) = (l7.length : Int))) = true by simp [h2'], br_t]
      simp [h3]
  · rw [show (!decide (x1 = x6)) = true by simp [h1], br_t, ob_s, br_t]
    simp [h1]
theorem L34_eq (n0 : Nat) {l2 l7 : List (Int × Int)} (h2 : l2.length = l7.length) (hl : l2.length < 4611686018427387904) : ∀ k i n, i + k = l2.length → k < n → lpN (L34_1 n0 l2 l7) n ((i : Nat) : Int) = some (if l2.drop i = l7.drop i then .inr () else .inl ()) := by
  intro k
  induction k with
  | zero =>
    intro i n hi hk
    obtain ⟨n, rfl⟩ : ∃ n', n = n' + 1 := ⟨n - 1, by omega⟩
    rw [if_pos (drop_len h2 (by omega))]
    exact lp_end (by unfold L34_1; rw [br_df (by omega)])
  | succ k ih =>
    intro i n hi hk
    obtain ⟨n, rfl⟩ : ∃ n', n = n' + 1 := ⟨n - 1, by omega⟩
    have a1 : i < l2.length := by omega
    have a2 : i < l7.length := by omega
    have e1 : l2[((i : Nat) : Int).toNat]? = some l2[i] := by simp [a1]
    have e2 : l7[((i : Nat) : Int).toNat]? = some l7[i] := by simp [a2]
    have c1 : decide (((i : Nat) : Int) < (l2.length : Int)) = true := decide_eq_true (by omega)
    have hb : i < 4611686018427387904 := by omega
    rw [List.drop_eq_getElem_cons a1, List.drop_eq_getElem_cons a2]
    generalize l2[i] = p at e1 ⊢
    generalize l7[i] = q at e2 ⊢
    obtain ⟨p1, p2⟩ := p
    obtain ⟨q1, q2⟩ := q
    by_cases hpq : p1 = q1 ∧ p2 = q2
    · obtain ⟨rfl, rfl⟩ := hpq
      rw [lp_next (s' := ((i + 1 : Nat) : Int)) (by simp only [L34_1, c1, br_t, inB_nat a1, gd_t, e1, ob_s, inB_nat a2, e2, decide_true, Bool.and_self, Bool.not_true, br_f, wrap_succ hb])]
      rw [ih (i + 1) n (by omega) (by omega)]
      simp
    · have hd : (!(decide (p1 = q1) && decide (p2 = q2))) = true := by
        by_cases h : p1 = q1 <;> simp_all
      rw [lp_end (r := .inl ()) (by simp only [L34_1, c1, br_t, inB_nat a1, gd_t, e1, ob_s, inB_nat a2, e2, hd])]
      rw [if_neg (by simp; intro h3 h4; exact absurd ⟨h3, h4⟩ hpq)]
theorem F34_eq (n : Nat) (l2 l7 : List (Int × Int)) (hl : l2.length < 4611686018427387904) (hn : l2.length < n) : F34 n l2 l7 = some (decide (l2 = l7)) := by
  unfold F34
  by_cases h2 : l2.length = l7.length
  · have h2' : ((l2.length : Int) = (l7.length : Int)) := by omega
    rw [show (!decide ((l2.length : Int) = (l7.length : Int))) = false by simp [h2'], br_f]
    have := L34_eq n h2 hl l2.length 0 n (by omega) hn
    simp only [List.drop_zero] at this
    rw [show lpN (L34_1 n l2 l7) n 0 = _ from this, ob_s]
    by_cases h3 : l2 = l7
    · simp [h3]
    · simp [h3]
  · have h2' : ¬ ((l2.length : Int) = (l7.length : Int)) := by omega
    have h3 : ¬ l2 = l7 := fun e => h2 (by rw [e])
    rw [show (!decide ((l2.length : Int) = (l7.length : Int))) = true by simp [h2'], br_t]
    simp [h3]
theorem F27_eq (n : Nat) (x1 x6 : Int) (l2 l7 : List (Int × Int)) (hl : l2.length < 4611686018427387904) (hn : l2.length < n) : F27 n x1 l2 x6 l7 = some (decide (x1 = x6) && decide (l2 = l7)) := by
  unfold F27
  by_cases h : x1 = x6
  · rw [br_dt h, F34_eq n l2 l7 hl hn, ob_s]; simp [h]
  · rw [br_df h]; simp [h]

/-! ### Check -/
/-- The edges are in order behind one, and within n nodes. -/
def okEp (N : Int) : Int × Int → List (Int × Int) → Bool
  | _, [] => true
  | p, e :: es => decide (0 ≤ e.1 ∧ e.1 < e.2 ∧ e.2 < N) && decide (p.1 < e.1 ∨ p.1 = e.1 ∧ p.2 < e.2) && okEp N e es
def okG (N : Int) (es : List (Int × Int)) : Bool := decide (1 ≤ N ∧ N ≤ 64 ∧ es.length ≤ 200) && okEp N (-1, -1) es
def ckG (N : Int) (es : List (Int × Int)) : Int := if okG N es then 0 else 180
theorem F94_eq (n : Nat) (x : Int) : F94 n x = some false := by unfold F94; simp
theorem F81_eq (n : Nat) (x y : Int) : F81 n x y = some (if x < y then -1 else if y < x then 1 else 0) := by
  unfold F81
  simp only [F94_eq, ob_s, br_f]
  rw [br_ite, br_ite]
  by_cases h : x < y
  · simp [h]
  · by_cases h' : y < x <;> simp [h, h']
/-- Two pairs, compared. -/
theorem F64_eq (n : Nat) (a b c d : Int) (hn : 2 < n) : F64 n [a, b] [c, d] = some (if a < c then -1 else if c < a then 1 else if b < d then -1 else if d < b then 1 else 0) := by
  obtain ⟨n, rfl⟩ : ∃ n', n = n' + 3 := ⟨n - 3, by omega⟩
  have L0 : L64_1 (n + 3) [a, b] [c, d] 0 = if a < c then some (.inr (.inl (-1))) else if c < a then some (.inr (.inl 1)) else some (.inl 1) := by
    unfold L64_1
    simp only [List.length_cons, List.length_nil]
    rw [br_dt (by decide), show inB 0 (0 + 1 + 1) = true by decide, gd_t]
    simp only [Int.toNat_zero, List.getElem?_cons_zero, ob_s]
    rw [br_df (by decide), gd_t]
    simp only [F81_eq, ob_s]
    by_cases h : a < c
    · simp [h, br_t]
    · by_cases h' : c < a
      · simp [h, h', br_t]
      · simp only [h, h', if_false, decide_true, Bool.not_true, br_f]
        rw [wrap_in (by decide) (by decide)]; rfl
  have L1 : L64_1 (n + 3) [a, b] [c, d] 1 = if b < d then some (.inr (.inl (-1))) else if d < b then some (.inr (.inl 1)) else some (.inl 2) := by
    unfold L64_1
    simp only [List.length_cons, List.length_nil]
    rw [br_dt (by decide), show inB 1 (0 + 1 + 1) = true by decide, gd_t]
    simp only [show (1 : Int).toNat = 1 from rfl, List.getElem?_cons_succ, List.getElem?_cons_zero, ob_s]
    rw [br_df (by decide), gd_t]
    simp only [F81_eq, ob_s]
    by_cases h : b < d
    · simp [h, br_t]
    · by_cases h' : d < b
      · simp [h, h', br_t]
      · simp only [h, h', if_false, decide_true, Bool.not_true, br_f]
        rw [wrap_in (by decide) (by decide)]; rfl
  have L2 : L64_1 (n + 3) [a, b] [c, d] 2 = some (.inr (.inr ())) := by
    unfold L64_1
    simp only [List.length_cons, List.length_nil]
    rw [br_df (by decide)]
  unfold F64
  by_cases h1 : a < c
  · rw [if_pos h1] at L0 ⊢
    rw [lp_end L0]; rfl
  · rw [if_neg h1] at L0 ⊢
    by_cases h2 : c < a
    · rw [if_pos h2] at L0 ⊢
      rw [lp_end L0]; rfl
    · rw [if_neg h2] at L0 ⊢
      rw [lp_next L0]
      by_cases h3 : b < d
      · rw [if_pos h3] at L1 ⊢
        rw [lp_end L1]; rfl
      · rw [if_neg h3] at L1 ⊢
        by_cases h4 : d < b
        · rw [if_pos h4] at L1 ⊢
          rw [lp_end L1]; rfl
        · rw [if_neg h4] at L1 ⊢
          rw [lp_next L1, lp_end L2, ob_s]
          simp only [List.length_cons, List.length_nil]
          rfl
def stepOk (N : Int) (p e : Int × Int) : Bool := decide (0 ≤ e.1 ∧ e.1 < e.2 ∧ e.2 < N) && decide (p.1 < e.1 ∨ p.1 = e.1 ∧ p.2 < e.2)
theorem okE_cons (N : Int) (p e : Int × Int) (es : List (Int × Int)) : okEp N p (e :: es) = (stepOk N p e && okEp N e es) := rfl
theorem L23_step (n : Nat) (l2 : List (Int × Int)) (N : Int) (p : Int × Int) (i : Nat) (e : Int × Int) (hn : 2 < n) (hi : l2[i]? = some e) (hb : i < 4611686018427387904) :
    L23_1 n l2 N (p.1, p.2, (i : Int)) = if stepOk N p e then some (.inl (e.1, e.2, ((i + 1 : Nat) : Int))) else some (.inr (.inl ())) := by
  obtain ⟨p1, p2⟩ := p
  obtain ⟨a, b⟩ := e
  have a1 : i < l2.length := (List.getElem?_eq_some_iff.1 hi).1
  have e1 : l2[((i : Nat) : Int).toNat]? = some (a, b) := by simpa using hi
  have c1 : decide (((i : Nat) : Int) < (l2.length : Int)) = true := decide_eq_true (by omega)
  simp only [L23_1, c1, br_t, inB_nat a1, gd_t, e1, ob_s, F64_eq n _ _ _ _ hn, wrap_succ hb]
  by_cases h1 : a < 0
  · have : stepOk N (p1, p2) (a, b) = false := by simp [stepOk]; omega
    rw [this, br_dt h1, ob_s, br_t]; rfl
  · rw [br_df h1]
    by_cases h2 : b ≤ a
    · have : stepOk N (p1, p2) (a, b) = false := by simp [stepOk]; omega
      rw [this, br_dt h2, ob_s, br_t]; rfl
    · rw [br_df h2]
      by_cases h3 : N ≤ b
      · have : stepOk N (p1, p2) (a, b) = false := by simp [stepOk]; omega
        rw [this, br_dt h3, ob_s, br_t]; rfl
      · rw [br_df h3, ob_s]
        by_cases h4 : p1 < a ∨ p1 = a ∧ p2 < b
        · have : stepOk N (p1, p2) (a, b) = true := by simp [stepOk]; omega
          have h5 : ¬ (0 ≤ (if p1 < a then (-1 : Int) else if a < p1 then 1 else if p2 < b then -1 else if b < p2 then 1 else 0)) := by
            rcases h4 with h4 | ⟨h4, h5⟩
            · rw [if_pos h4]; decide
            · rw [if_neg (by omega), if_neg (by omega), if_pos h5]; decide
          rw [this, br_df h5]; rfl
        · have : stepOk N (p1, p2) (a, b) = false := by simp [stepOk]; omega
          have h5 : 0 ≤ (if p1 < a then (-1 : Int) else if a < p1 then 1 else if p2 < b then -1 else if b < p2 then 1 else 0) := by
            rw [if_neg (by omega)]
            by_cases h6 : a < p1
            · rw [if_pos h6]; decide
            · rw [if_neg h6, if_neg (by omega)]; split <;> decide
          rw [this, br_dt h5]; rfl
theorem L23_eq (n0 : Nat) (l2 : List (Int × Int)) (N : Int) (hn : 2 < n0) (hl : l2.length < 4611686018427387904) : ∀ k i p n, i + k = l2.length → k < n → lpN (L23_1 n0 l2 N) n (p.1, p.2, (i : Int)) = some (if okEp N p (l2.drop i) then .inr () else .inl ()) := by
  intro k
  induction k with
  | zero =>
    intro i p n hi hk
    obtain ⟨n, rfl⟩ : ∃ n', n = n' + 1 := ⟨n - 1, by omega⟩
    rw [List.drop_of_length_le (by omega)]
    exact lp_end (by simp only [L23_1]; rw [br_df (by omega)]; rfl)
  | succ k ih =>
    intro i p n hi hk
    obtain ⟨n, rfl⟩ : ∃ n', n = n' + 1 := ⟨n - 1, by omega⟩
    have a1 : i < l2.length := by omega
    have hs := L23_step n0 l2 N p i l2[i] hn (by simp [a1]) (by omega)
    rw [List.drop_eq_getElem_cons a1, okE_cons]
    by_cases h : stepOk N p l2[i] = true
    · rw [if_pos h] at hs
      rw [lp_next hs, ih (i + 1) l2[i] n (by omega) (by omega), h, Bool.true_and]
    · rw [if_neg h] at hs
      rw [lp_end hs]
      simp only [Bool.not_eq_true] at h
      rw [h]; rfl
theorem head_eq (N : Int) (len : Nat) : (br (decide (N < 1)) (some true) (br (decide (64 < N)) (some true) (some (decide (200 < (len : Int)))))) = some (!decide (1 ≤ N ∧ N ≤ 64 ∧ len ≤ 200)) := by
  rw [br_ite, br_ite]
  by_cases h1 : N < 1
  · have : ¬ (1 ≤ N ∧ N ≤ 64 ∧ len ≤ 200) := by omega
    simp [h1, this]
  · by_cases h2 : 64 < N
    · have : ¬ (1 ≤ N ∧ N ≤ 64 ∧ len ≤ 200) := by omega
      simp [h1, h2, this]
    · by_cases h3 : 200 < (len : Int)
      · have : ¬ (1 ≤ N ∧ N ≤ 64 ∧ len ≤ 200) := by omega
        simp only [h1, h2, h3, this, decide_true, decide_false, Bool.false_eq_true, if_false, Bool.not_false]
      · have : (1 ≤ N ∧ N ≤ 64 ∧ len ≤ 200) := by omega
        simp only [h1, h2, h3, this, decide_true, decide_false, Bool.false_eq_true, if_false, Bool.not_true, and_self]
theorem F23_eq (n : Nat) (N : Int) (es : List (Int × Int)) (hn : 2 < n) (hl : es.length < 4611686018427387904) (hk : es.length < n) : F23 n N es = some (ckG N es) := by
  unfold F23
  rw [head_eq, ob_s]
  unfold ckG okG
  by_cases h : 1 ≤ N ∧ N ≤ 64 ∧ es.length ≤ 200
  · rw [decide_eq_true h, Bool.not_true, br_f, Bool.true_and]
    have := L23_eq n es N hn hl es.length 0 (-1, -1) n (by omega) hk
    rw [List.drop_zero] at this
    rw [show lpN (L23_1 n es N) n (-1, -1, 0) = _ from this, ob_s]
    by_cases h2 : okEp N (-1, -1) es = true
    · rw [if_pos h2, if_pos h2]
    · rw [if_neg h2, if_neg h2]
  · rw [decide_eq_false h, Bool.not_false, br_t, Bool.false_and]; rfl
/-- What stands ahead of place i. -/
def prevOf (l : List (Int × Int)) (i : Nat) (p : Int × Int) : Prop := (i = 0 ∧ p = (-1, -1)) ∨ (0 < i ∧ l[i - 1]? = some p)
theorem L43_step (n : Nat) (l2 : List (Int × Int)) (N : Int) (p : Int × Int) (i : Nat) (e : Int × Int) (hp : prevOf l2 i p) (hi : l2[i]? = some e) (hb : i < 4611686018427387904) :
    L43_1 n l2 N (i : Int) = if stepOk N p e then some (.inl ((i + 1 : Nat) : Int)) else some (.inr (.inl ())) := by
  obtain ⟨p1, p2⟩ := p
  obtain ⟨a, b⟩ := e
  have a1 : i < l2.length := (List.getElem?_eq_some_iff.1 hi).1
  have e1 : l2[((i : Nat) : Int).toNat]? = some (a, b) := by simpa using hi
  have c1 : decide (((i : Nat) : Int) < (l2.length : Int)) = true := decide_eq_true (by omega)
  simp only [L43_1, c1, br_t, inB_nat a1, gd_t, e1, ob_s, wrap_succ hb]
  by_cases h1 : a < 0
  · have : stepOk N (p1, p2) (a, b) = false := by simp [stepOk]; omega
    rw [this, br_dt h1, ob_s, br_t]; rfl
  · rw [br_df h1]
    by_cases h2 : b ≤ a
    · have : stepOk N (p1, p2) (a, b) = false := by simp [stepOk]; omega
      rw [this, br_dt h2, ob_s, br_t]; rfl
    · rw [br_df h2, ob_s]
      by_cases h3 : N ≤ b
      · have : stepOk N (p1, p2) (a, b) = false := by simp [stepOk]; omega
        rw [this, br_dt h3]; rfl
      · rw [br_df h3]
        rcases hp with ⟨rfl, h4⟩ | ⟨h0, h4⟩
        · cases h4
          have : stepOk N (-1, -1) (a, b) = true := by simp [stepOk]; omega
          rw [this, br_df (by omega), ob_s, br_f]; rfl
        · have w1 : IntKind.wrap .i64 ((i : Int) - 1) = ((i - 1 : Nat) : Int) := by rw [wrap_in (by omega) (by omega)]; omega
          have e2 : l2[((i - 1 : Nat) : Int).toNat]? = some (p1, p2) := by simpa using h4
          rw [br_dt (by omega), w1, inB_nat (by omega : i - 1 < l2.length), gd_t, e2, ob_s]
          simp only [gd_t]
          by_cases h5 : a < p1
          · have : stepOk N (p1, p2) (a, b) = false := by simp [stepOk]; omega
            rw [this, br_dt h5, ob_s, br_t]; rfl
          · rw [br_df h5]
            by_cases h6 : p1 = a
            · rw [br_dt h6, ob_s]
              by_cases h7 : b ≤ p2
              · have : stepOk N (p1, p2) (a, b) = false := by simp [stepOk]; omega
                rw [this, br_dt h7]; rfl
              · have : stepOk N (p1, p2) (a, b) = true := by simp [stepOk]; omega
                rw [this, br_df h7]; rfl
            · have : stepOk N (p1, p2) (a, b) = true := by simp [stepOk]; omega
              rw [this, br_df h6, ob_s, br_f]; rfl
theorem L43_eq (n0 : Nat) (l2 : List (Int × Int)) (N : Int) (hl : l2.length < 4611686018427387904) : ∀ k i p n, prevOf l2 i p → i + k = l2.length → k < n → lpN (L43_1 n0 l2 N) n (i : Int) = some (if okEp N p (l2.drop i) then .inr () else .inl ()) := by
  intro k
  induction k with
  | zero =>
    intro i p n hp hi hk
    obtain ⟨n, rfl⟩ : ∃ n', n = n' + 1 := ⟨n - 1, by omega⟩
    rw [List.drop_of_length_le (by omega)]
    exact lp_end (by simp only [L43_1]; rw [br_df (by omega)]; rfl)
  | succ k ih =>
    intro i p n hp hi hk
    obtain ⟨n, rfl⟩ : ∃ n', n = n' + 1 := ⟨n - 1, by omega⟩
    have a1 : i < l2.length := by omega
    have hs := L43_step n0 l2 N p i l2[i] hp (by simp [a1]) (by omega)
    rw [List.drop_eq_getElem_cons a1, okE_cons]
    by_cases h : stepOk N p l2[i] = true
    · rw [if_pos h] at hs
      rw [lp_next hs, ih (i + 1) l2[i] n (.inr ⟨by omega, by simp [a1]⟩) (by omega) (by omega), h, Bool.true_and]
    · rw [if_neg h] at hs
      rw [lp_end hs]
      simp only [Bool.not_eq_true] at h
      rw [h]; rfl
theorem F43_eq (n : Nat) (N : Int) (es : List (Int × Int)) (hl : es.length < 4611686018427387904) (hk : es.length < n) : F43 n N es = some (ckG N es) := by
  unfold F43
  rw [head_eq, ob_s]
  unfold ckG okG
  by_cases h : 1 ≤ N ∧ N ≤ 64 ∧ es.length ≤ 200
  · rw [decide_eq_true h, Bool.not_true, br_f, Bool.true_and]
    have := L43_eq n es N hl es.length 0 (-1, -1) n (.inl ⟨rfl, rfl⟩) (by omega) hk
    rw [List.drop_zero] at this
    rw [show lpN (L43_1 n es N) n 0 = _ from this, ob_s]
    by_cases h2 : okEp N (-1, -1) es = true
    · rw [if_pos h2, if_pos h2]
    · rw [if_neg h2, if_neg h2]
  · rw [decide_eq_false h, Bool.not_false, br_t, Bool.false_and]; rfl
end Go.Proofs.YtpclggcpobakhaaDoor
end

section
/-
  Chapter 18, plain laws: drafts and bends come to some graph.
-/
namespace Go.Proofs.YtpclggcpobakhaaDoor
open Go Go.Ab Go.Ab.W

theorem lp_tot {σ ρ : Type} {body : σ → Option (σ ⊕ ρ)} {R : ρ → Prop} (I : Nat → σ → Prop) (h : ∀ k s, I k s → (∃ s', body s = some (.inl s') ∧ ∃ k', k' < k ∧ I k' s') ∨ ∃ r, body s = some (.inr r) ∧ R r) : ∀ k s n, I k s → k < n → ∃ r, lpN body n s = some r ∧ R r := by
  intro k
  induction k using Nat.strongRecOn with
  | _ k ih =>
    intro s n hI hk
    obtain ⟨n, rfl⟩ : ∃ n', n = n' + 1 := ⟨n - 1, by omega⟩
    rcases h k s hI with ⟨s', h1, k', h2, h3⟩ | ⟨r, h1, h2⟩
    · obtain ⟨r, h4, h5⟩ := ih k' h2 s' n h3 (by omega)
      exact ⟨r, by rw [lp_next h1]; exact h4, h5⟩
    · exact ⟨r, lp_end h1, h2⟩
/-- Some bool. -/
theorem br_bool {c : Bool} {a b : Option Bool} (ha : c = true → ∃ x, a = some x) (hb : c = false → ∃ x, b = some x) : ∃ x, br c a b = some x := by
  cases c with
  | true => exact ha rfl
  | false => exact hb rfl
theorem some_b (x : Bool) : ∃ y, some x = some y := ⟨x, rfl⟩
theorem lim_of {n : Nat} (h : n ≤ 1073741824) : lim n = true := Nat.ble_eq_true_of_le h

theorem L40_1_tot (n0 : Nat) (l4 : List (Nat × Nat)) (N a b : Int) (hN : N ≠ 0) (v : Bool) (n : Nat) (hn : 3 < n) : ∃ r, lpN (L40_1 n0 l4 N a b) n (v, 0) = some r := by
  obtain ⟨r, h, _⟩ := lp_tot (body := L40_1 n0 l4 N a b) (R := fun _ => True) (fun k s => 0 ≤ s.2 ∧ s.2 + k = 3) (fun k s hI => by
    obtain ⟨v, i⟩ := s
    obtain ⟨h1, h2⟩ := hI
    simp only at h1 h2
    simp only [L40_1]
    by_cases c1 : i < (l4.length : Int)
    · rw [br_dt c1, ob_s]
      by_cases c2 : i < 3
      · rw [decide_eq_true c2, br_t]
        have hb : inB i l4.length = true := decide_eq_true ⟨h1, by omega⟩
        have hlt : i.toNat < l4.length := by omega
        have he : l4[i.toNat]? = some l4[i.toNat] := by simp [hlt]
        rw [hb, gd_t, he, ob_s]
        generalize l4[i.toNat] = e
        obtain ⟨x, y⟩ := e
        simp only [gd_t]
        rw [gd_dt hN, gd_dt hN]
        have : ∃ z, br v (some true) (br (decide (Int.tmod (IntKind.wrap .i64 ((x : Nat) : Int)) N = a)) (br (decide (Int.tmod (IntKind.wrap .i64 ((y : Nat) : Int)) N = b)) (some true) (br (decide (Int.tmod (IntKind.wrap .i64 ((x : Nat) : Int)) N = b)) (some (decide (Int.tmod (IntKind.wrap .i64 ((y : Nat) : Int)) N = a))) (some false))) (br (decide (Int.tmod (IntKind.wrap .i64 ((x : Nat) : Int)) N = b)) (some (decide (Int.tmod (IntKind.wrap .i64 ((y : Nat) : Int)) N = a))) (some false))) = some z :=
          br_bool (fun _ => some_b _) fun _ => br_bool (fun _ => br_bool (fun _ => some_b _) fun _ => br_bool (fun _ => some_b _) fun _ => some_b _) fun _ => br_bool (fun _ => some_b _) fun _ => some_b _
        obtain ⟨z, hz⟩ := this
        refine .inl ⟨(z, i + 1), ?_, k - 1, by omega, by simp only; omega, by simp only; omega⟩
        rw [hz, ob_s, wrap_in (by omega) (by omega)]
      · rw [decide_eq_false c2, br_f]; exact .inr ⟨v, rfl, trivial⟩
    · rw [br_df c1, ob_s, br_f]; exact .inr ⟨v, rfl, trivial⟩) 3 (v, 0) n ⟨by simp, by simp⟩ hn
  exact ⟨r, h⟩
theorem L40_2_tot (n0 : Nat) (N a w : Int) (x3 : Nat) (l4 : List (Nat × Nat)) (hN : 1 ≤ N ∧ N ≤ 12) (hw : w ≠ 0) (l : List (Int × Int)) (c b : Int) (M : Nat) (hl : l.length ≤ M) (hM : M ≤ 1000) (hb : 0 ≤ b ∧ b ≤ N) (n : Nat) (hn : 12 < n) (hn0 : 3 < n0) :
    ∃ r, lpN (L40_2 n0 N a w x3 l4) n (l, c, b) = some r ∧ r.1.length ≤ M + 12 := by
  refine lp_tot (body := L40_2 n0 N a w x3 l4) (R := fun r => r.1.length ≤ M + 12) (fun k s => 0 ≤ s.2.2 ∧ s.2.2 + k = N ∧ s.1.length + k ≤ M + 12) (fun k s hI => ?_) (N - b).toNat (l, c, b) n ⟨hb.1, by simp only; omega, by simp only; omega⟩ (by omega)
  obtain ⟨l, c, b⟩ := s
  obtain ⟨h1, h2, h3⟩ := hI
  simp only at h1 h2 h3
  simp only [L40_2]
  by_cases c1 : b < N
  · rw [br_dt c1]
    have e1 : ∃ z, br (decide (b = IntKind.wrap .i64 (a + w))) (some true) (br (decide (b = IntKind.wrap .i64 (a + 1))) (gd (decide (w ≠ 0)) (some (!decide (Int.tmod b w = 0)))) (some false)) = some z :=
      br_bool (fun _ => some_b _) fun _ => br_bool (fun _ => ⟨_, gd_dt hw _⟩) fun _ => some_b _
    obtain ⟨z, hz⟩ := e1
    rw [hz, ob_s]
    have e2 : ∃ c' z', br z (ob (ob (br (decide (Int.tmod c 2 = 1)) (ob (some (ushr .u16 x3 (ui .u64 (Int.tmod (IntKind.wrap .i64 (Int.tdiv c 2)) 16)))) fun y2906 => some (decide (uw .u16 (uw .u16 y2906 &&& uw .u16 1) = 1))) (some false)) fun v2904 => br v2904 (some false) (some z)) fun v2900 => some (IntKind.wrap .i64 (c + 1), v2900)) (some (c, z)) = some (c', z') := by
      cases z with
      | false => exact ⟨c, false, rfl⟩
      | true =>
        rw [br_t]
        have : ∃ q, (ob (br (decide (Int.tmod c 2 = 1)) (ob (some (ushr .u16 x3 (ui .u64 (Int.tmod (IntKind.wrap .i64 (Int.tdiv c 2)) 16)))) fun y2906 => some (decide (uw .u16 (uw .u16 y2906 &&& uw .u16 1) = 1))) (some false)) fun v2904 => br v2904 (some false) (some true)) = some q := by
          by_cases h : Int.tmod c 2 = 1
          · rw [br_dt h, ob_s, ob_s]; exact br_bool (fun _ => some_b _) fun _ => some_b _
          · rw [br_df h, ob_s]; exact br_bool (fun _ => some_b _) fun _ => some_b _
        obtain ⟨q, hq⟩ := this
        exact ⟨_, q, by rw [hq, ob_s]⟩
    obtain ⟨c', z', hz'⟩ := e2
    rw [hz', ob_s]
    obtain ⟨q, hq⟩ := L40_1_tot n0 l4 N a b (by omega) z' n0 hn0
    simp only [hq, ob_s]
    cases q with
    | false =>
      refine .inl ⟨(l, c', b + 1), ?_, k - 1, by omega, by simp only; omega, by simp only; omega, by simp only; omega⟩
      rw [br_f, ob_s, wrap_in (by omega) (by omega)]
    | true =>
      refine .inl ⟨(l ++ [(a, b)], c', b + 1), ?_, k - 1, by omega, by simp only; omega, by simp only; omega, by simp; omega⟩
      rw [br_t, lim_of (by simp; omega), gd_t, ob_s, wrap_in (by omega) (by omega)]
  · rw [br_df c1]; exact .inr ⟨(l, c), rfl, by simp only; omega⟩
theorem L40_3_tot (n0 : Nat) (N w : Int) (x3 : Nat) (l4 : List (Nat × Nat)) (hN : 1 ≤ N ∧ N ≤ 12) (hw : w ≠ 0) (n : Nat) (hn : 12 < n) (hn0 : 12 < n0) :
    ∃ r, lpN (L40_3 n0 N x3 l4) n (w, [], 0, 0) = some r ∧ r.length ≤ 200 := by
  refine lp_tot (body := L40_3 n0 N x3 l4) (R := fun r => r.length ≤ 200) (fun k s => s.1 = w ∧ 0 ≤ s.2.2.2 ∧ s.2.2.2 + k = N ∧ s.2.1.length + 12 * k ≤ 144) (fun k s hI => ?_) N.toNat (w, [], 0, 0) n ⟨rfl, by simp, by simp only; omega, by simp; omega⟩ (by omega)
  obtain ⟨w', l, c, a⟩ := s
  obtain ⟨rfl, h1, h2, h3⟩ := hI
  simp only at h1 h2 h3 hw
  simp only [L40_3]
  by_cases c1 : a < N
  · rw [br_dt c1]
    obtain ⟨r, hr, hrl⟩ := L40_2_tot n0 N a w' x3 l4 hN hw l c (IntKind.wrap .i64 (a + 1)) l.length (Nat.le_refl _) (by omega) (by rw [wrap_in (by omega) (by omega)]; omega) n0 hn0 (by omega)
    obtain ⟨l', c'⟩ := r
    simp only [hr, ob_s]
    exact .inl ⟨(w', l', c', a + 1), by rw [wrap_in (by omega) (by omega)], k - 1, by omega, rfl, by simp only; omega, by simp only; omega, by simp only at hrl ⊢; omega⟩
  · rw [br_df c1]; exact .inr ⟨l, rfl, by omega⟩
theorem F40_tot (n x1 x2 x3 : Nat) (l4 : List (Nat × Nat)) (hn : 12 < n) : ∃ N es, F40 n x1 x2 x3 l4 = some (N, es) ∧ es.length ≤ 200 := by
  unfold F40
  have w1 : IntKind.wrap .i64 ((x1 % 4 : Nat) : Int) = ((x1 % 4 : Nat) : Int) := wrap_in (by omega) (by omega)
  have w2 : IntKind.wrap .i64 ((x2 % 3 : Nat) : Int) = ((x2 % 3 : Nat) : Int) := wrap_in (by omega) (by omega)
  have w3 : IntKind.wrap .i64 (1 + ((x1 % 4 : Nat) : Int)) = 1 + ((x1 % 4 : Nat) : Int) := wrap_in (by omega) (by omega)
  have w4 : IntKind.wrap .i64 (1 + ((x2 % 3 : Nat) : Int)) = 1 + ((x2 % 3 : Nat) : Int) := wrap_in (by omega) (by omega)
  rw [w1, w2, w3, w4, ob_s]
  have hN : ∀ a b : Nat, a < 4 → b < 3 → 1 ≤ (1 + (a : Int)) * (1 + (b : Int)) ∧ (1 + (a : Int)) * (1 + (b : Int)) ≤ 12 := by
    intro a b ha hb
    have h1 : a = 0 ∨ a = 1 ∨ a = 2 ∨ a = 3 := by omega
    have h2 : b = 0 ∨ b = 1 ∨ b = 2 := by omega
    rcases h1 with rfl | rfl | rfl | rfl <;> rcases h2 with rfl | rfl | rfl <;> decide
  have hN' := hN (x1 % 4) (x2 % 3) (Nat.mod_lt _ (by omega)) (Nat.mod_lt _ (by omega))
  rw [wrap_in (by omega) (by omega)]
  obtain ⟨r, hr, hl⟩ := L40_3_tot n ((1 + ((x1 % 4 : Nat) : Int)) * (1 + ((x2 % 3 : Nat) : Int))) (1 + ((x1 % 4 : Nat) : Int)) x3 l4 hN' (by omega) n hn hn
  exact ⟨_, r, by rw [hr, ob_s], hl⟩
end Go.Proofs.YtpclggcpobakhaaDoor
end

section
/-
  Chapter 18, plain laws: bends come to some graph; GraphChecks.
-/
namespace Go.Proofs.YtpclggcpobakhaaDoor
open Go Go.Ab Go.Ab.W

theorem L65_1_tot (n0 : Nat) (a : Int) (x2 : Nat) (l : List (Int × Int)) (b : Int) (ha : 0 ≤ a ∧ a < 64) (hb : 0 ≤ b ∧ b ≤ 65) (hl : l.length ≤ 201) (n : Nat) (hn : 65 < n) : ∃ r, lpN (L65_1 n0 a x2) n (l, b) = some r ∧ r.length ≤ 201 := by
  refine lp_tot (body := L65_1 n0 a x2) (R := fun r => r.length ≤ 201) (fun k s => 0 ≤ s.2 ∧ s.2 + k = 65 ∧ s.1.length ≤ 201) (fun k s hI => ?_) (65 - b).toNat (l, b) n ⟨hb.1, by simp only; omega, hl⟩ (by omega)
  obtain ⟨l, b⟩ := s
  obtain ⟨h1, h2, h3⟩ := hI
  simp only at h1 h2 h3
  have hmi : mi (IntKind.wrap .i64 (a + 5)) (64 : Int) ≤ 64 := by unfold mi; split <;> omega
  have w2 : IntKind.wrap .i64 ((x2 % 3 : Nat) : Int) = ((x2 % 3 : Nat) : Int) := wrap_in (by omega) (by omega)
  have w3 : IntKind.wrap .i64 (199 + ((x2 % 3 : Nat) : Int)) = 199 + ((x2 % 3 : Nat) : Int) := wrap_in (by omega) (by omega)
  simp only [L65_1, w2, w3]
  by_cases c1 : b < mi (IntKind.wrap .i64 (a + 5)) (64 : Int)
  · rw [br_dt c1, ob_s]
    by_cases c2 : (l.length : Int) < 199 + ((x2 % 3 : Nat) : Int)
    · rw [decide_eq_true c2, br_t]
      have : x2 % 3 < 3 := Nat.mod_lt _ (by omega)
      rw [lim_of (by simp; omega), gd_t, wrap_in (by omega) (by omega)]
      exact .inl ⟨(l ++ [(a, b)], b + 1), rfl, k - 1, by omega, by simp only; omega, by simp only; omega, by simp; omega⟩
    · rw [decide_eq_false c2, br_f]; exact .inr ⟨l, rfl, h3⟩
  · rw [br_df c1, ob_s, br_f]; exact .inr ⟨l, rfl, h3⟩
theorem L65_2_tot (n0 : Nat) (x2 : Nat) (n : Nat) (hn : 65 < n) (hn0 : 65 < n0) : ∃ r, lpN (L65_2 n0 x2) n ([], 0) = some r ∧ r.length ≤ 201 := by
  refine lp_tot (body := L65_2 n0 x2) (R := fun r => r.length ≤ 201) (fun k s => 0 ≤ s.2 ∧ s.2 + k = 64 ∧ s.1.length ≤ 201) (fun k s hI => ?_) 64 ([], 0) n ⟨by simp, by simp, by simp⟩ (by omega)
  obtain ⟨l, a⟩ := s
  obtain ⟨h1, h2, h3⟩ := hI
  simp only at h1 h2 h3
  simp only [L65_2]
  by_cases c1 : a < 64
  · rw [br_dt c1, wrap_in (by omega) (by omega)]
    obtain ⟨r, hr, hrl⟩ := L65_1_tot n0 a x2 l (a + 1) ⟨h1, c1⟩ ⟨by omega, by omega⟩ h3 n0 hn0
    rw [hr, ob_s]
    exact .inl ⟨(r, a + 1), rfl, k - 1, by omega, by simp only; omega, by simp only; omega, hrl⟩
  · rw [br_df c1]; exact .inr ⟨l, rfl, h3⟩
theorem okB_of {lo hi : Int} {n : Nat} (h : 0 ≤ lo ∧ lo ≤ hi ∧ hi ≤ (n : Int)) : okB lo hi n = true := decide_eq_true h
theorem F65_tot (n x1 x2 : Nat) (x3 x4 x5 N : Int) (l7 : List (Int × Int)) (hx : x2 < 256) (hl : l7.length ≤ 1000000) (hn : 65 < n) : ∃ N' es, F65 n x1 x2 x3 x4 x5 N l7 = some (N', es) ∧ es.length ≤ 300 := by
  unfold F65
  have hmi : 0 ≤ mi (l7.length : Int) (210 : Int) ∧ mi (l7.length : Int) (210 : Int) ≤ (l7.length : Int) ∧ mi (l7.length : Int) (210 : Int) ≤ 210 := by unfold mi; split <;> omega
  rw [okB_of ⟨by omega, hmi.1, hmi.2.1⟩, gd_t]
  generalize hL : ((l7.drop (0 : Int).toNat).take ((mi (l7.length : Int) (210 : Int) : Int).toNat - (0 : Int).toNat)) = L
  have hLl : L.length ≤ 210 := by
    rw [← hL, List.length_take]
    have := hmi.2.2
    omega
  unfold F26
  rw [lim_of (by omega), gd_t, ob_s]
  have w1 : IntKind.wrap .i64 ((L.length : Int) + 1) = (L.length : Int) + 1 := wrap_in (by omega) (by omega)
  rw [w1, gd_dt (by omega)]
  have w2 : IntKind.wrap .i64 ((x2 : Nat) : Int) = ((x2 : Nat) : Int) := wrap_in (by omega) (by omega)
  rw [w2, ob_s]
  obtain ⟨y, hy⟩ : ∃ y, y = Int.tmod ((x2 : Nat) : Int) ((L.length : Int) + 1) := ⟨_, rfl⟩
  have hy1 : 0 ≤ y ∧ y ≤ L.length := by
    rw [hy, Int.tmod_eq_emod_of_nonneg (Int.natCast_nonneg _)]
    have h1 := Int.emod_nonneg ((x2 : Nat) : Int) (show ((L.length : Int) + 1) ≠ 0 by omega)
    have h2 := Int.emod_lt_of_pos ((x2 : Nat) : Int) (show 0 < ((L.length : Int) + 1) by omega)
    omega
  rw [← hy]
  have fin : ∀ (q : Option (Int × List (Int × Int) × Nat)), (∃ N' es k, q = some (N', es, k) ∧ es.length ≤ 300) → ∃ N' es, (ob q fun (v256, l257, n259) => some (v256, l257)) = some (N', es) ∧ es.length ≤ 300 := by
    rintro q ⟨N', es, k, rfl, h⟩
    exact ⟨N', es, rfl, h⟩
  have ins : ∀ p : Int × Int, F82 n L y [p] = some (L.take y.toNat ++ [p] ++ L.drop y.toNat) ∧ (L.take y.toNat ++ [p] ++ L.drop y.toNat).length ≤ 300 := by
    intro p
    refine ⟨?_, by simp; omega⟩
    unfold F82
    rw [okB_of ⟨hy1.1, hy1.2, Int.le_refl _⟩, gd_t, lim_of (by simp; omega), gd_t]
  refine fin _ ?_
  have case1 : ∀ {p : Prop} [Decidable p] {a b : Option (Int × List (Int × Int) × Nat)}, (p → ∃ N' es k, a = some (N', es, k) ∧ es.length ≤ 300) → (¬ p → ∃ N' es k, b = some (N', es, k) ∧ es.length ≤ 300) → ∃ N' es k, br (decide p) a b = some (N', es, k) ∧ es.length ≤ 300 := by
    intro p _ a b ha hb
    by_cases h : p
    · rw [br_dt h]; exact ha h
    · rw [br_df h]; exact hb h
  have base : ∀ (N' : Int) (k : Nat), ∃ N'' es k', (some (N', L, k) : Option (Int × List (Int × Int) × Nat)) = some (N'', es, k') ∧ es.length ≤ 300 := fun N' k => ⟨_, _, _, rfl, by omega⟩
  refine case1 (fun _ => base _ _) fun _ => case1 (fun _ => ?_) fun _ => case1 (fun _ => case1 (fun h => ?_) fun _ => base _ _) fun _ => case1 (fun _ => case1 (fun h => ?_) fun _ => base _ _) fun _ => case1 (fun _ => case1 (fun h => ?_) fun _ => base _ _) fun _ => case1 (fun _ => base _ _) fun _ => case1 (fun _ => ?_) fun _ => base _ _
  · rw [(ins _).1, ob_s]; exact ⟨_, _, _, rfl, (ins _).2⟩
  · unfold F49
    rw [wrap_in (by omega) (by omega), okB_of ⟨hy1.1, by omega, by omega⟩, gd_t, decide_eq_true (show y < y + 1 by omega), gd_t, lim_of (by omega), gd_t, ob_s]
    exact ⟨_, _, _, rfl, by simp; omega⟩
  · have hb : inB y L.length = true := decide_eq_true ⟨hy1.1, by omega⟩
    have hlt : y.toNat < L.length := by omega
    have he : L[y.toNat]? = some L[y.toNat] := by simp [hlt]
    rw [hb, gd_t, he, ob_s]
    generalize L[y.toNat] = e
    obtain ⟨u, v⟩ := e
    have he2 : (L.set y.toNat (v, v))[y.toNat]? = some (v, v) := by simp [hlt]
    simp only [gd_t, he2, ob_s]
    exact ⟨_, _, _, rfl, by simp; omega⟩
  · have hb : inB y L.length = true := decide_eq_true ⟨hy1.1, by omega⟩
    have hlt : y.toNat < L.length := by omega
    have he : L[y.toNat]? = some L[y.toNat] := by simp [hlt]
    rw [hb, gd_t, he, ob_s]
    generalize L[y.toNat] = e
    obtain ⟨u, v⟩ := e
    simp only [(ins _).1, ob_s]
    exact ⟨_, _, _, rfl, (ins _).2⟩
  · obtain ⟨r, hr, hrl⟩ := L65_2_tot n x2 n hn hn
    rw [hr, ob_s]; exact ⟨_, _, _, rfl, by omega⟩
theorem F28_tot (n x1 x2 x3 : Nat) (l4 : List (Nat × Nat)) (x8 x9 : Nat) (x10 x11 x12 : Int) (x13 x14 : Nat) (x15 x16 x17 : Int) (h9 : x9 < 256) (h14 : x14 < 256) (hn : 65 < n) :
    ∃ N1 e1 N2 e2 N3 e3, F28 n x1 x2 x3 l4 x8 x9 x10 x11 x12 x13 x14 x15 x16 x17 = some (N1, e1, N2, e2, N3, e3) ∧ e1.length ≤ 300 ∧ e2.length ≤ 300 ∧ e3.length ≤ 300 ∧ F40 n x1 x2 x3 l4 = some (N1, e1) := by
  obtain ⟨N1, e1, h1, g1⟩ := F40_tot n x1 x2 x3 l4 (by omega)
  obtain ⟨N2, e2, h2, g2⟩ := F65_tot n x8 x9 x10 x11 x12 N1 e1 h9 (by omega) hn
  obtain ⟨N3, e3, h3, g3⟩ := F65_tot n x13 x14 x15 x16 x17 N2 e2 h14 (by omega) hn
  refine ⟨N1, e1, N2, e2, N3, e3, ?_, by omega, g2, g3, h1⟩
  unfold F28
  simp only [h1, ob_s, h2, h3]

/-! ### GraphChecks -/
theorem L7_1_eq (n0 : Nat) (N1 N2 N3 N4 : Int) (e1 e2 e3 l19 : List (Int × Int)) (N : Int) (es : List (Int × Int)) (hes : es.length ≤ 300) (hn0 : 300 < n0) (n : Nat) (hn : 5 < n) :
    lpN (L7_1 n0 N1 e1 N2 e2 N3 e3 N4 l19 N es) n 0 = some (.inr ()) := by
  obtain ⟨r, h1, h2⟩ := lp_tot (body := L7_1 n0 N1 e1 N2 e2 N3 e3 N4 l19 N es) (R := fun r => r = .inr ()) (fun k s => 0 ≤ s ∧ s + k = 4) (fun k s hI => by
    obtain ⟨g1, g2⟩ := hI
    simp only [L7_1]
    by_cases c : s < 4
    · rw [br_dt c]
      have hb : inB s 4 = true := decide_eq_true ⟨g1, by omega⟩
      rw [hb, gd_t]
      generalize hl : ([(N1, e1), (N2, e2), (N3, e3), (N4, ((l19.drop (0 : Int).toNat).take ((mi (l19.length : Int) (5 : Int) : Int).toNat - (0 : Int).toNat)))] : List (Int × List (Int × Int))) = gs
      have hgl : gs.length = 4 := by rw [← hl]; rfl
      have hlt : s.toNat < gs.length := by omega
      have he : gs[s.toNat]? = some gs[s.toNat] := by simp [hlt]
      rw [he, ob_s]
      generalize gs[s.toNat] = g
      obtain ⟨N', es'⟩ := g
      simp only [F27_eq n0 N N' es es' (by omega) (by omega), F44_eq n0 N N' es es' (by omega) (by omega), ob_s]
      refine .inl ⟨s + 1, ?_, k - 1, by omega, by omega, by omega⟩
      rw [show (!((decide (N = N') && decide (es = es')) == (decide (N = N') && decide (es = es')))) = false by simp, br_f, wrap_in (by omega) (by omega)]
    · rw [br_df c]; exact .inr ⟨_, rfl, rfl⟩) 4 0 n ⟨by omega, by omega⟩ (by omega)
  rw [h1, h2]
theorem L7_2_eq (n0 : Nat) (N1 N2 N3 N4 : Int) (e1 e2 e3 l19 : List (Int × Int)) (h1 : e1.length ≤ 300) (h2 : e2.length ≤ 300) (h3 : e3.length ≤ 300) (hn0 : 300 < n0) (n : Nat) (hn : 5 < n) :
    lpN (L7_2 n0 N1 e1 N2 e2 N3 e3 N4 l19) n 0 = some (.inr ()) := by
  obtain ⟨r, k1, k2⟩ := lp_tot (body := L7_2 n0 N1 e1 N2 e2 N3 e3 N4 l19) (R := fun r => r = .inr ()) (fun k s => 0 ≤ s ∧ s + k = 4) (fun k s hI => by
    obtain ⟨g1, g2⟩ := hI
    simp only [L7_2]
    by_cases c : s < 4
    · rw [br_dt c]
      have hb : inB s 4 = true := decide_eq_true ⟨g1, by omega⟩
      rw [hb, gd_t]
      have hR : ((l19.drop (0 : Int).toNat).take ((mi (l19.length : Int) (5 : Int) : Int).toNat - (0 : Int).toNat)).length ≤ 300 := by
        rw [List.length_take]
        have : mi (l19.length : Int) (5 : Int) ≤ 5 := by unfold mi; split <;> omega
        omega
      have hgs : ∀ g ∈ ([(N1, e1), (N2, e2), (N3, e3), (N4, ((l19.drop (0 : Int).toNat).take ((mi (l19.length : Int) (5 : Int) : Int).toNat - (0 : Int).toNat)))] : List (Int × List (Int × Int))), g.2.length ≤ 300 := by
        intro g hg
        simp only [List.mem_cons, List.not_mem_nil, or_false] at hg
        rcases hg with rfl | rfl | rfl | rfl
        · exact h1
        · exact h2
        · exact h3
        · exact hR
      generalize hl : ([(N1, e1), (N2, e2), (N3, e3), (N4, ((l19.drop (0 : Int).toNat).take ((mi (l19.length : Int) (5 : Int) : Int).toNat - (0 : Int).toNat)))] : List (Int × List (Int × Int))) = gs at hgs ⊢
      have hgl : gs.length = 4 := by rw [← hl]; rfl
      have hlt : s.toNat < gs.length := by omega
      have he : gs[s.toNat]? = some gs[s.toNat] := by simp [hlt]
      have hg := hgs gs[s.toNat] (List.getElem_mem hlt)
      rw [he, ob_s]
      generalize gs[s.toNat] = g at hg
      obtain ⟨N', es'⟩ := g
      simp only at hg
      simp only [F23_eq n0 N' es' (by omega) (by omega) (by omega), F43_eq n0 N' es' (by omega) (by omega), ob_s]
      simp only [decide_true, Bool.not_true, br_f]
      rw [L7_1_eq n0 N1 N2 N3 N4 e1 e2 e3 l19 N' es' hg hn0 n0 (by omega), ob_s]
      exact .inl ⟨s + 1, by simp only; rw [wrap_in (by omega) (by omega)], k - 1, by omega, by omega, by omega⟩
    · rw [br_df c]; exact .inr ⟨_, rfl, rfl⟩) 4 0 n ⟨by omega, by omega⟩ (by omega)
  rw [k1, k2]
theorem F7_true (n x1 x2 x3 : Nat) (l4 : List (Nat × Nat)) (x8 x9 : Nat) (x10 x11 x12 : Int) (x13 x14 : Nat) (x15 x16 x17 x18 : Int) (l19 : List (Int × Int)) (h9 : x9 < 256) (h14 : x14 < 256) (hn : 300 < n) :
    F7 n x1 x2 x3 l4 x8 x9 x10 x11 x12 x13 x14 x15 x16 x17 x18 l19 = some true := by
  obtain ⟨N1, e1, N2, e2, N3, e3, h1, g1, g2, g3, _⟩ := F28_tot n x1 x2 x3 l4 x8 x9 x10 x11 x12 x13 x14 x15 x16 x17 h9 h14 (by omega)
  unfold F7
  have hmi : 0 ≤ mi (l19.length : Int) (5 : Int) ∧ mi (l19.length : Int) (5 : Int) ≤ (l19.length : Int) := by unfold mi; split <;> omega
  rw [okB_of ⟨by omega, hmi.1, hmi.2⟩, gd_t, h1, ob_s]
  simp only [L7_2_eq n N1 N2 N3 x18 e1 e2 e3 l19 g1 g2 g3 hn n (by omega), ob_s]
  rfl
end Go.Proofs.YtpclggcpobakhaaDoor
end
