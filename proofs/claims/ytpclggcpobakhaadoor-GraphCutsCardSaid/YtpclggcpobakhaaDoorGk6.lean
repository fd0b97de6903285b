/- Texts of the abstract machine and of the walks, joined: S18W5a S18W5 S18P2 S18P3 S18G S18G2 S18G3 S18D1 S18M. -/
import Derived.Test.YtpclggcpobakhaaDoorGk5
section
namespace Go.Proofs.YtpclggcpobakhaaDoor.W5
open Go Go.Ab Go.Ab.W Go.Proofs.YtpclggcpobakhaaDoor Go.Proofs.YtpclggcpobakhaaDoor.W0 Go.Proofs.YtpclggcpobakhaaDoor.WT Go.Proofs.YtpclggcpobakhaaDoor.W60
set_option maxRecDepth 10000
set_option maxHeartbeats 4000000
attribute [local irreducible] Tm.at Trie.set Trie.get AMem.get AMem.set AMem.alloc AMem.ww AMem.kill
theorem t55 : TyI E18w.P 55 true 4 := ⟨by kernel_rfl, by kernel_rfl, by kernel_rfl⟩
theorem t58 : TyI E18w.P 58 true 10 := ⟨by kernel_rfl, by kernel_rfl, by kernel_rfl⟩
theorem ar59 : ArT E18w.P 59 25 3 2 := ⟨by kernel_rfl, by kernel_rfl, by kernel_rfl⟩
theorem z25 : zeroA E18w.P 25 = some (.agg #[.int .i64 0, .slice none 0 0]) := by kernel_rfl
theorem t25 : TyI E18w.P 25 true 2 := ⟨by kernel_rfl, by kernel_rfl, by kernel_rfl⟩
theorem z61 : zeroA E18w.P 61 = some (.agg #[.int .u64 ((0 : Nat) : Int), .int .u64 ((0 : Nat) : Int)]) := by kernel_rfl
theorem fa25_0 : ∀ b o, fieldAddrA E18w.P 25 (ptr b o) 0 = some (ptr b (o + 0)) := fun _ _ => by kernel_rfl
theorem t3 : TyI E18w.P 3 false 1 := ⟨by kernel_rfl, by kernel_rfl, by kernel_rfl⟩
theorem bs61 : BdT E18w.P 61 (.agg #[.int .u64 ((0 : Nat) : Int), .int .u64 ((0 : Nat) : Int)]) [(0, 1), (1, 1)] := .mk' (by kernel_rfl) (by kernel_rfl)
theorem t61 : TyI E18w.P 61 true 2 := ⟨by kernel_rfl, by kernel_rfl, by kernel_rfl⟩
theorem ar61 : ArT E18w.P 61 28 2 1 := ⟨by kernel_rfl, by kernel_rfl, by kernel_rfl⟩
theorem fa25_1 : ∀ b o, fieldAddrA E18w.P 25 (ptr b o) 1 = some (ptr b (o + 1)) := fun _ _ => by kernel_rfl
theorem t23 : TyI E18w.P 23 false 1 := ⟨by kernel_rfl, by kernel_rfl, by kernel_rfl⟩
theorem u23 : E18w.P.underlying 23 = some (.slice 26) := by kernel_rfl
theorem s23 : SlT E18w.P 23 26 2 := SlT.of (by kernel_rfl)
theorem ar26 : ArT E18w.P 26 3 2 1 := ⟨by kernel_rfl, by kernel_rfl, by kernel_rfl⟩
theorem u3 : E18w.P.underlying 3 = some (.int .i64) := by kernel_rfl
theorem u102 : E18w.P.underlying 102 = some (.int .u64) := by kernel_rfl
theorem t26 : TyI E18w.P 26 true 2 := ⟨by kernel_rfl, by kernel_rfl, by kernel_rfl⟩
theorem z26 : zeroA E18w.P 26 = some (.agg #[.int .i64 0, .int .i64 0]) := by kernel_rfl
theorem u36 : E18w.P.underlying 36 = some (.slice 28) := by kernel_rfl
theorem s36 : SlT E18w.P 36 28 1 := SlT.of (by kernel_rfl)
theorem z28 : zeroA E18w.P 28 = some (.int .u64 ((0 : Nat) : Int)) := by kernel_rfl
theorem u26 : E18w.P.underlying 26 = some (.array 2 3) := by kernel_rfl
theorem eq26 : ∀ (x0 y0 : Int) (x1 y1 : Int), eqA E18w.P Op.maxDepth 26 (.agg #[.int .i64 x0, .int .i64 x1]) (.agg #[.int .i64 y0, .int .i64 y1]) = some (decide (x0 = y0) && decide (x1 = y1)) := fun x0 y0 x1 y1 => eq_i2 u26 t3.known t3.size t3.agg u3 x0 x1 y0 y1
theorem eg26 : E18w.P.eqGuardType E18w.P.depth 26 = false := by kernel_rfl
theorem u5 : E18w.P.underlying 5 = some (.int .u8) := by kernel_rfl
theorem bs26 : BdT E18w.P 26 (.agg #[.int .i64 0, .int .i64 0]) [(0, 1), (1, 1)] := .mk' (by kernel_rfl) (by kernel_rfl)
theorem z39 : zeroA E18w.P 39 = some (.slice none 0 0) := by kernel_rfl
theorem t39 : TyI E18w.P 39 false 1 := ⟨by kernel_rfl, by kernel_rfl, by kernel_rfl⟩
theorem z3 : zeroA E18w.P 3 = some (.int .i64 0) := by kernel_rfl
theorem t28 : TyI E18w.P 28 false 1 := ⟨by kernel_rfl, by kernel_rfl, by kernel_rfl⟩
theorem s39 : SlT E18w.P 39 3 1 := SlT.of (by kernel_rfl)
theorem z36 : zeroA E18w.P 36 = some (.slice none 0 0) := by kernel_rfl
theorem t36 : TyI E18w.P 36 false 1 := ⟨by kernel_rfl, by kernel_rfl, by kernel_rfl⟩
theorem u39 : E18w.P.underlying 39 = some (.slice 3) := by kernel_rfl
theorem f29_ok (n : Nat) (x1 : Int) (l2 : List (Int × Int)) (x6 : Nat) (a3 : Option Addr) (c4 : Nat) (r : Nat × Nat) (hF : F29 n x1 l2 x6 = some r) (m : AMem) (h5 : Rd m a3 c4 2 l2.length (l2.map (eP (eI .i64) (eI .i64)))) :
  CallA E18w 29 [.agg #[.int .i64 x1, .slice a3 l2.length c4], .int .u64 ((x6 : Nat) : Int)] m (fun v m' => ∃ x : Unit, v = .agg #[.int .u64 ((r.1 : Nat) : Int), .int .u64 ((r.2 : Nat) : Int)] ∧ Hp m m' []) := by
 unfold F29 at hF
 refine call_wk (m0 := m) (ps := [.rd a3 c4 2 l2.length (l2.map (eP (eI .i64) (eI .i64)))]) (N := 24) (rs := [.cell 4 61]) rfl Tryd.func29 rfl rfl rfl ((Hp.start m).inn rfl h5) <| Wk.seq <| Wk.region <| Wo.x (o_bx rfl) gn rfl fun b7 => ?_
 refine Wo.x (o_al z61 rfl) gn rfl fun b8 => ?_
 refine Wo.nil <| At.tn <| Wk.seq <| Wk.seq ?_
 obtain ⟨v16, h18, hF⟩ := ob_some hF
 refine Wk.cut (G := (fun (r : Bool) (g : Unit) => match r, g with | v16, _ => ⟨.normal, [(1, .int .u64 ((x6 : Nat) : Int)), (2, ptr b7 0), (4, ptr b8 0), (12, .bool v16)], [.obj b7 (.cells [.int .i64 x1, .slice a3 l2.length c4] .own), .rd a3 c4 2 l2.length (l2.map (eP (eI .i64) (eI .i64))), .obj b8 (.cells [.int .u64 ((0 : Nat) : Int), .int .u64 ((0 : Nat) : Int)] .own)]⟩) v16) ?_ ?_
 ·clear hF
  revert v16
  intro r hF
  refine Wk.region <| Wo.od (o_fa (r := ptr b7 0) rfl (fa25_0 _ _)) rfl <| Wo.od (o_ld (k := 1) t3 rfl rfl rfl) rfl <| Wo.od (o_bi rfl rfl (bin_lss _ _ _)) rfl <| Wo.od (o_mv rfl) rfl ?_
  rcases br_some hF with ⟨h17, hF⟩ | ⟨h17, hF⟩
  ·refine Wo.s (gg rfl rfl (eTF h17)) rfl <| Wo.s (gg rfl rfl (eTF h17)) rfl <| Wo.s (gg rfl rfl (eTF h17)) rfl <| Wo.od (o_pt rfl h17 rfl) rfl <| Wo.nil ?_
   cases hF
   exact At.en () rfl (sc rfl (sc rfl (sc rfl (sc rfl sn)))) (Turn.picks [1, 2, 0] rfl rfl)
  ·refine Wo.og (o_fa (r := ptr b7 0) rfl (fa25_0 _ _)) (gg rfl rfl (eFF h17)) rfl <| Wo.og (o_ld (k := 1) t3 rfl rfl rfl) (gg rfl rfl (eFF h17)) rfl <| Wo.og (o_bi rfl rfl (bin_gtr _ _ _)) (gg rfl rfl (eFF h17)) rfl <| Wo.od (o_pf rfl h17 rfl) rfl <| Wo.nil ?_
   cases hF
   exact At.en () rfl (sc rfl (sc rfl (sc rfl (sc rfl sn)))) (Turn.picks [1, 2, 0] rfl rfl)
 ·clear h18
  rintro ⟨⟩
  refine At.tn ?_
  rcases br_some hF with ⟨h20, hF⟩ | ⟨h20, hF⟩
  ·refine Wk.condT rfl h20 <| Wk.seq <| Wk.region <| Wo.od (o_mv rfl) rfl <| Wo.od (o_mv rfl) rfl <| Wo.od (o_bd rfl z61 rfl (bd_s bs61 rfl rfl rfl)) rfl <| Wo.o0 (o_st (k := 2) t61 rfl rfl rfl rfl rfl) <| Wo.nil <| At.tn <| Wk.ret <| At.tr ?_
   cases hF
   exact At.ret (.cell (k := 2) t61 rfl rfl rfl .nil) fun m' hm => ⟨(), rfl, (Turn.picks [] rfl rfl) m' hm⟩
  ·refine Wk.condF rfl h20 <| Wk.skip <| At.tn <| Wk.seq <| Wk.region <| Wo.od (o_mv rfl) rfl <| Wo.od (o_mv rfl) rfl <| Wo.od (o_fa (r := ptr b7 0) rfl (fa25_0 _ _)) rfl <| Wo.od (o_ld (k := 0) t3 rfl rfl rfl) rfl ?_
   obtain ⟨h21, hF⟩ := gd_some hF
   refine Wo.od (o_bi rfl rfl (ub_shl rfl _ _ h21)) rfl <| Wo.od (o_bi rfl rfl (ub_sub rfl _ _)) rfl <| Wo.od (o_bi rfl rfl (ub_and rfl _ _)) rfl <| Wo.od (o_bd rfl z61 rfl (bd_s bs61 rfl rfl rfl)) rfl <| Wo.o0 (o_st (k := 2) t61 rfl rfl rfl rfl rfl) <| Wo.nil <| At.tn <| Wk.ret ?_
   cases hF
   exact At.ret (.cell (k := 2) t61 rfl rfl rfl .nil) fun m' hm => ⟨(), rfl, (Turn.picks [] rfl rfl) m' hm⟩
theorem f43_ok (n : Nat) (x1 : Int) (l2 : List (Int × Int)) (a3 : Option Addr) (c4 : Nat) (r : Int) (hF : F43 n x1 l2 = some r) (m : AMem) (h5 : Rd m a3 c4 2 l2.length (l2.map (eP (eI .i64) (eI .i64)))) :
  CallA E18w 43 [.agg #[.int .i64 x1, .slice a3 l2.length c4]] m (fun v m' => ∃ x : Unit, v = .int .i64 r ∧ Hp m m' []) := by
 unfold F43 at hF
 refine call_wk (m0 := m) (ps := [.rd a3 c4 2 l2.length (l2.map (eP (eI .i64) (eI .i64)))]) (N := 87) (rs := [.tmp 2]) rfl Tryd.func43 rfl rfl rfl ((Hp.start m).inn rfl h5) <| Wk.seq <| Wk.region <| Wo.x (o_bx rfl) gn rfl fun b6 => ?_
 refine Wo.od (o_as rfl) rfl <| Wo.nil <| At.tn <| Wk.seq <| Wk.seq ?_
 obtain ⟨v17, h20, hF⟩ := ob_some hF
 refine Wk.cut (G := (fun (r : Bool) (g : Unit) => match r, g with | v17, _ => ⟨.normal, [(1, ptr b6 0), (19, .bool v17)], [.obj b6 (.cells [.int .i64 x1, .slice a3 l2.length c4] .own), .rd a3 c4 2 l2.length (l2.map (eP (eI .i64) (eI .i64)))]⟩) v17) ?_ ?_
 ·clear hF
  revert v17
  intro r hF
  refine Wk.region <| Wo.od (o_fa (r := ptr b6 0) rfl (fa25_0 _ _)) rfl <| Wo.od (o_ld (k := 0) t3 rfl rfl rfl) rfl <| Wo.od (o_bi rfl rfl (bin_lss _ _ _)) rfl <| Wo.od (o_mv rfl) rfl ?_
  rcases br_some hF with ⟨h18, hF⟩ | ⟨h18, hF⟩
  ·refine Wo.s (gg rfl rfl (eTF h18)) rfl <| Wo.s (gg rfl rfl (eTF h18)) rfl <| Wo.s (gg rfl rfl (eTF h18)) rfl <| Wo.od (o_pt rfl h18 rfl) rfl <| Wo.od (o_mv rfl) rfl <| Wo.s (gg rfl rfl rfl) rfl <| Wo.s (gg rfl rfl rfl) rfl <| Wo.s (gg rfl rfl rfl) rfl <| Wo.s (gg rfl rfl rfl) rfl <| Wo.od (o_pT rfl rfl) rfl ?_
   refine Wo.nil ?_
   cases hF
   exact At.en () rfl (sc rfl (sc rfl sn)) (Turn.picks [0, 1] rfl rfl)
  ·refine Wo.og (o_fa (r := ptr b6 0) rfl (fa25_0 _ _)) (gg rfl rfl (eFF h18)) rfl <| Wo.og (o_ld (k := 0) t3 rfl rfl rfl) (gg rfl rfl (eFF h18)) rfl <| Wo.og (o_bi rfl rfl (bin_gtr _ _ _)) (gg rfl rfl (eFF h18)) rfl <| Wo.od (o_pf rfl h18 rfl) rfl <| Wo.od (o_mv rfl) rfl ?_
   rcases br_some hF with ⟨h19, hF⟩ | ⟨h19, hF⟩
   ·refine Wo.s (gg rfl rfl (eTF h19)) rfl <| Wo.s (gg rfl rfl (eTF h19)) rfl <| Wo.s (gg rfl rfl (eTF h19)) rfl <| Wo.s (gg rfl rfl (eTF h19)) rfl <| Wo.od (o_pt rfl h19 rfl) rfl <| Wo.nil ?_
    cases hF
    exact At.en () rfl (sc rfl (sc rfl sn)) (Turn.picks [0, 1] rfl rfl)
   ·refine Wo.og (o_fa (r := ptr b6 1) rfl (fa25_1 _ _)) (gg rfl rfl (eFF h19)) rfl <| Wo.og (o_ld (k := 0) t23 rfl rfl rfl) (gg rfl rfl (eFF h19)) rfl <| Wo.og (o_ln (k := 1) u23 rfl rfl (.inl rfl)) (gg rfl rfl (eFF h19)) rfl <| Wo.og (o_bi rfl rfl (bin_gtr _ _ _)) (gg rfl rfl (eFF h19)) rfl <| Wo.od (o_pf rfl h19 rfl) rfl <| Wo.nil ?_
    cases hF
    exact At.en () rfl (sc rfl (sc rfl sn)) (Turn.picks [0, 1] rfl rfl)
 ·clear h20
  rintro ⟨⟩
  refine At.tn ?_
  rcases br_some hF with ⟨h22, hF⟩ | ⟨h22, hF⟩
  ·refine Wk.condT rfl h22 <| Wk.seq <| Wk.region <| Wo.od (o_as rfl) rfl <| Wo.nil <| At.tn <| Wk.ret <| At.tr ?_
   cases hF
   exact At.ret (.tmp rfl .nil) fun m' hm => ⟨(), rfl, (Turn.picks [] rfl rfl) m' hm⟩
  ·refine Wk.condF rfl h22 <| Wk.skip <| At.tn <| Wk.seq <| Wk.seq <| Wk.region <| Wo.od (o_as rfl) rfl <| Wo.nil <| At.tn <| Wk.block ?_
   obtain ⟨r209, h208, hF⟩ := ob_some hF
   refine Wk.cut (G := (fun (r : (Unit) ⊕ (Unit)) (g : Unit) => match r, g with | .inl _, _ => ⟨.ret, [(2, .int .i64 180)], []⟩ | .inr _, _ => ⟨(.exit 0), [], []⟩) r209) ?_ ?_
   ·refine Wk.weak (fs' := [(1, ptr b6 0), (3, .int .i64 0)]) (ps' := [.obj b6 (.cells [.int .i64 x1, .slice a3 l2.length c4] .own), .rd a3 c4 2 l2.length (l2.map (eP (eI .i64) (eI .i64)))]) (sc rfl (sc rfl sn)) (Turn.picks [0, 1] rfl rfl) ?_
    refine Wk.loop (σ := Int) (ρ := (Unit) ⊕ (Unit)) (γ := Unit) (δ := fun _ => Unit) _ (fun (s : Int) (g : Unit) => match s, g with | v24, _ => ⟨.normal, [(1, ptr b6 0), (3, .int .i64 v24)], [.obj b6 (.cells [.int .i64 x1, .slice a3 l2.length c4] .own), .rd a3 c4 2 l2.length (l2.map (eP (eI .i64) (eI .i64)))]⟩) (fun (r : (Unit) ⊕ (Unit)) (g : Unit) => match r, g with | .inl _, _ => ⟨.ret, [(2, .int .i64 180)], []⟩ | .inr _, _ => ⟨(.exit 0), [], []⟩) ?_ (fun _ _ => rfl) (fun r d => by rcases r with _ | _ <;> (intro e; cases e)) _ _ _ h208 ()
    clear hF h208
    rintro v24 ⟨⟩ r hF
    unfold L43_1 at hF
    refine Wk.seq <| Wk.seq <| Wk.region <| Wo.od (o_mv rfl) rfl <| Wo.od (o_fa (r := ptr b6 1) rfl (fa25_1 _ _)) rfl <| Wo.od (o_ld (k := 0) t23 rfl rfl rfl) rfl <| Wo.od (o_ln (k := 1) u23 rfl rfl (.inl rfl)) rfl <| Wo.od (o_bi rfl rfl (bin_lss _ _ _)) rfl <| Wo.nil <| At.tn ?_
    rcases br_some hF with ⟨h117, hF⟩ | ⟨h117, hF⟩
    ·refine Wk.condT rfl h117 <| Wk.skip <| At.tn <| Wk.seq <| Wk.block <| Wk.seq <| Wk.draw (by kernel_rfl) <| Wo.od (o_fa (r := ptr b6 1) rfl (fa25_1 _ _)) rfl <| Wo.od (o_ld (k := 0) t23 rfl rfl rfl) rfl <| Wo.od (o_mv rfl) rfl ?_
     obtain ⟨h163, hF⟩ := gd_some hF
     replace h163 := inB_some h163
     refine Wo.openr (k := 1) rfl (pos_of h163) ?_
     rintro b164 o165 rfl
     refine Wo.og (o_ixs s23 rfl rfl h163) gn rfl <| Wo.od (o_ia (r := ptr b164 (o165 + v24.toNat * 2 + 0)) rfl rfl (ia_c ar26 (i := 0) (by decide))) rfl ?_
     obtain ⟨⟨x166, x167⟩, h168, hF⟩ := ob_some hF
     refine Wo.od (o_ldr (k := 0) t3 rfl rfl (map_at h168) rfl rfl) rfl <| Wo.od (o_fa (r := ptr b6 1) rfl (fa25_1 _ _)) rfl <| Wo.od (o_ld (k := 1) t23 rfl rfl rfl) rfl <| Wo.od (o_mv rfl) rfl ?_
     obtain ⟨h169, hF⟩ := gd_some hF
     replace h169 := inB_some h169
     refine Wo.og (o_ixs s23 rfl rfl h169) gn rfl <| Wo.od (o_ia (r := ptr b164 (o165 + v24.toNat * 2 + 1)) rfl rfl (ia_c ar26 (i := 1) (by decide))) rfl <| Wo.od (o_ldr (k := 0) t3 rfl rfl (map_at h168) rfl rfl) rfl <| Wo.od (o_as rfl) rfl <| Wo.od (o_as rfl) rfl <| Wo.nil <| At.tn <| Wk.seq <| Wk.seq ?_
     obtain ⟨v180, h183, hF⟩ := ob_some hF
     refine Wk.cut (G := (fun (r : Bool) (g : Unit) => match r, g with | v180, _ => ⟨.normal, [(1, ptr b6 0), (3, .int .i64 v24), (4, .int .i64 x166), (5, .int .i64 x167), (51, .bool v180)], [.obj b6 (.cells [.int .i64 x1, .slice (some ⟨b164, o165, none⟩) l2.length c4] .own), .ro b164 o165 2 l2.length (l2.map (eP (eI .i64) (eI .i64))), .rd (some ⟨b164, o165, none⟩) c4 2 l2.length (l2.map (eP (eI .i64) (eI .i64)))]⟩) v180) ?_ ?_
     ·clear hF
      revert v180
      intro r hF
      refine Wk.region <| Wo.od (o_mv rfl) rfl <| Wo.od (o_bi rfl rfl (bin_lss _ _ _)) rfl <| Wo.od (o_mv rfl) rfl ?_
      rcases br_some hF with ⟨h181, hF⟩ | ⟨h181, hF⟩
      ·refine Wo.s (gg rfl rfl (eTF h181)) rfl <| Wo.s (gg rfl rfl (eTF h181)) rfl <| Wo.s (gg rfl rfl (eTF h181)) rfl <| Wo.od (o_pt rfl h181 rfl) rfl <| Wo.od (o_mv rfl) rfl <| Wo.s (gg rfl rfl rfl) rfl <| Wo.s (gg rfl rfl rfl) rfl <| Wo.s (gg rfl rfl rfl) rfl <| Wo.s (gg rfl rfl rfl) rfl <| Wo.od (o_pT rfl rfl) rfl ?_
       refine Wo.nil ?_
       cases hF
       exact At.en () rfl (sc rfl (sc rfl (sc rfl (sc rfl (sc rfl sn))))) (Turn.picks [1, 0, 2] rfl rfl)
      ·refine Wo.og (o_mv rfl) (gg rfl rfl (eFF h181)) rfl <| Wo.og (o_mv rfl) (gg rfl rfl (eFF h181)) rfl <| Wo.og (o_bi rfl rfl (bin_geq _ _ _)) (gg rfl rfl (eFF h181)) rfl <| Wo.od (o_pf rfl h181 rfl) rfl <| Wo.od (o_mv rfl) rfl ?_
       rcases br_some hF with ⟨h182, hF⟩ | ⟨h182, hF⟩
       ·refine Wo.s (gg rfl rfl (eTF h182)) rfl <| Wo.s (gg rfl rfl (eTF h182)) rfl <| Wo.s (gg rfl rfl (eTF h182)) rfl <| Wo.s (gg rfl rfl (eTF h182)) rfl <| Wo.od (o_pt rfl h182 rfl) rfl <| Wo.nil ?_
        cases hF
        exact At.en () rfl (sc rfl (sc rfl (sc rfl (sc rfl (sc rfl sn))))) (Turn.picks [1, 0, 2] rfl rfl)
       ·refine Wo.og (o_mv rfl) (gg rfl rfl (eFF h182)) rfl <| Wo.og (o_fa (r := ptr b6 0) rfl (fa25_0 _ _)) (gg rfl rfl (eFF h182)) rfl <| Wo.og (o_ld (k := 1) t3 rfl rfl rfl) (gg rfl rfl (eFF h182)) rfl <| Wo.og (o_bi rfl rfl (bin_geq _ _ _)) (gg rfl rfl (eFF h182)) rfl <| Wo.od (o_pf rfl h182 rfl) rfl <| Wo.nil ?_
        cases hF
        exact At.en () rfl (sc rfl (sc rfl (sc rfl (sc rfl (sc rfl sn))))) (Turn.picks [1, 0, 2] rfl rfl)
     ·clear h183
      rintro ⟨⟩
      refine At.tn ?_
      rcases br_some hF with ⟨h185, hF⟩ | ⟨h185, hF⟩
      ·refine Wk.condT rfl h185 <| Wk.seq <| Wk.region <| Wo.od (o_as rfl) rfl <| Wo.nil <| At.tn <| Wk.ret <| At.tr <| At.br <| At.tr ?_
       cases hF
       exact At.en () rfl (sc rfl sn) (Turn.picks [] rfl rfl)
      ·refine Wk.condF rfl h185 <| Wk.skip <| At.tn <| Wk.seq ?_
       obtain ⟨v195, h205, hF⟩ := ob_some hF
       refine Wk.cut (G := (fun (r : Bool) (g : Unit) => match r, g with | v195, _ => ⟨.normal, [(1, ptr b6 0), (3, .int .i64 v24), (86, .bool v195)], [.obj b6 (.cells [.int .i64 x1, .slice (some ⟨b164, o165, none⟩) l2.length c4] .own), .ro b164 o165 2 l2.length (l2.map (eP (eI .i64) (eI .i64))), .rd (some ⟨b164, o165, none⟩) c4 2 l2.length (l2.map (eP (eI .i64) (eI .i64)))]⟩) v195) ?_ ?_
       ·clear hF
        revert v195
        intro r hF
        refine Wk.region <| Wo.od (o_mv rfl) rfl <| Wo.od (o_bi rfl rfl (bin_gtr _ _ _)) rfl <| Wo.od (o_mv rfl) rfl ?_
        rcases br_some hF with ⟨h196, hF⟩ | ⟨h196, hF⟩
        ·refine Wo.og (o_fa (r := ptr b6 1) rfl (fa25_1 _ _)) (gg rfl rfl (eTT h196)) rfl <| Wo.og (o_ld (k := 0) t23 rfl rfl rfl) (gg rfl rfl (eTT h196)) rfl <| Wo.og (o_mv rfl) (gg rfl rfl (eTT h196)) rfl <| Wo.og (o_bi rfl rfl (bin_sub _ _ _)) (gg rfl rfl (eTT h196)) rfl ?_
         obtain ⟨h197, hF⟩ := gd_some hF
         replace h197 := inB_some h197
         refine Wo.og (o_ixs s23 rfl rfl h197) (gg rfl rfl (eTT h196)) rfl <| Wo.og (o_ia (r := ptr b164 (o165 + (IntKind.wrap .i64 (v24 - 1)).toNat * 2 + 0)) rfl rfl (ia_c ar26 (i := 0) (by decide))) (gg rfl rfl (eTT h196)) rfl ?_
         obtain ⟨⟨x198, x199⟩, h200, hF⟩ := ob_some hF
         refine Wo.og (o_ldr (k := 1) t3 rfl rfl (map_at h200) rfl rfl) (gg rfl rfl (eTT h196)) rfl <| Wo.og (o_mv rfl) (gg rfl rfl (eTT h196)) rfl <| Wo.og (o_bi rfl rfl (bin_gtr _ _ _)) (gg rfl rfl (eTT h196)) rfl <| Wo.og (o_mv rfl) (gg rfl rfl (eTT h196)) rfl ?_
         rcases br_some hF with ⟨h201, hF⟩ | ⟨h201, hF⟩
         ·refine Wo.s (gg rfl rfl (eTF h201)) rfl <| Wo.s (gg rfl rfl (eTF h201)) rfl <| Wo.s (gg rfl rfl (eTF h201)) rfl <| Wo.s (gg rfl rfl (eTF h201)) rfl <| Wo.s (gg rfl rfl (eTF h201)) rfl <| Wo.s (gg rfl rfl (eTF h201)) rfl <| Wo.s (gg rfl rfl (eTF h201)) rfl <| Wo.s (gg rfl rfl (eTF h201)) rfl <| Wo.s (gg rfl rfl (eTF h201)) rfl <| Wo.s (gg rfl rfl (eTF h201)) rfl ?_
          refine Wo.s (gu rfl rfl) rfl <| Wo.s (gu rfl rfl) rfl <| Wo.s (gu rfl rfl) rfl <| Wo.s (gu rfl rfl) rfl <| Wo.s (gu rfl rfl) rfl <| Wo.s (gu rfl rfl) rfl <| Wo.s (gu rfl rfl) rfl <| Wo.s (gu rfl rfl) rfl <| Wo.s (gu rfl rfl) rfl <| Wo.s (gg rfl rfl (eTF h201)) rfl ?_
          refine Wo.og (o_pt rfl h201 rfl) (gg rfl rfl (eTT h196)) rfl <| Wo.od (o_pt rfl h196 rfl) rfl <| Wo.nil ?_
          cases hF
          exact At.en () rfl (sc rfl (sc rfl (sc rfl sn))) (Turn.picks [0, 1, 2] rfl rfl)
         ·refine Wo.og (o_fa (r := ptr b6 1) rfl (fa25_1 _ _)) (gg rfl rfl (eFF h201)) rfl <| Wo.og (o_ld (k := 0) t23 rfl rfl rfl) (gg rfl rfl (eFF h201)) rfl <| Wo.og (o_mv rfl) (gg rfl rfl (eFF h201)) rfl <| Wo.og (o_bi rfl rfl (bin_sub _ _ _)) (gg rfl rfl (eFF h201)) rfl ?_
          obtain ⟨h202, hF⟩ := gd_some hF
          replace h202 := inB_some h202
          refine Wo.og (o_ixs s23 rfl rfl h202) (gg rfl rfl (eFF h201)) rfl <| Wo.og (o_ia (r := ptr b164 (o165 + (IntKind.wrap .i64 (v24 - 1)).toNat * 2 + 0)) rfl rfl (ia_c ar26 (i := 0) (by decide))) (gg rfl rfl (eFF h201)) rfl <| Wo.og (o_ldr (k := 1) t3 rfl rfl (map_at h200) rfl rfl) (gg rfl rfl (eFF h201)) rfl <| Wo.og (o_mv rfl) (gg rfl rfl (eFF h201)) rfl <| Wo.og (o_bi rfl rfl (bin_eql _ _ _)) (gg rfl rfl (eFF h201)) rfl <| Wo.og (o_mv rfl) (gg rfl rfl (eFF h201)) rfl ?_
          rcases br_some hF with ⟨h203, hF⟩ | ⟨h203, hF⟩
          ·refine Wo.og (o_fa (r := ptr b6 1) rfl (fa25_1 _ _)) (gg rfl rfl (eTT h203)) rfl <| Wo.og (o_ld (k := 0) t23 rfl rfl rfl) (gg rfl rfl (eTT h203)) rfl <| Wo.og (o_mv rfl) (gg rfl rfl (eTT h203)) rfl <| Wo.og (o_bi rfl rfl (bin_sub _ _ _)) (gg rfl rfl (eTT h203)) rfl ?_
           obtain ⟨h204, hF⟩ := gd_some hF
           replace h204 := inB_some h204
           refine Wo.og (o_ixs s23 rfl rfl h204) (gg rfl rfl (eTT h203)) rfl <| Wo.og (o_ia (r := ptr b164 (o165 + (IntKind.wrap .i64 (v24 - 1)).toNat * 2 + 1)) rfl rfl (ia_c ar26 (i := 1) (by decide))) (gg rfl rfl (eTT h203)) rfl <| Wo.og (o_ldr (k := 1) t3 rfl rfl (map_at h200) rfl rfl) (gg rfl rfl (eTT h203)) rfl <| Wo.og (o_mv rfl) (gg rfl rfl (eTT h203)) rfl <| Wo.og (o_bi rfl rfl (bin_geq _ _ _)) (gg rfl rfl (eTT h203)) rfl <| Wo.og (o_pt rfl h203 rfl) (gg rfl rfl (eFF h201)) rfl <| Wo.og (o_pf rfl h201 rfl) (gg rfl rfl (eTT h196)) rfl <| Wo.od (o_pt rfl h196 rfl) rfl <| Wo.nil ?_
           cases hF
           exact At.en () rfl (sc rfl (sc rfl (sc rfl sn))) (Turn.picks [0, 1, 2] rfl rfl)
          ·refine Wo.s (gg rfl rfl (eFT h203)) rfl <| Wo.s (gg rfl rfl (eFT h203)) rfl <| Wo.s (gg rfl rfl (eFT h203)) rfl <| Wo.s (gg rfl rfl (eFT h203)) rfl <| Wo.s (gg rfl rfl (eFT h203)) rfl <| Wo.s (gg rfl rfl (eFT h203)) rfl <| Wo.s (gg rfl rfl (eFT h203)) rfl <| Wo.s (gg rfl rfl (eFT h203)) rfl <| Wo.s (gg rfl rfl (eFT h203)) rfl <| Wo.og (o_pf rfl h203 rfl) (gg rfl rfl (eFF h201)) rfl ?_
           refine Wo.og (o_pf rfl h201 rfl) (gg rfl rfl (eTT h196)) rfl <| Wo.od (o_pt rfl h196 rfl) rfl <| Wo.nil ?_
           cases hF
           exact At.en () rfl (sc rfl (sc rfl (sc rfl sn))) (Turn.picks [0, 1, 2] rfl rfl)
        ·refine Wo.s (gg rfl rfl (eFT h196)) rfl <| Wo.s (gg rfl rfl (eFT h196)) rfl <| Wo.s (gg rfl rfl (eFT h196)) rfl <| Wo.s (gg rfl rfl (eFT h196)) rfl <| Wo.s (gg rfl rfl (eFT h196)) rfl <| Wo.s (gg rfl rfl (eFT h196)) rfl <| Wo.s (gg rfl rfl (eFT h196)) rfl <| Wo.s (gg rfl rfl (eFT h196)) rfl <| Wo.s (gg rfl rfl (eFT h196)) rfl <| Wo.s (gg rfl rfl (eFT h196)) rfl ?_
         refine Wo.s (gu rfl rfl) rfl <| Wo.s (gu rfl rfl) rfl <| Wo.s (gu rfl rfl) rfl <| Wo.s (gu rfl rfl) rfl <| Wo.s (gu rfl rfl) rfl <| Wo.s (gu rfl rfl) rfl <| Wo.s (gu rfl rfl) rfl <| Wo.s (gu rfl rfl) rfl <| Wo.s (gu rfl rfl) rfl <| Wo.s (gu rfl rfl) rfl ?_
         refine Wo.s (gu rfl rfl) rfl <| Wo.s (gu rfl rfl) rfl <| Wo.s (gu rfl rfl) rfl <| Wo.s (gu rfl rfl) rfl <| Wo.s (gu rfl rfl) rfl <| Wo.s (gu rfl rfl) rfl <| Wo.s (gu rfl rfl) rfl <| Wo.s (gu rfl rfl) rfl <| Wo.s (gu rfl rfl) rfl <| Wo.s (gu rfl rfl) rfl ?_
         refine Wo.s (gg rfl rfl (eFT h196)) rfl <| Wo.od (o_pf rfl h196 rfl) rfl <| Wo.nil ?_
         cases hF
         exact At.en () rfl (sc rfl (sc rfl (sc rfl sn))) (Turn.picks [0, 1, 2] rfl rfl)
       ·clear h205
        rintro ⟨⟩
        refine At.tn ?_
        rcases br_some hF with ⟨h207, hF⟩ | ⟨h207, hF⟩
        ·refine Wk.condT rfl h207 <| Wk.seq <| Wk.region <| Wo.od (o_as rfl) rfl <| Wo.nil <| At.tn <| Wk.ret <| At.br <| At.tr ?_
         cases hF
         exact At.en () rfl (sc rfl sn) (Turn.picks [] rfl rfl)
        ·refine Wk.condF rfl h207 <| Wk.skip <| At.bn <| At.tn <| Wk.region <| Wo.od (o_mv rfl) rfl <| Wo.od (o_bi rfl rfl (bin_add _ _ _)) rfl <| Wo.od (o_as rfl) rfl <| Wo.nil ?_
         cases hF
         exact At.en () rfl (sc rfl (sc rfl sn)) (Turn.picks [0, 2] rfl rfl)
    ·refine Wk.condF rfl h117 <| Wk.exit <| At.te ?_
     cases hF
     exact At.en () rfl sn (Turn.picks [] rfl rfl)
   ·clear h208
    rcases r209 with _ | _
    ·rintro ⟨⟩
     refine At.br <| At.tr ?_
     cases hF
     exact At.ret (.tmp rfl .nil) fun m' hm => ⟨(), rfl, (Turn.picks [] rfl rfl) m' hm⟩
    ·rintro ⟨⟩
     refine At.be <| At.tn <| Wk.seq <| Wk.region <| Wo.od (o_as rfl) rfl <| Wo.nil <| At.tn <| Wk.ret ?_
     cases hF
     exact At.ret (.tmp rfl .nil) fun m' hm => ⟨(), rfl, (Turn.picks [] rfl rfl) m' hm⟩
theorem f66_ok (n : Nat) (x1 : Int) (l2 : List (Int × Int)) (x6 : Nat) (a3 : Option Addr) (c4 : Nat) (r : Int) (hF : F66 n x1 l2 x6 = some r) (m : AMem) (h5 : Rd m a3 c4 2 l2.length (l2.map (eP (eI .i64) (eI .i64)))) :
  CallA E18w 66 [.agg #[.int .i64 x1, .slice a3 l2.length c4], .int .u64 ((x6 : Nat) : Int)] m (fun v m' => ∃ x : Unit, v = .int .i64 r ∧ Hp m m' []) := by
 unfold F66 at hF
 refine call_wk (m0 := m) (ps := [.rd a3 c4 2 l2.length (l2.map (eP (eI .i64) (eI .i64)))]) (N := 22) (rs := [.tmp 4]) rfl Tryd.func66 rfl rfl rfl ((Hp.start m).inn rfl h5) <| Wk.seq <| Wk.region <| Wo.x (o_bx rfl) gn rfl fun b7 => ?_
 refine Wo.od (o_as rfl) rfl <| Wo.nil <| At.tn <| Wk.seq <| Wk.seq <| Wk.region <| Wo.od (o_ld (k := 0) t25 rfl rfl rfl) rfl ?_
 obtain ⟨r9, h8, hF⟩ := ob_some hF
 refine Wo.x (o_cl rfl rfl (fun m hm => f43_ok n x1 l2 a3 c4 _ h8 m (hm.rd (k := 1) rfl (.rd _ _ _ _ _))) fun _ => rfl) gn rfl ?_
 rintro ⟨⟩
 refine Wo.od (o_as rfl) rfl <| Wo.nil <| At.tn <| Wk.seq <| Wk.region <| Wo.od (o_mv rfl) rfl <| Wo.od (o_bi rfl rfl (ib_neq _ _)) rfl <| Wo.nil <| At.tn ?_
 rcases br_some hF with ⟨h10, hF⟩ | ⟨h10, hF⟩
 ·refine Wk.condT rfl h10 <| Wk.seq <| Wk.region <| Wo.od (o_mv rfl) rfl <| Wo.od (o_as rfl) rfl <| Wo.nil <| At.tn <| Wk.ret <| At.tr ?_
  have hr := Option.some.inj hF
  subst r
  exact At.ret (.tmp rfl .nil) fun m' hm => ⟨(), rfl, (Turn.picks [] rfl rfl) m' hm⟩
 ·refine Wk.condF rfl h10 <| Wk.skip <| At.tn <| Wk.seq <| Wk.seq ?_
  obtain ⟨v18, h20, hF⟩ := ob_some hF
  refine Wk.cut (G := (fun (r : Bool) (g : Unit) => match r, g with | v18, _ => ⟨.normal, [(21, .bool v18)], []⟩) v18) ?_ ?_
  ·clear hF
   revert v18
   intro r hF
   refine Wk.region <| Wo.od (o_fa (r := ptr b7 0) rfl (fa25_0 _ _)) rfl <| Wo.od (o_ld (k := 0) t3 rfl rfl rfl) rfl <| Wo.od (o_bi rfl rfl (bin_lss _ _ _)) rfl <| Wo.od (o_mv rfl) rfl ?_
   rcases br_some hF with ⟨h19, hF⟩ | ⟨h19, hF⟩
   ·refine Wo.og (o_mv rfl) (gg rfl rfl (eTT h19)) rfl <| Wo.og (o_fa (r := ptr b7 0) rfl (fa25_0 _ _)) (gg rfl rfl (eTT h19)) rfl <| Wo.og (o_ld (k := 0) t3 rfl rfl rfl) (gg rfl rfl (eTT h19)) rfl <| Wo.og (o_cv rfl (cv_u (by rw [u3]; rfl) u102 rfl)) (gg rfl rfl (eTT h19)) rfl <| Wo.og (o_bi rfl rfl (ub_shr _ _ (nn _))) (gg rfl rfl (eTT h19)) rfl <| Wo.og (o_bi rfl rfl (ub_neq _ _)) (gg rfl rfl (eTT h19)) rfl <| Wo.od (o_pt rfl h19 rfl) rfl <| Wo.nil ?_
    cases hF
    exact At.en () rfl (sc rfl sn) (Turn.picks [] rfl rfl)
   ·refine Wo.s (gg rfl rfl (eFT h19)) rfl <| Wo.s (gg rfl rfl (eFT h19)) rfl <| Wo.s (gg rfl rfl (eFT h19)) rfl <| Wo.s (gg rfl rfl (eFT h19)) rfl <| Wo.s (gg rfl rfl (eFT h19)) rfl <| Wo.s (gg rfl rfl (eFT h19)) rfl <| Wo.od (o_pf rfl h19 rfl) rfl <| Wo.nil ?_
    cases hF
    exact At.en () rfl (sc rfl sn) (Turn.picks [] rfl rfl)
  ·clear h20
   rintro ⟨⟩
   refine At.tn ?_
   rcases br_some hF with ⟨h22, hF⟩ | ⟨h22, hF⟩
   ·refine Wk.condT rfl h22 <| Wk.seq <| Wk.region <| Wo.od (o_as rfl) rfl <| Wo.nil <| At.tn <| Wk.ret <| At.tr ?_
    cases hF
    exact At.ret (.tmp rfl .nil) fun m' hm => ⟨(), rfl, (Turn.picks [] rfl rfl) m' hm⟩
   ·refine Wk.condF rfl h22 <| Wk.skip <| At.tn <| Wk.seq <| Wk.region <| Wo.od (o_as rfl) rfl <| Wo.nil <| At.tn <| Wk.ret ?_
    cases hF
    exact At.ret (.tmp rfl .nil) fun m' hm => ⟨(), rfl, (Turn.picks [] rfl rfl) m' hm⟩
theorem f67_ok (n : Nat) (x1 : Nat) (x2 : Int)  (r : Bool) (hF : F67 n x1 x2 = some r) (m : AMem)  :
  CallA E18w 67 [.int .u64 ((x1 : Nat) : Int), .int .i64 x2] m (fun v m' => ∃ x : Unit, v = .bool r ∧ Hp m m' []) := by
 unfold F67 at hF
 refine call_wk (m0 := m) (ps := []) (N := 11) (rs := [.tmp 4]) rfl Tryd.func67 rfl rfl rfl (Hp.start m) <| Wk.seq <| Wk.region <| Wo.od (o_as rfl) rfl <| Wo.nil <| At.tn <| Wk.seq <| Wk.region <| Wo.od (o_mv rfl) rfl <| Wo.od (o_mv rfl) rfl <| Wo.od (o_cv rfl (cv_u (by rw [u3]; rfl) u102 rfl)) rfl <| Wo.od (o_bi rfl rfl (ub_shr _ _ (nn _))) rfl <| Wo.od (o_bi rfl rfl (ub_and rfl _ _)) rfl <| Wo.od (o_bi rfl rfl (ub_eql _ _)) rfl <| Wo.od (o_as rfl) rfl <| Wo.nil <| At.tn <| Wk.ret ?_
 cases hF
 exact At.ret (.tmp rfl .nil) fun m' hm => ⟨(), rfl, (Turn.picks [] rfl rfl) m' hm⟩
theorem f68_ok (n : Nat) (x1 : Int)  (r : Nat) (hF : F68 n x1 = some r) (m : AMem)  :
  CallA E18w 68 [.int .i64 x1] m (fun v m' => ∃ x : Unit, v = .int .u64 ((r : Nat) : Int) ∧ Hp m m' []) := by
 unfold F68 at hF
 refine call_wk (m0 := m) (ps := []) (N := 6) (rs := [.tmp 2]) rfl Tryd.func68 rfl rfl rfl (Hp.start m) <| Wk.seq <| Wk.region <| Wo.od (o_as rfl) rfl <| Wo.nil <| At.tn <| Wk.seq <| Wk.region <| Wo.od (o_mv rfl) rfl <| Wo.od (o_cv rfl (cv_u (by rw [u3]; rfl) u102 rfl)) rfl <| Wo.od (o_bi rfl rfl (ub_shl rfl _ _ (nn _))) rfl <| Wo.od (o_as rfl) rfl <| Wo.nil <| At.tn <| Wk.ret ?_
 cases hF
 exact At.ret (.tmp rfl .nil) fun m' hm => ⟨(), rfl, (Turn.picks [] rfl rfl) m' hm⟩
theorem f71_ok (n : Nat) (x1 : Int) (l2 : List (Int × Int)) (x6 : Nat) (x7 : Int) (x8 : Int) (a3 : Option Addr) (c4 : Nat) (r : Nat) (hF : F71 n x1 l2 x6 x7 x8 = some r) (m : AMem) (h5 : Rd m a3 c4 2 l2.length (l2.map (eP (eI .i64) (eI .i64)))) :
  CallA E18w 71 [.agg #[.int .i64 x1, .slice a3 l2.length c4], .int .u64 ((x6 : Nat) : Int), .int .i64 x7, .int .i64 x8] m (fun v m' => ∃ x : Unit, v = .int .u64 ((r : Nat) : Int) ∧ Hp m m' []) := by
 unfold F71 at hF
 refine call_wk (m0 := m) (ps := [.rd a3 c4 2 l2.length (l2.map (eP (eI .i64) (eI .i64)))]) (N := 71) (rs := [.tmp 8]) rfl Tryd.func71 rfl rfl rfl ((Hp.start m).inn rfl h5) <| Wk.seq <| Wk.region <| Wo.x (o_bx rfl) gn rfl fun b9 => ?_
 refine Wo.od (o_as rfl) rfl <| Wo.nil <| At.tn <| Wk.seq <| Wk.region <| Wo.od (o_mv rfl) rfl ?_
 obtain ⟨r11, h10, hF⟩ := ob_some hF
 refine Wo.x (o_cl rfl rfl (fun m hm => f68_ok n x7  _ h10 m ) fun _ => rfl) gn rfl ?_
 rintro ⟨⟩
 refine Wo.od (o_as rfl) rfl <| Wo.nil <| At.tn <| Wk.seq <| Wk.seq <| Wk.region <| Wo.od (o_fa (r := ptr b9 1) rfl (fa25_1 _ _)) rfl <| Wo.od (o_ld (k := 0) t23 rfl rfl rfl) rfl <| Wo.od (o_ln (k := 1) u23 rfl rfl (.inl rfl)) rfl <| Wo.od (o_mv rfl) rfl <| Wo.nil <| At.tn <| Wk.block ?_
 obtain ⟨v200, h383, hF⟩ := ob_some hF
 refine Wk.cut (G := (fun (r : Nat) (g : Unit) => match r, g with | v200, _ => ⟨(.exit 0), [(9, .int .u64 ((v200 : Nat) : Int))], []⟩) v200) ?_ ?_
 ·refine Wk.weak (fs' := [(1, .int .u64 ((x6 : Nat) : Int)), (3, .int .i64 x8), (4, ptr b9 0), (9, .int .u64 ((r11 : Nat) : Int)), (17, .int .i64 (l2.length : Int)), (18, .int .i64 0)]) (ps' := [.obj b9 (.cells [.int .i64 x1, .slice a3 l2.length c4] .own), .rd a3 c4 2 l2.length (l2.map (eP (eI .i64) (eI .i64)))]) (sc rfl (sc rfl (sc rfl (sc rfl (sc rfl (sc rfl sn)))))) (Turn.picks [0, 1] rfl rfl) ?_
  refine Wk.loop (σ := Nat × Int) (ρ := Nat) (γ := Unit) (δ := fun _ => Unit) _ (fun (s : Nat × Int) (g : Unit) => match s, g with | (v14, v15), _ => ⟨.normal, [(1, .int .u64 ((x6 : Nat) : Int)), (3, .int .i64 x8), (4, ptr b9 0), (9, .int .u64 ((v14 : Nat) : Int)), (17, .int .i64 (l2.length : Int)), (18, .int .i64 v15)], [.obj b9 (.cells [.int .i64 x1, .slice a3 l2.length c4] .own), .rd a3 c4 2 l2.length (l2.map (eP (eI .i64) (eI .i64)))]⟩) (fun (r : Nat) (g : Unit) => match r, g with | v200, _ => ⟨(.exit 0), [(9, .int .u64 ((v200 : Nat) : Int))], []⟩) ?_ (fun _ _ => rfl) (fun r d => by intro e; cases e) _ _ _ h383 ()
  clear hF h383
  rintro ⟨v14, v15⟩ ⟨⟩ r hF
  unfold L71_2 at hF
  refine Wk.seq <| Wk.region <| Wo.od (o_bi rfl rfl (bin_lss _ _ _)) rfl <| Wo.nil <| At.tn <| Wk.seq ?_
  rcases br_some hF with ⟨h201, hF⟩ | ⟨h201, hF⟩
  ·refine Wk.condT rfl h201 <| Wk.skip <| At.tn <| Wk.seq <| Wk.block <| Wk.seq <| Wk.region <| Wo.od (o_as rfl) rfl <| Wo.nil <| At.tn <| Wk.block ?_
   obtain ⟨v294, h381, hF⟩ := ob_some hF
   refine Wk.cut (G := (fun (r : Nat) (g : Unit) => match r, g with | v294, _ => ⟨(.exit 2), [(1, .int .u64 ((x6 : Nat) : Int)), (3, .int .i64 x8), (4, ptr b9 0), (9, .int .u64 ((v294 : Nat) : Int)), (17, .int .i64 (l2.length : Int)), (18, .int .i64 v15)], [.obj b9 (.cells [.int .i64 x1, .slice a3 l2.length c4] .own), .rd a3 c4 2 l2.length (l2.map (eP (eI .i64) (eI .i64)))]⟩) v294) ?_ ?_
   ·refine Wk.weak (fs' := [(1, .int .u64 ((x6 : Nat) : Int)), (3, .int .i64 x8), (4, ptr b9 0), (9, .int .u64 ((v14 : Nat) : Int)), (10, .int .i64 0), (17, .int .i64 (l2.length : Int)), (18, .int .i64 v15)]) (ps' := [.obj b9 (.cells [.int .i64 x1, .slice a3 l2.length c4] .own), .rd a3 c4 2 l2.length (l2.map (eP (eI .i64) (eI .i64)))]) (sc rfl (sc rfl (sc rfl (sc rfl (sc rfl (sc rfl (sc rfl sn))))))) (Turn.picks [0, 1] rfl rfl) ?_
    refine Wk.loop (σ := Nat × Int) (ρ := Nat) (γ := Unit) (δ := fun _ => Unit) _ (fun (s : Nat × Int) (g : Unit) => match s, g with | (v204, v205), _ => ⟨.normal, [(1, .int .u64 ((x6 : Nat) : Int)), (3, .int .i64 x8), (4, ptr b9 0), (9, .int .u64 ((v204 : Nat) : Int)), (10, .int .i64 v205), (17, .int .i64 (l2.length : Int)), (18, .int .i64 v15)], [.obj b9 (.cells [.int .i64 x1, .slice a3 l2.length c4] .own), .rd a3 c4 2 l2.length (l2.map (eP (eI .i64) (eI .i64)))]⟩) (fun (r : Nat) (g : Unit) => match r, g with | v294, _ => ⟨(.exit 2), [(1, .int .u64 ((x6 : Nat) : Int)), (3, .int .i64 x8), (4, ptr b9 0), (9, .int .u64 ((v294 : Nat) : Int)), (17, .int .i64 (l2.length : Int)), (18, .int .i64 v15)], [.obj b9 (.cells [.int .i64 x1, .slice a3 l2.length c4] .own), .rd a3 c4 2 l2.length (l2.map (eP (eI .i64) (eI .i64)))]⟩) ?_ (fun _ _ => rfl) (fun r d => by intro e; cases e) _ _ _ h381 ()
    clear hF h381
    rintro ⟨v204, v205⟩ ⟨⟩ r hF
    unfold L71_1 at hF
    refine Wk.seq <| Wk.seq <| Wk.region <| Wo.od (o_mv rfl) rfl <| Wo.od (o_fa (r := ptr b9 1) rfl (fa25_1 _ _)) rfl <| Wo.od (o_ld (k := 0) t23 rfl rfl rfl) rfl <| Wo.od (o_ln (k := 1) u23 rfl rfl (.inl rfl)) rfl <| Wo.od (o_bi rfl rfl (bin_lss _ _ _)) rfl <| Wo.nil <| At.tn ?_
    rcases br_some hF with ⟨h295, hF⟩ | ⟨h295, hF⟩
    ·refine Wk.condT rfl h295 <| Wk.skip <| At.tn <| Wk.seq ?_
     obtain ⟨v337, h379, hF⟩ := ob_some hF
     refine Wk.cut (G := (fun (r : Nat) (g : Unit) => match r, g with | v337, _ => ⟨.normal, [(1, .int .u64 ((x6 : Nat) : Int)), (3, .int .i64 x8), (4, ptr b9 0), (9, .int .u64 ((v337 : Nat) : Int)), (10, .int .i64 v205), (17, .int .i64 (l2.length : Int)), (18, .int .i64 v15)], [.obj b9 (.cells [.int .i64 x1, .slice a3 l2.length c4] .own), .rd a3 c4 2 l2.length (l2.map (eP (eI .i64) (eI .i64)))]⟩) v337) ?_ ?_
     ·clear hF
      revert v337
      intro r hF
      refine Wk.block <| Wk.seq <| Wk.draw (by kernel_rfl) <| Wo.od (o_fa (r := ptr b9 1) rfl (fa25_1 _ _)) rfl <| Wo.od (o_ld (k := 0) t23 rfl rfl rfl) rfl <| Wo.od (o_mv rfl) rfl ?_
      obtain ⟨h338, hF⟩ := gd_some hF
      replace h338 := inB_some h338
      refine Wo.openr (k := 1) rfl (pos_of h338) ?_
      rintro b339 o340 rfl
      refine Wo.og (o_ixs s23 rfl rfl h338) gn rfl <| Wo.od (o_ia (r := ptr b339 (o340 + v205.toNat * 2 + 0)) rfl rfl (ia_c ar26 (i := 0) (by decide))) rfl ?_
      obtain ⟨⟨x341, x342⟩, h343, hF⟩ := ob_some hF
      refine Wo.od (o_ldr (k := 0) t3 rfl rfl (map_at h343) rfl rfl) rfl <| Wo.od (o_fa (r := ptr b9 1) rfl (fa25_1 _ _)) rfl <| Wo.od (o_ld (k := 1) t23 rfl rfl rfl) rfl <| Wo.od (o_mv rfl) rfl ?_
      obtain ⟨h344, hF⟩ := gd_some hF
      replace h344 := inB_some h344
      refine Wo.og (o_ixs s23 rfl rfl h344) gn rfl <| Wo.od (o_ia (r := ptr b339 (o340 + v205.toNat * 2 + 1)) rfl rfl (ia_c ar26 (i := 1) (by decide))) rfl <| Wo.od (o_ldr (k := 0) t3 rfl rfl (map_at h343) rfl rfl) rfl <| Wo.od (o_as rfl) rfl <| Wo.od (o_as rfl) rfl <| Wo.nil <| At.tn <| Wk.seq ?_
      obtain ⟨v357, h370, hF⟩ := ob_some hF
      refine Wk.cut (G := (fun (r : Bool) (g : Unit) => match r, g with | v357, _ => ⟨.normal, [(1, .int .u64 ((x6 : Nat) : Int)), (3, .int .i64 x8), (4, ptr b9 0), (9, .int .u64 ((v204 : Nat) : Int)), (10, .int .i64 v205), (11, .int .i64 x341), (12, .int .i64 x342), (17, .int .i64 (l2.length : Int)), (18, .int .i64 v15), (61, .bool v357)], [.obj b9 (.cells [.int .i64 x1, .slice (some ⟨b339, o340, none⟩) l2.length c4] .own), .ro b339 o340 2 l2.length (l2.map (eP (eI .i64) (eI .i64))), .rd (some ⟨b339, o340, none⟩) c4 2 l2.length (l2.map (eP (eI .i64) (eI .i64)))]⟩) v357) ?_ ?_
      ·clear hF
       revert v357
       intro r hF
       refine Wk.region <| Wo.od (o_mv rfl) rfl <| Wo.od (o_mv rfl) rfl <| Wo.od (o_bi rfl rfl (ib_neq _ _)) rfl <| Wo.od (o_mv rfl) rfl ?_
       rcases br_some hF with ⟨h358, hF⟩ | ⟨h358, hF⟩
       ·refine Wo.og (o_mv rfl) (gg rfl rfl (eTT h358)) rfl <| Wo.og (o_mv rfl) (gg rfl rfl (eTT h358)) rfl ?_
        obtain ⟨r360, h359, hF⟩ := ob_some hF
        refine Wo.x (o_cl rfl rfl (fun m hm => f67_ok n x6 x341  _ h359 m ) fun _ => rfl) (gg rfl rfl (eTT h358)) rfl ?_
        rintro ⟨⟩
        refine Wo.od (o_pt rfl h358 rfl) rfl <| Wo.od (o_mv rfl) rfl ?_
        rcases br_some hF with ⟨h361, hF⟩ | ⟨h361, hF⟩
        ·refine Wo.og (o_mv rfl) (gg rfl rfl (eTT h361)) rfl <| Wo.og (o_mv rfl) (gg rfl rfl (eTT h361)) rfl ?_
         obtain ⟨r363, h362, hF⟩ := ob_some hF
         refine Wo.x (o_cl rfl rfl (fun m hm => f67_ok n x6 x342  _ h362 m ) fun _ => rfl) (gg rfl rfl (eTT h361)) rfl ?_
         rintro ⟨⟩
         refine Wo.od (o_pt rfl h361 rfl) rfl <| Wo.od (o_mv rfl) rfl ?_
         rcases br_some hF with ⟨h364, hF⟩ | ⟨h364, hF⟩
         ·refine Wo.og (o_mv rfl) (gg rfl rfl (eTT h364)) rfl <| Wo.og (o_mv rfl) (gg rfl rfl (eTT h364)) rfl ?_
          obtain ⟨r366, h365, hF⟩ := ob_some hF
          refine Wo.x (o_cl rfl rfl (fun m hm => f67_ok n v204 x341  _ h365 m ) fun _ => rfl) (gg rfl rfl (eTT h364)) rfl ?_
          rintro ⟨⟩
          refine Wo.og (o_mv rfl) (gg rfl rfl (eTT h364)) rfl ?_
          rcases br_some hF with ⟨h367, hF⟩ | ⟨h367, hF⟩
          ·refine Wo.s (gg rfl rfl (eTF h367)) rfl <| Wo.s (gg rfl rfl (eTF h367)) rfl <| Wo.s (gg rfl rfl (eTF h367)) rfl <| Wo.og (o_pt rfl h367 rfl) (gg rfl rfl (eTT h364)) rfl <| Wo.od (o_pt rfl h364 rfl) rfl <| Wo.nil ?_
           cases hF
           exact At.en () rfl (sc rfl (sc rfl (sc rfl (sc rfl (sc rfl (sc rfl (sc rfl (sc rfl (sc rfl (sc rfl sn)))))))))) (Turn.picks [1, 0, 2] rfl rfl)
          ·refine Wo.og (o_mv rfl) (gg rfl rfl (eFF h367)) rfl <| Wo.og (o_mv rfl) (gg rfl rfl (eFF h367)) rfl ?_
           obtain ⟨r369, h368, hF⟩ := ob_some hF
           refine Wo.x (o_cl rfl rfl (fun m hm => f67_ok n v204 x342  _ h368 m ) fun _ => rfl) (gg rfl rfl (eFF h367)) rfl ?_
           rintro ⟨⟩
           refine Wo.og (o_pf rfl h367 rfl) (gg rfl rfl (eTT h364)) rfl <| Wo.od (o_pt rfl h364 rfl) rfl <| Wo.nil ?_
           have hr := Option.some.inj hF
           subst r
           exact At.en () rfl (sc rfl (sc rfl (sc rfl (sc rfl (sc rfl (sc rfl (sc rfl (sc rfl (sc rfl (sc rfl sn)))))))))) (Turn.picks [1, 0, 2] rfl rfl)
         ·refine Wo.s (gg rfl rfl (eFT h364)) rfl <| Wo.s (gg rfl rfl (eFT h364)) rfl <| Wo.s (gg rfl rfl (eFT h364)) rfl <| Wo.s (gg rfl rfl (eFT h364)) rfl <| Wo.s (gu rfl rfl) rfl <| Wo.s (gu rfl rfl) rfl <| Wo.s (gu rfl rfl) rfl <| Wo.s (gg rfl rfl (eFT h364)) rfl <| Wo.od (o_pf rfl h364 rfl) rfl <| Wo.nil ?_
          cases hF
          exact At.en () rfl (sc rfl (sc rfl (sc rfl (sc rfl (sc rfl (sc rfl (sc rfl (sc rfl (sc rfl (sc rfl sn)))))))))) (Turn.picks [1, 0, 2] rfl rfl)
        ·refine Wo.s (gg rfl rfl (eFT h361)) rfl <| Wo.s (gg rfl rfl (eFT h361)) rfl <| Wo.s (gg rfl rfl (eFT h361)) rfl <| Wo.od (o_pf rfl h361 rfl) rfl <| Wo.od (o_mv rfl) rfl <| Wo.s (gg rfl rfl rfl) rfl <| Wo.s (gg rfl rfl rfl) rfl <| Wo.s (gg rfl rfl rfl) rfl <| Wo.s (gg rfl rfl rfl) rfl <| Wo.s (gu rfl rfl) rfl ?_
         refine Wo.s (gu rfl rfl) rfl <| Wo.s (gu rfl rfl) rfl <| Wo.s (gg rfl rfl rfl) rfl <| Wo.od (o_pF rfl rfl) rfl <| Wo.nil ?_
         cases hF
         exact At.en () rfl (sc rfl (sc rfl (sc rfl (sc rfl (sc rfl (sc rfl (sc rfl (sc rfl (sc rfl (sc rfl sn)))))))))) (Turn.picks [1, 0, 2] rfl rfl)
       ·refine Wo.s (gg rfl rfl (eFT h358)) rfl <| Wo.s (gg rfl rfl (eFT h358)) rfl <| Wo.s (gg rfl rfl (eFT h358)) rfl <| Wo.od (o_pf rfl h358 rfl) rfl <| Wo.od (o_mv rfl) rfl <| Wo.s (gg rfl rfl rfl) rfl <| Wo.s (gg rfl rfl rfl) rfl <| Wo.s (gg rfl rfl rfl) rfl <| Wo.od (o_pF rfl rfl) rfl <| Wo.od (o_mv rfl) rfl ?_
        refine Wo.s (gg rfl rfl rfl) rfl <| Wo.s (gg rfl rfl rfl) rfl <| Wo.s (gg rfl rfl rfl) rfl <| Wo.s (gg rfl rfl rfl) rfl <| Wo.s (gu rfl rfl) rfl <| Wo.s (gu rfl rfl) rfl <| Wo.s (gu rfl rfl) rfl <| Wo.s (gg rfl rfl rfl) rfl <| Wo.od (o_pF rfl rfl) rfl <| Wo.nil ?_
        cases hF
        exact At.en () rfl (sc rfl (sc rfl (sc rfl (sc rfl (sc rfl (sc rfl (sc rfl (sc rfl (sc rfl (sc rfl sn)))))))))) (Turn.picks [1, 0, 2] rfl rfl)
      ·clear h370
       rintro ⟨⟩
       refine At.tn ?_
       rcases br_some hF with ⟨h372, hF⟩ | ⟨h372, hF⟩
       ·refine Wk.condT rfl h372 <| Wk.region <| Wo.od (o_mv rfl) rfl <| Wo.od (o_mv rfl) rfl ?_
        obtain ⟨r374, h373, hF⟩ := ob_some hF
        refine Wo.x (o_cl rfl rfl (fun m hm => f68_ok n x341  _ h373 m ) fun _ => rfl) gn rfl ?_
        rintro ⟨⟩
        refine Wo.od (o_bi rfl rfl (ub_or rfl _ _)) rfl <| Wo.od (o_mv rfl) rfl ?_
        obtain ⟨r376, h375, hF⟩ := ob_some hF
        refine Wo.x (o_cl rfl rfl (fun m hm => f68_ok n x342  _ h375 m ) fun _ => rfl) gn rfl ?_
        rintro ⟨⟩
        obtain ⟨y377, h378, hF⟩ := ob_some hF
        refine Wo.od (o_bi rfl rfl ((ub_or rfl _ _).trans (cN h378))) rfl <| Wo.od (o_as rfl) rfl <| Wo.nil <| At.bn ?_
        have hr := Option.some.inj hF
        subst r
        exact At.en () rfl (sc rfl (sc rfl (sc rfl (sc rfl (sc rfl (sc rfl (sc rfl sn))))))) (Turn.picks [0, 2] rfl rfl)
       ·refine Wk.condF rfl h372 <| Wk.skip <| At.bn ?_
        have hr := Option.some.inj hF
        subst r
        exact At.en () rfl (sc rfl (sc rfl (sc rfl (sc rfl (sc rfl (sc rfl (sc rfl sn))))))) (Turn.picks [0, 2] rfl rfl)
     ·clear h379
      rintro ⟨⟩
      refine At.tn <| Wk.region <| Wo.od (o_mv rfl) rfl <| Wo.od (o_bi rfl rfl (bin_add _ _ _)) rfl <| Wo.od (o_as rfl) rfl <| Wo.nil ?_
      cases hF
      exact At.en () rfl (sc rfl (sc rfl (sc rfl (sc rfl (sc rfl (sc rfl (sc rfl sn))))))) (Turn.picks [0, 1] rfl rfl)
    ·refine Wk.condF rfl h295 <| Wk.exit <| At.te ?_
     cases hF
     exact At.en () rfl (sc rfl (sc rfl (sc rfl (sc rfl (sc rfl (sc rfl sn)))))) (Turn.picks [0, 1] rfl rfl)
   ·clear h381
    rintro ⟨⟩
    refine At.be <| At.bn <| At.tn <| Wk.region <| Wo.od (o_bi rfl rfl (bin_add _ _ _)) rfl <| Wo.od (o_mv rfl) rfl <| Wo.nil ?_
    cases hF
    exact At.en () rfl (sc rfl (sc rfl (sc rfl (sc rfl (sc rfl (sc rfl sn)))))) (Turn.picks [0, 1] rfl rfl)
  ·refine Wk.condF rfl h201 <| Wk.exit <| At.te ?_
   cases hF
   exact At.en () rfl (sc rfl sn) (Turn.picks [] rfl rfl)
 ·clear h383
  rintro ⟨⟩
  refine At.be <| At.tn <| Wk.seq <| Wk.region <| Wo.od (o_mv rfl) rfl <| Wo.od (o_as rfl) rfl <| Wo.nil <| At.tn <| Wk.ret ?_
  have hr := Option.some.inj hF
  subst r
  exact At.ret (.tmp rfl .nil) fun m' hm => ⟨(), rfl, (Turn.picks [] rfl rfl) m' hm⟩
theorem f36_ok (n : Nat) (x1 : Int) (l2 : List (Int × Int)) (x6 : Nat) (a3 : Option Addr) (c4 : Nat) (r : List (Int × Int) × Int) (hF : F36 n x1 l2 x6 = some r) (m : AMem) (h5 : Rd m a3 c4 2 l2.length (l2.map (eP (eI .i64) (eI .i64)))) :
  CallA E18w 36 [.agg #[.int .i64 x1, .slice a3 l2.length c4], .int .u64 ((x6 : Nat) : Int)] m (fun v m' => ∃ x : Option Addr × Nat, v = .tuple #[.slice x.1 x.2 x.2, .int .i64 r.2] ∧ Hp m m' [.sl x.1 2 x.2 (r.1.map (eP (eI .i64) (eI .i64)))]) := by
 unfold F36 at hF
 refine call_wk (m0 := m) (ps := [.rd a3 c4 2 l2.length (l2.map (eP (eI .i64) (eI .i64)))]) (N := 63) (rs := [.tmp 4, .tmp 5]) rfl Tryd.func36 rfl rfl rfl ((Hp.start m).inn rfl h5) <| Wk.seq <| Wk.region <| Wo.x (o_bx rfl) gn rfl fun b7 => ?_
 refine Wo.od (o_as rfl) rfl <| Wo.od (o_as rfl) rfl <| Wo.nil <| At.tn <| Wk.seq <| Wk.seq <| Wk.region <| Wo.od (o_ld (k := 0) t25 rfl rfl rfl) rfl <| Wo.od (o_mv rfl) rfl ?_
 obtain ⟨r9, h8, hF⟩ := ob_some hF
 refine Wo.x (o_cl rfl rfl (fun m hm => f66_ok n x1 l2 x6 a3 c4 _ h8 m (hm.rd (k := 1) rfl (.rd _ _ _ _ _))) fun _ => rfl) gn rfl ?_
 rintro ⟨⟩
 refine Wo.od (o_as rfl) rfl <| Wo.nil <| At.tn <| Wk.seq <| Wk.region <| Wo.od (o_mv rfl) rfl <| Wo.od (o_bi rfl rfl (ib_neq _ _)) rfl <| Wo.nil <| At.tn ?_
 rcases br_some hF with ⟨h10, hF⟩ | ⟨h10, hF⟩
 ·refine Wk.condT rfl h10 <| Wk.seq <| Wk.region <| Wo.od (o_mv rfl) rfl <| Wo.od (o_as rfl) rfl <| Wo.od (o_as rfl) rfl <| Wo.nil <| At.tn <| Wk.ret <| At.tr ?_
  cases hF
  exact At.ret (.tmp rfl (.tmp rfl .nil)) fun m' hm => ⟨(none, 0), rfl, (Turn.trans (Turn.nil 2 rfl) (Turn.picks [0] rfl rfl)) m' hm⟩
 ·refine Wk.condF rfl h10 <| Wk.skip <| At.tn <| Wk.seq <| Wk.region <| Wo.od (o_as rfl) rfl <| Wo.nil <| At.tn <| Wk.seq <| Wk.seq <| Wk.region <| Wo.od (o_as rfl) rfl <| Wo.nil <| At.tn <| Wk.block ?_
  obtain ⟨l169, h246, hF⟩ := ob_some hF
  refine Wk.cut (G := (fun (r : List (Int × Int)) (g : Option Addr) => match r, g with | l169, a170 => ⟨(.exit 0), [(7, .slice a170 l169.length l169.length)], [.sl a170 2 l169.length (l169.map (eP (eI .i64) (eI .i64)))]⟩) l169) ?_ ?_
  ·refine Wk.weak (fs' := [(1, .int .u64 ((x6 : Nat) : Int)), (2, ptr b7 0), (7, .slice none ([] : List (Int × Int)).length ([] : List (Int × Int)).length), (8, .int .i64 0)]) (ps' := [.obj b7 (.cells [.int .i64 x1, .slice a3 l2.length c4] .own), .rd a3 c4 2 l2.length (l2.map (eP (eI .i64) (eI .i64))), .sl none 2 ([] : List (Int × Int)).length (([] : List (Int × Int)).map (eP (eI .i64) (eI .i64)))]) (sc rfl (sc rfl (sc rfl (sc rfl sn)))) (Turn.trans (Turn.nil 2 rfl) (Turn.picks [1, 2, 0] rfl rfl)) ?_
   refine Wk.loop (σ := List (Int × Int) × Int) (ρ := List (Int × Int)) (γ := Option Addr) (δ := fun _ => Option Addr) _ (fun (s : List (Int × Int) × Int) (g : Option Addr) => match s, g with | (l88, v90), a89 => ⟨.normal, [(1, .int .u64 ((x6 : Nat) : Int)), (2, ptr b7 0), (7, .slice a89 l88.length l88.length), (8, .int .i64 v90)], [.obj b7 (.cells [.int .i64 x1, .slice a3 l2.length c4] .own), .rd a3 c4 2 l2.length (l2.map (eP (eI .i64) (eI .i64))), .sl a89 2 l88.length (l88.map (eP (eI .i64) (eI .i64)))]⟩) (fun (r : List (Int × Int)) (g : Option Addr) => match r, g with | l169, a170 => ⟨(.exit 0), [(7, .slice a170 l169.length l169.length)], [.sl a170 2 l169.length (l169.map (eP (eI .i64) (eI .i64)))]⟩) ?_ (fun _ _ => rfl) (fun r d => by intro e; cases e) _ _ _ h246 none
   clear hF h246
   rintro ⟨l88, v90⟩ a89 r hF
   unfold L36_1 at hF
   refine Wk.seq <| Wk.seq <| Wk.region <| Wo.od (o_mv rfl) rfl <| Wo.od (o_fa (r := ptr b7 1) rfl (fa25_1 _ _)) rfl <| Wo.od (o_ld (k := 0) t23 rfl rfl rfl) rfl <| Wo.od (o_ln (k := 1) u23 rfl rfl (.inl rfl)) rfl <| Wo.od (o_bi rfl rfl (bin_lss _ _ _)) rfl <| Wo.nil <| At.tn ?_
   rcases br_some hF with ⟨h171, hF⟩ | ⟨h171, hF⟩
   ·refine Wk.condT rfl h171 <| Wk.skip <| At.tn <| Wk.seq ?_
    obtain ⟨l207, h244, hF⟩ := ob_some hF
    refine Wk.cut (G := (fun (r : List (Int × Int)) (g : Option Addr) => match r, g with | l207, a208 => ⟨.normal, [(1, .int .u64 ((x6 : Nat) : Int)), (2, ptr b7 0), (7, .slice a208 l207.length l207.length), (8, .int .i64 v90)], [.obj b7 (.cells [.int .i64 x1, .slice a3 l2.length c4] .own), .rd a3 c4 2 l2.length (l2.map (eP (eI .i64) (eI .i64))), .sl a208 2 l207.length (l207.map (eP (eI .i64) (eI .i64)))]⟩) l207) ?_ ?_
    ·clear hF
     revert l207
     intro r hF
     refine Wk.block <| Wk.seq <| Wk.draw (by kernel_rfl) <| Wo.od (o_fa (r := ptr b7 1) rfl (fa25_1 _ _)) rfl <| Wo.od (o_ld (k := 0) t23 rfl rfl rfl) rfl <| Wo.od (o_mv rfl) rfl ?_
     obtain ⟨h209, hF⟩ := gd_some hF
     replace h209 := inB_some h209
     refine Wo.openr (k := 1) rfl (pos_of h209) ?_
     rintro b210 o211 rfl
     refine Wo.og (o_ixs s23 rfl rfl h209) gn rfl <| Wo.od (o_ia (r := ptr b210 (o211 + v90.toNat * 2 + 0)) rfl rfl (ia_c ar26 (i := 0) (by decide))) rfl ?_
     obtain ⟨⟨x212, x213⟩, h214, hF⟩ := ob_some hF
     refine Wo.od (o_ldr (k := 0) t3 rfl rfl (map_at h214) rfl rfl) rfl <| Wo.od (o_fa (r := ptr b7 1) rfl (fa25_1 _ _)) rfl <| Wo.od (o_ld (k := 1) t23 rfl rfl rfl) rfl <| Wo.od (o_mv rfl) rfl ?_
     obtain ⟨h215, hF⟩ := gd_some hF
     replace h215 := inB_some h215
     refine Wo.og (o_ixs s23 rfl rfl h215) gn rfl <| Wo.od (o_ia (r := ptr b210 (o211 + v90.toNat * 2 + 1)) rfl rfl (ia_c ar26 (i := 1) (by decide))) rfl <| Wo.od (o_ldr (k := 0) t3 rfl rfl (map_at h214) rfl rfl) rfl <| Wo.od (o_as rfl) rfl <| Wo.od (o_as rfl) rfl <| Wo.nil <| At.tn <| Wk.seq ?_
     obtain ⟨v226, h237, hF⟩ := ob_some hF
     refine Wk.cut (G := (fun (r : Bool) (g : Unit) => match r, g with | v226, _ => ⟨.normal, [(1, .int .u64 ((x6 : Nat) : Int)), (2, ptr b7 0), (7, .slice a89 l88.length l88.length), (8, .int .i64 v90), (53, .bool v226)], [.obj b7 (.cells [.int .i64 x1, .slice (some ⟨b210, o211, none⟩) l2.length c4] .own), .ro b210 o211 2 l2.length (l2.map (eP (eI .i64) (eI .i64))), .rd (some ⟨b210, o211, none⟩) c4 2 l2.length (l2.map (eP (eI .i64) (eI .i64))), .sl a89 2 l88.length (l88.map (eP (eI .i64) (eI .i64)))]⟩) v226) ?_ ?_
     ·clear hF
      revert v226
      intro r hF
      refine Wk.region <| Wo.od (o_mv rfl) rfl <| Wo.od (o_mv rfl) rfl ?_
      obtain ⟨r228, h227, hF⟩ := ob_some hF
      refine Wo.x (o_cl rfl rfl (fun m hm => f67_ok n x6 x212  _ h227 m ) fun _ => rfl) gn rfl ?_
      rintro ⟨⟩
      refine Wo.od (o_mv rfl) rfl ?_
      rcases br_some hF with ⟨h229, hF⟩ | ⟨h229, hF⟩
      ·refine Wo.og (o_mv rfl) (gg rfl rfl (eTT h229)) rfl <| Wo.og (o_mv rfl) (gg rfl rfl (eTT h229)) rfl ?_
       obtain ⟨r231, h230, hF⟩ := ob_some hF
       refine Wo.x (o_cl rfl rfl (fun m hm => f67_ok n x6 x213  _ h230 m ) fun _ => rfl) (gg rfl rfl (eTT h229)) rfl ?_
       rintro ⟨⟩
       refine Wo.od (o_pt rfl h229 rfl) rfl <| Wo.od (o_mv rfl) rfl ?_
       rcases br_some hF with ⟨h232, hF⟩ | ⟨h232, hF⟩
       ·refine Wo.og (o_ld (k := 1) t25 rfl rfl rfl) (gg rfl rfl (eTT h232)) rfl <| Wo.og (o_mv rfl) (gg rfl rfl (eTT h232)) rfl <| Wo.og (o_mv rfl) (gg rfl rfl (eTT h232)) rfl <| Wo.og (o_mv rfl) (gg rfl rfl (eTT h232)) rfl ?_
        obtain ⟨r234, h233, hF⟩ := ob_some hF
        refine Wo.x (o_cl rfl rfl (fun m hm => f71_ok n x1 l2 x6 x212 v90 (some ⟨b210, o211, none⟩) c4 _ h233 m (hm.rd (k := 2) rfl (.rd _ _ _ _ _))) fun _ => rfl) (gg rfl rfl (eTT h232)) rfl ?_
        rintro ⟨⟩
        refine Wo.og (o_mv rfl) (gg rfl rfl (eTT h232)) rfl ?_
        obtain ⟨r236, h235, hF⟩ := ob_some hF
        refine Wo.x (o_cl rfl rfl (fun m hm => f67_ok n r234 x213  _ h235 m ) fun _ => rfl) (gg rfl rfl (eTT h232)) rfl ?_
        rintro ⟨⟩
        refine Wo.og (o_un rfl rfl) (gg rfl rfl (eTT h232)) rfl <| Wo.od (o_pt rfl h232 rfl) rfl <| Wo.nil ?_
        cases hF
        exact At.en () rfl (sc rfl (sc rfl (sc rfl (sc rfl (sc rfl sn))))) (Turn.picks [1, 0, 2, 3] rfl rfl)
       ·refine Wo.s (gg rfl rfl (eFT h232)) rfl <| Wo.s (gg rfl rfl (eFT h232)) rfl <| Wo.s (gg rfl rfl (eFT h232)) rfl <| Wo.s (gg rfl rfl (eFT h232)) rfl <| Wo.s (gg rfl rfl (eFT h232)) rfl <| Wo.s (gg rfl rfl (eFT h232)) rfl <| Wo.s (gg rfl rfl (eFT h232)) rfl <| Wo.s (gg rfl rfl (eFT h232)) rfl <| Wo.od (o_pf rfl h232 rfl) rfl <| Wo.nil ?_
        cases hF
        exact At.en () rfl (sc rfl (sc rfl (sc rfl (sc rfl (sc rfl sn))))) (Turn.picks [1, 0, 2, 3] rfl rfl)
      ·refine Wo.s (gg rfl rfl (eFT h229)) rfl <| Wo.s (gg rfl rfl (eFT h229)) rfl <| Wo.s (gg rfl rfl (eFT h229)) rfl <| Wo.od (o_pf rfl h229 rfl) rfl <| Wo.od (o_mv rfl) rfl <| Wo.s (gg rfl rfl rfl) rfl <| Wo.s (gg rfl rfl rfl) rfl <| Wo.s (gg rfl rfl rfl) rfl <| Wo.s (gg rfl rfl rfl) rfl <| Wo.s (gg rfl rfl rfl) rfl ?_
       refine Wo.s (gg rfl rfl rfl) rfl <| Wo.s (gg rfl rfl rfl) rfl <| Wo.s (gg rfl rfl rfl) rfl <| Wo.od (o_pF rfl rfl) rfl <| Wo.nil ?_
       cases hF
       exact At.en () rfl (sc rfl (sc rfl (sc rfl (sc rfl (sc rfl sn))))) (Turn.picks [1, 0, 2, 3] rfl rfl)
     ·clear h237
      rintro ⟨⟩
      refine At.tn ?_
      rcases br_some hF with ⟨h239, hF⟩ | ⟨h239, hF⟩
      ·refine Wk.condT rfl h239 <| Wk.region <| Wo.od (o_mv rfl) rfl <| Wo.od (o_fa (r := ptr b7 1) rfl (fa25_1 _ _)) rfl <| Wo.od (o_ld (k := 0) t23 rfl rfl rfl) rfl <| Wo.od (o_mv rfl) rfl ?_
       obtain ⟨h240, hF⟩ := gd_some hF
       replace h240 := inB_some h240
       refine Wo.og (o_ixs s23 rfl rfl h240) gn rfl <| Wo.od (o_ldr (k := 1) t26 rfl rfl (map_at h214) rfl rfl) rfl <| Wo.x (o_bs (es := ([(x212, x213)] : List (Int × Int)).map (eP (eI .i64) (eI .i64))) s23 rfl (bs_c s23 z26 rfl rfl) rfl rfl) gn rfl fun b241 => ?_
       obtain ⟨h242, hF⟩ := gd_some hF
       refine Wo.x (o_apl (k := 4) (k2 := 0) (xs := (l88 : List (Int × Int))) (ys := ([(x212, x213)] : List (Int × Int))) (enP (enI .i64) (enI .i64)) s23 ⟨_, u23⟩ rfl rfl rfl (.arr _ _ _ _ _) h242) gn rfl fun a243 => ?_
       refine Wo.od (o_as rfl) rfl <| Wo.nil <| At.bn ?_
       cases hF
       exact At.en a243 rfl (sc rfl (sc rfl (sc rfl (sc rfl sn)))) (Turn.picks [1, 3, 4] rfl rfl)
      ·refine Wk.condF rfl h239 <| Wk.skip <| At.bn ?_
       have hr := Option.some.inj hF
       subst r
       exact At.en a89 rfl (sc rfl (sc rfl (sc rfl (sc rfl sn)))) (Turn.picks [0, 2, 3] rfl rfl)
    ·clear h244
     rintro a208
     refine At.tn <| Wk.region <| Wo.od (o_mv rfl) rfl <| Wo.od (o_bi rfl rfl (bin_add _ _ _)) rfl <| Wo.od (o_as rfl) rfl <| Wo.nil ?_
     cases hF
     exact At.en a208 rfl (sc rfl (sc rfl (sc rfl (sc rfl sn)))) (Turn.picks [0, 1, 2] rfl rfl)
   ·refine Wk.condF rfl h171 <| Wk.exit <| At.te ?_
    cases hF
    exact At.en a89 rfl (sc rfl sn) (Turn.picks [2] rfl rfl)
  ·clear h246
   rintro a170
   refine At.be <| At.tn <| Wk.seq <| Wk.region <| Wo.od (o_mv rfl) rfl <| Wo.od (o_as rfl) rfl <| Wo.od (o_as rfl) rfl <| Wo.nil <| At.tn <| Wk.ret ?_
   cases hF
   exact At.ret (.tmp rfl (.tmp rfl .nil)) fun m' hm => ⟨(a170, l169.length), rfl, (Turn.picks [0] rfl rfl) m' hm⟩
theorem f70_ok (n : Nat) (x1 : Int) (l2 : List (Int × Int)) (x6 : Nat) (a3 : Option Addr) (c4 : Nat) (r : List Nat) (hF : F70 n x1 l2 x6 = some r) (m : AMem) (h5 : Rd m a3 c4 2 l2.length (l2.map (eP (eI .i64) (eI .i64)))) :
  CallA E18w 70 [.agg #[.int .i64 x1, .slice a3 l2.length c4], .int .u64 ((x6 : Nat) : Int)] m (fun v m' => ∃ x : Option Addr × Nat, v = .slice x.1 x.2 x.2 ∧ Hp m m' [.sl x.1 1 x.2 (r.map (eN .u64))]) := by
 unfold F70 at hF
 refine call_wk (m0 := m) (ps := [.rd a3 c4 2 l2.length (l2.map (eP (eI .i64) (eI .i64)))]) (N := 36) (rs := [.tmp 4]) rfl Tryd.func70 rfl rfl rfl ((Hp.start m).inn rfl h5) <| Wk.seq <| Wk.region <| Wo.x (o_bx rfl) gn rfl fun b7 => ?_
 refine Wo.od (o_as rfl) rfl <| Wo.nil <| At.tn <| Wk.seq <| Wk.region <| Wo.od (o_as rfl) rfl <| Wo.nil <| At.tn <| Wk.seq <| Wk.region <| Wo.od (o_as rfl) rfl <| Wo.nil <| At.tn <| Wk.seq <| Wk.seq <| Wk.region <| Wo.od (o_as rfl) rfl <| Wo.nil <| At.tn <| Wk.block ?_
 obtain ⟨l108, h154, hF⟩ := ob_some hF
 refine Wk.cut (G := (fun (r : List (Nat)) (g : Option Addr) => match r, g with | l108, a109 => ⟨(.exit 0), [(5, .slice a109 l108.length l108.length)], [.sl a109 1 l108.length (l108.map (eN .u64))]⟩) l108) ?_ ?_
 ·refine Wk.weak (fs' := [(1, .int .u64 ((x6 : Nat) : Int)), (2, ptr b7 0), (5, .slice none ([] : List (Nat)).length ([] : List (Nat)).length), (6, .int .u64 ((0 : Nat) : Int)), (7, .int .i64 0)]) (ps' := [.obj b7 (.cells [.int .i64 x1, .slice a3 l2.length c4] .own), .rd a3 c4 2 l2.length (l2.map (eP (eI .i64) (eI .i64))), .sl none 1 ([] : List (Nat)).length (([] : List (Nat)).map (eN .u64))]) (sc rfl (sc rfl (sc rfl (sc rfl (sc rfl sn))))) (Turn.trans (Turn.nil 1 rfl) (Turn.picks [1, 2, 0] rfl rfl)) ?_
  refine Wk.loop (σ := List (Nat) × Nat × Int) (ρ := List (Nat)) (γ := Option Addr) (δ := fun _ => Option Addr) _ (fun (s : List (Nat) × Nat × Int) (g : Option Addr) => match s, g with | (l56, v58, v59), a57 => ⟨.normal, [(1, .int .u64 ((x6 : Nat) : Int)), (2, ptr b7 0), (5, .slice a57 l56.length l56.length), (6, .int .u64 ((v58 : Nat) : Int)), (7, .int .i64 v59)], [.obj b7 (.cells [.int .i64 x1, .slice a3 l2.length c4] .own), .rd a3 c4 2 l2.length (l2.map (eP (eI .i64) (eI .i64))), .sl a57 1 l56.length (l56.map (eN .u64))]⟩) (fun (r : List (Nat)) (g : Option Addr) => match r, g with | l108, a109 => ⟨(.exit 0), [(5, .slice a109 l108.length l108.length)], [.sl a109 1 l108.length (l108.map (eN .u64))]⟩) ?_ (fun _ _ => rfl) (fun r d => by intro e; cases e) _ _ _ h154 none
  clear hF h154
  rintro ⟨l56, v58, v59⟩ a57 r hF
  unfold L70_1 at hF
  refine Wk.seq <| Wk.seq <| Wk.region <| Wo.od (o_mv rfl) rfl <| Wo.od (o_fa (r := ptr b7 0) rfl (fa25_0 _ _)) rfl <| Wo.od (o_ld (k := 0) t3 rfl rfl rfl) rfl <| Wo.od (o_bi rfl rfl (bin_lss _ _ _)) rfl <| Wo.nil <| At.tn ?_
  rcases br_some hF with ⟨h110, hF⟩ | ⟨h110, hF⟩
  ·refine Wk.condT rfl h110 <| Wk.skip <| At.tn <| Wk.seq ?_
   obtain ⟨r153, h152, hF⟩ := ob_some hF
   refine Wk.cut (G := (fun (r : List (Nat) × Nat) (g : Option Addr) => match r, g with | (l130, v132), a131 => ⟨.normal, [(1, .int .u64 ((x6 : Nat) : Int)), (2, ptr b7 0), (5, .slice a131 l130.length l130.length), (6, .int .u64 ((v132 : Nat) : Int)), (7, .int .i64 v59)], [.obj b7 (.cells [.int .i64 x1, .slice a3 l2.length c4] .own), .rd a3 c4 2 l2.length (l2.map (eP (eI .i64) (eI .i64))), .sl a131 1 l130.length (l130.map (eN .u64))]⟩) r153) ?_ ?_
   ·clear hF
    revert r153
    intro r hF
    refine Wk.block <| Wk.seq ?_
    obtain ⟨v138, h144, hF⟩ := ob_some hF
    refine Wk.cut (G := (fun (r : Bool) (g : Unit) => match r, g with | v138, _ => ⟨.normal, [(1, .int .u64 ((x6 : Nat) : Int)), (2, ptr b7 0), (5, .slice a57 l56.length l56.length), (6, .int .u64 ((v58 : Nat) : Int)), (7, .int .i64 v59), (23, .bool v138)], [.obj b7 (.cells [.int .i64 x1, .slice a3 l2.length c4] .own), .rd a3 c4 2 l2.length (l2.map (eP (eI .i64) (eI .i64))), .sl a57 1 l56.length (l56.map (eN .u64))]⟩) v138) ?_ ?_
    ·clear hF
     revert v138
     intro r hF
     refine Wk.region <| Wo.od (o_mv rfl) rfl <| Wo.od (o_mv rfl) rfl ?_
     obtain ⟨r140, h139, hF⟩ := ob_some hF
     refine Wo.x (o_cl rfl rfl (fun m hm => f67_ok n x6 v59  _ h139 m ) fun _ => rfl) gn rfl ?_
     rintro ⟨⟩
     refine Wo.od (o_mv rfl) rfl ?_
     rcases br_some hF with ⟨h141, hF⟩ | ⟨h141, hF⟩
     ·refine Wo.og (o_mv rfl) (gg rfl rfl (eTT h141)) rfl <| Wo.og (o_mv rfl) (gg rfl rfl (eTT h141)) rfl ?_
      obtain ⟨r143, h142, hF⟩ := ob_some hF
      refine Wo.x (o_cl rfl rfl (fun m hm => f67_ok n v58 v59  _ h142 m ) fun _ => rfl) (gg rfl rfl (eTT h141)) rfl ?_
      rintro ⟨⟩
      refine Wo.og (o_un rfl rfl) (gg rfl rfl (eTT h141)) rfl <| Wo.od (o_pt rfl h141 rfl) rfl <| Wo.nil ?_
      cases hF
      exact At.en () rfl (sc rfl (sc rfl (sc rfl (sc rfl (sc rfl (sc rfl sn)))))) (Turn.picks [0, 1, 2] rfl rfl)
     ·refine Wo.s (gg rfl rfl (eFT h141)) rfl <| Wo.s (gg rfl rfl (eFT h141)) rfl <| Wo.s (gg rfl rfl (eFT h141)) rfl <| Wo.s (gg rfl rfl (eFT h141)) rfl <| Wo.od (o_pf rfl h141 rfl) rfl <| Wo.nil ?_
      cases hF
      exact At.en () rfl (sc rfl (sc rfl (sc rfl (sc rfl (sc rfl (sc rfl sn)))))) (Turn.picks [0, 1, 2] rfl rfl)
    ·clear h144
     rintro ⟨⟩
     refine At.tn ?_
     rcases br_some hF with ⟨h146, hF⟩ | ⟨h146, hF⟩
     ·refine Wk.condT rfl h146 <| Wk.seq <| Wk.region <| Wo.od (o_ld (k := 0) t25 rfl rfl rfl) rfl <| Wo.od (o_mv rfl) rfl <| Wo.od (o_mv rfl) rfl ?_
      obtain ⟨r148, h147, hF⟩ := ob_some hF
      refine Wo.x (o_cl rfl rfl (fun m hm => f71_ok n x1 l2 x6 v59 (-1) a3 c4 _ h147 m (hm.rd (k := 1) rfl (.rd _ _ _ _ _))) fun _ => rfl) gn rfl ?_
      rintro ⟨⟩
      refine Wo.od (o_as rfl) rfl <| Wo.nil <| At.tn <| Wk.seq <| Wk.region <| Wo.od (o_mv rfl) rfl <| Wo.od (o_mv rfl) rfl <| Wo.x (o_bs (es := ([r148] : List (Nat)).map (eN .u64)) s36 rfl (bs_c s36 z28 rfl rfl) rfl rfl) gn rfl fun b149 => ?_
      obtain ⟨h150, hF⟩ := gd_some hF
      refine Wo.x (o_apl (k := 3) (k2 := 0) (xs := (l56 : List (Nat))) (ys := ([r148] : List (Nat))) (enN .u64) s36 ⟨_, u36⟩ rfl rfl rfl (.arr _ _ _ _ _) h150) gn rfl fun a151 => ?_
      refine Wo.od (o_as rfl) rfl <| Wo.nil <| At.tn <| Wk.region <| Wo.od (o_mv rfl) rfl <| Wo.od (o_mv rfl) rfl <| Wo.od (o_bi rfl rfl (ub_or rfl _ _)) rfl <| Wo.od (o_as rfl) rfl <| Wo.nil <| At.bn ?_
      cases hF
      exact At.en a151 rfl (sc rfl (sc rfl (sc rfl (sc rfl (sc rfl sn))))) (Turn.picks [1, 2, 3] rfl rfl)
     ·refine Wk.condF rfl h146 <| Wk.skip <| At.bn ?_
      cases hF
      exact At.en a57 rfl (sc rfl (sc rfl (sc rfl (sc rfl (sc rfl sn))))) (Turn.picks [0, 1, 2] rfl rfl)
   ·clear h152
    obtain ⟨l130, v132⟩ := r153
    rintro a131
    refine At.tn <| Wk.region <| Wo.od (o_mv rfl) rfl <| Wo.od (o_bi rfl rfl (bin_add _ _ _)) rfl <| Wo.od (o_as rfl) rfl <| Wo.nil ?_
    cases hF
    exact At.en a131 rfl (sc rfl (sc rfl (sc rfl (sc rfl (sc rfl sn))))) (Turn.picks [0, 1, 2] rfl rfl)
  ·refine Wk.condF rfl h110 <| Wk.exit <| At.te ?_
   cases hF
   exact At.en a57 rfl (sc rfl sn) (Turn.picks [2] rfl rfl)
 ·clear h154
  rintro a109
  refine At.be <| At.tn <| Wk.seq <| Wk.region <| Wo.od (o_mv rfl) rfl <| Wo.od (o_as rfl) rfl <| Wo.nil <| At.tn <| Wk.ret ?_
  have hr := Option.some.inj hF
  subst r
  exact At.ret (.tmp rfl .nil) fun m' hm => ⟨(a109, l108.length), rfl, (Turn.picks [0] rfl rfl) m' hm⟩
theorem f37_ok (n : Nat) (x1 : Int) (l2 : List (Int × Int)) (x6 : Nat) (a3 : Option Addr) (c4 : Nat) (r : Nat × Int) (hF : F37 n x1 l2 x6 = some r) (m : AMem) (h5 : Rd m a3 c4 2 l2.length (l2.map (eP (eI .i64) (eI .i64)))) :
  CallA E18w 37 [.agg #[.int .i64 x1, .slice a3 l2.length c4], .int .u64 ((x6 : Nat) : Int)] m (fun v m' => ∃ x : Unit, v = .tuple #[.int .u64 ((r.1 : Nat) : Int), .int .i64 r.2] ∧ Hp m m' []) := by
 unfold F37 at hF
 refine call_wk (m0 := m) (ps := [.rd a3 c4 2 l2.length (l2.map (eP (eI .i64) (eI .i64)))]) (N := 45) (rs := [.tmp 4, .tmp 5]) rfl Tryd.func37 rfl rfl rfl ((Hp.start m).inn rfl h5) <| Wk.seq <| Wk.region <| Wo.x (o_bx rfl) gn rfl fun b7 => ?_
 refine Wo.od (o_as rfl) rfl <| Wo.od (o_as rfl) rfl <| Wo.nil <| At.tn <| Wk.seq <| Wk.seq <| Wk.region <| Wo.od (o_ld (k := 0) t25 rfl rfl rfl) rfl <| Wo.od (o_mv rfl) rfl ?_
 obtain ⟨r9, h8, hF⟩ := ob_some hF
 refine Wo.x (o_cl rfl rfl (fun m hm => f66_ok n x1 l2 x6 a3 c4 _ h8 m (hm.rd (k := 1) rfl (.rd _ _ _ _ _))) fun _ => rfl) gn rfl ?_
 rintro ⟨⟩
 refine Wo.od (o_as rfl) rfl <| Wo.nil <| At.tn <| Wk.seq <| Wk.region <| Wo.od (o_mv rfl) rfl <| Wo.od (o_bi rfl rfl (ib_neq _ _)) rfl <| Wo.nil <| At.tn ?_
 rcases br_some hF with ⟨h10, hF⟩ | ⟨h10, hF⟩
 ·refine Wk.condT rfl h10 <| Wk.seq <| Wk.region <| Wo.od (o_mv rfl) rfl <| Wo.od (o_as rfl) rfl <| Wo.od (o_as rfl) rfl <| Wo.nil <| At.tn <| Wk.ret <| At.tr ?_
  cases hF
  exact At.ret (.tmp rfl (.tmp rfl .nil)) fun m' hm => ⟨(), rfl, (Turn.picks [] rfl rfl) m' hm⟩
 ·refine Wk.condF rfl h10 <| Wk.skip <| At.tn <| Wk.seq <| Wk.region <| Wo.od (o_as rfl) rfl <| Wo.nil <| At.tn <| Wk.seq <| Wk.region <| Wo.od (o_ld (k := 0) t25 rfl rfl rfl) rfl <| Wo.od (o_mv rfl) rfl ?_
  obtain ⟨l12, h11, hF⟩ := ob_some hF
  refine Wo.x (o_cl rfl rfl (fun m hm => f70_ok n x1 l2 x6 a3 c4 _ h11 m (hm.rd (k := 1) rfl (.rd _ _ _ _ _))) fun _ => rfl) gn rfl ?_
  rintro ⟨a13, n14⟩
  refine Wo.len (k := 0) (xs := l12) rfl ?_
  rintro rfl
  refine Wo.od (o_ln (k := 0) u36 rfl rfl (.inl rfl)) rfl <| Wo.od (o_as rfl) rfl <| Wo.nil <| At.tn <| Wk.seq <| Wk.seq <| Wk.region <| Wo.od (o_as rfl) rfl <| Wo.nil <| At.tn <| Wk.block ?_
  obtain ⟨v73, h126, hF⟩ := ob_some hF
  refine Wk.cut (G := (fun (r : Nat) (g : Unit) => match r, g with | v73, _ => ⟨(.exit 0), [(7, .int .u64 ((v73 : Nat) : Int))], []⟩) v73) ?_ ?_
  ·refine Wk.weak (fs' := [(1, .int .u64 ((x6 : Nat) : Int)), (2, ptr b7 0), (7, .int .u64 ((0 : Nat) : Int)), (8, .int .i64 (l12.length : Int)), (9, .int .i64 0)]) (ps' := [.obj b7 (.cells [.int .i64 x1, .slice a3 l2.length c4] .own), .rd a3 c4 2 l2.length (l2.map (eP (eI .i64) (eI .i64)))]) (sc rfl (sc rfl (sc rfl (sc rfl (sc rfl sn))))) (Turn.picks [1, 2] rfl rfl) ?_
   refine Wk.loop (σ := Nat × Int) (ρ := Nat) (γ := Unit) (δ := fun _ => Unit) _ (fun (s : Nat × Int) (g : Unit) => match s, g with | (v17, v18), _ => ⟨.normal, [(1, .int .u64 ((x6 : Nat) : Int)), (2, ptr b7 0), (7, .int .u64 ((v17 : Nat) : Int)), (8, .int .i64 (l12.length : Int)), (9, .int .i64 v18)], [.obj b7 (.cells [.int .i64 x1, .slice a3 l2.length c4] .own), .rd a3 c4 2 l2.length (l2.map (eP (eI .i64) (eI .i64)))]⟩) (fun (r : Nat) (g : Unit) => match r, g with | v73, _ => ⟨(.exit 0), [(7, .int .u64 ((v73 : Nat) : Int))], []⟩) ?_ (fun _ _ => rfl) (fun r d => by intro e; cases e) _ _ _ h126 ()
   clear hF h126
   rintro ⟨v17, v18⟩ ⟨⟩ r hF
   unfold L37_1 at hF
   refine Wk.seq <| Wk.seq <| Wk.region <| Wo.od (o_mv rfl) rfl <| Wo.od (o_fa (r := ptr b7 0) rfl (fa25_0 _ _)) rfl <| Wo.od (o_ld (k := 0) t3 rfl rfl rfl) rfl <| Wo.od (o_bi rfl rfl (bin_lss _ _ _)) rfl <| Wo.nil <| At.tn ?_
   rcases br_some hF with ⟨h74, hF⟩ | ⟨h74, hF⟩
   ·refine Wk.condT rfl h74 <| Wk.skip <| At.tn <| Wk.seq ?_
    obtain ⟨v99, h124, hF⟩ := ob_some hF
    refine Wk.cut (G := (fun (r : Nat) (g : Unit) => match r, g with | v99, _ => ⟨.normal, [(1, .int .u64 ((x6 : Nat) : Int)), (2, ptr b7 0), (7, .int .u64 ((v99 : Nat) : Int)), (8, .int .i64 (l12.length : Int)), (9, .int .i64 v18)], [.obj b7 (.cells [.int .i64 x1, .slice a3 l2.length c4] .own), .rd a3 c4 2 l2.length (l2.map (eP (eI .i64) (eI .i64)))]⟩) v99) ?_ ?_
    ·clear hF
     revert v99
     intro r hF
     refine Wk.block <| Wk.seq ?_
     obtain ⟨v109, h119, hF⟩ := ob_some hF
     refine Wk.cut (G := (fun (r : Bool) (g : Unit) => match r, g with | v109, _ => ⟨.normal, [(1, .int .u64 ((x6 : Nat) : Int)), (2, ptr b7 0), (7, .int .u64 ((v17 : Nat) : Int)), (8, .int .i64 (l12.length : Int)), (9, .int .i64 v18), (39, .bool v109)], [.obj b7 (.cells [.int .i64 x1, .slice a3 l2.length c4] .own), .rd a3 c4 2 l2.length (l2.map (eP (eI .i64) (eI .i64)))]⟩) v109) ?_ ?_
     ·clear hF
      revert v109
      intro r hF
      refine Wk.drawc (prs := [(4, 7)]) (by kernel_rfl) <| Wn.od (o_mv rfl) rfl <| Wn.od (o_mv rfl) rfl ?_
      obtain ⟨r111, h110, hF⟩ := ob_some hF
      refine Wn.c (o_ce rfl rfl (fun m hm => f67_ok n x6 v18  _ h110 m ) fun _ => rfl) gn rfl ?_
      rintro ⟨⟩
      refine Wn.od (o_mv rfl) rfl ?_
      rcases br_some hF with ⟨h112, hF⟩ | ⟨h112, hF⟩
      ·refine Wn.og (o_ld (k := 0) t25 rfl rfl rfl) (gg rfl rfl (eTT h112)) rfl <| Wn.og (o_mv rfl) (gg rfl rfl (eTT h112)) rfl <| Wn.og (o_mv rfl) (gg rfl rfl (eTT h112)) rfl ?_
       obtain ⟨r114, h113, hF⟩ := ob_some hF
       refine Wn.c (o_ce rfl rfl (fun m hm => f68_ok n v18  _ h113 m ) fun _ => rfl) (gg rfl rfl (eTT h112)) rfl ?_
       rintro ⟨⟩
       refine Wn.og (o_bi rfl rfl (ub_andn rfl _ _)) (gg rfl rfl (eTT h112)) rfl ?_
       obtain ⟨l116, h115, hF⟩ := ob_some hF
       refine Wn.c (o_ce rfl rfl (fun m hm => f70_ok n x1 l2 (uandn .u64 x6 r114) a3 c4 _ h115 m (hm.rd (k := 1) rfl (.rd _ _ _ _ _))) fun _ => rfl) (gg rfl rfl (eTT h112)) rfl ?_
       rintro ⟨a117, n118⟩
       refine Wn.len (k := 0) (xs := l116) rfl ?_
       rintro rfl
       refine Wn.og (o_ln (k := 0) u36 rfl rfl (.inl rfl)) (gg rfl rfl (eTT h112)) rfl <| Wn.og (o_mv rfl) (gg rfl rfl (eTT h112)) rfl <| Wn.og (o_bi rfl rfl (bin_gtr _ _ _)) (gg rfl rfl (eTT h112)) rfl <| Wn.od (o_pt rfl h112 rfl) rfl <| Wn.nil (fun m hm => OkP.all rfl) ?_
       cases hF
       exact At.en () rfl (sc rfl (sc rfl (sc rfl (sc rfl (sc rfl (sc rfl sn)))))) (Turn.picks [1, 2] rfl rfl)
      ·refine Wn.s (gg rfl rfl (eFT h112)) rfl <| Wn.s (gg rfl rfl (eFT h112)) rfl <| Wn.s (gg rfl rfl (eFT h112)) rfl <| Wn.s (gg rfl rfl (eFT h112)) rfl <| Wn.s (gg rfl rfl (eFT h112)) rfl <| Wn.s (gg rfl rfl (eFT h112)) rfl <| Wn.s (gg rfl rfl (eFT h112)) rfl <| Wn.s (gg rfl rfl (eFT h112)) rfl <| Wn.s (gg rfl rfl (eFT h112)) rfl <| Wn.od (o_pf rfl h112 rfl) rfl ?_
       refine Wn.nil (fun m hm => OkP.all rfl) ?_
       cases hF
       exact At.en () rfl (sc rfl (sc rfl (sc rfl (sc rfl (sc rfl (sc rfl sn)))))) (Turn.picks [0, 1] rfl rfl)
     ·clear h119
      rintro ⟨⟩
      refine At.tn ?_
      rcases br_some hF with ⟨h121, hF⟩ | ⟨h121, hF⟩
      ·refine Wk.condT rfl h121 <| Wk.region <| Wo.od (o_mv rfl) rfl <| Wo.od (o_mv rfl) rfl ?_
       obtain ⟨r123, h122, hF⟩ := ob_some hF
       refine Wo.x (o_cl rfl rfl (fun m hm => f68_ok n v18  _ h122 m ) fun _ => rfl) gn rfl ?_
       rintro ⟨⟩
       refine Wo.od (o_bi rfl rfl (ub_or rfl _ _)) rfl <| Wo.od (o_as rfl) rfl <| Wo.nil <| At.bn ?_
       cases hF
       exact At.en () rfl (sc rfl (sc rfl (sc rfl (sc rfl (sc rfl sn))))) (Turn.picks [0, 1] rfl rfl)
      ·refine Wk.condF rfl h121 <| Wk.skip <| At.bn ?_
       have hr := Option.some.inj hF
       subst r
       exact At.en () rfl (sc rfl (sc rfl (sc rfl (sc rfl (sc rfl sn))))) (Turn.picks [0, 1] rfl rfl)
    ·clear h124
     rintro ⟨⟩
     refine At.tn <| Wk.region <| Wo.od (o_mv rfl) rfl <| Wo.od (o_bi rfl rfl (bin_add _ _ _)) rfl <| Wo.od (o_as rfl) rfl <| Wo.nil ?_
     cases hF
     exact At.en () rfl (sc rfl (sc rfl (sc rfl (sc rfl (sc rfl sn))))) (Turn.picks [0, 1] rfl rfl)
   ·refine Wk.condF rfl h74 <| Wk.exit <| At.te ?_
    cases hF
    exact At.en () rfl (sc rfl sn) (Turn.picks [] rfl rfl)
  ·clear h126
   rintro ⟨⟩
   refine At.be <| At.tn <| Wk.seq <| Wk.region <| Wo.od (o_mv rfl) rfl <| Wo.od (o_as rfl) rfl <| Wo.od (o_as rfl) rfl <| Wo.nil <| At.tn <| Wk.ret ?_
   cases hF
   exact At.ret (.tmp rfl (.tmp rfl .nil)) fun m' hm => ⟨(), rfl, (Turn.picks [] rfl rfl) m' hm⟩
theorem f34_ok (n : Nat) (l1 : List (Int × Int)) (l5 : List (Int × Int)) (a2 : Option Addr) (c3 : Nat) (a6 : Option Addr) (c7 : Nat) (r : Bool) (hF : F34 n l1 l5 = some r) (m : AMem) (h4 : Rd m a2 c3 2 l1.length (l1.map (eP (eI .i64) (eI .i64)))) (h8 : Rd m a6 c7 2 l5.length (l5.map (eP (eI .i64) (eI .i64)))) :
  CallA E18w 34 [.slice a2 l1.length c3, .slice a6 l5.length c7] m (fun v m' => ∃ x : Unit, v = .bool r ∧ Hp m m' []) := by
 unfold F34 at hF
 refine call_wk (m0 := m) (ps := [.rd a6 c7 2 l5.length (l5.map (eP (eI .i64) (eI .i64))), .rd a2 c3 2 l1.length (l1.map (eP (eI .i64) (eI .i64)))]) (N := 26) (rs := [.tmp 4]) rfl Tryd.func34 rfl rfl rfl (((Hp.start m).inn rfl h4).inn rfl h8) <| Wk.seq <| Wk.region <| Wo.od (o_as rfl) rfl <| Wo.nil <| At.tn <| Wk.seq <| Wk.seq <| Wk.region <| Wo.od (o_mv rfl) rfl <| Wo.od (o_ln (k := 1) u23 rfl rfl (.inl rfl)) rfl <| Wo.od (o_mv rfl) rfl <| Wo.od (o_ln (k := 0) u23 rfl rfl (.inl rfl)) rfl <| Wo.od (o_bi rfl rfl (ib_neq _ _)) rfl <| Wo.nil <| At.tn ?_
 rcases br_some hF with ⟨h9, hF⟩ | ⟨h9, hF⟩
 ·refine Wk.condT rfl h9 <| Wk.seq <| Wk.region <| Wo.od (o_as rfl) rfl <| Wo.nil <| At.tn <| Wk.ret <| At.tr ?_
  cases hF
  exact At.ret (.tmp rfl .nil) fun m' hm => ⟨(), rfl, (Turn.picks [] rfl rfl) m' hm⟩
 ·refine Wk.condF rfl h9 <| Wk.skip <| At.tn <| Wk.seq <| Wk.seq <| Wk.region <| Wo.od (o_mv rfl) rfl <| Wo.od (o_ln (k := 1) u23 rfl rfl (.inl rfl)) rfl <| Wo.od (o_mv rfl) rfl <| Wo.nil <| At.tn <| Wk.block ?_
  obtain ⟨r42, h41, hF⟩ := ob_some hF
  refine Wk.cut (G := (fun (r : (Unit) ⊕ (Unit)) (g : Unit) => match r, g with | .inl _, _ => ⟨.ret, [(4, .bool false)], []⟩ | .inr _, _ => ⟨(.exit 0), [], []⟩) r42) ?_ ?_
  ·refine Wk.weak (fs' := [(0, .slice a2 l1.length c3), (1, .slice a6 l5.length c7), (12, .int .i64 (l1.length : Int)), (13, .int .i64 0)]) (ps' := [.rd a2 c3 2 l1.length (l1.map (eP (eI .i64) (eI .i64))), .rd a6 c7 2 l5.length (l5.map (eP (eI .i64) (eI .i64)))]) (sc rfl (sc rfl (sc rfl (sc rfl sn)))) (Turn.picks [1, 0] rfl rfl) ?_
   refine Wk.loop (σ := Int) (ρ := (Unit) ⊕ (Unit)) (γ := Unit) (δ := fun _ => Unit) _ (fun (s : Int) (g : Unit) => match s, g with | v11, _ => ⟨.normal, [(0, .slice a2 l1.length c3), (1, .slice a6 l5.length c7), (12, .int .i64 (l1.length : Int)), (13, .int .i64 v11)], [.rd a2 c3 2 l1.length (l1.map (eP (eI .i64) (eI .i64))), .rd a6 c7 2 l5.length (l5.map (eP (eI .i64) (eI .i64)))]⟩) (fun (r : (Unit) ⊕ (Unit)) (g : Unit) => match r, g with | .inl _, _ => ⟨.ret, [(4, .bool false)], []⟩ | .inr _, _ => ⟨(.exit 0), [], []⟩) ?_ (fun _ _ => rfl) (fun r d => by rcases r with _ | _ <;> (intro e; cases e)) _ _ _ h41 ()
   clear hF h41
   rintro v11 ⟨⟩ r hF
   unfold L34_1 at hF
   refine Wk.seq <| Wk.region <| Wo.od (o_bi rfl rfl (bin_lss _ _ _)) rfl <| Wo.nil <| At.tn <| Wk.seq ?_
   rcases br_some hF with ⟨h27, hF⟩ | ⟨h27, hF⟩
   ·refine Wk.condT rfl h27 <| Wk.skip <| At.tn <| Wk.seq <| Wk.block <| Wk.seq <| Wk.region <| Wo.od (o_mv rfl) rfl <| Wo.od (o_as rfl) rfl <| Wo.nil <| At.tn <| Wk.seq <| Wk.draw (by kernel_rfl) <| Wo.od (o_mv rfl) rfl <| Wo.od (o_mv rfl) rfl ?_
    obtain ⟨h28, hF⟩ := gd_some hF
    replace h28 := inB_some h28
    refine Wo.openr (k := 0) rfl (pos_of h28) ?_
    rintro b29 o30 rfl
    refine Wo.og (o_ixs s23 rfl rfl h28) gn rfl ?_
    obtain ⟨⟨x31, x32⟩, h33, hF⟩ := ob_some hF
    refine Wo.od (o_ldr (k := 0) t26 rfl rfl (map_at h33) rfl rfl) rfl <| Wo.od (o_mv rfl) rfl <| Wo.od (o_mv rfl) rfl ?_
    obtain ⟨h34, hF⟩ := gd_some hF
    replace h34 := inB_some h34
    refine Wo.openr (k := 2) rfl (pos_of h34) ?_
    rintro b35 o36 rfl
    refine Wo.og (o_ixs s23 rfl rfl h34) gn rfl ?_
    obtain ⟨⟨x37, x38⟩, h39, hF⟩ := ob_some hF
    refine Wo.od (o_ldr (k := 0) t26 rfl rfl (map_at h39) rfl rfl) rfl <| Wo.od (o_bi rfl rfl (ag_ne eg26 (eq26 _ _ _ _))) rfl <| Wo.nil <| At.tn ?_
    rcases br_some hF with ⟨h40, hF⟩ | ⟨h40, hF⟩
    ·refine Wk.condT rfl h40 <| Wk.seq <| Wk.region <| Wo.od (o_as rfl) rfl <| Wo.nil <| At.tn <| Wk.ret <| At.br <| At.tr ?_
     cases hF
     exact At.en () rfl (sc rfl sn) (Turn.picks [] rfl rfl)
    ·refine Wk.condF rfl h40 <| Wk.skip <| At.bn <| At.tn <| Wk.region <| Wo.od (o_bi rfl rfl (bin_add _ _ _)) rfl <| Wo.od (o_mv rfl) rfl <| Wo.nil ?_
     cases hF
     exact At.en () rfl (sc rfl (sc rfl (sc rfl (sc rfl sn)))) (Turn.picks [2, 3] rfl rfl)
   ·refine Wk.condF rfl h27 <| Wk.exit <| At.te ?_
    cases hF
    exact At.en () rfl sn (Turn.picks [] rfl rfl)
  ·clear h41
   rcases r42 with _ | _
   ·rintro ⟨⟩
    refine At.br <| At.tr ?_
    cases hF
    exact At.ret (.tmp rfl .nil) fun m' hm => ⟨(), rfl, (Turn.picks [] rfl rfl) m' hm⟩
   ·rintro ⟨⟩
    refine At.be <| At.tn <| Wk.seq <| Wk.region <| Wo.od (o_as rfl) rfl <| Wo.nil <| At.tn <| Wk.ret ?_
    cases hF
    exact At.ret (.tmp rfl .nil) fun m' hm => ⟨(), rfl, (Turn.picks [] rfl rfl) m' hm⟩
theorem f57_ok (n : Nat) (x1 : Nat) (x2 : Int)  (r : Bool) (hF : F57 n x1 x2 = some r) (m : AMem)  :
  CallA E18w 57 [.int .u64 ((x1 : Nat) : Int), .int .i64 x2] m (fun v m' => ∃ x : Unit, v = .bool r ∧ Hp m m' []) := by
 unfold F57 at hF
 refine call_wk (m0 := m) (ps := []) (N := 10) (rs := [.tmp 4]) rfl Tryd.func57 rfl rfl rfl (Hp.start m) <| Wk.seq <| Wk.region <| Wo.od (o_as rfl) rfl <| Wo.nil <| At.tn <| Wk.seq <| Wk.region <| Wo.od (o_mv rfl) rfl <| Wo.od (o_mv rfl) rfl ?_
 obtain ⟨h3, hF⟩ := gd_some hF
 refine Wo.od (o_bi rfl rfl (ub_shr _ _ h3)) rfl <| Wo.od (o_bi rfl rfl (ub_and rfl _ _)) rfl <| Wo.od (o_bi rfl rfl (ub_eql _ _)) rfl <| Wo.od (o_as rfl) rfl <| Wo.nil <| At.tn <| Wk.ret ?_
 cases hF
 exact At.ret (.tmp rfl .nil) fun m' hm => ⟨(), rfl, (Turn.picks [] rfl rfl) m' hm⟩
theorem f56_ok (n : Nat) (x1 : Int) (l2 : List (Int × Int)) (x6 : Nat) (a3 : Option Addr) (c4 : Nat) (r : Nat) (hF : F56 n x1 l2 x6 = some r) (m : AMem) (hG : Gl m) (h5 : Rd m a3 c4 2 l2.length (l2.map (eP (eI .i64) (eI .i64)))) :
  CallA E18w 56 [.agg #[.int .i64 x1, .slice a3 l2.length c4], .int .u64 ((x6 : Nat) : Int)] m (fun v m' => ∃ x : Unit, v = .int .u64 ((r : Nat) : Int) ∧ Hp m m' []) := by
 unfold F56 at hF
 refine call_wk (m0 := m) (ps := [.rd a3 c4 2 l2.length (l2.map (eP (eI .i64) (eI .i64)))]) (N := 22) (rs := [.tmp 4]) rfl Tryd.func56 rfl rfl rfl ((Hp.start m).inn rfl h5) <| Wk.seq <| Wk.region <| Wo.x (o_bx rfl) gn rfl fun b7 => ?_
 refine Wo.od (o_as rfl) rfl <| Wo.nil <| At.tn <| Wk.seq <| Wk.region <| Wo.od (o_ld (k := 0) t25 rfl rfl rfl) rfl ?_
 obtain ⟨l9, h8, hF⟩ := ob_some hF
 refine Wo.x (o_cl rfl rfl (fun m hm => f75_ok n x1 l2 a3 c4 _ h8 m (hm.rd (k := 1) rfl (.rd _ _ _ _ _))) fun _ => rfl) gn rfl ?_
 rintro ⟨a10, n11⟩
 refine Wo.len (k := 0) (xs := l9) rfl ?_
 rintro rfl
 refine Wo.x (o_al z36 rfl) gn rfl fun b12 => ?_
 refine Wo.o0 (o_st (k := 0) t36 rfl rfl rfl rfl rfl) <| Wo.nil <| At.tn <| Wk.seq <| Wk.region <| Wo.x (o_al z28 rfl) gn rfl fun b13 => ?_
 refine Wo.nil <| At.tn <| Wk.seq <| Wk.seq <| Wk.region <| Wo.od (o_mv rfl) rfl ?_
 obtain ⟨r17, h18, hF⟩ := ob_some hF
 refine Wo.x (o_cs (α := Nat) (V := fun g => (fun (r : Unit) (g : Nat) => match r, g with | _, b15 => (.func (.func 78) #[] #[ptr b15 0] : Value)) r17 g) (N := fun g => (fun (r : Unit) (g : Nat) => match r, g with | _, b15 => ([.obj b15 (.cells [.int .u64 ((x6 : Nat) : Int)] .own), .obj b12 (.cells [.slice a10 l9.length l9.length] .own), .sl a10 1 l9.length (l9.map (eN .u64)), .obj b13 (.cells [.int .u64 ((0 : Nat) : Int)] .own)] : List Pc)) r17 g) rfl rfl (fun m hm => ?_)) gn rfl ?_
 ·clear hF
  revert r17
  intro r hF
  refine call_wk (N := 4) (rs := [.tmp 2]) rfl Tryd.func61 rfl rfl rfl hm <| Wk.seq <| Wk.region <| Wo.x (o_bx rfl) gn rfl fun b16 => ?_
  refine Wo.od (o_as rfl) rfl <| Wo.nil <| At.tn <| Wk.seq <| Wk.region <| Wo.od (o_mf rfl rfl) rfl <| Wo.od (o_as rfl) rfl <| Wo.nil <| At.tn <| Wk.ret ?_
  cases hF
  exact At.ret (.tmp rfl .nil) fun m' hm => ⟨b16, rfl, (Turn.picks [0, 2, 3, 1] rfl rfl) m' hm⟩
 ·clear h18
  rintro b15
  refine Wo.nil <| At.tn <| Wk.block ?_
  obtain ⟨v85, h148, hF⟩ := ob_some hF
  refine Wk.range (N := 14) (rs := []) (γ := Unit) (X := fun g => (fun (r : Nat) (g : Unit) => (match r, g with | v85, _ => ⟨.ready, none, [.obj b12 (.cells [.slice a10 l9.length l9.length] .own), .sl a10 1 l9.length (l9.map (eN .u64)), .obj b13 (.cells [.int .u64 ((v85 : Nat) : Int)] .own)]⟩ : Rn)) v85 g) rfl rfl Tryd.func78 rfl rfl rfl ?_ (fun y => by intro e; cases e) ?_
  ·clear hF
   revert v85
   intro r hF
   intro t21 l19 rc20 h22 h23
   refine Wk.block ?_
   obtain ⟨v126, h145, hF⟩ := ob_some hF
   refine Wk.cut (G := (fun (r : Nat) (g : Unit) => match r, g with | v126, _ => ⟨(.exit 0), [], [.obj l19 (rc20 .ready none), .obj b12 (.cells [.slice a10 l9.length l9.length] .own), .sl a10 1 l9.length (l9.map (eN .u64)), .obj b13 (.cells [.int .u64 ((v126 : Nat) : Int)] .own)]⟩) v126) ?_ ?_
   ·refine Wk.weak (fs' := [(0, .func (.yield l19) #[] #[]), (1, ptr b15 0)]) (ps' := [.obj l19 (rc20 .ready none), .obj b15 (.cells [.int .u64 ((x6 : Nat) : Int)] .own), .obj b12 (.cells [.slice a10 l9.length l9.length] .own), .sl a10 1 l9.length (l9.map (eN .u64)), .obj b13 (.cells [.int .u64 ((0 : Nat) : Int)] .own)]) (sc rfl (sc rfl sn)) (Turn.picks [0, 1, 2, 3, 4] rfl rfl) ?_
    refine Wk.loop (σ := Nat × Nat) (ρ := Nat) (γ := Unit) (δ := fun _ => Unit) _ (fun (s : Nat × Nat) (g : Unit) => match s, g with | (v104, v105), _ => ⟨.normal, [(0, .func (.yield l19) #[] #[]), (1, ptr b15 0)], [.obj l19 (rc20 .ready none), .obj b15 (.cells [.int .u64 ((v104 : Nat) : Int)] .own), .obj b12 (.cells [.slice a10 l9.length l9.length] .own), .sl a10 1 l9.length (l9.map (eN .u64)), .obj b13 (.cells [.int .u64 ((v105 : Nat) : Int)] .own)]⟩) (fun (r : Nat) (g : Unit) => match r, g with | v126, _ => ⟨(.exit 0), [], [.obj l19 (rc20 .ready none), .obj b12 (.cells [.slice a10 l9.length l9.length] .own), .sl a10 1 l9.length (l9.map (eN .u64)), .obj b13 (.cells [.int .u64 ((v126 : Nat) : Int)] .own)]⟩) ?_ (fun _ _ => rfl) (fun r d => by intro e; cases e) _ _ _ h145 ()
    clear hF h145
    rintro ⟨v104, v105⟩ ⟨⟩ r hF
    unfold L56_1 at hF
    refine Wk.seq <| Wk.seq <| Wk.region <| Wo.od (o_ld (k := 1) t28 rfl rfl rfl) rfl <| Wo.od (o_bi rfl rfl (ub_neq _ _)) rfl <| Wo.nil <| At.tn ?_
    rcases br_some hF with ⟨h127, hF⟩ | ⟨h127, hF⟩
    ·refine Wk.condT rfl h127 <| Wk.skip <| At.tn <| Wk.seq <| Wk.block <| Wk.seq <| Wk.region <| Wo.od (o_mv rfl) rfl <| Wo.od (o_ld (k := 1) t28 rfl rfl rfl) rfl ?_
     obtain ⟨r129, h128, hF⟩ := ob_some hF
     refine Wo.x (o_cl rfl rfl (fun m hm => f42_ok n v104  _ h128 m (hG.ext hm.ext) ) fun _ => rfl) gn rfl ?_
     rintro ⟨⟩
     obtain ⟨v136, h144, hF⟩ := ob_some hF
     refine Wo.x (o_yd (k := 0) (k1 := 0) (γA := Unit) (GA := (fun g : Unit => (match g with | _ => ⟨.normal, [(5, ptr b12 0), (6, ptr b13 0), (7, .int .i64 r129)], [.obj l19 (rc20 .ready none), .obj b12 (.cells [.slice a10 l9.length l9.length] .own), .sl a10 1 l9.length (l9.map (eN .u64)), .obj b13 (.cells [.int .u64 ((v105 : Nat) : Int)] .own), .obj b15 (.cells [.int .u64 ((v104 : Nat) : Int)] .own)]⟩ : En))) (γ := Unit) (G := fun g => (fun (r : Nat) (g : Unit) => (match r, g with | v136, _ => ⟨.normal, [], [.obj l19 (rc20 .busy none), .obj b12 (.cells [.slice a10 l9.length l9.length] .own), .sl a10 1 l9.length (l9.map (eN .u64)), .obj b13 (.cells [.int .u64 ((v136 : Nat) : Int)] .own), .obj b15 (.cells [.int .u64 ((v104 : Nat) : Int)] .own)]⟩ : En)) v136 g) rfl rfl rfl h23 h22 rfl ?_ (fun _ => rfl) (fun _ => rfl) ?_ (fun y => rfl)) gn rfl ?_
     ·clear hF h144
      refine Wk.region <| Wo.od (o_as rfl) rfl <| Wo.nil ?_
      exact At.en () rfl (sc rfl (sc rfl (sc rfl sn))) (Turn.picks [0, 2, 3, 4, 1] rfl rfl)
     ·clear hF
      revert v136
      intro r hF
      rintro ⟨⟩
      refine Wk.block <| Wk.draw (by kernel_rfl) <| Wo.od (o_ld (k := 3) t28 rfl rfl rfl) rfl <| Wo.od (o_ld (k := 1) t36 rfl rfl rfl) rfl <| Wo.od (o_mv rfl) rfl ?_
      obtain ⟨h137, hF⟩ := gd_some hF
      replace h137 := inB_some h137
      refine Wo.open (k := 2) rfl (pos_of h137) ?_
      rintro b138 tg139 rfl h140
      refine Wo.og (o_ixa s36 rfl rfl h137) gn rfl ?_
      obtain ⟨x141, h142, hF⟩ := ob_some hF
      refine Wo.od (o_lda (k := 2) t28 rfl rfl (map_at h142) rfl rfl) rfl <| Wo.od (o_bi rfl rfl (ub_or rfl _ _)) rfl <| Wo.o0 (o_st (k := 3) t28 rfl rfl rfl rfl rfl) <| Wo.nil <| At.bn ?_
      cases hF
      exact At.en () rfl sn (Turn.trans (Turn.close (k := 2) rfl) (Turn.picks [0, 1, 2, 3, 4] rfl rfl))
     ·clear h144
      rintro ⟨⟩
      refine Wo.od (o_un rfl rfl) rfl <| Wo.nil <| At.tn <| Wk.condF rfl rfl <| Wk.skip <| At.bn <| At.tn <| Wk.region <| Wo.od (o_ld (k := 4) t28 rfl rfl rfl) rfl <| Wo.od (o_ld (k := 4) t28 rfl rfl rfl) rfl <| Wo.od (o_bi rfl rfl (ub_sub rfl _ _)) rfl <| Wo.od (o_bi rfl rfl (ub_and rfl _ _)) rfl <| Wo.o0 (o_st (k := 4) t28 rfl rfl rfl rfl rfl) <| Wo.nil ?_
      cases hF
      exact At.en () rfl (sc rfl (sc rfl sn)) (Turn.picks [0, 4, 1, 2, 3] rfl rfl)
    ·refine Wk.condF rfl h127 <| Wk.exit <| At.te ?_
     cases hF
     exact At.en () rfl sn (Turn.picks [0, 2, 3, 4] rfl rfl)
   ·clear h145
    rintro ⟨⟩
    refine At.be ?_
    have hr := Option.some.inj hF
    subst r
    exact At.fin .nil fun m' hm => ⟨(), (Turn.picks [0, 1, 2, 3] rfl rfl) m' hm⟩
  ·clear h148
   rintro ⟨⟩
   change At _ .normal _ _ _
   refine At.bn <| At.tn <| Wk.seq <| Wk.region <| Wo.od (o_ld (k := 2) t28 rfl rfl rfl) rfl <| Wo.od (o_mv rfl) rfl <| Wo.od (o_bi rfl rfl (ub_andn rfl _ _)) rfl <| Wo.od (o_as rfl) rfl <| Wo.nil <| At.tn <| Wk.ret ?_
   cases hF
   exact At.ret (.tmp rfl .nil) fun m' hm => ⟨(), rfl, (Turn.picks [] rfl rfl) m' hm⟩
theorem f20_ok (n : Nat) (x1 : Int) (l2 : List (Int × Int)) (x6 : Nat) (x7 : Int) (a3 : Option Addr) (c4 : Nat) (r : List Int × Int) (hF : F20 n x1 l2 x6 x7 = some r) (m : AMem) (hG : Gl m) (h5 : Rd m a3 c4 2 l2.length (l2.map (eP (eI .i64) (eI .i64)))) :
  CallA E18w 20 [.agg #[.int .i64 x1, .slice a3 l2.length c4], .int .u64 ((x6 : Nat) : Int), .int .i64 x7] m (fun v m' => ∃ x : Option Addr × Nat, v = .tuple #[.slice x.1 x.2 x.2, .int .i64 r.2] ∧ Hp m m' [.sl x.1 1 x.2 (r.1.map (eI .i64))]) := by
 unfold F20 at hF
 refine call_wk (m0 := m) (ps := [.rd a3 c4 2 l2.length (l2.map (eP (eI .i64) (eI .i64)))]) (N := 62) (rs := [.tmp 6, .tmp 7]) rfl Tryd.func20 rfl rfl rfl ((Hp.start m).inn rfl h5) <| Wk.seq <| Wk.region <| Wo.x (o_bx rfl) gn rfl fun b8 => ?_
 refine Wo.od (o_as rfl) rfl <| Wo.od (o_as rfl) rfl <| Wo.nil <| At.tn <| Wk.seq <| Wk.seq <| Wk.region <| Wo.od (o_ld (k := 0) t25 rfl rfl rfl) rfl <| Wo.od (o_mv rfl) rfl ?_
 obtain ⟨r10, h9, hF⟩ := ob_some hF
 refine Wo.x (o_cl rfl rfl (fun m hm => f55_ok n x1 l2 x6 a3 c4 _ h9 m (hm.rd (k := 1) rfl (.rd _ _ _ _ _))) fun _ => rfl) gn rfl ?_
 rintro ⟨⟩
 refine Wo.od (o_as rfl) rfl <| Wo.nil <| At.tn <| Wk.seq <| Wk.region <| Wo.od (o_mv rfl) rfl <| Wo.od (o_bi rfl rfl (ib_neq _ _)) rfl <| Wo.nil <| At.tn ?_
 rcases br_some hF with ⟨h11, hF⟩ | ⟨h11, hF⟩
 ·refine Wk.condT rfl h11 <| Wk.seq <| Wk.region <| Wo.od (o_mv rfl) rfl <| Wo.od (o_as rfl) rfl <| Wo.od (o_as rfl) rfl <| Wo.nil <| At.tn <| Wk.ret <| At.tr ?_
  cases hF
  exact At.ret (.tmp rfl (.tmp rfl .nil)) fun m' hm => ⟨(none, 0), rfl, (Turn.trans (Turn.nil 1 rfl) (Turn.picks [0] rfl rfl)) m' hm⟩
 ·refine Wk.condF rfl h11 <| Wk.skip <| At.tn <| Wk.seq <| Wk.seq ?_
  obtain ⟨v28, h33, hF⟩ := ob_some hF
  refine Wk.cut (G := (fun (r : Bool) (g : Unit) => match r, g with | v28, _ => ⟨.normal, [(1, .int .u64 ((x6 : Nat) : Int)), (2, .int .i64 x7), (3, ptr b8 0), (33, .bool v28)], [.obj b8 (.cells [.int .i64 x1, .slice a3 l2.length c4] .own), .rd a3 c4 2 l2.length (l2.map (eP (eI .i64) (eI .i64)))]⟩) v28) ?_ ?_
  ·clear hF
   revert v28
   intro r hF
   refine Wk.region <| Wo.od (o_mv rfl) rfl <| Wo.od (o_bi rfl rfl (bin_lss _ _ _)) rfl <| Wo.od (o_mv rfl) rfl ?_
   rcases br_some hF with ⟨h29, hF⟩ | ⟨h29, hF⟩
   ·refine Wo.s (gg rfl rfl (eTF h29)) rfl <| Wo.s (gg rfl rfl (eTF h29)) rfl <| Wo.s (gg rfl rfl (eTF h29)) rfl <| Wo.s (gg rfl rfl (eTF h29)) rfl <| Wo.od (o_pt rfl h29 rfl) rfl <| Wo.od (o_mv rfl) rfl <| Wo.s (gg rfl rfl rfl) rfl <| Wo.s (gg rfl rfl rfl) rfl <| Wo.s (gg rfl rfl rfl) rfl <| Wo.s (gg rfl rfl rfl) rfl ?_
    refine Wo.od (o_pT rfl rfl) rfl <| Wo.nil ?_
    cases hF
    exact At.en () rfl (sc rfl (sc rfl (sc rfl (sc rfl sn)))) (Turn.picks [0, 1] rfl rfl)
   ·refine Wo.og (o_mv rfl) (gg rfl rfl (eFF h29)) rfl <| Wo.og (o_fa (r := ptr b8 0) rfl (fa25_0 _ _)) (gg rfl rfl (eFF h29)) rfl <| Wo.og (o_ld (k := 0) t3 rfl rfl rfl) (gg rfl rfl (eFF h29)) rfl <| Wo.og (o_bi rfl rfl (bin_geq _ _ _)) (gg rfl rfl (eFF h29)) rfl <| Wo.od (o_pf rfl h29 rfl) rfl <| Wo.od (o_mv rfl) rfl ?_
    rcases br_some hF with ⟨h30, hF⟩ | ⟨h30, hF⟩
    ·refine Wo.s (gg rfl rfl (eTF h30)) rfl <| Wo.s (gg rfl rfl (eTF h30)) rfl <| Wo.s (gg rfl rfl (eTF h30)) rfl <| Wo.s (gg rfl rfl (eTF h30)) rfl <| Wo.od (o_pt rfl h30 rfl) rfl <| Wo.nil ?_
     cases hF
     exact At.en () rfl (sc rfl (sc rfl (sc rfl (sc rfl sn)))) (Turn.picks [0, 1] rfl rfl)
    ·refine Wo.og (o_mv rfl) (gg rfl rfl (eFF h30)) rfl <| Wo.og (o_mv rfl) (gg rfl rfl (eFF h30)) rfl ?_
     obtain ⟨r32, h31, hF⟩ := ob_some hF
     refine Wo.x (o_cl rfl rfl (fun m hm => f57_ok n x6 x7  _ h31 m ) fun _ => rfl) (gg rfl rfl (eFF h30)) rfl ?_
     rintro ⟨⟩
     refine Wo.og (o_un rfl rfl) (gg rfl rfl (eFF h30)) rfl <| Wo.od (o_pf rfl h30 rfl) rfl <| Wo.nil ?_
     cases hF
     exact At.en () rfl (sc rfl (sc rfl (sc rfl (sc rfl sn)))) (Turn.picks [0, 1] rfl rfl)
  ·clear h33
   rintro ⟨⟩
   refine At.tn ?_
   rcases br_some hF with ⟨h35, hF⟩ | ⟨h35, hF⟩
   ·refine Wk.condT rfl h35 <| Wk.seq <| Wk.region <| Wo.od (o_as rfl) rfl <| Wo.od (o_as rfl) rfl <| Wo.nil <| At.tn <| Wk.ret <| At.tr ?_
    cases hF
    exact At.ret (.tmp rfl (.tmp rfl .nil)) fun m' hm => ⟨(none, 0), rfl, (Turn.trans (Turn.nil 1 rfl) (Turn.picks [0] rfl rfl)) m' hm⟩
   ·refine Wk.condF rfl h35 <| Wk.skip <| At.tn <| Wk.seq <| Wk.region <| Wo.x (o_bs (es := ([-1] : List (Int)).map (eI .i64)) s39 rfl (bs_c s39 z3 rfl rfl) rfl rfl) gn rfl fun b36 => ?_
    refine Wo.od (o_fa (r := ptr b8 0) rfl (fa25_0 _ _)) rfl <| Wo.od (o_ld (k := 1) t3 rfl rfl rfl) rfl ?_
    obtain ⟨l38, h37, hF⟩ := ob_some hF
    refine Wo.x (o_cl rfl rfl (fun m hm => f60r_ok n ([-1]) x1 (some ⟨b36, 0, none⟩) 1 _ h37 m (hm.rd (k := 0) rfl (.arr _ _ _ _ _))) fun _ => rfl) gn rfl ?_
    rintro ⟨a39, n40⟩
    refine Wo.len (k := 0) (xs := l38) rfl ?_
    rintro rfl
    refine Wo.x (o_al z39 rfl) gn rfl fun b41 => ?_
    refine Wo.o0 (o_st (k := 0) t39 rfl rfl rfl rfl rfl) <| Wo.nil <| At.tn <| Wk.seq <| Wk.region <| Wo.od (o_mv rfl) rfl ?_
    obtain ⟨h42, hF⟩ := gd_some hF
    refine Wo.od (o_bi rfl rfl (ub_shl rfl _ _ h42)) rfl <| Wo.od (o_as rfl) rfl <| Wo.nil <| At.tn <| Wk.seq <| Wk.seq <| Wk.region <| Wo.od (o_mv rfl) rfl <| Wo.x (o_al z3 rfl) gn rfl fun b43 => ?_
    refine Wo.o0 (o_st (k := 0) t3 rfl rfl rfl rfl rfl) <| Wo.od (o_as rfl) rfl <| Wo.nil <| At.tn <| Wk.block ?_
    obtain ⟨l348, h494, hF⟩ := ob_some hF
    refine Wk.cut (G := (fun (r : List (Int)) (g : Unit) => match r, g with | l348, _ => ⟨(.exit 0), [(9, ptr b41 0)], [.obj b41 (.cells [.slice a39 l38.length l38.length] .own), .sl a39 1 l38.length (l348.map (eI .i64))]⟩) l348) ?_ ?_
    ·refine Wk.weak (fs' := [(1, .int .u64 ((x6 : Nat) : Int)), (3, ptr b8 0), (9, ptr b41 0), (10, .int .u64 (((ushl .u64 1 x7.toNat) : Nat) : Int)), (11, ptr b43 0), (12, .int .u64 (((ushl .u64 1 x7.toNat) : Nat) : Int))]) (ps' := [.obj b8 (.cells [.int .i64 x1, .slice a3 l2.length c4] .own), .rd a3 c4 2 l2.length (l2.map (eP (eI .i64) (eI .i64))), .obj b41 (.cells [.slice a39 l38.length l38.length] .own), .sl a39 1 l38.length (l38.map (eI .i64)), .obj b43 (.cells [.int .i64 0] .own)]) (sc rfl (sc rfl (sc rfl (sc rfl (sc rfl (sc rfl sn)))))) (Turn.picks [4, 5, 1, 2, 0] rfl rfl) ?_
     refine Wk.loop (σ := List (Int) × Nat × Int × Nat) (ρ := List (Int)) (γ := Nat) (δ := fun _ => Unit) _ (fun (s : List (Int) × Nat × Int × Nat) (g : Nat) => match s, g with | (l193, v194, v196, v197), b195 => ⟨.normal, [(1, .int .u64 ((x6 : Nat) : Int)), (3, ptr b8 0), (9, ptr b41 0), (10, .int .u64 ((v194 : Nat) : Int)), (11, ptr b195 0), (12, .int .u64 ((v197 : Nat) : Int))], [.obj b8 (.cells [.int .i64 x1, .slice a3 l2.length c4] .own), .rd a3 c4 2 l2.length (l2.map (eP (eI .i64) (eI .i64))), .obj b41 (.cells [.slice a39 l38.length l38.length] .own), .sl a39 1 l38.length (l193.map (eI .i64)), .obj b195 (.cells [.int .i64 v196] .own)]⟩) (fun (r : List (Int)) (g : Unit) => match r, g with | l348, _ => ⟨(.exit 0), [(9, ptr b41 0)], [.obj b41 (.cells [.slice a39 l38.length l38.length] .own), .sl a39 1 l38.length (l348.map (eI .i64))]⟩) ?_ (fun _ _ => rfl) (fun r d => by intro e; cases e) _ _ _ h494 b43
     clear hF h494
     rintro ⟨l193, v194, v196, v197⟩ b195 r hF
     unfold L20_2 at hF
     refine Wk.seq <| Wk.seq <| Wk.region <| Wo.od (o_mv rfl) rfl <| Wo.od (o_bi rfl rfl (ub_neq _ _)) rfl <| Wo.nil <| At.tn ?_
     rcases br_some hF with ⟨h349, hF⟩ | ⟨h349, hF⟩
     ·refine Wk.condT rfl h349 <| Wk.skip <| At.tn <| Wk.seq <| Wk.block <| Wk.seq <| Wk.seq <| Wk.region <| Wo.od (o_mv rfl) rfl ?_
      obtain ⟨r353, h354, hF⟩ := ob_some hF
      refine Wo.x (o_cs (α := Nat) (V := fun g => (fun (r : Unit) (g : Nat) => match r, g with | _, b351 => (.func (.func 78) #[] #[ptr b351 0] : Value)) r353 g) (N := fun g => (fun (r : Unit) (g : Nat) => match r, g with | _, b351 => ([.obj b351 (.cells [.int .u64 ((v197 : Nat) : Int)] .own), .obj b8 (.cells [.int .i64 x1, .slice a3 l2.length c4] .own), .rd a3 c4 2 l2.length (l2.map (eP (eI .i64) (eI .i64))), .obj b41 (.cells [.slice a39 l38.length l38.length] .own), .sl a39 1 l38.length (l193.map (eI .i64)), .obj b195 (.cells [.int .i64 v196] .own)] : List Pc)) r353 g) rfl rfl (fun m hm => ?_)) gn rfl ?_
      ·clear hF
       revert r353
       intro r hF
       refine call_wk (N := 4) (rs := [.tmp 2]) rfl Tryd.func61 rfl rfl rfl hm <| Wk.seq <| Wk.region <| Wo.x (o_bx rfl) gn rfl fun b352 => ?_
       refine Wo.od (o_as rfl) rfl <| Wo.nil <| At.tn <| Wk.seq <| Wk.region <| Wo.od (o_mf rfl rfl) rfl <| Wo.od (o_as rfl) rfl <| Wo.nil <| At.tn <| Wk.ret ?_
       cases hF
       exact At.ret (.tmp rfl .nil) fun m' hm => ⟨b352, rfl, (Turn.picks [0, 1, 2, 3, 4, 5] rfl rfl) m' hm⟩
      ·clear h354
       rintro b351
       refine Wo.nil <| At.tn <| Wk.block ?_
       obtain ⟨l423, h488, hF⟩ := ob_some hF
       refine Wk.range (N := 14) (rs := []) (γ := Unit) (X := fun g => (fun (r : List (Int)) (g : Unit) => (match r, g with | l423, _ => ⟨.ready, none, [.obj b8 (.cells [.int .i64 x1, .slice a3 l2.length c4] .own), .rd a3 c4 2 l2.length (l2.map (eP (eI .i64) (eI .i64))), .obj b41 (.cells [.slice a39 l38.length l38.length] .own), .sl a39 1 l38.length (l423.map (eI .i64)), .obj b195 (.cells [.int .i64 v196] .own)]⟩ : Rn)) l423 g) rfl rfl Tryd.func78 rfl rfl rfl ?_ (fun y => by intro e; cases e) ?_
       ·clear hF
        revert l423
        intro r hF
        intro t357 l355 rc356 h358 h359
        refine Wk.block ?_
        obtain ⟨l465, h485, hF⟩ := ob_some hF
        refine Wk.cut (G := (fun (r : List (Int)) (g : Unit) => match r, g with | l465, _ => ⟨(.exit 0), [], [.obj l355 (rc356 .ready none), .obj b8 (.cells [.int .i64 x1, .slice a3 l2.length c4] .own), .rd a3 c4 2 l2.length (l2.map (eP (eI .i64) (eI .i64))), .obj b41 (.cells [.slice a39 l38.length l38.length] .own), .sl a39 1 l38.length (l465.map (eI .i64)), .obj b195 (.cells [.int .i64 v196] .own)]⟩) l465) ?_ ?_
        ·refine Wk.weak (fs' := [(0, .func (.yield l355) #[] #[]), (1, ptr b351 0)]) (ps' := [.obj l355 (rc356 .ready none), .obj b351 (.cells [.int .u64 ((v197 : Nat) : Int)] .own), .obj b8 (.cells [.int .i64 x1, .slice a3 l2.length c4] .own), .rd a3 c4 2 l2.length (l2.map (eP (eI .i64) (eI .i64))), .obj b41 (.cells [.slice a39 l38.length l38.length] .own), .sl a39 1 l38.length (l193.map (eI .i64)), .obj b195 (.cells [.int .i64 v196] .own)]) (sc rfl (sc rfl sn)) (Turn.picks [0, 1, 2, 3, 4, 5, 6] rfl rfl) ?_
         refine Wk.loop (σ := Nat × List (Int)) (ρ := List (Int)) (γ := Unit) (δ := fun _ => Unit) _ (fun (s : Nat × List (Int)) (g : Unit) => match s, g with | (v442, l443), _ => ⟨.normal, [(0, .func (.yield l355) #[] #[]), (1, ptr b351 0)], [.obj l355 (rc356 .ready none), .obj b351 (.cells [.int .u64 ((v442 : Nat) : Int)] .own), .obj b8 (.cells [.int .i64 x1, .slice a3 l2.length c4] .own), .rd a3 c4 2 l2.length (l2.map (eP (eI .i64) (eI .i64))), .obj b41 (.cells [.slice a39 l38.length l38.length] .own), .sl a39 1 l38.length (l443.map (eI .i64)), .obj b195 (.cells [.int .i64 v196] .own)]⟩) (fun (r : List (Int)) (g : Unit) => match r, g with | l465, _ => ⟨(.exit 0), [], [.obj l355 (rc356 .ready none), .obj b8 (.cells [.int .i64 x1, .slice a3 l2.length c4] .own), .rd a3 c4 2 l2.length (l2.map (eP (eI .i64) (eI .i64))), .obj b41 (.cells [.slice a39 l38.length l38.length] .own), .sl a39 1 l38.length (l465.map (eI .i64)), .obj b195 (.cells [.int .i64 v196] .own)]⟩) ?_ (fun _ _ => rfl) (fun r d => by intro e; cases e) _ _ _ h485 ()
         clear hF h485
         rintro ⟨v442, l443⟩ ⟨⟩ r hF
         unfold L20_1 at hF
         refine Wk.seq <| Wk.seq <| Wk.region <| Wo.od (o_ld (k := 1) t28 rfl rfl rfl) rfl <| Wo.od (o_bi rfl rfl (ub_neq _ _)) rfl <| Wo.nil <| At.tn ?_
         rcases br_some hF with ⟨h466, hF⟩ | ⟨h466, hF⟩
         ·refine Wk.condT rfl h466 <| Wk.skip <| At.tn <| Wk.seq <| Wk.block <| Wk.seq <| Wk.region <| Wo.od (o_mv rfl) rfl <| Wo.od (o_ld (k := 1) t28 rfl rfl rfl) rfl ?_
          obtain ⟨r468, h467, hF⟩ := ob_some hF
          refine Wo.x (o_cl rfl rfl (fun m hm => f42_ok n v442  _ h467 m (hG.ext hm.ext) ) fun _ => rfl) gn rfl ?_
          rintro ⟨⟩
          obtain ⟨r483, h484, hF⟩ := ob_some hF
          refine Wo.x (o_yd (k := 0) (k1 := 0) (γA := Unit) (GA := (fun g : Unit => (match g with | _ => ⟨.normal, [(9, ptr b41 0), (11, ptr b195 0), (13, .int .i64 r468)], [.obj l355 (rc356 .ready none), .obj b41 (.cells [.slice a39 l38.length l38.length] .own), .sl a39 1 l38.length (l443.map (eI .i64)), .obj b195 (.cells [.int .i64 v196] .own), .obj b8 (.cells [.int .i64 x1, .slice a3 l2.length c4] .own), .rd a3 c4 2 l2.length (l2.map (eP (eI .i64) (eI .i64))), .obj b351 (.cells [.int .u64 ((v442 : Nat) : Int)] .own)]⟩ : En))) (γ := Unit) (G := fun g => (fun (r : Unit) (g : Unit) => (match r, g with | _, _ => ⟨.normal, [], [.obj l355 (rc356 .busy none), .obj b8 (.cells [.int .i64 x1, .slice a3 l2.length c4] .own), .rd a3 c4 2 l2.length (l2.map (eP (eI .i64) (eI .i64))), .obj b41 (.cells [.slice a39 l38.length l38.length] .own), .sl a39 1 l38.length ((l443.set r468.toNat v196).map (eI .i64)), .obj b195 (.cells [.int .i64 v196] .own), .obj b351 (.cells [.int .u64 ((v442 : Nat) : Int)] .own)]⟩ : En)) r483 g) rfl rfl rfl h359 h358 rfl ?_ (fun _ => rfl) (fun _ => rfl) ?_ (fun y => rfl)) gn rfl ?_
          ·clear hF h484
           refine Wk.region <| Wo.od (o_as rfl) rfl <| Wo.nil ?_
           exact At.en () rfl (sc rfl (sc rfl (sc rfl sn))) (Turn.picks [0, 4, 5, 6, 2, 3, 1] rfl rfl)
          ·clear hF
           revert r483
           intro r hF
           rintro ⟨⟩
           refine Wk.block <| Wk.region <| Wo.od (o_ld (k := 1) t39 rfl rfl rfl) rfl <| Wo.od (o_mv rfl) rfl <| Wo.od (o_ld (k := 3) t3 rfl rfl rfl) rfl ?_
           obtain ⟨h476, hF⟩ := gd_some hF
           replace h476 := inB_some h476
           refine Wo.open (k := 2) rfl (pos_of h476) ?_
           rintro b477 tg478 rfl h479
           refine Wo.og (o_ixa s39 rfl rfl h476) gn rfl ?_
           obtain ⟨x480, h481, hF⟩ := ob_some hF
           refine Wo.o0 (o_stl (k := 2) (x1 := x480) (x2 := v196) t3 rfl rfl rfl h481 rfl) <| Wo.nil <| At.bn ?_
           cases hF
           exact At.en () rfl sn (Turn.trans (Turn.close (k := 2) rfl) (Turn.picks [0, 4, 5, 1, 2, 3, 6] rfl rfl))
          ·clear h484
           rintro ⟨⟩
           refine Wo.od (o_un rfl rfl) rfl <| Wo.nil <| At.tn <| Wk.condF rfl rfl <| Wk.skip <| At.bn <| At.tn <| Wk.region <| Wo.od (o_ld (k := 6) t28 rfl rfl rfl) rfl <| Wo.od (o_ld (k := 6) t28 rfl rfl rfl) rfl <| Wo.od (o_bi rfl rfl (ub_sub rfl _ _)) rfl <| Wo.od (o_bi rfl rfl (ub_and rfl _ _)) rfl <| Wo.o0 (o_st (k := 6) t28 rfl rfl rfl rfl rfl) <| Wo.nil ?_
           cases hF
           exact At.en () rfl (sc rfl (sc rfl sn)) (Turn.picks [0, 6, 1, 2, 3, 4, 5] rfl rfl)
         ·refine Wk.condF rfl h466 <| Wk.exit <| At.te ?_
          cases hF
          exact At.en () rfl sn (Turn.picks [0, 2, 3, 4, 5, 6] rfl rfl)
        ·clear h485
         rintro ⟨⟩
         refine At.be ?_
         have hr := Option.some.inj hF
         subst r
         exact At.fin .nil fun m' hm => ⟨(), (Turn.picks [0, 1, 2, 3, 4, 5] rfl rfl) m' hm⟩
       ·clear h488
        rintro ⟨⟩
        change At _ .normal _ _ _
        refine At.bn <| At.tn <| Wk.seq <| Wk.region <| Wo.od (o_ld (k := 0) t25 rfl rfl rfl) rfl <| Wo.od (o_mv rfl) rfl ?_
        obtain ⟨r490, h489, hF⟩ := ob_some hF
        refine Wo.x (o_cl rfl rfl (fun m hm => f56_ok n x1 l2 v194 a3 c4 _ h489 m (hG.ext hm.ext) (hm.rd (k := 1) rfl (.rd _ _ _ _ _))) fun _ => rfl) gn rfl ?_
        rintro ⟨⟩
        refine Wo.od (o_mv rfl) rfl <| Wo.od (o_bi rfl rfl (ub_and rfl _ _)) rfl <| Wo.od (o_as rfl) rfl <| Wo.nil <| At.tn <| Wk.region <| Wo.od (o_mv rfl) rfl <| Wo.od (o_mv rfl) rfl ?_
        obtain ⟨y491, h492, hF⟩ := ob_some hF
        refine Wo.od (o_bi rfl rfl ((ub_or rfl _ _).trans (cN h492))) rfl <| Wo.od (o_as rfl) rfl <| Wo.nil <| At.bn <| At.tn <| Wk.seq <| Wk.seq <| Wk.region <| Wo.od (o_ld (k := 4) t3 rfl rfl rfl) rfl <| Wo.nil <| At.tn <| Wk.region <| Wo.x (o_al z3 rfl) gn rfl fun b493 => ?_
        refine Wo.o0 (o_st (k := 0) t3 rfl rfl rfl rfl rfl) <| Wo.nil <| At.tn <| Wk.region <| Wo.od (o_ld (k := 0) t3 rfl rfl rfl) rfl <| Wo.od (o_bi rfl rfl (bin_add _ _ _)) rfl <| Wo.o0 (o_st (k := 0) t3 rfl rfl rfl rfl rfl) <| Wo.nil ?_
        cases hF
        exact At.en b493 rfl (sc rfl (sc rfl (sc rfl (sc rfl (sc rfl (sc rfl sn)))))) (Turn.picks [1, 2, 3, 4, 0] rfl rfl)
     ·refine Wk.condF rfl h349 <| Wk.exit <| At.te ?_
      cases hF
      exact At.en () rfl (sc rfl sn) (Turn.picks [2, 3] rfl rfl)
    ·clear h494
     rintro ⟨⟩
     refine At.be <| At.tn <| Wk.seq <| Wk.region <| Wo.od (o_ld (k := 0) t39 rfl rfl rfl) rfl <| Wo.od (o_as rfl) rfl <| Wo.od (o_as rfl) rfl <| Wo.nil <| At.tn <| Wk.ret ?_
     cases hF
     exact At.ret (.tmp rfl (.tmp rfl .nil)) fun m' hm => ⟨(a39, l38.length), rfl, (Turn.picks [1] rfl rfl) m' hm⟩
theorem f38_ok (n : Nat) (x1 : Int) (l2 : List (Int × Int)) (x6 : Nat) (x7 : Int) (a3 : Option Addr) (c4 : Nat) (r : List Int × Int) (hF : F38 n x1 l2 x6 x7 = some r) (m : AMem) (h5 : Rd m a3 c4 2 l2.length (l2.map (eP (eI .i64) (eI .i64)))) :
  CallA E18w 38 [.agg #[.int .i64 x1, .slice a3 l2.length c4], .int .u64 ((x6 : Nat) : Int), .int .i64 x7] m (fun v m' => ∃ x : Option Addr × Nat, v = .tuple #[.slice x.1 x.2 x.2, .int .i64 r.2] ∧ Hp m m' [.sl x.1 1 x.2 (r.1.map (eI .i64))]) := by
 unfold F38 at hF
 refine call_wk (m0 := m) (ps := [.rd a3 c4 2 l2.length (l2.map (eP (eI .i64) (eI .i64)))]) (N := 119) (rs := [.tmp 6, .tmp 7]) rfl Tryd.func38 rfl rfl rfl ((Hp.start m).inn rfl h5) <| Wk.seq <| Wk.region <| Wo.x (o_bx rfl) gn rfl fun b8 => ?_
 refine Wo.od (o_as rfl) rfl <| Wo.od (o_as rfl) rfl <| Wo.nil <| At.tn <| Wk.seq <| Wk.seq <| Wk.region <| Wo.od (o_ld (k := 0) t25 rfl rfl rfl) rfl <| Wo.od (o_mv rfl) rfl ?_
 obtain ⟨r10, h9, hF⟩ := ob_some hF
 refine Wo.x (o_cl rfl rfl (fun m hm => f66_ok n x1 l2 x6 a3 c4 _ h9 m (hm.rd (k := 1) rfl (.rd _ _ _ _ _))) fun _ => rfl) gn rfl ?_
 rintro ⟨⟩
 refine Wo.od (o_as rfl) rfl <| Wo.nil <| At.tn <| Wk.seq <| Wk.region <| Wo.od (o_mv rfl) rfl <| Wo.od (o_bi rfl rfl (ib_neq _ _)) rfl <| Wo.nil <| At.tn ?_
 rcases br_some hF with ⟨h11, hF⟩ | ⟨h11, hF⟩
 ·refine Wk.condT rfl h11 <| Wk.seq <| Wk.region <| Wo.od (o_mv rfl) rfl <| Wo.od (o_as rfl) rfl <| Wo.od (o_as rfl) rfl <| Wo.nil <| At.tn <| Wk.ret <| At.tr ?_
  cases hF
  exact At.ret (.tmp rfl (.tmp rfl .nil)) fun m' hm => ⟨(none, 0), rfl, (Turn.trans (Turn.nil 1 rfl) (Turn.picks [0] rfl rfl)) m' hm⟩
 ·refine Wk.condF rfl h11 <| Wk.skip <| At.tn <| Wk.seq <| Wk.seq ?_
  obtain ⟨v28, h33, hF⟩ := ob_some hF
  refine Wk.cut (G := (fun (r : Bool) (g : Unit) => match r, g with | v28, _ => ⟨.normal, [(1, .int .u64 ((x6 : Nat) : Int)), (2, .int .i64 x7), (3, ptr b8 0), (34, .bool v28)], [.obj b8 (.cells [.int .i64 x1, .slice a3 l2.length c4] .own), .rd a3 c4 2 l2.length (l2.map (eP (eI .i64) (eI .i64)))]⟩) v28) ?_ ?_
  ·clear hF
   revert v28
   intro r hF
   refine Wk.region <| Wo.od (o_mv rfl) rfl <| Wo.od (o_bi rfl rfl (bin_lss _ _ _)) rfl <| Wo.od (o_mv rfl) rfl ?_
   rcases br_some hF with ⟨h29, hF⟩ | ⟨h29, hF⟩
   ·refine Wo.s (gg rfl rfl (eTF h29)) rfl <| Wo.s (gg rfl rfl (eTF h29)) rfl <| Wo.s (gg rfl rfl (eTF h29)) rfl <| Wo.s (gg rfl rfl (eTF h29)) rfl <| Wo.od (o_pt rfl h29 rfl) rfl <| Wo.od (o_mv rfl) rfl <| Wo.s (gg rfl rfl rfl) rfl <| Wo.s (gg rfl rfl rfl) rfl <| Wo.s (gg rfl rfl rfl) rfl <| Wo.s (gg rfl rfl rfl) rfl ?_
    refine Wo.od (o_pT rfl rfl) rfl <| Wo.nil ?_
    cases hF
    exact At.en () rfl (sc rfl (sc rfl (sc rfl (sc rfl sn)))) (Turn.picks [0, 1] rfl rfl)
   ·refine Wo.og (o_mv rfl) (gg rfl rfl (eFF h29)) rfl <| Wo.og (o_fa (r := ptr b8 0) rfl (fa25_0 _ _)) (gg rfl rfl (eFF h29)) rfl <| Wo.og (o_ld (k := 0) t3 rfl rfl rfl) (gg rfl rfl (eFF h29)) rfl <| Wo.og (o_bi rfl rfl (bin_geq _ _ _)) (gg rfl rfl (eFF h29)) rfl <| Wo.od (o_pf rfl h29 rfl) rfl <| Wo.od (o_mv rfl) rfl ?_
    rcases br_some hF with ⟨h30, hF⟩ | ⟨h30, hF⟩
    ·refine Wo.s (gg rfl rfl (eTF h30)) rfl <| Wo.s (gg rfl rfl (eTF h30)) rfl <| Wo.s (gg rfl rfl (eTF h30)) rfl <| Wo.s (gg rfl rfl (eTF h30)) rfl <| Wo.od (o_pt rfl h30 rfl) rfl <| Wo.nil ?_
     cases hF
     exact At.en () rfl (sc rfl (sc rfl (sc rfl (sc rfl sn)))) (Turn.picks [0, 1] rfl rfl)
    ·refine Wo.og (o_mv rfl) (gg rfl rfl (eFF h30)) rfl <| Wo.og (o_mv rfl) (gg rfl rfl (eFF h30)) rfl ?_
     obtain ⟨r32, h31, hF⟩ := ob_some hF
     refine Wo.x (o_cl rfl rfl (fun m hm => f67_ok n x6 x7  _ h31 m ) fun _ => rfl) (gg rfl rfl (eFF h30)) rfl ?_
     rintro ⟨⟩
     refine Wo.og (o_un rfl rfl) (gg rfl rfl (eFF h30)) rfl <| Wo.od (o_pf rfl h30 rfl) rfl <| Wo.nil ?_
     cases hF
     exact At.en () rfl (sc rfl (sc rfl (sc rfl (sc rfl sn)))) (Turn.picks [0, 1] rfl rfl)
  ·clear h33
   rintro ⟨⟩
   refine At.tn ?_
   rcases br_some hF with ⟨h35, hF⟩ | ⟨h35, hF⟩
   ·refine Wk.condT rfl h35 <| Wk.seq <| Wk.region <| Wo.od (o_as rfl) rfl <| Wo.od (o_as rfl) rfl <| Wo.nil <| At.tn <| Wk.ret <| At.tr ?_
    cases hF
    exact At.ret (.tmp rfl (.tmp rfl .nil)) fun m' hm => ⟨(none, 0), rfl, (Turn.trans (Turn.nil 1 rfl) (Turn.picks [0] rfl rfl)) m' hm⟩
   ·refine Wk.condF rfl h35 <| Wk.skip <| At.tn <| Wk.seq <| Wk.region <| Wo.od (o_as rfl) rfl <| Wo.nil <| At.tn <| Wk.seq <| Wk.seq <| Wk.region <| Wo.od (o_as rfl) rfl <| Wo.nil <| At.tn <| Wk.block ?_
    obtain ⟨l52, h58, hF⟩ := ob_some hF
    refine Wk.cut (G := (fun (r : List (Int)) (g : Option Addr) => match r, g with | l52, a53 => ⟨(.exit 0), [(1, .int .u64 ((x6 : Nat) : Int)), (2, .int .i64 x7), (3, ptr b8 0), (9, .slice a53 l52.length l52.length)], [.obj b8 (.cells [.int .i64 x1, .slice a3 l2.length c4] .own), .rd a3 c4 2 l2.length (l2.map (eP (eI .i64) (eI .i64))), .sl a53 1 l52.length (l52.map (eI .i64))]⟩) l52) ?_ ?_
    ·refine Wk.weak (fs' := [(1, .int .u64 ((x6 : Nat) : Int)), (2, .int .i64 x7), (3, ptr b8 0), (9, .slice none ([] : List (Int)).length ([] : List (Int)).length), (10, .int .i64 0)]) (ps' := [.obj b8 (.cells [.int .i64 x1, .slice a3 l2.length c4] .own), .rd a3 c4 2 l2.length (l2.map (eP (eI .i64) (eI .i64))), .sl none 1 ([] : List (Int)).length (([] : List (Int)).map (eI .i64))]) (sc rfl (sc rfl (sc rfl (sc rfl (sc rfl sn))))) (Turn.trans (Turn.nil 1 rfl) (Turn.picks [1, 2, 0] rfl rfl)) ?_
     refine Wk.loop (σ := List (Int) × Int) (ρ := List (Int)) (γ := Option Addr) (δ := fun _ => Option Addr) _ (fun (s : List (Int) × Int) (g : Option Addr) => match s, g with | (l42, v44), a43 => ⟨.normal, [(1, .int .u64 ((x6 : Nat) : Int)), (2, .int .i64 x7), (3, ptr b8 0), (9, .slice a43 l42.length l42.length), (10, .int .i64 v44)], [.obj b8 (.cells [.int .i64 x1, .slice a3 l2.length c4] .own), .rd a3 c4 2 l2.length (l2.map (eP (eI .i64) (eI .i64))), .sl a43 1 l42.length (l42.map (eI .i64))]⟩) (fun (r : List (Int)) (g : Option Addr) => match r, g with | l52, a53 => ⟨(.exit 0), [(1, .int .u64 ((x6 : Nat) : Int)), (2, .int .i64 x7), (3, ptr b8 0), (9, .slice a53 l52.length l52.length)], [.obj b8 (.cells [.int .i64 x1, .slice a3 l2.length c4] .own), .rd a3 c4 2 l2.length (l2.map (eP (eI .i64) (eI .i64))), .sl a53 1 l52.length (l52.map (eI .i64))]⟩) ?_ (fun _ _ => rfl) (fun r d => by intro e; cases e) _ _ _ h58 none
     clear hF h58
     rintro ⟨l42, v44⟩ a43 r hF
     unfold L38_1 at hF
     refine Wk.seq <| Wk.seq <| Wk.region <| Wo.od (o_mv rfl) rfl <| Wo.od (o_fa (r := ptr b8 0) rfl (fa25_0 _ _)) rfl <| Wo.od (o_ld (k := 0) t3 rfl rfl rfl) rfl <| Wo.od (o_bi rfl rfl (bin_lss _ _ _)) rfl <| Wo.nil <| At.tn ?_
     rcases br_some hF with ⟨h54, hF⟩ | ⟨h54, hF⟩
     ·refine Wk.condT rfl h54 <| Wk.skip <| At.tn <| Wk.seq <| Wk.block <| Wk.region <| Wo.od (o_mv rfl) rfl <| Wo.x (o_bs (es := ([-1] : List (Int)).map (eI .i64)) s39 rfl (bs_c s39 z3 rfl rfl) rfl rfl) gn rfl fun b55 => ?_
      obtain ⟨h56, hF⟩ := gd_some hF
      refine Wo.x (o_apl (k := 3) (k2 := 0) (xs := (l42 : List (Int))) (ys := ([-1] : List (Int))) (enI .i64) s39 ⟨_, u39⟩ rfl rfl rfl (.arr _ _ _ _ _) h56) gn rfl fun a57 => ?_
      refine Wo.od (o_as rfl) rfl <| Wo.nil <| At.bn <| At.tn <| Wk.region <| Wo.od (o_mv rfl) rfl <| Wo.od (o_bi rfl rfl (bin_add _ _ _)) rfl <| Wo.od (o_as rfl) rfl <| Wo.nil ?_
      cases hF
      exact At.en a57 rfl (sc rfl (sc rfl (sc rfl (sc rfl (sc rfl sn))))) (Turn.picks [1, 2, 3] rfl rfl)
     ·refine Wk.condF rfl h54 <| Wk.exit <| At.te ?_
      cases hF
      exact At.en a43 rfl (sc rfl (sc rfl (sc rfl (sc rfl sn)))) (Turn.picks [0, 1, 2] rfl rfl)
    ·clear h58
     rintro a53
     refine At.be <| At.tn <| Wk.seq <| Wk.region <| Wo.od (o_mv rfl) rfl <| Wo.od (o_mv rfl) rfl ?_
     obtain ⟨h60, hF⟩ := gd_some hF
     replace h60 := inB_some h60
     refine Wo.open (k := 2) rfl (pos_of h60) ?_
     rintro b61 tg62 rfl h63
     refine Wo.og (o_ixa s39 rfl rfl h60) gn rfl ?_
     obtain ⟨x64, h65, hF⟩ := ob_some hF
     refine Wo.o0 (o_stl (k := 2) (x1 := x64) (x2 := 0) t3 rfl rfl rfl h65 rfl) <| Wo.nil <| At.tn <| Wk.seq <| Wk.seq <| Wk.region <| Wo.od (o_as rfl) rfl <| Wo.nil <| At.tn <| Wk.block ?_
     obtain ⟨l1365, h2012, hF⟩ := ob_some hF
     refine Wk.cut (G := (fun (r : List (Int)) (g : Unit) => match r, g with | l1365, _ => ⟨(.exit 2), [(9, .slice (some ⟨b61, 0, none⟩) l52.length l52.length)], [.arr b61 1 l52.length (l1365.map (eI .i64)) tg62]⟩) l1365) ?_ ?_
     ·refine Wk.weak (fs' := [(1, .int .u64 ((x6 : Nat) : Int)), (3, ptr b8 0), (9, .slice (some ⟨b61, 0, none⟩) l52.length l52.length), (11, .int .i64 0)]) (ps' := [.obj b8 (.cells [.int .i64 x1, .slice a3 l2.length c4] .own), .rd a3 c4 2 l2.length (l2.map (eP (eI .i64) (eI .i64))), .arr b61 1 l52.length ((l52.set x7.toNat 0).map (eI .i64)) tg62]) (sc rfl (sc rfl (sc rfl (sc rfl sn)))) (Turn.picks [0, 1, 2] rfl rfl) ?_
      refine Wk.loop (σ := List (Int) × Int) (ρ := List (Int)) (γ := Unit) (δ := fun _ => Unit) _ (fun (s : List (Int) × Int) (g : Unit) => match s, g with | (l715, v716), _ => ⟨.normal, [(1, .int .u64 ((x6 : Nat) : Int)), (3, ptr b8 0), (9, .slice (some ⟨b61, 0, none⟩) l52.length l52.length), (11, .int .i64 v716)], [.obj b8 (.cells [.int .i64 x1, .slice a3 l2.length c4] .own), .rd a3 c4 2 l2.length (l2.map (eP (eI .i64) (eI .i64))), .arr b61 1 l52.length (l715.map (eI .i64)) tg62]⟩) (fun (r : List (Int)) (g : Unit) => match r, g with | l1365, _ => ⟨(.exit 2), [(9, .slice (some ⟨b61, 0, none⟩) l52.length l52.length)], [.arr b61 1 l52.length (l1365.map (eI .i64)) tg62]⟩) ?_ (fun _ _ => rfl) (fun r d => by intro e; cases e) _ _ _ h2012 ()
      clear hF h2012
      rintro ⟨l715, v716⟩ ⟨⟩ r hF
      unfold L38_3 at hF
      refine Wk.seq <| Wk.seq <| Wk.region <| Wo.od (o_mv rfl) rfl <| Wo.od (o_fa (r := ptr b8 0) rfl (fa25_0 _ _)) rfl <| Wo.od (o_ld (k := 0) t3 rfl rfl rfl) rfl <| Wo.od (o_bi rfl rfl (bin_lss _ _ _)) rfl <| Wo.nil <| At.tn ?_
      rcases br_some hF with ⟨h1366, hF⟩ | ⟨h1366, hF⟩
      ·refine Wk.condT rfl h1366 <| Wk.skip <| At.tn <| Wk.seq <| Wk.block <| Wk.seq <| Wk.region <| Wo.od (o_as rfl) rfl <| Wo.nil <| At.tn <| Wk.block ?_
       obtain ⟨l1797, h2010, hF⟩ := ob_some hF
       refine Wk.cut (G := (fun (r : List (Int)) (g : Unit) => match r, g with | l1797, _ => ⟨(.exit 4), [(1, .int .u64 ((x6 : Nat) : Int)), (3, ptr b8 0), (9, .slice (some ⟨b61, 0, none⟩) l52.length l52.length), (11, .int .i64 v716)], [.obj b8 (.cells [.int .i64 x1, .slice a3 l2.length c4] .own), .rd a3 c4 2 l2.length (l2.map (eP (eI .i64) (eI .i64))), .arr b61 1 l52.length (l1797.map (eI .i64)) tg62]⟩) l1797) ?_ ?_
       ·refine Wk.weak (fs' := [(1, .int .u64 ((x6 : Nat) : Int)), (3, ptr b8 0), (9, .slice (some ⟨b61, 0, none⟩) l52.length l52.length), (11, .int .i64 v716), (12, .int .i64 0)]) (ps' := [.obj b8 (.cells [.int .i64 x1, .slice a3 l2.length c4] .own), .rd a3 c4 2 l2.length (l2.map (eP (eI .i64) (eI .i64))), .arr b61 1 l52.length (l715.map (eI .i64)) tg62]) (sc rfl (sc rfl (sc rfl (sc rfl (sc rfl sn))))) (Turn.picks [0, 1, 2] rfl rfl) ?_
        refine Wk.loop (σ := List (Int) × Int) (ρ := List (Int)) (γ := Unit) (δ := fun _ => Unit) _ (fun (s : List (Int) × Int) (g : Unit) => match s, g with | (l1581, v1582), _ => ⟨.normal, [(1, .int .u64 ((x6 : Nat) : Int)), (3, ptr b8 0), (9, .slice (some ⟨b61, 0, none⟩) l52.length l52.length), (11, .int .i64 v716), (12, .int .i64 v1582)], [.obj b8 (.cells [.int .i64 x1, .slice a3 l2.length c4] .own), .rd a3 c4 2 l2.length (l2.map (eP (eI .i64) (eI .i64))), .arr b61 1 l52.length (l1581.map (eI .i64)) tg62]⟩) (fun (r : List (Int)) (g : Unit) => match r, g with | l1797, _ => ⟨(.exit 4), [(1, .int .u64 ((x6 : Nat) : Int)), (3, ptr b8 0), (9, .slice (some ⟨b61, 0, none⟩) l52.length l52.length), (11, .int .i64 v716)], [.obj b8 (.cells [.int .i64 x1, .slice a3 l2.length c4] .own), .rd a3 c4 2 l2.length (l2.map (eP (eI .i64) (eI .i64))), .arr b61 1 l52.length (l1797.map (eI .i64)) tg62]⟩) ?_ (fun _ _ => rfl) (fun r d => by intro e; cases e) _ _ _ h2010 ()
        clear hF h2010
        rintro ⟨l1581, v1582⟩ ⟨⟩ r hF
        unfold L38_2 at hF
        refine Wk.seq <| Wk.seq <| Wk.region <| Wo.od (o_mv rfl) rfl <| Wo.od (o_fa (r := ptr b8 1) rfl (fa25_1 _ _)) rfl <| Wo.od (o_ld (k := 0) t23 rfl rfl rfl) rfl <| Wo.od (o_ln (k := 1) u23 rfl rfl (.inl rfl)) rfl <| Wo.od (o_bi rfl rfl (bin_lss _ _ _)) rfl <| Wo.nil <| At.tn ?_
        rcases br_some hF with ⟨h1798, hF⟩ | ⟨h1798, hF⟩
        ·refine Wk.condT rfl h1798 <| Wk.skip <| At.tn <| Wk.seq ?_
         obtain ⟨l1903, h2008, hF⟩ := ob_some hF
         refine Wk.cut (G := (fun (r : List (Int)) (g : Unit) => match r, g with | l1903, _ => ⟨.normal, [(1, .int .u64 ((x6 : Nat) : Int)), (3, ptr b8 0), (9, .slice (some ⟨b61, 0, none⟩) l52.length l52.length), (11, .int .i64 v716), (12, .int .i64 v1582)], [.obj b8 (.cells [.int .i64 x1, .slice a3 l2.length c4] .own), .rd a3 c4 2 l2.length (l2.map (eP (eI .i64) (eI .i64))), .arr b61 1 l52.length (l1903.map (eI .i64)) tg62]⟩) l1903) ?_ ?_
         ·clear hF
          revert l1903
          intro r hF
          refine Wk.block <| Wk.seq <| Wk.draw (by kernel_rfl) <| Wo.od (o_fa (r := ptr b8 1) rfl (fa25_1 _ _)) rfl <| Wo.od (o_ld (k := 0) t23 rfl rfl rfl) rfl <| Wo.od (o_mv rfl) rfl ?_
          obtain ⟨h1904, hF⟩ := gd_some hF
          replace h1904 := inB_some h1904
          refine Wo.openr (k := 1) rfl (pos_of h1904) ?_
          rintro b1905 o1906 rfl
          refine Wo.og (o_ixs s23 rfl rfl h1904) gn rfl <| Wo.od (o_ia (r := ptr b1905 (o1906 + v1582.toNat * 2 + 0)) rfl rfl (ia_c ar26 (i := 0) (by decide))) rfl ?_
          obtain ⟨⟨x1907, x1908⟩, h1909, hF⟩ := ob_some hF
          refine Wo.od (o_ldr (k := 0) t3 rfl rfl (map_at h1909) rfl rfl) rfl <| Wo.od (o_fa (r := ptr b8 1) rfl (fa25_1 _ _)) rfl <| Wo.od (o_ld (k := 1) t23 rfl rfl rfl) rfl <| Wo.od (o_mv rfl) rfl ?_
          obtain ⟨h1910, hF⟩ := gd_some hF
          replace h1910 := inB_some h1910
          refine Wo.og (o_ixs s23 rfl rfl h1910) gn rfl <| Wo.od (o_ia (r := ptr b1905 (o1906 + v1582.toNat * 2 + 1)) rfl rfl (ia_c ar26 (i := 1) (by decide))) rfl <| Wo.od (o_ldr (k := 0) t3 rfl rfl (map_at h1909) rfl rfl) rfl <| Wo.od (o_as rfl) rfl <| Wo.od (o_as rfl) rfl <| Wo.nil <| At.tn <| Wk.seq <| Wk.seq ?_
          obtain ⟨v1930, h1936, hF⟩ := ob_some hF
          refine Wk.cut (G := (fun (r : Bool) (g : Unit) => match r, g with | v1930, _ => ⟨.normal, [(1, .int .u64 ((x6 : Nat) : Int)), (3, ptr b8 0), (9, .slice (some ⟨b61, 0, none⟩) l52.length l52.length), (11, .int .i64 v716), (12, .int .i64 v1582), (13, .int .i64 x1907), (14, .int .i64 x1908), (81, .bool v1930)], [.obj b8 (.cells [.int .i64 x1, .slice (some ⟨b1905, o1906, none⟩) l2.length c4] .own), .ro b1905 o1906 2 l2.length (l2.map (eP (eI .i64) (eI .i64))), .rd (some ⟨b1905, o1906, none⟩) c4 2 l2.length (l2.map (eP (eI .i64) (eI .i64))), .arr b61 1 l52.length (l1581.map (eI .i64)) tg62]⟩) v1930) ?_ ?_
          ·clear hF
           revert v1930
           intro r hF
           refine Wk.region <| Wo.od (o_mv rfl) rfl <| Wo.od (o_mv rfl) rfl ?_
           obtain ⟨r1932, h1931, hF⟩ := ob_some hF
           refine Wo.x (o_cl rfl rfl (fun m hm => f67_ok n x6 x1907  _ h1931 m ) fun _ => rfl) gn rfl ?_
           rintro ⟨⟩
           refine Wo.od (o_un rfl rfl) rfl <| Wo.od (o_mv rfl) rfl ?_
           rcases br_some hF with ⟨h1933, hF⟩ | ⟨h1933, hF⟩
           ·refine Wo.s (gg rfl rfl (eTF h1933)) rfl <| Wo.s (gg rfl rfl (eTF h1933)) rfl <| Wo.s (gg rfl rfl (eTF h1933)) rfl <| Wo.s (gg rfl rfl (eTF h1933)) rfl <| Wo.od (o_pt rfl h1933 rfl) rfl <| Wo.nil ?_
            cases hF
            exact At.en () rfl (sc rfl (sc rfl (sc rfl (sc rfl (sc rfl (sc rfl (sc rfl (sc rfl sn)))))))) (Turn.picks [1, 0, 2, 3] rfl rfl)
           ·refine Wo.og (o_mv rfl) (gg rfl rfl (eFF h1933)) rfl <| Wo.og (o_mv rfl) (gg rfl rfl (eFF h1933)) rfl ?_
            obtain ⟨r1935, h1934, hF⟩ := ob_some hF
            refine Wo.x (o_cl rfl rfl (fun m hm => f67_ok n x6 x1908  _ h1934 m ) fun _ => rfl) (gg rfl rfl (eFF h1933)) rfl ?_
            rintro ⟨⟩
            refine Wo.og (o_un rfl rfl) (gg rfl rfl (eFF h1933)) rfl <| Wo.od (o_pf rfl h1933 rfl) rfl <| Wo.nil ?_
            cases hF
            exact At.en () rfl (sc rfl (sc rfl (sc rfl (sc rfl (sc rfl (sc rfl (sc rfl (sc rfl sn)))))))) (Turn.picks [1, 0, 2, 3] rfl rfl)
          ·clear h1936
           rintro ⟨⟩
           refine At.tn ?_
           rcases br_some hF with ⟨h1938, hF⟩ | ⟨h1938, hF⟩
           ·refine Wk.condT rfl h1938 <| Wk.exit <| At.te <| At.be ?_
            have hr := Option.some.inj hF
            subst r
            exact At.en () rfl (sc rfl (sc rfl (sc rfl (sc rfl (sc rfl sn))))) (Turn.picks [0, 2, 3] rfl rfl)
           ·refine Wk.condF rfl h1938 <| Wk.skip <| At.tn <| Wk.seq ?_
            obtain ⟨l1961, h1984, hF⟩ := ob_some hF
            refine Wk.cut (G := (fun (r : List (Int)) (g : Unit) => match r, g with | l1961, _ => ⟨.normal, [(1, .int .u64 ((x6 : Nat) : Int)), (3, ptr b8 0), (9, .slice (some ⟨b61, 0, none⟩) l52.length l52.length), (11, .int .i64 v716), (12, .int .i64 v1582), (13, .int .i64 x1907), (14, .int .i64 x1908)], [.obj b8 (.cells [.int .i64 x1, .slice (some ⟨b1905, o1906, none⟩) l2.length c4] .own), .ro b1905 o1906 2 l2.length (l2.map (eP (eI .i64) (eI .i64))), .rd (some ⟨b1905, o1906, none⟩) c4 2 l2.length (l2.map (eP (eI .i64) (eI .i64))), .arr b61 1 l52.length (l1961.map (eI .i64)) tg62]⟩) l1961) ?_ ?_
            ·clear hF
             revert l1961
             intro r hF
             refine Wk.seq ?_
             obtain ⟨v1969, h1977, hF⟩ := ob_some hF
             refine Wk.cut (G := (fun (r : Bool) (g : Unit) => match r, g with | v1969, _ => ⟨.normal, [(1, .int .u64 ((x6 : Nat) : Int)), (3, ptr b8 0), (9, .slice (some ⟨b61, 0, none⟩) l52.length l52.length), (11, .int .i64 v716), (12, .int .i64 v1582), (13, .int .i64 x1907), (14, .int .i64 x1908), (94, .bool v1969)], [.obj b8 (.cells [.int .i64 x1, .slice (some ⟨b1905, o1906, none⟩) l2.length c4] .own), .ro b1905 o1906 2 l2.length (l2.map (eP (eI .i64) (eI .i64))), .rd (some ⟨b1905, o1906, none⟩) c4 2 l2.length (l2.map (eP (eI .i64) (eI .i64))), .arr b61 1 l52.length (l1581.map (eI .i64)) tg62]⟩) v1969) ?_ ?_
             ·clear hF
              revert v1969
              intro r hF
              refine Wk.region <| Wo.od (o_mv rfl) rfl <| Wo.od (o_mv rfl) rfl ?_
              obtain ⟨h1970, hF⟩ := gd_some hF
              replace h1970 := inB_some h1970
              refine Wo.og (o_ixa s39 rfl rfl h1970) gn rfl ?_
              obtain ⟨x1971, h1972, hF⟩ := ob_some hF
              refine Wo.od (o_lda (k := 3) t3 rfl rfl (map_at h1972) rfl rfl) rfl <| Wo.od (o_mv rfl) rfl <| Wo.od (o_bi rfl rfl (bin_eql _ _ _)) rfl <| Wo.od (o_mv rfl) rfl ?_
              rcases br_some hF with ⟨h1973, hF⟩ | ⟨h1973, hF⟩
              ·refine Wo.og (o_mv rfl) (gg rfl rfl (eTT h1973)) rfl <| Wo.og (o_mv rfl) (gg rfl rfl (eTT h1973)) rfl ?_
               obtain ⟨h1974, hF⟩ := gd_some hF
               replace h1974 := inB_some h1974
               refine Wo.og (o_ixa s39 rfl rfl h1974) (gg rfl rfl (eTT h1973)) rfl ?_
               obtain ⟨x1975, h1976, hF⟩ := ob_some hF
               refine Wo.og (o_lda (k := 3) t3 rfl rfl (map_at h1976) rfl rfl) (gg rfl rfl (eTT h1973)) rfl <| Wo.og (o_bi rfl rfl (bin_lss _ _ _)) (gg rfl rfl (eTT h1973)) rfl <| Wo.od (o_pt rfl h1973 rfl) rfl <| Wo.nil ?_
               cases hF
               exact At.en () rfl (sc rfl (sc rfl (sc rfl (sc rfl (sc rfl (sc rfl (sc rfl (sc rfl sn)))))))) (Turn.picks [0, 1, 2, 3] rfl rfl)
              ·refine Wo.s (gg rfl rfl (eFT h1973)) rfl <| Wo.s (gg rfl rfl (eFT h1973)) rfl <| Wo.s (gg rfl rfl (eFT h1973)) rfl <| Wo.s (gg rfl rfl (eFT h1973)) rfl <| Wo.s (gg rfl rfl (eFT h1973)) rfl <| Wo.od (o_pf rfl h1973 rfl) rfl <| Wo.nil ?_
               cases hF
               exact At.en () rfl (sc rfl (sc rfl (sc rfl (sc rfl (sc rfl (sc rfl (sc rfl (sc rfl sn)))))))) (Turn.picks [0, 1, 2, 3] rfl rfl)
             ·clear h1977
              rintro ⟨⟩
              refine At.tn ?_
              rcases br_some hF with ⟨h1979, hF⟩ | ⟨h1979, hF⟩
              ·refine Wk.condT rfl h1979 <| Wk.region <| Wo.od (o_mv rfl) rfl <| Wo.od (o_mv rfl) rfl <| Wo.od (o_mv rfl) rfl <| Wo.od (o_bi rfl rfl (bin_add _ _ _)) rfl ?_
               obtain ⟨h1980, hF⟩ := gd_some hF
               replace h1980 := inB_some h1980
               refine Wo.og (o_ixa s39 rfl rfl h1980) gn rfl ?_
               obtain ⟨x1981, h1982, hF⟩ := ob_some hF
               refine Wo.o0 (o_stl (k := 3) (x1 := x1981) (x2 := IntKind.wrap .i64 (v716 + 1)) t3 rfl rfl rfl h1982 rfl) <| Wo.nil ?_
               cases hF
               exact At.en () rfl (sc rfl (sc rfl (sc rfl (sc rfl (sc rfl (sc rfl (sc rfl sn))))))) (Turn.picks [0, 1, 2, 3] rfl rfl)
              ·refine Wk.condF rfl h1979 <| Wk.skip ?_
               have hr := Option.some.inj hF
               subst r
               exact At.en () rfl (sc rfl (sc rfl (sc rfl (sc rfl (sc rfl (sc rfl (sc rfl sn))))))) (Turn.picks [0, 1, 2, 3] rfl rfl)
            ·clear h1984
             rintro ⟨⟩
             refine At.tn <| Wk.seq ?_
             obtain ⟨v1993, h2001, hF⟩ := ob_some hF
             refine Wk.cut (G := (fun (r : Bool) (g : Unit) => match r, g with | v1993, _ => ⟨.normal, [(1, .int .u64 ((x6 : Nat) : Int)), (3, ptr b8 0), (9, .slice (some ⟨b61, 0, none⟩) l52.length l52.length), (11, .int .i64 v716), (12, .int .i64 v1582), (13, .int .i64 x1907), (112, .bool v1993)], [.obj b8 (.cells [.int .i64 x1, .slice (some ⟨b1905, o1906, none⟩) l2.length c4] .own), .ro b1905 o1906 2 l2.length (l2.map (eP (eI .i64) (eI .i64))), .rd (some ⟨b1905, o1906, none⟩) c4 2 l2.length (l2.map (eP (eI .i64) (eI .i64))), .arr b61 1 l52.length (l1961.map (eI .i64)) tg62]⟩) v1993) ?_ ?_
             ·clear hF
              revert v1993
              intro r hF
              refine Wk.region <| Wo.od (o_mv rfl) rfl <| Wo.od (o_mv rfl) rfl ?_
              obtain ⟨h1994, hF⟩ := gd_some hF
              replace h1994 := inB_some h1994
              refine Wo.og (o_ixa s39 rfl rfl h1994) gn rfl ?_
              obtain ⟨x1995, h1996, hF⟩ := ob_some hF
              refine Wo.od (o_lda (k := 3) t3 rfl rfl (map_at h1996) rfl rfl) rfl <| Wo.od (o_mv rfl) rfl <| Wo.od (o_bi rfl rfl (bin_eql _ _ _)) rfl <| Wo.od (o_mv rfl) rfl ?_
              rcases br_some hF with ⟨h1997, hF⟩ | ⟨h1997, hF⟩
              ·refine Wo.og (o_mv rfl) (gg rfl rfl (eTT h1997)) rfl <| Wo.og (o_mv rfl) (gg rfl rfl (eTT h1997)) rfl ?_
               obtain ⟨h1998, hF⟩ := gd_some hF
               replace h1998 := inB_some h1998
               refine Wo.og (o_ixa s39 rfl rfl h1998) (gg rfl rfl (eTT h1997)) rfl ?_
               obtain ⟨x1999, h2000, hF⟩ := ob_some hF
               refine Wo.og (o_lda (k := 3) t3 rfl rfl (map_at h2000) rfl rfl) (gg rfl rfl (eTT h1997)) rfl <| Wo.og (o_bi rfl rfl (bin_lss _ _ _)) (gg rfl rfl (eTT h1997)) rfl <| Wo.od (o_pt rfl h1997 rfl) rfl <| Wo.nil ?_
               cases hF
               exact At.en () rfl (sc rfl (sc rfl (sc rfl (sc rfl (sc rfl (sc rfl (sc rfl sn))))))) (Turn.picks [0, 1, 2, 3] rfl rfl)
              ·refine Wo.s (gg rfl rfl (eFT h1997)) rfl <| Wo.s (gg rfl rfl (eFT h1997)) rfl <| Wo.s (gg rfl rfl (eFT h1997)) rfl <| Wo.s (gg rfl rfl (eFT h1997)) rfl <| Wo.s (gg rfl rfl (eFT h1997)) rfl <| Wo.od (o_pf rfl h1997 rfl) rfl <| Wo.nil ?_
               cases hF
               exact At.en () rfl (sc rfl (sc rfl (sc rfl (sc rfl (sc rfl (sc rfl (sc rfl sn))))))) (Turn.picks [0, 1, 2, 3] rfl rfl)
             ·clear h2001
              rintro ⟨⟩
              refine At.tn ?_
              rcases br_some hF with ⟨h2003, hF⟩ | ⟨h2003, hF⟩
              ·refine Wk.condT rfl h2003 <| Wk.region <| Wo.od (o_mv rfl) rfl <| Wo.od (o_mv rfl) rfl <| Wo.od (o_mv rfl) rfl <| Wo.od (o_bi rfl rfl (bin_add _ _ _)) rfl ?_
               obtain ⟨h2004, hF⟩ := gd_some hF
               replace h2004 := inB_some h2004
               refine Wo.og (o_ixa s39 rfl rfl h2004) gn rfl ?_
               obtain ⟨x2005, h2006, hF⟩ := ob_some hF
               refine Wo.o0 (o_stl (k := 3) (x1 := x2005) (x2 := IntKind.wrap .i64 (v716 + 1)) t3 rfl rfl rfl h2006 rfl) <| Wo.nil <| At.bn ?_
               cases hF
               exact At.en () rfl (sc rfl (sc rfl (sc rfl (sc rfl (sc rfl sn))))) (Turn.picks [0, 2, 3] rfl rfl)
              ·refine Wk.condF rfl h2003 <| Wk.skip <| At.bn ?_
               have hr := Option.some.inj hF
               subst r
               exact At.en () rfl (sc rfl (sc rfl (sc rfl (sc rfl (sc rfl sn))))) (Turn.picks [0, 2, 3] rfl rfl)
         ·clear h2008
          rintro ⟨⟩
          refine At.tn <| Wk.region <| Wo.od (o_mv rfl) rfl <| Wo.od (o_bi rfl rfl (bin_add _ _ _)) rfl <| Wo.od (o_as rfl) rfl <| Wo.nil ?_
          cases hF
          exact At.en () rfl (sc rfl (sc rfl (sc rfl (sc rfl (sc rfl sn))))) (Turn.picks [0, 1, 2] rfl rfl)
        ·refine Wk.condF rfl h1798 <| Wk.exit <| At.te ?_
         cases hF
         exact At.en () rfl (sc rfl (sc rfl (sc rfl (sc rfl sn)))) (Turn.picks [0, 1, 2] rfl rfl)
       ·clear h2010
        rintro ⟨⟩
        refine At.be <| At.bn <| At.tn <| Wk.region <| Wo.od (o_mv rfl) rfl <| Wo.od (o_bi rfl rfl (bin_add _ _ _)) rfl <| Wo.od (o_as rfl) rfl <| Wo.nil ?_
        cases hF
        exact At.en () rfl (sc rfl (sc rfl (sc rfl (sc rfl sn)))) (Turn.picks [0, 1, 2] rfl rfl)
      ·refine Wk.condF rfl h1366 <| Wk.exit <| At.te ?_
       cases hF
       exact At.en () rfl (sc rfl sn) (Turn.picks [2] rfl rfl)
     ·clear h2012
      rintro ⟨⟩
      refine At.be <| At.tn <| Wk.seq <| Wk.region <| Wo.od (o_mv rfl) rfl <| Wo.od (o_as rfl) rfl <| Wo.od (o_as rfl) rfl <| Wo.nil <| At.tn <| Wk.ret ?_
      cases hF
      exact At.ret (.tmp rfl (.tmp rfl .nil)) fun m' hm => ⟨((some ⟨b61, 0, none⟩), l52.length), rfl, (Turn.trans (Turn.close (k := 0) rfl) (Turn.picks [0] rfl rfl)) m' hm⟩
theorem f39_ok (n : Nat) (l1 : List (Int)) (l5 : List (Int)) (a2 : Option Addr) (c3 : Nat) (a6 : Option Addr) (c7 : Nat) (r : Bool) (hF : F39 n l1 l5 = some r) (m : AMem) (h4 : Rd m a2 c3 1 l1.length (l1.map (eI .i64))) (h8 : Rd m a6 c7 1 l5.length (l5.map (eI .i64))) :
  CallA E18w 39 [.slice a2 l1.length c3, .slice a6 l5.length c7] m (fun v m' => ∃ x : Unit, v = .bool r ∧ Hp m m' []) := by
 unfold F39 at hF
 refine call_wk (m0 := m) (ps := [.rd a6 c7 1 l5.length (l5.map (eI .i64)), .rd a2 c3 1 l1.length (l1.map (eI .i64))]) (N := 26) (rs := [.tmp 4]) rfl Tryd.func39 rfl rfl rfl (((Hp.start m).inn rfl h4).inn rfl h8) <| Wk.seq <| Wk.region <| Wo.od (o_as rfl) rfl <| Wo.nil <| At.tn <| Wk.seq <| Wk.seq <| Wk.region <| Wo.od (o_mv rfl) rfl <| Wo.od (o_ln (k := 1) u39 rfl rfl (.inl rfl)) rfl <| Wo.od (o_mv rfl) rfl <| Wo.od (o_ln (k := 0) u39 rfl rfl (.inl rfl)) rfl <| Wo.od (o_bi rfl rfl (ib_neq _ _)) rfl <| Wo.nil <| At.tn ?_
 rcases br_some hF with ⟨h9, hF⟩ | ⟨h9, hF⟩
 ·refine Wk.condT rfl h9 <| Wk.seq <| Wk.region <| Wo.od (o_as rfl) rfl <| Wo.nil <| At.tn <| Wk.ret <| At.tr ?_
  cases hF
  exact At.ret (.tmp rfl .nil) fun m' hm => ⟨(), rfl, (Turn.picks [] rfl rfl) m' hm⟩
 ·refine Wk.condF rfl h9 <| Wk.skip <| At.tn <| Wk.seq <| Wk.seq <| Wk.region <| Wo.od (o_mv rfl) rfl <| Wo.od (o_ln (k := 1) u39 rfl rfl (.inl rfl)) rfl <| Wo.od (o_mv rfl) rfl <| Wo.nil <| At.tn <| Wk.block ?_
  obtain ⟨r38, h37, hF⟩ := ob_some hF
  refine Wk.cut (G := (fun (r : (Unit) ⊕ (Unit)) (g : Unit) => match r, g with | .inl _, _ => ⟨.ret, [(4, .bool false)], []⟩ | .inr _, _ => ⟨(.exit 0), [], []⟩) r38) ?_ ?_
  ·refine Wk.weak (fs' := [(0, .slice a2 l1.length c3), (1, .slice a6 l5.length c7), (12, .int .i64 (l1.length : Int)), (13, .int .i64 0)]) (ps' := [.rd a2 c3 1 l1.length (l1.map (eI .i64)), .rd a6 c7 1 l5.length (l5.map (eI .i64))]) (sc rfl (sc rfl (sc rfl (sc rfl sn)))) (Turn.picks [1, 0] rfl rfl) ?_
   refine Wk.loop (σ := Int) (ρ := (Unit) ⊕ (Unit)) (γ := Unit) (δ := fun _ => Unit) _ (fun (s : Int) (g : Unit) => match s, g with | v11, _ => ⟨.normal, [(0, .slice a2 l1.length c3), (1, .slice a6 l5.length c7), (12, .int .i64 (l1.length : Int)), (13, .int .i64 v11)], [.rd a2 c3 1 l1.length (l1.map (eI .i64)), .rd a6 c7 1 l5.length (l5.map (eI .i64))]⟩) (fun (r : (Unit) ⊕ (Unit)) (g : Unit) => match r, g with | .inl _, _ => ⟨.ret, [(4, .bool false)], []⟩ | .inr _, _ => ⟨(.exit 0), [], []⟩) ?_ (fun _ _ => rfl) (fun r d => by rcases r with _ | _ <;> (intro e; cases e)) _ _ _ h37 ()
   clear hF h37
   rintro v11 ⟨⟩ r hF
   unfold L39_1 at hF
   refine Wk.seq <| Wk.region <| Wo.od (o_bi rfl rfl (bin_lss _ _ _)) rfl <| Wo.nil <| At.tn <| Wk.seq ?_
   rcases br_some hF with ⟨h25, hF⟩ | ⟨h25, hF⟩
   ·refine Wk.condT rfl h25 <| Wk.skip <| At.tn <| Wk.seq <| Wk.block <| Wk.seq <| Wk.region <| Wo.od (o_mv rfl) rfl <| Wo.od (o_as rfl) rfl <| Wo.nil <| At.tn <| Wk.seq <| Wk.draw (by kernel_rfl) <| Wo.od (o_mv rfl) rfl <| Wo.od (o_mv rfl) rfl ?_
    obtain ⟨h26, hF⟩ := gd_some hF
    replace h26 := inB_some h26
    refine Wo.openr (k := 0) rfl (pos_of h26) ?_
    rintro b27 o28 rfl
    refine Wo.og (o_ixs s39 rfl rfl h26) gn rfl ?_
    obtain ⟨x29, h30, hF⟩ := ob_some hF
    refine Wo.od (o_ldr (k := 0) t3 rfl rfl (map_at h30) rfl rfl) rfl <| Wo.od (o_mv rfl) rfl <| Wo.od (o_mv rfl) rfl ?_
    obtain ⟨h31, hF⟩ := gd_some hF
    replace h31 := inB_some h31
    refine Wo.openr (k := 2) rfl (pos_of h31) ?_
    rintro b32 o33 rfl
    refine Wo.og (o_ixs s39 rfl rfl h31) gn rfl ?_
    obtain ⟨x34, h35, hF⟩ := ob_some hF
    refine Wo.od (o_ldr (k := 0) t3 rfl rfl (map_at h35) rfl rfl) rfl <| Wo.od (o_bi rfl rfl (ib_neq _ _)) rfl <| Wo.nil <| At.tn ?_
    rcases br_some hF with ⟨h36, hF⟩ | ⟨h36, hF⟩
    ·refine Wk.condT rfl h36 <| Wk.seq <| Wk.region <| Wo.od (o_as rfl) rfl <| Wo.nil <| At.tn <| Wk.ret <| At.br <| At.tr ?_
     cases hF
     exact At.en () rfl (sc rfl sn) (Turn.picks [] rfl rfl)
    ·refine Wk.condF rfl h36 <| Wk.skip <| At.bn <| At.tn <| Wk.region <| Wo.od (o_bi rfl rfl (bin_add _ _ _)) rfl <| Wo.od (o_mv rfl) rfl <| Wo.nil ?_
     cases hF
     exact At.en () rfl (sc rfl (sc rfl (sc rfl (sc rfl sn)))) (Turn.picks [2, 3] rfl rfl)
   ·refine Wk.condF rfl h25 <| Wk.exit <| At.te ?_
    cases hF
    exact At.en () rfl sn (Turn.picks [] rfl rfl)
  ·clear h37
   rcases r38 with _ | _
   ·rintro ⟨⟩
    refine At.br <| At.tr ?_
    cases hF
    exact At.ret (.tmp rfl .nil) fun m' hm => ⟨(), rfl, (Turn.picks [] rfl rfl) m' hm⟩
   ·rintro ⟨⟩
    refine At.be <| At.tn <| Wk.seq <| Wk.region <| Wo.od (o_as rfl) rfl <| Wo.nil <| At.tn <| Wk.ret ?_
    cases hF
    exact At.ret (.tmp rfl .nil) fun m' hm => ⟨(), rfl, (Turn.picks [] rfl rfl) m' hm⟩
end Go.Proofs.YtpclggcpobakhaaDoor.W5
end

section
namespace Go.Proofs.YtpclggcpobakhaaDoor.W5
open Go Go.Ab Go.Ab.W Go.Proofs.YtpclggcpobakhaaDoor Go.Proofs.YtpclggcpobakhaaDoor.W0 Go.Proofs.YtpclggcpobakhaaDoor.WT Go.Proofs.YtpclggcpobakhaaDoor.W60
set_option maxRecDepth 10000
set_option maxHeartbeats 4000000
attribute [local irreducible] Tm.at Trie.set Trie.get AMem.get AMem.set AMem.alloc AMem.ww AMem.kill
theorem f5_ok (n : Nat) (x1 : Nat) (x2 : Nat) (x3 : Nat) (l4 : List (Nat × Nat)) (x8 : Nat) (x9 : Nat) (x10 : Int) (x11 : Int) (x12 : Int) (x13 : Nat) (x14 : Nat) (x15 : Int) (x16 : Int) (x17 : Int) (x18 : Nat) (x19 : Int) (x20 : Nat) (a5 : Option Addr) (c6 : Nat) (r : Bool) (hF : F5 n x1 x2 x3 l4 x8 x9 x10 x11 x12 x13 x14 x15 x16 x17 x18 x19 x20 = some r) (m : AMem) (hG : Gl m) (h7 : Rd m a5 c6 2 l4.length (l4.map (eP (eN .u8) (eN .u8)))) :
  CallA E18w 5 [.agg #[.int .u8 ((x1 : Nat) : Int), .int .u8 ((x2 : Nat) : Int), .int .u16 ((x3 : Nat) : Int), .slice a5 l4.length c6], .agg #[.int .u8 ((x8 : Nat) : Int), .int .u8 ((x9 : Nat) : Int), .int .i64 x10, .int .i64 x11, .int .i64 x12, .int .u8 ((x13 : Nat) : Int), .int .u8 ((x14 : Nat) : Int), .int .i64 x15, .int .i64 x16, .int .i64 x17], .int .u64 ((x18 : Nat) : Int), .int .i64 x19, .int .u8 ((x20 : Nat) : Int)] m (fun v m' => ∃ x : Unit, v = .bool r ∧ Hp m m' []) := by
 unfold F5 at hF
 refine call_wk (m0 := m) (ps := [.rd a5 c6 2 l4.length (l4.map (eP (eN .u8) (eN .u8)))]) (N := 123) (rs := [.tmp 10]) rfl Tryd.func5 rfl rfl rfl ((Hp.start m).inn rfl h7) <| Wk.seq <| Wk.region <| Wo.x (o_bx rfl) gn rfl fun b21 => ?_
 refine Wo.x (o_bx rfl) gn rfl fun b22 => ?_
 refine Wo.od (o_as rfl) rfl <| Wo.nil <| At.tn <| Wk.seq <| Wk.seq <| Wk.region <| Wo.od (o_ld (k := 1) t55 rfl rfl rfl) rfl <| Wo.od (o_ld (k := 0) t58 rfl rfl rfl) rfl ?_
 obtain ⟨⟨r24, l25, r28, l29, r32, l33⟩, h23, hF⟩ := ob_some hF
 refine Wo.x (o_cl rfl rfl (fun m hm => f28_ok n x1 x2 x3 l4 x8 x9 x10 x11 x12 x13 x14 x15 x16 x17 a5 c6 _ h23 m (hm.rd (k := 2) rfl (.rd _ _ _ _ _))) fun _ => rfl) gn rfl ?_
 rintro ⟨a26, n27, a30, n31, a34, n35⟩
 refine Wo.len (k := 0) (xs := l25) rfl ?_
 rintro rfl
 refine Wo.len (k := 1) (xs := l29) rfl ?_
 rintro rfl
 refine Wo.len (k := 2) (xs := l33) rfl ?_
 rintro rfl
 refine Wo.od (o_mv rfl) rfl <| Wo.nil <| At.tn <| Wk.block ?_
 obtain ⟨r1883, h1882, hF⟩ := ob_some hF
 refine Wk.cut (G := (fun (r : (Unit) ⊕ (Unit)) (g : Unit) => match r, g with | .inl _, _ => ⟨.ret, [(10, .bool false)], []⟩ | .inr _, _ => ⟨(.exit 0), [], []⟩) r1883) ?_ ?_
 ·refine Wk.weak (fs' := [(2, .int .u64 ((x18 : Nat) : Int)), (3, .int .i64 x19), (4, .int .u8 ((x20 : Nat) : Int)), (31, .agg #[.int .i64 r24, .slice a26 l25.length l25.length, .int .i64 r28, .slice a30 l29.length l29.length, .int .i64 r32, .slice a34 l33.length l33.length]), (32, .int .i64 0)]) (ps' := [.rd a26 l25.length 2 l25.length (l25.map (eP (eI .i64) (eI .i64))), .rd a30 l29.length 2 l29.length (l29.map (eP (eI .i64) (eI .i64))), .rd a34 l33.length 2 l33.length (l33.map (eP (eI .i64) (eI .i64)))]) (sc rfl (sc rfl (sc rfl (sc rfl (sc rfl sn))))) (Turn.trans (Turn.freeze (k := 0) rfl) (Turn.trans (Turn.freeze (k := 1) rfl) (Turn.trans (Turn.freeze (k := 2) rfl) (Turn.picks [0, 1, 2] rfl rfl)))) ?_
  refine Wk.loop (σ := Int) (ρ := (Unit) ⊕ (Unit)) (γ := Unit) (δ := fun _ => Unit) _ (fun (s : Int) (g : Unit) => match s, g with | v652, _ => ⟨.normal, [(2, .int .u64 ((x18 : Nat) : Int)), (3, .int .i64 x19), (4, .int .u8 ((x20 : Nat) : Int)), (31, .agg #[.int .i64 r24, .slice a26 l25.length l25.length, .int .i64 r28, .slice a30 l29.length l29.length, .int .i64 r32, .slice a34 l33.length l33.length]), (32, .int .i64 v652)], [.rd a26 l25.length 2 l25.length (l25.map (eP (eI .i64) (eI .i64))), .rd a30 l29.length 2 l29.length (l29.map (eP (eI .i64) (eI .i64))), .rd a34 l33.length 2 l33.length (l33.map (eP (eI .i64) (eI .i64)))]⟩) (fun (r : (Unit) ⊕ (Unit)) (g : Unit) => match r, g with | .inl _, _ => ⟨.ret, [(10, .bool false)], []⟩ | .inr _, _ => ⟨(.exit 0), [], []⟩) ?_ (fun _ _ => rfl) (fun r d => by rcases r with _ | _ <;> (intro e; cases e)) _ _ _ h1882 ()
  clear hF h1882
  rintro v652 ⟨⟩ r hF
  unfold L5_3 at hF
  refine Wk.seq <| Wk.region <| Wo.od (o_bi rfl rfl (bin_lss _ _ _)) rfl <| Wo.nil <| At.tn <| Wk.seq ?_
  rcases br_some hF with ⟨h1268, hF⟩ | ⟨h1268, hF⟩
  ·refine Wk.condT rfl h1268 <| Wk.skip <| At.tn <| Wk.seq <| Wk.block <| Wk.seq <| Wk.region ?_
   obtain ⟨h1273, hF⟩ := gd_some hF
   obtain ⟨⟨x1269, l1270⟩, h1274, hF⟩ := ob_some hF
   refine Wo.x (o_sel (α := Option Addr × Nat) (V := fun g => match g with | (a1271, c1272) => .agg #[.int .i64 x1269, .slice a1271 l1270.length c1272]) (N := fun g => match g with | (a1271, c1272) => [.rd a1271 c1272 2 l1270.length (l1270.map (eP (eI .i64) (eI .i64)))] ++ [.rd a26 l25.length 2 l25.length (l25.map (eP (eI .i64) (eI .i64))), .rd a30 l29.length 2 l29.length (l29.map (eP (eI .i64) (eI .i64))), .rd a34 l33.length 2 l33.length (l33.map (eP (eI .i64) (eI .i64)))]) rfl rfl (fun m hm => ?_)) gn rfl ?_
   ·have hj := inB_some h1273
    obtain ⟨j, hj2⟩ : ∃ j : Nat, (v652 : Int) = j := ⟨_, (Int.toNat_of_nonneg hj.1).symm⟩
    rw [hj2] at h1274 hj ⊢
    rw [Int.toNat_natCast] at h1274 hj
    replace hj := hj.2
    clear hF hj2
    match j, hj, h1274 with
    | 0, _, h1274 => cases h1274; exact ⟨(a26, l25.length), ix_c ar59 (i := 0) (by decide) (part_a t25 rfl), (Hp.dup hm (k := 0) rfl)⟩
    | 1, _, h1274 => cases h1274; exact ⟨(a30, l29.length), ix_c ar59 (i := 1) (by decide) (part_a t25 rfl), (Hp.dup hm (k := 1) rfl)⟩
    | 2, _, h1274 => cases h1274; exact ⟨(a34, l33.length), ix_c ar59 (i := 2) (by decide) (part_a t25 rfl), (Hp.dup hm (k := 2) rfl)⟩
    | _ + 3, hj, _ => exact absurd hj (by omega)
   rintro ⟨a1271, c1272⟩
   refine Wo.x (o_al z25 rfl) gn rfl fun b1275 => ?_
   refine Wo.o0 (o_st (k := 0) t25 rfl rfl rfl rfl rfl) <| Wo.nil <| At.tn <| Wk.seq <| Wk.region <| Wo.od (o_ld (k := 0) t25 rfl rfl rfl) rfl <| Wo.od (o_mv rfl) rfl ?_
   obtain ⟨⟨r1277, r1278⟩, h1276, hF⟩ := ob_some hF
   refine Wo.x (o_cl rfl rfl (fun m hm => f29_ok n x1269 l1270 x18 a1271 c1272 _ h1276 m (hm.rd (k := 1) rfl (.rd _ _ _ _ _))) fun _ => rfl) gn rfl ?_
   rintro ⟨⟩
   refine Wo.od (o_mv rfl) rfl <| Wo.nil <| At.tn <| Wk.block ?_
   obtain ⟨r1881, h1880, hF⟩ := ob_some hF
   refine Wk.cut (G := (fun (r : (Unit) ⊕ (Unit)) (g : Unit) => match r, g with | .inl _, _ => ⟨.ret, [(10, .bool false)], []⟩ | .inr _, _ => ⟨(.exit 2), [(2, .int .u64 ((x18 : Nat) : Int)), (3, .int .i64 x19), (4, .int .u8 ((x20 : Nat) : Int)), (31, .agg #[.int .i64 r24, .slice a26 l25.length l25.length, .int .i64 r28, .slice a30 l29.length l29.length, .int .i64 r32, .slice a34 l33.length l33.length]), (32, .int .i64 v652)], [.rd a26 l25.length 2 l25.length (l25.map (eP (eI .i64) (eI .i64))), .rd a30 l29.length 2 l29.length (l29.map (eP (eI .i64) (eI .i64))), .rd a34 l33.length 2 l33.length (l33.map (eP (eI .i64) (eI .i64)))]⟩) r1881) ?_ ?_
   ·refine Wk.weak (fs' := [(2, .int .u64 ((x18 : Nat) : Int)), (3, .int .i64 x19), (4, .int .u8 ((x20 : Nat) : Int)), (12, ptr b1275 0), (31, .agg #[.int .i64 r24, .slice a26 l25.length l25.length, .int .i64 r28, .slice a30 l29.length l29.length, .int .i64 r32, .slice a34 l33.length l33.length]), (32, .int .i64 v652), (37, .agg #[.int .u64 ((r1277 : Nat) : Int), .int .u64 ((r1278 : Nat) : Int)]), (38, .int .i64 0)]) (ps' := [.obj b1275 (.cells [.int .i64 x1269, .slice a1271 l1270.length c1272] .own), .rd a1271 c1272 2 l1270.length (l1270.map (eP (eI .i64) (eI .i64))), .rd a26 l25.length 2 l25.length (l25.map (eP (eI .i64) (eI .i64))), .rd a30 l29.length 2 l29.length (l29.map (eP (eI .i64) (eI .i64))), .rd a34 l33.length 2 l33.length (l33.map (eP (eI .i64) (eI .i64)))]) (sc rfl (sc rfl (sc rfl (sc rfl (sc rfl (sc rfl (sc rfl (sc rfl sn)))))))) (Turn.picks [0, 1, 2, 3, 4] rfl rfl) ?_
    refine Wk.loop (σ := Int) (ρ := (Unit) ⊕ (Unit)) (γ := Unit) (δ := fun _ => Unit) _ (fun (s : Int) (g : Unit) => match s, g with | v1280, _ => ⟨.normal, [(2, .int .u64 ((x18 : Nat) : Int)), (3, .int .i64 x19), (4, .int .u8 ((x20 : Nat) : Int)), (12, ptr b1275 0), (31, .agg #[.int .i64 r24, .slice a26 l25.length l25.length, .int .i64 r28, .slice a30 l29.length l29.length, .int .i64 r32, .slice a34 l33.length l33.length]), (32, .int .i64 v652), (37, .agg #[.int .u64 ((r1277 : Nat) : Int), .int .u64 ((r1278 : Nat) : Int)]), (38, .int .i64 v1280)], [.obj b1275 (.cells [.int .i64 x1269, .slice a1271 l1270.length c1272] .own), .rd a1271 c1272 2 l1270.length (l1270.map (eP (eI .i64) (eI .i64))), .rd a26 l25.length 2 l25.length (l25.map (eP (eI .i64) (eI .i64))), .rd a30 l29.length 2 l29.length (l29.map (eP (eI .i64) (eI .i64))), .rd a34 l33.length 2 l33.length (l33.map (eP (eI .i64) (eI .i64)))]⟩) (fun (r : (Unit) ⊕ (Unit)) (g : Unit) => match r, g with | .inl _, _ => ⟨.ret, [(10, .bool false)], []⟩ | .inr _, _ => ⟨(.exit 2), [(2, .int .u64 ((x18 : Nat) : Int)), (3, .int .i64 x19), (4, .int .u8 ((x20 : Nat) : Int)), (31, .agg #[.int .i64 r24, .slice a26 l25.length l25.length, .int .i64 r28, .slice a30 l29.length l29.length, .int .i64 r32, .slice a34 l33.length l33.length]), (32, .int .i64 v652)], [.rd a26 l25.length 2 l25.length (l25.map (eP (eI .i64) (eI .i64))), .rd a30 l29.length 2 l29.length (l29.map (eP (eI .i64) (eI .i64))), .rd a34 l33.length 2 l33.length (l33.map (eP (eI .i64) (eI .i64)))]⟩) ?_ (fun _ _ => rfl) (fun r d => by rcases r with _ | _ <;> (intro e; cases e)) _ _ _ h1880 ()
    clear hF h1880
    rintro v1280 ⟨⟩ r hF
    unfold L5_2 at hF
    refine Wk.seq <| Wk.region <| Wo.od (o_bi rfl rfl (bin_lss _ _ _)) rfl <| Wo.nil <| At.tn <| Wk.seq ?_
    rcases br_some hF with ⟨h1581, hF⟩ | ⟨h1581, hF⟩
    ·refine Wk.condT rfl h1581 <| Wk.skip <| At.tn <| Wk.seq <| Wk.block <| Wk.seq <| Wk.region ?_
     obtain ⟨h1732, hF⟩ := gd_some hF
     obtain ⟨x1731, h1733, hF⟩ := ob_some hF
     refine Wo.x (o_sel (α := Unit) (V := fun g => match g with | _ => .int .u64 ((x1731 : Nat) : Int)) (N := fun g => match g with | _ => [] ++ [.obj b1275 (.cells [.int .i64 x1269, .slice a1271 l1270.length c1272] .own), .rd a1271 c1272 2 l1270.length (l1270.map (eP (eI .i64) (eI .i64))), .rd a26 l25.length 2 l25.length (l25.map (eP (eI .i64) (eI .i64))), .rd a30 l29.length 2 l29.length (l29.map (eP (eI .i64) (eI .i64))), .rd a34 l33.length 2 l33.length (l33.map (eP (eI .i64) (eI .i64)))]) rfl rfl (fun m hm => ?_)) gn rfl ?_
     ·have hj := inB_some h1732
      obtain ⟨j, hj2⟩ : ∃ j : Nat, (v1280 : Int) = j := ⟨_, (Int.toNat_of_nonneg hj.1).symm⟩
      rw [hj2] at h1733 hj ⊢
      rw [Int.toNat_natCast] at h1733 hj
      replace hj := hj.2
      clear hF hj2
      match j, hj, h1733 with
      | 0, _, h1733 => cases h1733; exact ⟨(), ix_c ar61 (i := 0) (by decide) (part_o t28 rfl), hm⟩
      | 1, _, h1733 => cases h1733; exact ⟨(), ix_c ar61 (i := 1) (by decide) (part_o t28 rfl), hm⟩
      | _ + 2, hj, _ => exact absurd hj (by omega)
     rintro ⟨⟩
     refine Wo.od (o_as rfl) rfl <| Wo.nil <| At.tn <| Wk.seq <| Wk.region <| Wo.od (o_ld (k := 0) t25 rfl rfl rfl) rfl <| Wo.od (o_mv rfl) rfl ?_
     obtain ⟨⟨l1735, r1738⟩, h1734, hF⟩ := ob_some hF
     refine Wo.x (o_cl rfl rfl (fun m hm => f18_ok n x1269 l1270 x1731 a1271 c1272 _ h1734 m (hG.ext hm.ext) (hm.rd (k := 1) rfl (.rd _ _ _ _ _))) fun _ => rfl) gn rfl ?_
     rintro ⟨a1736, n1737⟩
     refine Wo.len (k := 0) (xs := l1735) rfl ?_
     rintro rfl
     refine Wo.od (o_mv rfl) rfl <| Wo.od (o_ex rfl rfl) rfl <| Wo.od (o_ex rfl rfl) rfl <| Wo.od (o_as rfl) rfl <| Wo.od (o_as rfl) rfl <| Wo.nil <| At.tn <| Wk.seq <| Wk.region <| Wo.od (o_ld (k := 1) t25 rfl rfl rfl) rfl <| Wo.od (o_mv rfl) rfl ?_
     obtain ⟨⟨l1740, r1743⟩, h1739, hF⟩ := ob_some hF
     refine Wo.x (o_cl rfl rfl (fun m hm => f36_ok n x1269 l1270 x1731 a1271 c1272 _ h1739 m (hm.rd (k := 2) rfl (.rd _ _ _ _ _))) fun _ => rfl) gn rfl ?_
     rintro ⟨a1741, n1742⟩
     refine Wo.len (k := 0) (xs := l1740) rfl ?_
     rintro rfl
     refine Wo.od (o_mv rfl) rfl <| Wo.od (o_ex rfl rfl) rfl <| Wo.od (o_ex rfl rfl) rfl <| Wo.od (o_as rfl) rfl <| Wo.od (o_as rfl) rfl <| Wo.nil <| At.tn <| Wk.seq <| Wk.region <| Wo.od (o_ld (k := 2) t25 rfl rfl rfl) rfl <| Wo.od (o_mv rfl) rfl ?_
     obtain ⟨⟨r1745, r1746⟩, h1744, hF⟩ := ob_some hF
     refine Wo.x (o_cl rfl rfl (fun m hm => f19_ok n x1269 l1270 x1731 a1271 c1272 _ h1744 m (hG.ext hm.ext) (hm.rd (k := 3) rfl (.rd _ _ _ _ _))) fun _ => rfl) gn rfl ?_
     rintro ⟨⟩
     refine Wo.od (o_mv rfl) rfl <| Wo.od (o_ex rfl rfl) rfl <| Wo.od (o_ex rfl rfl) rfl <| Wo.od (o_as rfl) rfl <| Wo.od (o_as rfl) rfl <| Wo.nil <| At.tn <| Wk.seq <| Wk.region <| Wo.od (o_ld (k := 2) t25 rfl rfl rfl) rfl <| Wo.od (o_mv rfl) rfl ?_
     obtain ⟨⟨r1748, r1749⟩, h1747, hF⟩ := ob_some hF
     refine Wo.x (o_cl rfl rfl (fun m hm => f37_ok n x1269 l1270 x1731 a1271 c1272 _ h1747 m (hm.rd (k := 3) rfl (.rd _ _ _ _ _))) fun _ => rfl) gn rfl ?_
     rintro ⟨⟩
     refine Wo.od (o_mv rfl) rfl <| Wo.od (o_ex rfl rfl) rfl <| Wo.od (o_ex rfl rfl) rfl <| Wo.od (o_as rfl) rfl <| Wo.od (o_as rfl) rfl <| Wo.nil <| At.tn <| Wk.seq <| Wk.seq ?_
     obtain ⟨v1769, h1775, hF⟩ := ob_some hF
     refine Wk.cut (G := (fun (r : Bool) (g : Unit) => match r, g with | v1769, _ => ⟨.normal, [(2, .int .u64 ((x18 : Nat) : Int)), (3, .int .i64 x19), (4, .int .u8 ((x20 : Nat) : Int)), (12, ptr b1275 0), (14, .int .u64 ((x1731 : Nat) : Int)), (31, .agg #[.int .i64 r24, .slice a26 l25.length l25.length, .int .i64 r28, .slice a30 l29.length l29.length, .int .i64 r32, .slice a34 l33.length l33.length]), (32, .int .i64 v652), (37, .agg #[.int .u64 ((r1277 : Nat) : Int), .int .u64 ((r1278 : Nat) : Int)]), (38, .int .i64 v1280), (83, .bool v1769)], [.obj b1275 (.cells [.int .i64 x1269, .slice a1271 l1270.length c1272] .own), .rd a1271 c1272 2 l1270.length (l1270.map (eP (eI .i64) (eI .i64))), .rd a26 l25.length 2 l25.length (l25.map (eP (eI .i64) (eI .i64))), .rd a30 l29.length 2 l29.length (l29.map (eP (eI .i64) (eI .i64))), .rd a34 l33.length 2 l33.length (l33.map (eP (eI .i64) (eI .i64)))]⟩) v1769) ?_ ?_
     ·clear hF
      revert v1769
      intro r hF
      refine Wk.region <| Wo.od (o_mv rfl) rfl <| Wo.od (o_mv rfl) rfl <| Wo.od (o_bi rfl rfl (ib_neq _ _)) rfl <| Wo.od (o_mv rfl) rfl ?_
      rcases br_some hF with ⟨h1770, hF⟩ | ⟨h1770, hF⟩
      ·refine Wo.s (gg rfl rfl (eTF h1770)) rfl <| Wo.s (gg rfl rfl (eTF h1770)) rfl <| Wo.s (gg rfl rfl (eTF h1770)) rfl <| Wo.s (gg rfl rfl (eTF h1770)) rfl <| Wo.od (o_pt rfl h1770 rfl) rfl <| Wo.od (o_mv rfl) rfl <| Wo.s (gg rfl rfl rfl) rfl <| Wo.s (gg rfl rfl rfl) rfl <| Wo.s (gg rfl rfl rfl) rfl <| Wo.od (o_pT rfl rfl) rfl ?_
       refine Wo.od (o_mv rfl) rfl <| Wo.s (gg rfl rfl rfl) rfl <| Wo.s (gg rfl rfl rfl) rfl <| Wo.s (gg rfl rfl rfl) rfl <| Wo.od (o_pT rfl rfl) rfl <| Wo.nil ?_
       cases hF
       exact At.en () rfl (sc rfl (sc rfl (sc rfl (sc rfl (sc rfl (sc rfl (sc rfl (sc rfl (sc rfl (sc rfl sn)))))))))) (Turn.picks [2, 3, 4, 5, 6] rfl rfl)
      ·refine Wo.og (o_mv rfl) (gg rfl rfl (eFF h1770)) rfl <| Wo.og (o_mv rfl) (gg rfl rfl (eFF h1770)) rfl ?_
       obtain ⟨r1772, h1771, hF⟩ := ob_some hF
       refine Wo.x (o_cl rfl rfl (fun m hm => f34_ok n l1735 l1740 a1736 l1735.length a1741 l1740.length _ h1771 m (hm.rd (k := 1) rfl (.sl _ _ _ _)) (hm.rd (k := 0) rfl (.sl _ _ _ _))) fun _ => rfl) (gg rfl rfl (eFF h1770)) rfl ?_
       rintro ⟨⟩
       refine Wo.og (o_un rfl rfl) (gg rfl rfl (eFF h1770)) rfl <| Wo.od (o_pf rfl h1770 rfl) rfl <| Wo.od (o_mv rfl) rfl ?_
       rcases br_some hF with ⟨h1773, hF⟩ | ⟨h1773, hF⟩
       ·refine Wo.s (gg rfl rfl (eTF h1773)) rfl <| Wo.s (gg rfl rfl (eTF h1773)) rfl <| Wo.s (gg rfl rfl (eTF h1773)) rfl <| Wo.od (o_pt rfl h1773 rfl) rfl <| Wo.od (o_mv rfl) rfl <| Wo.s (gg rfl rfl rfl) rfl <| Wo.s (gg rfl rfl rfl) rfl <| Wo.s (gg rfl rfl rfl) rfl <| Wo.od (o_pT rfl rfl) rfl <| Wo.nil ?_
        cases hF
        exact At.en () rfl (sc rfl (sc rfl (sc rfl (sc rfl (sc rfl (sc rfl (sc rfl (sc rfl (sc rfl (sc rfl sn)))))))))) (Turn.picks [2, 3, 4, 5, 6] rfl rfl)
       ·refine Wo.og (o_mv rfl) (gg rfl rfl (eFF h1773)) rfl <| Wo.og (o_mv rfl) (gg rfl rfl (eFF h1773)) rfl <| Wo.og (o_bi rfl rfl (ub_neq _ _)) (gg rfl rfl (eFF h1773)) rfl <| Wo.od (o_pf rfl h1773 rfl) rfl <| Wo.od (o_mv rfl) rfl ?_
        rcases br_some hF with ⟨h1774, hF⟩ | ⟨h1774, hF⟩
        ·refine Wo.s (gg rfl rfl (eTF h1774)) rfl <| Wo.s (gg rfl rfl (eTF h1774)) rfl <| Wo.s (gg rfl rfl (eTF h1774)) rfl <| Wo.od (o_pt rfl h1774 rfl) rfl <| Wo.nil ?_
         cases hF
         exact At.en () rfl (sc rfl (sc rfl (sc rfl (sc rfl (sc rfl (sc rfl (sc rfl (sc rfl (sc rfl (sc rfl sn)))))))))) (Turn.picks [2, 3, 4, 5, 6] rfl rfl)
        ·refine Wo.og (o_mv rfl) (gg rfl rfl (eFF h1774)) rfl <| Wo.og (o_mv rfl) (gg rfl rfl (eFF h1774)) rfl <| Wo.og (o_bi rfl rfl (ib_neq _ _)) (gg rfl rfl (eFF h1774)) rfl <| Wo.od (o_pf rfl h1774 rfl) rfl <| Wo.nil ?_
         cases hF
         exact At.en () rfl (sc rfl (sc rfl (sc rfl (sc rfl (sc rfl (sc rfl (sc rfl (sc rfl (sc rfl (sc rfl sn)))))))))) (Turn.picks [2, 3, 4, 5, 6] rfl rfl)
     ·clear h1775
      rintro ⟨⟩
      refine At.tn ?_
      rcases br_some hF with ⟨h1777, hF⟩ | ⟨h1777, hF⟩
      ·refine Wk.condT rfl h1777 <| Wk.seq <| Wk.region <| Wo.od (o_as rfl) rfl <| Wo.nil <| At.tn <| Wk.ret <| At.tr <| At.br <| At.tr ?_
       cases hF
       exact At.en () rfl (sc rfl sn) (Turn.picks [] rfl rfl)
      ·refine Wk.condF rfl h1777 <| Wk.skip <| At.tn <| Wk.seq <| Wk.region <| Wo.od (o_mv rfl) rfl <| Wo.od (o_mv rfl) rfl <| Wo.od (o_cv rfl (cv_i (by rw [u5]; rfl) u3)) rfl <| Wo.od (o_fa (r := ptr b1275 0) rfl (fa25_0 _ _)) rfl <| Wo.od (o_ld (k := 0) t3 rfl rfl rfl) rfl <| Wo.od (o_bu rfl rfl (bu_mi _ _)) rfl <| Wo.od (o_bu rfl rfl (bu_ma _ _)) rfl ?_
       obtain ⟨h1778, hF⟩ := gd_some hF
       obtain ⟨y1779, h1780, hF⟩ := ob_some hF
       refine Wo.od (o_bi rfl rfl ((ib_rem _ _ h1778).trans (cI h1780))) rfl <| Wo.od (o_bd rfl z26 rfl (bd_s bs26 rfl rfl rfl)) rfl <| Wo.od (o_mv rfl) rfl <| Wo.nil <| At.tn <| Wk.block ?_
       obtain ⟨r1879, h1878, hF⟩ := ob_some hF
       refine Wk.cut (G := (fun (r : (Unit) ⊕ (Unit)) (g : Unit) => match r, g with | .inl _, _ => ⟨.ret, [(10, .bool false)], []⟩ | .inr _, _ => ⟨(.exit 4), [(2, .int .u64 ((x18 : Nat) : Int)), (3, .int .i64 x19), (4, .int .u8 ((x20 : Nat) : Int)), (12, ptr b1275 0), (31, .agg #[.int .i64 r24, .slice a26 l25.length l25.length, .int .i64 r28, .slice a30 l29.length l29.length, .int .i64 r32, .slice a34 l33.length l33.length]), (32, .int .i64 v652), (37, .agg #[.int .u64 ((r1277 : Nat) : Int), .int .u64 ((r1278 : Nat) : Int)]), (38, .int .i64 v1280)], [.obj b1275 (.cells [.int .i64 x1269, .slice a1271 l1270.length c1272] .own), .rd a1271 c1272 2 l1270.length (l1270.map (eP (eI .i64) (eI .i64))), .rd a26 l25.length 2 l25.length (l25.map (eP (eI .i64) (eI .i64))), .rd a30 l29.length 2 l29.length (l29.map (eP (eI .i64) (eI .i64))), .rd a34 l33.length 2 l33.length (l33.map (eP (eI .i64) (eI .i64)))]⟩) r1879) ?_ ?_
       ·refine Wk.weak (fs' := [(2, .int .u64 ((x18 : Nat) : Int)), (3, .int .i64 x19), (4, .int .u8 ((x20 : Nat) : Int)), (12, ptr b1275 0), (14, .int .u64 ((x1731 : Nat) : Int)), (31, .agg #[.int .i64 r24, .slice a26 l25.length l25.length, .int .i64 r28, .slice a30 l29.length l29.length, .int .i64 r32, .slice a34 l33.length l33.length]), (32, .int .i64 v652), (37, .agg #[.int .u64 ((r1277 : Nat) : Int), .int .u64 ((r1278 : Nat) : Int)]), (38, .int .i64 v1280), (92, .agg #[.int .i64 x19, .int .i64 y1779]), (93, .int .i64 0)]) (ps' := [.obj b1275 (.cells [.int .i64 x1269, .slice a1271 l1270.length c1272] .own), .rd a1271 c1272 2 l1270.length (l1270.map (eP (eI .i64) (eI .i64))), .rd a26 l25.length 2 l25.length (l25.map (eP (eI .i64) (eI .i64))), .rd a30 l29.length 2 l29.length (l29.map (eP (eI .i64) (eI .i64))), .rd a34 l33.length 2 l33.length (l33.map (eP (eI .i64) (eI .i64)))]) (sc rfl (sc rfl (sc rfl (sc rfl (sc rfl (sc rfl (sc rfl (sc rfl (sc rfl (sc rfl (sc rfl sn))))))))))) (Turn.picks [0, 1, 2, 3, 4] rfl rfl) ?_
        refine Wk.loop (σ := Int) (ρ := (Unit) ⊕ (Unit)) (γ := Unit) (δ := fun _ => Unit) _ (fun (s : Int) (g : Unit) => match s, g with | v1782, _ => ⟨.normal, [(2, .int .u64 ((x18 : Nat) : Int)), (3, .int .i64 x19), (4, .int .u8 ((x20 : Nat) : Int)), (12, ptr b1275 0), (14, .int .u64 ((x1731 : Nat) : Int)), (31, .agg #[.int .i64 r24, .slice a26 l25.length l25.length, .int .i64 r28, .slice a30 l29.length l29.length, .int .i64 r32, .slice a34 l33.length l33.length]), (32, .int .i64 v652), (37, .agg #[.int .u64 ((r1277 : Nat) : Int), .int .u64 ((r1278 : Nat) : Int)]), (38, .int .i64 v1280), (92, .agg #[.int .i64 x19, .int .i64 y1779]), (93, .int .i64 v1782)], [.obj b1275 (.cells [.int .i64 x1269, .slice a1271 l1270.length c1272] .own), .rd a1271 c1272 2 l1270.length (l1270.map (eP (eI .i64) (eI .i64))), .rd a26 l25.length 2 l25.length (l25.map (eP (eI .i64) (eI .i64))), .rd a30 l29.length 2 l29.length (l29.map (eP (eI .i64) (eI .i64))), .rd a34 l33.length 2 l33.length (l33.map (eP (eI .i64) (eI .i64)))]⟩) (fun (r : (Unit) ⊕ (Unit)) (g : Unit) => match r, g with | .inl _, _ => ⟨.ret, [(10, .bool false)], []⟩ | .inr _, _ => ⟨(.exit 4), [(2, .int .u64 ((x18 : Nat) : Int)), (3, .int .i64 x19), (4, .int .u8 ((x20 : Nat) : Int)), (12, ptr b1275 0), (31, .agg #[.int .i64 r24, .slice a26 l25.length l25.length, .int .i64 r28, .slice a30 l29.length l29.length, .int .i64 r32, .slice a34 l33.length l33.length]), (32, .int .i64 v652), (37, .agg #[.int .u64 ((r1277 : Nat) : Int), .int .u64 ((r1278 : Nat) : Int)]), (38, .int .i64 v1280)], [.obj b1275 (.cells [.int .i64 x1269, .slice a1271 l1270.length c1272] .own), .rd a1271 c1272 2 l1270.length (l1270.map (eP (eI .i64) (eI .i64))), .rd a26 l25.length 2 l25.length (l25.map (eP (eI .i64) (eI .i64))), .rd a30 l29.length 2 l29.length (l29.map (eP (eI .i64) (eI .i64))), .rd a34 l33.length 2 l33.length (l33.map (eP (eI .i64) (eI .i64)))]⟩) ?_ (fun _ _ => rfl) (fun r d => by rcases r with _ | _ <;> (intro e; cases e)) _ _ _ h1878 ()
        clear hF h1878
        rintro v1782 ⟨⟩ r hF
        unfold L5_1 at hF
        refine Wk.seq <| Wk.region <| Wo.od (o_bi rfl rfl (bin_lss _ _ _)) rfl <| Wo.nil <| At.tn <| Wk.seq ?_
        rcases br_some hF with ⟨h1831, hF⟩ | ⟨h1831, hF⟩
        ·refine Wk.condT rfl h1831 <| Wk.skip <| At.tn <| Wk.seq <| Wk.block <| Wk.seq <| Wk.region ?_
         obtain ⟨h1856, hF⟩ := gd_some hF
         obtain ⟨x1855, h1857, hF⟩ := ob_some hF
         refine Wo.x (o_sel (α := Unit) (V := fun g => match g with | _ => .int .i64 x1855) (N := fun g => match g with | _ => [] ++ [.obj b1275 (.cells [.int .i64 x1269, .slice a1271 l1270.length c1272] .own), .rd a1271 c1272 2 l1270.length (l1270.map (eP (eI .i64) (eI .i64))), .rd a26 l25.length 2 l25.length (l25.map (eP (eI .i64) (eI .i64))), .rd a30 l29.length 2 l29.length (l29.map (eP (eI .i64) (eI .i64))), .rd a34 l33.length 2 l33.length (l33.map (eP (eI .i64) (eI .i64)))]) rfl rfl (fun m hm => ?_)) gn rfl ?_
         ·have hj := inB_some h1856
          obtain ⟨j, hj2⟩ : ∃ j : Nat, (v1782 : Int) = j := ⟨_, (Int.toNat_of_nonneg hj.1).symm⟩
          rw [hj2] at h1857 hj ⊢
          rw [Int.toNat_natCast] at h1857 hj
          replace hj := hj.2
          clear hF hj2
          match j, hj, h1857 with
          | 0, _, h1857 => cases h1857; exact ⟨(), ix_c ar26 (i := 0) (by decide) (part_o t3 rfl), hm⟩
          | 1, _, h1857 => cases h1857; exact ⟨(), ix_c ar26 (i := 1) (by decide) (part_o t3 rfl), hm⟩
          | _ + 2, hj, _ => exact absurd hj (by omega)
         rintro ⟨⟩
         refine Wo.od (o_as rfl) rfl <| Wo.nil <| At.tn <| Wk.seq <| Wk.region <| Wo.od (o_ld (k := 0) t25 rfl rfl rfl) rfl <| Wo.od (o_mv rfl) rfl <| Wo.od (o_mv rfl) rfl ?_
         obtain ⟨⟨l1859, r1862⟩, h1858, hF⟩ := ob_some hF
         refine Wo.x (o_cl rfl rfl (fun m hm => f20_ok n x1269 l1270 x1731 x1855 a1271 c1272 _ h1858 m (hG.ext hm.ext) (hm.rd (k := 1) rfl (.rd _ _ _ _ _))) fun _ => rfl) gn rfl ?_
         rintro ⟨a1860, n1861⟩
         refine Wo.len (k := 0) (xs := l1859) rfl ?_
         rintro rfl
         refine Wo.od (o_mv rfl) rfl <| Wo.od (o_ex rfl rfl) rfl <| Wo.od (o_ex rfl rfl) rfl <| Wo.od (o_as rfl) rfl <| Wo.od (o_as rfl) rfl <| Wo.nil <| At.tn <| Wk.seq <| Wk.region <| Wo.od (o_ld (k := 1) t25 rfl rfl rfl) rfl <| Wo.od (o_mv rfl) rfl <| Wo.od (o_mv rfl) rfl ?_
         obtain ⟨⟨l1864, r1867⟩, h1863, hF⟩ := ob_some hF
         refine Wo.x (o_cl rfl rfl (fun m hm => f38_ok n x1269 l1270 x1731 x1855 a1271 c1272 _ h1863 m (hm.rd (k := 2) rfl (.rd _ _ _ _ _))) fun _ => rfl) gn rfl ?_
         rintro ⟨a1865, n1866⟩
         refine Wo.len (k := 0) (xs := l1864) rfl ?_
         rintro rfl
         refine Wo.od (o_mv rfl) rfl <| Wo.od (o_ex rfl rfl) rfl <| Wo.od (o_ex rfl rfl) rfl <| Wo.od (o_as rfl) rfl <| Wo.od (o_as rfl) rfl <| Wo.nil <| At.tn <| Wk.seq ?_
         obtain ⟨v1871, h1875, hF⟩ := ob_some hF
         refine Wk.cut (G := (fun (r : Bool) (g : Unit) => match r, g with | v1871, _ => ⟨.normal, [(2, .int .u64 ((x18 : Nat) : Int)), (3, .int .i64 x19), (4, .int .u8 ((x20 : Nat) : Int)), (12, ptr b1275 0), (14, .int .u64 ((x1731 : Nat) : Int)), (31, .agg #[.int .i64 r24, .slice a26 l25.length l25.length, .int .i64 r28, .slice a30 l29.length l29.length, .int .i64 r32, .slice a34 l33.length l33.length]), (32, .int .i64 v652), (37, .agg #[.int .u64 ((r1277 : Nat) : Int), .int .u64 ((r1278 : Nat) : Int)]), (38, .int .i64 v1280), (92, .agg #[.int .i64 x19, .int .i64 y1779]), (93, .int .i64 v1782), (118, .bool v1871)], [.obj b1275 (.cells [.int .i64 x1269, .slice a1271 l1270.length c1272] .own), .rd a1271 c1272 2 l1270.length (l1270.map (eP (eI .i64) (eI .i64))), .rd a26 l25.length 2 l25.length (l25.map (eP (eI .i64) (eI .i64))), .rd a30 l29.length 2 l29.length (l29.map (eP (eI .i64) (eI .i64))), .rd a34 l33.length 2 l33.length (l33.map (eP (eI .i64) (eI .i64)))]⟩) v1871) ?_ ?_
         ·clear hF
          revert v1871
          intro r hF
          refine Wk.region <| Wo.od (o_mv rfl) rfl <| Wo.od (o_mv rfl) rfl <| Wo.od (o_bi rfl rfl (ib_neq _ _)) rfl <| Wo.od (o_mv rfl) rfl ?_
          rcases br_some hF with ⟨h1872, hF⟩ | ⟨h1872, hF⟩
          ·refine Wo.s (gg rfl rfl (eTF h1872)) rfl <| Wo.s (gg rfl rfl (eTF h1872)) rfl <| Wo.s (gg rfl rfl (eTF h1872)) rfl <| Wo.s (gg rfl rfl (eTF h1872)) rfl <| Wo.od (o_pt rfl h1872 rfl) rfl <| Wo.nil ?_
           cases hF
           exact At.en () rfl (sc rfl (sc rfl (sc rfl (sc rfl (sc rfl (sc rfl (sc rfl (sc rfl (sc rfl (sc rfl (sc rfl (sc rfl sn)))))))))))) (Turn.picks [2, 3, 4, 5, 6] rfl rfl)
          ·refine Wo.og (o_mv rfl) (gg rfl rfl (eFF h1872)) rfl <| Wo.og (o_mv rfl) (gg rfl rfl (eFF h1872)) rfl ?_
           obtain ⟨r1874, h1873, hF⟩ := ob_some hF
           refine Wo.x (o_cl rfl rfl (fun m hm => f39_ok n l1859 l1864 a1860 l1859.length a1865 l1864.length _ h1873 m (hm.rd (k := 1) rfl (.sl _ _ _ _)) (hm.rd (k := 0) rfl (.sl _ _ _ _))) fun _ => rfl) (gg rfl rfl (eFF h1872)) rfl ?_
           rintro ⟨⟩
           refine Wo.og (o_un rfl rfl) (gg rfl rfl (eFF h1872)) rfl <| Wo.od (o_pf rfl h1872 rfl) rfl <| Wo.nil ?_
           cases hF
           exact At.en () rfl (sc rfl (sc rfl (sc rfl (sc rfl (sc rfl (sc rfl (sc rfl (sc rfl (sc rfl (sc rfl (sc rfl (sc rfl sn)))))))))))) (Turn.picks [2, 3, 4, 5, 6] rfl rfl)
         ·clear h1875
          rintro ⟨⟩
          refine At.tn ?_
          rcases br_some hF with ⟨h1877, hF⟩ | ⟨h1877, hF⟩
          ·refine Wk.condT rfl h1877 <| Wk.seq <| Wk.region <| Wo.od (o_as rfl) rfl <| Wo.nil <| At.tn <| Wk.ret <| At.br <| At.tr ?_
           cases hF
           exact At.en () rfl (sc rfl sn) (Turn.picks [] rfl rfl)
          ·refine Wk.condF rfl h1877 <| Wk.skip <| At.bn <| At.tn <| Wk.region <| Wo.od (o_bi rfl rfl (bin_add _ _ _)) rfl <| Wo.od (o_mv rfl) rfl <| Wo.nil ?_
           cases hF
           exact At.en () rfl (sc rfl (sc rfl (sc rfl (sc rfl (sc rfl (sc rfl (sc rfl (sc rfl (sc rfl (sc rfl (sc rfl sn))))))))))) (Turn.picks [0, 1, 2, 3, 4] rfl rfl)
        ·refine Wk.condF rfl h1831 <| Wk.exit <| At.te ?_
         cases hF
         exact At.en () rfl (sc rfl (sc rfl (sc rfl (sc rfl (sc rfl (sc rfl (sc rfl (sc rfl sn)))))))) (Turn.picks [0, 1, 2, 3, 4] rfl rfl)
       ·clear h1878
        rcases r1879 with _ | _
        ·rintro ⟨⟩
         refine At.br <| At.br <| At.tr ?_
         cases hF
         exact At.en () rfl (sc rfl sn) (Turn.picks [] rfl rfl)
        ·rintro ⟨⟩
         refine At.be <| At.bn <| At.tn <| Wk.region <| Wo.od (o_bi rfl rfl (bin_add _ _ _)) rfl <| Wo.od (o_mv rfl) rfl <| Wo.nil ?_
         cases hF
         exact At.en () rfl (sc rfl (sc rfl (sc rfl (sc rfl (sc rfl (sc rfl (sc rfl (sc rfl sn)))))))) (Turn.picks [0, 1, 2, 3, 4] rfl rfl)
    ·refine Wk.condF rfl h1581 <| Wk.exit <| At.te ?_
     cases hF
     exact At.en () rfl (sc rfl (sc rfl (sc rfl (sc rfl (sc rfl sn))))) (Turn.picks [2, 3, 4] rfl rfl)
   ·clear h1880
    rcases r1881 with _ | _
    ·rintro ⟨⟩
     refine At.br <| At.br <| At.tr ?_
     cases hF
     exact At.en () rfl (sc rfl sn) (Turn.picks [] rfl rfl)
    ·rintro ⟨⟩
     refine At.be <| At.bn <| At.tn <| Wk.region <| Wo.od (o_bi rfl rfl (bin_add _ _ _)) rfl <| Wo.od (o_mv rfl) rfl <| Wo.nil ?_
     cases hF
     exact At.en () rfl (sc rfl (sc rfl (sc rfl (sc rfl (sc rfl sn))))) (Turn.picks [0, 1, 2] rfl rfl)
  ·refine Wk.condF rfl h1268 <| Wk.exit <| At.te ?_
   cases hF
   exact At.en () rfl sn (Turn.picks [] rfl rfl)
 ·clear h1882
  rcases r1883 with _ | _
  ·rintro ⟨⟩
   refine At.br <| At.tr ?_
   cases hF
   exact At.ret (.tmp rfl .nil) fun m' hm => ⟨(), rfl, (Turn.picks [] rfl rfl) m' hm⟩
  ·rintro ⟨⟩
   refine At.be <| At.tn <| Wk.seq <| Wk.region ?_
   obtain ⟨r1885, h1884, hF⟩ := ob_some hF
   refine Wo.x (o_cl rfl rfl (fun m hm => f13_ok n   _ h1884 m (hG.ext hm.ext) ) fun _ => rfl) gn rfl ?_
   rintro ⟨⟩
   refine Wo.od (o_as rfl) rfl <| Wo.nil <| At.tn <| Wk.ret ?_
   have hr := Option.some.inj hF
   subst r
   exact At.ret (.tmp rfl .nil) fun m' hm => ⟨(), rfl, (Turn.picks [] rfl rfl) m' hm⟩
end Go.Proofs.YtpclggcpobakhaaDoor.W5
end

section
namespace Go.Proofs.YtpclggcpobakhaaDoor
open Go Go.Ab Go.Ab.W
theorem lp_tot {σ ρ : Type} {body : σ → Option (σ ⊕ ρ)} {R : ρ → Prop} (I : Nat → σ → Prop) (h : ∀ k s, I k s → (∃ s', body s = some (.inl s') ∧ ∃ k', k' < k ∧ I k' s') ∨ ∃ r, body s = some (.inr r) ∧ R r) : ∀ k s n, I k s → k < n → ∃ r, lpN body n s = some r ∧ R r := by
 intro k
 induction k using Nat.strongRecOn with
 | _ k ih =>
  intro s n hI hk
  obtain ⟨n, rfl⟩ : ∃ n', n = n' + 1 := ⟨n - 1, by omega⟩
  rcases h k s hI with ⟨s', h1, k', h2, h3⟩ | ⟨r, h1, h2⟩
  ·obtain ⟨r, h4, h5⟩ := ih k' h2 s' n h3 (by omega)
   exact ⟨r, by rw [lp_next h1]; exact h4, h5⟩
  ·exact ⟨r, lp_end h1, h2⟩
theorem br_bool {c : Bool} {a b : Option Bool} (ha : c = true → ∃ x, a = some x) (hb : c = false → ∃ x, b = some x) : ∃ x, br c a b = some x := by
 cases c with
 | true => exact ha rfl
 | false => exact hb rfl
theorem some_b (x : Bool) : ∃ y, some x = some y := ⟨x, rfl⟩
theorem lim_of {n : Nat} (h : n ≤ 1073741824) : lim n = true := Nat.ble_eq_true_of_le h
theorem L40_1_tot (n0 : Nat) (l4 : List (Nat × Nat)) (N a b : Int) (hN : N ≠ 0) (v : Bool) (n : Nat) (hn : 3 < n) : ∃ r, lpN (L40_1 n0 l4 N a b) n (v, 0) = some r := by
 obtain ⟨r, h, _⟩ := lp_tot (body := L40_1 n0 l4 N a b) (R := fun _ => True) (fun k s => 0 ≤ s.2 ∧ s.2 + k = 3) (fun k s hI => by
  obtain ⟨v, i⟩ := s
  obtain ⟨h1, h2⟩ := hI
  simp only at h1 h2
  simp only [L40_1]
  by_cases c1 : i < (l4.length : Int)
  ·rw [br_dt c1, ob_s]
   by_cases c2 : i < 3
   ·rw [decide_eq_true c2, br_t]
    have hb : inB i l4.length = true := decide_eq_true ⟨h1, by omega⟩
    have hlt : i.toNat < l4.length := by omega
    have he : l4[i.toNat]? = some l4[i.toNat] := by simp [hlt]
    rw [hb, gd_t, he, ob_s]
    generalize l4[i.toNat] = e
    obtain ⟨x, y⟩ := e
    simp only [gd_t]
    rw [gd_dt hN, gd_dt hN]
    have : ∃ z, br v (some true) (br (decide (Int.tmod (IntKind.wrap .i64 ((x : Nat) : Int)) N = a)) (br (decide (Int.tmod (IntKind.wrap .i64 ((y : Nat) : Int)) N = b)) (some true) (br (decide (Int.tmod (IntKind.wrap .i64 ((x : Nat) : Int)) N = b)) (some (decide (Int.tmod (IntKind.wrap .i64 ((y : Nat) : Int)) N = a))) (some false))) (br (decide (Int.tmod (IntKind.wrap .i64 ((x : Nat) : Int)) N = b)) (some (decide (Int.tmod (IntKind.wrap .i64 ((y : Nat) : Int)) N = a))) (some false))) = some z :=
     br_bool (fun _ => some_b _) fun _ => br_bool (fun _ => br_bool (fun _ => some_b _) fun _ => br_bool (fun _ => some_b _) fun _ => some_b _) fun _ => br_bool (fun _ => some_b _) fun _ => some_b _
    obtain ⟨z, hz⟩ := this
    refine .inl ⟨(z, i + 1), ?_, k - 1, by omega, by simp only; omega, by simp only; omega⟩
    rw [hz, ob_s, wrap_in (by omega) (by omega)]
   ·rw [decide_eq_false c2, br_f]; exact .inr ⟨v, rfl, trivial⟩
  ·rw [br_df c1, ob_s, br_f]; exact .inr ⟨v, rfl, trivial⟩) 3 (v, 0) n ⟨by simp, by simp⟩ hn
 exact ⟨r, h⟩
theorem L40_2_tot (n0 : Nat) (N a w : Int) (x3 : Nat) (l4 : List (Nat × Nat)) (hN : 1 ≤ N ∧ N ≤ 12) (hw : w ≠ 0) (l : List (Int × Int)) (c b : Int) (M : Nat) (hl : l.length ≤ M) (hM : M ≤ 1000) (hb : 0 ≤ b ∧ b ≤ N) (n : Nat) (hn : 12 < n) (hn0 : 3 < n0) :
  ∃ r, lpN (L40_2 n0 N a w x3 l4) n (l, c, b) = some r ∧ r.1.length ≤ M + 12 := by
 refine lp_tot (body := L40_2 n0 N a w x3 l4) (R := fun r => r.1.length ≤ M + 12) (fun k s => 0 ≤ s.2.2 ∧ s.2.2 + k = N ∧ s.1.length + k ≤ M + 12) (fun k s hI => ?_) (N - b).toNat (l, c, b) n ⟨hb.1, by simp only; omega, by simp only; omega⟩ (by omega)
 obtain ⟨l, c, b⟩ := s
 obtain ⟨h1, h2, h3⟩ := hI
 simp only at h1 h2 h3
 simp only [L40_2]
 by_cases c1 : b < N
 ·rw [br_dt c1]
  have e1 : ∃ z, br (decide (b = IntKind.wrap .i64 (a + w))) (some true) (br (decide (b = IntKind.wrap .i64 (a + 1))) (gd (decide (w ≠ 0)) (some (!decide (Int.tmod b w = 0)))) (some false)) = some z :=
   br_bool (fun _ => some_b _) fun _ => br_bool (fun _ => ⟨_, gd_dt hw _⟩) fun _ => some_b _
  obtain ⟨z, hz⟩ := e1
  rw [hz, ob_s]
  have e2 : ∃ c' z', br z (ob (ob (br (decide (Int.tmod c 2 = 1)) (ob (some (ushr .u16 x3 (ui .u64 (Int.tmod (IntKind.wrap .i64 (Int.tdiv c 2)) 16)))) fun y2906 => some (decide (uw .u16 (uw .u16 y2906 &&& uw .u16 1) = 1))) (some false)) fun v2904 => br v2904 (some false) (some z)) fun v2900 => some (IntKind.wrap .i64 (c + 1), v2900)) (some (c, z)) = some (c', z') := by
   cases z with
   | false => exact ⟨c, false, rfl⟩
   | true =>
    rw [br_t]
    have : ∃ q, (ob (br (decide (Int.tmod c 2 = 1)) (ob (some (ushr .u16 x3 (ui .u64 (Int.tmod (IntKind.wrap .i64 (Int.tdiv c 2)) 16)))) fun y2906 => some (decide (uw .u16 (uw .u16 y2906 &&& uw .u16 1) = 1))) (some false)) fun v2904 => br v2904 (some false) (some true)) = some q := by
     by_cases h : Int.tmod c 2 = 1
     ·rw [br_dt h, ob_s, ob_s]; exact br_bool (fun _ => some_b _) fun _ => some_b _
     ·rw [br_df h, ob_s]; exact br_bool (fun _ => some_b _) fun _ => some_b _
    obtain ⟨q, hq⟩ := this
    exact ⟨_, q, by rw [hq, ob_s]⟩
  obtain ⟨c', z', hz'⟩ := e2
  rw [hz', ob_s]
  obtain ⟨q, hq⟩ := L40_1_tot n0 l4 N a b (by omega) z' n0 hn0
  simp only [hq, ob_s]
  cases q with
  | false =>
   refine .inl ⟨(l, c', b + 1), ?_, k - 1, by omega, by simp only; omega, by simp only; omega, by simp only; omega⟩
   rw [br_f, ob_s, wrap_in (by omega) (by omega)]
  | true =>
   refine .inl ⟨(l ++ [(a, b)], c', b + 1), ?_, k - 1, by omega, by simp only; omega, by simp only; omega, by simp; omega⟩
   rw [br_t, lim_of (by simp; omega), gd_t, ob_s, wrap_in (by omega) (by omega)]
 ·rw [br_df c1]; exact .inr ⟨(l, c), rfl, by simp only; omega⟩
theorem L40_3_tot (n0 : Nat) (N w : Int) (x3 : Nat) (l4 : List (Nat × Nat)) (hN : 1 ≤ N ∧ N ≤ 12) (hw : w ≠ 0) (n : Nat) (hn : 12 < n) (hn0 : 12 < n0) :
  ∃ r, lpN (L40_3 n0 N x3 l4) n (w, [], 0, 0) = some r ∧ r.length ≤ 200 := by
 refine lp_tot (body := L40_3 n0 N x3 l4) (R := fun r => r.length ≤ 200) (fun k s => s.1 = w ∧ 0 ≤ s.2.2.2 ∧ s.2.2.2 + k = N ∧ s.2.1.length + 12 * k ≤ 144) (fun k s hI => ?_) N.toNat (w, [], 0, 0) n ⟨rfl, by simp, by simp only; omega, by simp; omega⟩ (by omega)
 obtain ⟨w', l, c, a⟩ := s
 obtain ⟨rfl, h1, h2, h3⟩ := hI
 simp only at h1 h2 h3 hw
 simp only [L40_3]
 by_cases c1 : a < N
 ·rw [br_dt c1]
  obtain ⟨r, hr, hrl⟩ := L40_2_tot n0 N a w' x3 l4 hN hw l c (IntKind.wrap .i64 (a + 1)) l.length (Nat.le_refl _) (by omega) (by rw [wrap_in (by omega) (by omega)]; omega) n0 hn0 (by omega)
  obtain ⟨l', c'⟩ := r
  simp only [hr, ob_s]
  exact .inl ⟨(w', l', c', a + 1), by rw [wrap_in (by omega) (by omega)], k - 1, by omega, rfl, by simp only; omega, by simp only; omega, by simp only at hrl ⊢; omega⟩
 ·rw [br_df c1]; exact .inr ⟨l, rfl, by omega⟩
theorem F40_tot (n x1 x2 x3 : Nat) (l4 : List (Nat × Nat)) (hn : 12 < n) : ∃ N es, F40 n x1 x2 x3 l4 = some (N, es) ∧ es.length ≤ 200 := by
 unfold F40
 have w1 : IntKind.wrap .i64 ((x1 % 4 : Nat) : Int) = ((x1 % 4 : Nat) : Int) := wrap_in (by omega) (by omega)
 have w2 : IntKind.wrap .i64 ((x2 % 3 : Nat) : Int) = ((x2 % 3 : Nat) : Int) := wrap_in (by omega) (by omega)
 have w3 : IntKind.wrap .i64 (1 + ((x1 % 4 : Nat) : Int)) = 1 + ((x1 % 4 : Nat) : Int) := wrap_in (by omega) (by omega)
 have w4 : IntKind.wrap .i64 (1 + ((x2 % 3 : Nat) : Int)) = 1 + ((x2 % 3 : Nat) : Int) := wrap_in (by omega) (by omega)
 rw [w1, w2, w3, w4, ob_s]
 have hN : ∀ a b : Nat, a < 4 → b < 3 → 1 ≤ (1 + (a : Int)) * (1 + (b : Int)) ∧ (1 + (a : Int)) * (1 + (b : Int)) ≤ 12 := by
  intro a b ha hb
  have h1 : a = 0 ∨ a = 1 ∨ a = 2 ∨ a = 3 := by omega
  have h2 : b = 0 ∨ b = 1 ∨ b = 2 := by omega
  rcases h1 with rfl | rfl | rfl | rfl <;> rcases h2 with rfl | rfl | rfl <;> decide
 have hN' := hN (x1 % 4) (x2 % 3) (Nat.mod_lt _ (by omega)) (Nat.mod_lt _ (by omega))
 rw [wrap_in (by omega) (by omega)]
 obtain ⟨r, hr, hl⟩ := L40_3_tot n ((1 + ((x1 % 4 : Nat) : Int)) * (1 + ((x2 % 3 : Nat) : Int))) (1 + ((x1 % 4 : Nat) : Int)) x3 l4 hN' (by omega) n hn hn
 exact ⟨_, r, by rw [hr, ob_s], hl⟩
end Go.Proofs.YtpclggcpobakhaaDoor
end

section
namespace Go.Proofs.YtpclggcpobakhaaDoor
open Go Go.Ab Go.Ab.W
theorem L65_1_tot (n0 : Nat) (a : Int) (x2 : Nat) (l : List (Int × Int)) (b : Int) (ha : 0 ≤ a ∧ a < 64) (hb : 0 ≤ b ∧ b ≤ 65) (hl : l.length ≤ 201) (n : Nat) (hn : 65 < n) : ∃ r, lpN (L65_1 n0 a x2) n (l, b) = some r ∧ r.length ≤ 201 := by
 refine lp_tot (body := L65_1 n0 a x2) (R := fun r => r.length ≤ 201) (fun k s => 0 ≤ s.2 ∧ s.2 + k = 65 ∧ s.1.length ≤ 201) (fun k s hI => ?_) (65 - b).toNat (l, b) n ⟨hb.1, by simp only; omega, hl⟩ (by omega)
 obtain ⟨l, b⟩ := s
 obtain ⟨h1, h2, h3⟩ := hI
 simp only at h1 h2 h3
 have hmi : mi (IntKind.wrap .i64 (a + 5)) (64 : Int) ≤ 64 := by unfold mi; split <;> omega
 have w2 : IntKind.wrap .i64 ((x2 % 3 : Nat) : Int) = ((x2 % 3 : Nat) : Int) := wrap_in (by omega) (by omega)
 have w3 : IntKind.wrap .i64 (199 + ((x2 % 3 : Nat) : Int)) = 199 + ((x2 % 3 : Nat) : Int) := wrap_in (by omega) (by omega)
 simp only [L65_1, w2, w3]
 by_cases c1 : b < mi (IntKind.wrap .i64 (a + 5)) (64 : Int)
 ·rw [br_dt c1, ob_s]
  by_cases c2 : (l.length : Int) < 199 + ((x2 % 3 : Nat) : Int)
  ·rw [decide_eq_true c2, br_t]
   have : x2 % 3 < 3 := Nat.mod_lt _ (by omega)
   rw [lim_of (by simp; omega), gd_t, wrap_in (by omega) (by omega)]
   exact .inl ⟨(l ++ [(a, b)], b + 1), rfl, k - 1, by omega, by simp only; omega, by simp only; omega, by simp; omega⟩
  ·rw [decide_eq_false c2, br_f]; exact .inr ⟨l, rfl, h3⟩
 ·rw [br_df c1, ob_s, br_f]; exact .inr ⟨l, rfl, h3⟩
theorem L65_2_tot (n0 : Nat) (x2 : Nat) (n : Nat) (hn : 65 < n) (hn0 : 65 < n0) : ∃ r, lpN (L65_2 n0 x2) n ([], 0) = some r ∧ r.length ≤ 201 := by
 refine lp_tot (body := L65_2 n0 x2) (R := fun r => r.length ≤ 201) (fun k s => 0 ≤ s.2 ∧ s.2 + k = 64 ∧ s.1.length ≤ 201) (fun k s hI => ?_) 64 ([], 0) n ⟨by simp, by simp, by simp⟩ (by omega)
 obtain ⟨l, a⟩ := s
 obtain ⟨h1, h2, h3⟩ := hI
 simp only at h1 h2 h3
 simp only [L65_2]
 by_cases c1 : a < 64
 ·rw [br_dt c1, wrap_in (by omega) (by omega)]
  obtain ⟨r, hr, hrl⟩ := L65_1_tot n0 a x2 l (a + 1) ⟨h1, c1⟩ ⟨by omega, by omega⟩ h3 n0 hn0
  rw [hr, ob_s]
  exact .inl ⟨(r, a + 1), rfl, k - 1, by omega, by simp only; omega, by simp only; omega, hrl⟩
 ·rw [br_df c1]; exact .inr ⟨l, rfl, h3⟩
theorem okB_of {lo hi : Int} {n : Nat} (h : 0 ≤ lo ∧ lo ≤ hi ∧ hi ≤ (n : Int)) : okB lo hi n = true := decide_eq_true h
theorem F65_tot (n x1 x2 : Nat) (x3 x4 x5 N : Int) (l7 : List (Int × Int)) (hx : x2 < 256) (hl : l7.length ≤ 1000000) (hn : 65 < n) : ∃ N' es, F65 n x1 x2 x3 x4 x5 N l7 = some (N', es) ∧ es.length ≤ 300 := by
 unfold F65
 have hmi : 0 ≤ mi (l7.length : Int) (210 : Int) ∧ mi (l7.length : Int) (210 : Int) ≤ (l7.length : Int) ∧ mi (l7.length : Int) (210 : Int) ≤ 210 := by unfold mi; split <;> omega
 rw [okB_of ⟨by omega, hmi.1, hmi.2.1⟩, gd_t]
 generalize hL : ((l7.drop (0 : Int).toNat).take ((mi (l7.length : Int) (210 : Int) : Int).toNat - (0 : Int).toNat)) = L
 have hLl : L.length ≤ 210 := by
  rw [← hL, List.length_take]
  have := hmi.2.2
  omega
 unfold F26
 rw [lim_of (by omega), gd_t, ob_s]
 have w1 : IntKind.wrap .i64 ((L.length : Int) + 1) = (L.length : Int) + 1 := wrap_in (by omega) (by omega)
 rw [w1, gd_dt (by omega)]
 have w2 : IntKind.wrap .i64 ((x2 : Nat) : Int) = ((x2 : Nat) : Int) := wrap_in (by omega) (by omega)
 rw [w2, ob_s]
 obtain ⟨y, hy⟩ : ∃ y, y = Int.tmod ((x2 : Nat) : Int) ((L.length : Int) + 1) := ⟨_, rfl⟩
 have hy1 : 0 ≤ y ∧ y ≤ L.length := by
  rw [hy, Int.tmod_eq_emod_of_nonneg (Int.natCast_nonneg _)]
  have h1 := Int.emod_nonneg ((x2 : Nat) : Int) (show ((L.length : Int) + 1) ≠ 0 by omega)
  have h2 := Int.emod_lt_of_pos ((x2 : Nat) : Int) (show 0 < ((L.length : Int) + 1) by omega)
  omega
 rw [← hy]
 have fin : ∀ (q : Option (Int × List (Int × Int) × Nat)), (∃ N' es k, q = some (N', es, k) ∧ es.length ≤ 300) → ∃ N' es, (ob q fun (v256, l257, n259) => some (v256, l257)) = some (N', es) ∧ es.length ≤ 300 := by
  rintro q ⟨N', es, k, rfl, h⟩
  exact ⟨N', es, rfl, h⟩
 have ins : ∀ p : Int × Int, F82 n L y [p] = some (L.take y.toNat ++ [p] ++ L.drop y.toNat) ∧ (L.take y.toNat ++ [p] ++ L.drop y.toNat).length ≤ 300 := by
  intro p
  refine ⟨?_, by simp; omega⟩
  unfold F82
  rw [okB_of ⟨hy1.1, hy1.2, Int.le_refl _⟩, gd_t, lim_of (by simp; omega), gd_t]
 refine fin _ ?_
 have case1 : ∀ {p : Prop} [Decidable p] {a b : Option (Int × List (Int × Int) × Nat)}, (p → ∃ N' es k, a = some (N', es, k) ∧ es.length ≤ 300) → (¬ p → ∃ N' es k, b = some (N', es, k) ∧ es.length ≤ 300) → ∃ N' es k, br (decide p) a b = some (N', es, k) ∧ es.length ≤ 300 := by
  intro p _ a b ha hb
  by_cases h : p
  ·rw [br_dt h]; exact ha h
  ·rw [br_df h]; exact hb h
 have base : ∀ (N' : Int) (k : Nat), ∃ N'' es k', (some (N', L, k) : Option (Int × List (Int × Int) × Nat)) = some (N'', es, k') ∧ es.length ≤ 300 := fun N' k => ⟨_, _, _, rfl, by omega⟩
 refine case1 (fun _ => base _ _) fun _ => case1 (fun _ => ?_) fun _ => case1 (fun _ => case1 (fun h => ?_) fun _ => base _ _) fun _ => case1 (fun _ => case1 (fun h => ?_) fun _ => base _ _) fun _ => case1 (fun _ => case1 (fun h => ?_) fun _ => base _ _) fun _ => case1 (fun _ => base _ _) fun _ => case1 (fun _ => ?_) fun _ => base _ _
 ·rw [(ins _).1, ob_s]; exact ⟨_, _, _, rfl, (ins _).2⟩
 ·unfold F49
  rw [wrap_in (by omega) (by omega), okB_of ⟨hy1.1, by omega, by omega⟩, gd_t, decide_eq_true (show y < y + 1 by omega), gd_t, lim_of (by omega), gd_t, ob_s]
  exact ⟨_, _, _, rfl, by simp; omega⟩
 ·have hb : inB y L.length = true := decide_eq_true ⟨hy1.1, by omega⟩
  have hlt : y.toNat < L.length := by omega
  have he : L[y.toNat]? = some L[y.toNat] := by simp [hlt]
  rw [hb, gd_t, he, ob_s]
  generalize L[y.toNat] = e
  obtain ⟨u, v⟩ := e
  have he2 : (L.set y.toNat (v, v))[y.toNat]? = some (v, v) := by simp [hlt]
  simp only [gd_t, he2, ob_s]
  exact ⟨_, _, _, rfl, by simp; omega⟩
 ·have hb : inB y L.length = true := decide_eq_true ⟨hy1.1, by omega⟩
  have hlt : y.toNat < L.length := by omega
  have he : L[y.toNat]? = some L[y.toNat] := by simp [hlt]
  rw [hb, gd_t, he, ob_s]
  generalize L[y.toNat] = e
  obtain ⟨u, v⟩ := e
  simp only [(ins _).1, ob_s]
  exact ⟨_, _, _, rfl, (ins _).2⟩
 ·obtain ⟨r, hr, hrl⟩ := L65_2_tot n x2 n hn hn
  rw [hr, ob_s]; exact ⟨_, _, _, rfl, by omega⟩
theorem F28_tot (n x1 x2 x3 : Nat) (l4 : List (Nat × Nat)) (x8 x9 : Nat) (x10 x11 x12 : Int) (x13 x14 : Nat) (x15 x16 x17 : Int) (h9 : x9 < 256) (h14 : x14 < 256) (hn : 65 < n) :
  ∃ N1 e1 N2 e2 N3 e3, F28 n x1 x2 x3 l4 x8 x9 x10 x11 x12 x13 x14 x15 x16 x17 = some (N1, e1, N2, e2, N3, e3) ∧ e1.length ≤ 300 ∧ e2.length ≤ 300 ∧ e3.length ≤ 300 ∧ F40 n x1 x2 x3 l4 = some (N1, e1) := by
 obtain ⟨N1, e1, h1, g1⟩ := F40_tot n x1 x2 x3 l4 (by omega)
 obtain ⟨N2, e2, h2, g2⟩ := F65_tot n x8 x9 x10 x11 x12 N1 e1 h9 (by omega) hn
 obtain ⟨N3, e3, h3, g3⟩ := F65_tot n x13 x14 x15 x16 x17 N2 e2 h14 (by omega) hn
 refine ⟨N1, e1, N2, e2, N3, e3, ?_, by omega, g2, g3, h1⟩
 unfold F28
 simp only [h1, ob_s, h2, h3]
end Go.Proofs.YtpclggcpobakhaaDoor
end

section
namespace Go.Proofs.YtpclggcpobakhaaDoor
open Go Go.Ab Go.Ab.W
def adj (es : List (Int × Int)) (i j : Nat) : Prop := ((i : Int), (j : Int)) ∈ es ∨ ((j : Int), (i : Int)) ∈ es
theorem adj_symm {es : List (Int × Int)} {i j : Nat} (h : adj es i j) : adj es j i := h.symm
theorem okE_mem {N : Int} : ∀ {es : List (Int × Int)} {p : Int × Int}, okEp N p es = true → ∀ e ∈ es, 0 ≤ e.1 ∧ e.1 < e.2 ∧ e.2 < N
 | [], _, _, e, he => by cases he
 | x :: es, p, h, e, he => by
  rw [okE_cons, Bool.and_eq_true] at h
  rcases List.mem_cons.1 he with rfl | he
  ·simp only [stepOk, Bool.and_eq_true, decide_eq_true_eq] at h
   exact h.1.1
  ·exact okE_mem h.2 e he
structure Okay (N : Nat) (es : List (Int × Int)) : Prop where
 pos : 1 ≤ N
 le : N ≤ 64
 len : es.length ≤ 200
 mem : ∀ e ∈ es, ∃ a b : Nat, e = ((a : Int), (b : Int)) ∧ a < b ∧ b < N
theorem okay_of {N : Int} {es : List (Int × Int)} (h : okG N es = true) : ∃ M : Nat, N = (M : Int) ∧ Okay M es := by
 simp only [okG, Bool.and_eq_true, decide_eq_true_eq] at h
 obtain ⟨⟨h1, h2, h3⟩, h4⟩ := h
 obtain ⟨M, rfl⟩ := Int.eq_ofNat_of_zero_le (show 0 ≤ N by omega)
 refine ⟨M, rfl, by omega, by omega, h3, fun e he => ?_⟩
 obtain ⟨g1, g2, g3⟩ := okE_mem h4 e he
 obtain ⟨a, b⟩ := e
 obtain ⟨a, rfl⟩ := Int.eq_ofNat_of_zero_le (show 0 ≤ a from g1)
 obtain ⟨b, rfl⟩ := Int.eq_ofNat_of_zero_le (show 0 ≤ b by simp only at g1 g2; omega)
 exact ⟨a, b, rfl, by simp only at g2; omega, by simp only at g3; omega⟩
theorem Okay.adj {N : Nat} {es : List (Int × Int)} (h : Okay N es) {i j : Nat} (ha : adj es i j) : i < N ∧ j < N ∧ i ≠ j := by
 rcases ha with ha | ha
 ·obtain ⟨a, b, e, h1, h2⟩ := h.mem _ ha
  simp only [Prod.mk.injEq, Int.natCast_inj] at e
  omega
 ·obtain ⟨a, b, e, h1, h2⟩ := h.mem _ ha
  simp only [Prod.mk.injEq, Int.natCast_inj] at e
  omega
def bl (x : Nat) : Nat := if x = 0 then 0 else Nat.log2 x + 1
theorem lt_bl {x k : Nat} : k < bl x ↔ 2 ^ k ≤ x := by
 unfold bl
 by_cases h : x = 0
 ·subst h
  rw [if_pos rfl]
  have := Nat.two_pow_pos k
  omega
 ·rw [if_neg h, Nat.lt_succ_iff, Nat.le_log2 h]
theorem bl_unique {x m : Nat} (h : ∀ k, k < m ↔ 2 ^ k ≤ x) : m = bl x := by
 rcases Nat.lt_trichotomy m (bl x) with h1 | h1 | h1
 ·have := (h m).2 (lt_bl.1 h1); omega
 ·exact h1
 ·have := lt_bl.2 ((h (bl x)).1 h1); omega
theorem bl_shift {x s : Nat} (h : 2 ^ s ≤ x) : bl (x >>> s) + s = bl x := by
 refine bl_unique fun k => ?_
 rw [Nat.shiftRight_eq_div_pow]
 by_cases hk : k < s
 ·have : 2 ^ k ≤ 2 ^ s := Nat.pow_le_pow_right (by decide) (by omega)
  constructor
  ·intro _; omega
  ·intro _; omega
 ·obtain ⟨d, rfl⟩ : ∃ d, k = d + s := ⟨k - s, by omega⟩
  have h1 := lt_bl (x := x / 2 ^ s) (k := d)
  have h2 : 2 ^ (d + s) ≤ x ↔ 2 ^ d ≤ x / 2 ^ s := by rw [Nat.pow_add, Nat.le_div_iff_mul_le (Nat.two_pow_pos s)]
  rw [h2, ← h1]; omega
theorem tab_bl : ∀ y : Fin 256, tab256_482390[y.val]? = some (bl y.val) := by decide +kernel
theorem bl_le {x s : Nat} (h : x < 2 ^ s) : bl x ≤ s := by
 rcases Nat.lt_or_ge s (bl x) with h1 | h1
 ·have := lt_bl.1 h1; omega
 ·exact h1
theorem len_step (s y m : Nat) (hs : s ≤ 32) (hy : y < 2 ^ (2 * s)) (hm : m ≤ 64) : ∃ y' m' : Nat, br (decide (2 ^ s ≤ y)) (some (ushr .u64 y s, IntKind.wrap .i64 ((m : Int) + (s : Int)))) (some (y, (m : Int))) = some (y', (m' : Int)) ∧ y' < 2 ^ s ∧ bl y' + m' = bl y + m ∧ m' ≤ m + s := by
 by_cases h : 2 ^ s ≤ y
 ·refine ⟨y >>> s, m + s, ?_, ?_, ?_, Nat.le_refl _⟩
  ·rw [br_dt h, word_shr (by omega), wrap_in (by omega) (by omega)]; rfl
  ·rw [Nat.shiftRight_eq_div_pow, Nat.div_lt_iff_lt_mul (Nat.two_pow_pos s), ← Nat.pow_add]
   rw [Nat.two_mul] at hy; exact hy
  ·have := bl_shift h; omega
 ·exact ⟨y, m, br_df h _ _, by omega, rfl, by omega⟩
theorem F51_eq (n x : Nat) (hx : x < 2 ^ 64) : F51 n x = some ((bl x : Nat) : Int) := by
 unfold F51
 obtain ⟨y1, m1, e1, h1, b1, g1⟩ := len_step 32 x 0 (by omega) hx (by omega)
 have e1' : br (decide (4294967296 ≤ x)) (some (ushr .u64 x 32, (32 : Int))) (some (x, 0)) = some (y1, (m1 : Int)) := e1
 rw [e1', ob_s]
 obtain ⟨y2, m2, e2, h2, b2, g2⟩ := len_step 16 y1 m1 (by omega) h1 (by omega)
 have e2' : br (decide (65536 ≤ y1)) (some (ushr .u64 y1 16, IntKind.wrap .i64 ((m1 : Int) + 16))) (some (y1, (m1 : Int))) = some (y2, (m2 : Int)) := e2
 simp only [e2', ob_s]
 obtain ⟨y3, m3, e3, h3, b3, g3⟩ := len_step 8 y2 m2 (by omega) h2 (by omega)
 have e3' : br (decide (256 ≤ y2)) (some (ushr .u64 y2 8, IntKind.wrap .i64 ((m2 : Int) + 8))) (some (y2, (m2 : Int))) = some (y3, (m3 : Int)) := e3
 simp only [e3', ob_s]
 have h3 : y3 < 256 := h3
 have e : uw .u8 y3 = y3 := Nat.mod_eq_of_lt h3
 have h8 : bl y3 ≤ 8 := bl_le h3
 have ht : tab256_482390[y3]? = some (bl y3) := tab_bl ⟨y3, h3⟩
 have w1 : IntKind.wrap .i64 ((bl y3 : Nat) : Int) = ((bl y3 : Nat) : Int) := wrap_in (by omega) (by omega)
 rw [e, inB_nat h3, gd_t, Int.toNat_natCast, ht, ob_s, w1, wrap_in (by omega) (by omega)]
 simp only [Option.some.injEq]; omega
theorem F42_eq {n x : Nat} (h : x < 2 ^ 64) : F42 n x = some ((tz x : Nat) : Int) := by unfold F42; rw [decide_eq_true h, gd_t]
def ckF (N : Int) (es : List (Int × Int)) (x : Nat) : Int := if okG N es then (if 2 ^ N.toNat ≤ x then 2 else 0) else 180
theorem F55_eq (n : Nat) (N : Int) (es : List (Int × Int)) (x : Nat) (hx : x < 2 ^ 64) (hn : 2 < n) (hl : es.length < 4611686018427387904) (hk : es.length < n) : F55 n N es x = some (ckF N es x) := by
 unfold F55 ckF
 rw [F23_eq n N es hn hl hk, ob_s]
 unfold ckG
 by_cases h : okG N es = true
 ·obtain ⟨M, rfl, hM⟩ := okay_of h
  rw [if_pos h, if_pos h]
  simp only [decide_true, Bool.not_true, br_f, F51_eq n x hx, ob_s, Int.toNat_natCast]
  by_cases h2 : 2 ^ M ≤ x
  ·have := lt_bl.2 h2
   rw [if_pos h2, br_dt (by omega)]
  ·have : ¬ M < bl x := fun h => h2 (lt_bl.1 h)
   rw [if_neg h2, br_df (by omega)]
 ·rw [if_neg h, if_neg h]; rfl
theorem F66_eq (n : Nat) (N : Int) (es : List (Int × Int)) (x : Nat) (hx : x < 2 ^ 64) (hl : es.length < 4611686018427387904) (hk : es.length < n) : F66 n N es x = some (ckF N es x) := by
 unfold F66 ckF
 rw [F43_eq n N es hl hk, ob_s]
 unfold ckG
 by_cases h : okG N es = true
 ·obtain ⟨M, rfl, hM⟩ := okay_of h
  rw [if_pos h, if_pos h]
  simp only [decide_true, Bool.not_true, br_f, Int.toNat_natCast]
  by_cases h64 : M < 64
  ·have hu : ui .u64 (M : Int) = M := (ui_nn (by omega) (by omega)).trans (Int.toNat_natCast M)
   rw [br_dt (by omega), ob_s, hu, word_shr (by omega), Nat.shiftRight_eq_div_pow]
   by_cases h2 : 2 ^ M ≤ x
   ·have : 0 < x / 2 ^ M := Nat.div_pos h2 (Nat.two_pow_pos _)
    rw [if_pos h2, decide_eq_false (by omega)]; rfl
   ·have : x / 2 ^ M = 0 := Nat.div_eq_of_lt (by omega)
    rw [if_neg h2, decide_eq_true this]; rfl
  ·have hM64 : M = 64 := by have := hM.le; omega
   subst hM64
   rw [br_df (by omega), ob_s, if_neg (by omega)]; rfl
 ·rw [if_neg h, if_neg h]; rfl
theorem ckF_ok {N : Int} {es : List (Int × Int)} {x : Nat} (h : ckF N es x = 0) : ∃ M : Nat, N = (M : Int) ∧ Okay M es ∧ x < 2 ^ M := by
 unfold ckF at h
 split at h
 ·rename_i hk
  obtain ⟨M, rfl, hM⟩ := okay_of hk
  split at h
  ·cases h
  ·rename_i h2
   rw [Int.toNat_natCast] at h2
   exact ⟨M, rfl, hM, by omega⟩
 ·cases h
theorem F67_eq (n x i : Nat) (hx : x < 2 ^ 64) (hi : i < 64) : F67 n x ((i : Nat) : Int) = some (x.testBit i) := by
 unfold F67
 rw [ui_nn (by omega) (by omega), Int.toNat_natCast, bit_at hx (by omega)]
theorem F57_eq (n x i : Nat) (hx : x < 2 ^ 64) (hi : i < 64) : F57 n x ((i : Nat) : Int) = some (x.testBit i) := by
 unfold F57
 rw [decide_eq_true (show (0 : Int) ≤ (i : Int) by omega), gd_t, Int.toNat_natCast, bit_at hx (by omega)]
theorem F68_eq (n i : Nat) (hi : i < 64) : F68 n ((i : Nat) : Int) = some (2 ^ i) := by
 unfold F68
 rw [ui_nn (by omega) (by omega), Int.toNat_natCast, word_one hi]
theorem lt64 {x N : Nat} (h : x < 2 ^ N) (hN : N ≤ 64) : x < 2 ^ 64 := Nat.lt_of_lt_of_le h (Nat.pow_le_pow_right (by decide) hN)
theorem tb_ltN {x N i : Nat} (h : x < 2 ^ N) (hi : x.testBit i = true) : i < N := by
 rcases Nat.lt_or_ge i N with h1 | h1
 ·exact h1
 ·rw [Nat.testBit_lt_two_pow (Nat.lt_of_lt_of_le h (Nat.pow_le_pow_right (by decide) h1))] at hi; cases hi
def addA (L : List Nat) (e : Int × Int) : List Nat :=
 let L1 := L.set e.1.toNat (L.getD e.1.toNat 0 ||| 2 ^ e.2.toNat)
 L1.set e.2.toNat (L1.getD e.2.toNat 0 ||| 2 ^ e.1.toNat)
def AroundOk (N : Nat) (es : List (Int × Int)) (L : List Nat) : Prop := L.length = N ∧ ∀ k, k < N → ∃ w, L[k]? = some w ∧ w < 2 ^ 64 ∧ ∀ i, w.testBit i = true ↔ adj es k i
theorem adj_snoc {es : List (Int × Int)} {a b k i : Nat} : adj (es ++ [((a : Int), (b : Int))]) k i ↔ adj es k i ∨ (k = a ∧ i = b) ∨ (k = b ∧ i = a) := by
 unfold adj
 simp only [List.mem_append, List.mem_singleton, Prod.mk.injEq, Int.natCast_inj]
 constructor
 ·rintro ((h | h) | (h | h))
  ·exact .inl (.inl h)
  ·exact .inr (.inl h)
  ·exact .inl (.inr h)
  ·exact .inr (.inr ⟨h.2, h.1⟩)
 ·rintro ((h | h) | (h | h))
  ·exact .inl (.inl h)
  ·exact .inr (.inl h)
  ·exact .inl (.inr h)
  ·exact .inr (.inr ⟨h.2, h.1⟩)
theorem around_step {N : Nat} {es : List (Int × Int)} {L : List Nat} (h : AroundOk N es L) {a b : Nat} (hab : a < b) (hb : b < N) (hN : N ≤ 64) : AroundOk N (es ++ [((a : Int), (b : Int))]) (addA L ((a : Int), (b : Int))) := by
 obtain ⟨hl, hw⟩ := h
 obtain ⟨wa, ha1, ha2, ha3⟩ := hw a (by omega)
 obtain ⟨wb, hb1, hb2, hb3⟩ := hw b hb
 have e1 : L.getD a 0 = wa := by simp [List.getD, ha1]
 have hset : (L.set a (wa ||| 2 ^ b))[b]? = some wb := by rw [List.getElem?_set_ne (by omega)]; exact hb1
 have e2 : (L.set a (wa ||| 2 ^ b)).getD b 0 = wb := by simp only [List.getD, hset]; rfl
 unfold addA
 simp only [Int.toNat_natCast, e1, e2]
 refine ⟨by simp [hl], fun k hk => ?_⟩
 by_cases hkb : k = b
 ·subst hkb
  refine ⟨wb ||| 2 ^ a, by rw [List.getElem?_set_self (by simp [hl]; exact hk)], or_lt' hb2 (one_lt (by omega)), fun i => ?_⟩
  rw [Nat.testBit_or, Bool.or_eq_true, hb3, tb_one, decide_eq_true_eq, adj_snoc]
  constructor
  ·rintro (h | h)
   ·exact .inl h
   ·exact .inr (.inr ⟨rfl, h⟩)
  ·rintro (h | ⟨h, _⟩ | ⟨_, h⟩)
   ·exact .inl h
   ·omega
   ·exact .inr h
 ·by_cases hka : k = a
  ·subst hka
   refine ⟨wa ||| 2 ^ b, by rw [List.getElem?_set_ne (by omega), List.getElem?_set_self (by simp [hl]; exact hk)], or_lt' ha2 (one_lt (by omega)), fun i => ?_⟩
   rw [Nat.testBit_or, Bool.or_eq_true, ha3, tb_one, decide_eq_true_eq, adj_snoc]
   constructor
   ·rintro (h | h)
    ·exact .inl h
    ·exact .inr (.inl ⟨rfl, h⟩)
   ·rintro (h | ⟨_, h⟩ | ⟨h, _⟩)
    ·exact .inl h
    ·exact .inr h
    ·omega
  ·obtain ⟨w, h1, h2, h3⟩ := hw k hk
   refine ⟨w, by rw [List.getElem?_set_ne (by omega), List.getElem?_set_ne (by omega)]; exact h1, h2, fun i => ?_⟩
   rw [h3, adj_snoc]
   constructor
   ·exact .inl
   ·rintro (h | ⟨h, _⟩ | ⟨h, _⟩)
    ·exact h
    ·omega
    ·omega
theorem F75_eq (n N : Nat) (es : List (Int × Int)) (h : Okay N es) (hn : 200 < n) : ∃ L, F75 n (N : Int) es = some L ∧ AroundOk N es L := by
 have hN := h.le
 have hlen := h.len
 unfold F75
 rw [decide_eq_true (show (0 : Int) ≤ (N : Int) by omega), gd_t, Int.toNat_natCast, lim_of (by omega), gd_t]
 have := lp_list0 (body := L75_1 n es (N : Int)) es (fun (L : List Nat) (v : Int) => (L, v)) addA id (fun i L => AroundOk N (es.take i) L) (fun L i x hx hI => ?_) (fun L _ => ?_) (n := n) (s := List.replicate N 0) ⟨by simp, fun k hk => ⟨0, by simp [hk], by decide, fun i => by simp [adj]⟩⟩ (by omega)
 ·obtain ⟨h1, h2⟩ := this
  rw [h1, ob_s]
  rw [List.take_length] at h2
  exact ⟨_, rfl, h2⟩
 ·have hi : i < es.length := (List.getElem?_eq_some_iff.1 hx).1
  obtain ⟨a, b, rfl, hab, hbN⟩ := h.mem x (List.mem_of_getElem? hx)
  have hstep := around_step hI hab hbN hN
  have htk : es.take (i + 1) = es.take i ++ [((a : Int), (b : Int))] := by rw [List.take_add_one, hx]; rfl
  obtain ⟨hl, hw⟩ := hI
  obtain ⟨wa, ha1, ha2, ha3⟩ := hw a (by omega)
  obtain ⟨wb, hb1, hb2, hb3⟩ := hw b hbN
  have e1 : L.getD a 0 = wa := by simp [List.getD, ha1]
  have hset : (L.set a (wa ||| 2 ^ b))[b]? = some wb := by rw [List.getElem?_set_ne (by omega)]; exact hb1
  have e2 : (L.set a (wa ||| 2 ^ b)).getD b 0 = wb := by simp only [List.getD, hset]; rfl
  refine ⟨?_, by rw [htk]; exact hstep⟩
  simp only [L75_1, Int.toNat_natCast, hx, ob_s, ha1, word_one (show b < 64 by omega), word_one (show a < 64 by omega), inB_nat hi, inB_nat (show a < N by omega), inB_nat hbN, gd_t, word_or ha2 (one_lt (show b < 64 by omega)), hset, word_or hb2 (one_lt (show a < 64 by omega)), wrap_succ (show i < 4611686018427387904 by omega), addA, e1, e2]
  rw [br_dt (by omega), decide_eq_true (show (0 : Int) ≤ (b : Int) by omega), gd_t, decide_eq_true (show (0 : Int) ≤ (a : Int) by omega), gd_t]
 ·simp only [L75_1]
  rw [br_df (by omega)]; rfl
def nbP (es : List (Int × Int)) (x i : Nat) : Prop := (∃ k, x.testBit k = true ∧ adj es k i) ∧ x.testBit i = false
theorem F56_eq (n N : Nat) (es : List (Int × Int)) (x : Nat) (h : Okay N es) (hx : x < 2 ^ N) (hn : 200 < n) : ∃ w, F56 n (N : Int) es x = some w ∧ w < 2 ^ 64 ∧ ∀ i, w.testBit i = true ↔ nbP es x i := by
 have hx64 := lt64 hx h.le
 obtain ⟨L, hL, hlen, hw⟩ := F75_eq n N es h hn
 unfold F56
 rw [hL, ob_s, ob_s]
 have hat : ∀ k, x.testBit k = true → ∃ w, L[k]? = some w ∧ L.getD k 0 = w ∧ w < 2 ^ 64 ∧ ∀ i, w.testBit i = true ↔ adj es k i := fun k hk => by
  obtain ⟨w, h1, h2, h3⟩ := hw k (tb_ltN hx hk)
  exact ⟨w, h1, by simp [List.getD, h1], h2, h3⟩
 have := lp_bits (body := L56_1 n L) (fun (r s : Nat) => (r, s)) (fun s k => s ||| L.getD k 0) id (fun s => s < 2 ^ 64) x (fun r s h0 hr hb hs => ?_) (fun s _ => ?_) n x 0 hx64 (fun i hi => hi) (by decide) (by have := bitsOf_len x; omega)
 ·simp only [this, ob_s, id_eq]
  have hlt := foldl_or_lt (fun k => L.getD k 0) (bitsOf x) 0 (by decide) fun k hk => by
   obtain ⟨w, _, h2, h3, _⟩ := hat k ((mem_bitsOf hx64).1 hk)
   rw [h2]; exact h3
  refine ⟨_, rfl, andn_lt hlt hx64, fun i => ?_⟩
  rw [tb_andn hlt hx64, Bool.and_eq_true, foldl_or, nbP]
  simp only [Nat.zero_testBit, Bool.false_eq_true, false_or, Bool.not_eq_true', mem_bitsOf hx64]
  constructor
  ·rintro ⟨⟨k, hk, h1⟩, h2⟩
   obtain ⟨w, _, e, _, h3⟩ := hat k hk
   rw [e] at h1
   exact ⟨⟨k, hk, (h3 i).1 h1⟩, h2⟩
  ·rintro ⟨⟨k, hk, h1⟩, h2⟩
   obtain ⟨w, _, e, _, h3⟩ := hat k hk
   exact ⟨⟨k, hk, by rw [e]; exact (h3 i).2 h1⟩, h2⟩
 ·obtain ⟨w, h1, h2, h3, h4⟩ := hat _ hb
  have hkN := tb_ltN hx hb
  refine ⟨?_, by rw [h2]; exact or_lt' hs h3⟩
  simp only [L56_1, F42_eq hr, ob_s, Int.toNat_natCast, h1, h2, word_or hs h3]
  rw [show (!decide (r = 0)) = true by simp; omega, br_t, inB_nat (by omega), gd_t]
  rfl
 ·simp only [L56_1]
  rfl
end Go.Proofs.YtpclggcpobakhaaDoor
end

section
namespace Go.Proofs.YtpclggcpobakhaaDoor
open Go Go.Ab Go.Ab.W
inductive Rch (es : List (Int × Int)) (S : Nat) (i : Nat) : Nat → Prop
 | refl : Rch es S i i
 | step {j k : Nat} (h : Rch es S i j) (ha : adj es j k) (hk : S.testBit k = true) : Rch es S i k
theorem Rch.mem {es : List (Int × Int)} {S i j : Nat} (h : Rch es S i j) (hi : S.testBit i = true) : S.testBit j = true := by
 cases h with
 | refl => exact hi
 | step _ _ hk => exact hk
theorem Rch.trans {es : List (Int × Int)} {S i j k : Nat} (h : Rch es S i j) (h' : Rch es S j k) : Rch es S i k := by
 induction h' with
 | refl => exact h
 | step _ ha hk ih => exact .step ih ha hk
theorem Rch.symm {es : List (Int × Int)} {S i j : Nat} (h : Rch es S i j) (hi : S.testBit i = true) : Rch es S j i := by
 induction h with
 | refl => exact .refl
 | step h' ha _ ih => exact Rch.trans (.step .refl (adj_symm ha) (h'.mem hi)) ih
def IsCl (es : List (Int × Int)) (S i w : Nat) : Prop := w < 2 ^ 64 ∧ ∀ j, w.testBit j = true ↔ Rch es S i j
theorem IsCl.of {es : List (Int × Int)} {S i w : Nat} (hw : w < 2 ^ 64) (hi : w.testBit i = true) (hr : ∀ j, w.testBit j = true → Rch es S i j) (hc : ∀ j k, w.testBit j = true → adj es j k → S.testBit k = true → w.testBit k = true) : IsCl es S i w := by
 refine ⟨hw, fun j => ⟨hr j, fun h => ?_⟩⟩
 induction h with
 | refl => exact hi
 | step _ ha hk ih => exact hc _ _ ih ha hk
inductive Cs (es : List (Int × Int)) (S : Nat) : Nat → List Nat → Prop
 | nil : Cs es S 0 []
 | cons {r w : Nat} {L : List Nat} (h0 : 0 < r) (hr : r < 2 ^ 64) (hw : IsCl es S (tz r) w) (t : Cs es S (uandn .u64 r w) L) : Cs es S r (w :: L)
def cnt (x : Nat) : Nat := (bitsOf x).length
theorem filter_le {p q : Nat → Bool} : ∀ {l : List Nat}, (∀ i ∈ l, p i = true → q i = true) → (l.filter p).length ≤ (l.filter q).length
 | [], _ => Nat.le_refl _
 | x :: l, h => by
  have ih := filter_le (p := p) (q := q) (l := l) fun i hi => h i (by simp [hi])
  by_cases hp : p x = true
  ·rw [List.filter_cons_of_pos hp, List.filter_cons_of_pos (h x (by simp) hp)]
   simp only [List.length_cons]; omega
  ·rw [List.filter_cons_of_neg hp]
   by_cases hq : q x = true
   ·rw [List.filter_cons_of_pos hq, List.length_cons]; omega
   ·rw [List.filter_cons_of_neg hq]; exact ih
theorem filter_lt {p q : Nat → Bool} {a : Nat} : ∀ {l : List Nat}, a ∈ l → (∀ i ∈ l, p i = true → q i = true) → p a = false → q a = true → (l.filter p).length < (l.filter q).length
 | x :: l, ha, h, h1, h2 => by
  by_cases hx : x = a
  ·subst hx
   rw [List.filter_cons_of_neg (by rw [h1]; decide), List.filter_cons_of_pos h2, List.length_cons]
   have := filter_le (p := p) (q := q) (l := l) fun i hi => h i (by simp [hi])
   omega
  ·have ha' : a ∈ l := by
    rcases List.mem_cons.1 ha with e | e
    ·exact absurd e.symm hx
    ·exact e
   have ih := filter_lt ha' (fun i hi => h i (by simp [hi])) h1 h2
   by_cases hp : p x = true
   ·rw [List.filter_cons_of_pos hp, List.filter_cons_of_pos (h x (by simp) hp)]
    simp only [List.length_cons]; omega
   ·rw [List.filter_cons_of_neg hp]
    by_cases hq : q x = true
    ·rw [List.filter_cons_of_pos hq, List.length_cons]; omega
    ·rw [List.filter_cons_of_neg hq]; exact ih
theorem cnt_lt {a b i : Nat} (hb : b < 2 ^ 64) (h : ∀ i, a.testBit i = true → b.testBit i = true) (h1 : a.testBit i = false) (h2 : b.testBit i = true) : cnt a < cnt b :=
 filter_lt (by have := tb_lt hb h2; simpa using this) (fun i _ h' => h i h') h1 h2
def rnd1 (S : Nat) (v : Nat) (e : Int × Int) : Nat := if S.testBit e.1.toNat && S.testBit e.2.toNat && (v.testBit e.1.toNat || v.testBit e.2.toNat) then v ||| 2 ^ e.1.toNat ||| 2 ^ e.2.toNat else v
theorem L71_body (n : Nat) (es : List (Int × Int)) (S v k a b : Nat) (hS : S < 2 ^ 64) (hv : v < 2 ^ 64) (he : es[k]? = some ((a : Int), (b : Int))) (ha : a < 64) (hb : b < 64) (hk : k < 200) :
  L71_1 n es (-1) S (v, (k : Int)) = some (.inl (rnd1 S v ((a : Int), (b : Int)), ((k + 1 : Nat) : Int))) := by
 have hlt : k < es.length := (List.getElem?_eq_some_iff.1 he).1
 have h1 : uw .u64 (uw .u64 (uw .u64 (uw .u64 v ||| uw .u64 (2 ^ a))) ||| uw .u64 (2 ^ b)) = v ||| 2 ^ a ||| 2 ^ b := by rw [word_or hv (one_lt ha), word_or (or_lt' hv (one_lt ha)) (one_lt hb)]
 have hne : (!decide ((k : Int) = -1)) = true := by rw [decide_eq_false (by omega)]; rfl
 unfold L71_1
 simp only [Int.toNat_natCast, he, ob_s, F67_eq n S a hS ha, F67_eq n S b hS hb, F67_eq n v a hv ha, F67_eq n v b hv hb, F68_eq n a ha, F68_eq n b hb, inB_nat hlt, gd_t, wrap_succ (show k < 4611686018427387904 by omega), hne, br_t, h1]
 rw [br_dt (by omega)]
 unfold rnd1
 simp only [Int.toNat_natCast]
 rcases Bool.eq_false_or_eq_true (S.testBit a) with e1 | e1 <;> rcases Bool.eq_false_or_eq_true (S.testBit b) with e2 | e2 <;> rcases Bool.eq_false_or_eq_true (v.testBit a) with e3 | e3 <;> rcases Bool.eq_false_or_eq_true (v.testBit b) with e4 | e4 <;>
  simp only [e1, e2, e3, e4, br_t, br_f, ob_s, Bool.and_self, Bool.and_true, Bool.and_false, Bool.true_and, Bool.or_self, Bool.or_true, Bool.or_false, Bool.true_or, if_true, Bool.false_eq_true, if_false]
theorem rnd1_lt {S v : Nat} {a b : Nat} (hv : v < 2 ^ 64) (ha : a < 64) (hb : b < 64) : rnd1 S v ((a : Int), (b : Int)) < 2 ^ 64 := by
 unfold rnd1
 simp only [Int.toNat_natCast]
 split
 ·exact or_lt' (or_lt' hv (one_lt ha)) (one_lt hb)
 ·exact hv
theorem rnd1_bit {S v a b i : Nat} : (rnd1 S v ((a : Int), (b : Int))).testBit i = true ↔ v.testBit i = true ∨ ((S.testBit a = true ∧ S.testBit b = true ∧ (v.testBit a = true ∨ v.testBit b = true)) ∧ (i = a ∨ i = b)) := by
 unfold rnd1
 simp only [Int.toNat_natCast]
 split
 ·rename_i h
  simp only [Bool.and_eq_true, Bool.or_eq_true] at h
  rw [Nat.testBit_or, Nat.testBit_or, Bool.or_eq_true, Bool.or_eq_true, tb_one, tb_one, decide_eq_true_eq, decide_eq_true_eq]
  constructor
  ·rintro ((h1 | h1) | h1)
   ·exact .inl h1
   ·exact .inr ⟨⟨h.1.1, h.1.2, h.2⟩, .inl h1⟩
   ·exact .inr ⟨⟨h.1.1, h.1.2, h.2⟩, .inr h1⟩
  ·rintro (h1 | ⟨_, h1 | h1⟩)
   ·exact .inl (.inl h1)
   ·exact .inl (.inr h1)
   ·exact .inr h1
 ·rename_i h
  constructor
  ·exact .inl
  ·rintro (h1 | ⟨⟨h1, h2, h3⟩, _⟩)
   ·exact h1
   ·exact absurd (by simp [h1, h2, h3]) h
def rnd (es : List (Int × Int)) (S v : Nat) : Nat := es.foldl (rnd1 S) v
def inn (es : List (Int × Int)) (v : Nat) : Nat := (es.filter fun e => v.testBit e.1.toNat && v.testBit e.2.toNat).length
theorem inn_le (es : List (Int × Int)) (v : Nat) : inn es v ≤ es.length := List.length_filter_le _ _
theorem rnd_sub {S : Nat} : ∀ {es : List (Int × Int)} {v i : Nat}, (∀ e ∈ es, ∃ a b : Nat, e = ((a : Int), (b : Int)) ∧ a < 64 ∧ b < 64) → v.testBit i = true → (es.foldl (rnd1 S) v).testBit i = true
 | [], _, _, _, h => h
 | e :: es, v, i, hm, h => by
  obtain ⟨a, b, rfl, _, _⟩ := hm e (by simp)
  rw [List.foldl_cons]
  exact rnd_sub (fun e he => hm e (by simp [he])) (rnd1_bit.2 (.inl h))
theorem rnd_lt {S : Nat} : ∀ {es : List (Int × Int)} {v : Nat}, (∀ e ∈ es, ∃ a b : Nat, e = ((a : Int), (b : Int)) ∧ a < 64 ∧ b < 64) → v < 2 ^ 64 → es.foldl (rnd1 S) v < 2 ^ 64
 | [], _, _, h => h
 | e :: es, v, hm, h => by
  obtain ⟨a, b, rfl, ha, hb⟩ := hm e (by simp)
  rw [List.foldl_cons]
  exact rnd_lt (fun e he => hm e (by simp [he])) (rnd1_lt h ha hb)
theorem rnd_rch {es0 : List (Int × Int)} {S i : Nat} : ∀ {es : List (Int × Int)} {v : Nat}, (∀ e ∈ es, e ∈ es0 ∧ ∃ a b : Nat, e = ((a : Int), (b : Int)) ∧ a < 64 ∧ b < 64) → (∀ j, v.testBit j = true → Rch es0 S i j) → ∀ j, (es.foldl (rnd1 S) v).testBit j = true → Rch es0 S i j
 | [], _, _, h, j, hj => h j hj
 | e :: es, v, hm, h, j, hj => by
  obtain ⟨hin, a, b, rfl, ha, hb⟩ := hm e (by simp)
  rw [List.foldl_cons] at hj
  refine rnd_rch (fun e he => hm e (by simp [he])) (fun k hk => ?_) j hj
  rcases rnd1_bit.1 hk with h1 | ⟨⟨s1, s2, h1 | h1⟩, rfl | rfl⟩
  ·exact h k h1
  ·exact h _ h1
  ·exact .step (h a h1) (.inl hin) s2
  ·exact .step (h b h1) (.inr hin) s1
  ·exact h _ h1
theorem rnd_grow {S : Nat} {es : List (Int × Int)} (hm : ∀ e ∈ es, ∃ a b : Nat, e = ((a : Int), (b : Int)) ∧ a < 64 ∧ b < 64) (v : Nat) :
  (∀ e ∈ es, S.testBit e.1.toNat = true → S.testBit e.2.toNat = true → (v.testBit e.1.toNat = true ∨ v.testBit e.2.toNat = true) → v.testBit e.1.toNat = true ∧ v.testBit e.2.toNat = true) ∨ inn es v < inn es (rnd es S v) := by
 by_cases h : ∀ e ∈ es, S.testBit e.1.toNat = true → S.testBit e.2.toNat = true → (v.testBit e.1.toNat = true ∨ v.testBit e.2.toNat = true) → v.testBit e.1.toNat = true ∧ v.testBit e.2.toNat = true
 ·exact .inl h
 ·right
  obtain ⟨e, he, s1, s2, h1, h2⟩ : ∃ e, e ∈ es ∧ S.testBit e.1.toNat = true ∧ S.testBit e.2.toNat = true ∧ (v.testBit e.1.toNat = true ∨ v.testBit e.2.toNat = true) ∧ ¬ (v.testBit e.1.toNat = true ∧ v.testBit e.2.toNat = true) := by
   apply Classical.byContradiction
   intro hno
   refine h fun e he s1 s2 h1 => ?_
   apply Classical.byContradiction
   intro h2
   exact hno ⟨e, he, s1, s2, h1, h2⟩
  obtain ⟨l1, l2, rfl⟩ := List.append_of_mem he
  obtain ⟨a, b, rfl, ha, hb⟩ := hm e he
  simp only [Int.toNat_natCast] at s1 s2 h1 h2
  have hboth : (rnd (l1 ++ ((a : Int), (b : Int)) :: l2) S v).testBit a = true ∧ (rnd (l1 ++ ((a : Int), (b : Int)) :: l2) S v).testBit b = true := by
   unfold rnd
   rw [List.foldl_append, List.foldl_cons]
   have hm1 : ∀ e ∈ l1, ∃ a b : Nat, e = ((a : Int), (b : Int)) ∧ a < 64 ∧ b < 64 := fun e he => hm e (by simp [he])
   have hm2 : ∀ e ∈ l2, ∃ a b : Nat, e = ((a : Int), (b : Int)) ∧ a < 64 ∧ b < 64 := fun e he => hm e (by simp [he])
   have hc : (l1.foldl (rnd1 S) v).testBit a = true ∨ (l1.foldl (rnd1 S) v).testBit b = true := h1.imp (rnd_sub hm1) (rnd_sub hm1)
   exact ⟨rnd_sub hm2 (rnd1_bit.2 (.inr ⟨⟨s1, s2, hc⟩, .inl rfl⟩)), rnd_sub hm2 (rnd1_bit.2 (.inr ⟨⟨s1, s2, hc⟩, .inr rfl⟩))⟩
  generalize hes : l1 ++ ((a : Int), (b : Int)) :: l2 = es at hm he hboth ⊢
  unfold inn
  have key : ∀ (l : List (Int × Int)) (p q : Int × Int → Bool), (∀ e ∈ l, p e = true → q e = true) → (l.filter p).length ≤ (l.filter q).length ∧ ((∃ e ∈ l, p e = false ∧ q e = true) → (l.filter p).length < (l.filter q).length) := by
   intro l p q
   induction l with
   | nil => intro _; exact ⟨Nat.le_refl _, fun ⟨e, h, _⟩ => by cases h⟩
   | cons x l ih =>
    intro hpq
    obtain ⟨ih1, ih2⟩ := ih fun e he => hpq e (by simp [he])
    have hx := hpq x (by simp)
    by_cases hp : p x = true
    ·rw [List.filter_cons_of_pos hp, List.filter_cons_of_pos (hx hp)]
     refine ⟨by simp only [List.length_cons]; omega, fun ⟨e, he, h1, h2⟩ => ?_⟩
     rcases List.mem_cons.1 he with rfl | he
     ·rw [h1] at hp; cases hp
     ·have := ih2 ⟨e, he, h1, h2⟩
      simp only [List.length_cons]; omega
    ·rw [List.filter_cons_of_neg hp]
     by_cases hq : q x = true
     ·rw [List.filter_cons_of_pos hq, List.length_cons]
      exact ⟨by omega, fun _ => by omega⟩
     ·rw [List.filter_cons_of_neg hq]
      refine ⟨ih1, fun ⟨e, he, h1, h2⟩ => ?_⟩
      rcases List.mem_cons.1 he with rfl | he
      ·exact absurd h2 hq
      ·exact ih2 ⟨e, he, h1, h2⟩
  refine (key es _ _ fun e he' h => ?_).2 ⟨_, he, ?_, ?_⟩
  ·simp only [Bool.and_eq_true] at h ⊢
   exact ⟨rnd_sub hm h.1, rnd_sub hm h.2⟩
  ·simp only [Int.toNat_natCast]
   cases e1 : v.testBit a <;> cases e2 : v.testBit b <;> simp_all
  ·simp only [Int.toNat_natCast, hboth.1, hboth.2, Bool.and_self]
end Go.Proofs.YtpclggcpobakhaaDoor
end

section
namespace Go.Proofs.YtpclggcpobakhaaDoor
open Go Go.Ab Go.Ab.W
theorem Okay.mem64 {N : Nat} {es : List (Int × Int)} (h : Okay N es) : ∀ e ∈ es, ∃ a b : Nat, e = ((a : Int), (b : Int)) ∧ a < 64 ∧ b < 64 := fun e he => by
 obtain ⟨a, b, e1, h1, h2⟩ := h.mem e he
 have := h.le
 exact ⟨a, b, e1, by omega, by omega⟩
def Closed (es : List (Int × Int)) (S v : Nat) : Prop := ∀ e ∈ es, S.testBit e.1.toNat = true → S.testBit e.2.toNat = true → (v.testBit e.1.toNat = true ∨ v.testBit e.2.toNat = true) → v.testBit e.1.toNat = true ∧ v.testBit e.2.toNat = true
theorem rnd_closed {S v : Nat} : ∀ {es es0 : List (Int × Int)}, (∀ e ∈ es, e ∈ es0 ∧ ∃ a b : Nat, e = ((a : Int), (b : Int)) ∧ a < 64 ∧ b < 64) → Closed es0 S v → es.foldl (rnd1 S) v = v
 | [], _, _, _ => rfl
 | e :: es, es0, hm, h => by
  obtain ⟨hin, a, b, rfl, ha, hb⟩ := hm e (by simp)
  have h1 : rnd1 S v ((a : Int), (b : Int)) = v := word_ext fun i => by
   rw [rnd1_bit]
   constructor
   ·rintro (h1 | ⟨⟨s1, s2, h1⟩, rfl | rfl⟩)
    ·exact h1
    ·have := h _ hin (by simpa using s1) (by simpa using s2) (by simpa using h1)
     simpa using this.1
    ·have := h _ hin (by simpa using s1) (by simpa using s2) (by simpa using h1)
     simpa using this.2
   ·exact .inl
  rw [List.foldl_cons, h1]
  exact rnd_closed (fun e he => hm e (by simp [he])) h
theorem F71_eq (n N : Nat) (es : List (Int × Int)) (S i : Nat) (hok : Okay N es) (hS : S < 2 ^ N) (hi : S.testBit i = true) (hn : 200 < n) : ∃ w, F71 n (N : Int) es S ((i : Nat) : Int) (-1) = some w ∧ IsCl es S i w := by
 have hN := hok.le
 have hlen := hok.len
 have hS64 := lt64 hS hN
 have hi64 := tb_lt hS64 hi
 have hm := hok.mem64
 have hinner : ∀ v, v < 2 ^ 64 → lpN (L71_1 n es (-1) S) n (v, 0) = some (rnd es S v) := fun v hv => by
  have := lp_list0 (body := L71_1 n es (-1) S) es (fun (s : Nat) (k : Int) => (s, k)) (rnd1 S) id (fun _ s => s < 2 ^ 64) (fun s k e he hI => ?_) (fun s _ => ?_) (n := n) (s := v) hv (by omega)
  ·exact this.1
  ·have hk : k < es.length := (List.getElem?_eq_some_iff.1 he).1
   obtain ⟨a, b, rfl, ha, hb⟩ := hm e (List.mem_of_getElem? he)
   exact ⟨L71_body n es S s k a b hS64 hI he ha hb (by omega), rnd1_lt hI ha hb⟩
  ·simp only [L71_1]
   rw [br_df (by omega)]; rfl
 have hout := lp_upto (body := L71_2 n es (-1) S) es.length (fun (s : Nat) (k : Int) => (s, k)) (fun s _ => rnd es S s) id
  (fun k s => s < 2 ^ 64 ∧ s.testBit i = true ∧ (∀ j, s.testBit j = true → Rch es S i j) ∧ (Closed es S s ∨ k ≤ inn es s)) (fun s k hk hI => ?_) (fun s _ => ?_) (n := n) (s := 2 ^ i) ⟨one_lt hi64, by rw [tb_one]; simp, fun j hj => by
   rw [tb_one, decide_eq_true_eq] at hj; subst hj; exact .refl, .inr (Nat.zero_le _)⟩ (by omega)
 ·obtain ⟨h1, h2, h3, h4, h5⟩ := hout
  refine ⟨_, by unfold F71; rw [F68_eq n i hi64, ob_s]; simp only [h1, ob_s, id_eq]; rfl, ?_⟩
  have hcl : Closed es S ((List.range es.length).foldl (fun s _ => rnd es S s) (2 ^ i)) := by
   rcases h5 with h5 | h5
   ·exact h5
   ·intro e he _ _ _
    have hall : (es.filter fun e => ((List.range es.length).foldl (fun s _ => rnd es S s) (2 ^ i)).testBit e.1.toNat && ((List.range es.length).foldl (fun s _ => rnd es S s) (2 ^ i)).testBit e.2.toNat).length = es.length := Nat.le_antisymm (List.length_filter_le _ _) h5
    have := List.length_filter_eq_length_iff.1 hall e he
    simpa using this
  refine IsCl.of h2 h3 h4 fun j k hj ha hk => ?_
  have hjS := (h4 j hj).mem hi
  rcases ha with ha | ha
  ·have := hcl _ ha (by simpa using hjS) (by simpa using hk) (.inl (by simpa using hj))
   simpa using this.2
  ·have := hcl _ ha (by simpa using hk) (by simpa using hjS) (.inr (by simpa using hj))
   simpa using this.1
 ·obtain ⟨g1, g2, g3, g4⟩ := hI
  refine ⟨?_, rnd_lt hm g1, rnd_sub hm g2, rnd_rch (fun e he => ⟨he, hm e he⟩) g3, ?_⟩
  ·simp only [L71_2]
   rw [br_dt (by omega), hinner s g1, ob_s, wrap_succ (by omega)]
  ·rcases g4 with g4 | g4
   ·have e : rnd es S s = s := rnd_closed (fun e he => ⟨he, hm e he⟩) g4
    rw [e]; exact .inl g4
   ·rcases rnd_grow hm s with h | h
    ·have e : rnd es S s = s := rnd_closed (fun e he => ⟨he, hm e he⟩) h
     rw [e]; exact .inl h
    ·exact .inr (by omega)
 ·simp only [L71_2]
  rw [br_df (by omega)]; rfl
theorem andn_or {a b c : Nat} (ha : a < 2 ^ 64) (hb : b < 2 ^ 64) (hc : c < 2 ^ 64) : uandn .u64 a (b ||| c) = uandn .u64 (uandn .u64 a b) c := word_ext fun i => by
 rw [tb_andn ha (or_lt' hb hc), tb_andn (andn_lt ha hb) hc, tb_andn ha hb, Nat.testBit_or]
 cases a.testBit i <;> cases b.testBit i <;> cases c.testBit i <;> decide
theorem tz_unique {x i : Nat} (hx : x < 2 ^ 64) (hi : x.testBit i = true) (hl : ∀ j, x.testBit j = true → i ≤ j) : 0 < x ∧ tz x = i := by
 have h0 : 0 < x := by
  rcases Nat.eq_zero_or_pos x with h | h
  ·subst h; rw [Nat.zero_testBit] at hi; cases hi
  ·exact h
 obtain ⟨h1, h2⟩ := tz_bit h0 hx
 refine ⟨h0, ?_⟩
 rcases Nat.lt_trichotomy (tz x) i with h | h | h
 ·have := hl _ h1; omega
 ·exact h
 ·have := h2 i h; rw [hi] at this; cases this
theorem L70_eq (n N : Nat) (es : List (Int × Int)) (S : Nat) (hok : Okay N es) (hS : S < 2 ^ N) (hn : 200 < n) :
  ∀ (k i m : Nat) (acc : List Nat) (done : Nat), i + k = N → done < 2 ^ 64 → (∀ j, (uandn .u64 S done).testBit j = true → i ≤ j) → acc.length ≤ i → k < m →
   ∃ l, lpN (L70_1 n (N : Int) S es) m (acc, done, (i : Int)) = some (acc ++ l) ∧ Cs es S (uandn .u64 S done) l := by
 intro k
 have hN := hok.le
 have hS64 := lt64 hS hN
 induction k with
 | zero =>
  intro i m acc done hi hd hl ha hm
  obtain ⟨m, rfl⟩ : ∃ m', m = m' + 1 := ⟨m - 1, by omega⟩
  have hz : uandn .u64 S done = 0 := word_zero.2 fun j => by
   cases e : (uandn .u64 S done).testBit j with
   | false => rfl
   | true =>
    have h1 := hl j e
    rw [tb_andn hS64 hd, Bool.and_eq_true] at e
    have := tb_ltN hS e.1
    omega
  rw [hz]
  refine ⟨[], ?_, .nil⟩
  rw [List.append_nil]
  exact lp_end (by simp only [L70_1]; rw [br_df (by omega)])
 | succ k ih =>
  intro i m acc done hi hd hl ha hm
  obtain ⟨m, rfl⟩ : ∃ m', m = m' + 1 := ⟨m - 1, by omega⟩
  have hi64 : i < 64 := by omega
  have hbit := tb_andn hS64 hd i
  have hcond : (ob (ob (F67 n S (i : Int)) fun r140 => br r140 (ob (F67 n done (i : Int)) fun r143 => some (!r143)) (some false)) fun v138 => br v138 (ob (F71 n (N : Int) es S (i : Int) (-1)) fun r148 => gd (lim (acc ++ [r148]).length) (some ((acc ++ [r148]), uw .u64 (uw .u64 done ||| uw .u64 r148)))) (some (acc, done)))
    = br (S.testBit i && !done.testBit i) (ob (F71 n (N : Int) es S (i : Int) (-1)) fun r148 => gd (lim (acc ++ [r148]).length) (some ((acc ++ [r148]), uw .u64 (uw .u64 done ||| uw .u64 r148)))) (some (acc, done)) := by
   rw [F67_eq n S i hS64 hi64, F67_eq n done i hd hi64, ob_s]
   rcases Bool.eq_false_or_eq_true (S.testBit i) with h | h <;> simp only [h, br_t, br_f, ob_s, Bool.true_and, Bool.false_and]
  have hbody : L70_1 n (N : Int) S es (acc, done, (i : Int)) = ob (br (S.testBit i && !done.testBit i) (ob (F71 n (N : Int) es S (i : Int) (-1)) fun r148 => gd (lim (acc ++ [r148]).length) (some ((acc ++ [r148]), uw .u64 (uw .u64 done ||| uw .u64 r148)))) (some (acc, done))) fun x => some (.inl (x.1, x.2, ((i + 1 : Nat) : Int))) := by
   simp only [L70_1]
   rw [br_dt (by omega), hcond, wrap_succ (by omega)]
  by_cases hc : (S.testBit i && !done.testBit i) = true
  ·rw [hc, br_t] at hbody
   have hSi : S.testBit i = true := by simp only [Bool.and_eq_true] at hc; exact hc.1
   obtain ⟨w, h1, hw⟩ := F71_eq n N es S i hok hS hSi hn
   rw [h1, ob_s, lim_of (by simp; omega), gd_t, ob_s, word_or hd hw.1] at hbody
   rw [hc] at hbit
   obtain ⟨h0, htz⟩ := tz_unique (andn_lt hS64 hd) hbit hl
   have hwi : w.testBit i = true := (hw.2 i).2 .refl
   obtain ⟨l, h2, h3⟩ := ih (i + 1) m (acc ++ [w]) (done ||| w) (by omega) (or_lt' hd hw.1) (fun j hj => by
    rw [andn_or hS64 hd hw.1, tb_andn (andn_lt hS64 hd) hw.1, Bool.and_eq_true] at hj
    have := hl j hj.1
    have : j ≠ i := fun e => by subst e; rw [hwi] at hj; cases hj.2
    omega) (by simp; omega) (by omega)
   refine ⟨w :: l, ?_, ?_⟩
   ·rw [lp_next hbody, h2, List.append_assoc]; rfl
   ·rw [andn_or hS64 hd hw.1] at h3
    exact .cons h0 (andn_lt hS64 hd) (by rw [htz]; exact hw) h3
  ·rw [Bool.not_eq_true] at hc
   rw [hc, br_f, ob_s] at hbody
   rw [hc] at hbit
   obtain ⟨l, h2, h3⟩ := ih (i + 1) m acc done (by omega) hd (fun j hj => by
    have := hl j hj
    have : j ≠ i := fun e => by subst e; rw [hbit] at hj; cases hj
    omega) (by omega) (by omega)
   exact ⟨l, by rw [lp_next hbody, h2], h3⟩
theorem F70_eq (n N : Nat) (es : List (Int × Int)) (S : Nat) (hok : Okay N es) (hS : S < 2 ^ N) (hn : 200 < n) : ∃ l, F70 n (N : Int) es S = some l ∧ Cs es S S l := by
 have hN := hok.le
 have hS64 := lt64 hS hN
 have e : uandn .u64 S 0 = S := word_ext fun i => by rw [tb_andn hS64 (by decide), Nat.zero_testBit]; simp
 obtain ⟨l, h1, h2⟩ := L70_eq n N es S hok hS hn N 0 n [] 0 (by omega) (by decide) (fun j _ => Nat.zero_le j) (by simp) (by omega)
 rw [e] at h2
 refine ⟨l, ?_, h2⟩
 unfold F70
 have h1' : lpN (L70_1 n (N : Int) S es) n ([], 0, 0) = some l := h1
 rw [h1', ob_s]
theorem F29_eq (n : Nat) (N : Int) (es : List (Int × Int)) (x : Nat) (hx : x < 2 ^ 64) : ∃ y, F29 n N es x = some (x, y) ∧ y < 2 ^ 64 ∧ (1 ≤ N → N ≤ 63 → y = x % 2 ^ N.toNat) := by
 unfold F29
 by_cases h1 : N < 1
 ·rw [br_dt h1, ob_s, br_t]; exact ⟨x, rfl, hx, fun h => by omega⟩
 ·rw [br_df h1, ob_s]
  by_cases h2 : 63 < N
  ·rw [decide_eq_true h2, br_t]; exact ⟨x, rfl, hx, fun _ h => by omega⟩
  ·rw [decide_eq_false h2, br_f, decide_eq_true (show (0 : Int) ≤ N by omega), gd_t]
   obtain ⟨M, rfl⟩ := Int.eq_ofNat_of_zero_le (show 0 ≤ N by omega)
   have hM : M < 64 := by omega
   have hp := Nat.two_pow_pos M
   have hpl := one_lt hM
   have hs : usub .u64 (2 ^ M) 1 = 2 ^ M - 1 := by
    unfold usub
    rw [uM64, uw_id (show (1 : Nat) < 2 ^ 64 by decide)]
    show (2 ^ M + (2 ^ 64 - 1)) % 2 ^ 64 = 2 ^ M - 1
    omega
   rw [Int.toNat_natCast, word_one hM, hs, word_and hx (by omega), Nat.and_two_pow_sub_one_eq_mod]
   exact ⟨_, rfl, Nat.lt_of_le_of_lt (Nat.mod_le _ _) hx, fun _ _ => rfl⟩
end Go.Proofs.YtpclggcpobakhaaDoor
end

section
namespace Go.Proofs.YtpclggcpobakhaaDoor.Dfs
inductive RP (A : Nat → Nat → Prop) (P : Nat → Prop) (i : Nat) : Nat → Prop
 | refl : RP A P i i
 | step {j k : Nat} (h : RP A P i j) (ha : A j k) (hk : P k) : RP A P i k
section
variable {A A' : Nat → Nat → Prop} {P P' : Nat → Prop} {i j k : Nat}
theorem RP.trans (h : RP A P i j) (h' : RP A P j k) : RP A P i k := by
 induction h' with
 | refl => exact h
 | step _ ha hk ih => exact .step ih ha hk
theorem RP.one (ha : A i j) (hj : P j) : RP A P i j := .step .refl ha hj
theorem RP.mem (h : RP A P i j) (hi : P i) : P j := by
 cases h with
 | refl => exact hi
 | step _ _ hk => exact hk
theorem RP.symm (hs : ∀ x y, A x y → A y x) (h : RP A P i j) (hi : P i) : RP A P j i := by
 induction h with
 | refl => exact .refl
 | step h' ha _ ih => exact (RP.one (hs _ _ ha) (h'.mem hi)).trans ih
theorem RP.map (h : RP A P i j) (hi : P i) (hA : ∀ x y, P x → P y → A x y → A' x y) (hP : ∀ x, P x → P' x) : RP A' P' i j := by
 induction h with
 | refl => exact .refl
 | step h' ha hk ih => exact .step ih (hA _ _ (h'.mem hi) hk ha) (hP _ hk)
theorem RP.mono (h : RP A P i j) (hP : ∀ x, P x → P' x) : RP A P' i j := by
 induction h with
 | refl => exact .refl
 | step h' ha hk ih => exact .step ih ha (hP _ hk)
theorem RP.closed {Q : Nat → Prop} (h : RP A P i j) (hi : Q i) (hc : ∀ x y, Q x → A x y → P y → Q y) : Q j := by
 induction h with
 | refl => exact hi
 | step h' ha hk ih => exact hc _ _ ih ha hk
end
def cutE (A : Nat → Nat → Prop) (a b : Nat) (x y : Nat) : Prop := A x y ∧ ¬ (x = a ∧ y = b) ∧ ¬ (x = b ∧ y = a)
def Bridge (A : Nat → Nat → Prop) (a b : Nat) : Prop := ¬ RP (cutE A a b) (fun _ => True) a b
def Cut (A : Nat → Nat → Prop) (v : Nat) : Prop := ∃ a b, A v a ∧ A v b ∧ ¬ RP A (fun x => x ≠ v) a b
theorem cutE_symm {A : Nat → Nat → Prop} (hs : ∀ x y, A x y → A y x) {a b : Nat} : ∀ x y, cutE A a b x y → cutE A a b y x := fun x y h => ⟨hs _ _ h.1, fun e => h.2.2 ⟨e.2, e.1⟩, fun e => h.2.1 ⟨e.2, e.1⟩⟩
theorem cutE_comm {A : Nat → Nat → Prop} {a b : Nat} {x y : Nat} : cutE A a b x y ↔ cutE A b a x y := ⟨fun h => ⟨h.1, h.2.2, h.2.1⟩, fun h => ⟨h.1, h.2.2, h.2.1⟩⟩
theorem Bridge.comm {A : Nat → Nat → Prop} (hs : ∀ x y, A x y → A y x) {a b : Nat} : Bridge A a b ↔ Bridge A b a := by
 have key : ∀ {a b : Nat}, RP (cutE A a b) (fun _ => True) a b → RP (cutE A b a) (fun _ => True) b a := fun h => (h.symm (cutE_symm hs) trivial).map trivial (fun _ _ _ _ h => cutE_comm.1 h) fun _ h => h
 exact ⟨fun h h' => h (key h'), fun h h' => h (key h')⟩
structure Sg where
 m : Nat → Int
 lo : Nat → Int
 b : Nat → Nat → Prop
 cu : Nat → Prop
 c : Int
section
variable {A : Nat → Nat → Prop} {N S : Nat → Prop} {Act fr D : Nat → Prop} {n k : Nat} {s s0 s2 s3 : Sg} {kids : Int}
structure Inv (S : Nat → Prop) (s : Sg) : Prop where
 pos : ∀ x, 0 ≤ s.m x ∧ s.m x ≤ s.c
 inS : ∀ x, 0 < s.m x → S x
 bs : ∀ x y, s.b x y → s.b y x
 bv : ∀ x y, s.b x y → 0 < s.m x
 cv : ∀ x, s.cu x → 0 < s.m x
theorem Inv.c0 (h : Inv S s) : 0 ≤ s.c := by have := h.pos 0; omega
structure Pre (A : Nat → Nat → Prop) (S Act fr : Nat → Prop) (n : Nat) (s : Sg) : Prop extends Inv S s where
 act : ∀ w, Act w → 0 < s.m w
 conn : ∀ w w', Act w → Act w' → RP A Act w w'
 fin : ∀ w x, 0 < s.m w → ¬ Act w → A w x → 0 < s.m x
 new : s.m n = 0
 nS : S n
 frA : ∀ p, fr p → Act p ∧ A n p
 root : ∀ w, Act w → ∃ p, fr p
 fr1 : ∀ p q, fr p → fr q → p = q
def New (s s' : Sg) (x : Nat) : Prop := 0 < s'.m x ∧ ¬ 0 < s.m x
structure Post (A : Nat → Nat → Prop) (S fr : Nat → Prop) (n : Nat) (s s' : Sg) : Prop extends Inv S s' where
 ext : ∀ x, 0 < s.m x → s'.m x = s.m x
 newc : ∀ x, New s s' x → s.c < s'.m x
 nn : s'.m n = s.c + 1
 con : ∀ u, New s s' u → RP A (New s s') n u
 fin : ∀ u x, New s s' u → A u x → 0 < s'.m x
 low : ∀ t, t ≤ s.c → (s'.lo n ≤ t ↔ ∃ u w, New s s' u ∧ A u w ∧ 0 < s.m w ∧ s.m w ≤ t ∧ ¬ (u = n ∧ fr w))
 loo : ∀ x, 0 < s.m x → s'.lo x = s.lo x
 bj : ∀ u w, New s s' u → A u w → ¬ (u = n ∧ fr w) → (s'.b u w ↔ Bridge A u w)
 bo : ∀ x y, ¬ New s s' x → ¬ New s s' y → (s'.b x y ↔ s.b x y)
 bf : ∀ p, fr p → ¬ s'.b n p
 cj : ∀ u, New s s' u → (s'.cu u ↔ Cut A u)
 co : ∀ x, ¬ New s s' x → (s'.cu x ↔ s.cu x)
structure LI (A : Nat → Nat → Prop) (S Act fr : Nat → Prop) (n : Nat) (s0 : Sg) (D : Nat → Prop) (s : Sg) (kids : Int) : Prop extends Inv S s where
 ext : ∀ x, 0 < s0.m x → s.m x = s0.m x
 newc : ∀ x, New s0 s x → s0.c < s.m x
 nn : s.m n = s0.c + 1
 con : ∀ u, New s0 s u → RP A (New s0 s) n u
 fin : ∀ u x, New s0 s u → u ≠ n → A u x → 0 < s.m x
 dv : ∀ w, D w → 0 < s.m w
 lon : s.lo n ≤ s0.c + 1
 low : ∀ t, t ≤ s0.c → (s.lo n ≤ t ↔ ∃ u w, A u w ∧ 0 < s0.m w ∧ s0.m w ≤ t ∧ ((New s0 s u ∧ u ≠ n) ∨ (u = n ∧ D w ∧ ¬ fr w)))
 loo : ∀ x, 0 < s0.m x → s.lo x = s0.lo x
 bj : ∀ u w, A u w → ((New s0 s u ∧ u ≠ n) ∨ (u = n ∧ D w ∧ ¬ fr w)) → (s.b u w ↔ Bridge A u w)
 bo : ∀ x y, ¬ New s0 s x → ¬ New s0 s y → (s.b x y ↔ s0.b x y)
 bn : ∀ w, ¬ New s0 s w → ¬ (D w ∧ ¬ fr w) → ¬ s.b n w
 cj : ∀ u, New s0 s u → u ≠ n → (s.cu u ↔ Cut A u)
 co : ∀ x, ¬ New s0 s x → (s.cu x ↔ s0.cu x)
 cn : (∃ p, fr p) → (s.cu n ∧ Cut A n) ∨ (¬ s.cu n ∧ ∀ u, New s0 s u → u ≠ n → ∃ w, Act w ∧ RP A (fun x => x ≠ n) u w)
 cr : (¬ ∃ p, fr p) → ¬ s.cu n ∧ ((kids = 0 ∧ ∀ u, New s0 s u → u = n) ∨ (kids = 1 ∧ (∃ q, A n q ∧ New s0 s q) ∧ ∀ u u', New s0 s u → u ≠ n → New s0 s u' → u' ≠ n → RP A (fun x => x ≠ n) u u') ∨ (2 ≤ kids ∧ Cut A n))
 kid : 0 ≤ kids ∧ kids ≤ s.c
theorem LI.newn (hp : Pre A S Act fr n s0) (h : LI A S Act fr n s0 D s kids) : New s0 s n := ⟨by rw [h.nn]; have := hp.c0; omega, by rw [hp.new]; omega⟩
theorem LI.cle (h : LI A S Act fr n s0 D s kids) : s0.c + 1 ≤ s.c := by have := (h.pos n).2; rw [h.nn] at this; exact this
theorem LI.vis (h : LI A S Act fr n s0 D s kids) {x : Nat} (hx : 0 < s0.m x) : 0 < s.m x := by rw [h.ext x hx]; exact hx
theorem LI.start (hp : Pre A S Act fr n s0) (hs : ∀ x y, A x y → A y x) (h1 : ∀ x, s.m x = if x = n then s0.c + 1 else s0.m x) (h2 : ∀ x, s.lo x = if x = n then s0.c + 1 else s0.lo x) (h3 : s.b = s0.b) (h4 : s.cu = s0.cu) (h5 : s.c = s0.c + 1) : LI A S Act fr n s0 (fun _ => False) s 0 := by
 have hc := hp.c0
 have hne : ∀ x, 0 < s0.m x → x ≠ n := fun x hx e => by rw [e, hp.new] at hx; omega
 have hold : ∀ x, 0 < s0.m x → s.m x = s0.m x := fun x hx => by rw [h1, if_neg (hne x hx)]
 have hnew : ∀ x, New s0 s x → x = n := fun x hx => by
  by_cases e : x = n
  ·exact e
  ·have := hx.1; rw [h1, if_neg e] at this; exact absurd this hx.2
 have hmn : s.m n = s0.c + 1 := by rw [h1, if_pos rfl]
 refine { pos := fun x => ?_, inS := fun x hx => ?_, bs := by rw [h3]; exact hp.bs, bv := fun x y hb => ?_, cv := fun x hb => ?_, ext := hold, newc := fun x hx => ?_, nn := hmn, con := fun u hu => ?_, fin := fun u x hu he => absurd (hnew u hu) he, dv := fun w h => h.elim, lon := ?_, low := fun t ht => ⟨fun h => ?_, fun ⟨u, w, a, b, c, d⟩ => ?_⟩, loo := fun x hx => by rw [h2, if_neg (hne x hx)], bj := fun u w _ h => ?_, bo := fun x y _ _ => by rw [h3], bn := fun w _ _ hb => ?_, cj := fun u hu he => absurd (hnew u hu) he, co := fun x _ => by rw [h4], cn := fun _ => .inr ⟨fun hb => ?_, fun u hu he => absurd (hnew u hu) he⟩, cr := fun _ => ⟨fun hb => ?_, .inl ⟨rfl, hnew⟩⟩, kid := ⟨Int.le_refl _, by omega⟩ }
 ·rw [h1, h5]; have := hp.pos x; split <;> omega
 ·by_cases e : x = n
  ·rw [e]; exact hp.nS
  ·rw [h1, if_neg e] at hx; exact hp.inS x hx
 ·rw [h3] at hb; have := hp.bv x y hb; rw [hold x this]; exact this
 ·rw [h4] at hb; have := hp.cv x hb; rw [hold x this]; exact this
 ·rw [hnew x hx, hmn]; omega
 ·rw [hnew u hu]; exact .refl
 ·rw [h2, if_pos rfl]; omega
 ·rw [h2, if_pos rfl] at h; omega
 ·rcases d with ⟨d, e⟩ | ⟨_, d, _⟩
  ·exact absurd (hnew u d) e
  ·exact d.elim
 ·rcases h with ⟨d, e⟩ | ⟨_, d, _⟩
  ·exact absurd (hnew u d) e
  ·exact d.elim
 ·rw [h3] at hb; have := hp.bv n w hb; rw [hp.new] at this; omega
 ·rw [h4] at hb; have := hp.cv n hb; rw [hp.new] at this; omega
 ·rw [h4] at hb; have := hp.cv n hb; rw [hp.new] at this; omega
theorem LI.skip (hp : Pre A S Act fr n s0) (h : LI A S Act fr n s0 D s kids) (hk : fr k) : LI A S Act fr n s0 (fun x => D x ∨ x = k) s kids := by
 have e : ∀ w, (D w ∧ ¬ fr w) ↔ ((D w ∨ w = k) ∧ ¬ fr w) := fun w => ⟨fun a => ⟨.inl a.1, a.2⟩, fun a => ⟨a.1.elim id fun e => absurd (by rw [e]; exact hk) a.2, a.2⟩⟩
 exact { h with
  dv := fun w hw => hw.elim (h.dv w) fun e => by rw [e]; exact h.vis (hp.act k (hp.frA k hk).1)
  low := fun t ht => (h.low t ht).trans ⟨fun ⟨u, w, a, b, c, d⟩ => ⟨u, w, a, b, c, d.imp id fun d => ⟨d.1, (e w).1 d.2⟩⟩, fun ⟨u, w, a, b, c, d⟩ => ⟨u, w, a, b, c, d.imp id fun d => ⟨d.1, (e w).2 d.2⟩⟩⟩
  bj := fun u w ha hd => h.bj u w ha (hd.imp id fun d => ⟨d.1, (e w).2 d.2⟩)
  bn := fun w hw hd => h.bn w hw fun a => hd ((e w).1 a) }
theorem Pre.mustAct (hs : ∀ x y, A x y → A y x) (hp : Pre A S Act fr n s0) {w u : Nat} (hw : 0 < s0.m w) (ha : A u w) (hu : ¬ 0 < s0.m u) : Act w := by
 by_cases h : Act w
 ·exact h
 ·exact absurd (hp.fin w u hw h (hs _ _ ha)) hu
theorem ne_of (hi : ∀ x, ¬ A x x) {a b : Nat} (h : A a b) : a ≠ b := fun e => hi a (e ▸ h)
theorem LI.met (hs : ∀ x y, A x y → A y x) (hi : ∀ x, ¬ A x x) (hp : Pre A S Act fr n s0) (h : LI A S Act fr n s0 D s kids) (ha : A n k) (hk : 0 < s.m k) (hf : ¬ fr k) (hD : ¬ D k)
  (g1 : s3.m = s.m) (g2 : ∀ x, s3.lo x = if x = n then (if s.m k < s.lo n then s.m k else s.lo n) else s.lo x) (g3 : s3.b = s.b) (g4 : s3.cu = s.cu) (g5 : s3.c = s.c) : LI A S Act fr n s0 (fun x => D x ∨ x = k) s3 kids := by
 have hN : New s0 s3 = New s0 s := by funext x; unfold New; rw [g1]
 have hnk : n ≠ k := ne_of hi ha
 have hunn : ¬ 0 < s0.m n := by rw [hp.new]; omega
 have judge : s.b n k ↔ Bridge A n k := by
  by_cases hkn : 0 < s0.m k
  ·have hA := hp.mustAct hs hkn ha hunn
   obtain ⟨p, hfp⟩ := hp.root k hA
   obtain ⟨hpA, hnp⟩ := hp.frA p hfp
   have hpk : p ≠ k := fun e => hf (e ▸ hfp)
   have hb : ¬ s.b n k := h.bn k (fun hx => hx.2 hkn) fun a => hD a.1
   refine ⟨fun x => absurd x hb, fun hB => absurd ?_ hB⟩
   have r1 : RP (cutE A n k) (fun _ => True) n p := .one ⟨hnp, fun e => hpk e.2, fun e => hnk e.1⟩ trivial
   have r2 : RP (cutE A n k) (fun _ => True) p k := (hp.conn p k hpA hA).map hpA (fun x y hx hy hxy => ⟨hxy, fun e => hunn (by rw [← e.1]; exact hp.act x hx), fun e => hunn (by rw [← e.2]; exact hp.act y hy)⟩) fun _ _ => trivial
   exact r1.trans r2
  ·have := h.bj k n (hs _ _ ha) (.inl ⟨⟨hk, hkn⟩, hnk.symm⟩)
   rw [Bridge.comm hs, ← this]
   exact ⟨h.bs _ _, h.bs _ _⟩
 refine { pos := by rw [g1, g5]; exact h.pos, inS := by rw [g1]; exact h.inS, bs := by rw [g3]; exact h.bs, bv := by rw [g1, g3]; exact h.bv, cv := by rw [g1, g4]; exact h.cv, ext := by rw [g1]; exact h.ext, newc := by rw [hN, g1]; exact h.newc, nn := by rw [g1]; exact h.nn, con := by rw [hN]; exact h.con, fin := by rw [hN, g1]; exact h.fin, dv := fun w hw => ?_, lon := ?_, low := fun t ht => ?_, loo := fun x hx => ?_, bj := fun u w huw hd => ?_, bo := by rw [hN, g3]; exact h.bo, bn := fun w hw hd => ?_, cj := by rw [hN, g4]; exact h.cj, co := by rw [hN, g4]; exact h.co, cn := by rw [hN, g4]; exact h.cn, cr := by rw [hN, g4]; exact h.cr, kid := by rw [g5]; exact h.kid }
 ·rw [g1]; exact hw.elim (h.dv w) fun e => by rw [e]; exact hk
 ·rw [g2, if_pos rfl]; have := h.lon; split <;> omega
 ·have e1 : s3.lo n ≤ t ↔ s.m k ≤ t ∨ s.lo n ≤ t := by rw [g2, if_pos rfl]; split <;> omega
  rw [e1, h.low t ht, hN]
  constructor
  ·rintro (hkt | ⟨u, w, a, b, c, d⟩)
   ·have hkn : 0 < s0.m k := by
     by_cases hx : 0 < s0.m k
     ·exact hx
     ·have := h.newc k ⟨hk, hx⟩; omega
    exact ⟨n, k, ha, hkn, by rw [← h.ext k hkn]; exact hkt, .inr ⟨rfl, .inr rfl, hf⟩⟩
   ·exact ⟨u, w, a, b, c, d.imp id fun d => ⟨d.1, .inl d.2.1, d.2.2⟩⟩
  ·rintro ⟨u, w, a, b, c, d | ⟨d1, d2 | d2, d3⟩⟩
   ·exact .inr ⟨u, w, a, b, c, .inl d⟩
   ·exact .inr ⟨u, w, a, b, c, .inr ⟨d1, d2, d3⟩⟩
   ·subst d2; exact .inl (by rw [h.ext w b]; exact c)
 ·have hxn : x ≠ n := fun e => hunn (e ▸ hx)
  rw [g2, if_neg hxn]; exact h.loo x hx
 ·rw [hN] at hd
  rw [g3]
  rcases hd with d | ⟨d1, d2 | d2, d3⟩
  ·exact h.bj u w huw (.inl d)
  ·exact h.bj u w huw (.inr ⟨d1, d2, d3⟩)
  ·subst d1 d2; exact judge
 ·rw [hN] at hw
  rw [g3]
  exact h.bn w hw fun a => hd ⟨.inl a.1, a.2⟩
theorem LI.child_pre (hs : ∀ x y, A x y → A y x) (hi : ∀ x, ¬ A x x) (hp : Pre A S Act fr n s0) (h : LI A S Act fr n s0 D s kids) (ha : A n k) (hk : s.m k = 0) (hkS : S k) : Pre A S (fun x => Act x ∨ x = n) (fun x => x = n) k s := by
 have hc := hp.c0
 have hnA : ∀ w, Act w → RP A (fun x => Act x ∨ x = n) n w := fun w hw => by
  obtain ⟨p, hfp⟩ := hp.root w hw
  obtain ⟨hpA, hnp⟩ := hp.frA p hfp
  exact (RP.one hnp (.inl hpA)).trans ((hp.conn p w hpA hw).mono fun _ => .inl)
 refine { h.toInv with act := fun w hw => ?_, conn := fun w w' hw hw' => ?_, fin := fun w x hw hna hwx => ?_, new := hk, nS := hkS, frA := fun p e => ?_, root := fun _ _ => ⟨n, rfl⟩, fr1 := fun p q e f => e.trans f.symm }
 ·rcases hw with hw | rfl
  ·exact h.vis (hp.act w hw)
  ·rw [h.nn]; omega
 ·rcases hw with hw | rfl
  ·rcases hw' with hw' | rfl
   ·exact (hp.conn w w' hw hw').mono fun _ => .inl
   ·exact (hnA w hw).symm hs (.inr rfl)
  ·rcases hw' with hw' | rfl
   ·exact hnA w' hw'
   ·exact .refl
 ·by_cases h0 : 0 < s0.m w
  ·exact h.vis (hp.fin w x h0 (fun a => hna (.inl a)) hwx)
  ·exact h.fin w x ⟨hw, h0⟩ (fun e => hna (.inr e)) hwx
 ·subst e; exact ⟨.inr rfl, hs _ _ ha⟩
theorem LI.child (hs : ∀ x y, A x y → A y x) (hi : ∀ x, ¬ A x x) (hp : Pre A S Act fr n s0) (h : LI A S Act fr n s0 D s kids) (ha : A n k) (hk : s.m k = 0) (hkS : S k) (h2 : Post A S (fun x => x = n) k s s2)
  (g1 : s3.m = s2.m) (g2 : ∀ x, s3.lo x = if x = n then (if s2.lo k < s2.lo n then s2.lo k else s2.lo n) else s2.lo x) (g3 : ∀ x y, s3.b x y ↔ s2.b x y ∨ (s2.m n < s2.lo k ∧ ((x = n ∧ y = k) ∨ (x = k ∧ y = n)))) (g4 : ∀ x, s3.cu x ↔ s2.cu x ∨ (x = n ∧ (∃ p, fr p) ∧ s2.m n ≤ s2.lo k)) (g5 : s3.c = s2.c) : LI A S Act fr n s0 (fun x => D x ∨ x = k) s3 (kids + 1) := by
 have hc := hp.c0
 have hp2 := h.child_pre hs hi hp ha hk hkS
 have hnk : n ≠ k := ne_of hi ha
 have hun : ¬ 0 < s0.m n := by rw [hp.new]; omega
 have hvn : 0 < s.m n := by rw [h.nn]; omega
 have huk : ¬ 0 < s.m k := by omega
 have huk0 : ¬ 0 < s0.m k := fun hx => huk (h.vis hx)
 have v2 : ∀ x, 0 < s.m x → 0 < s2.m x := fun x hx => by rw [h2.ext x hx]; exact hx
 have hNk : New s s2 k := ⟨by rw [h2.nn]; have := h.c0; omega, huk⟩
 have hNn : ¬ New s s2 n := fun hx => hx.2 hvn
 have m2n : s2.m n = s0.c + 1 := by rw [h2.ext n hvn, h.nn]
 have hN : ∀ x, New s0 s3 x ↔ New s0 s x ∨ New s s2 x := fun x => by
  unfold New; rw [g1]
  constructor
  ·rintro ⟨a, b⟩
   by_cases hx : 0 < s.m x
   ·exact .inl ⟨hx, b⟩
   ·exact .inr ⟨a, hx⟩
  ·rintro (⟨a, b⟩ | ⟨a, b⟩)
   ·exact ⟨v2 x a, b⟩
   ·exact ⟨a, fun hx => b (h.vis hx)⟩
 have hNk3 : New s0 s3 k := (hN k).2 (.inr hNk)
 have hNn3 : New s0 s3 n := (hN n).2 (.inl (h.newn hp))
 have side : ∀ {u w : Nat}, New s s2 u → A u w → 0 < s.m w → Act w ∨ w = n := fun hu huw hw => hp2.mustAct (n := k) hs hw huw hu.2
 have side2 : ∀ {u w : Nat}, New s s2 u → A u w → New s s2 w ∨ (0 < s.m w ∧ (Act w ∨ w = n)) := fun {u w} hu huw => by
  by_cases hw : 0 < s.m w
  ·exact .inr ⟨hw, side hu huw hw⟩
  ·exact .inl ⟨h2.fin u w hu huw, hw⟩
 have actc : ∀ {w : Nat}, Act w → s.m w ≤ s0.c := fun {w} hw => by rw [h.ext w (hp.act w hw)]; exact (hp.pos w).2
 have l2n : s2.lo n = s.lo n := h2.loo n hvn
 have notfr : ¬ fr k := fun hf => huk0 (hp.act k (hp.frA k hf).1)
 have judge : s3.b n k ↔ Bridge A n k := by
  have e1 : s3.b n k ↔ s2.m n < s2.lo k := by
   rw [g3]
   constructor
   ·rintro (hb | hb)
    ·exact absurd (h2.bs _ _ hb) (h2.bf n rfl)
    ·exact hb.1
   ·exact fun hb => .inr ⟨hb, .inl ⟨rfl, rfl⟩⟩
  have e2 := h2.low (s0.c + 1) h.cle
  rw [e1, m2n]
  constructor
  ·intro hlt hr
   have hcl : ∀ x y, New s s2 x → cutE A n k y x ∨ cutE A n k x y → True → New s s2 y := by
    intro x y hx hxy _
    have hxy' : A x y ∧ ¬ (x = k ∧ y = n) := by
     rcases hxy with hxy | hxy
     ·exact ⟨hs _ _ hxy.1, fun e => hxy.2.1 ⟨e.2, e.1⟩⟩
     ·exact ⟨hxy.1, hxy.2.2⟩
    rcases side2 hx hxy'.1 with hy | ⟨hy, hy'⟩
    ·exact hy
    ·have hle : s.m y ≤ s0.c + 1 := by
      rcases hy' with hy' | rfl
      ·have := actc hy'; omega
      ·rw [h.nn]; omega
     have := e2.2 ⟨x, y, hx, hxy'.1, hy, hle, hxy'.2⟩
     omega
   have hr' : RP (cutE A n k) (fun _ => True) k n := hr.symm (cutE_symm hs) trivial
   exact hNn (hr'.closed hNk fun x y hx hxy ht => hcl x y hx (.inr hxy) ht)
  ·intro hB
   by_cases hle : s2.lo k ≤ s0.c + 1
   ·exfalso
    obtain ⟨u, w, hu, huw, hw, hwt, hex⟩ := e2.1 hle
    have hAw := side hu huw hw
    apply hB
    have r1 : RP (cutE A n k) (fun _ => True) k u := (h2.con u hu).map hNk (fun x y hx hy hxy => ⟨hxy, fun e => hNn (e.1 ▸ hx), fun e => hNn (e.2 ▸ hy)⟩) fun _ _ => trivial
    have r2 : RP (cutE A n k) (fun _ => True) u w := .one ⟨huw, fun e => hNn (e.1 ▸ hu), fun e => hex e⟩ trivial
    have hnotk : ∀ x, (Act x ∨ x = n) → x ≠ k := fun x hx e => huk (by rw [← e]; exact hp2.act x hx)
    have r3 : RP (cutE A n k) (fun _ => True) w n := (hp2.conn w n hAw (.inr rfl)).map hAw (fun x y hx hy hxy => ⟨hxy, fun e => hnotk y hy e.2, fun e => hnotk x hx e.1⟩) fun _ _ => trivial
    exact ((r1.trans r2).trans r3).symm (cutE_symm hs) trivial
   ·omega
 have b3 : ∀ {x y : Nat}, ¬ (x = n ∧ y = k) → ¬ (x = k ∧ y = n) → (s3.b x y ↔ s2.b x y) := fun {x y} e1 e2 => by
  rw [g3]; exact ⟨fun hx => hx.elim id fun hx => hx.2.elim (fun e => absurd e e1) (fun e => absurd e e2), .inl⟩
 have c3 : ∀ {x : Nat}, x ≠ n → (s3.cu x ↔ s2.cu x) := fun {x} e => by
  rw [g4]; exact ⟨fun hx => hx.elim id fun hx => absurd hx.1 e, .inl⟩
 have c3n : s3.cu n ↔ s.cu n ∨ ((∃ p, fr p) ∧ s2.m n ≤ s2.lo k) := by
  rw [g4, h2.co n hNn]
  exact ⟨fun hx => hx.imp id fun hx => hx.2, fun hx => hx.imp id fun hx => ⟨rfl, hx⟩⟩
 have hunNew : ∀ {u : Nat}, New s s2 u → u ≠ n := fun hu e => hNn (e ▸ hu)
 have join2 : ∀ u u', New s s2 u → New s s2 u' → RP A (fun x => x ≠ n) u u' := fun u u' hu hu' =>
  (((h2.con u hu).symm hs hNk).trans (h2.con u' hu')).mono fun x hx => hunNew hx
 refine { pos := by rw [g1, g5]; exact h2.pos, inS := by rw [g1]; exact h2.inS, bs := fun x y hb => ?_, bv := fun x y hb => ?_, cv := fun x hb => ?_, ext := fun x hx => ?_, newc := fun x hx => ?_, nn := by rw [g1]; exact m2n, con := fun u hu => ?_, fin := fun u x hu hun' hux => ?_, dv := fun w hw => ?_, lon := ?_, low := fun t ht => ?_, loo := fun x hx => ?_, bj := fun u w huw hd => ?_, bo := fun x y hx hy => ?_, bn := fun w hw hd => ?_, cj := fun u hu hun' => ?_, co := fun x hx => ?_, cn := fun hf => ?_, cr := fun hf => ?_, kid := ?_ }
 ·rw [g3] at hb ⊢
  exact hb.imp (h2.bs _ _) fun hb => ⟨hb.1, hb.2.symm.imp (fun e => ⟨e.2, e.1⟩) fun e => ⟨e.2, e.1⟩⟩
 ·rw [g3] at hb; rw [g1]
  rcases hb with hb | ⟨_, ⟨rfl, _⟩ | ⟨rfl, _⟩⟩
  ·exact h2.bv _ _ hb
  ·exact v2 _ hvn
  ·exact hNk.1
 ·rw [g4] at hb; rw [g1]
  rcases hb with hb | ⟨rfl, _⟩
  ·exact h2.cv _ hb
  ·exact v2 _ hvn
 ·rw [g1, h2.ext x (h.vis hx)]; exact h.ext x hx
 ·rw [g1]
  rcases (hN x).1 hx with hx | hx
  ·rw [h2.ext x hx.1]; exact h.newc x hx
  ·have := h2.newc x hx; have := h.cle; omega
 ·rcases (hN u).1 hu with hu | hu
  ·exact (h.con u hu).mono fun x hx => (hN x).2 (.inl hx)
  ·exact (RP.one ha hNk3).trans ((h2.con u hu).mono fun x hx => (hN x).2 (.inr hx))
 ·rw [g1]
  rcases (hN u).1 hu with hu | hu
  ·exact v2 x (h.fin u x hu hun' hux)
  ·exact h2.fin u x hu hux
 ·rw [g1]; exact hw.elim (fun hw => v2 w (h.dv w hw)) fun e => by rw [e]; exact hNk.1
 ·rw [g2, if_pos rfl, l2n]; have := h.lon; split <;> omega
 ·have e1 : s3.lo n ≤ t ↔ s2.lo k ≤ t ∨ s.lo n ≤ t := by rw [g2, if_pos rfl, l2n]; split <;> omega
  have hct : t ≤ s.c := by have := h.cle; omega
  rw [e1, h.low t ht, h2.low t hct]
  constructor
  ·rintro (⟨u, w, hu, huw, hw, hwt, hex⟩ | ⟨u, w, a, b, c, d⟩)
   ·have hw0 : 0 < s0.m w := by
     by_cases hx : 0 < s0.m w
     ·exact hx
     ·have := h.newc w ⟨hw, hx⟩; omega
    exact ⟨u, w, huw, hw0, by rw [← h.ext w hw0]; exact hwt, .inl ⟨(hN u).2 (.inr hu), hunNew hu⟩⟩
   ·refine ⟨u, w, a, b, c, d.imp (fun d => ⟨(hN u).2 (.inl d.1), d.2⟩) fun d => ⟨d.1, .inl d.2.1, d.2.2⟩⟩
  ·rintro ⟨u, w, a, b, c, ⟨d1, d2⟩ | ⟨d1, d2 | d2, d3⟩⟩
   ·rcases (hN u).1 d1 with d1 | d1
    ·exact .inr ⟨u, w, a, b, c, .inl ⟨d1, d2⟩⟩
    ·exact .inl ⟨u, w, d1, a, h.vis b, by rw [h.ext w b]; exact c, fun e => hun (e.2 ▸ b)⟩
   ·exact .inr ⟨u, w, a, b, c, .inr ⟨d1, d2, d3⟩⟩
   ·subst d2; exact absurd b huk0
 ·have hxn : x ≠ n := fun e => hun (e ▸ hx)
  rw [g2, if_neg hxn, h2.loo x (h.vis hx)]; exact h.loo x hx
 ·rcases hd with ⟨d1, d2⟩ | ⟨d1, d2 | d2, d3⟩
  ·rcases (hN u).1 d1 with d1 | d1
   ·have huk' : u ≠ k := fun e => huk (e ▸ d1.1)
    have hw := h.fin u w d1 d2 huw
    rw [b3 (fun e => d2 e.1) (fun e => huk' e.1), h2.bo u w (fun hx => hx.2 d1.1) (fun hx => hx.2 hw)]
    exact h.bj u w huw (.inl ⟨d1, d2⟩)
   ·by_cases e : u = k ∧ w = n
    ·obtain ⟨rfl, rfl⟩ := e
     rw [Bridge.comm hs, ← judge]
     rw [g3, g3]
     exact ⟨fun hb => hb.imp (h2.bs _ _) fun hb => ⟨hb.1, .inl ⟨rfl, rfl⟩⟩, fun hb => hb.imp (h2.bs _ _) fun hb => ⟨hb.1, .inr ⟨rfl, rfl⟩⟩⟩
    ·rw [b3 (fun e' => d2 e'.1) e]
     exact h2.bj u w d1 huw e
  ·subst d1
   have hwk : w ≠ k := fun e => huk (e ▸ h.dv w d2)
   rw [b3 (fun e => hwk e.2) (fun e => hnk e.1), h2.bo u w hNn (fun hx => hx.2 (h.dv w d2))]
   exact h.bj u w huw (.inr ⟨rfl, d2, d3⟩)
  ·subst d1 d2; exact judge
 ·have hxn : x ≠ n := fun e => hx (e ▸ hNn3)
  have hxk : x ≠ k := fun e => hx (e ▸ hNk3)
  rw [b3 (fun e => hxn e.1) (fun e => hxk e.1), h2.bo x y (fun a => hx ((hN x).2 (.inr a))) (fun a => hy ((hN y).2 (.inr a)))]
  exact h.bo x y (fun a => hx ((hN x).2 (.inl a))) (fun a => hy ((hN y).2 (.inl a)))
 ·have hwk : w ≠ k := fun e => hw (e ▸ hNk3)
  rw [b3 (fun e => hwk e.2) (fun e => hnk e.1), h2.bo n w hNn (fun a => hw ((hN w).2 (.inr a)))]
  exact h.bn w (fun a => hw ((hN w).2 (.inl a))) fun a => hd ⟨.inl a.1, a.2⟩
 ·rw [c3 hun']
  rcases (hN u).1 hu with hu | hu
  ·rw [h2.co u (fun a => a.2 hu.1)]; exact h.cj u hu hun'
  ·exact h2.cj u hu
 ·have hxn : x ≠ n := fun e => hx (e ▸ hNn3)
  rw [c3 hxn, h2.co x (fun a => hx ((hN x).2 (.inr a)))]
  exact h.co x (fun a => hx ((hN x).2 (.inl a)))
 ·rw [c3n]
  rcases h.cn hf with ⟨a, b⟩ | ⟨a, b⟩
  ·exact .inl ⟨.inl a, b⟩
  ·by_cases hle : s2.m n ≤ s2.lo k
   ·refine .inl ⟨.inr ⟨hf, hle⟩, ?_⟩
    obtain ⟨p, hfp⟩ := hf
    obtain ⟨hpA, hnp⟩ := hp.frA p hfp
    have hpn : p ≠ n := (ne_of hi hnp).symm
    refine ⟨k, p, ha, hnp, fun hr => ?_⟩
    have : New s s2 p := hr.closed hNk fun x y hx hxy hyn => by
     rcases side2 hx hxy with hy | ⟨hy, hy' | hy'⟩
     ·exact hy
     ·have := (h2.low s0.c (by have := h.cle; omega)).2 ⟨x, y, hx, hxy, hy, actc hy', fun e => hyn e.2⟩
      omega
     ·exact absurd hy' hyn
    exact this.2 (h.vis (hp.act p hpA))
   ·refine .inr ⟨fun hx => hx.elim a fun hx => hle hx.2, fun u hu hun' => ?_⟩
    rcases (hN u).1 hu with hu | hu
    ·exact b u hu hun'
    ·obtain ⟨u', w, hu', huw, hw, hwt, _⟩ := (h2.low s0.c (by have := h.cle; omega)).1 (by omega)
     have hwn : w ≠ n := fun e => by rw [e, h.nn] at hwt; omega
     have hAw : Act w := (side hu' huw hw).resolve_right hwn
     exact ⟨w, hAw, (join2 u u' hu hu').trans (.one huw hwn)⟩
 ·obtain ⟨a, b⟩ := h.cr hf
  refine ⟨fun hx => (c3n.1 hx).elim a fun hx => hf hx.1, ?_⟩
  have noact : ∀ w, ¬ Act w := fun w hw => hf (hp.root w hw)
  rcases b with ⟨b1, b2⟩ | ⟨b1, ⟨q, hq1, hq2⟩, b2⟩ | ⟨b1, b2⟩
  ·refine .inr (.inl ⟨by omega, ⟨k, ha, hNk3⟩, fun u u' hu hun' hu' hun2 => ?_⟩)
   rcases (hN u).1 hu with hu | hu
   ·exact absurd (b2 u hu) hun'
   ·rcases (hN u').1 hu' with hu' | hu'
    ·exact absurd (b2 u' hu') hun2
    ·exact join2 u u' hu hu'
  ·refine .inr (.inr ⟨by omega, k, q, ha, hq1, fun hr => ?_⟩)
   have : New s s2 q := hr.closed hNk fun x y hx hxy hyn => by
    rcases side2 hx hxy with hy | ⟨hy, hy' | hy'⟩
    ·exact hy
    ·exact absurd hy' (noact y)
    ·exact absurd hy' hyn
   exact this.2 hq2.1
  ·exact .inr (.inr ⟨by omega, b2⟩)
 ·rw [g5]
  have h1 := (h2.pos k).2
  rw [h2.nn] at h1
  have := h.kid
  omega
theorem LI.done (hs : ∀ x y, A x y → A y x) (hi : ∀ x, ¬ A x x) (hp : Pre A S Act fr n s0) (h : LI A S Act fr n s0 D s kids) (hD : ∀ w, A n w → D w)
  (g1 : s3.m = s.m) (g2 : s3.lo = s.lo) (g3 : s3.b = s.b) (g4 : ∀ x, s3.cu x ↔ s.cu x ∨ (x = n ∧ (¬ ∃ p, fr p) ∧ 1 < kids)) (g5 : s3.c = s.c) : Post A S fr n s0 s3 := by
 have hN : New s0 s3 = New s0 s := by funext x; unfold New; rw [g1]
 have hun : ¬ 0 < s0.m n := by rw [hp.new]; omega
 have hNn := h.newn hp
 have hvn : 0 < s.m n := hNn.1
 have c3 : ∀ {x : Nat}, x ≠ n → (s3.cu x ↔ s.cu x) := fun {x} e => by
  rw [g4]; exact ⟨fun hx => hx.elim id fun hx => absurd hx.1 e, .inl⟩
 have near : ∀ w, A n w → Act w ∨ (New s0 s w ∧ w ≠ n) := fun w hw => by
  by_cases h0 : 0 < s0.m w
  ·exact .inl (hp.mustAct hs h0 hw hun)
  ·exact .inr ⟨⟨h.dv w (hD w hw), h0⟩, (ne_of hi hw).symm⟩
 have actn : ∀ w, Act w → w ≠ n := fun w hw e => hun (e ▸ hp.act w hw)
 refine { pos := by rw [g1, g5]; exact h.pos, inS := by rw [g1]; exact h.inS, bs := by rw [g3]; exact h.bs, bv := by rw [g1, g3]; exact h.bv, cv := fun x hx => ?_, ext := by rw [g1]; exact h.ext, newc := by rw [hN, g1]; exact h.newc, nn := by rw [g1]; exact h.nn, con := by rw [hN]; exact h.con, fin := fun u x hu hux => ?_, low := fun t ht => ?_, loo := by rw [g2]; exact h.loo, bj := fun u w hu huw hex => ?_, bo := by rw [hN, g3]; exact h.bo, bf := fun p hfp => ?_, cj := fun u hu => ?_, co := fun x hx => ?_ }
 ·rw [g1]
  rcases (g4 x).1 hx with hx | ⟨rfl, _⟩
  ·exact h.cv x hx
  ·exact hvn
 ·rw [hN] at hu
  rw [g1]
  by_cases e : u = n
  ·subst e; exact h.dv x (hD x hux)
  ·exact h.fin u x hu e hux
 ·rw [g2, h.low t ht, hN]
  constructor
  ·rintro ⟨u, w, a, b, c, ⟨d1, d2⟩ | ⟨d1, d2, d3⟩⟩
   ·exact ⟨u, w, d1, a, b, c, fun e => d2 e.1⟩
   ·exact ⟨u, w, d1 ▸ hNn, a, b, c, fun e => d3 e.2⟩
  ·rintro ⟨u, w, d1, a, b, c, d2⟩
   by_cases e : u = n
   ·subst e; exact ⟨u, w, a, b, c, .inr ⟨rfl, hD w a, fun hf => d2 ⟨rfl, hf⟩⟩⟩
   ·exact ⟨u, w, a, b, c, .inl ⟨d1, e⟩⟩
 ·rw [hN] at hu
  rw [g3]
  by_cases e : u = n
  ·subst e; exact h.bj u w huw (.inr ⟨rfl, hD w huw, fun hf => hex ⟨rfl, hf⟩⟩)
  ·exact h.bj u w huw (.inl ⟨hu, e⟩)
 ·rw [g3]; exact h.bn p (fun hx => hx.2 (hp.act p (hp.frA p hfp).1)) fun a => a.2 hfp
 ·rw [hN] at hu
  by_cases e : u = n
  ·subst e
   by_cases hf : ∃ p, fr p
   ·have e1 : s3.cu u ↔ s.cu u := by rw [g4]; exact ⟨fun hx => hx.elim id fun hx => absurd hf hx.2.1, .inl⟩
    rw [e1]
    rcases h.cn hf with ⟨a, b⟩ | ⟨a, b⟩
    ·exact ⟨fun _ => b, fun _ => a⟩
    ·refine ⟨fun hx => absurd hx a, fun ⟨x, y, hx, hy, hr⟩ => absurd ?_ hr⟩
     have key : ∀ z, A u z → ∃ w, Act w ∧ RP A (fun x => x ≠ u) z w := fun z hz => by
      rcases near z hz with hz | ⟨hz1, hz2⟩
      ·exact ⟨z, hz, .refl⟩
      ·exact b z hz1 hz2
     obtain ⟨w1, hw1, r1⟩ := key x hx
     obtain ⟨w2, hw2, r2⟩ := key y hy
     exact (r1.trans ((hp.conn w1 w2 hw1 hw2).mono actn)).trans (r2.symm hs (ne_of hi hy).symm)
   ·obtain ⟨a, b⟩ := h.cr hf
    have noact : ∀ w, ¬ Act w := fun w hw => hf (hp.root w hw)
    have near' : ∀ w, A u w → New s0 s w ∧ w ≠ u := fun w hw => (near w hw).resolve_left (noact w)
    rw [g4]
    rcases b with ⟨b1, b2⟩ | ⟨b1, _, b2⟩ | ⟨b1, b2⟩
    ·refine ⟨fun hx => hx.elim (fun hx => absurd hx a) fun hx => by omega, fun ⟨x, y, hx, _⟩ => absurd (b2 x (near' x hx).1) (near' x hx).2⟩
    ·refine ⟨fun hx => hx.elim (fun hx => absurd hx a) fun hx => by omega, fun ⟨x, y, hx, hy, hr⟩ => absurd (b2 x y (near' x hx).1 (near' x hx).2 (near' y hy).1 (near' y hy).2) hr⟩
    ·exact ⟨fun _ => b2, fun _ => .inr ⟨rfl, hf, by omega⟩⟩
  ·rw [c3 e]; exact h.cj u hu e
 ·rw [hN] at hx
  have e : x ≠ n := fun e => hx (e ▸ hNn)
  rw [c3 e]; exact h.co x hx
end
end Go.Proofs.YtpclggcpobakhaaDoor.Dfs
end

section
namespace Go.Proofs.YtpclggcpobakhaaDoor
open Go Go.Ab Go.Ab.W
theorem lp_bitsI {σ ρ τ : Type} {body : τ → Option (τ ⊕ ρ)} (mk : Nat → σ → τ) (fin : σ → ρ) (I : Nat → σ → Prop)
  (hs : ∀ r s, 0 < r → r < 2 ^ 64 → I r s → ∃ s', body (mk r s) = some (.inl (mk (clr r) s')) ∧ I (clr r) s') (he : ∀ s, I 0 s → body (mk 0 s) = some (.inr (fin s))) :
  ∀ (n : Nat) (r : Nat) (s : σ), r < 2 ^ 64 → I r s → (bitsOf r).length < n → ∃ s', lpN body n (mk r s) = some (fin s') ∧ I 0 s' := by
 intro n
 induction n with
 | zero => intro r s _ _ h; exact absurd h (Nat.not_lt_zero _)
 | succ n ih =>
  intro r s hr hI hn
  rcases Nat.eq_zero_or_pos r with h0 | h0
  ·subst h0
   exact ⟨s, by simp only [lpN, he s hI], hI⟩
  ·obtain ⟨s', h1, h2⟩ := hs r s h0 hr hI
   simp only [lpN, h1]
   exact ih _ _ (clr_lt h0 hr) h2 (by rw [bitsOf_cons h0 hr] at hn; simpa using hn)
theorem lp_fromE {σ ρ τ : Type} {body : τ → Option (τ ⊕ ρ)} (N : Nat) (mk : σ → Int → τ) (fin : σ → ρ) (I : Nat → σ → Prop)
  (hs : ∀ s i, i < N → I i s → ∃ s', body (mk s (i : Int)) = some (.inl (mk s' ((i + 1 : Nat) : Int))) ∧ I (i + 1) s') (he : ∀ s, I N s → body (mk s (N : Int)) = some (.inr (fin s))) :
  ∀ (k i n : Nat) (s : σ), i + k = N → I i s → k < n → ∃ s', lpN body n (mk s (i : Int)) = some (fin s') ∧ I N s' := by
 intro k
 induction k with
 | zero =>
  intro i n s hi hI hn
  obtain ⟨n, rfl⟩ : ∃ n', n = n' + 1 := ⟨n - 1, by omega⟩
  have : i = N := by omega
  subst this
  exact ⟨s, by simp only [lpN, he s hI], hI⟩
 | succ k ih =>
  intro i n s hi hI hn
  obtain ⟨n, rfl⟩ : ∃ n', n = n' + 1 := ⟨n - 1, by omega⟩
  obtain ⟨s', h1, h2⟩ := hs s i (by omega) hI
  simp only [lpN, h1]
  exact ih (i + 1) n s' (by omega) h2 (by omega)
theorem lp_uptoE {σ ρ τ : Type} {body : τ → Option (τ ⊕ ρ)} (N : Nat) (mk : σ → Int → τ) (fin : σ → ρ) (I : Nat → σ → Prop)
  (hs : ∀ s i, i < N → I i s → ∃ s', body (mk s (i : Int)) = some (.inl (mk s' ((i + 1 : Nat) : Int))) ∧ I (i + 1) s') (he : ∀ s, I N s → body (mk s (N : Int)) = some (.inr (fin s)))
  {n : Nat} {s : σ} (hI : I 0 s) (hn : N < n) : ∃ s', lpN body n (mk s 0) = some (fin s') ∧ I N s' :=
 lp_fromE N mk fin I hs he N 0 n s (by omega) hI hn
theorem F39_refl (n : Nat) (l : List Int) (hl : l.length ≤ 64) (hn : 64 < n) : F39 n l l = some true := by
 have := lp_uptoE (body := L39_1 n l l) l.length (fun (_ : Unit) (v : Int) => v) (fun _ => (Sum.inr () : Unit ⊕ Unit)) (fun _ _ => True) (fun s k hk _ => ⟨(), ?_, trivial⟩) (fun s _ => ?_) (n := n) (s := ()) trivial (by omega)
 ·obtain ⟨_, h1, _⟩ := this
  unfold F39
  simp only [decide_true, Bool.not_true, br_f, h1, ob_s]
 ·unfold L39_1
  simp only [decide_eq_true (show ((k : Nat) : Int) < (l.length : Int) by omega), br_t, Int.toNat_natCast, inB_nat hk, gd_t, List.getElem?_eq_getElem hk, ob_s, decide_true, Bool.not_true, br_f, wrap_succ (show k < 4611686018427387904 by omega)]
 ·unfold L39_1
  simp [br]
end Go.Proofs.YtpclggcpobakhaaDoor
end
