/- Texts of the abstract machine and of the walks, joined: S18WT S18W60 S18P AbsWord S18Rep. -/
import Derived.Test.YtpclggcpobakhaaDoorGk4
section
namespace Go.Proofs.YtpclggcpobakhaaDoor.WT
open Go Go.Ab Go.Ab.W Go.Proofs.YtpclggcpobakhaaDoor Go.Proofs.YtpclggcpobakhaaDoor.W0
set_option maxRecDepth 10000
set_option maxHeartbeats 4000000
attribute [local irreducible] Tm.at Trie.set Trie.get AMem.get AMem.set AMem.alloc AMem.ww AMem.kill
theorem t25 : TyI E18w.P 25 true 2 := ⟨by kernel_rfl, by kernel_rfl, by kernel_rfl⟩
theorem u28 : E18w.P.underlying 28 = some (.int .u64) := by kernel_rfl
theorem u5 : E18w.P.underlying 5 = some (.int .u8) := by kernel_rfl
theorem u9 : E18w.P.underlying 9 = some (.string) := by kernel_rfl
theorem u3 : E18w.P.underlying 3 = some (.int .i64) := by kernel_rfl
theorem fa25_0 : ∀ b o, fieldAddrA E18w.P 25 (ptr b o) 0 = some (ptr b (o + 0)) := fun _ _ => by kernel_rfl
theorem t3 : TyI E18w.P 3 false 1 := ⟨by kernel_rfl, by kernel_rfl, by kernel_rfl⟩
theorem z87 : zeroA E18w.P 87 = some (.map none) := by kernel_rfl
theorem z28 : zeroA E18w.P 28 = some (.int .u64 ((0 : Nat) : Int)) := by kernel_rfl
theorem fa25_1 : ∀ b o, fieldAddrA E18w.P 25 (ptr b o) 1 = some (ptr b (o + 1)) := fun _ _ => by kernel_rfl
theorem t23 : TyI E18w.P 23 false 1 := ⟨by kernel_rfl, by kernel_rfl, by kernel_rfl⟩
theorem u23 : E18w.P.underlying 23 = some (.slice 26) := by kernel_rfl
theorem s23 : SlT E18w.P 23 26 2 := SlT.of (by kernel_rfl)
theorem t26 : TyI E18w.P 26 true 2 := ⟨by kernel_rfl, by kernel_rfl, by kernel_rfl⟩
theorem z26 : zeroA E18w.P 26 = some (.agg #[.int .i64 0, .int .i64 0]) := by kernel_rfl
theorem ar26 : ArT E18w.P 26 3 2 1 := ⟨by kernel_rfl, by kernel_rfl, by kernel_rfl⟩
theorem s36 : SlT E18w.P 36 28 1 := SlT.of (by kernel_rfl)
theorem t28 : TyI E18w.P 28 false 1 := ⟨by kernel_rfl, by kernel_rfl, by kernel_rfl⟩
theorem z36 : zeroA E18w.P 36 = some (.slice none 0 0) := by kernel_rfl
theorem t36 : TyI E18w.P 36 false 1 := ⟨by kernel_rfl, by kernel_rfl, by kernel_rfl⟩
theorem u26 : E18w.P.underlying 26 = some (.array 2 3) := by kernel_rfl
theorem t87 : TyI E18w.P 87 false 1 := ⟨by kernel_rfl, by kernel_rfl, by kernel_rfl⟩
theorem z94 : zeroA E18w.P 94 = some (.map none) := by kernel_rfl
theorem t94 : TyI E18w.P 94 false 1 := ⟨by kernel_rfl, by kernel_rfl, by kernel_rfl⟩
theorem z108 : zeroA E18w.P 108 = some (.nilFunc) := by kernel_rfl
theorem t108 : TyI E18w.P 108 false 1 := ⟨by kernel_rfl, by kernel_rfl, by kernel_rfl⟩
theorem u94 : E18w.P.underlying 94 = some (.map 3 3) := by kernel_rfl
theorem z3 : zeroA E18w.P 3 = some (.int .i64 0) := by kernel_rfl
theorem bs26 : BdT E18w.P 26 (.agg #[.int .i64 0, .int .i64 0]) [(0, 1), (1, 1)] := .mk' (by kernel_rfl) (by kernel_rfl)
theorem u87 : E18w.P.underlying 87 = some (.map 26 4) := by kernel_rfl
theorem z4 : zeroA E18w.P 4 = some (.bool false) := by kernel_rfl
theorem f51_ok (n : Nat) (x1 : Nat)  (r : Int) (hF : F51 n x1 = some r) (m : AMem)  :
  CallA E18w 51 [.int .u64 ((x1 : Nat) : Int)] m (fun v m' => ∃ x : Unit, v = .int .i64 r ∧ Hp m m' []) := by
 unfold F51 at hF
 refine call_wk (m0 := m) (ps := []) (N := 25) (rs := [.tmp 2]) rfl Tryd.func51 rfl rfl rfl (Hp.start m) <| Wk.seq <| Wk.region <| Wo.od (o_as rfl) rfl <| Wo.nil <| At.tn <| Wk.seq ?_
 obtain ⟨r7, h6, hF⟩ := ob_some hF
 refine Wk.cut (G := (fun (r : Nat × Int) (g : Unit) => match r, g with | (v3, v4), _ => ⟨.normal, [(0, .int .u64 ((v3 : Nat) : Int)), (2, .int .i64 v4)], []⟩) r7) ?_ ?_
 ·clear hF
  revert r7
  intro r hF
  refine Wk.seq <| Wk.region <| Wo.od (o_mv rfl) rfl <| Wo.od (o_bi rfl rfl (ub_geq _ _)) rfl <| Wo.nil <| At.tn ?_
  rcases br_some hF with ⟨h5, hF⟩ | ⟨h5, hF⟩
  ·refine Wk.condT rfl h5 <| Wk.seq <| Wk.region <| Wo.od (o_mv rfl) rfl <| Wo.od (o_bi rfl rfl (ub_shr _ _ rfl)) rfl <| Wo.od (o_as rfl) rfl <| Wo.nil <| At.tn <| Wk.region <| Wo.od (o_as rfl) rfl <| Wo.nil ?_
   cases hF
   exact At.en () rfl (sc rfl (sc rfl sn)) (Turn.picks [] rfl rfl)
  ·refine Wk.condF rfl h5 <| Wk.skip ?_
   cases hF
   exact At.en () rfl (sc rfl (sc rfl sn)) (Turn.picks [] rfl rfl)
 ·clear h6
  obtain ⟨v3, v4⟩ := r7
  rintro ⟨⟩
  refine At.tn <| Wk.seq ?_
  obtain ⟨r13, h12, hF⟩ := ob_some hF
  refine Wk.cut (G := (fun (r : Nat × Int) (g : Unit) => match r, g with | (v9, v10), _ => ⟨.normal, [(0, .int .u64 ((v9 : Nat) : Int)), (2, .int .i64 v10)], []⟩) r13) ?_ ?_
  ·clear hF
   revert r13
   intro r hF
   refine Wk.seq <| Wk.region <| Wo.od (o_mv rfl) rfl <| Wo.od (o_bi rfl rfl (ub_geq _ _)) rfl <| Wo.nil <| At.tn ?_
   rcases br_some hF with ⟨h11, hF⟩ | ⟨h11, hF⟩
   ·refine Wk.condT rfl h11 <| Wk.seq <| Wk.region <| Wo.od (o_mv rfl) rfl <| Wo.od (o_bi rfl rfl (ub_shr _ _ rfl)) rfl <| Wo.od (o_as rfl) rfl <| Wo.nil <| At.tn <| Wk.region <| Wo.od (o_mv rfl) rfl <| Wo.od (o_bi rfl rfl (bin_add _ _ _)) rfl <| Wo.od (o_as rfl) rfl <| Wo.nil ?_
    cases hF
    exact At.en () rfl (sc rfl (sc rfl sn)) (Turn.picks [] rfl rfl)
   ·refine Wk.condF rfl h11 <| Wk.skip ?_
    cases hF
    exact At.en () rfl (sc rfl (sc rfl sn)) (Turn.picks [] rfl rfl)
  ·clear h12
   obtain ⟨v9, v10⟩ := r13
   rintro ⟨⟩
   refine At.tn <| Wk.seq ?_
   obtain ⟨r19, h18, hF⟩ := ob_some hF
   refine Wk.cut (G := (fun (r : Nat × Int) (g : Unit) => match r, g with | (v15, v16), _ => ⟨.normal, [(0, .int .u64 ((v15 : Nat) : Int)), (2, .int .i64 v16)], []⟩) r19) ?_ ?_
   ·clear hF
    revert r19
    intro r hF
    refine Wk.seq <| Wk.region <| Wo.od (o_mv rfl) rfl <| Wo.od (o_bi rfl rfl (ub_geq _ _)) rfl <| Wo.nil <| At.tn ?_
    rcases br_some hF with ⟨h17, hF⟩ | ⟨h17, hF⟩
    ·refine Wk.condT rfl h17 <| Wk.seq <| Wk.region <| Wo.od (o_mv rfl) rfl <| Wo.od (o_bi rfl rfl (ub_shr _ _ rfl)) rfl <| Wo.od (o_as rfl) rfl <| Wo.nil <| At.tn <| Wk.region <| Wo.od (o_mv rfl) rfl <| Wo.od (o_bi rfl rfl (bin_add _ _ _)) rfl <| Wo.od (o_as rfl) rfl <| Wo.nil ?_
     cases hF
     exact At.en () rfl (sc rfl (sc rfl sn)) (Turn.picks [] rfl rfl)
    ·refine Wk.condF rfl h17 <| Wk.skip ?_
     cases hF
     exact At.en () rfl (sc rfl (sc rfl sn)) (Turn.picks [] rfl rfl)
   ·clear h18
    obtain ⟨v15, v16⟩ := r19
    rintro ⟨⟩
    refine At.tn <| Wk.seq <| Wk.region <| Wo.od (o_mv rfl) rfl <| Wo.od (o_mv rfl) rfl <| Wo.od (o_cv rfl (cv_uu (by rw [u28]; rfl) u5 rfl)) rfl ?_
    obtain ⟨h20, hF⟩ := gd_some hF
    obtain ⟨y22, h21, hF⟩ := ob_some hF
    refine Wo.od (o_ixt tab256_482390 u9 rfl (by rfl) rfl h20 h21) rfl <| Wo.od (o_cv rfl (cv_i (by rw [u5]; rfl) u3)) rfl <| Wo.od (o_bi rfl rfl (bin_add _ _ _)) rfl <| Wo.od (o_as rfl) rfl <| Wo.nil <| At.tn <| Wk.ret ?_
    cases hF
    exact At.ret (.tmp rfl .nil) fun m' hm => ⟨(), rfl, (Turn.picks [] rfl rfl) m' hm⟩
theorem f55_ok (n : Nat) (x1 : Int) (l2 : List (Int × Int)) (x6 : Nat) (a3 : Option Addr) (c4 : Nat) (r : Int) (hF : F55 n x1 l2 x6 = some r) (m : AMem) (h5 : Rd m a3 c4 2 l2.length (l2.map (eP (eI .i64) (eI .i64)))) :
  CallA E18w 55 [.agg #[.int .i64 x1, .slice a3 l2.length c4], .int .u64 ((x6 : Nat) : Int)] m (fun v m' => ∃ x : Unit, v = .int .i64 r ∧ Hp m m' []) := by
 unfold F55 at hF
 refine call_wk (m0 := m) (ps := [.rd a3 c4 2 l2.length (l2.map (eP (eI .i64) (eI .i64)))]) (N := 16) (rs := [.tmp 4]) rfl Tryd.func55 rfl rfl rfl ((Hp.start m).inn rfl h5) <| Wk.seq <| Wk.region <| Wo.x (o_bx rfl) gn rfl fun b7 => ?_
 refine Wo.od (o_as rfl) rfl <| Wo.nil <| At.tn <| Wk.seq <| Wk.seq <| Wk.region <| Wo.od (o_ld (k := 0) t25 rfl rfl rfl) rfl ?_
 obtain ⟨r9, h8, hF⟩ := ob_some hF
 refine Wo.x (o_cl rfl rfl (fun m hm => f23_ok n x1 l2 a3 c4 _ h8 m (hm.rd (k := 1) rfl (.rd _ _ _ _ _))) fun _ => rfl) gn rfl ?_
 rintro ⟨⟩
 refine Wo.od (o_as rfl) rfl <| Wo.nil <| At.tn <| Wk.seq <| Wk.region <| Wo.od (o_mv rfl) rfl <| Wo.od (o_bi rfl rfl (ib_neq _ _)) rfl <| Wo.nil <| At.tn ?_
 rcases br_some hF with ⟨h10, hF⟩ | ⟨h10, hF⟩
 ·refine Wk.condT rfl h10 <| Wk.seq <| Wk.region <| Wo.od (o_mv rfl) rfl <| Wo.od (o_as rfl) rfl <| Wo.nil <| At.tn <| Wk.ret <| At.tr ?_
  have hr := Option.some.inj hF
  subst r
  exact At.ret (.tmp rfl .nil) fun m' hm => ⟨(), rfl, (Turn.picks [] rfl rfl) m' hm⟩
 ·refine Wk.condF rfl h10 <| Wk.skip <| At.tn <| Wk.seq <| Wk.seq <| Wk.drawc (prs := [(1, 3)]) (by kernel_rfl) <| Wn.od (o_mv rfl) rfl ?_
  obtain ⟨r12, h11, hF⟩ := ob_some hF
  refine Wn.c (o_ce rfl rfl (fun m hm => f51_ok n x6  _ h11 m ) fun _ => rfl) gn rfl ?_
  rintro ⟨⟩
  refine Wn.od (o_fa (r := ptr b7 0) rfl (fa25_0 _ _)) rfl <| Wn.od (o_ld (k := 0) t3 rfl rfl rfl) rfl <| Wn.od (o_bi rfl rfl (bin_gtr _ _ _)) rfl <| Wn.nil (fun m hm => OkP.all rfl) <| At.tn ?_
  rcases br_some hF with ⟨h13, hF⟩ | ⟨h13, hF⟩
  ·refine Wk.condT rfl h13 <| Wk.seq <| Wk.region <| Wo.od (o_as rfl) rfl <| Wo.nil <| At.tn <| Wk.ret <| At.tr ?_
   cases hF
   exact At.ret (.tmp rfl .nil) fun m' hm => ⟨(), rfl, (Turn.picks [] rfl rfl) m' hm⟩
  ·refine Wk.condF rfl h13 <| Wk.skip <| At.tn <| Wk.seq <| Wk.region <| Wo.od (o_as rfl) rfl <| Wo.nil <| At.tn <| Wk.ret ?_
   cases hF
   exact At.ret (.tmp rfl .nil) fun m' hm => ⟨(), rfl, (Turn.picks [] rfl rfl) m' hm⟩
theorem f75_ok (n : Nat) (x1 : Int) (l2 : List (Int × Int)) (a3 : Option Addr) (c4 : Nat) (r : List Nat) (hF : F75 n x1 l2 = some r) (m : AMem) (h5 : Rd m a3 c4 2 l2.length (l2.map (eP (eI .i64) (eI .i64)))) :
  CallA E18w 75 [.agg #[.int .i64 x1, .slice a3 l2.length c4]] m (fun v m' => ∃ x : Option Addr × Nat, v = .slice x.1 x.2 x.2 ∧ Hp m m' [.sl x.1 1 x.2 (r.map (eN .u64))]) := by
 unfold F75 at hF
 refine call_wk (m0 := m) (ps := [.rd a3 c4 2 l2.length (l2.map (eP (eI .i64) (eI .i64)))]) (N := 38) (rs := [.tmp 2]) rfl Tryd.func75 rfl rfl rfl ((Hp.start m).inn rfl h5) <| Wk.seq <| Wk.region <| Wo.x (o_bx rfl) gn rfl fun b6 => ?_
 refine Wo.od (o_as rfl) rfl <| Wo.nil <| At.tn <| Wk.seq <| Wk.region <| Wo.od (o_fa (r := ptr b6 0) rfl (fa25_0 _ _)) rfl <| Wo.od (o_ld (k := 0) t3 rfl rfl rfl) rfl ?_
 obtain ⟨h7, hF⟩ := gd_some hF
 obtain ⟨h8, hF⟩ := gd_some hF
 refine Wo.x (o_msl (f := eN .u64) (z0 := 0) s36 rfl h7 h8 z28 rfl rfl) gn rfl fun b9 => ?_
 refine Wo.od (o_as rfl) rfl <| Wo.nil <| At.tn <| Wk.seq <| Wk.seq <| Wk.region <| Wo.od (o_fa (r := ptr b6 1) rfl (fa25_1 _ _)) rfl <| Wo.od (o_ld (k := 1) t23 rfl rfl rfl) rfl <| Wo.od (o_ln (k := 2) u23 rfl rfl (.inl rfl)) rfl <| Wo.od (o_mv rfl) rfl <| Wo.nil <| At.tn <| Wk.block ?_
 obtain ⟨l56, h77, hF⟩ := ob_some hF
 refine Wk.cut (G := (fun (r : List (Nat)) (g : Unit) => match r, g with | l56, _ => ⟨(.exit 0), [(3, .slice (some ⟨b9, 0, none⟩) x1.toNat x1.toNat)], [.arr b9 1 x1.toNat (l56.map (eN .u64)) .own]⟩) l56) ?_ ?_
 ·refine Wk.weak (fs' := [(3, .slice (some ⟨b9, 0, none⟩) x1.toNat x1.toNat), (10, .slice a3 l2.length c4), (11, .int .i64 (l2.length : Int)), (12, .int .i64 0)]) (ps' := [.arr b9 1 x1.toNat ((List.replicate x1.toNat 0).map (eN .u64)) .own, .rd a3 c4 2 l2.length (l2.map (eP (eI .i64) (eI .i64)))]) (sc rfl (sc rfl (sc rfl (sc rfl sn)))) (Turn.picks [0, 2] rfl rfl) ?_
  refine Wk.loop (σ := List (Nat) × Int) (ρ := List (Nat)) (γ := Unit) (δ := fun _ => Unit) _ (fun (s : List (Nat) × Int) (g : Unit) => match s, g with | (l32, v33), _ => ⟨.normal, [(3, .slice (some ⟨b9, 0, none⟩) x1.toNat x1.toNat), (10, .slice a3 l2.length c4), (11, .int .i64 (l2.length : Int)), (12, .int .i64 v33)], [.arr b9 1 x1.toNat (l32.map (eN .u64)) .own, .rd a3 c4 2 l2.length (l2.map (eP (eI .i64) (eI .i64)))]⟩) (fun (r : List (Nat)) (g : Unit) => match r, g with | l56, _ => ⟨(.exit 0), [(3, .slice (some ⟨b9, 0, none⟩) x1.toNat x1.toNat)], [.arr b9 1 x1.toNat (l56.map (eN .u64)) .own]⟩) ?_ (fun _ _ => rfl) (fun r d => by intro e; cases e) _ _ _ h77 ()
  clear hF h77
  rintro ⟨l32, v33⟩ ⟨⟩ r hF
  unfold L75_1 at hF
  refine Wk.seq <| Wk.region <| Wo.od (o_bi rfl rfl (bin_lss _ _ _)) rfl <| Wo.nil <| At.tn <| Wk.seq ?_
  rcases br_some hF with ⟨h57, hF⟩ | ⟨h57, hF⟩
  ·refine Wk.condT rfl h57 <| Wk.skip <| At.tn <| Wk.seq <| Wk.block <| Wk.seq <| Wk.region ?_
   obtain ⟨h58, hF⟩ := gd_some hF
   replace h58 := inB_some h58
   refine Wo.openr (k := 1) rfl (pos_of h58) ?_
   rintro b59 o60 rfl
   refine Wo.og (o_ixs s23 rfl rfl h58) gn rfl ?_
   obtain ⟨⟨x61, x62⟩, h63, hF⟩ := ob_some hF
   refine Wo.od (o_ldr (k := 0) t26 rfl rfl (map_at h63) rfl rfl) rfl <| Wo.x (o_al z26 rfl) gn rfl fun b64 => ?_
   refine Wo.o0 (o_st (k := 0) t26 rfl rfl rfl rfl rfl) <| Wo.nil <| At.tn <| Wk.seq <| Wk.draw (by kernel_rfl) <| Wo.od (o_mv rfl) rfl <| Wo.od (o_ia (r := ptr b64 0) rfl rfl (ia_c ar26 (i := 0) (by decide))) rfl <| Wo.od (o_ld (k := 0) t3 rfl rfl rfl) rfl ?_
   obtain ⟨h65, hF⟩ := gd_some hF
   replace h65 := inB_some h65
   refine Wo.og (o_ixa s36 rfl rfl h65) gn rfl ?_
   obtain ⟨x66, h67, hF⟩ := ob_some hF
   refine Wo.od (o_lda (k := 2) t28 rfl rfl (map_at h67) rfl rfl) rfl <| Wo.od (o_ia (r := ptr b64 1) rfl rfl (ia_c ar26 (i := 1) (by decide))) rfl <| Wo.od (o_ld (k := 0) t3 rfl rfl rfl) rfl ?_
   obtain ⟨h68, hF⟩ := gd_some hF
   refine Wo.od (o_bi rfl rfl (ub_shl rfl _ _ h68)) rfl <| Wo.od (o_bi rfl rfl (ub_or rfl _ _)) rfl ?_
   obtain ⟨h69, hF⟩ := gd_some hF
   replace h69 := inB_some h69
   refine Wo.og (o_ixa s36 rfl rfl h69) gn rfl <| Wo.o0 (o_stl (k := 2) (x1 := x66) (x2 := uw .u64 (uw .u64 x66 ||| uw .u64 (ushl .u64 1 x62.toNat))) t28 rfl rfl rfl h67 rfl) <| Wo.nil <| At.tn <| Wk.draw (by kernel_rfl) <| Wo.od (o_mv rfl) rfl <| Wo.od (o_ia (r := ptr b64 1) rfl rfl (ia_c ar26 (i := 1) (by decide))) rfl <| Wo.od (o_ld (k := 0) t3 rfl rfl rfl) rfl ?_
   obtain ⟨h71, hF⟩ := gd_some hF
   replace h71 := inB_some h71
   refine Wo.og (o_ixa s36 rfl rfl h71) gn rfl ?_
   obtain ⟨x72, h73, hF⟩ := ob_some hF
   refine Wo.od (o_lda (k := 2) t28 rfl rfl (map_at h73) rfl rfl) rfl <| Wo.od (o_ia (r := ptr b64 0) rfl rfl (ia_c ar26 (i := 0) (by decide))) rfl <| Wo.od (o_ld (k := 0) t3 rfl rfl rfl) rfl ?_
   obtain ⟨h74, hF⟩ := gd_some hF
   refine Wo.od (o_bi rfl rfl (ub_shl rfl _ _ h74)) rfl <| Wo.od (o_bi rfl rfl (ub_or rfl _ _)) rfl ?_
   obtain ⟨h75, hF⟩ := gd_some hF
   replace h75 := inB_some h75
   refine Wo.og (o_ixa s36 rfl rfl h75) gn rfl <| Wo.o0 (o_stl (k := 2) (x1 := x72) (x2 := uw .u64 (uw .u64 x72 ||| uw .u64 (ushl .u64 1 x61.toNat))) t28 rfl rfl rfl h73 rfl) <| Wo.nil <| At.bn <| At.tn <| Wk.region <| Wo.od (o_bi rfl rfl (bin_add _ _ _)) rfl <| Wo.od (o_mv rfl) rfl <| Wo.nil ?_
   cases hF
   exact At.en () rfl (sc rfl (sc rfl (sc rfl (sc rfl sn)))) (Turn.picks [2, 3] rfl rfl)
  ·refine Wk.condF rfl h57 <| Wk.exit <| At.te ?_
   cases hF
   exact At.en () rfl (sc rfl sn) (Turn.picks [0] rfl rfl)
 ·clear h77
  rintro ⟨⟩
  refine At.be <| At.tn <| Wk.seq <| Wk.region <| Wo.od (o_mv rfl) rfl <| Wo.od (o_as rfl) rfl <| Wo.nil <| At.tn <| Wk.ret ?_
  have hr := Option.some.inj hF
  subst r
  exact At.ret (.tmp rfl .nil) fun m' hm => ⟨((some ⟨b9, 0, none⟩), x1.toNat), rfl, (Turn.trans (Turn.close (k := 0) rfl) (Turn.picks [0] rfl rfl)) m' hm⟩
theorem r76_ok (n : Nat) (l16 : List Nat) (x6 : Nat) (b23 : Nat) (b21 : Nat) (b24 : Nat) (b22 : Nat) (b19 : Nat) (a17 : Option Addr) (b12 : Nat) (b25 : Nat) (b13 : Nat) (b14 : Nat) (b20 : Nat) {m0 : AMem} (hG : Gl m0) : ∀ (k : Nat) (l651 : List (Int × Int)) (l652 : List (Int × Int)) (l653 : List ((Int × Int) × Bool)) (v654 : Nat) (x1328 : Int) (x1329 : Int) (l1330 : List (Int × Int)) (l1331 : List (Int × Int)) (l1332 : List ((Int × Int) × Bool)) (v1333 : Nat), R76 n l16 x6 k (l651, l652, l653, v654) (x1328, x1329) = some (l1330, l1331, l1332, v1333) → ∀ (rest : List Pc) (m : AMem), Hp m0 m (.obj b23 (.cells [.map (some b21)] .own) :: .obj b21 (.map (l651.map (eM (fun n : Int => .int .i64 n) (fun n : Int => .int .i64 n)))) :: .obj b24 (.cells [.map (some b22)] .own) :: .obj b22 (.map (l652.map (eM (fun n : Int => .int .i64 n) (fun n : Int => .int .i64 n)))) :: .obj b19 (.cells [.slice a17 l16.length l16.length] .own) :: .sl a17 1 l16.length (l16.map (eN .u64)) :: .obj b12 (.cells [.int .u64 ((x6 : Nat) : Int)] .own) :: .obj b25 (.cells [.func (.func 76) #[] #[ptr b23 0, ptr b24 0, ptr b19 0, ptr b12 0, ptr b25 0, ptr b13 0, ptr b14 0]] .own) :: .obj b13 (.cells [.map (some b20)] .own) :: .obj b20 (.map (l653.map (eM (fun p : Int × Int => .agg #[.int .i64 p.1, .int .i64 p.2]) (fun b : Bool => .bool b)))) :: .obj b14 (.cells [.int .u64 ((v654 : Nat) : Int)] .own) :: rest) →
  CallA E18w 76 [.int .i64 x1328, .int .i64 x1329, ptr b23 0, ptr b24 0, ptr b19 0, ptr b12 0, ptr b25 0, ptr b13 0, ptr b14 0] m (fun v m' => ∃ _ : Unit, v = .tuple #[] ∧ Hp m0 m' (.obj b23 (.cells [.map (some b21)] .own) :: .obj b21 (.map (l1330.map (eM (fun n : Int => .int .i64 n) (fun n : Int => .int .i64 n)))) :: .obj b24 (.cells [.map (some b22)] .own) :: .obj b22 (.map (l1331.map (eM (fun n : Int => .int .i64 n) (fun n : Int => .int .i64 n)))) :: .obj b19 (.cells [.slice a17 l16.length l16.length] .own) :: .sl a17 1 l16.length (l16.map (eN .u64)) :: .obj b12 (.cells [.int .u64 ((x6 : Nat) : Int)] .own) :: .obj b25 (.cells [.func (.func 76) #[] #[ptr b23 0, ptr b24 0, ptr b19 0, ptr b12 0, ptr b25 0, ptr b13 0, ptr b14 0]] .own) :: .obj b13 (.cells [.map (some b20)] .own) :: .obj b20 (.map (l1332.map (eM (fun p : Int × Int => .agg #[.int .i64 p.1, .int .i64 p.2]) (fun b : Bool => .bool b)))) :: .obj b14 (.cells [.int .u64 ((v1333 : Nat) : Int)] .own) :: rest)) := by
 intro k
 induction k with
 | zero => intro l651 l652 l653 v654 x1328 x1329 l1330 l1331 l1332 v1333 hF; cases hF
 | succ k ih =>
  intro l651 l652 l653 v654 x1328 x1329 l1330 l1331 l1332 v1333 hF rest m hm
  replace hF : R76b n (R76 n l16 x6 k) l16 x6 (l651, l652, l653, v654) (x1328, x1329) = _ := hF
  unfold R76b at hF
  refine call_wk (N := 102) (rs := []) rfl Tryd.func76 rfl rfl rfl hm ?_
  clear hm
  refine Wk.seq <| Wk.region <| Wo.x (o_bx rfl) gn rfl fun b1334 => ?_
  refine Wo.x (o_bx rfl) gn rfl fun b1335 => ?_
  refine Wo.nil <| At.tn <| Wk.seq <| Wk.region <| Wo.od (o_ld (k := 2) t94 rfl rfl rfl) rfl <| Wo.od (o_ld (k := 1) t3 rfl rfl rfl) rfl <| Wo.od (o_ld (k := 2) t94 rfl rfl rfl) rfl ?_
  obtain ⟨y1336, h1337, hF⟩ := ob_some hF
  replace h1337 := Option.some.inj h1337
  refine Wo.od (o_lnme (q := 3) (xs := l651) u94 rfl rfl h1337) rfl <| Wo.od (o_bi rfl rfl (bin_add _ _ _)) rfl <| Wo.o0 (o_mu (q := 3) (xs := l651) (k := x1328) (v := IntKind.wrap .i64 ((y1336 : Int) + 1)) (vE := (fun n : Int => .int .i64 n)) u94 (keyI u3) rfl rfl rfl rfl) <| Wo.nil <| At.tn <| Wk.seq <| Wk.region <| Wo.od (o_ld (k := 4) t94 rfl rfl rfl) rfl <| Wo.od (o_ld (k := 1) t3 rfl rfl rfl) rfl <| Wo.od (o_ld (k := 2) t94 rfl rfl rfl) rfl <| Wo.od (o_ld (k := 1) t3 rfl rfl rfl) rfl ?_
  obtain ⟨y1338, h1339, hF⟩ := ob_some hF
  refine Wo.od (o_lkv (q := 3) (xs := (mput l651 x1328 (IntKind.wrap .i64 ((y1336 : Int) + 1)))) (k := x1328) (vE := (fun n : Int => .int .i64 n)) (z0 := (0 : Int)) u94 (keyI u3) z3 rfl rfl rfl rfl h1339) rfl <| Wo.o0 (o_mu (q := 5) (xs := l652) (k := x1328) (v := y1338) (vE := (fun n : Int => .int .i64 n)) u94 (keyI u3) rfl rfl rfl rfl) <| Wo.nil <| At.tn <| Wk.seq <| Wk.region <| Wo.x (o_al z3 rfl) gn rfl fun b1340 => ?_
  refine Wo.o0 (o_st (k := 0) t3 rfl rfl rfl rfl rfl) <| Wo.nil <| At.tn <| Wk.seq <| Wk.seq <| Wk.draw (by kernel_rfl) <| Wo.od (o_ld (k := 7) t36 rfl rfl rfl) rfl <| Wo.od (o_ld (k := 2) t3 rfl rfl rfl) rfl ?_
  obtain ⟨h1341, hF⟩ := gd_some hF
  replace h1341 := inB_some h1341
  refine Wo.open (k := 8) rfl (pos_of h1341) ?_
  rintro b1342 tg1343 rfl h1344
  refine Wo.og (o_ixa s36 rfl rfl h1341) gn rfl ?_
  obtain ⟨x1345, h1346, hF⟩ := ob_some hF
  refine Wo.od (o_lda (k := 8) t28 rfl rfl (map_at h1346) rfl rfl) rfl <| Wo.od (o_ld (k := 9) t28 rfl rfl rfl) rfl <| Wo.od (o_bi rfl rfl (ub_and rfl _ _)) rfl ?_
  obtain ⟨r1350, h1351, hF⟩ := ob_some hF
  refine Wo.x (o_cs (α := Nat) (V := fun g => (fun (r : Unit) (g : Nat) => match r, g with | _, b1348 => (.func (.func 78) #[] #[ptr b1348 0] : Value)) r1350 g) (N := fun g => (fun (r : Unit) (g : Nat) => match r, g with | _, b1348 => ((.obj b1348 (.cells [.int .u64 ((uw .u64 (uw .u64 x1345 &&& uw .u64 x6) : Nat) : Int)] .own) :: .obj b23 (.cells [.map (some b21)] .own) :: .obj b21 (.map ((mput l651 x1328 (IntKind.wrap .i64 ((y1336 : Int) + 1))).map (eM (fun n : Int => .int .i64 n) (fun n : Int => .int .i64 n)))) :: .obj b24 (.cells [.map (some b22)] .own) :: .obj b22 (.map ((mput l652 x1328 y1338).map (eM (fun n : Int => .int .i64 n) (fun n : Int => .int .i64 n)))) :: .obj b19 (.cells [.slice (some ⟨b1342, 0, none⟩) l16.length l16.length] .own) :: .arr b1342 1 l16.length (l16.map (eN .u64)) tg1343 :: .obj b12 (.cells [.int .u64 ((x6 : Nat) : Int)] .own) :: .obj b25 (.cells [.func (.func 76) #[] #[ptr b23 0, ptr b24 0, ptr b19 0, ptr b12 0, ptr b25 0, ptr b13 0, ptr b14 0]] .own) :: .obj b13 (.cells [.map (some b20)] .own) :: .obj b20 (.map (l653.map (eM (fun p : Int × Int => .agg #[.int .i64 p.1, .int .i64 p.2]) (fun b : Bool => .bool b)))) :: .obj b14 (.cells [.int .u64 ((v654 : Nat) : Int)] .own) :: .obj b1334 (.cells [.int .i64 x1328] .own) :: .obj b1335 (.cells [.int .i64 x1329] .own) :: .obj b1340 (.cells [.int .i64 0] .own) :: rest) : List Pc)) r1350 g) rfl rfl (fun m hm => ?_)) gn rfl ?_
  ·clear hF
   revert r1350
   intro r hF
   refine call_wk (N := 4) (rs := [.tmp 2]) rfl Tryd.func61 rfl rfl rfl hm <| Wk.seq <| Wk.region <| Wo.x (o_bx rfl) gn rfl fun b1349 => ?_
   refine Wo.od (o_as rfl) rfl <| Wo.nil <| At.tn <| Wk.seq <| Wk.region <| Wo.od (o_mf rfl rfl) rfl <| Wo.od (o_as rfl) rfl <| Wo.nil <| At.tn <| Wk.ret ?_
   cases hF
   exact At.ret (.tmp rfl .nil) fun m' hm => ⟨b1349, rfl, (Turn.picksR 15 [0, 4, 5, 6, 7, 8, 9, 10, 11, 12, 13, 14, 3, 2, 1] rfl rfl rfl) m' hm⟩
  ·clear h1351
   rintro b1348
   refine Wo.nil <| At.tn <| Wk.block ?_
   obtain ⟨r2004, h2005, hF⟩ := ob_some hF
   refine Wk.range (N := 14) (rs := []) (γ := Unit) (X := fun g => (fun (r : List (Int × Int) × List (Int × Int) × List ((Int × Int) × Bool) × Nat × Int) (g : Unit) => (match r, g with | (l1678, l1679, l1680, v1681, v1682), _ => ⟨.ready, none, (.obj b23 (.cells [.map (some b21)] .own) :: .obj b21 (.map (l1678.map (eM (fun n : Int => .int .i64 n) (fun n : Int => .int .i64 n)))) :: .obj b24 (.cells [.map (some b22)] .own) :: .obj b22 (.map (l1679.map (eM (fun n : Int => .int .i64 n) (fun n : Int => .int .i64 n)))) :: .obj b19 (.cells [.slice (some ⟨b1342, 0, none⟩) l16.length l16.length] .own) :: .sl (some ⟨b1342, 0, none⟩) 1 l16.length (l16.map (eN .u64)) :: .obj b12 (.cells [.int .u64 ((x6 : Nat) : Int)] .own) :: .obj b25 (.cells [.func (.func 76) #[] #[ptr b23 0, ptr b24 0, ptr b19 0, ptr b12 0, ptr b25 0, ptr b13 0, ptr b14 0]] .own) :: .obj b13 (.cells [.map (some b20)] .own) :: .obj b20 (.map (l1680.map (eM (fun p : Int × Int => .agg #[.int .i64 p.1, .int .i64 p.2]) (fun b : Bool => .bool b)))) :: .obj b14 (.cells [.int .u64 ((v1681 : Nat) : Int)] .own) :: .obj b1334 (.cells [.int .i64 x1328] .own) :: .obj b1335 (.cells [.int .i64 x1329] .own) :: .obj b1340 (.cells [.int .i64 v1682] .own) :: rest)⟩ : Rn)) r2004 g) rfl rfl Tryd.func78 rfl rfl rfl ?_ (fun y => by intro e; cases e) ?_
   ·clear hF
    revert r2004
    intro r hF
    intro t1354 l1352 rc1353 h1355 h1356
    refine Wk.block ?_
    obtain ⟨r2003, h2002, hF⟩ := ob_some hF
    refine Wk.cut (G := (fun (r : List (Int × Int) × List (Int × Int) × List ((Int × Int) × Bool) × Nat × Int) (g : Unit) => match r, g with | (l1897, l1898, l1899, v1900, v1901), _ => ⟨(.exit 0), [], (.obj l1352 (rc1353 .ready none) :: .obj b23 (.cells [.map (some b21)] .own) :: .obj b21 (.map (l1897.map (eM (fun n : Int => .int .i64 n) (fun n : Int => .int .i64 n)))) :: .obj b24 (.cells [.map (some b22)] .own) :: .obj b22 (.map (l1898.map (eM (fun n : Int => .int .i64 n) (fun n : Int => .int .i64 n)))) :: .obj b19 (.cells [.slice (some ⟨b1342, 0, none⟩) l16.length l16.length] .own) :: .sl (some ⟨b1342, 0, none⟩) 1 l16.length (l16.map (eN .u64)) :: .obj b12 (.cells [.int .u64 ((x6 : Nat) : Int)] .own) :: .obj b25 (.cells [.func (.func 76) #[] #[ptr b23 0, ptr b24 0, ptr b19 0, ptr b12 0, ptr b25 0, ptr b13 0, ptr b14 0]] .own) :: .obj b13 (.cells [.map (some b20)] .own) :: .obj b20 (.map (l1899.map (eM (fun p : Int × Int => .agg #[.int .i64 p.1, .int .i64 p.2]) (fun b : Bool => .bool b)))) :: .obj b14 (.cells [.int .u64 ((v1900 : Nat) : Int)] .own) :: .obj b1334 (.cells [.int .i64 x1328] .own) :: .obj b1335 (.cells [.int .i64 x1329] .own) :: .obj b1340 (.cells [.int .i64 v1901] .own) :: rest)⟩) r2003) ?_ ?_
    ·refine Wk.weak (fs' := [(0, .func (.yield l1352) #[] #[]), (1, ptr b1348 0)]) (ps' := (.obj l1352 (rc1353 .ready none) :: .obj b1348 (.cells [.int .u64 (((uw .u64 (uw .u64 x1345 &&& uw .u64 x6)) : Nat) : Int)] .own) :: .obj b23 (.cells [.map (some b21)] .own) :: .obj b21 (.map ((mput l651 x1328 (IntKind.wrap .i64 ((y1336 : Int) + 1))).map (eM (fun n : Int => .int .i64 n) (fun n : Int => .int .i64 n)))) :: .obj b24 (.cells [.map (some b22)] .own) :: .obj b22 (.map ((mput l652 x1328 y1338).map (eM (fun n : Int => .int .i64 n) (fun n : Int => .int .i64 n)))) :: .obj b19 (.cells [.slice (some ⟨b1342, 0, none⟩) l16.length l16.length] .own) :: .sl (some ⟨b1342, 0, none⟩) 1 l16.length (l16.map (eN .u64)) :: .obj b12 (.cells [.int .u64 ((x6 : Nat) : Int)] .own) :: .obj b25 (.cells [.func (.func 76) #[] #[ptr b23 0, ptr b24 0, ptr b19 0, ptr b12 0, ptr b25 0, ptr b13 0, ptr b14 0]] .own) :: .obj b13 (.cells [.map (some b20)] .own) :: .obj b20 (.map (l653.map (eM (fun p : Int × Int => .agg #[.int .i64 p.1, .int .i64 p.2]) (fun b : Bool => .bool b)))) :: .obj b14 (.cells [.int .u64 ((v654 : Nat) : Int)] .own) :: .obj b1334 (.cells [.int .i64 x1328] .own) :: .obj b1335 (.cells [.int .i64 x1329] .own) :: .obj b1340 (.cells [.int .i64 0] .own) :: rest)) (sc rfl (sc rfl sn)) (Turn.trans (Turn.close (k := 7) rfl) (Turn.picksR 16 [0, 1, 2, 3, 4, 5, 6, 7, 8, 9, 10, 11, 12, 13, 14, 15] rfl rfl rfl)) ?_
     refine Wk.loop (σ := Nat × List (Int × Int) × List (Int × Int) × List ((Int × Int) × Bool) × Nat × Int) (ρ := List (Int × Int) × List (Int × Int) × List ((Int × Int) × Bool) × Nat × Int) (γ := Unit) (δ := fun _ => Unit) _ (fun (s : Nat × List (Int × Int) × List (Int × Int) × List ((Int × Int) × Bool) × Nat × Int) (g : Unit) => match s, g with | (v1785, l1786, l1787, l1788, v1789, v1790), _ => ⟨.normal, [(0, .func (.yield l1352) #[] #[]), (1, ptr b1348 0)], (.obj l1352 (rc1353 .ready none) :: .obj b1348 (.cells [.int .u64 ((v1785 : Nat) : Int)] .own) :: .obj b23 (.cells [.map (some b21)] .own) :: .obj b21 (.map (l1786.map (eM (fun n : Int => .int .i64 n) (fun n : Int => .int .i64 n)))) :: .obj b24 (.cells [.map (some b22)] .own) :: .obj b22 (.map (l1787.map (eM (fun n : Int => .int .i64 n) (fun n : Int => .int .i64 n)))) :: .obj b19 (.cells [.slice (some ⟨b1342, 0, none⟩) l16.length l16.length] .own) :: .sl (some ⟨b1342, 0, none⟩) 1 l16.length (l16.map (eN .u64)) :: .obj b12 (.cells [.int .u64 ((x6 : Nat) : Int)] .own) :: .obj b25 (.cells [.func (.func 76) #[] #[ptr b23 0, ptr b24 0, ptr b19 0, ptr b12 0, ptr b25 0, ptr b13 0, ptr b14 0]] .own) :: .obj b13 (.cells [.map (some b20)] .own) :: .obj b20 (.map (l1788.map (eM (fun p : Int × Int => .agg #[.int .i64 p.1, .int .i64 p.2]) (fun b : Bool => .bool b)))) :: .obj b14 (.cells [.int .u64 ((v1789 : Nat) : Int)] .own) :: .obj b1334 (.cells [.int .i64 x1328] .own) :: .obj b1335 (.cells [.int .i64 x1329] .own) :: .obj b1340 (.cells [.int .i64 v1790] .own) :: rest)⟩) (fun (r : List (Int × Int) × List (Int × Int) × List ((Int × Int) × Bool) × Nat × Int) (g : Unit) => match r, g with | (l1897, l1898, l1899, v1900, v1901), _ => ⟨(.exit 0), [], (.obj l1352 (rc1353 .ready none) :: .obj b23 (.cells [.map (some b21)] .own) :: .obj b21 (.map (l1897.map (eM (fun n : Int => .int .i64 n) (fun n : Int => .int .i64 n)))) :: .obj b24 (.cells [.map (some b22)] .own) :: .obj b22 (.map (l1898.map (eM (fun n : Int => .int .i64 n) (fun n : Int => .int .i64 n)))) :: .obj b19 (.cells [.slice (some ⟨b1342, 0, none⟩) l16.length l16.length] .own) :: .sl (some ⟨b1342, 0, none⟩) 1 l16.length (l16.map (eN .u64)) :: .obj b12 (.cells [.int .u64 ((x6 : Nat) : Int)] .own) :: .obj b25 (.cells [.func (.func 76) #[] #[ptr b23 0, ptr b24 0, ptr b19 0, ptr b12 0, ptr b25 0, ptr b13 0, ptr b14 0]] .own) :: .obj b13 (.cells [.map (some b20)] .own) :: .obj b20 (.map (l1899.map (eM (fun p : Int × Int => .agg #[.int .i64 p.1, .int .i64 p.2]) (fun b : Bool => .bool b)))) :: .obj b14 (.cells [.int .u64 ((v1900 : Nat) : Int)] .own) :: .obj b1334 (.cells [.int .i64 x1328] .own) :: .obj b1335 (.cells [.int .i64 x1329] .own) :: .obj b1340 (.cells [.int .i64 v1901] .own) :: rest)⟩) ?_ (fun _ _ => rfl) (fun r d => by intro e; cases e) _ _ _ h2002 ()
     clear hF h2002
     rintro ⟨v1785, l1786, l1787, l1788, v1789, v1790⟩ ⟨⟩ r hF
     unfold L76_1 at hF
     refine Wk.seq <| Wk.seq <| Wk.region <| Wo.od (o_ld (k := 1) t28 rfl rfl rfl) rfl <| Wo.od (o_bi rfl rfl (ub_neq _ _)) rfl <| Wo.nil <| At.tn ?_
     rcases br_some hF with ⟨h1902, hF⟩ | ⟨h1902, hF⟩
     ·refine Wk.condT rfl h1902 <| Wk.skip <| At.tn <| Wk.seq <| Wk.block <| Wk.seq <| Wk.region <| Wo.od (o_mv rfl) rfl <| Wo.od (o_ld (k := 1) t28 rfl rfl rfl) rfl ?_
      obtain ⟨r1904, h1903, hF⟩ := ob_some hF
      refine Wo.x (o_cl rfl rfl (fun m hm => f42_ok n v1785  _ h1903 m (hG.ext hm.ext) ) fun _ => rfl) gn rfl ?_
      rintro ⟨⟩
      obtain ⟨r2000, h2001, hF⟩ := ob_some hF
      refine Wo.x (o_yd (k := 0) (k1 := 0) (γA := Unit) (GA := (fun g : Unit => (match g with | _ => ⟨.normal, [(2, ptr b23 0), (3, ptr b24 0), (6, ptr b25 0), (7, ptr b13 0), (8, ptr b14 0), (9, ptr b1334 0), (10, ptr b1335 0), (11, ptr b1340 0), (12, .int .i64 r1904)], (.obj l1352 (rc1353 .ready none) :: .obj b23 (.cells [.map (some b21)] .own) :: .obj b21 (.map (l1786.map (eM (fun n : Int => .int .i64 n) (fun n : Int => .int .i64 n)))) :: .obj b24 (.cells [.map (some b22)] .own) :: .obj b22 (.map (l1787.map (eM (fun n : Int => .int .i64 n) (fun n : Int => .int .i64 n)))) :: .obj b25 (.cells [.func (.func 76) #[] #[ptr b23 0, ptr b24 0, ptr b19 0, ptr b12 0, ptr b25 0, ptr b13 0, ptr b14 0]] .own) :: .obj b19 (.cells [.slice (some ⟨b1342, 0, none⟩) l16.length l16.length] .own) :: .sl (some ⟨b1342, 0, none⟩) 1 l16.length (l16.map (eN .u64)) :: .obj b12 (.cells [.int .u64 ((x6 : Nat) : Int)] .own) :: .obj b13 (.cells [.map (some b20)] .own) :: .obj b20 (.map (l1788.map (eM (fun p : Int × Int => .agg #[.int .i64 p.1, .int .i64 p.2]) (fun b : Bool => .bool b)))) :: .obj b14 (.cells [.int .u64 ((v1789 : Nat) : Int)] .own) :: .obj b1334 (.cells [.int .i64 x1328] .own) :: .obj b1335 (.cells [.int .i64 x1329] .own) :: .obj b1340 (.cells [.int .i64 v1790] .own) :: .obj b1348 (.cells [.int .u64 ((v1785 : Nat) : Int)] .own) :: rest)⟩ : En))) (γ := Unit) (G := fun g => (fun (r : List (Int × Int) × List (Int × Int) × List ((Int × Int) × Bool) × Nat × Int) (g : Unit) => (match r, g with | (l1950, l1951, l1952, v1953, v1954), _ => ⟨.normal, [], (.obj l1352 (rc1353 .busy none) :: .obj b23 (.cells [.map (some b21)] .own) :: .obj b21 (.map (l1950.map (eM (fun n : Int => .int .i64 n) (fun n : Int => .int .i64 n)))) :: .obj b24 (.cells [.map (some b22)] .own) :: .obj b22 (.map (l1951.map (eM (fun n : Int => .int .i64 n) (fun n : Int => .int .i64 n)))) :: .obj b19 (.cells [.slice (some ⟨b1342, 0, none⟩) l16.length l16.length] .own) :: .sl (some ⟨b1342, 0, none⟩) 1 l16.length (l16.map (eN .u64)) :: .obj b12 (.cells [.int .u64 ((x6 : Nat) : Int)] .own) :: .obj b25 (.cells [.func (.func 76) #[] #[ptr b23 0, ptr b24 0, ptr b19 0, ptr b12 0, ptr b25 0, ptr b13 0, ptr b14 0]] .own) :: .obj b13 (.cells [.map (some b20)] .own) :: .obj b20 (.map (l1952.map (eM (fun p : Int × Int => .agg #[.int .i64 p.1, .int .i64 p.2]) (fun b : Bool => .bool b)))) :: .obj b14 (.cells [.int .u64 ((v1953 : Nat) : Int)] .own) :: .obj b1334 (.cells [.int .i64 x1328] .own) :: .obj b1335 (.cells [.int .i64 x1329] .own) :: .obj b1340 (.cells [.int .i64 v1954] .own) :: .obj b1348 (.cells [.int .u64 ((v1785 : Nat) : Int)] .own) :: rest)⟩ : En)) r2000 g) rfl rfl rfl h1356 h1355 rfl ?_ (fun _ => rfl) (fun _ => rfl) ?_ (fun y => rfl)) gn rfl ?_
      ·clear hF h2001
       refine Wk.region <| Wo.od (o_as rfl) rfl <| Wo.nil ?_
       exact At.en () rfl (sc rfl (sc rfl (sc rfl (sc rfl (sc rfl (sc rfl (sc rfl (sc rfl (sc rfl sn))))))))) (Turn.picksR 16 [0, 2, 3, 4, 5, 9, 6, 7, 8, 10, 11, 12, 13, 14, 15, 1] rfl rfl rfl)
      ·clear hF
       revert r2000
       intro r hF
       rintro ⟨⟩
       refine Wk.block <| Wk.seq <| Wk.seq <| Wk.region <| Wo.od (o_mv rfl) rfl <| Wo.od (o_ld (k := 13) t3 rfl rfl rfl) rfl <| Wo.od (o_bi rfl rfl (bin_eql _ _ _)) rfl <| Wo.nil <| At.tn ?_
       rcases br_some hF with ⟨h1955, hF⟩ | ⟨h1955, hF⟩
       ·refine Wk.condT rfl h1955 <| Wk.exit <| At.te <| At.be ?_
        cases hF
        exact At.en () rfl sn (Turn.picksR 16 [0, 1, 2, 3, 4, 6, 7, 8, 5, 9, 10, 11, 12, 13, 14, 15] rfl rfl rfl)
       ·refine Wk.condF rfl h1955 <| Wk.skip <| At.tn <| Wk.seq <| Wk.seq <| Wk.region <| Wo.od (o_ld (k := 1) t94 rfl rfl rfl) rfl <| Wo.od (o_mv rfl) rfl ?_
        obtain ⟨y1956, h1957, hF⟩ := ob_some hF
        refine Wo.od (o_lkv (q := 2) (xs := l1786) (k := r1904) (vE := (fun n : Int => .int .i64 n)) (z0 := (0 : Int)) u94 (keyI u3) z3 rfl rfl rfl rfl h1957) rfl <| Wo.od (o_bi rfl rfl (bin_gtr _ _ _)) rfl <| Wo.nil <| At.tn ?_
        rcases br_some hF with ⟨h1958, hF⟩ | ⟨h1958, hF⟩
        ·refine Wk.condT rfl h1958 <| Wk.seq <| Wk.region <| Wo.od (o_ld (k := 3) t94 rfl rfl rfl) rfl <| Wo.od (o_ld (k := 12) t3 rfl rfl rfl) rfl <| Wo.od (o_ld (k := 3) t94 rfl rfl rfl) rfl <| Wo.od (o_ld (k := 12) t3 rfl rfl rfl) rfl ?_
         obtain ⟨y1959, h1960, hF⟩ := ob_some hF
         refine Wo.od (o_lkv (q := 4) (xs := l1787) (k := x1328) (vE := (fun n : Int => .int .i64 n)) (z0 := (0 : Int)) u94 (keyI u3) z3 rfl rfl rfl rfl h1960) rfl <| Wo.od (o_ld (k := 1) t94 rfl rfl rfl) rfl <| Wo.od (o_mv rfl) rfl ?_
         obtain ⟨y1961, h1962, hF⟩ := ob_some hF
         refine Wo.od (o_lkv (q := 2) (xs := l1786) (k := r1904) (vE := (fun n : Int => .int .i64 n)) (z0 := (0 : Int)) u94 (keyI u3) z3 rfl rfl rfl rfl h1962) rfl <| Wo.od (o_bu rfl rfl (bu_mi _ _)) rfl <| Wo.o0 (o_mu (q := 4) (xs := l1787) (k := x1328) (v := mi y1959 y1961) (vE := (fun n : Int => .int .i64 n)) u94 (keyI u3) rfl rfl rfl rfl) <| Wo.nil <| At.tn <| Wk.exit <| At.te <| At.be ?_
         cases hF
         exact At.en () rfl sn (Turn.picksR 16 [0, 1, 2, 3, 4, 6, 7, 8, 5, 9, 10, 11, 12, 13, 14, 15] rfl rfl rfl)
        ·refine Wk.condF rfl h1958 <| Wk.skip <| At.tn <| Wk.seq <| Wk.region <| Wo.od (o_ld (k := 14) t3 rfl rfl rfl) rfl <| Wo.od (o_bi rfl rfl (bin_add _ _ _)) rfl <| Wo.o0 (o_st (k := 14) t3 rfl rfl rfl rfl rfl) <| Wo.nil <| At.tn <| Wk.seq <| Wk.region <| Wo.od (o_ld (k := 5) t108 rfl rfl rfl) rfl <| Wo.od (o_mv rfl) rfl <| Wo.od (o_ld (k := 12) t3 rfl rfl rfl) rfl ?_
         obtain ⟨⟨l1963, l1964, l1965, v1966⟩, h1967, hF⟩ := ob_some hF
         refine Wo.turn (Turn.picksR 16 [1, 2, 3, 4, 6, 7, 8, 5, 9, 10, 11, 0, 12, 13, 14, 15] rfl rfl rfl) ?_
         refine Wo.x (o_cs (α := Unit) (V := fun _ => .tuple #[]) (N := fun _ => (.obj b23 (.cells [.map (some b21)] .own) :: .obj b21 (.map (l1963.map (eM (fun n : Int => .int .i64 n) (fun n : Int => .int .i64 n)))) :: .obj b24 (.cells [.map (some b22)] .own) :: .obj b22 (.map (l1964.map (eM (fun n : Int => .int .i64 n) (fun n : Int => .int .i64 n)))) :: .obj b19 (.cells [.slice (some ⟨b1342, 0, none⟩) l16.length l16.length] .own) :: .sl (some ⟨b1342, 0, none⟩) 1 l16.length (l16.map (eN .u64)) :: .obj b12 (.cells [.int .u64 ((x6 : Nat) : Int)] .own) :: .obj b25 (.cells [.func (.func 76) #[] #[ptr b23 0, ptr b24 0, ptr b19 0, ptr b12 0, ptr b25 0, ptr b13 0, ptr b14 0]] .own) :: .obj b13 (.cells [.map (some b20)] .own) :: .obj b20 (.map (l1965.map (eM (fun p : Int × Int => .agg #[.int .i64 p.1, .int .i64 p.2]) (fun b : Bool => .bool b)))) :: .obj b14 (.cells [.int .u64 ((v1966 : Nat) : Int)] .own) :: .obj l1352 (rc1353 .busy none) :: .obj b1334 (.cells [.int .i64 x1328] .own) :: .obj b1335 (.cells [.int .i64 x1329] .own) :: .obj b1340 (.cells [.int .i64 (IntKind.wrap .i64 (v1790 + 1))] .own) :: .obj b1348 (.cells [.int .u64 ((v1785 : Nat) : Int)] .own) :: rest)) rfl rfl (fun m hm => ih l1786 l1787 l1788 v1789 r1904 x1328 l1963 l1964 l1965 v1966 h1967 (.obj l1352 (rc1353 .busy none) :: .obj b1334 (.cells [.int .i64 x1328] .own) :: .obj b1335 (.cells [.int .i64 x1329] .own) :: .obj b1340 (.cells [.int .i64 (IntKind.wrap .i64 (v1790 + 1))] .own) :: .obj b1348 (.cells [.int .u64 ((v1785 : Nat) : Int)] .own) :: rest) m hm)) gn rfl fun _ => ?_
         refine Wo.nil <| At.tn <| Wk.seq <| Wk.region <| Wo.od (o_ld (k := 2) t94 rfl rfl rfl) rfl <| Wo.od (o_ld (k := 12) t3 rfl rfl rfl) rfl <| Wo.od (o_ld (k := 2) t94 rfl rfl rfl) rfl <| Wo.od (o_ld (k := 12) t3 rfl rfl rfl) rfl ?_
         obtain ⟨y1968, h1969, hF⟩ := ob_some hF
         refine Wo.od (o_lkv (q := 3) (xs := l1964) (k := x1328) (vE := (fun n : Int => .int .i64 n)) (z0 := (0 : Int)) u94 (keyI u3) z3 rfl rfl rfl rfl h1969) rfl <| Wo.od (o_ld (k := 2) t94 rfl rfl rfl) rfl <| Wo.od (o_mv rfl) rfl ?_
         obtain ⟨y1970, h1971, hF⟩ := ob_some hF
         refine Wo.od (o_lkv (q := 3) (xs := l1964) (k := r1904) (vE := (fun n : Int => .int .i64 n)) (z0 := (0 : Int)) u94 (keyI u3) z3 rfl rfl rfl rfl h1971) rfl <| Wo.od (o_bu rfl rfl (bu_mi _ _)) rfl <| Wo.o0 (o_mu (q := 3) (xs := l1964) (k := x1328) (v := mi y1968 y1970) (vE := (fun n : Int => .int .i64 n)) u94 (keyI u3) rfl rfl rfl rfl) <| Wo.nil <| At.tn <| Wk.seq ?_
         obtain ⟨l1977, h1983, hF⟩ := ob_some hF
         refine Wk.cut (G := (fun (r : List ((Int × Int) × Bool)) (g : Unit) => match r, g with | l1977, _ => ⟨.normal, [(2, ptr b23 0), (3, ptr b24 0), (6, ptr b25 0), (7, ptr b13 0), (8, ptr b14 0), (9, ptr b1334 0), (10, ptr b1335 0), (11, ptr b1340 0), (12, .int .i64 r1904)], (.obj l1352 (rc1353 .busy none) :: .obj b23 (.cells [.map (some b21)] .own) :: .obj b21 (.map (l1963.map (eM (fun n : Int => .int .i64 n) (fun n : Int => .int .i64 n)))) :: .obj b24 (.cells [.map (some b22)] .own) :: .obj b22 (.map ((mput l1964 x1328 (mi y1968 y1970)).map (eM (fun n : Int => .int .i64 n) (fun n : Int => .int .i64 n)))) :: .obj b25 (.cells [.func (.func 76) #[] #[ptr b23 0, ptr b24 0, ptr b19 0, ptr b12 0, ptr b25 0, ptr b13 0, ptr b14 0]] .own) :: .obj b19 (.cells [.slice (some ⟨b1342, 0, none⟩) l16.length l16.length] .own) :: .sl (some ⟨b1342, 0, none⟩) 1 l16.length (l16.map (eN .u64)) :: .obj b12 (.cells [.int .u64 ((x6 : Nat) : Int)] .own) :: .obj b13 (.cells [.map (some b20)] .own) :: .obj b20 (.map (l1977.map (eM (fun p : Int × Int => .agg #[.int .i64 p.1, .int .i64 p.2]) (fun b : Bool => .bool b)))) :: .obj b14 (.cells [.int .u64 ((v1966 : Nat) : Int)] .own) :: .obj b1334 (.cells [.int .i64 x1328] .own) :: .obj b1335 (.cells [.int .i64 x1329] .own) :: .obj b1340 (.cells [.int .i64 (IntKind.wrap .i64 (v1790 + 1))] .own) :: .obj b1348 (.cells [.int .u64 ((v1785 : Nat) : Int)] .own) :: rest)⟩) l1977) ?_ ?_
         ·clear hF
          revert l1977
          intro r hF
          refine Wk.seq <| Wk.region <| Wo.od (o_ld (k := 2) t94 rfl rfl rfl) rfl <| Wo.od (o_mv rfl) rfl ?_
          obtain ⟨y1978, h1979, hF⟩ := ob_some hF
          refine Wo.od (o_lkv (q := 3) (xs := (mput l1964 x1328 (mi y1968 y1970))) (k := r1904) (vE := (fun n : Int => .int .i64 n)) (z0 := (0 : Int)) u94 (keyI u3) z3 rfl rfl rfl rfl h1979) rfl <| Wo.od (o_ld (k := 0) t94 rfl rfl rfl) rfl <| Wo.od (o_ld (k := 12) t3 rfl rfl rfl) rfl ?_
          obtain ⟨y1980, h1981, hF⟩ := ob_some hF
          refine Wo.od (o_lkv (q := 1) (xs := l1963) (k := x1328) (vE := (fun n : Int => .int .i64 n)) (z0 := (0 : Int)) u94 (keyI u3) z3 rfl rfl rfl rfl h1981) rfl <| Wo.od (o_bi rfl rfl (bin_gtr _ _ _)) rfl <| Wo.nil <| At.tn ?_
          rcases br_some hF with ⟨h1982, hF⟩ | ⟨h1982, hF⟩
          ·refine Wk.condT rfl h1982 <| Wk.region <| Wo.od (o_ld (k := 8) t87 rfl rfl rfl) rfl <| Wo.od (o_ld (k := 12) t3 rfl rfl rfl) rfl <| Wo.od (o_mv rfl) rfl <| Wo.od (o_bu rfl rfl (bu_mi _ _)) rfl <| Wo.od (o_ld (k := 12) t3 rfl rfl rfl) rfl <| Wo.od (o_mv rfl) rfl <| Wo.od (o_bu rfl rfl (bu_ma _ _)) rfl <| Wo.od (o_bd rfl z26 rfl (bd_s bs26 rfl rfl rfl)) rfl <| Wo.o0 (o_mu (q := 9) (xs := l1965) (k := (mi x1328 r1904, ma x1328 r1904)) (v := true) (vE := (fun b : Bool => .bool b)) u87 (keyP u26 t3.known t3.size t3.agg u3) rfl rfl rfl rfl) ?_
           refine Wo.nil ?_
           cases hF
           exact At.en () rfl (sc rfl (sc rfl (sc rfl (sc rfl (sc rfl (sc rfl (sc rfl (sc rfl (sc rfl sn))))))))) (Turn.picksR 16 [11, 0, 1, 2, 3, 7, 4, 5, 6, 8, 9, 10, 12, 13, 14, 15] rfl rfl rfl)
          ·refine Wk.condF rfl h1982 <| Wk.skip ?_
           have hr := Option.some.inj hF
           subst r
           exact At.en () rfl (sc rfl (sc rfl (sc rfl (sc rfl (sc rfl (sc rfl (sc rfl (sc rfl (sc rfl sn))))))))) (Turn.picksR 16 [11, 0, 1, 2, 3, 7, 4, 5, 6, 8, 9, 10, 12, 13, 14, 15] rfl rfl rfl)
         ·clear h1983
          rintro ⟨⟩
          refine At.tn <| Wk.seq ?_
          obtain ⟨v1990, h1996, hF⟩ := ob_some hF
          refine Wk.cut (G := (fun (r : Bool) (g : Unit) => match r, g with | v1990, _ => ⟨.normal, [(2, ptr b23 0), (3, ptr b24 0), (6, ptr b25 0), (7, ptr b13 0), (8, ptr b14 0), (9, ptr b1334 0), (10, ptr b1335 0), (11, ptr b1340 0), (12, .int .i64 r1904), (87, .bool v1990)], (.obj l1352 (rc1353 .busy none) :: .obj b23 (.cells [.map (some b21)] .own) :: .obj b21 (.map (l1963.map (eM (fun n : Int => .int .i64 n) (fun n : Int => .int .i64 n)))) :: .obj b24 (.cells [.map (some b22)] .own) :: .obj b22 (.map ((mput l1964 x1328 (mi y1968 y1970)).map (eM (fun n : Int => .int .i64 n) (fun n : Int => .int .i64 n)))) :: .obj b25 (.cells [.func (.func 76) #[] #[ptr b23 0, ptr b24 0, ptr b19 0, ptr b12 0, ptr b25 0, ptr b13 0, ptr b14 0]] .own) :: .obj b19 (.cells [.slice (some ⟨b1342, 0, none⟩) l16.length l16.length] .own) :: .sl (some ⟨b1342, 0, none⟩) 1 l16.length (l16.map (eN .u64)) :: .obj b12 (.cells [.int .u64 ((x6 : Nat) : Int)] .own) :: .obj b13 (.cells [.map (some b20)] .own) :: .obj b20 (.map (l1977.map (eM (fun p : Int × Int => .agg #[.int .i64 p.1, .int .i64 p.2]) (fun b : Bool => .bool b)))) :: .obj b14 (.cells [.int .u64 ((v1966 : Nat) : Int)] .own) :: .obj b1334 (.cells [.int .i64 x1328] .own) :: .obj b1335 (.cells [.int .i64 x1329] .own) :: .obj b1340 (.cells [.int .i64 (IntKind.wrap .i64 (v1790 + 1))] .own) :: .obj b1348 (.cells [.int .u64 ((v1785 : Nat) : Int)] .own) :: rest)⟩) v1990) ?_ ?_
          ·clear hF
           revert v1990
           intro r hF
           refine Wk.region <| Wo.od (o_ld (k := 13) t3 rfl rfl rfl) rfl <| Wo.od (o_bi rfl rfl (bin_geq _ _ _)) rfl <| Wo.od (o_mv rfl) rfl ?_
           rcases br_some hF with ⟨h1991, hF⟩ | ⟨h1991, hF⟩
           ·refine Wo.og (o_ld (k := 3) t94 rfl rfl rfl) (gg rfl rfl (eTT h1991)) rfl <| Wo.og (o_mv rfl) (gg rfl rfl (eTT h1991)) rfl ?_
            obtain ⟨y1992, h1993, hF⟩ := ob_some hF
            refine Wo.og (o_lkv (q := 4) (xs := (mput l1964 x1328 (mi y1968 y1970))) (k := r1904) (vE := (fun n : Int => .int .i64 n)) (z0 := (0 : Int)) u94 (keyI u3) z3 rfl rfl rfl rfl h1993) (gg rfl rfl (eTT h1991)) rfl <| Wo.og (o_ld (k := 1) t94 rfl rfl rfl) (gg rfl rfl (eTT h1991)) rfl <| Wo.og (o_ld (k := 12) t3 rfl rfl rfl) (gg rfl rfl (eTT h1991)) rfl ?_
            obtain ⟨y1994, h1995, hF⟩ := ob_some hF
            refine Wo.og (o_lkv (q := 2) (xs := l1963) (k := x1328) (vE := (fun n : Int => .int .i64 n)) (z0 := (0 : Int)) u94 (keyI u3) z3 rfl rfl rfl rfl h1995) (gg rfl rfl (eTT h1991)) rfl <| Wo.og (o_bi rfl rfl (bin_geq _ _ _)) (gg rfl rfl (eTT h1991)) rfl <| Wo.od (o_pt rfl h1991 rfl) rfl <| Wo.nil ?_
            cases hF
            exact At.en () rfl (sc rfl (sc rfl (sc rfl (sc rfl (sc rfl (sc rfl (sc rfl (sc rfl (sc rfl (sc rfl sn)))))))))) (Turn.picksR 16 [0, 1, 2, 3, 4, 5, 6, 7, 8, 9, 10, 11, 12, 13, 14, 15] rfl rfl rfl)
           ·refine Wo.s (gg rfl rfl (eFT h1991)) rfl <| Wo.s (gg rfl rfl (eFT h1991)) rfl <| Wo.s (gg rfl rfl (eFT h1991)) rfl <| Wo.s (gg rfl rfl (eFT h1991)) rfl <| Wo.s (gg rfl rfl (eFT h1991)) rfl <| Wo.s (gg rfl rfl (eFT h1991)) rfl <| Wo.s (gg rfl rfl (eFT h1991)) rfl <| Wo.od (o_pf rfl h1991 rfl) rfl <| Wo.nil ?_
            cases hF
            exact At.en () rfl (sc rfl (sc rfl (sc rfl (sc rfl (sc rfl (sc rfl (sc rfl (sc rfl (sc rfl (sc rfl sn)))))))))) (Turn.picksR 16 [0, 1, 2, 3, 4, 5, 6, 7, 8, 9, 10, 11, 12, 13, 14, 15] rfl rfl rfl)
          ·clear h1996
           rintro ⟨⟩
           refine At.tn ?_
           rcases br_some hF with ⟨h1998, hF⟩ | ⟨h1998, hF⟩
           ·refine Wk.condT rfl h1998 <| Wk.draw (by kernel_rfl) <| Wo.od (o_ld (k := 11) t28 rfl rfl rfl) rfl <| Wo.od (o_ld (k := 12) t3 rfl rfl rfl) rfl ?_
            obtain ⟨h1999, hF⟩ := gd_some hF
            refine Wo.od (o_bi rfl rfl (ub_shl rfl _ _ h1999)) rfl <| Wo.od (o_bi rfl rfl (ub_or rfl _ _)) rfl <| Wo.o0 (o_st (k := 11) t28 rfl rfl rfl rfl rfl) <| Wo.nil <| At.bn ?_
            cases hF
            exact At.en () rfl sn (Turn.picksR 16 [0, 1, 2, 3, 4, 6, 7, 8, 5, 9, 10, 11, 12, 13, 14, 15] rfl rfl rfl)
           ·refine Wk.condF rfl h1998 <| Wk.skip <| At.bn ?_
            cases hF
            exact At.en () rfl sn (Turn.picksR 16 [0, 1, 2, 3, 4, 6, 7, 8, 5, 9, 10, 11, 12, 13, 14, 15] rfl rfl rfl)
      ·clear h2001
       obtain ⟨l1950, l1951, l1952, v1953, v1954⟩ := r2000
       rintro ⟨⟩
       refine Wo.od (o_un rfl rfl) rfl <| Wo.nil <| At.tn <| Wk.condF rfl rfl <| Wk.skip <| At.bn <| At.tn <| Wk.region <| Wo.od (o_ld (k := 15) t28 rfl rfl rfl) rfl <| Wo.od (o_ld (k := 15) t28 rfl rfl rfl) rfl <| Wo.od (o_bi rfl rfl (ub_sub rfl _ _)) rfl <| Wo.od (o_bi rfl rfl (ub_and rfl _ _)) rfl <| Wo.o0 (o_st (k := 15) t28 rfl rfl rfl rfl rfl) <| Wo.nil ?_
       cases hF
       exact At.en () rfl (sc rfl (sc rfl sn)) (Turn.picksR 16 [0, 15, 1, 2, 3, 4, 5, 6, 7, 8, 9, 10, 11, 12, 13, 14] rfl rfl rfl)
     ·refine Wk.condF rfl h1902 <| Wk.exit <| At.te ?_
      cases hF
      exact At.en () rfl sn (Turn.picksR 16 [0, 2, 3, 4, 5, 6, 7, 8, 9, 10, 11, 12, 13, 14, 15] rfl rfl rfl)
    ·clear h2002
     obtain ⟨l1897, l1898, l1899, v1900, v1901⟩ := r2003
     rintro ⟨⟩
     refine At.be ?_
     cases hF
     exact At.fin .nil fun m' hm => ⟨(), (Turn.picksR 15 [0, 1, 2, 3, 4, 5, 6, 7, 8, 9, 10, 11, 12, 13, 14] rfl rfl rfl) m' hm⟩
   ·clear h2005
    obtain ⟨l1678, l1679, l1680, v1681, v1682⟩ := r2004
    rintro ⟨⟩
    change At _ .normal _ _ _
    refine At.bn <| At.tn <| Wk.seq ?_
    obtain ⟨v2007, h2009, hF⟩ := ob_some hF
    refine Wk.cut (G := (fun (r : Bool) (g : Unit) => match r, g with | v2007, _ => ⟨.normal, [(8, ptr b14 0), (9, ptr b1334 0), (97, .bool v2007)], (.obj b14 (.cells [.int .u64 ((v1681 : Nat) : Int)] .own) :: .obj b1334 (.cells [.int .i64 x1328] .own) :: .obj b23 (.cells [.map (some b21)] .own) :: .obj b21 (.map (l1678.map (eM (fun n : Int => .int .i64 n) (fun n : Int => .int .i64 n)))) :: .obj b24 (.cells [.map (some b22)] .own) :: .obj b22 (.map (l1679.map (eM (fun n : Int => .int .i64 n) (fun n : Int => .int .i64 n)))) :: .obj b19 (.cells [.slice (some ⟨b1342, 0, none⟩) l16.length l16.length] .own) :: .sl (some ⟨b1342, 0, none⟩) 1 l16.length (l16.map (eN .u64)) :: .obj b12 (.cells [.int .u64 ((x6 : Nat) : Int)] .own) :: .obj b25 (.cells [.func (.func 76) #[] #[ptr b23 0, ptr b24 0, ptr b19 0, ptr b12 0, ptr b25 0, ptr b13 0, ptr b14 0]] .own) :: .obj b13 (.cells [.map (some b20)] .own) :: .obj b20 (.map (l1680.map (eM (fun p : Int × Int => .agg #[.int .i64 p.1, .int .i64 p.2]) (fun b : Bool => .bool b)))) :: rest)⟩) v2007) ?_ ?_
    ·clear hF
     revert v2007
     intro r hF
     refine Wk.region <| Wo.od (o_ld (k := 12) t3 rfl rfl rfl) rfl <| Wo.od (o_bi rfl rfl (bin_lss _ _ _)) rfl <| Wo.od (o_mv rfl) rfl ?_
     rcases br_some hF with ⟨h2008, hF⟩ | ⟨h2008, hF⟩
     ·refine Wo.og (o_ld (k := 13) t3 rfl rfl rfl) (gg rfl rfl (eTT h2008)) rfl <| Wo.og (o_bi rfl rfl (bin_gtr _ _ _)) (gg rfl rfl (eTT h2008)) rfl <| Wo.od (o_pt rfl h2008 rfl) rfl <| Wo.nil ?_
      cases hF
      exact At.en () rfl (sc rfl (sc rfl (sc rfl sn))) (Turn.picksR 14 [10, 11, 0, 1, 2, 3, 4, 5, 6, 7, 8, 9] rfl rfl rfl)
     ·refine Wo.s (gg rfl rfl (eFT h2008)) rfl <| Wo.s (gg rfl rfl (eFT h2008)) rfl <| Wo.od (o_pf rfl h2008 rfl) rfl <| Wo.nil ?_
      cases hF
      exact At.en () rfl (sc rfl (sc rfl (sc rfl sn))) (Turn.picksR 14 [10, 11, 0, 1, 2, 3, 4, 5, 6, 7, 8, 9] rfl rfl rfl)
    ·clear h2009
     rintro ⟨⟩
     refine At.tn ?_
     rcases br_some hF with ⟨h2011, hF⟩ | ⟨h2011, hF⟩
     ·refine Wk.condT rfl h2011 <| Wk.draw (by kernel_rfl) <| Wo.od (o_ld (k := 0) t28 rfl rfl rfl) rfl <| Wo.od (o_ld (k := 1) t3 rfl rfl rfl) rfl ?_
      obtain ⟨h2012, hF⟩ := gd_some hF
      refine Wo.od (o_bi rfl rfl (ub_shl rfl _ _ h2012)) rfl <| Wo.od (o_bi rfl rfl (ub_or rfl _ _)) rfl <| Wo.o0 (o_st (k := 0) t28 rfl rfl rfl rfl rfl) <| Wo.nil ?_
      cases hF
      exact At.fin .nil fun m' hm => ⟨(), rfl, (Turn.picksR 12 [2, 3, 4, 5, 6, 7, 8, 9, 10, 11, 0] rfl rfl rfl) m' hm⟩
     ·refine Wk.condF rfl h2011 <| Wk.skip ?_
      cases hF
      exact At.fin .nil fun m' hm => ⟨(), rfl, (Turn.picksR 12 [2, 3, 4, 5, 6, 7, 8, 9, 10, 11, 0] rfl rfl rfl) m' hm⟩
theorem f18_ok (n : Nat) (x1 : Int) (l2 : List (Int × Int)) (x6 : Nat) (a3 : Option Addr) (c4 : Nat) (r : List (Int × Int) × Int) (hF : F18 n x1 l2 x6 = some r) (m : AMem) (hG : Gl m) (h5 : Rd m a3 c4 2 l2.length (l2.map (eP (eI .i64) (eI .i64)))) :
  CallA E18w 18 [.agg #[.int .i64 x1, .slice a3 l2.length c4], .int .u64 ((x6 : Nat) : Int)] m (fun v m' => ∃ x : Option Addr × Nat, v = .tuple #[.slice x.1 x.2 x.2, .int .i64 r.2] ∧ Hp m m' [.sl x.1 2 x.2 (r.1.map (eP (eI .i64) (eI .i64)))]) := by
 unfold F18 at hF
 refine call_wk (m0 := m) (ps := [.rd a3 c4 2 l2.length (l2.map (eP (eI .i64) (eI .i64)))]) (N := 40) (rs := [.tmp 4, .tmp 5]) rfl Tryd.func18 rfl rfl rfl ((Hp.start m).inn rfl h5) <| Wk.seq <| Wk.region <| Wo.x (o_bx rfl) gn rfl fun b7 => ?_
 refine Wo.od (o_as rfl) rfl <| Wo.od (o_as rfl) rfl <| Wo.nil <| At.tn <| Wk.seq <| Wk.seq <| Wk.region <| Wo.od (o_ld (k := 0) t25 rfl rfl rfl) rfl <| Wo.od (o_mv rfl) rfl ?_
 obtain ⟨r9, h8, hF⟩ := ob_some hF
 refine Wo.x (o_cl rfl rfl (fun m hm => f55_ok n x1 l2 x6 a3 c4 _ h8 m (hm.rd (k := 1) rfl (.rd _ _ _ _ _))) fun _ => rfl) gn rfl ?_
 rintro ⟨⟩
 refine Wo.od (o_as rfl) rfl <| Wo.nil <| At.tn <| Wk.seq <| Wk.region <| Wo.od (o_mv rfl) rfl <| Wo.od (o_bi rfl rfl (ib_neq _ _)) rfl <| Wo.nil <| At.tn ?_
 rcases br_some hF with ⟨h10, hF⟩ | ⟨h10, hF⟩
 ·refine Wk.condT rfl h10 <| Wk.seq <| Wk.region <| Wo.od (o_mv rfl) rfl <| Wo.od (o_as rfl) rfl <| Wo.od (o_as rfl) rfl <| Wo.nil <| At.tn <| Wk.ret <| At.tr ?_
  cases hF
  exact At.ret (.tmp rfl (.tmp rfl .nil)) fun m' hm => ⟨(none, 0), rfl, (Turn.trans (Turn.nil 2 rfl) (Turn.picks [0] rfl rfl)) m' hm⟩
 ·refine Wk.condF rfl h10 <| Wk.skip <| At.tn <| Wk.seq <| Wk.region <| Wo.od (o_ld (k := 0) t25 rfl rfl rfl) rfl <| Wo.od (o_mv rfl) rfl ?_
  obtain ⟨r2414, h2415, hF⟩ := ob_some hF
  refine Wo.x (o_cs (α := Nat) (V := fun g => (fun (r : List ((Int × Int) × Bool) × Nat) (g : Nat) => match r, g with | (l2196, v2197), b2195 => (.tuple #[.map (some b2195), .int .u64 ((v2197 : Nat) : Int)] : Value)) r2414 g) (N := fun g => (fun (r : List ((Int × Int) × Bool) × Nat) (g : Nat) => match r, g with | (l2196, v2197), b2195 => ([.obj b2195 (.map (l2196.map (eM (fun p : Int × Int => .agg #[.int .i64 p.1, .int .i64 p.2]) (fun b : Bool => .bool b)))), .obj b7 (.cells [.int .i64 x1, .slice a3 l2.length c4] .own), .rd a3 c4 2 l2.length (l2.map (eP (eI .i64) (eI .i64)))] : List Pc)) r2414 g) rfl rfl (fun m hm => ?_)) gn rfl ?_
  ·clear hF
   revert r2414
   intro r hF
   refine call_wk (N := 29) (rs := [.cell 4 87, .cell 5 28]) rfl Tryd.func59 rfl rfl rfl hm <| Wk.seq <| Wk.region <| Wo.x (o_bx rfl) gn rfl fun b2198 => ?_
   refine Wo.x (o_bx rfl) gn rfl fun b2199 => ?_
   refine Wo.x (o_al z87 rfl) gn rfl fun b2200 => ?_
   refine Wo.x (o_al z28 rfl) gn rfl fun b2201 => ?_
   refine Wo.nil <| At.tn <| Wk.seq <| Wk.region <| Wo.od (o_ld (k := 3) t25 rfl rfl rfl) rfl ?_
   obtain ⟨l2203, h2202, hF⟩ := ob_some hF
   refine Wo.x (o_cl rfl rfl (fun m hm => f75_ok n x1 l2 a3 c4 _ h2202 m (hm.rd (k := 5) rfl (.rd _ _ _ _ _))) fun _ => rfl) gn rfl ?_
   rintro ⟨a2204, n2205⟩
   refine Wo.len (k := 0) (xs := l2203) rfl ?_
   rintro rfl
   refine Wo.x (o_al z36 rfl) gn rfl fun b2206 => ?_
   refine Wo.o0 (o_st (k := 0) t36 rfl rfl rfl rfl rfl) <| Wo.nil <| At.tn <| Wk.seq <| Wk.region <| Wo.x o_mm gn rfl fun b2207 => ?_
   refine Wo.o0 (o_st (k := 4) t87 rfl rfl rfl rfl rfl) <| Wo.nil <| At.tn <| Wk.seq <| Wk.region <| Wo.x o_mm gn rfl fun b2208 => ?_
   refine Wo.x o_mm gn rfl fun b2209 => ?_
   refine Wo.x (o_al z94 rfl) gn rfl fun b2210 => ?_
   refine Wo.x (o_al z94 rfl) gn rfl fun b2211 => ?_
   refine Wo.o0 (o_st (k := 1) t94 rfl rfl rfl rfl rfl) <| Wo.o0 (o_st (k := 0) t94 rfl rfl rfl rfl rfl) <| Wo.nil <| At.tn <| Wk.seq <| Wk.region <| Wo.x (o_al z108 rfl) gn rfl fun b2212 => ?_
   refine Wo.nil <| At.tn <| Wk.seq <| Wk.region <| Wo.od (o_mf rfl rfl) rfl <| Wo.o0 (o_st (k := 0) t108 rfl rfl rfl rfl rfl) <| Wo.nil <| At.tn <| Wk.seq <| Wk.seq <| Wk.region <| Wo.od (o_ld (k := 10) t28 rfl rfl rfl) rfl ?_
   obtain ⟨r2219, h2220, hF⟩ := ob_some hF
   refine Wo.x (o_cs (α := Nat) (V := fun g => (fun (r : List ((Int × Int) × Bool) × List (Int × Int) × List (Int × Int)) (g : Nat) => match r, g with | (l2215, l2216, l2217), b2214 => (.func (.func 78) #[] #[ptr b2214 0] : Value)) r2219 g) (N := fun g => (fun (r : List ((Int × Int) × Bool) × List (Int × Int) × List (Int × Int)) (g : Nat) => match r, g with | (l2215, l2216, l2217), b2214 => ([.obj b2214 (.cells [.int .u64 ((x6 : Nat) : Int)] .own), .obj b7 (.cells [.int .i64 x1, .slice a3 l2.length c4] .own), .rd a3 c4 2 l2.length (l2.map (eP (eI .i64) (eI .i64))), .obj b2200 (.cells [.map (some b2207)] .own), .obj b2207 (.map (l2215.map (eM (fun p : Int × Int => .agg #[.int .i64 p.1, .int .i64 p.2]) (fun b : Bool => .bool b)))), .obj b2201 (.cells [.int .u64 ((0 : Nat) : Int)] .own), .obj b2210 (.cells [.map (some b2208)] .own), .obj b2208 (.map (l2216.map (eM (fun n : Int => .int .i64 n) (fun n : Int => .int .i64 n)))), .obj b2212 (.cells [.func (.func 76) #[] #[ptr b2210 0, ptr b2211 0, ptr b2206 0, ptr b2199 0, ptr b2212 0, ptr b2200 0, ptr b2201 0]] .own), .obj b2211 (.cells [.map (some b2209)] .own), .obj b2209 (.map (l2217.map (eM (fun n : Int => .int .i64 n) (fun n : Int => .int .i64 n)))), .obj b2206 (.cells [.slice a2204 l2203.length l2203.length] .own), .sl a2204 1 l2203.length (l2203.map (eN .u64)), .obj b2199 (.cells [.int .u64 ((x6 : Nat) : Int)] .own)] : List Pc)) r2219 g) rfl rfl (fun m hm => ?_)) gn rfl ?_
   ·clear hF
    revert r2219
    intro r hF
    refine call_wk (N := 4) (rs := [.tmp 2]) rfl Tryd.func61 rfl rfl rfl hm <| Wk.seq <| Wk.region <| Wo.x (o_bx rfl) gn rfl fun b2218 => ?_
    refine Wo.od (o_as rfl) rfl <| Wo.nil <| At.tn <| Wk.seq <| Wk.region <| Wo.od (o_mf rfl rfl) rfl <| Wo.od (o_as rfl) rfl <| Wo.nil <| At.tn <| Wk.ret ?_
    cases hF
    exact At.ret (.tmp rfl .nil) fun m' hm => ⟨b2218, rfl, (Turn.picks [0, 13, 14, 10, 6, 9, 3, 5, 1, 2, 4, 7, 8, 11] rfl rfl) m' hm⟩
   ·clear h2220
    obtain ⟨l2215, l2216, l2217⟩ := r2219
    rintro b2214
    refine Wo.nil <| At.tn <| Wk.block ?_
    obtain ⟨r2412, h2413, hF⟩ := ob_some hF
    refine Wk.range (N := 14) (rs := []) (γ := Unit) (X := fun g => (fun (r : List ((Int × Int) × Bool) × Nat × List (Int × Int) × List (Int × Int)) (g : Unit) => (match r, g with | (l2317, v2318, l2319, l2320), _ => ⟨.ready, none, [.obj b7 (.cells [.int .i64 x1, .slice a3 l2.length c4] .own), .rd a3 c4 2 l2.length (l2.map (eP (eI .i64) (eI .i64))), .obj b2200 (.cells [.map (some b2207)] .own), .obj b2207 (.map (l2317.map (eM (fun p : Int × Int => .agg #[.int .i64 p.1, .int .i64 p.2]) (fun b : Bool => .bool b)))), .obj b2201 (.cells [.int .u64 ((v2318 : Nat) : Int)] .own), .obj b2210 (.cells [.map (some b2208)] .own), .obj b2208 (.map (l2319.map (eM (fun n : Int => .int .i64 n) (fun n : Int => .int .i64 n)))), .obj b2212 (.cells [.func (.func 76) #[] #[ptr b2210 0, ptr b2211 0, ptr b2206 0, ptr b2199 0, ptr b2212 0, ptr b2200 0, ptr b2201 0]] .own), .obj b2211 (.cells [.map (some b2209)] .own), .obj b2209 (.map (l2320.map (eM (fun n : Int => .int .i64 n) (fun n : Int => .int .i64 n)))), .obj b2206 (.cells [.slice a2204 l2203.length l2203.length] .own), .sl a2204 1 l2203.length (l2203.map (eN .u64)), .obj b2199 (.cells [.int .u64 ((x6 : Nat) : Int)] .own)]⟩ : Rn)) r2412 g) rfl rfl Tryd.func78 rfl rfl rfl ?_ (fun y => by intro e; cases e) ?_
    ·clear hF
     revert r2412
     intro r hF
     intro t2223 l2221 rc2222 h2224 h2225
     refine Wk.block ?_
     obtain ⟨r2411, h2410, hF⟩ := ob_some hF
     refine Wk.cut (G := (fun (r : List ((Int × Int) × Bool) × Nat × List (Int × Int) × List (Int × Int)) (g : Unit) => match r, g with | (l2381, v2382, l2383, l2384), _ => ⟨(.exit 0), [], [.obj l2221 (rc2222 .ready none), .obj b7 (.cells [.int .i64 x1, .slice a3 l2.length c4] .own), .rd a3 c4 2 l2.length (l2.map (eP (eI .i64) (eI .i64))), .obj b2200 (.cells [.map (some b2207)] .own), .obj b2207 (.map (l2381.map (eM (fun p : Int × Int => .agg #[.int .i64 p.1, .int .i64 p.2]) (fun b : Bool => .bool b)))), .obj b2201 (.cells [.int .u64 ((v2382 : Nat) : Int)] .own), .obj b2210 (.cells [.map (some b2208)] .own), .obj b2208 (.map (l2383.map (eM (fun n : Int => .int .i64 n) (fun n : Int => .int .i64 n)))), .obj b2212 (.cells [.func (.func 76) #[] #[ptr b2210 0, ptr b2211 0, ptr b2206 0, ptr b2199 0, ptr b2212 0, ptr b2200 0, ptr b2201 0]] .own), .obj b2211 (.cells [.map (some b2209)] .own), .obj b2209 (.map (l2384.map (eM (fun n : Int => .int .i64 n) (fun n : Int => .int .i64 n)))), .obj b2206 (.cells [.slice a2204 l2203.length l2203.length] .own), .sl a2204 1 l2203.length (l2203.map (eN .u64)), .obj b2199 (.cells [.int .u64 ((x6 : Nat) : Int)] .own)]⟩) r2411) ?_ ?_
     ·refine Wk.weak (fs' := [(0, .func (.yield l2221) #[] #[]), (1, ptr b2214 0)]) (ps' := [.obj l2221 (rc2222 .ready none), .obj b2214 (.cells [.int .u64 ((x6 : Nat) : Int)] .own), .obj b7 (.cells [.int .i64 x1, .slice a3 l2.length c4] .own), .rd a3 c4 2 l2.length (l2.map (eP (eI .i64) (eI .i64))), .obj b2200 (.cells [.map (some b2207)] .own), .obj b2207 (.map (l2215.map (eM (fun p : Int × Int => .agg #[.int .i64 p.1, .int .i64 p.2]) (fun b : Bool => .bool b)))), .obj b2201 (.cells [.int .u64 ((0 : Nat) : Int)] .own), .obj b2210 (.cells [.map (some b2208)] .own), .obj b2208 (.map (l2216.map (eM (fun n : Int => .int .i64 n) (fun n : Int => .int .i64 n)))), .obj b2212 (.cells [.func (.func 76) #[] #[ptr b2210 0, ptr b2211 0, ptr b2206 0, ptr b2199 0, ptr b2212 0, ptr b2200 0, ptr b2201 0]] .own), .obj b2211 (.cells [.map (some b2209)] .own), .obj b2209 (.map (l2217.map (eM (fun n : Int => .int .i64 n) (fun n : Int => .int .i64 n)))), .obj b2206 (.cells [.slice a2204 l2203.length l2203.length] .own), .sl a2204 1 l2203.length (l2203.map (eN .u64)), .obj b2199 (.cells [.int .u64 ((x6 : Nat) : Int)] .own)]) (sc rfl (sc rfl sn)) (Turn.picks [0, 1, 2, 3, 4, 5, 6, 7, 8, 9, 10, 11, 12, 13, 14] rfl rfl) ?_
      refine Wk.loop (σ := Nat × List ((Int × Int) × Bool) × Nat × List (Int × Int) × List (Int × Int)) (ρ := List ((Int × Int) × Bool) × Nat × List (Int × Int) × List (Int × Int)) (γ := Unit) (δ := fun _ => Unit) _ (fun (s : Nat × List ((Int × Int) × Bool) × Nat × List (Int × Int) × List (Int × Int)) (g : Unit) => match s, g with | (v2346, l2347, v2348, l2349, l2350), _ => ⟨.normal, [(0, .func (.yield l2221) #[] #[]), (1, ptr b2214 0)], [.obj l2221 (rc2222 .ready none), .obj b2214 (.cells [.int .u64 ((v2346 : Nat) : Int)] .own), .obj b7 (.cells [.int .i64 x1, .slice a3 l2.length c4] .own), .rd a3 c4 2 l2.length (l2.map (eP (eI .i64) (eI .i64))), .obj b2200 (.cells [.map (some b2207)] .own), .obj b2207 (.map (l2347.map (eM (fun p : Int × Int => .agg #[.int .i64 p.1, .int .i64 p.2]) (fun b : Bool => .bool b)))), .obj b2201 (.cells [.int .u64 ((v2348 : Nat) : Int)] .own), .obj b2210 (.cells [.map (some b2208)] .own), .obj b2208 (.map (l2349.map (eM (fun n : Int => .int .i64 n) (fun n : Int => .int .i64 n)))), .obj b2212 (.cells [.func (.func 76) #[] #[ptr b2210 0, ptr b2211 0, ptr b2206 0, ptr b2199 0, ptr b2212 0, ptr b2200 0, ptr b2201 0]] .own), .obj b2211 (.cells [.map (some b2209)] .own), .obj b2209 (.map (l2350.map (eM (fun n : Int => .int .i64 n) (fun n : Int => .int .i64 n)))), .obj b2206 (.cells [.slice a2204 l2203.length l2203.length] .own), .sl a2204 1 l2203.length (l2203.map (eN .u64)), .obj b2199 (.cells [.int .u64 ((x6 : Nat) : Int)] .own)]⟩) (fun (r : List ((Int × Int) × Bool) × Nat × List (Int × Int) × List (Int × Int)) (g : Unit) => match r, g with | (l2381, v2382, l2383, l2384), _ => ⟨(.exit 0), [], [.obj l2221 (rc2222 .ready none), .obj b7 (.cells [.int .i64 x1, .slice a3 l2.length c4] .own), .rd a3 c4 2 l2.length (l2.map (eP (eI .i64) (eI .i64))), .obj b2200 (.cells [.map (some b2207)] .own), .obj b2207 (.map (l2381.map (eM (fun p : Int × Int => .agg #[.int .i64 p.1, .int .i64 p.2]) (fun b : Bool => .bool b)))), .obj b2201 (.cells [.int .u64 ((v2382 : Nat) : Int)] .own), .obj b2210 (.cells [.map (some b2208)] .own), .obj b2208 (.map (l2383.map (eM (fun n : Int => .int .i64 n) (fun n : Int => .int .i64 n)))), .obj b2212 (.cells [.func (.func 76) #[] #[ptr b2210 0, ptr b2211 0, ptr b2206 0, ptr b2199 0, ptr b2212 0, ptr b2200 0, ptr b2201 0]] .own), .obj b2211 (.cells [.map (some b2209)] .own), .obj b2209 (.map (l2384.map (eM (fun n : Int => .int .i64 n) (fun n : Int => .int .i64 n)))), .obj b2206 (.cells [.slice a2204 l2203.length l2203.length] .own), .sl a2204 1 l2203.length (l2203.map (eN .u64)), .obj b2199 (.cells [.int .u64 ((x6 : Nat) : Int)] .own)]⟩) ?_ (fun _ _ => rfl) (fun r d => by intro e; cases e) _ _ _ h2410 ()
      clear hF h2410
      rintro ⟨v2346, l2347, v2348, l2349, l2350⟩ ⟨⟩ r hF
      unfold L18_1 at hF
      refine Wk.seq <| Wk.seq <| Wk.region <| Wo.od (o_ld (k := 1) t28 rfl rfl rfl) rfl <| Wo.od (o_bi rfl rfl (ub_neq _ _)) rfl <| Wo.nil <| At.tn ?_
      rcases br_some hF with ⟨h2385, hF⟩ | ⟨h2385, hF⟩
      ·refine Wk.condT rfl h2385 <| Wk.skip <| At.tn <| Wk.seq <| Wk.block <| Wk.seq <| Wk.region <| Wo.od (o_mv rfl) rfl <| Wo.od (o_ld (k := 1) t28 rfl rfl rfl) rfl ?_
       obtain ⟨r2387, h2386, hF⟩ := ob_some hF
       refine Wo.x (o_cl rfl rfl (fun m hm => f42_ok n v2346  _ h2386 m (hG.ext hm.ext) ) fun _ => rfl) gn rfl ?_
       rintro ⟨⟩
       obtain ⟨r2408, h2409, hF⟩ := ob_some hF
       refine Wo.x (o_yd (k := 0) (k1 := 0) (γA := Unit) (GA := (fun g : Unit => (match g with | _ => ⟨.normal, [(7, ptr b2210 0), (9, ptr b2212 0), (10, .int .i64 r2387)], [.obj l2221 (rc2222 .ready none), .obj b2210 (.cells [.map (some b2208)] .own), .obj b2208 (.map (l2349.map (eM (fun n : Int => .int .i64 n) (fun n : Int => .int .i64 n)))), .obj b2212 (.cells [.func (.func 76) #[] #[ptr b2210 0, ptr b2211 0, ptr b2206 0, ptr b2199 0, ptr b2212 0, ptr b2200 0, ptr b2201 0]] .own), .obj b2211 (.cells [.map (some b2209)] .own), .obj b2209 (.map (l2350.map (eM (fun n : Int => .int .i64 n) (fun n : Int => .int .i64 n)))), .obj b2206 (.cells [.slice a2204 l2203.length l2203.length] .own), .sl a2204 1 l2203.length (l2203.map (eN .u64)), .obj b2199 (.cells [.int .u64 ((x6 : Nat) : Int)] .own), .obj b2200 (.cells [.map (some b2207)] .own), .obj b2207 (.map (l2347.map (eM (fun p : Int × Int => .agg #[.int .i64 p.1, .int .i64 p.2]) (fun b : Bool => .bool b)))), .obj b2201 (.cells [.int .u64 ((v2348 : Nat) : Int)] .own), .obj b7 (.cells [.int .i64 x1, .slice a3 l2.length c4] .own), .rd a3 c4 2 l2.length (l2.map (eP (eI .i64) (eI .i64))), .obj b2214 (.cells [.int .u64 ((v2346 : Nat) : Int)] .own)]⟩ : En))) (γ := Unit) (G := fun g => (fun (r : List ((Int × Int) × Bool) × Nat × List (Int × Int) × List (Int × Int)) (g : Unit) => (match r, g with | (l2396, v2397, l2398, l2399), _ => ⟨.normal, [], [.obj l2221 (rc2222 .busy none), .obj b7 (.cells [.int .i64 x1, .slice a3 l2.length c4] .own), .rd a3 c4 2 l2.length (l2.map (eP (eI .i64) (eI .i64))), .obj b2200 (.cells [.map (some b2207)] .own), .obj b2207 (.map (l2396.map (eM (fun p : Int × Int => .agg #[.int .i64 p.1, .int .i64 p.2]) (fun b : Bool => .bool b)))), .obj b2201 (.cells [.int .u64 ((v2397 : Nat) : Int)] .own), .obj b2210 (.cells [.map (some b2208)] .own), .obj b2208 (.map (l2398.map (eM (fun n : Int => .int .i64 n) (fun n : Int => .int .i64 n)))), .obj b2212 (.cells [.func (.func 76) #[] #[ptr b2210 0, ptr b2211 0, ptr b2206 0, ptr b2199 0, ptr b2212 0, ptr b2200 0, ptr b2201 0]] .own), .obj b2211 (.cells [.map (some b2209)] .own), .obj b2209 (.map (l2399.map (eM (fun n : Int => .int .i64 n) (fun n : Int => .int .i64 n)))), .obj b2206 (.cells [.slice a2204 l2203.length l2203.length] .own), .sl a2204 1 l2203.length (l2203.map (eN .u64)), .obj b2199 (.cells [.int .u64 ((x6 : Nat) : Int)] .own), .obj b2214 (.cells [.int .u64 ((v2346 : Nat) : Int)] .own)]⟩ : En)) r2408 g) rfl rfl rfl h2225 h2224 rfl ?_ (fun _ => rfl) (fun _ => rfl) ?_ (fun y => rfl)) gn rfl ?_
       ·clear hF h2409
        refine Wk.region <| Wo.od (o_as rfl) rfl <| Wo.nil ?_
        exact At.en () rfl (sc rfl (sc rfl (sc rfl sn))) (Turn.picks [0, 7, 8, 9, 10, 11, 12, 13, 14, 4, 5, 6, 2, 3, 1] rfl rfl)
       ·clear hF
        revert r2408
        intro r hF
        rintro ⟨⟩
        refine Wk.block <| Wk.seq <| Wk.region <| Wo.od (o_ld (k := 1) t94 rfl rfl rfl) rfl <| Wo.od (o_mv rfl) rfl ?_
        obtain ⟨y2400, h2401, hF⟩ := ob_some hF
        refine Wo.od (o_lkv (q := 2) (xs := l2349) (k := r2387) (vE := (fun n : Int => .int .i64 n)) (z0 := (0 : Int)) u94 (keyI u3) z3 rfl rfl rfl rfl h2401) rfl <| Wo.od (o_bi rfl rfl (bin_eql _ _ _)) rfl <| Wo.nil <| At.tn ?_
        rcases br_some hF with ⟨h2402, hF⟩ | ⟨h2402, hF⟩
        ·refine Wk.condT rfl h2402 <| Wk.region <| Wo.od (o_ld (k := 3) t108 rfl rfl rfl) rfl <| Wo.od (o_mv rfl) rfl ?_
         obtain ⟨⟨l2403, l2404, l2405, v2406⟩, h2407, hF⟩ := ob_some hF
         refine Wo.turn (Turn.picks [1, 2, 4, 5, 6, 7, 8, 3, 9, 10, 11, 0, 12, 13, 14] rfl rfl) ?_
         refine Wo.x (o_cs (α := Unit) (V := fun _ => .tuple #[]) (N := fun _ => [.obj b2210 (.cells [.map (some b2208)] .own), .obj b2208 (.map (l2403.map (eM (fun n : Int => .int .i64 n) (fun n : Int => .int .i64 n)))), .obj b2211 (.cells [.map (some b2209)] .own), .obj b2209 (.map (l2404.map (eM (fun n : Int => .int .i64 n) (fun n : Int => .int .i64 n)))), .obj b2206 (.cells [.slice a2204 l2203.length l2203.length] .own), .sl a2204 1 l2203.length (l2203.map (eN .u64)), .obj b2199 (.cells [.int .u64 ((x6 : Nat) : Int)] .own), .obj b2212 (.cells [.func (.func 76) #[] #[ptr b2210 0, ptr b2211 0, ptr b2206 0, ptr b2199 0, ptr b2212 0, ptr b2200 0, ptr b2201 0]] .own), .obj b2200 (.cells [.map (some b2207)] .own), .obj b2207 (.map (l2405.map (eM (fun p : Int × Int => .agg #[.int .i64 p.1, .int .i64 p.2]) (fun b : Bool => .bool b)))), .obj b2201 (.cells [.int .u64 ((v2406 : Nat) : Int)] .own), .obj l2221 (rc2222 .busy none), .obj b7 (.cells [.int .i64 x1, .slice a3 l2.length c4] .own), .rd a3 c4 2 l2.length (l2.map (eP (eI .i64) (eI .i64))), .obj b2214 (.cells [.int .u64 ((v2346 : Nat) : Int)] .own)]) rfl rfl (fun m hm => r76_ok n l2203 x6 b2210 b2208 b2211 b2209 b2206 a2204 b2199 b2212 b2200 b2201 b2207 hG n l2349 l2350 l2347 v2348 r2387 (-1) l2403 l2404 l2405 v2406 h2407 ([.obj l2221 (rc2222 .busy none), .obj b7 (.cells [.int .i64 x1, .slice a3 l2.length c4] .own), .rd a3 c4 2 l2.length (l2.map (eP (eI .i64) (eI .i64))), .obj b2214 (.cells [.int .u64 ((v2346 : Nat) : Int)] .own)]) m hm)) gn rfl fun _ => ?_
         refine Wo.nil <| At.bn ?_
         cases hF
         exact At.en () rfl sn (Turn.picks [11, 12, 13, 8, 9, 10, 0, 1, 7, 2, 3, 4, 5, 6, 14] rfl rfl)
        ·refine Wk.condF rfl h2402 <| Wk.skip <| At.bn ?_
         cases hF
         exact At.en () rfl sn (Turn.picks [0, 12, 13, 9, 10, 11, 1, 2, 3, 4, 5, 6, 7, 8, 14] rfl rfl)
       ·clear h2409
        obtain ⟨l2396, v2397, l2398, l2399⟩ := r2408
        rintro ⟨⟩
        refine Wo.od (o_un rfl rfl) rfl <| Wo.nil <| At.tn <| Wk.condF rfl rfl <| Wk.skip <| At.bn <| At.tn <| Wk.region <| Wo.od (o_ld (k := 14) t28 rfl rfl rfl) rfl <| Wo.od (o_ld (k := 14) t28 rfl rfl rfl) rfl <| Wo.od (o_bi rfl rfl (ub_sub rfl _ _)) rfl <| Wo.od (o_bi rfl rfl (ub_and rfl _ _)) rfl <| Wo.o0 (o_st (k := 14) t28 rfl rfl rfl rfl rfl) <| Wo.nil ?_
        cases hF
        exact At.en () rfl (sc rfl (sc rfl sn)) (Turn.picks [0, 14, 1, 2, 3, 4, 5, 6, 7, 8, 9, 10, 11, 12, 13] rfl rfl)
      ·refine Wk.condF rfl h2385 <| Wk.exit <| At.te ?_
       cases hF
       exact At.en () rfl sn (Turn.picks [0, 2, 3, 4, 5, 6, 7, 8, 9, 10, 11, 12, 13, 14] rfl rfl)
     ·clear h2410
      obtain ⟨l2381, v2382, l2383, l2384⟩ := r2411
      rintro ⟨⟩
      refine At.be ?_
      cases hF
      exact At.fin .nil fun m' hm => ⟨(), (Turn.picks [0, 1, 2, 3, 4, 5, 6, 7, 8, 9, 10, 11, 12, 13] rfl rfl) m' hm⟩
    ·clear h2413
     obtain ⟨l2317, v2318, l2319, l2320⟩ := r2412
     rintro ⟨⟩
     change At _ .normal _ _ _
     refine At.bn <| At.tn <| Wk.seq <| Wk.drawc (prs := [(1, 2)]) (by kernel_rfl) <| Wn.od (o_ld (k := 2) t87 rfl rfl rfl) rfl <| Wn.odr rfl (o_ld (k := 4) t28 rfl rfl rfl) rfl <| Wn.o0w rfl (o_st (k := 2) t87 rfl rfl rfl rfl rfl) <| Wn.o0 (o_st (k := 4) t28 rfl rfl rfl rfl rfl) <| Wn.nil (fun m hm => (OkP.rw rfl rfl rfl (hm.ne (i := 4) (j := 2) rfl rfl rfl rfl (by decide) rfl) OkP.nil)) <| At.tn <| Wk.ret ?_
     cases hF
     exact At.ret (.cell (k := 2) t87 rfl rfl rfl (.cell (k := 4) t28 rfl rfl rfl .nil)) fun m' hm => ⟨b2207, rfl, (Turn.picks [3, 0, 1] rfl rfl) m' hm⟩
  ·clear h2415
   obtain ⟨l2196, v2197⟩ := r2414
   rintro b2195
   refine Wo.od (o_mv rfl) rfl <| Wo.od (o_ex rfl rfl) rfl <| Wo.od (o_ex rfl rfl) rfl <| Wo.od (o_as rfl) rfl <| Wo.od (o_as rfl) rfl <| Wo.nil <| At.tn <| Wk.seq <| Wk.region <| Wo.od (o_as rfl) rfl <| Wo.nil <| At.tn <| Wk.seq <| Wk.seq <| Wk.region <| Wo.od (o_fa (r := ptr b7 1) rfl (fa25_1 _ _)) rfl <| Wo.od (o_ld (k := 1) t23 rfl rfl rfl) rfl <| Wo.od (o_ln (k := 2) u23 rfl rfl (.inl rfl)) rfl <| Wo.od (o_mv rfl) rfl ?_
   refine Wo.nil <| At.tn <| Wk.block ?_
   obtain ⟨l2486, h2519, hF⟩ := ob_some hF
   refine Wk.cut (G := (fun (r : List (Int × Int)) (g : Option Addr) => match r, g with | l2486, a2487 => ⟨(.exit 0), [(9, .slice a2487 l2486.length l2486.length)], [.sl a2487 2 l2486.length (l2486.map (eP (eI .i64) (eI .i64)))]⟩) l2486) ?_ ?_
   ·refine Wk.weak (fs' := [(7, .map (some b2195)), (9, .slice none ([] : List (Int × Int)).length ([] : List (Int × Int)).length), (25, .slice a3 l2.length c4), (26, .int .i64 (l2.length : Int)), (27, .int .i64 0)]) (ps' := [.obj b2195 (.map (l2196.map (eM (fun p : Int × Int => .agg #[.int .i64 p.1, .int .i64 p.2]) (fun b : Bool => .bool b)))), .sl none 2 ([] : List (Int × Int)).length (([] : List (Int × Int)).map (eP (eI .i64) (eI .i64))), .rd a3 c4 2 l2.length (l2.map (eP (eI .i64) (eI .i64)))]) (sc rfl (sc rfl (sc rfl (sc rfl (sc rfl sn))))) (Turn.trans (Turn.nil 2 rfl) (Turn.picks [1, 0, 3] rfl rfl)) ?_
    refine Wk.loop (σ := List (Int × Int) × Int) (ρ := List (Int × Int)) (γ := Option Addr) (δ := fun _ => Option Addr) _ (fun (s : List (Int × Int) × Int) (g : Option Addr) => match s, g with | (l2449, v2451), a2450 => ⟨.normal, [(7, .map (some b2195)), (9, .slice a2450 l2449.length l2449.length), (25, .slice a3 l2.length c4), (26, .int .i64 (l2.length : Int)), (27, .int .i64 v2451)], [.obj b2195 (.map (l2196.map (eM (fun p : Int × Int => .agg #[.int .i64 p.1, .int .i64 p.2]) (fun b : Bool => .bool b)))), .sl a2450 2 l2449.length (l2449.map (eP (eI .i64) (eI .i64))), .rd a3 c4 2 l2.length (l2.map (eP (eI .i64) (eI .i64)))]⟩) (fun (r : List (Int × Int)) (g : Option Addr) => match r, g with | l2486, a2487 => ⟨(.exit 0), [(9, .slice a2487 l2486.length l2486.length)], [.sl a2487 2 l2486.length (l2486.map (eP (eI .i64) (eI .i64)))]⟩) ?_ (fun _ _ => rfl) (fun r d => by intro e; cases e) _ _ _ h2519 none
    clear hF h2519
    rintro ⟨l2449, v2451⟩ a2450 r hF
    unfold L18_2 at hF
    refine Wk.seq <| Wk.region <| Wo.od (o_bi rfl rfl (bin_lss _ _ _)) rfl <| Wo.nil <| At.tn <| Wk.seq ?_
    rcases br_some hF with ⟨h2488, hF⟩ | ⟨h2488, hF⟩
    ·refine Wk.condT rfl h2488 <| Wk.skip <| At.tn <| Wk.seq ?_
     obtain ⟨l2502, h2517, hF⟩ := ob_some hF
     refine Wk.cut (G := (fun (r : List (Int × Int)) (g : Option Addr) => match r, g with | l2502, a2503 => ⟨.normal, [(7, .map (some b2195)), (9, .slice a2503 l2502.length l2502.length), (25, .slice a3 l2.length c4), (26, .int .i64 (l2.length : Int)), (27, .int .i64 v2451)], [.obj b2195 (.map (l2196.map (eM (fun p : Int × Int => .agg #[.int .i64 p.1, .int .i64 p.2]) (fun b : Bool => .bool b)))), .sl a2503 2 l2502.length (l2502.map (eP (eI .i64) (eI .i64))), .rd a3 c4 2 l2.length (l2.map (eP (eI .i64) (eI .i64)))]⟩) l2502) ?_ ?_
     ·clear hF
      revert l2502
      intro r hF
      refine Wk.block <| Wk.seq <| Wk.region ?_
      obtain ⟨h2504, hF⟩ := gd_some hF
      replace h2504 := inB_some h2504
      refine Wo.openr (k := 2) rfl (pos_of h2504) ?_
      rintro b2505 o2506 rfl
      refine Wo.og (o_ixs s23 rfl rfl h2504) gn rfl ?_
      obtain ⟨⟨x2507, x2508⟩, h2509, hF⟩ := ob_some hF
      refine Wo.od (o_ldr (k := 0) t26 rfl rfl (map_at h2509) rfl rfl) rfl <| Wo.x (o_al z26 rfl) gn rfl fun b2510 => ?_
      refine Wo.o0 (o_st (k := 0) t26 rfl rfl rfl rfl rfl) <| Wo.nil <| At.tn <| Wk.seq <| Wk.region <| Wo.od (o_mv rfl) rfl <| Wo.od (o_ld (k := 0) t26 rfl rfl rfl) rfl ?_
      obtain ⟨y2511, h2512, hF⟩ := ob_some hF
      refine Wo.od (o_lkv (q := 2) (xs := l2196) (k := (x2507, x2508)) (vE := (fun b : Bool => .bool b)) (z0 := false) u87 (keyP u26 t3.known t3.size t3.agg u3) z4 rfl rfl rfl rfl h2512) rfl <| Wo.nil <| At.tn ?_
      rcases br_some hF with ⟨h2513, hF⟩ | ⟨h2513, hF⟩
      ·refine Wk.condT rfl h2513 <| Wk.region <| Wo.od (o_mv rfl) rfl <| Wo.od (o_ld (k := 0) t26 rfl rfl rfl) rfl <| Wo.x (o_bs (es := ([(x2507, x2508)] : List (Int × Int)).map (eP (eI .i64) (eI .i64))) s23 rfl (bs_c s23 z26 rfl rfl) rfl rfl) gn rfl fun b2514 => ?_
       obtain ⟨h2515, hF⟩ := gd_some hF
       refine Wo.x (o_apl (k := 4) (k2 := 0) (xs := (l2449 : List (Int × Int))) (ys := ([(x2507, x2508)] : List (Int × Int))) (enP (enI .i64) (enI .i64)) s23 ⟨_, u23⟩ rfl rfl rfl (.arr _ _ _ _ _) h2515) gn rfl fun a2516 => ?_
       refine Wo.od (o_as rfl) rfl <| Wo.nil <| At.bn ?_
       cases hF
       exact At.en a2516 rfl (sc rfl (sc rfl (sc rfl (sc rfl (sc rfl sn))))) (Turn.picks [3, 4, 5] rfl rfl)
      ·refine Wk.condF rfl h2513 <| Wk.skip <| At.bn ?_
       have hr := Option.some.inj hF
       subst r
       exact At.en a2450 rfl (sc rfl (sc rfl (sc rfl (sc rfl (sc rfl sn))))) (Turn.picks [2, 3, 4] rfl rfl)
     ·clear h2517
      rintro a2503
      refine At.tn <| Wk.region <| Wo.od (o_bi rfl rfl (bin_add _ _ _)) rfl <| Wo.od (o_mv rfl) rfl <| Wo.nil ?_
      cases hF
      exact At.en a2503 rfl (sc rfl (sc rfl (sc rfl (sc rfl (sc rfl sn))))) (Turn.picks [0, 1, 2] rfl rfl)
    ·refine Wk.condF rfl h2488 <| Wk.exit <| At.te ?_
     cases hF
     exact At.en a2450 rfl (sc rfl sn) (Turn.picks [1] rfl rfl)
   ·clear h2519
    rintro a2487
    refine At.be <| At.tn <| Wk.seq <| Wk.region <| Wo.od (o_mv rfl) rfl <| Wo.od (o_as rfl) rfl <| Wo.od (o_as rfl) rfl <| Wo.nil <| At.tn <| Wk.ret ?_
    cases hF
    exact At.ret (.tmp rfl (.tmp rfl .nil)) fun m' hm => ⟨(a2487, l2486.length), rfl, (Turn.picks [0] rfl rfl) m' hm⟩
theorem f19_ok (n : Nat) (x1 : Int) (l2 : List (Int × Int)) (x6 : Nat) (a3 : Option Addr) (c4 : Nat) (r : Nat × Int) (hF : F19 n x1 l2 x6 = some r) (m : AMem) (hG : Gl m) (h5 : Rd m a3 c4 2 l2.length (l2.map (eP (eI .i64) (eI .i64)))) :
  CallA E18w 19 [.agg #[.int .i64 x1, .slice a3 l2.length c4], .int .u64 ((x6 : Nat) : Int)] m (fun v m' => ∃ x : Unit, v = .tuple #[.int .u64 ((r.1 : Nat) : Int), .int .i64 r.2] ∧ Hp m m' []) := by
 unfold F19 at hF
 refine call_wk (m0 := m) (ps := [.rd a3 c4 2 l2.length (l2.map (eP (eI .i64) (eI .i64)))]) (N := 22) (rs := [.tmp 4, .tmp 5]) rfl Tryd.func19 rfl rfl rfl ((Hp.start m).inn rfl h5) <| Wk.seq <| Wk.region <| Wo.x (o_bx rfl) gn rfl fun b7 => ?_
 refine Wo.od (o_as rfl) rfl <| Wo.od (o_as rfl) rfl <| Wo.nil <| At.tn <| Wk.seq <| Wk.seq <| Wk.region <| Wo.od (o_ld (k := 0) t25 rfl rfl rfl) rfl <| Wo.od (o_mv rfl) rfl ?_
 obtain ⟨r9, h8, hF⟩ := ob_some hF
 refine Wo.x (o_cl rfl rfl (fun m hm => f55_ok n x1 l2 x6 a3 c4 _ h8 m (hm.rd (k := 1) rfl (.rd _ _ _ _ _))) fun _ => rfl) gn rfl ?_
 rintro ⟨⟩
 refine Wo.od (o_as rfl) rfl <| Wo.nil <| At.tn <| Wk.seq <| Wk.region <| Wo.od (o_mv rfl) rfl <| Wo.od (o_bi rfl rfl (ib_neq _ _)) rfl <| Wo.nil <| At.tn ?_
 rcases br_some hF with ⟨h10, hF⟩ | ⟨h10, hF⟩
 ·refine Wk.condT rfl h10 <| Wk.seq <| Wk.region <| Wo.od (o_mv rfl) rfl <| Wo.od (o_as rfl) rfl <| Wo.od (o_as rfl) rfl <| Wo.nil <| At.tn <| Wk.ret <| At.tr ?_
  cases hF
  exact At.ret (.tmp rfl (.tmp rfl .nil)) fun m' hm => ⟨(), rfl, (Turn.picks [] rfl rfl) m' hm⟩
 ·refine Wk.condF rfl h10 <| Wk.skip <| At.tn <| Wk.seq <| Wk.region <| Wo.od (o_ld (k := 0) t25 rfl rfl rfl) rfl <| Wo.od (o_mv rfl) rfl ?_
  obtain ⟨r446, h447, hF⟩ := ob_some hF
  refine Wo.x (o_cs (α := Nat) (V := fun g => (fun (r : List ((Int × Int) × Bool) × Nat) (g : Nat) => match r, g with | (l228, v229), b227 => (.tuple #[.map (some b227), .int .u64 ((v229 : Nat) : Int)] : Value)) r446 g) (N := fun g => (fun (r : List ((Int × Int) × Bool) × Nat) (g : Nat) => match r, g with | (l228, v229), b227 => ([.obj b227 (.map (l228.map (eM (fun p : Int × Int => .agg #[.int .i64 p.1, .int .i64 p.2]) (fun b : Bool => .bool b))))] : List Pc)) r446 g) rfl rfl (fun m hm => ?_)) gn rfl ?_
  ·clear hF
   revert r446
   intro r hF
   refine call_wk (N := 29) (rs := [.cell 4 87, .cell 5 28]) rfl Tryd.func59 rfl rfl rfl hm <| Wk.seq <| Wk.region <| Wo.x (o_bx rfl) gn rfl fun b230 => ?_
   refine Wo.x (o_bx rfl) gn rfl fun b231 => ?_
   refine Wo.x (o_al z87 rfl) gn rfl fun b232 => ?_
   refine Wo.x (o_al z28 rfl) gn rfl fun b233 => ?_
   refine Wo.nil <| At.tn <| Wk.seq <| Wk.region <| Wo.od (o_ld (k := 3) t25 rfl rfl rfl) rfl ?_
   obtain ⟨l235, h234, hF⟩ := ob_some hF
   refine Wo.x (o_cl rfl rfl (fun m hm => f75_ok n x1 l2 a3 c4 _ h234 m (hm.rd (k := 5) rfl (.rd _ _ _ _ _))) fun _ => rfl) gn rfl ?_
   rintro ⟨a236, n237⟩
   refine Wo.len (k := 0) (xs := l235) rfl ?_
   rintro rfl
   refine Wo.x (o_al z36 rfl) gn rfl fun b238 => ?_
   refine Wo.o0 (o_st (k := 0) t36 rfl rfl rfl rfl rfl) <| Wo.nil <| At.tn <| Wk.seq <| Wk.region <| Wo.x o_mm gn rfl fun b239 => ?_
   refine Wo.o0 (o_st (k := 4) t87 rfl rfl rfl rfl rfl) <| Wo.nil <| At.tn <| Wk.seq <| Wk.region <| Wo.x o_mm gn rfl fun b240 => ?_
   refine Wo.x o_mm gn rfl fun b241 => ?_
   refine Wo.x (o_al z94 rfl) gn rfl fun b242 => ?_
   refine Wo.x (o_al z94 rfl) gn rfl fun b243 => ?_
   refine Wo.o0 (o_st (k := 1) t94 rfl rfl rfl rfl rfl) <| Wo.o0 (o_st (k := 0) t94 rfl rfl rfl rfl rfl) <| Wo.nil <| At.tn <| Wk.seq <| Wk.region <| Wo.x (o_al z108 rfl) gn rfl fun b244 => ?_
   refine Wo.nil <| At.tn <| Wk.seq <| Wk.region <| Wo.od (o_mf rfl rfl) rfl <| Wo.o0 (o_st (k := 0) t108 rfl rfl rfl rfl rfl) <| Wo.nil <| At.tn <| Wk.seq <| Wk.seq <| Wk.region <| Wo.od (o_ld (k := 10) t28 rfl rfl rfl) rfl ?_
   obtain ⟨r251, h252, hF⟩ := ob_some hF
   refine Wo.x (o_cs (α := Nat) (V := fun g => (fun (r : List ((Int × Int) × Bool) × List (Int × Int) × List (Int × Int)) (g : Nat) => match r, g with | (l247, l248, l249), b246 => (.func (.func 78) #[] #[ptr b246 0] : Value)) r251 g) (N := fun g => (fun (r : List ((Int × Int) × Bool) × List (Int × Int) × List (Int × Int)) (g : Nat) => match r, g with | (l247, l248, l249), b246 => ([.obj b246 (.cells [.int .u64 ((x6 : Nat) : Int)] .own), .obj b232 (.cells [.map (some b239)] .own), .obj b239 (.map (l247.map (eM (fun p : Int × Int => .agg #[.int .i64 p.1, .int .i64 p.2]) (fun b : Bool => .bool b)))), .obj b233 (.cells [.int .u64 ((0 : Nat) : Int)] .own), .obj b242 (.cells [.map (some b240)] .own), .obj b240 (.map (l248.map (eM (fun n : Int => .int .i64 n) (fun n : Int => .int .i64 n)))), .obj b244 (.cells [.func (.func 76) #[] #[ptr b242 0, ptr b243 0, ptr b238 0, ptr b231 0, ptr b244 0, ptr b232 0, ptr b233 0]] .own), .obj b243 (.cells [.map (some b241)] .own), .obj b241 (.map (l249.map (eM (fun n : Int => .int .i64 n) (fun n : Int => .int .i64 n)))), .obj b238 (.cells [.slice a236 l235.length l235.length] .own), .sl a236 1 l235.length (l235.map (eN .u64)), .obj b231 (.cells [.int .u64 ((x6 : Nat) : Int)] .own)] : List Pc)) r251 g) rfl rfl (fun m hm => ?_)) gn rfl ?_
   ·clear hF
    revert r251
    intro r hF
    refine call_wk (N := 4) (rs := [.tmp 2]) rfl Tryd.func61 rfl rfl rfl hm <| Wk.seq <| Wk.region <| Wo.x (o_bx rfl) gn rfl fun b250 => ?_
    refine Wo.od (o_as rfl) rfl <| Wo.nil <| At.tn <| Wk.seq <| Wk.region <| Wo.od (o_mf rfl rfl) rfl <| Wo.od (o_as rfl) rfl <| Wo.nil <| At.tn <| Wk.ret ?_
    cases hF
    exact At.ret (.tmp rfl .nil) fun m' hm => ⟨b250, rfl, (Turn.picks [0, 10, 6, 9, 3, 5, 1, 2, 4, 7, 8, 11] rfl rfl) m' hm⟩
   ·clear h252
    obtain ⟨l247, l248, l249⟩ := r251
    rintro b246
    refine Wo.nil <| At.tn <| Wk.block ?_
    obtain ⟨r444, h445, hF⟩ := ob_some hF
    refine Wk.range (N := 14) (rs := []) (γ := Unit) (X := fun g => (fun (r : List ((Int × Int) × Bool) × Nat × List (Int × Int) × List (Int × Int)) (g : Unit) => (match r, g with | (l349, v350, l351, l352), _ => ⟨.ready, none, [.obj b232 (.cells [.map (some b239)] .own), .obj b239 (.map (l349.map (eM (fun p : Int × Int => .agg #[.int .i64 p.1, .int .i64 p.2]) (fun b : Bool => .bool b)))), .obj b233 (.cells [.int .u64 ((v350 : Nat) : Int)] .own), .obj b242 (.cells [.map (some b240)] .own), .obj b240 (.map (l351.map (eM (fun n : Int => .int .i64 n) (fun n : Int => .int .i64 n)))), .obj b244 (.cells [.func (.func 76) #[] #[ptr b242 0, ptr b243 0, ptr b238 0, ptr b231 0, ptr b244 0, ptr b232 0, ptr b233 0]] .own), .obj b243 (.cells [.map (some b241)] .own), .obj b241 (.map (l352.map (eM (fun n : Int => .int .i64 n) (fun n : Int => .int .i64 n)))), .obj b238 (.cells [.slice a236 l235.length l235.length] .own), .sl a236 1 l235.length (l235.map (eN .u64)), .obj b231 (.cells [.int .u64 ((x6 : Nat) : Int)] .own)]⟩ : Rn)) r444 g) rfl rfl Tryd.func78 rfl rfl rfl ?_ (fun y => by intro e; cases e) ?_
    ·clear hF
     revert r444
     intro r hF
     intro t255 l253 rc254 h256 h257
     refine Wk.block ?_
     obtain ⟨r443, h442, hF⟩ := ob_some hF
     refine Wk.cut (G := (fun (r : List ((Int × Int) × Bool) × Nat × List (Int × Int) × List (Int × Int)) (g : Unit) => match r, g with | (l413, v414, l415, l416), _ => ⟨(.exit 0), [], [.obj l253 (rc254 .ready none), .obj b232 (.cells [.map (some b239)] .own), .obj b239 (.map (l413.map (eM (fun p : Int × Int => .agg #[.int .i64 p.1, .int .i64 p.2]) (fun b : Bool => .bool b)))), .obj b233 (.cells [.int .u64 ((v414 : Nat) : Int)] .own), .obj b242 (.cells [.map (some b240)] .own), .obj b240 (.map (l415.map (eM (fun n : Int => .int .i64 n) (fun n : Int => .int .i64 n)))), .obj b244 (.cells [.func (.func 76) #[] #[ptr b242 0, ptr b243 0, ptr b238 0, ptr b231 0, ptr b244 0, ptr b232 0, ptr b233 0]] .own), .obj b243 (.cells [.map (some b241)] .own), .obj b241 (.map (l416.map (eM (fun n : Int => .int .i64 n) (fun n : Int => .int .i64 n)))), .obj b238 (.cells [.slice a236 l235.length l235.length] .own), .sl a236 1 l235.length (l235.map (eN .u64)), .obj b231 (.cells [.int .u64 ((x6 : Nat) : Int)] .own)]⟩) r443) ?_ ?_
     ·refine Wk.weak (fs' := [(0, .func (.yield l253) #[] #[]), (1, ptr b246 0)]) (ps' := [.obj l253 (rc254 .ready none), .obj b246 (.cells [.int .u64 ((x6 : Nat) : Int)] .own), .obj b232 (.cells [.map (some b239)] .own), .obj b239 (.map (l247.map (eM (fun p : Int × Int => .agg #[.int .i64 p.1, .int .i64 p.2]) (fun b : Bool => .bool b)))), .obj b233 (.cells [.int .u64 ((0 : Nat) : Int)] .own), .obj b242 (.cells [.map (some b240)] .own), .obj b240 (.map (l248.map (eM (fun n : Int => .int .i64 n) (fun n : Int => .int .i64 n)))), .obj b244 (.cells [.func (.func 76) #[] #[ptr b242 0, ptr b243 0, ptr b238 0, ptr b231 0, ptr b244 0, ptr b232 0, ptr b233 0]] .own), .obj b243 (.cells [.map (some b241)] .own), .obj b241 (.map (l249.map (eM (fun n : Int => .int .i64 n) (fun n : Int => .int .i64 n)))), .obj b238 (.cells [.slice a236 l235.length l235.length] .own), .sl a236 1 l235.length (l235.map (eN .u64)), .obj b231 (.cells [.int .u64 ((x6 : Nat) : Int)] .own)]) (sc rfl (sc rfl sn)) (Turn.picks [0, 1, 2, 3, 4, 5, 6, 7, 8, 9, 10, 11, 12] rfl rfl) ?_
      refine Wk.loop (σ := Nat × List ((Int × Int) × Bool) × Nat × List (Int × Int) × List (Int × Int)) (ρ := List ((Int × Int) × Bool) × Nat × List (Int × Int) × List (Int × Int)) (γ := Unit) (δ := fun _ => Unit) _ (fun (s : Nat × List ((Int × Int) × Bool) × Nat × List (Int × Int) × List (Int × Int)) (g : Unit) => match s, g with | (v378, l379, v380, l381, l382), _ => ⟨.normal, [(0, .func (.yield l253) #[] #[]), (1, ptr b246 0)], [.obj l253 (rc254 .ready none), .obj b246 (.cells [.int .u64 ((v378 : Nat) : Int)] .own), .obj b232 (.cells [.map (some b239)] .own), .obj b239 (.map (l379.map (eM (fun p : Int × Int => .agg #[.int .i64 p.1, .int .i64 p.2]) (fun b : Bool => .bool b)))), .obj b233 (.cells [.int .u64 ((v380 : Nat) : Int)] .own), .obj b242 (.cells [.map (some b240)] .own), .obj b240 (.map (l381.map (eM (fun n : Int => .int .i64 n) (fun n : Int => .int .i64 n)))), .obj b244 (.cells [.func (.func 76) #[] #[ptr b242 0, ptr b243 0, ptr b238 0, ptr b231 0, ptr b244 0, ptr b232 0, ptr b233 0]] .own), .obj b243 (.cells [.map (some b241)] .own), .obj b241 (.map (l382.map (eM (fun n : Int => .int .i64 n) (fun n : Int => .int .i64 n)))), .obj b238 (.cells [.slice a236 l235.length l235.length] .own), .sl a236 1 l235.length (l235.map (eN .u64)), .obj b231 (.cells [.int .u64 ((x6 : Nat) : Int)] .own)]⟩) (fun (r : List ((Int × Int) × Bool) × Nat × List (Int × Int) × List (Int × Int)) (g : Unit) => match r, g with | (l413, v414, l415, l416), _ => ⟨(.exit 0), [], [.obj l253 (rc254 .ready none), .obj b232 (.cells [.map (some b239)] .own), .obj b239 (.map (l413.map (eM (fun p : Int × Int => .agg #[.int .i64 p.1, .int .i64 p.2]) (fun b : Bool => .bool b)))), .obj b233 (.cells [.int .u64 ((v414 : Nat) : Int)] .own), .obj b242 (.cells [.map (some b240)] .own), .obj b240 (.map (l415.map (eM (fun n : Int => .int .i64 n) (fun n : Int => .int .i64 n)))), .obj b244 (.cells [.func (.func 76) #[] #[ptr b242 0, ptr b243 0, ptr b238 0, ptr b231 0, ptr b244 0, ptr b232 0, ptr b233 0]] .own), .obj b243 (.cells [.map (some b241)] .own), .obj b241 (.map (l416.map (eM (fun n : Int => .int .i64 n) (fun n : Int => .int .i64 n)))), .obj b238 (.cells [.slice a236 l235.length l235.length] .own), .sl a236 1 l235.length (l235.map (eN .u64)), .obj b231 (.cells [.int .u64 ((x6 : Nat) : Int)] .own)]⟩) ?_ (fun _ _ => rfl) (fun r d => by intro e; cases e) _ _ _ h442 ()
      clear hF h442
      rintro ⟨v378, l379, v380, l381, l382⟩ ⟨⟩ r hF
      unfold L19_1 at hF
      refine Wk.seq <| Wk.seq <| Wk.region <| Wo.od (o_ld (k := 1) t28 rfl rfl rfl) rfl <| Wo.od (o_bi rfl rfl (ub_neq _ _)) rfl <| Wo.nil <| At.tn ?_
      rcases br_some hF with ⟨h417, hF⟩ | ⟨h417, hF⟩
      ·refine Wk.condT rfl h417 <| Wk.skip <| At.tn <| Wk.seq <| Wk.block <| Wk.seq <| Wk.region <| Wo.od (o_mv rfl) rfl <| Wo.od (o_ld (k := 1) t28 rfl rfl rfl) rfl ?_
       obtain ⟨r419, h418, hF⟩ := ob_some hF
       refine Wo.x (o_cl rfl rfl (fun m hm => f42_ok n v378  _ h418 m (hG.ext hm.ext) ) fun _ => rfl) gn rfl ?_
       rintro ⟨⟩
       obtain ⟨r440, h441, hF⟩ := ob_some hF
       refine Wo.x (o_yd (k := 0) (k1 := 0) (γA := Unit) (GA := (fun g : Unit => (match g with | _ => ⟨.normal, [(7, ptr b242 0), (9, ptr b244 0), (10, .int .i64 r419)], [.obj l253 (rc254 .ready none), .obj b242 (.cells [.map (some b240)] .own), .obj b240 (.map (l381.map (eM (fun n : Int => .int .i64 n) (fun n : Int => .int .i64 n)))), .obj b244 (.cells [.func (.func 76) #[] #[ptr b242 0, ptr b243 0, ptr b238 0, ptr b231 0, ptr b244 0, ptr b232 0, ptr b233 0]] .own), .obj b243 (.cells [.map (some b241)] .own), .obj b241 (.map (l382.map (eM (fun n : Int => .int .i64 n) (fun n : Int => .int .i64 n)))), .obj b238 (.cells [.slice a236 l235.length l235.length] .own), .sl a236 1 l235.length (l235.map (eN .u64)), .obj b231 (.cells [.int .u64 ((x6 : Nat) : Int)] .own), .obj b232 (.cells [.map (some b239)] .own), .obj b239 (.map (l379.map (eM (fun p : Int × Int => .agg #[.int .i64 p.1, .int .i64 p.2]) (fun b : Bool => .bool b)))), .obj b233 (.cells [.int .u64 ((v380 : Nat) : Int)] .own), .obj b246 (.cells [.int .u64 ((v378 : Nat) : Int)] .own)]⟩ : En))) (γ := Unit) (G := fun g => (fun (r : List ((Int × Int) × Bool) × Nat × List (Int × Int) × List (Int × Int)) (g : Unit) => (match r, g with | (l428, v429, l430, l431), _ => ⟨.normal, [], [.obj l253 (rc254 .busy none), .obj b232 (.cells [.map (some b239)] .own), .obj b239 (.map (l428.map (eM (fun p : Int × Int => .agg #[.int .i64 p.1, .int .i64 p.2]) (fun b : Bool => .bool b)))), .obj b233 (.cells [.int .u64 ((v429 : Nat) : Int)] .own), .obj b242 (.cells [.map (some b240)] .own), .obj b240 (.map (l430.map (eM (fun n : Int => .int .i64 n) (fun n : Int => .int .i64 n)))), .obj b244 (.cells [.func (.func 76) #[] #[ptr b242 0, ptr b243 0, ptr b238 0, ptr b231 0, ptr b244 0, ptr b232 0, ptr b233 0]] .own), .obj b243 (.cells [.map (some b241)] .own), .obj b241 (.map (l431.map (eM (fun n : Int => .int .i64 n) (fun n : Int => .int .i64 n)))), .obj b238 (.cells [.slice a236 l235.length l235.length] .own), .sl a236 1 l235.length (l235.map (eN .u64)), .obj b231 (.cells [.int .u64 ((x6 : Nat) : Int)] .own), .obj b246 (.cells [.int .u64 ((v378 : Nat) : Int)] .own)]⟩ : En)) r440 g) rfl rfl rfl h257 h256 rfl ?_ (fun _ => rfl) (fun _ => rfl) ?_ (fun y => rfl)) gn rfl ?_
       ·clear hF h441
        refine Wk.region <| Wo.od (o_as rfl) rfl <| Wo.nil ?_
        exact At.en () rfl (sc rfl (sc rfl (sc rfl sn))) (Turn.picks [0, 5, 6, 7, 8, 9, 10, 11, 12, 2, 3, 4, 1] rfl rfl)
       ·clear hF
        revert r440
        intro r hF
        rintro ⟨⟩
        refine Wk.block <| Wk.seq <| Wk.region <| Wo.od (o_ld (k := 1) t94 rfl rfl rfl) rfl <| Wo.od (o_mv rfl) rfl ?_
        obtain ⟨y432, h433, hF⟩ := ob_some hF
        refine Wo.od (o_lkv (q := 2) (xs := l381) (k := r419) (vE := (fun n : Int => .int .i64 n)) (z0 := (0 : Int)) u94 (keyI u3) z3 rfl rfl rfl rfl h433) rfl <| Wo.od (o_bi rfl rfl (bin_eql _ _ _)) rfl <| Wo.nil <| At.tn ?_
        rcases br_some hF with ⟨h434, hF⟩ | ⟨h434, hF⟩
        ·refine Wk.condT rfl h434 <| Wk.region <| Wo.od (o_ld (k := 3) t108 rfl rfl rfl) rfl <| Wo.od (o_mv rfl) rfl ?_
         obtain ⟨⟨l435, l436, l437, v438⟩, h439, hF⟩ := ob_some hF
         refine Wo.turn (Turn.picks [1, 2, 4, 5, 6, 7, 8, 3, 9, 10, 11, 0, 12] rfl rfl) ?_
         refine Wo.x (o_cs (α := Unit) (V := fun _ => .tuple #[]) (N := fun _ => [.obj b242 (.cells [.map (some b240)] .own), .obj b240 (.map (l435.map (eM (fun n : Int => .int .i64 n) (fun n : Int => .int .i64 n)))), .obj b243 (.cells [.map (some b241)] .own), .obj b241 (.map (l436.map (eM (fun n : Int => .int .i64 n) (fun n : Int => .int .i64 n)))), .obj b238 (.cells [.slice a236 l235.length l235.length] .own), .sl a236 1 l235.length (l235.map (eN .u64)), .obj b231 (.cells [.int .u64 ((x6 : Nat) : Int)] .own), .obj b244 (.cells [.func (.func 76) #[] #[ptr b242 0, ptr b243 0, ptr b238 0, ptr b231 0, ptr b244 0, ptr b232 0, ptr b233 0]] .own), .obj b232 (.cells [.map (some b239)] .own), .obj b239 (.map (l437.map (eM (fun p : Int × Int => .agg #[.int .i64 p.1, .int .i64 p.2]) (fun b : Bool => .bool b)))), .obj b233 (.cells [.int .u64 ((v438 : Nat) : Int)] .own), .obj l253 (rc254 .busy none), .obj b246 (.cells [.int .u64 ((v378 : Nat) : Int)] .own)]) rfl rfl (fun m hm => r76_ok n l235 x6 b242 b240 b243 b241 b238 a236 b231 b244 b232 b233 b239 hG n l381 l382 l379 v380 r419 (-1) l435 l436 l437 v438 h439 ([.obj l253 (rc254 .busy none), .obj b246 (.cells [.int .u64 ((v378 : Nat) : Int)] .own)]) m hm)) gn rfl fun _ => ?_
         refine Wo.nil <| At.bn ?_
         cases hF
         exact At.en () rfl sn (Turn.picks [11, 8, 9, 10, 0, 1, 7, 2, 3, 4, 5, 6, 12] rfl rfl)
        ·refine Wk.condF rfl h434 <| Wk.skip <| At.bn ?_
         cases hF
         exact At.en () rfl sn (Turn.picks [0, 9, 10, 11, 1, 2, 3, 4, 5, 6, 7, 8, 12] rfl rfl)
       ·clear h441
        obtain ⟨l428, v429, l430, l431⟩ := r440
        rintro ⟨⟩
        refine Wo.od (o_un rfl rfl) rfl <| Wo.nil <| At.tn <| Wk.condF rfl rfl <| Wk.skip <| At.bn <| At.tn <| Wk.region <| Wo.od (o_ld (k := 12) t28 rfl rfl rfl) rfl <| Wo.od (o_ld (k := 12) t28 rfl rfl rfl) rfl <| Wo.od (o_bi rfl rfl (ub_sub rfl _ _)) rfl <| Wo.od (o_bi rfl rfl (ub_and rfl _ _)) rfl <| Wo.o0 (o_st (k := 12) t28 rfl rfl rfl rfl rfl) <| Wo.nil ?_
        cases hF
        exact At.en () rfl (sc rfl (sc rfl sn)) (Turn.picks [0, 12, 1, 2, 3, 4, 5, 6, 7, 8, 9, 10, 11] rfl rfl)
      ·refine Wk.condF rfl h417 <| Wk.exit <| At.te ?_
       cases hF
       exact At.en () rfl sn (Turn.picks [0, 2, 3, 4, 5, 6, 7, 8, 9, 10, 11, 12] rfl rfl)
     ·clear h442
      obtain ⟨l413, v414, l415, l416⟩ := r443
      rintro ⟨⟩
      refine At.be ?_
      cases hF
      exact At.fin .nil fun m' hm => ⟨(), (Turn.picks [0, 1, 2, 3, 4, 5, 6, 7, 8, 9, 10, 11] rfl rfl) m' hm⟩
    ·clear h445
     obtain ⟨l349, v350, l351, l352⟩ := r444
     rintro ⟨⟩
     change At _ .normal _ _ _
     refine At.bn <| At.tn <| Wk.seq <| Wk.drawc (prs := [(1, 2)]) (by kernel_rfl) <| Wn.od (o_ld (k := 0) t87 rfl rfl rfl) rfl <| Wn.odr rfl (o_ld (k := 2) t28 rfl rfl rfl) rfl <| Wn.o0w rfl (o_st (k := 0) t87 rfl rfl rfl rfl rfl) <| Wn.o0 (o_st (k := 2) t28 rfl rfl rfl rfl rfl) <| Wn.nil (fun m hm => (OkP.rw rfl rfl rfl (hm.ne (i := 2) (j := 0) rfl rfl rfl rfl (by decide) rfl) OkP.nil)) <| At.tn <| Wk.ret ?_
     cases hF
     exact At.ret (.cell (k := 0) t87 rfl rfl rfl (.cell (k := 2) t28 rfl rfl rfl .nil)) fun m' hm => ⟨b239, rfl, (Turn.picks [1] rfl rfl) m' hm⟩
  ·clear h447
   obtain ⟨l228, v229⟩ := r446
   rintro b227
   refine Wo.od (o_mv rfl) rfl <| Wo.od (o_ex rfl rfl) rfl <| Wo.od (o_ex rfl rfl) rfl <| Wo.od (o_as rfl) rfl <| Wo.od (o_as rfl) rfl <| Wo.nil <| At.tn <| Wk.seq <| Wk.region <| Wo.od (o_mv rfl) rfl <| Wo.od (o_as rfl) rfl <| Wo.od (o_as rfl) rfl <| Wo.nil <| At.tn <| Wk.ret ?_
   cases hF
   exact At.ret (.tmp rfl (.tmp rfl .nil)) fun m' hm => ⟨(), rfl, (Turn.picks [] rfl rfl) m' hm⟩
end Go.Proofs.YtpclggcpobakhaaDoor.WT
end

section
namespace Go.Proofs.YtpclggcpobakhaaDoor.W60
open Go Go.Ab Go.Ab.W Go.Proofs.YtpclggcpobakhaaDoor
set_option maxRecDepth 10000
set_option maxHeartbeats 4000000
attribute [local irreducible] Tm.at Trie.set Trie.get AMem.get AMem.set AMem.alloc AMem.ww AMem.kill
theorem f84_ok (n : Nat) (x1 : Nat) (x2 : Nat)  (r : Nat × Nat) (hF : F84 n x1 x2 = some r) (m : AMem)  :
  CallA E18w 84 [.int .u64 ((x1 : Nat) : Int), .int .u64 ((x2 : Nat) : Int)] m (fun v m' => ∃ x : Unit, v = .tuple #[.int .u64 ((r.1 : Nat) : Int), .int .u64 ((r.2 : Nat) : Int)] ∧ Hp m m' []) := by
 unfold F84 at hF
 refine call_wk (m0 := m) (ps := []) (N := 51) (rs := [.tmp 4, .tmp 5]) rfl Tryd.func84 rfl rfl rfl (Hp.start m) <| Wk.seq <| Wk.region <| Wo.od (o_as rfl) rfl <| Wo.od (o_as rfl) rfl <| Wo.nil <| At.tn <| Wk.seq <| Wk.region <| Wo.od (o_mv rfl) rfl <| Wo.od (o_bi rfl rfl (ub_and rfl _ _)) rfl <| Wo.od (o_as rfl) rfl <| Wo.nil <| At.tn <| Wk.seq <| Wk.region <| Wo.od (o_mv rfl) rfl <| Wo.od (o_bi rfl rfl (ub_shr _ _ rfl)) rfl <| Wo.od (o_as rfl) rfl <| Wo.nil <| At.tn <| Wk.seq <| Wk.region <| Wo.od (o_mv rfl) rfl ?_
 refine Wo.od (o_bi rfl rfl (ub_and rfl _ _)) rfl <| Wo.od (o_as rfl) rfl <| Wo.nil <| At.tn <| Wk.seq <| Wk.region <| Wo.od (o_mv rfl) rfl <| Wo.od (o_bi rfl rfl (ub_shr _ _ rfl)) rfl <| Wo.od (o_as rfl) rfl <| Wo.nil <| At.tn <| Wk.seq <| Wk.region <| Wo.od (o_mv rfl) rfl <| Wo.od (o_mv rfl) rfl ?_
 obtain ⟨y3, h4, hF⟩ := ob_some hF
 refine Wo.od (o_bi rfl rfl ((ub_mul rfl _ _).trans (cN h4))) rfl <| Wo.od (o_as rfl) rfl <| Wo.nil <| At.tn <| Wk.seq <| Wk.region <| Wo.od (o_mv rfl) rfl <| Wo.od (o_mv rfl) rfl ?_
 obtain ⟨y5, h6, hF⟩ := ob_some hF
 refine Wo.od (o_bi rfl rfl ((ub_mul rfl _ _).trans (cN h6))) rfl <| Wo.od (o_mv rfl) rfl <| Wo.od (o_bi rfl rfl (ub_shr _ _ rfl)) rfl <| Wo.od (o_bi rfl rfl (ub_add rfl _ _)) rfl <| Wo.od (o_as rfl) rfl <| Wo.nil <| At.tn <| Wk.seq <| Wk.region <| Wo.od (o_mv rfl) rfl ?_
 obtain ⟨y7, h8, hF⟩ := ob_some hF
 refine Wo.od (o_bi rfl rfl ((ub_and rfl _ _).trans (cN h8))) rfl <| Wo.od (o_as rfl) rfl <| Wo.nil <| At.tn <| Wk.seq <| Wk.region <| Wo.od (o_mv rfl) rfl <| Wo.od (o_bi rfl rfl (ub_shr _ _ rfl)) rfl <| Wo.od (o_as rfl) rfl <| Wo.nil <| At.tn <| Wk.seq <| Wk.region <| Wo.od (o_mv rfl) rfl <| Wo.od (o_mv rfl) rfl <| Wo.od (o_mv rfl) rfl ?_
 obtain ⟨y9, h10, hF⟩ := ob_some hF
 refine Wo.od (o_bi rfl rfl ((ub_mul rfl _ _).trans (cN h10))) rfl <| Wo.od (o_bi rfl rfl (ub_add rfl _ _)) rfl <| Wo.od (o_as rfl) rfl <| Wo.nil <| At.tn <| Wk.seq <| Wk.region <| Wo.od (o_mv rfl) rfl <| Wo.od (o_mv rfl) rfl <| Wo.od (o_bi rfl rfl (ub_mul rfl _ _)) rfl <| Wo.od (o_mv rfl) rfl ?_
 obtain ⟨y11, h12, hF⟩ := ob_some hF
 refine Wo.od (o_bi rfl rfl ((ub_add rfl _ _).trans (cN h12))) rfl <| Wo.od (o_mv rfl) rfl <| Wo.od (o_bi rfl rfl (ub_shr _ _ rfl)) rfl <| Wo.od (o_bi rfl rfl (ub_add rfl _ _)) rfl <| Wo.od (o_as rfl) rfl <| Wo.nil <| At.tn <| Wk.seq <| Wk.region <| Wo.od (o_mv rfl) rfl <| Wo.od (o_mv rfl) rfl <| Wo.od (o_bi rfl rfl (ub_mul rfl _ _)) rfl <| Wo.od (o_as rfl) rfl <| Wo.nil <| At.tn <| Wk.ret ?_
 cases hF
 exact At.ret (.tmp rfl (.tmp rfl .nil)) fun m' hm => ⟨(), rfl, (Turn.picks [] rfl rfl) m' hm⟩
theorem f77_ok (n : Nat) (x1 : Nat) (x2 : Nat)  (r : Nat × Nat) (hF : F77 n x1 x2 = some r) (m : AMem)  :
  CallA E18w 77 [.int .u64 ((x1 : Nat) : Int), .int .u64 ((x2 : Nat) : Int)] m (fun v m' => ∃ x : Unit, v = .tuple #[.int .u64 ((r.1 : Nat) : Int), .int .u64 ((r.2 : Nat) : Int)] ∧ Hp m m' []) := by
 unfold F77 at hF
 refine call_wk (m0 := m) (ps := []) (N := 30) (rs := [.tmp 4, .tmp 5]) rfl Tryd.func77 rfl rfl rfl (Hp.start m) <| Wk.seq <| Wk.region <| Wo.od (o_as rfl) rfl <| Wo.od (o_as rfl) rfl <| Wo.nil <| At.tn <| Wk.seq <| Wk.condF rfl rfl <| Wk.skip <| At.tn <| Wk.seq <| Wk.region <| Wo.od (o_mv rfl) rfl <| Wo.od (o_mv rfl) rfl ?_
 obtain ⟨⟨r4, r5⟩, h3, hF⟩ := ob_some hF
 refine Wo.x (o_cl rfl rfl (fun m hm => f84_ok n x1 x2  _ h3 m ) fun _ => rfl) gn rfl ?_
 rintro ⟨⟩
 refine Wo.od (o_mv rfl) rfl <| Wo.od (o_ex rfl rfl) rfl <| Wo.od (o_ex rfl rfl) rfl <| Wo.od (o_as rfl) rfl <| Wo.od (o_as rfl) rfl <| Wo.nil <| At.tn <| Wk.seq <| Wk.region <| Wo.od (o_mv rfl) rfl <| Wo.od (o_mv rfl) rfl <| Wo.od (o_as rfl) rfl <| Wo.od (o_as rfl) rfl <| Wo.nil <| At.tn <| Wk.ret ?_
 cases hF
 exact At.ret (.tmp rfl (.tmp rfl .nil)) fun m' hm => ⟨(), rfl, (Turn.picks [] rfl rfl) m' hm⟩
end Go.Proofs.YtpclggcpobakhaaDoor.W60
end

section
namespace Go.Proofs.YtpclggcpobakhaaDoor
open Go Go.Ab Go.Ab.W
section
variable {α β σ ρ : Type}
theorem br_t (a b : Option β) : br true a b = a := rfl
theorem br_f (a b : Option β) : br false a b = b := rfl
theorem gd_t (a : Option β) : gd true a = a := rfl
theorem ob_s (x : α) (f : α → Option β) : ob (some x) f = f x := rfl
theorem br_dt {p : Prop} [Decidable p] (h : p) (a b : Option β) : br (decide p) a b = a := by rw [decide_eq_true h]; rfl
theorem br_df {p : Prop} [Decidable p] (h : ¬ p) (a b : Option β) : br (decide p) a b = b := by rw [decide_eq_false h]; rfl
theorem br_ite (c : Bool) (a b : Option β) : br c a b = if c then a else b := by cases c <;> rfl
theorem gd_dt {p : Prop} [Decidable p] (h : p) (a : Option β) : gd (decide p) a = a := by rw [decide_eq_true h]; rfl
theorem inB_nat {i n : Nat} (h : i < n) : inB (i : Int) n = true := decide_eq_true ⟨Int.natCast_nonneg i, by simpa using h⟩
theorem wrap_in {x : Int} (h1 : -9223372036854775808 ≤ x) (h2 : x < 9223372036854775808) : IntKind.wrap .i64 x = x := wrap_i64 x h1 (by omega)
theorem wrap_succ {i : Nat} (h : i < 4611686018427387904) : IntKind.wrap .i64 ((i : Int) + 1) = ((i + 1 : Nat) : Int) := by rw [wrap_in (by omega) (by omega)]; rfl
theorem lp_next {body : σ → Option (σ ⊕ ρ)} {n : Nat} {s s' : σ} (h : body s = some (.inl s')) : lpN body (n + 1) s = lpN body n s' := by simp only [lpN, h]
theorem lp_end {body : σ → Option (σ ⊕ ρ)} {n : Nat} {s : σ} {r : ρ} (h : body s = some (.inr r)) : lpN body (n + 1) s = some r := by simp only [lpN, h]
end
theorem drop_len {α : Type} {l l' : List α} {i : Nat} (h : l.length = l'.length) (hi : l.length ≤ i) : l.drop i = l'.drop i := by
 rw [List.drop_of_length_le hi, List.drop_of_length_le (by omega)]
theorem L34_eq (n0 : Nat) {l2 l7 : List (Int × Int)} (h2 : l2.length = l7.length) (hl : l2.length < 4611686018427387904) : ∀ k i n, i + k = l2.length → k < n → lpN (L34_1 n0 l2 l7) n ((i : Nat) : Int) = some (if l2.drop i = l7.drop i then .inr () else .inl ()) := by
 intro k
 induction k with
 | zero =>
  intro i n hi hk
  obtain ⟨n, rfl⟩ : ∃ n', n = n' + 1 := ⟨n - 1, by omega⟩
  rw [if_pos (drop_len h2 (by omega))]
  exact lp_end (by unfold L34_1; rw [br_df (by omega)])
 | succ k ih =>
  intro i n hi hk
  obtain ⟨n, rfl⟩ : ∃ n', n = n' + 1 := ⟨n - 1, by omega⟩
  have a1 : i < l2.length := by omega
  have a2 : i < l7.length := by omega
  have e1 : l2[((i : Nat) : Int).toNat]? = some l2[i] := by simp [a1]
  have e2 : l7[((i : Nat) : Int).toNat]? = some l7[i] := by simp [a2]
  have c1 : decide (((i : Nat) : Int) < (l2.length : Int)) = true := decide_eq_true (by omega)
  have hb : i < 4611686018427387904 := by omega
  rw [List.drop_eq_getElem_cons a1, List.drop_eq_getElem_cons a2]
  generalize l2[i] = p at e1 ⊢
  generalize l7[i] = q at e2 ⊢
  obtain ⟨p1, p2⟩ := p
  obtain ⟨q1, q2⟩ := q
  by_cases hpq : p1 = q1 ∧ p2 = q2
  ·obtain ⟨rfl, rfl⟩ := hpq
   rw [lp_next (s' := ((i + 1 : Nat) : Int)) (by simp only [L34_1, c1, br_t, inB_nat a1, gd_t, e1, ob_s, inB_nat a2, e2, decide_true, Bool.and_self, Bool.not_true, br_f, wrap_succ hb])]
   rw [ih (i + 1) n (by omega) (by omega)]
   simp
  ·have hd : (!(decide (p1 = q1) && decide (p2 = q2))) = true := by
    by_cases h : p1 = q1 <;> simp_all
   rw [lp_end (r := .inl ()) (by simp only [L34_1, c1, br_t, inB_nat a1, gd_t, e1, ob_s, inB_nat a2, e2, hd])]
   rw [if_neg (by simp; intro h3 h4; exact absurd ⟨h3, h4⟩ hpq)]
theorem F34_eq (n : Nat) (l2 l7 : List (Int × Int)) (hl : l2.length < 4611686018427387904) (hn : l2.length < n) : F34 n l2 l7 = some (decide (l2 = l7)) := by
 unfold F34
 by_cases h2 : l2.length = l7.length
 ·have h2' : ((l2.length : Int) = (l7.length : Int)) := by omega
  rw [show (!decide ((l2.length : Int) = (l7.length : Int))) = false by simp [h2'], br_f]
  have := L34_eq n h2 hl l2.length 0 n (by omega) hn
  simp only [List.drop_zero] at this
  rw [show lpN (L34_1 n l2 l7) n 0 = _ from this, ob_s]
  by_cases h3 : l2 = l7
  ·simp [h3]
  ·simp [h3]
 ·have h2' : ¬ ((l2.length : Int) = (l7.length : Int)) := by omega
  have h3 : ¬ l2 = l7 := fun e => h2 (by rw [e])
  rw [show (!decide ((l2.length : Int) = (l7.length : Int))) = true by simp [h2'], br_t]
  simp [h3]
def okEp (N : Int) : Int × Int → List (Int × Int) → Bool
 | _, [] => true
 | p, e :: es => decide (0 ≤ e.1 ∧ e.1 < e.2 ∧ e.2 < N) && decide (p.1 < e.1 ∨ p.1 = e.1 ∧ p.2 < e.2) && okEp N e es
def okG (N : Int) (es : List (Int × Int)) : Bool := decide (1 ≤ N ∧ N ≤ 64 ∧ es.length ≤ 200) && okEp N (-1, -1) es
def ckG (N : Int) (es : List (Int × Int)) : Int := if okG N es then 0 else 180
theorem F94_eq (n : Nat) (x : Int) : F94 n x = some false := by unfold F94; simp
theorem F81_eq (n : Nat) (x y : Int) : F81 n x y = some (if x < y then -1 else if y < x then 1 else 0) := by
 unfold F81
 simp only [F94_eq, ob_s, br_f]
 rw [br_ite, br_ite]
 by_cases h : x < y
 ·simp [h]
 ·by_cases h' : y < x <;> simp [h, h']
theorem F64_eq (n : Nat) (a b c d : Int) (hn : 2 < n) : F64 n [a, b] [c, d] = some (if a < c then -1 else if c < a then 1 else if b < d then -1 else if d < b then 1 else 0) := by
 obtain ⟨n, rfl⟩ : ∃ n', n = n' + 3 := ⟨n - 3, by omega⟩
 have L0 : L64_1 (n + 3) [a, b] [c, d] 0 = if a < c then some (.inr (.inl (-1))) else if c < a then some (.inr (.inl 1)) else some (.inl 1) := by
  unfold L64_1
  simp only [List.length_cons, List.length_nil]
  rw [br_dt (by decide), show inB 0 (0 + 1 + 1) = true by decide, gd_t]
  simp only [Int.toNat_zero, List.getElem?_cons_zero, ob_s]
  rw [br_df (by decide), gd_t]
  simp only [F81_eq, ob_s]
  by_cases h : a < c
  ·simp [h, br_t]
  ·by_cases h' : c < a
   ·simp [h, h', br_t]
   ·simp only [h, h', if_false, decide_true, Bool.not_true, br_f]
    rw [wrap_in (by decide) (by decide)]; rfl
 have L1 : L64_1 (n + 3) [a, b] [c, d] 1 = if b < d then some (.inr (.inl (-1))) else if d < b then some (.inr (.inl 1)) else some (.inl 2) := by
  unfold L64_1
  simp only [List.length_cons, List.length_nil]
  rw [br_dt (by decide), show inB 1 (0 + 1 + 1) = true by decide, gd_t]
  simp only [show (1 : Int).toNat = 1 from rfl, List.getElem?_cons_succ, List.getElem?_cons_zero, ob_s]
  rw [br_df (by decide), gd_t]
  simp only [F81_eq, ob_s]
  by_cases h : b < d
  ·simp [h, br_t]
  ·by_cases h' : d < b
   ·simp [h, h', br_t]
   ·simp only [h, h', if_false, decide_true, Bool.not_true, br_f]
    rw [wrap_in (by decide) (by decide)]; rfl
 have L2 : L64_1 (n + 3) [a, b] [c, d] 2 = some (.inr (.inr ())) := by
  unfold L64_1
  simp only [List.length_cons, List.length_nil]
  rw [br_df (by decide)]
 unfold F64
 by_cases h1 : a < c
 ·rw [if_pos h1] at L0 ⊢
  rw [lp_end L0]; rfl
 ·rw [if_neg h1] at L0 ⊢
  by_cases h2 : c < a
  ·rw [if_pos h2] at L0 ⊢
   rw [lp_end L0]; rfl
  ·rw [if_neg h2] at L0 ⊢
   rw [lp_next L0]
   by_cases h3 : b < d
   ·rw [if_pos h3] at L1 ⊢
    rw [lp_end L1]; rfl
   ·rw [if_neg h3] at L1 ⊢
    by_cases h4 : d < b
    ·rw [if_pos h4] at L1 ⊢
     rw [lp_end L1]; rfl
    ·rw [if_neg h4] at L1 ⊢
     rw [lp_next L1, lp_end L2, ob_s]
     simp only [List.length_cons, List.length_nil]
     rfl
def stepOk (N : Int) (p e : Int × Int) : Bool := decide (0 ≤ e.1 ∧ e.1 < e.2 ∧ e.2 < N) && decide (p.1 < e.1 ∨ p.1 = e.1 ∧ p.2 < e.2)
theorem okE_cons (N : Int) (p e : Int × Int) (es : List (Int × Int)) : okEp N p (e :: es) = (stepOk N p e && okEp N e es) := rfl
theorem L23_step (n : Nat) (l2 : List (Int × Int)) (N : Int) (p : Int × Int) (i : Nat) (e : Int × Int) (hn : 2 < n) (hi : l2[i]? = some e) (hb : i < 4611686018427387904) :
  L23_1 n l2 N (p.1, p.2, (i : Int)) = if stepOk N p e then some (.inl (e.1, e.2, ((i + 1 : Nat) : Int))) else some (.inr (.inl ())) := by
 obtain ⟨p1, p2⟩ := p
 obtain ⟨a, b⟩ := e
 have a1 : i < l2.length := (List.getElem?_eq_some_iff.1 hi).1
 have e1 : l2[((i : Nat) : Int).toNat]? = some (a, b) := by simpa using hi
 have c1 : decide (((i : Nat) : Int) < (l2.length : Int)) = true := decide_eq_true (by omega)
 simp only [L23_1, c1, br_t, inB_nat a1, gd_t, e1, ob_s, F64_eq n _ _ _ _ hn, wrap_succ hb]
 by_cases h1 : a < 0
 ·have : stepOk N (p1, p2) (a, b) = false := by simp [stepOk]; omega
  rw [this, br_dt h1, ob_s, br_t]; rfl
 ·rw [br_df h1]
  by_cases h2 : b ≤ a
  ·have : stepOk N (p1, p2) (a, b) = false := by simp [stepOk]; omega
   rw [this, br_dt h2, ob_s, br_t]; rfl
  ·rw [br_df h2]
   by_cases h3 : N ≤ b
   ·have : stepOk N (p1, p2) (a, b) = false := by simp [stepOk]; omega
    rw [this, br_dt h3, ob_s, br_t]; rfl
   ·rw [br_df h3, ob_s]
    by_cases h4 : p1 < a ∨ p1 = a ∧ p2 < b
    ·have : stepOk N (p1, p2) (a, b) = true := by simp [stepOk]; omega
     have h5 : ¬ (0 ≤ (if p1 < a then (-1 : Int) else if a < p1 then 1 else if p2 < b then -1 else if b < p2 then 1 else 0)) := by
      rcases h4 with h4 | ⟨h4, h5⟩
      ·rw [if_pos h4]; decide
      ·rw [if_neg (by omega), if_neg (by omega), if_pos h5]; decide
     rw [this, br_df h5]; rfl
    ·have : stepOk N (p1, p2) (a, b) = false := by simp [stepOk]; omega
     have h5 : 0 ≤ (if p1 < a then (-1 : Int) else if a < p1 then 1 else if p2 < b then -1 else if b < p2 then 1 else 0) := by
      rw [if_neg (by omega)]
      by_cases h6 : a < p1
      ·rw [if_pos h6]; decide
      ·rw [if_neg h6, if_neg (by omega)]; split <;> decide
     rw [this, br_dt h5]; rfl
theorem L23_eq (n0 : Nat) (l2 : List (Int × Int)) (N : Int) (hn : 2 < n0) (hl : l2.length < 4611686018427387904) : ∀ k i p n, i + k = l2.length → k < n → lpN (L23_1 n0 l2 N) n (p.1, p.2, (i : Int)) = some (if okEp N p (l2.drop i) then .inr () else .inl ()) := by
 intro k
 induction k with
 | zero =>
  intro i p n hi hk
  obtain ⟨n, rfl⟩ : ∃ n', n = n' + 1 := ⟨n - 1, by omega⟩
  rw [List.drop_of_length_le (by omega)]
  exact lp_end (by simp only [L23_1]; rw [br_df (by omega)]; rfl)
 | succ k ih =>
  intro i p n hi hk
  obtain ⟨n, rfl⟩ : ∃ n', n = n' + 1 := ⟨n - 1, by omega⟩
  have a1 : i < l2.length := by omega
  have hs := L23_step n0 l2 N p i l2[i] hn (by simp [a1]) (by omega)
  rw [List.drop_eq_getElem_cons a1, okE_cons]
  by_cases h : stepOk N p l2[i] = true
  ·rw [if_pos h] at hs
   rw [lp_next hs, ih (i + 1) l2[i] n (by omega) (by omega), h, Bool.true_and]
  ·rw [if_neg h] at hs
   rw [lp_end hs]
   simp only [Bool.not_eq_true] at h
   rw [h]; rfl
theorem head_eq (N : Int) (len : Nat) : (br (decide (N < 1)) (some true) (br (decide (64 < N)) (some true) (some (decide (200 < (len : Int)))))) = some (!decide (1 ≤ N ∧ N ≤ 64 ∧ len ≤ 200)) := by
 rw [br_ite, br_ite]
 by_cases h1 : N < 1
 ·have : ¬ (1 ≤ N ∧ N ≤ 64 ∧ len ≤ 200) := by omega
  simp [h1, this]
 ·by_cases h2 : 64 < N
  ·have : ¬ (1 ≤ N ∧ N ≤ 64 ∧ len ≤ 200) := by omega
   simp [h1, h2, this]
  ·by_cases h3 : 200 < (len : Int)
   ·have : ¬ (1 ≤ N ∧ N ≤ 64 ∧ len ≤ 200) := by omega
    simp only [h1, h2, h3, this, decide_true, decide_false, Bool.false_eq_true, if_false, Bool.not_false]
   ·have : (1 ≤ N ∧ N ≤ 64 ∧ len ≤ 200) := by omega
    simp only [h1, h2, h3, this, decide_true, decide_false, Bool.false_eq_true, if_false, Bool.not_true, and_self]
theorem F23_eq (n : Nat) (N : Int) (es : List (Int × Int)) (hn : 2 < n) (hl : es.length < 4611686018427387904) (hk : es.length < n) : F23 n N es = some (ckG N es) := by
 unfold F23
 rw [head_eq, ob_s]
 unfold ckG okG
 by_cases h : 1 ≤ N ∧ N ≤ 64 ∧ es.length ≤ 200
 ·rw [decide_eq_true h, Bool.not_true, br_f, Bool.true_and]
  have := L23_eq n es N hn hl es.length 0 (-1, -1) n (by omega) hk
  rw [List.drop_zero] at this
  rw [show lpN (L23_1 n es N) n (-1, -1, 0) = _ from this, ob_s]
  by_cases h2 : okEp N (-1, -1) es = true
  ·rw [if_pos h2, if_pos h2]
  ·rw [if_neg h2, if_neg h2]
 ·rw [decide_eq_false h, Bool.not_false, br_t, Bool.false_and]; rfl
def prevOf (l : List (Int × Int)) (i : Nat) (p : Int × Int) : Prop := (i = 0 ∧ p = (-1, -1)) ∨ (0 < i ∧ l[i - 1]? = some p)
theorem L43_step (n : Nat) (l2 : List (Int × Int)) (N : Int) (p : Int × Int) (i : Nat) (e : Int × Int) (hp : prevOf l2 i p) (hi : l2[i]? = some e) (hb : i < 4611686018427387904) :
  L43_1 n l2 N (i : Int) = if stepOk N p e then some (.inl ((i + 1 : Nat) : Int)) else some (.inr (.inl ())) := by
 obtain ⟨p1, p2⟩ := p
 obtain ⟨a, b⟩ := e
 have a1 : i < l2.length := (List.getElem?_eq_some_iff.1 hi).1
 have e1 : l2[((i : Nat) : Int).toNat]? = some (a, b) := by simpa using hi
 have c1 : decide (((i : Nat) : Int) < (l2.length : Int)) = true := decide_eq_true (by omega)
 simp only [L43_1, c1, br_t, inB_nat a1, gd_t, e1, ob_s, wrap_succ hb]
 by_cases h1 : a < 0
 ·have : stepOk N (p1, p2) (a, b) = false := by simp [stepOk]; omega
  rw [this, br_dt h1, ob_s, br_t]; rfl
 ·rw [br_df h1]
  by_cases h2 : b ≤ a
  ·have : stepOk N (p1, p2) (a, b) = false := by simp [stepOk]; omega
   rw [this, br_dt h2, ob_s, br_t]; rfl
  ·rw [br_df h2, ob_s]
   by_cases h3 : N ≤ b
   ·have : stepOk N (p1, p2) (a, b) = false := by simp [stepOk]; omega
    rw [this, br_dt h3]; rfl
   ·rw [br_df h3]
    rcases hp with ⟨rfl, h4⟩ | ⟨h0, h4⟩
    ·cases h4
     have : stepOk N (-1, -1) (a, b) = true := by simp [stepOk]; omega
     rw [this, br_df (by omega), ob_s, br_f]; rfl
    ·have w1 : IntKind.wrap .i64 ((i : Int) - 1) = ((i - 1 : Nat) : Int) := by rw [wrap_in (by omega) (by omega)]; omega
     have e2 : l2[((i - 1 : Nat) : Int).toNat]? = some (p1, p2) := by simpa using h4
     rw [br_dt (by omega), w1, inB_nat (by omega : i - 1 < l2.length), gd_t, e2, ob_s]
     simp only [gd_t]
     by_cases h5 : a < p1
     ·have : stepOk N (p1, p2) (a, b) = false := by simp [stepOk]; omega
      rw [this, br_dt h5, ob_s, br_t]; rfl
     ·rw [br_df h5]
      by_cases h6 : p1 = a
      ·rw [br_dt h6, ob_s]
       by_cases h7 : b ≤ p2
       ·have : stepOk N (p1, p2) (a, b) = false := by simp [stepOk]; omega
        rw [this, br_dt h7]; rfl
       ·have : stepOk N (p1, p2) (a, b) = true := by simp [stepOk]; omega
        rw [this, br_df h7]; rfl
      ·have : stepOk N (p1, p2) (a, b) = true := by simp [stepOk]; omega
       rw [this, br_df h6, ob_s, br_f]; rfl
theorem L43_eq (n0 : Nat) (l2 : List (Int × Int)) (N : Int) (hl : l2.length < 4611686018427387904) : ∀ k i p n, prevOf l2 i p → i + k = l2.length → k < n → lpN (L43_1 n0 l2 N) n (i : Int) = some (if okEp N p (l2.drop i) then .inr () else .inl ()) := by
 intro k
 induction k with
 | zero =>
  intro i p n hp hi hk
  obtain ⟨n, rfl⟩ : ∃ n', n = n' + 1 := ⟨n - 1, by omega⟩
  rw [List.drop_of_length_le (by omega)]
  exact lp_end (by simp only [L43_1]; rw [br_df (by omega)]; rfl)
 | succ k ih =>
  intro i p n hp hi hk
  obtain ⟨n, rfl⟩ : ∃ n', n = n' + 1 := ⟨n - 1, by omega⟩
  have a1 : i < l2.length := by omega
  have hs := L43_step n0 l2 N p i l2[i] hp (by simp [a1]) (by omega)
  rw [List.drop_eq_getElem_cons a1, okE_cons]
  by_cases h : stepOk N p l2[i] = true
  ·rw [if_pos h] at hs
   rw [lp_next hs, ih (i + 1) l2[i] n (.inr ⟨by omega, by simp [a1]⟩) (by omega) (by omega), h, Bool.true_and]
  ·rw [if_neg h] at hs
   rw [lp_end hs]
   simp only [Bool.not_eq_true] at h
   rw [h]; rfl
theorem F43_eq (n : Nat) (N : Int) (es : List (Int × Int)) (hl : es.length < 4611686018427387904) (hk : es.length < n) : F43 n N es = some (ckG N es) := by
 unfold F43
 rw [head_eq, ob_s]
 unfold ckG okG
 by_cases h : 1 ≤ N ∧ N ≤ 64 ∧ es.length ≤ 200
 ·rw [decide_eq_true h, Bool.not_true, br_f, Bool.true_and]
  have := L43_eq n es N hl es.length 0 (-1, -1) n (.inl ⟨rfl, rfl⟩) (by omega) hk
  rw [List.drop_zero] at this
  rw [show lpN (L43_1 n es N) n 0 = _ from this, ob_s]
  by_cases h2 : okEp N (-1, -1) es = true
  ·rw [if_pos h2, if_pos h2]
  ·rw [if_neg h2, if_neg h2]
 ·rw [decide_eq_false h, Bool.not_false, br_t, Bool.false_and]; rfl
end Go.Proofs.YtpclggcpobakhaaDoor
end

section
namespace Go.Ab.W
open Go Go.Ab
theorem uM64 : uM .u64 = 2 ^ 64 := rfl
theorem uw_id {a : Nat} (h : a < 2 ^ 64) : uw .u64 a = a := Nat.mod_eq_of_lt h
theorem tb_lt {a : Nat} (h : a < 2 ^ 64) {i : Nat} (hi : a.testBit i = true) : i < 64 := by
 rcases Nat.lt_or_ge i 64 with h1 | h1
 ·exact h1
 ·have : a < 2 ^ i := Nat.lt_of_lt_of_le h (Nat.pow_le_pow_right (by decide) h1)
  rw [Nat.testBit_lt_two_pow this] at hi; cases hi
theorem word_and {a b : Nat} (ha : a < 2 ^ 64) (hb : b < 2 ^ 64) : uw .u64 (uw .u64 a &&& uw .u64 b) = a &&& b := by
 rw [uw_id ha, uw_id hb, uw_id (Nat.lt_of_le_of_lt Nat.and_le_left ha)]
theorem word_or {a b : Nat} (ha : a < 2 ^ 64) (hb : b < 2 ^ 64) : uw .u64 (uw .u64 a ||| uw .u64 b) = a ||| b := by
 rw [uw_id ha, uw_id hb, uw_id (Nat.or_lt_two_pow ha hb)]
theorem and_lt' {a b : Nat} (ha : a < 2 ^ 64) : a &&& b < 2 ^ 64 := Nat.lt_of_le_of_lt Nat.and_le_left ha
theorem or_lt' {a b : Nat} (ha : a < 2 ^ 64) (hb : b < 2 ^ 64) : a ||| b < 2 ^ 64 := Nat.or_lt_two_pow ha hb
theorem word_andn {a b : Nat} (ha : a < 2 ^ 64) (hb : b < 2 ^ 64) : uandn .u64 a b = a ^^^ (a &&& b) := by
 unfold uandn
 rw [uw_id ha, uw_id hb, uw_id (Nat.xor_lt_two_pow ha (and_lt' ha))]
theorem tb_andn {a b : Nat} (ha : a < 2 ^ 64) (hb : b < 2 ^ 64) (i : Nat) : (uandn .u64 a b).testBit i = (a.testBit i && !b.testBit i) := by
 rw [word_andn ha hb, Nat.testBit_xor, Nat.testBit_and]
 cases a.testBit i <;> cases b.testBit i <;> rfl
theorem andn_lt {a b : Nat} (ha : a < 2 ^ 64) (hb : b < 2 ^ 64) : uandn .u64 a b < 2 ^ 64 := by
 rw [word_andn ha hb]; exact Nat.xor_lt_two_pow ha (and_lt' ha)
theorem word_one {k : Nat} (h : k < 64) : ushl .u64 1 k = 2 ^ k := by
 unfold ushl
 rw [Nat.min_eq_left (Nat.le_of_lt (show k < IntKind.bits .u64 from h)), Nat.one_mul]
 exact uw_id (Nat.pow_lt_pow_right (by decide) h)
theorem one_lt {k : Nat} (h : k < 64) : 2 ^ k < 2 ^ 64 := Nat.pow_lt_pow_right (by decide) h
theorem tb_one (k i : Nat) : (2 ^ k).testBit i = decide (i = k) := by
 rw [Nat.testBit_two_pow]
 by_cases h : k = i
 ·simp [h]
 ·simp [h, Ne.symm h]
theorem ui_nn {k : Int} (h0 : 0 ≤ k) (h1 : k < 64) : ui .u64 k = k.toNat := by
 unfold ui
 rw [Int.emod_eq_of_lt h0 (by rw [uM64]; omega)]
theorem word_shr {a k : Nat} (h : k ≤ 64) : ushr .u64 a k = a >>> k := by
 unfold ushr
 rw [Nat.min_eq_left (show k ≤ IntKind.bits .u64 from h), Nat.shiftRight_eq_div_pow]
theorem bit_at {a k : Nat} (ha : a < 2 ^ 64) (h : k ≤ 64) : decide (uw .u64 (uw .u64 (ushr .u64 a k) &&& uw .u64 1) = 1) = a.testBit k := by
 have hs : a >>> k < 2 ^ 64 := Nat.lt_of_le_of_lt (by rw [Nat.shiftRight_eq_div_pow]; exact Nat.div_le_self _ _) ha
 rw [word_shr h, word_and hs (by decide), Nat.testBit]
 rw [Nat.and_comm]
 have h2 : 1 &&& a >>> k = (a >>> k) % 2 := by rw [Nat.and_comm, Nat.and_one_is_mod]
 rw [h2]
 rcases Nat.mod_two_eq_zero_or_one (a >>> k) with h3 | h3 <;> rw [h3] <;> rfl
theorem word_ext {a b : Nat} (h : ∀ i, a.testBit i = true ↔ b.testBit i = true) : a = b := Nat.eq_of_testBit_eq fun i => by
 have := h i
 cases ha : a.testBit i <;> cases hb : b.testBit i <;> simp_all
theorem word_zero {a : Nat} : a = 0 ↔ ∀ i, a.testBit i = false := ⟨fun h => by subst h; exact fun i => Nat.zero_testBit i, fun h => Nat.eq_of_testBit_eq fun i => by rw [h, Nat.zero_testBit]⟩
theorem tz_bit {x : Nat} (h0 : 0 < x) (h1 : x < 2 ^ 64) : x.testBit (tz x) = true ∧ ∀ i, i < tz x → x.testBit i = false := by
 obtain ⟨h2, _, q, hq⟩ := tz_low h0 h1
 have key : ∀ i, x.testBit i = (decide (tz x ≤ i) && (2 * q + 1).testBit (i - tz x)) := fun i => by
  conv => lhs; rw [hq]
  rw [Nat.testBit_two_pow_mul]
 refine ⟨?_, fun i hi => ?_⟩
 ·rw [key, Nat.sub_self]
  simp [Nat.testBit_zero]
 ·rw [key, decide_eq_false (by omega)]; rfl
def clr (x : Nat) : Nat := uw .u64 (uw .u64 x &&& uw .u64 (usub .u64 x 1))
theorem clr_eq {x : Nat} (h0 : 0 < x) (h1 : x < 2 ^ 64) : clr x = x &&& (x - 1) := by
 have : usub .u64 x 1 = x - 1 := by
  unfold usub
  rw [uM64, uw_id (show (1 : Nat) < 2 ^ 64 by decide)]
  show (x + (2 ^ 64 - 1)) % 2 ^ 64 = x - 1
  omega
 unfold clr
 rw [this, word_and h1 (by omega)]
theorem pred_bit (t q i : Nat) : (2 ^ t * (2 * q + 1) - 1).testBit i = if i < t then true else if i = t then false else (2 ^ t * (2 * q + 1)).testBit i := by
 have e : 2 ^ t * (2 * q + 1) - 1 = 2 ^ t * (2 * q) + (2 ^ t - 1) := by
  rw [Nat.mul_add, Nat.mul_one]
  have := Nat.two_pow_pos t
  omega
 rw [e, Nat.testBit_two_pow_mul_add _ (by have := Nat.two_pow_pos t; omega)]
 by_cases h : i < t
 ·rw [if_pos h, if_pos h, Nat.testBit_two_pow_sub_one]; simp [h]
 ·rw [if_neg h, if_neg h]
  by_cases h' : i = t
  ·subst h'; simp [Nat.testBit_zero]
  ·rw [if_neg h', Nat.testBit_two_pow_mul]
   obtain ⟨d, hd⟩ : ∃ d, i - t = d + 1 := ⟨i - t - 1, by omega⟩
   rw [hd, Nat.testBit_succ, Nat.testBit_succ]
   have : (2 * q + 1) / 2 = 2 * q / 2 := by omega
   rw [this]
   simp; omega
theorem clr_bit {x : Nat} (h0 : 0 < x) (h1 : x < 2 ^ 64) (i : Nat) : (clr x).testBit i = (x.testBit i && !decide (i = tz x)) := by
 rw [clr_eq h0 h1, Nat.testBit_and]
 obtain ⟨_, _, q, hq⟩ := tz_low h0 h1
 obtain ⟨hb, hl⟩ := tz_bit h0 h1
 have := pred_bit (tz x) q i
 rw [← hq] at this
 rw [this]
 by_cases h : i < tz x
 ·rw [hl i h]; rfl
 ·rw [if_neg h]
  by_cases h' : i = tz x
  ·simp [h']
  ·simp [h']
theorem clr_lt {x : Nat} (h0 : 0 < x) (h1 : x < 2 ^ 64) : clr x < 2 ^ 64 := by rw [clr_eq h0 h1]; exact and_lt' h1
def bitsOf (x : Nat) : List Nat := (List.range 64).filter fun i => x.testBit i
theorem mem_bitsOf {x i : Nat} (h : x < 2 ^ 64) : i ∈ bitsOf x ↔ x.testBit i = true := by
 unfold bitsOf
 rw [List.mem_filter, List.mem_range]
 exact ⟨fun h => h.2, fun hi => ⟨tb_lt h hi, hi⟩⟩
theorem bitsOf_len (x : Nat) : (bitsOf x).length ≤ 64 := by
 unfold bitsOf
 exact Nat.le_trans (List.length_filter_le _ _) (by simp)
theorem bitsOf_zero : bitsOf 0 = [] := by
 unfold bitsOf
 simp
theorem filter_range_cons (p q : Nat → Bool) (t : Nat) : ∀ (n s : Nat), s ≤ t → t < s + n → p t = true → (∀ i, s ≤ i → i < t → p i = false) → (∀ i, t < i → p i = q i) → (∀ i, s ≤ i → i ≤ t → q i = false) →
  (List.range' s n).filter p = t :: (List.range' s n).filter q
 | 0, s, h1, h2, _, _, _, _ => by omega
 | n + 1, s, h1, h2, hp, hl, hg, hq => by
  rw [List.range'_succ]
  by_cases h : s = t
  ·subst h
   rw [List.filter_cons_of_pos hp, List.filter_cons_of_neg (by rw [hq s (Nat.le_refl _) (Nat.le_refl _)]; decide)]
   congr 1
   apply List.filter_congr
   intro i hi
   rw [List.mem_range'_1] at hi
   exact hg i (by omega)
  ·rw [List.filter_cons_of_neg (by rw [hl s (Nat.le_refl _) (by omega)]; decide), List.filter_cons_of_neg (by rw [hq s (Nat.le_refl _) (by omega)]; decide)]
   exact filter_range_cons p q t n (s + 1) (by omega) (by omega) hp (fun i a b => hl i (by omega) b) hg (fun i a b => hq i (by omega) b)
theorem bitsOf_cons {x : Nat} (h0 : 0 < x) (h1 : x < 2 ^ 64) : bitsOf x = tz x :: bitsOf (clr x) := by
 obtain ⟨hb, hl⟩ := tz_bit h0 h1
 unfold bitsOf
 rw [List.range_eq_range']
 refine filter_range_cons _ _ (tz x) 64 0 (Nat.zero_le _) (by have := (tz_low h0 h1).1; omega) hb (fun i _ h => hl i h) (fun i h => ?_) (fun i _ h => ?_)
 ·show x.testBit i = (clr x).testBit i
  rw [clr_bit h0 h1]
  have : i ≠ tz x := by omega
  simp [this]
 ·show (clr x).testBit i = false
  rw [clr_bit h0 h1]
  by_cases e : i = tz x
  ·simp [e]
  ·rw [hl i (by omega)]; rfl
section
variable {σ ρ τ : Type}
theorem lp_bits {body : τ → Option (τ ⊕ ρ)} (mk : Nat → σ → τ) (step : σ → Nat → σ) (fin : σ → ρ) (I : σ → Prop) (x0 : Nat)
  (hs : ∀ r s, 0 < r → r < 2 ^ 64 → x0.testBit (tz r) = true → I s → body (mk r s) = some (.inl (mk (clr r) (step s (tz r)))) ∧ I (step s (tz r))) (he : ∀ s, I s → body (mk 0 s) = some (.inr (fin s))) :
  ∀ (n : Nat) (r : Nat) (s : σ), r < 2 ^ 64 → (∀ i, r.testBit i = true → x0.testBit i = true) → I s → (bitsOf r).length < n → lpN body n (mk r s) = some (fin ((bitsOf r).foldl step s)) := by
 intro n
 induction n with
 | zero => intro r s _ _ _ h; exact absurd h (Nat.not_lt_zero _)
 | succ n ih =>
  intro r s hr hx hI hn
  rcases Nat.eq_zero_or_pos r with h0 | h0
  ·subst h0
   rw [bitsOf_zero]
   simp only [lpN, he s hI, List.foldl_nil]
  ·obtain ⟨h1, h2⟩ := hs r s h0 hr (hx _ (tz_bit h0 hr).1) hI
   rw [bitsOf_cons h0 hr, List.foldl_cons]
   simp only [lpN, h1]
   refine ih _ _ (clr_lt h0 hr) (fun i hi => hx i ?_) h2 (by rw [bitsOf_cons h0 hr] at hn; simpa using hn)
   rw [clr_bit h0 hr] at hi
   simp only [Bool.and_eq_true] at hi
   exact hi.1
theorem lp_list {α : Type} {body : τ → Option (τ ⊕ ρ)} (l : List α) (mk : σ → Int → τ) (step : σ → α → σ) (fin : σ → ρ) (I : Nat → σ → Prop)
  (hs : ∀ s i x, l[i]? = some x → I i s → body (mk s (i : Int)) = some (.inl (mk (step s x) ((i + 1 : Nat) : Int))) ∧ I (i + 1) (step s x)) (he : ∀ s, I l.length s → body (mk s (l.length : Int)) = some (.inr (fin s))) :
  ∀ (k i n : Nat) (s : σ), i + k = l.length → I i s → k < n → lpN body n (mk s (i : Int)) = some (fin ((l.drop i).foldl step s)) ∧ I l.length ((l.drop i).foldl step s) := by
 intro k
 induction k with
 | zero =>
  intro i n s hi hI hn
  obtain ⟨n, rfl⟩ : ∃ n', n = n' + 1 := ⟨n - 1, by omega⟩
  have : i = l.length := by omega
  subst this
  rw [List.drop_length]
  exact ⟨by simp only [lpN, he s hI, List.foldl_nil], hI⟩
 | succ k ih =>
  intro i n s hi hI hn
  obtain ⟨n, rfl⟩ : ∃ n', n = n' + 1 := ⟨n - 1, by omega⟩
  have hlt : i < l.length := by omega
  obtain ⟨h1, h2⟩ := hs s i l[i] (List.getElem?_eq_getElem hlt) hI
  rw [List.drop_eq_getElem_cons hlt, List.foldl_cons]
  simp only [lpN, h1]
  exact ih (i + 1) n _ (by omega) h2 (by omega)
theorem lp_list0 {α : Type} {body : τ → Option (τ ⊕ ρ)} (l : List α) (mk : σ → Int → τ) (step : σ → α → σ) (fin : σ → ρ) (I : Nat → σ → Prop)
  (hs : ∀ s i x, l[i]? = some x → I i s → body (mk s (i : Int)) = some (.inl (mk (step s x) ((i + 1 : Nat) : Int))) ∧ I (i + 1) (step s x)) (he : ∀ s, I l.length s → body (mk s (l.length : Int)) = some (.inr (fin s)))
  {n : Nat} {s : σ} (hI : I 0 s) (hn : l.length < n) : lpN body n (mk s 0) = some (fin (l.foldl step s)) ∧ I l.length (l.foldl step s) := by
 have := lp_list l mk step fin I hs he l.length 0 n s (by omega) hI hn
 simpa using this
theorem lp_upto {body : τ → Option (τ ⊕ ρ)} (N : Nat) (mk : σ → Int → τ) (step : σ → Nat → σ) (fin : σ → ρ) (I : Nat → σ → Prop)
  (hs : ∀ s i, i < N → I i s → body (mk s (i : Int)) = some (.inl (mk (step s i) ((i + 1 : Nat) : Int))) ∧ I (i + 1) (step s i)) (he : ∀ s, I N s → body (mk s (N : Int)) = some (.inr (fin s)))
  {n : Nat} {s : σ} (hI : I 0 s) (hn : N < n) : lpN body n (mk s 0) = some (fin ((List.range N).foldl step s)) ∧ I N ((List.range N).foldl step s) := by
 have := lp_list0 (List.range N) mk step fin I (fun s i x hx hI => by
  have hlt := (List.getElem?_eq_some_iff.1 hx).1
  have hx' : x = i := by rw [List.getElem?_eq_getElem hlt] at hx; simp at hx; exact hx.symm
  subst hx'
  exact hs s x (by simpa using hlt) hI) (by simpa using he) hI (by simpa using hn)
 simpa using this
end
theorem foldl_or (f : Nat → Nat) : ∀ (l : List Nat) (s i : Nat), (l.foldl (fun s k => s ||| f k) s).testBit i = true ↔ s.testBit i = true ∨ ∃ k ∈ l, (f k).testBit i = true
 | [], s, i => by simp
 | x :: l, s, i => by
  rw [List.foldl_cons, foldl_or f l, Nat.testBit_or, Bool.or_eq_true]
  simp only [List.mem_cons]
  constructor
  ·rintro ((h | h) | ⟨k, hk, h⟩)
   ·exact .inl h
   ·exact .inr ⟨x, .inl rfl, h⟩
   ·exact .inr ⟨k, .inr hk, h⟩
  ·rintro (h | ⟨k, rfl | hk, h⟩)
   ·exact .inl (.inl h)
   ·exact .inl (.inr h)
   ·exact .inr ⟨k, hk, h⟩
theorem foldl_or_lt (f : Nat → Nat) : ∀ (l : List Nat) (s : Nat), s < 2 ^ 64 → (∀ k ∈ l, f k < 2 ^ 64) → l.foldl (fun s k => s ||| f k) s < 2 ^ 64
 | [], s, h, _ => h
 | x :: l, s, h, hf => foldl_or_lt f l _ (or_lt' h (hf x (by simp))) fun k hk => hf k (by simp [hk])
end Go.Ab.W
end

section
namespace Go.Proofs.YtpclggcpobakhaaDoor.W60
open Go Go.Ab Go.Ab.W Go.Proofs.YtpclggcpobakhaaDoor
set_option maxRecDepth 10000
set_option maxHeartbeats 4000000
attribute [local irreducible] Tm.at Trie.set Trie.get AMem.get AMem.set AMem.alloc AMem.ww AMem.kill
theorem F77_one (n k : Nat) (hk : k < 2 ^ 32) : F77 n 1 k = some (0, k) := by
 have h1 : uw .u64 (uw .u64 1 &&& uw .u64 4294967295) = 1 := by decide
 have h2 : uw .u64 (uw .u64 k &&& uw .u64 4294967295) = k := by
  rw [word_and (by omega) (by decide), show (4294967295 : Nat) = 2 ^ 32 - 1 by decide, Nat.and_two_pow_sub_one_eq_mod, Nat.mod_eq_of_lt hk]
 have h3 : ushr .u64 1 32 = 0 := by decide
 have h4 : ushr .u64 k 32 = 0 := by rw [word_shr (by omega), Nat.shiftRight_eq_div_pow, Nat.div_eq_of_lt hk]
 have z : uw .u64 0 = 0 := rfl
 unfold F77 F84
 rw [h1, h2, h3, h4]
 simp only [ob_s, h1, h2, h3, h4, Nat.one_mul, Nat.zero_mul, Nat.mul_zero, Nat.add_zero, Nat.zero_add, uw_id (show k < 2 ^ 64 by omega), z, Nat.and_zero, Nat.zero_and, show ushr .u64 0 32 = 0 by decide]
theorem Turn.asObj {m0 : AMem} {ps : List Pc} {k b w l : Nat} {es : List (List Value)} {tg : Tag} (hp : pk ps k = some (.arr b w l es tg)) : Turn m0 ps (pset ps k (.obj b (.cells es.flatten tg))) := fun m h =>
 h.put hp rfl rfl rfl (Nat.le_refl _) h.ext ⟨(h.get hp).1, (h.get hp).2.1, (h.get hp).2.2.1⟩ fun _ _ _ => rfl
theorem Turn.asSl {m0 : AMem} {ps : List Pc} {k b w l : Nat} {es : List (List Value)} {tg : Tag} (hp : pk ps k = some (.obj b (.cells es.flatten tg))) (hl : es.length = l) (hw : ∀ e ∈ es, e.length = w) (ht : tg = .own ∨ tg = .more w) (h0 : 0 < w) : Turn m0 ps (pset ps k (.sl (some ⟨b, 0, none⟩) w l es)) := fun m h =>
 h.put hp rfl rfl rfl (Nat.le_refl _) h.ext (.inr ⟨b, tg, rfl, (h.get hp).1, (h.get hp).2.1, (h.get hp).2.2, hl, hw, ht, h0⟩) fun _ _ _ => rfl
theorem ru39 : E18w.P.underlying 39 = some (.slice 3) := by kernel_rfl
theorem rs39 : SlT E18w.P 39 3 1 := SlT.of (by kernel_rfl)
theorem ru3 : E18w.P.underlying 3 = some (.int .i64) := by kernel_rfl
theorem ru102 : E18w.P.underlying 102 = some (.int .u64) := by kernel_rfl
theorem rz3 : zeroA E18w.P 3 = some (.int .i64 0) := by kernel_rfl
def repC (x : Int) (N j : Nat) : List Value := List.replicate j (.int .i64 x) ++ List.replicate (N - j) (.int .i64 0)
theorem repC_len {x : Int} {N j : Nat} (h : j ≤ N) : (repC x N j).length = N := by simp [repC]; omega
theorem splice_rep (x : Int) (N : Nat) : ∀ (j c : Nat), j + c ≤ N → spliceL (repC x N j) j (List.replicate c (.int .i64 x)) = repC x N (j + c) := by
 intro j c h
 apply List.ext_getElem?
 intro i
 rw [getElem?_spliceL, repC_len (by omega), List.length_replicate]
 unfold repC
 by_cases h1 : i < j
 ·rw [if_neg (by omega), List.getElem?_append_left (by simpa using h1), List.getElem?_append_left (by simp; omega), List.getElem?_replicate, List.getElem?_replicate, if_pos h1, if_pos (by omega)]
 ·by_cases h2 : i < j + c
  ·rw [if_pos ⟨by omega, h2, by omega⟩, List.getElem?_append_left (by simpa using h2), List.getElem?_replicate, List.getElem?_replicate, if_pos (by omega), if_pos h2]
  ·rw [if_neg (by omega), List.getElem?_append_right (by simp; omega), List.getElem?_append_right (by simp; omega), List.getElem?_replicate, List.getElem?_replicate, List.length_replicate, List.length_replicate]
   by_cases h3 : i < N
   ·rw [if_pos (by omega), if_pos (by omega)]
   ·rw [if_neg (by omega), if_neg (by omega)]
theorem flat_rep (x : Int) : ∀ N : Nat, ((List.replicate N x).map (eI .i64)).flatten = List.replicate N (.int .i64 x)
 | 0 => rfl
 | N + 1 => by rw [List.replicate_succ, List.map_cons, List.flatten_cons, flat_rep x N, List.replicate_succ]; rfl
theorem bnd_hi {N j : Nat} (h : j ≤ N) : boundsA N N (some (.int .i64 (j : Int))) none none = some (j, N, N) := by
 exact bounds_of h (Nat.le_refl _) (.inr ⟨_, rfl⟩) (.inl ⟨rfl, rfl⟩)
theorem bnd_lo {N j : Nat} (h : j ≤ N) : boundsA N N none (some (.int .i64 (j : Int))) none = some (0, j, N) := by
 exact bounds_of (Nat.zero_le _) h (.inl ⟨rfl, rfl⟩) (.inr ⟨_, rfl⟩)
def repI (x : Int) (N : Nat) (b : Nat) (j : Nat) (_ : Unit) : En := ⟨.normal, [(7, .slice (some ⟨b, 0, none⟩) N N), (8, .int .i64 (j : Int))], [.obj b (.cells (repC x N j) .own)]⟩
def repX (x : Int) (N : Nat) (b : Nat) (_ : Unit) (_ : Unit) : En := ⟨.exit 0, [(7, .slice (some ⟨b, 0, none⟩) N N)], [.obj b (.cells (repC x N N) .own)]⟩
def repB (N : Nat) (j : Nat) : Option (Nat ⊕ Unit) := if j < N then (if j = 0 then none else some (.inl (j + min j (N - j)))) else if j = N then some (.inr ()) else none
theorem repB_lp (N : Nat) : ∀ (k j : Nat), 0 < j → j ≤ N → N - j < k → lpN (repB N) k j = some () := by
 intro k
 induction k with
 | zero => intro j _ _ h; omega
 | succ k ih =>
  intro j h0 h1 h2
  by_cases h : j < N
  ·rw [lp_next (s' := j + min j (N - j)) (by unfold repB; rw [if_pos h, if_neg (by omega)])]
   exact ih _ (by omega) (by omega) (by omega)
  ·exact lp_end (by unfold repB; rw [if_neg h, if_pos (by omega)])
theorem f60r_ok (n : Nat) (l : List Int) (k : Int) (a : Option Addr) (c : Nat) (r : List Int) (hF : F60r n l k = some r) (m : AMem) (h : Rd m a c 1 l.length (l.map (eI .i64))) : CallA E18w 60 [.slice a l.length c, .int .i64 k] m (fun v m' => ∃ x : Option Addr × Nat, v = .slice x.1 x.2 x.2 ∧ Hp m m' [.sl x.1 1 x.2 (r.map (eI .i64))]) := by
 unfold F60r at hF
 split at hF
 ·rename_i x
  obtain ⟨h0, hF⟩ := gd_some hF
  obtain ⟨hlim, hF⟩ := gd_some hF
  cases hF
  have hlim' : k.toNat ≤ 1073741824 := Nat.le_of_ble_eq_true hlim
  have h1 := of_decide_eq_true h0
  obtain ⟨N, rfl⟩ := Int.eq_ofNat_of_zero_le (show 0 ≤ k by omega)
  have hz : 0 < N := by omega
  rw [Int.toNat_natCast] at hlim hlim' ⊢
  refine call_wk (m0 := m) (ps := [.rd a c 1 1 ([x].map (eI .i64))]) (N := 48) (rs := [.tmp 4]) rfl Tryd.func60 rfl rfl rfl ((Hp.start m).inn rfl h) ?_
  refine Wk.seq ?_
  refine Wk.region ?_
  refine Wo.od (o_as rfl) rfl ?_
  refine Wo.nil ?_
  refine At.tn ?_
  refine Wk.seq ?_
  refine Wk.seq ?_
  refine Wk.region ?_
  refine Wo.od (o_mv rfl) rfl ?_
  refine Wo.od (o_bi rfl rfl (bin_lss _ _ _)) rfl ?_
  refine Wo.nil ?_
  refine At.tn ?_
  refine Wk.condF rfl (decide_eq_false (by omega)) ?_
  refine Wk.skip ?_
  refine At.tn ?_
  refine Wk.seq ?_
  refine Wk.region ?_
  refine Wo.od (o_mv rfl) rfl ?_
  refine Wo.od (o_ln (k := 0) ru39 rfl rfl (.inl rfl)) rfl ?_
  refine Wo.od (o_cv rfl (cv_u (by rw [ru3]; rfl) ru102 rfl)) rfl ?_
  refine Wo.od (o_mv rfl) rfl ?_
  refine Wo.od (o_cv rfl (cv_u (by rw [ru3]; rfl) ru102 rfl)) rfl ?_
  have e1 : ui .u64 (([x].length : Nat) : Int) = 1 := rfl
  have e2 : ui .u64 (N : Int) = N := by rw [ui_nat]; exact uw_id (by omega)
  rw [e1, e2]
  refine Wo.x (o_cl rfl rfl (fun m hm => f77_ok n 1 N _ (F77_one n N (by omega)) m) fun _ => rfl) gn rfl ?_
  rintro ⟨⟩
  refine Wo.od (o_mv rfl) rfl ?_
  refine Wo.od (o_ex rfl rfl) rfl ?_
  refine Wo.od (o_ex rfl rfl) rfl ?_
  refine Wo.od (o_as rfl) rfl ?_
  refine Wo.od (o_as rfl) rfl ?_
  refine Wo.nil ?_
  refine At.tn ?_
  refine Wk.seq ?_
  refine Wk.seq ?_
  refine Wk.region ?_
  refine Wo.od (o_mv rfl) rfl ?_
  refine Wo.od (o_bi rfl rfl (ub_gtr _ _)) rfl ?_
  refine Wo.od (o_mv rfl) rfl ?_
  refine Wo.og (o_mv rfl) (gg rfl rfl rfl) rfl ?_
  refine Wo.og (o_bi rfl rfl (ub_gtr _ _)) (gg rfl rfl rfl) rfl ?_
  refine Wo.od (o_pF rfl rfl) rfl ?_
  refine Wo.nil ?_
  refine At.tn ?_
  have hsm : decide (9223372036854775807 < N) = false := decide_eq_false (by omega)
  refine Wk.condF rfl hsm ?_
  refine Wk.skip ?_
  refine At.tn ?_
  refine Wk.seq ?_
  refine Wk.region ?_
  refine Wo.od (o_mv rfl) rfl ?_
  refine Wo.od (o_cv rfl (cv_i (by rw [ru102]; rfl) ru3)) rfl ?_
  rw [show IntKind.wrap .i64 ((N : Nat) : Int) = (N : Int) from wrap_in (by omega) (by omega)]
  refine Wo.x (o_msl (f := eI .i64) (z0 := 0) rs39 rfl (decide_eq_true (by omega)) (by rw [Int.toNat_natCast]; exact hlim) rz3 rfl rfl) gn rfl fun b => ?_
  rw [Int.toNat_natCast]
  refine Wo.od (o_as rfl) rfl ?_
  refine Wo.nil ?_
  refine At.tn ?_
  have hc0 : ((List.replicate N (0 : Int)).map (eI .i64)).flatten = repC x N 0 := by
   unfold repC
   rw [List.replicate_zero, List.nil_append, Nat.sub_zero, flat_rep]
  refine Wk.turn (Turn.asObj (k := 0) rfl) ?_
  rw [hc0]
  refine Wk.seq ?_
  refine Wk.region ?_
  refine Wo.od (o_mv rfl) rfl ?_
  refine Wo.od (o_mv rfl) rfl ?_
  refine Wo.od (o_cpo (k := 0) (l := 1) (dl := N) (o := 0) (new := List.replicate 1 (.int .i64 x)) rs39 rfl rfl rfl (by omega) (fun m' hm => ?_) rfl (by rw [repC_len (by omega)]; simp; omega) (by simp)) rfl ?_
  ·have e : min 1 N = 1 := by omega
   rw [e]
   exact (hm.get (k := 1) rfl).cells
  rw [splice_rep x N 0 1 (by omega), show min 1 N = 1 by omega]
  refine Wo.od (o_as rfl) rfl ?_
  refine Wo.nil ?_
  refine At.tn ?_
  refine Wk.seq ?_
  refine Wk.block ?_
  refine Wk.cut (G := repX x N b ()) ?_ ?_
  ·refine Wk.weak (fs' := [(7, .slice (some ⟨b, 0, none⟩) N N), (8, .int .i64 ((1 : Nat) : Int))]) (ps' := [.obj b (.cells (repC x N 1) .own)]) (sc rfl (sc rfl sn)) (Turn.picks [0] rfl rfl) ?_
   refine Wk.loop (σ := Nat) (ρ := Unit) (γ := Unit) (δ := fun _ => Unit) (repB N) (repI x N b) (repX x N b) ?_ (fun _ _ => rfl) (fun r d => by intro e; cases e) (N + 1) 1 () (repB_lp N (N + 1) 1 (by omega) (by omega) (by omega)) ()
   clear h
   rintro j ⟨⟩ r hF
   unfold repB at hF
   show Wk _ _ _ _ _ _ _ [(7, .slice (some ⟨b, 0, none⟩) N N), (8, .int .i64 (j : Int))] [.obj b (.cells (repC x N j) .own)]
   refine Wk.seq ?_
   refine Wk.seq ?_
   refine Wk.region ?_
   refine Wo.od (o_mv rfl) rfl ?_
   refine Wo.od (o_mv rfl) rfl ?_
   refine Wo.od (o_ln (k := 0) ru39 rfl rfl (.inl rfl)) rfl ?_
   refine Wo.od (o_bi rfl rfl (bin_lss _ _ _)) rfl ?_
   refine Wo.nil ?_
   refine At.tn ?_
   by_cases hj : j < N
   ·rw [if_pos hj] at hF
    by_cases hj0 : j = 0
    ·rw [if_pos hj0] at hF; cases hF
    ·rw [if_neg hj0] at hF
     cases hF
     refine Wk.condT rfl (decide_eq_true (by omega)) ?_
     refine Wk.skip ?_
     refine At.tn ?_
     refine Wk.block ?_
     refine Wk.draw (by kernel_rfl) ?_
     refine Wo.od (o_mv rfl) rfl ?_
     refine Wo.od (o_mv rfl) rfl ?_
     refine Wo.od (o_mv rfl) rfl ?_
     refine Wo.od (o_slo (k := 0) (o' := 0 + j * 1) rs39 rfl rfl rfl rfl rfl rfl (bnd_hi (by omega)) (by rw [if_neg (by omega)])) rfl ?_
     refine Wo.od (o_mv rfl) rfl ?_
     refine Wo.od (o_mv rfl) rfl ?_
     refine Wo.od (o_slo (k := 0) (o' := 0 + 0 * 1) rs39 rfl rfl rfl rfl rfl rfl (bnd_lo (by omega)) (by rw [if_neg (by omega)])) rfl ?_
     have hcp : ((repC x N j).drop (0 + 0 * 1)).take (min (j - 0) (N - j) * 1) = List.replicate (min j (N - j)) (.int .i64 x) := by
      unfold repC
      rw [Nat.zero_mul, Nat.zero_add, List.drop_zero, Nat.mul_one, Nat.sub_zero, List.take_append_of_le_length (by simp; omega), List.take_replicate]
      congr 1
      omega
     refine Wo.od (o_cpo (k := 0) (l := j - 0) (dl := N - j) (o := 0 + j * 1) (new := List.replicate (min j (N - j)) (.int .i64 x)) rs39 rfl rfl rfl (by omega) (fun m' hm => ?_) (by unfold oneCellAll; rw [List.all_replicate]; simp [oneC]) (by rw [repC_len (by omega)]; simp; omega) (by simp; omega)) rfl ?_
     ·rw [← hcp]
      exact src_obj (k := 0) hm rfl (by omega) (by rw [repC_len (by omega)]; omega)
     rw [show 0 + j * 1 = j by omega, splice_rep x N j _ (by omega)]
     refine Wo.od (o_bi rfl rfl (bin_add _ _ _)) rfl ?_
     rw [show IntKind.wrap .i64 ((j : Int) + ((min (j - 0) (N - j) : Nat) : Int)) = ((j + min j (N - j) : Nat) : Int) from by rw [wrap_in (by omega) (by omega)]; omega]
     refine Wo.od (o_as rfl) rfl ?_
     refine Wo.nil ?_
     refine At.bn ?_
     exact At.en () rfl (sc rfl (sc rfl sn)) Turn.refl
   ·rw [if_neg hj] at hF
    by_cases hjN : j = N
    ·rw [if_pos hjN] at hF
     cases hF
     subst hjN
     refine Wk.condF rfl (decide_eq_false (by omega)) ?_
     refine Wk.exit ?_
     refine At.te ?_
     exact At.en () rfl (sc rfl sn) Turn.refl
    ·rw [if_neg hjN] at hF; cases hF
  ·rintro ⟨⟩
   show At _ (.exit 0) _ [(7, .slice (some ⟨b, 0, none⟩) N N)] [.obj b (.cells (repC x N N) .own)]
   refine At.be ?_
   refine At.tn ?_
   refine Wk.seq ?_
   refine Wk.region ?_
   refine Wo.od (o_mv rfl) rfl ?_
   refine Wo.od (o_as rfl) rfl ?_
   refine Wo.nil ?_
   refine At.tn ?_
   refine Wk.ret ?_
   have hcN : repC x N N = ((List.replicate N x).map (eI .i64)).flatten := by
    unfold repC
    rw [Nat.sub_self, List.replicate_zero, List.append_nil, flat_rep]
   rw [hcN]
   exact At.ret (.tmp rfl .nil) fun m' hm => ⟨(some ⟨b, 0, none⟩, N), rfl, (Turn.asSl (k := 0) rfl (by simp) (fun e he => by obtain ⟨y, _, rfl⟩ := List.mem_map.1 he; rfl) (.inl rfl) (by omega)) m' hm⟩
 ·cases hF
end Go.Proofs.YtpclggcpobakhaaDoor.W60
end
