/- Texts of the abstract machine and of the walks, joined: S18W11 S18P2 S18P3 S18G S18G2 S18G3 S18B S18H S18K. -/
import Derived.Test.YtpclggcpobakhaaDoorGw5
section
namespace Go.Proofs.YtpclggcpobakhaaDoor.W11
open Go Go.Ab Go.Ab.W Go.Proofs.YtpclggcpobakhaaDoor Go.Proofs.YtpclggcpobakhaaDoor.W0 Go.Proofs.YtpclggcpobakhaaDoor.W60
set_option maxRecDepth 10000
set_option maxHeartbeats 4000000
attribute [local irreducible] Tm.at Trie.set Trie.get AMem.get AMem.set AMem.alloc AMem.ww AMem.kill
theorem t55 : TyI E18w.P 55 true 4 := ⟨by kernel_rfl, by kernel_rfl, by kernel_rfl⟩
theorem t58 : TyI E18w.P 58 true 10 := ⟨by kernel_rfl, by kernel_rfl, by kernel_rfl⟩
theorem u27 : E18w.P.underlying 27 = some (.slice 25) := by kernel_rfl
theorem z25 : zeroA E18w.P 25 = some (.agg #[.int .i64 0, .slice none 0 0]) := by kernel_rfl
theorem t25 : TyI E18w.P 25 true 2 := ⟨by kernel_rfl, by kernel_rfl, by kernel_rfl⟩
theorem u5 : E18w.P.underlying 5 = some (.int .u8) := by kernel_rfl
theorem u3 : E18w.P.underlying 3 = some (.int .i64) := by kernel_rfl
theorem fa25_0 : ∀ b o, fieldAddrA E18w.P 25 (ptr b o) 0 = some (ptr b (o + 0)) := fun _ _ => by kernel_rfl
theorem t3 : TyI E18w.P 3 false 1 := ⟨by kernel_rfl, by kernel_rfl, by kernel_rfl⟩
theorem u28 : E18w.P.underlying 28 = some (.int .u64) := by kernel_rfl
theorem u9 : E18w.P.underlying 9 = some (.string) := by kernel_rfl
theorem z39 : zeroA E18w.P 39 = some (.slice none 0 0) := by kernel_rfl
theorem t39 : TyI E18w.P 39 false 1 := ⟨by kernel_rfl, by kernel_rfl, by kernel_rfl⟩
theorem z3 : zeroA E18w.P 3 = some (.int .i64 0) := by kernel_rfl
theorem t28 : TyI E18w.P 28 false 1 := ⟨by kernel_rfl, by kernel_rfl, by kernel_rfl⟩
theorem s39 : SlT E18w.P 39 3 1 := SlT.of (by kernel_rfl)
theorem z28 : zeroA E18w.P 28 = some (.int .u64 ((0 : Nat) : Int)) := by kernel_rfl
theorem fa25_1 : ∀ b o, fieldAddrA E18w.P 25 (ptr b o) 1 = some (ptr b (o + 1)) := fun _ _ => by kernel_rfl
theorem t23 : TyI E18w.P 23 false 1 := ⟨by kernel_rfl, by kernel_rfl, by kernel_rfl⟩
theorem u23 : E18w.P.underlying 23 = some (.slice 26) := by kernel_rfl
theorem s23 : SlT E18w.P 23 26 2 := SlT.of (by kernel_rfl)
theorem t26 : TyI E18w.P 26 true 2 := ⟨by kernel_rfl, by kernel_rfl, by kernel_rfl⟩
theorem z26 : zeroA E18w.P 26 = some (.agg #[.int .i64 0, .int .i64 0]) := by kernel_rfl
theorem ar26 : ArT E18w.P 26 3 2 1 := ⟨by kernel_rfl, by kernel_rfl, by kernel_rfl⟩
theorem s36 : SlT E18w.P 36 28 1 := SlT.of (by kernel_rfl)
theorem z36 : zeroA E18w.P 36 = some (.slice none 0 0) := by kernel_rfl
theorem t36 : TyI E18w.P 36 false 1 := ⟨by kernel_rfl, by kernel_rfl, by kernel_rfl⟩
theorem u39 : E18w.P.underlying 39 = some (.slice 3) := by kernel_rfl
theorem z4 : zeroA E18w.P 4 = some (.bool false) := by kernel_rfl
theorem u4 : E18w.P.underlying 4 = some (.bool) := by kernel_rfl
theorem s78 : SlT E18w.P 78 4 1 := SlT.of (by kernel_rfl)
theorem t4 : TyI E18w.P 4 false 1 := ⟨by kernel_rfl, by kernel_rfl, by kernel_rfl⟩
theorem u36 : E18w.P.underlying 36 = some (.slice 28) := by kernel_rfl
theorem s27 : SlT E18w.P 27 25 2 := SlT.of (by kernel_rfl)
theorem f51_ok (n : Nat) (x1 : Nat)  (r : Int) (hF : F51 n x1 = some r) (m : AMem)  :
  CallA E18w 51 [.int .u64 ((x1 : Nat) : Int)] m (fun v m' => ∃ x : Unit, v = .int .i64 r ∧ Hp m m' []) := by
 unfold F51 at hF
 refine call_wk (m0 := m) (ps := []) (N := 25) (rs := [.tmp 2]) rfl Tryd.func51 rfl rfl rfl (Hp.start m) ?_
 refine Wk.seq <| Wk.region <| Wo.od (o_as rfl) rfl ?_
 refine Wo.nil <| At.tn <| Wk.seq ?_
 obtain ⟨r7, h6, hF⟩ := ob_some hF
 refine Wk.cut (G := (fun (r : Nat × Int) (g : Unit) => match r, g with | (v3, v4), _ => ⟨.normal, [(0, .int .u64 ((v3 : Nat) : Int)), (2, .int .i64 v4)], []⟩) r7) ?_ ?_
 ·clear hF
  revert r7
  intro r hF
  refine Wk.seq <| Wk.region <| Wo.od (o_mv rfl) rfl ?_
  refine Wo.od (o_bi rfl rfl (ub_geq _ _)) rfl ?_
  refine Wo.nil <| At.tn ?_
  rcases br_some hF with ⟨h5, hF⟩ | ⟨h5, hF⟩
  ·refine Wk.condT rfl h5 ?_
   refine Wk.seq <| Wk.region <| Wo.od (o_mv rfl) rfl ?_
   refine Wo.od (o_bi rfl rfl (ub_shr _ _ rfl)) rfl ?_
   refine Wo.od (o_as rfl) rfl ?_
   refine Wo.nil <| At.tn <| Wk.region <| Wo.od (o_as rfl) rfl ?_
   refine Wo.nil ?_
   cases hF
   exact At.en () rfl (sc rfl (sc rfl sn)) (Turn.picks [] rfl rfl)
  ·refine Wk.condF rfl h5 ?_
   refine Wk.skip ?_
   cases hF
   exact At.en () rfl (sc rfl (sc rfl sn)) (Turn.picks [] rfl rfl)
 ·clear h6
  obtain ⟨v3, v4⟩ := r7
  rintro ⟨⟩
  refine At.tn <| Wk.seq ?_
  obtain ⟨r13, h12, hF⟩ := ob_some hF
  refine Wk.cut (G := (fun (r : Nat × Int) (g : Unit) => match r, g with | (v9, v10), _ => ⟨.normal, [(0, .int .u64 ((v9 : Nat) : Int)), (2, .int .i64 v10)], []⟩) r13) ?_ ?_
  ·clear hF
   revert r13
   intro r hF
   refine Wk.seq <| Wk.region <| Wo.od (o_mv rfl) rfl ?_
   refine Wo.od (o_bi rfl rfl (ub_geq _ _)) rfl ?_
   refine Wo.nil <| At.tn ?_
   rcases br_some hF with ⟨h11, hF⟩ | ⟨h11, hF⟩
   ·refine Wk.condT rfl h11 ?_
    refine Wk.seq <| Wk.region <| Wo.od (o_mv rfl) rfl ?_
    refine Wo.od (o_bi rfl rfl (ub_shr _ _ rfl)) rfl ?_
    refine Wo.od (o_as rfl) rfl ?_
    refine Wo.nil <| At.tn <| Wk.region <| Wo.od (o_mv rfl) rfl ?_
    refine Wo.od (o_bi rfl rfl (bin_add _ _ _)) rfl ?_
    refine Wo.od (o_as rfl) rfl ?_
    refine Wo.nil ?_
    cases hF
    exact At.en () rfl (sc rfl (sc rfl sn)) (Turn.picks [] rfl rfl)
   ·refine Wk.condF rfl h11 ?_
    refine Wk.skip ?_
    cases hF
    exact At.en () rfl (sc rfl (sc rfl sn)) (Turn.picks [] rfl rfl)
  ·clear h12
   obtain ⟨v9, v10⟩ := r13
   rintro ⟨⟩
   refine At.tn <| Wk.seq ?_
   obtain ⟨r19, h18, hF⟩ := ob_some hF
   refine Wk.cut (G := (fun (r : Nat × Int) (g : Unit) => match r, g with | (v15, v16), _ => ⟨.normal, [(0, .int .u64 ((v15 : Nat) : Int)), (2, .int .i64 v16)], []⟩) r19) ?_ ?_
   ·clear hF
    revert r19
    intro r hF
    refine Wk.seq <| Wk.region <| Wo.od (o_mv rfl) rfl ?_
    refine Wo.od (o_bi rfl rfl (ub_geq _ _)) rfl ?_
    refine Wo.nil <| At.tn ?_
    rcases br_some hF with ⟨h17, hF⟩ | ⟨h17, hF⟩
    ·refine Wk.condT rfl h17 ?_
     refine Wk.seq <| Wk.region <| Wo.od (o_mv rfl) rfl ?_
     refine Wo.od (o_bi rfl rfl (ub_shr _ _ rfl)) rfl ?_
     refine Wo.od (o_as rfl) rfl ?_
     refine Wo.nil <| At.tn <| Wk.region <| Wo.od (o_mv rfl) rfl ?_
     refine Wo.od (o_bi rfl rfl (bin_add _ _ _)) rfl ?_
     refine Wo.od (o_as rfl) rfl ?_
     refine Wo.nil ?_
     cases hF
     exact At.en () rfl (sc rfl (sc rfl sn)) (Turn.picks [] rfl rfl)
    ·refine Wk.condF rfl h17 ?_
     refine Wk.skip ?_
     cases hF
     exact At.en () rfl (sc rfl (sc rfl sn)) (Turn.picks [] rfl rfl)
   ·clear h18
    obtain ⟨v15, v16⟩ := r19
    rintro ⟨⟩
    refine At.tn <| Wk.seq <| Wk.region <| Wo.od (o_mv rfl) rfl ?_
    refine Wo.od (o_mv rfl) rfl ?_
    refine Wo.od (o_cv rfl (cv_uu (by rw [u28]; rfl) u5 rfl)) rfl ?_
    obtain ⟨h20, hF⟩ := gd_some hF
    obtain ⟨y22, h21, hF⟩ := ob_some hF
    refine Wo.od (o_ixt tab256_482390 u9 rfl (by rfl) rfl h20 h21) rfl ?_
    refine Wo.od (o_cv rfl (cv_i (by rw [u5]; rfl) u3)) rfl ?_
    refine Wo.od (o_bi rfl rfl (bin_add _ _ _)) rfl ?_
    refine Wo.od (o_as rfl) rfl ?_
    refine Wo.nil <| At.tn <| Wk.ret ?_
    cases hF
    exact At.ret (.tmp rfl .nil) fun m' hm => ⟨(), rfl, (Turn.picks [] rfl rfl) m' hm⟩

theorem f55_ok (n : Nat) (x1 : Int) (l2 : List (Int × Int)) (x6 : Nat) (a3 : Option Addr) (c4 : Nat) (r : Int) (hF : F55 n x1 l2 x6 = some r) (m : AMem) (h5 : Rd m a3 c4 2 l2.length (l2.map (eP (eI .i64) (eI .i64)))) :
  CallA E18w 55 [.agg #[.int .i64 x1, .slice a3 l2.length c4], .int .u64 ((x6 : Nat) : Int)] m (fun v m' => ∃ x : Unit, v = .int .i64 r ∧ Hp m m' []) := by
 unfold F55 at hF
 refine call_wk (m0 := m) (ps := [.rd a3 c4 2 l2.length (l2.map (eP (eI .i64) (eI .i64)))]) (N := 16) (rs := [.tmp 4]) rfl Tryd.func55 rfl rfl rfl ((Hp.start m).inn rfl h5) ?_
 refine Wk.seq <| Wk.region <| Wo.x (o_bx rfl) gn rfl fun b7 => ?_
 refine Wo.od (o_as rfl) rfl ?_
 refine Wo.nil <| At.tn <| Wk.seq <| Wk.seq <| Wk.region <| Wo.od (o_ld (k := 0) t25 rfl rfl rfl) rfl ?_
 obtain ⟨r9, h8, hF⟩ := ob_some hF
 refine Wo.x (o_cl rfl rfl (fun m hm => f23_ok n x1 l2 a3 c4 _ h8 m (hm.rd (k := 1) rfl (.rd _ _ _ _ _))) fun _ => rfl) gn rfl ?_
 rintro ⟨⟩
 refine Wo.od (o_as rfl) rfl ?_
 refine Wo.nil <| At.tn <| Wk.seq <| Wk.region <| Wo.od (o_mv rfl) rfl ?_
 refine Wo.od (o_bi rfl rfl (ib_neq _ _)) rfl ?_
 refine Wo.nil <| At.tn ?_
 rcases br_some hF with ⟨h10, hF⟩ | ⟨h10, hF⟩
 ·refine Wk.condT rfl h10 ?_
  refine Wk.seq <| Wk.region <| Wo.od (o_mv rfl) rfl ?_
  refine Wo.od (o_as rfl) rfl ?_
  refine Wo.nil <| At.tn <| Wk.ret <| At.tr ?_
  have hr := Option.some.inj hF
  subst r
  exact At.ret (.tmp rfl .nil) fun m' hm => ⟨(), rfl, (Turn.picks [] rfl rfl) m' hm⟩
 ·refine Wk.condF rfl h10 ?_
  refine Wk.skip <| At.tn <| Wk.seq <| Wk.seq <| Wk.drawc (prs := [(1, 3)]) (by kernel_rfl) ?_
  refine Wn.od (o_mv rfl) rfl ?_
  obtain ⟨r12, h11, hF⟩ := ob_some hF
  refine Wn.c (o_ce rfl rfl (fun m hm => f51_ok n x6  _ h11 m ) fun _ => rfl) gn rfl ?_
  rintro ⟨⟩
  refine Wn.od (o_fa (r := ptr b7 0) rfl (fa25_0 _ _)) rfl ?_
  refine Wn.od (o_ld (k := 0) t3 rfl rfl rfl) rfl ?_
  refine Wn.od (o_bi rfl rfl (bin_gtr _ _ _)) rfl ?_
  refine Wn.nil (fun m hm => OkP.all rfl) ?_
  refine At.tn ?_
  rcases br_some hF with ⟨h13, hF⟩ | ⟨h13, hF⟩
  ·refine Wk.condT rfl h13 ?_
   refine Wk.seq <| Wk.region <| Wo.od (o_as rfl) rfl ?_
   refine Wo.nil <| At.tn <| Wk.ret <| At.tr ?_
   cases hF
   exact At.ret (.tmp rfl .nil) fun m' hm => ⟨(), rfl, (Turn.picks [] rfl rfl) m' hm⟩
  ·refine Wk.condF rfl h13 ?_
   refine Wk.skip <| At.tn <| Wk.seq <| Wk.region <| Wo.od (o_as rfl) rfl ?_
   refine Wo.nil <| At.tn <| Wk.ret ?_
   cases hF
   exact At.ret (.tmp rfl .nil) fun m' hm => ⟨(), rfl, (Turn.picks [] rfl rfl) m' hm⟩

theorem f57_ok (n : Nat) (x1 : Nat) (x2 : Int)  (r : Bool) (hF : F57 n x1 x2 = some r) (m : AMem)  :
  CallA E18w 57 [.int .u64 ((x1 : Nat) : Int), .int .i64 x2] m (fun v m' => ∃ x : Unit, v = .bool r ∧ Hp m m' []) := by
 unfold F57 at hF
 refine call_wk (m0 := m) (ps := []) (N := 10) (rs := [.tmp 4]) rfl Tryd.func57 rfl rfl rfl (Hp.start m) ?_
 refine Wk.seq <| Wk.region <| Wo.od (o_as rfl) rfl ?_
 refine Wo.nil <| At.tn <| Wk.seq <| Wk.region <| Wo.od (o_mv rfl) rfl ?_
 refine Wo.od (o_mv rfl) rfl ?_
 obtain ⟨h3, hF⟩ := gd_some hF
 refine Wo.od (o_bi rfl rfl (ub_shr _ _ h3)) rfl ?_
 refine Wo.od (o_bi rfl rfl (ub_and rfl _ _)) rfl ?_
 refine Wo.od (o_bi rfl rfl (ub_eql _ _)) rfl ?_
 refine Wo.od (o_as rfl) rfl ?_
 refine Wo.nil <| At.tn <| Wk.ret ?_
 cases hF
 exact At.ret (.tmp rfl .nil) fun m' hm => ⟨(), rfl, (Turn.picks [] rfl rfl) m' hm⟩

theorem f75_ok (n : Nat) (x1 : Int) (l2 : List (Int × Int)) (a3 : Option Addr) (c4 : Nat) (r : List Nat) (hF : F75 n x1 l2 = some r) (m : AMem) (h5 : Rd m a3 c4 2 l2.length (l2.map (eP (eI .i64) (eI .i64)))) :
  CallA E18w 75 [.agg #[.int .i64 x1, .slice a3 l2.length c4]] m (fun v m' => ∃ x : Option Addr × Nat, v = .slice x.1 x.2 x.2 ∧ Hp m m' [.sl x.1 1 x.2 (r.map (eN .u64))]) := by
 unfold F75 at hF
 refine call_wk (m0 := m) (ps := [.rd a3 c4 2 l2.length (l2.map (eP (eI .i64) (eI .i64)))]) (N := 38) (rs := [.tmp 2]) rfl Tryd.func75 rfl rfl rfl ((Hp.start m).inn rfl h5) ?_
 refine Wk.seq <| Wk.region <| Wo.x (o_bx rfl) gn rfl fun b6 => ?_
 refine Wo.od (o_as rfl) rfl ?_
 refine Wo.nil <| At.tn <| Wk.seq <| Wk.region <| Wo.od (o_fa (r := ptr b6 0) rfl (fa25_0 _ _)) rfl ?_
 refine Wo.od (o_ld (k := 0) t3 rfl rfl rfl) rfl ?_
 obtain ⟨h7, hF⟩ := gd_some hF
 obtain ⟨h8, hF⟩ := gd_some hF
 refine Wo.x (o_msl (f := eN .u64) (z0 := 0) s36 rfl h7 h8 z28 rfl rfl) gn rfl fun b9 => ?_
 refine Wo.od (o_as rfl) rfl ?_
 refine Wo.nil <| At.tn <| Wk.seq <| Wk.seq <| Wk.region <| Wo.od (o_fa (r := ptr b6 1) rfl (fa25_1 _ _)) rfl ?_
 refine Wo.od (o_ld (k := 1) t23 rfl rfl rfl) rfl ?_
 refine Wo.od (o_ln (k := 2) u23 rfl rfl (.inl rfl)) rfl ?_
 refine Wo.od (o_mv rfl) rfl ?_
 refine Wo.nil <| At.tn <| Wk.block ?_
 obtain ⟨l56, h77, hF⟩ := ob_some hF
 refine Wk.cut (G := (fun (r : List (Nat)) (g : Unit) => match r, g with | l56, _ => ⟨(.exit 0), [(3, .slice (some ⟨b9, 0, none⟩) x1.toNat x1.toNat)], [.arr b9 1 x1.toNat (l56.map (eN .u64)) .own]⟩) l56) ?_ ?_
 ·refine Wk.weak (fs' := [(3, .slice (some ⟨b9, 0, none⟩) x1.toNat x1.toNat), (10, .slice a3 l2.length c4), (11, .int .i64 (l2.length : Int)), (12, .int .i64 0)]) (ps' := [.arr b9 1 x1.toNat ((List.replicate x1.toNat 0).map (eN .u64)) .own, .rd a3 c4 2 l2.length (l2.map (eP (eI .i64) (eI .i64)))]) (sc rfl (sc rfl (sc rfl (sc rfl sn)))) (Turn.picks [0, 2] rfl rfl) ?_
  refine Wk.loop (σ := List (Nat) × Int) (ρ := List (Nat)) (γ := Unit) (δ := fun _ => Unit) _ (fun (s : List (Nat) × Int) (g : Unit) => match s, g with | (l32, v33), _ => ⟨.normal, [(3, .slice (some ⟨b9, 0, none⟩) x1.toNat x1.toNat), (10, .slice a3 l2.length c4), (11, .int .i64 (l2.length : Int)), (12, .int .i64 v33)], [.arr b9 1 x1.toNat (l32.map (eN .u64)) .own, .rd a3 c4 2 l2.length (l2.map (eP (eI .i64) (eI .i64)))]⟩) (fun (r : List (Nat)) (g : Unit) => match r, g with | l56, _ => ⟨(.exit 0), [(3, .slice (some ⟨b9, 0, none⟩) x1.toNat x1.toNat)], [.arr b9 1 x1.toNat (l56.map (eN .u64)) .own]⟩) ?_ (fun _ _ => rfl) (fun r d => by intro e; cases e) _ _ _ h77 ()
  clear hF h77
  rintro ⟨l32, v33⟩ ⟨⟩ r hF
  unfold L75_1 at hF
  refine Wk.seq <| Wk.region <| Wo.od (o_bi rfl rfl (bin_lss _ _ _)) rfl ?_
  refine Wo.nil <| At.tn <| Wk.seq ?_
  rcases br_some hF with ⟨h57, hF⟩ | ⟨h57, hF⟩
  ·refine Wk.condT rfl h57 ?_
   refine Wk.skip <| At.tn <| Wk.seq <| Wk.block <| Wk.seq <| Wk.region ?_
   obtain ⟨h58, hF⟩ := gd_some hF
   replace h58 := inB_some h58
   refine Wo.openr (k := 1) rfl (pos_of h58) ?_
   rintro b59 o60 rfl
   refine Wo.og (o_ixs s23 rfl rfl h58) gn rfl ?_
   obtain ⟨⟨x61, x62⟩, h63, hF⟩ := ob_some hF
   refine Wo.od (o_ldr (k := 0) t26 rfl rfl (map_at h63) rfl rfl) rfl ?_
   refine Wo.x (o_al z26 rfl) gn rfl fun b64 => ?_
   refine Wo.o0 (o_st (k := 0) t26 rfl rfl rfl rfl rfl) ?_
   refine Wo.nil <| At.tn <| Wk.seq <| Wk.draw (by kernel_rfl) ?_
   refine Wo.od (o_mv rfl) rfl ?_
   refine Wo.od (o_ia (r := ptr b64 0) rfl rfl (ia_c ar26 (i := 0) (by decide))) rfl ?_
   refine Wo.od (o_ld (k := 0) t3 rfl rfl rfl) rfl ?_
   obtain ⟨h65, hF⟩ := gd_some hF
   replace h65 := inB_some h65
   refine Wo.og (o_ixa s36 rfl rfl h65) gn rfl ?_
   obtain ⟨x66, h67, hF⟩ := ob_some hF
   refine Wo.od (o_lda (k := 2) t28 rfl rfl (map_at h67) rfl rfl) rfl ?_
   refine Wo.od (o_ia (r := ptr b64 1) rfl rfl (ia_c ar26 (i := 1) (by decide))) rfl ?_
   refine Wo.od (o_ld (k := 0) t3 rfl rfl rfl) rfl ?_
   obtain ⟨h68, hF⟩ := gd_some hF
   refine Wo.od (o_bi rfl rfl (ub_shl rfl _ _ h68)) rfl ?_
   refine Wo.od (o_bi rfl rfl (ub_or rfl _ _)) rfl ?_
   obtain ⟨h69, hF⟩ := gd_some hF
   replace h69 := inB_some h69
   refine Wo.og (o_ixa s36 rfl rfl h69) gn rfl ?_
   refine Wo.o0 (o_stl (k := 2) (x1 := x66) (x2 := uw .u64 (uw .u64 x66 ||| uw .u64 (ushl .u64 1 x62.toNat))) t28 rfl rfl rfl h67 rfl) ?_
   refine Wo.nil <| At.tn <| Wk.draw (by kernel_rfl) ?_
   refine Wo.od (o_mv rfl) rfl ?_
   refine Wo.od (o_ia (r := ptr b64 1) rfl rfl (ia_c ar26 (i := 1) (by decide))) rfl ?_
   refine Wo.od (o_ld (k := 0) t3 rfl rfl rfl) rfl ?_
   obtain ⟨h71, hF⟩ := gd_some hF
   replace h71 := inB_some h71
   refine Wo.og (o_ixa s36 rfl rfl h71) gn rfl ?_
   obtain ⟨x72, h73, hF⟩ := ob_some hF
   refine Wo.od (o_lda (k := 2) t28 rfl rfl (map_at h73) rfl rfl) rfl ?_
   refine Wo.od (o_ia (r := ptr b64 0) rfl rfl (ia_c ar26 (i := 0) (by decide))) rfl ?_
   refine Wo.od (o_ld (k := 0) t3 rfl rfl rfl) rfl ?_
   obtain ⟨h74, hF⟩ := gd_some hF
   refine Wo.od (o_bi rfl rfl (ub_shl rfl _ _ h74)) rfl ?_
   refine Wo.od (o_bi rfl rfl (ub_or rfl _ _)) rfl ?_
   obtain ⟨h75, hF⟩ := gd_some hF
   replace h75 := inB_some h75
   refine Wo.og (o_ixa s36 rfl rfl h75) gn rfl ?_
   refine Wo.o0 (o_stl (k := 2) (x1 := x72) (x2 := uw .u64 (uw .u64 x72 ||| uw .u64 (ushl .u64 1 x61.toNat))) t28 rfl rfl rfl h73 rfl) ?_
   refine Wo.nil <| At.bn <| At.tn <| Wk.region <| Wo.od (o_bi rfl rfl (bin_add _ _ _)) rfl ?_
   refine Wo.od (o_mv rfl) rfl ?_
   refine Wo.nil ?_
   cases hF
   exact At.en () rfl (sc rfl (sc rfl (sc rfl (sc rfl sn)))) (Turn.picks [2, 3] rfl rfl)
  ·refine Wk.condF rfl h57 ?_
   refine Wk.exit <| At.te ?_
   cases hF
   exact At.en () rfl (sc rfl sn) (Turn.picks [0] rfl rfl)
 ·clear h77
  rintro ⟨⟩
  refine At.be <| At.tn <| Wk.seq <| Wk.region <| Wo.od (o_mv rfl) rfl ?_
  refine Wo.od (o_as rfl) rfl ?_
  refine Wo.nil <| At.tn <| Wk.ret ?_
  have hr := Option.some.inj hF
  subst r
  exact At.ret (.tmp rfl .nil) fun m' hm => ⟨((some ⟨b9, 0, none⟩), x1.toNat), rfl, (Turn.trans (Turn.close (k := 0) rfl) (Turn.picks [0] rfl rfl)) m' hm⟩

theorem f56_ok (n : Nat) (x1 : Int) (l2 : List (Int × Int)) (x6 : Nat) (a3 : Option Addr) (c4 : Nat) (r : Nat) (hF : F56 n x1 l2 x6 = some r) (m : AMem) (hG : Gl m) (h5 : Rd m a3 c4 2 l2.length (l2.map (eP (eI .i64) (eI .i64)))) :
  CallA E18w 56 [.agg #[.int .i64 x1, .slice a3 l2.length c4], .int .u64 ((x6 : Nat) : Int)] m (fun v m' => ∃ x : Unit, v = .int .u64 ((r : Nat) : Int) ∧ Hp m m' []) := by
 unfold F56 at hF
 refine call_wk (m0 := m) (ps := [.rd a3 c4 2 l2.length (l2.map (eP (eI .i64) (eI .i64)))]) (N := 22) (rs := [.tmp 4]) rfl Tryd.func56 rfl rfl rfl ((Hp.start m).inn rfl h5) ?_
 refine Wk.seq <| Wk.region <| Wo.x (o_bx rfl) gn rfl fun b7 => ?_
 refine Wo.od (o_as rfl) rfl ?_
 refine Wo.nil <| At.tn <| Wk.seq <| Wk.region <| Wo.od (o_ld (k := 0) t25 rfl rfl rfl) rfl ?_
 obtain ⟨l9, h8, hF⟩ := ob_some hF
 refine Wo.x (o_cl rfl rfl (fun m hm => f75_ok n x1 l2 a3 c4 _ h8 m (hm.rd (k := 1) rfl (.rd _ _ _ _ _))) fun _ => rfl) gn rfl ?_
 rintro ⟨a10, n11⟩
 refine Wo.len (k := 0) (xs := l9) rfl ?_
 rintro rfl
 refine Wo.x (o_al z36 rfl) gn rfl fun b12 => ?_
 refine Wo.o0 (o_st (k := 0) t36 rfl rfl rfl rfl rfl) ?_
 refine Wo.nil <| At.tn <| Wk.seq <| Wk.region <| Wo.x (o_al z28 rfl) gn rfl fun b13 => ?_
 refine Wo.nil <| At.tn <| Wk.seq <| Wk.seq <| Wk.region <| Wo.od (o_mv rfl) rfl ?_
 obtain ⟨r17, h18, hF⟩ := ob_some hF
 refine Wo.x (o_cs (α := Nat) (V := fun g => (fun (r : Unit) (g : Nat) => match r, g with | _, b15 => (.func (.func 78) #[] #[ptr b15 0] : Value)) r17 g) (N := fun g => (fun (r : Unit) (g : Nat) => match r, g with | _, b15 => ([.obj b15 (.cells [.int .u64 ((x6 : Nat) : Int)] .own), .obj b12 (.cells [.slice a10 l9.length l9.length] .own), .sl a10 1 l9.length (l9.map (eN .u64)), .obj b13 (.cells [.int .u64 ((0 : Nat) : Int)] .own)] : List Pc)) r17 g) rfl rfl (fun m hm => ?_)) gn rfl ?_
 ·clear hF
  revert r17
  intro r hF
  refine call_wk (N := 4) (rs := [.tmp 2]) rfl Tryd.func61 rfl rfl rfl hm ?_
  refine Wk.seq <| Wk.region <| Wo.x (o_bx rfl) gn rfl fun b16 => ?_
  refine Wo.od (o_as rfl) rfl ?_
  refine Wo.nil <| At.tn <| Wk.seq <| Wk.region <| Wo.od (o_mf rfl rfl) rfl ?_
  refine Wo.od (o_as rfl) rfl ?_
  refine Wo.nil <| At.tn <| Wk.ret ?_
  cases hF
  exact At.ret (.tmp rfl .nil) fun m' hm => ⟨b16, rfl, (Turn.picks [0, 2, 3, 1] rfl rfl) m' hm⟩
 ·clear h18
  rintro b15
  refine Wo.nil <| At.tn <| Wk.block ?_
  obtain ⟨v85, h148, hF⟩ := ob_some hF
  refine Wk.range (N := 14) (rs := []) (γ := Unit) (X := fun g => (fun (r : Nat) (g : Unit) => (match r, g with | v85, _ => ⟨.ready, none, [.obj b12 (.cells [.slice a10 l9.length l9.length] .own), .sl a10 1 l9.length (l9.map (eN .u64)), .obj b13 (.cells [.int .u64 ((v85 : Nat) : Int)] .own)]⟩ : Rn)) v85 g) rfl rfl Tryd.func78 rfl rfl rfl ?_ (fun y => by intro e; cases e) ?_
  ·clear hF
   revert v85
   intro r hF
   intro t21 l19 rc20 h22 h23
   refine Wk.block ?_
   obtain ⟨v126, h145, hF⟩ := ob_some hF
   refine Wk.cut (G := (fun (r : Nat) (g : Unit) => match r, g with | v126, _ => ⟨(.exit 0), [], [.obj l19 (rc20 .ready none), .obj b12 (.cells [.slice a10 l9.length l9.length] .own), .sl a10 1 l9.length (l9.map (eN .u64)), .obj b13 (.cells [.int .u64 ((v126 : Nat) : Int)] .own)]⟩) v126) ?_ ?_
   ·refine Wk.weak (fs' := [(0, .func (.yield l19) #[] #[]), (1, ptr b15 0)]) (ps' := [.obj l19 (rc20 .ready none), .obj b15 (.cells [.int .u64 ((x6 : Nat) : Int)] .own), .obj b12 (.cells [.slice a10 l9.length l9.length] .own), .sl a10 1 l9.length (l9.map (eN .u64)), .obj b13 (.cells [.int .u64 ((0 : Nat) : Int)] .own)]) (sc rfl (sc rfl sn)) (Turn.picks [0, 1, 2, 3, 4] rfl rfl) ?_
    refine Wk.loop (σ := Nat × Nat) (ρ := Nat) (γ := Unit) (δ := fun _ => Unit) _ (fun (s : Nat × Nat) (g : Unit) => match s, g with | (v104, v105), _ => ⟨.normal, [(0, .func (.yield l19) #[] #[]), (1, ptr b15 0)], [.obj l19 (rc20 .ready none), .obj b15 (.cells [.int .u64 ((v104 : Nat) : Int)] .own), .obj b12 (.cells [.slice a10 l9.length l9.length] .own), .sl a10 1 l9.length (l9.map (eN .u64)), .obj b13 (.cells [.int .u64 ((v105 : Nat) : Int)] .own)]⟩) (fun (r : Nat) (g : Unit) => match r, g with | v126, _ => ⟨(.exit 0), [], [.obj l19 (rc20 .ready none), .obj b12 (.cells [.slice a10 l9.length l9.length] .own), .sl a10 1 l9.length (l9.map (eN .u64)), .obj b13 (.cells [.int .u64 ((v126 : Nat) : Int)] .own)]⟩) ?_ (fun _ _ => rfl) (fun r d => by intro e; cases e) _ _ _ h145 ()
    clear hF h145
    rintro ⟨v104, v105⟩ ⟨⟩ r hF
    unfold L56_1 at hF
    refine Wk.seq <| Wk.seq <| Wk.region <| Wo.od (o_ld (k := 1) t28 rfl rfl rfl) rfl ?_
    refine Wo.od (o_bi rfl rfl (ub_neq _ _)) rfl ?_
    refine Wo.nil <| At.tn ?_
    rcases br_some hF with ⟨h127, hF⟩ | ⟨h127, hF⟩
    ·refine Wk.condT rfl h127 ?_
     refine Wk.skip <| At.tn <| Wk.seq <| Wk.block <| Wk.seq <| Wk.region <| Wo.od (o_mv rfl) rfl ?_
     refine Wo.od (o_ld (k := 1) t28 rfl rfl rfl) rfl ?_
     obtain ⟨r129, h128, hF⟩ := ob_some hF
     refine Wo.x (o_cl rfl rfl (fun m hm => f42_ok n v104  _ h128 m (hG.ext hm.ext) ) fun _ => rfl) gn rfl ?_
     rintro ⟨⟩
     obtain ⟨v136, h144, hF⟩ := ob_some hF
     refine Wo.x (o_yd (k := 0) (k1 := 0) (γA := Unit) (GA := (fun g : Unit => (match g with | _ => ⟨.normal, [(5, ptr b12 0), (6, ptr b13 0), (7, .int .i64 r129)], [.obj l19 (rc20 .ready none), .obj b12 (.cells [.slice a10 l9.length l9.length] .own), .sl a10 1 l9.length (l9.map (eN .u64)), .obj b13 (.cells [.int .u64 ((v105 : Nat) : Int)] .own), .obj b15 (.cells [.int .u64 ((v104 : Nat) : Int)] .own)]⟩ : En))) (γ := Unit) (G := fun g => (fun (r : Nat) (g : Unit) => (match r, g with | v136, _ => ⟨.normal, [], [.obj l19 (rc20 .busy none), .obj b12 (.cells [.slice a10 l9.length l9.length] .own), .sl a10 1 l9.length (l9.map (eN .u64)), .obj b13 (.cells [.int .u64 ((v136 : Nat) : Int)] .own), .obj b15 (.cells [.int .u64 ((v104 : Nat) : Int)] .own)]⟩ : En)) v136 g) rfl rfl rfl h23 h22 rfl ?_ (fun _ => rfl) (fun _ => rfl) ?_ (fun y => rfl)) gn rfl ?_
     ·clear hF h144
      refine Wk.region <| Wo.od (o_as rfl) rfl ?_
      refine Wo.nil ?_
      exact At.en () rfl (sc rfl (sc rfl (sc rfl sn))) (Turn.picks [0, 2, 3, 4, 1] rfl rfl)
     ·clear hF
      revert v136
      intro r hF
      rintro ⟨⟩
      refine Wk.block <| Wk.draw (by kernel_rfl) ?_
      refine Wo.od (o_ld (k := 3) t28 rfl rfl rfl) rfl ?_
      refine Wo.od (o_ld (k := 1) t36 rfl rfl rfl) rfl ?_
      refine Wo.od (o_mv rfl) rfl ?_
      obtain ⟨h137, hF⟩ := gd_some hF
      replace h137 := inB_some h137
      refine Wo.open (k := 2) rfl (pos_of h137) ?_
      rintro b138 tg139 rfl h140
      refine Wo.og (o_ixa s36 rfl rfl h137) gn rfl ?_
      obtain ⟨x141, h142, hF⟩ := ob_some hF
      refine Wo.od (o_lda (k := 2) t28 rfl rfl (map_at h142) rfl rfl) rfl ?_
      refine Wo.od (o_bi rfl rfl (ub_or rfl _ _)) rfl ?_
      refine Wo.o0 (o_st (k := 3) t28 rfl rfl rfl rfl rfl) ?_
      refine Wo.nil <| At.bn ?_
      cases hF
      exact At.en () rfl sn (Turn.trans (Turn.close (k := 2) rfl) (Turn.picks [0, 1, 2, 3, 4] rfl rfl))
     ·clear h144
      rintro ⟨⟩
      refine Wo.od (o_un rfl rfl) rfl ?_
      refine Wo.nil <| At.tn <| Wk.condF rfl rfl ?_
      refine Wk.skip <| At.bn <| At.tn <| Wk.region <| Wo.od (o_ld (k := 4) t28 rfl rfl rfl) rfl ?_
      refine Wo.od (o_ld (k := 4) t28 rfl rfl rfl) rfl ?_
      refine Wo.od (o_bi rfl rfl (ub_sub rfl _ _)) rfl ?_
      refine Wo.od (o_bi rfl rfl (ub_and rfl _ _)) rfl ?_
      refine Wo.o0 (o_st (k := 4) t28 rfl rfl rfl rfl rfl) ?_
      refine Wo.nil ?_
      cases hF
      exact At.en () rfl (sc rfl (sc rfl sn)) (Turn.picks [0, 4, 1, 2, 3] rfl rfl)
    ·refine Wk.condF rfl h127 ?_
     refine Wk.exit <| At.te ?_
     cases hF
     exact At.en () rfl sn (Turn.picks [0, 2, 3, 4] rfl rfl)
   ·clear h145
    rintro ⟨⟩
    refine At.be ?_
    have hr := Option.some.inj hF
    subst r
    exact At.fin .nil fun m' hm => ⟨(), (Turn.picks [0, 1, 2, 3] rfl rfl) m' hm⟩
  ·clear h148
   rintro ⟨⟩
   change At _ .normal _ _ _
   refine At.bn <| At.tn <| Wk.seq <| Wk.region <| Wo.od (o_ld (k := 2) t28 rfl rfl rfl) rfl ?_
   refine Wo.od (o_mv rfl) rfl ?_
   refine Wo.od (o_bi rfl rfl (ub_andn rfl _ _)) rfl ?_
   refine Wo.od (o_as rfl) rfl ?_
   refine Wo.nil <| At.tn <| Wk.ret ?_
   cases hF
   exact At.ret (.tmp rfl .nil) fun m' hm => ⟨(), rfl, (Turn.picks [] rfl rfl) m' hm⟩

theorem f20_ok (n : Nat) (x1 : Int) (l2 : List (Int × Int)) (x6 : Nat) (x7 : Int) (a3 : Option Addr) (c4 : Nat) (r : List Int × Int) (hF : F20 n x1 l2 x6 x7 = some r) (m : AMem) (hG : Gl m) (h5 : Rd m a3 c4 2 l2.length (l2.map (eP (eI .i64) (eI .i64)))) :
  CallA E18w 20 [.agg #[.int .i64 x1, .slice a3 l2.length c4], .int .u64 ((x6 : Nat) : Int), .int .i64 x7] m (fun v m' => ∃ x : Option Addr × Nat, v = .tuple #[.slice x.1 x.2 x.2, .int .i64 r.2] ∧ Hp m m' [.sl x.1 1 x.2 (r.1.map (eI .i64))]) := by
 unfold F20 at hF
 refine call_wk (m0 := m) (ps := [.rd a3 c4 2 l2.length (l2.map (eP (eI .i64) (eI .i64)))]) (N := 62) (rs := [.tmp 6, .tmp 7]) rfl Tryd.func20 rfl rfl rfl ((Hp.start m).inn rfl h5) ?_
 refine Wk.seq <| Wk.region <| Wo.x (o_bx rfl) gn rfl fun b8 => ?_
 refine Wo.od (o_as rfl) rfl ?_
 refine Wo.od (o_as rfl) rfl ?_
 refine Wo.nil <| At.tn <| Wk.seq <| Wk.seq <| Wk.region <| Wo.od (o_ld (k := 0) t25 rfl rfl rfl) rfl ?_
 refine Wo.od (o_mv rfl) rfl ?_
 obtain ⟨r10, h9, hF⟩ := ob_some hF
 refine Wo.x (o_cl rfl rfl (fun m hm => f55_ok n x1 l2 x6 a3 c4 _ h9 m (hm.rd (k := 1) rfl (.rd _ _ _ _ _))) fun _ => rfl) gn rfl ?_
 rintro ⟨⟩
 refine Wo.od (o_as rfl) rfl ?_
 refine Wo.nil <| At.tn <| Wk.seq <| Wk.region <| Wo.od (o_mv rfl) rfl ?_
 refine Wo.od (o_bi rfl rfl (ib_neq _ _)) rfl ?_
 refine Wo.nil <| At.tn ?_
 rcases br_some hF with ⟨h11, hF⟩ | ⟨h11, hF⟩
 ·refine Wk.condT rfl h11 ?_
  refine Wk.seq <| Wk.region <| Wo.od (o_mv rfl) rfl ?_
  refine Wo.od (o_as rfl) rfl ?_
  refine Wo.od (o_as rfl) rfl ?_
  refine Wo.nil <| At.tn <| Wk.ret <| At.tr ?_
  cases hF
  exact At.ret (.tmp rfl (.tmp rfl .nil)) fun m' hm => ⟨(none, 0), rfl, (Turn.trans (Turn.nil 1 rfl) (Turn.picks [0] rfl rfl)) m' hm⟩
 ·refine Wk.condF rfl h11 ?_
  refine Wk.skip <| At.tn <| Wk.seq <| Wk.seq ?_
  obtain ⟨v28, h33, hF⟩ := ob_some hF
  refine Wk.cut (G := (fun (r : Bool) (g : Unit) => match r, g with | v28, _ => ⟨.normal, [(1, .int .u64 ((x6 : Nat) : Int)), (2, .int .i64 x7), (3, ptr b8 0), (33, .bool v28)], [.obj b8 (.cells [.int .i64 x1, .slice a3 l2.length c4] .own), .rd a3 c4 2 l2.length (l2.map (eP (eI .i64) (eI .i64)))]⟩) v28) ?_ ?_
  ·clear hF
   revert v28
   intro r hF
   refine Wk.region <| Wo.od (o_mv rfl) rfl ?_
   refine Wo.od (o_bi rfl rfl (bin_lss _ _ _)) rfl ?_
   refine Wo.od (o_mv rfl) rfl ?_
   rcases br_some hF with ⟨h29, hF⟩ | ⟨h29, hF⟩
   ·refine Wo.s (gg rfl rfl (eTF h29)) rfl ?_
    refine Wo.s (gg rfl rfl (eTF h29)) rfl ?_
    refine Wo.s (gg rfl rfl (eTF h29)) rfl ?_
    refine Wo.s (gg rfl rfl (eTF h29)) rfl ?_
    refine Wo.od (o_pt rfl h29 rfl) rfl ?_
    refine Wo.od (o_mv rfl) rfl ?_
    refine Wo.s (gg rfl rfl rfl) rfl ?_
    refine Wo.s (gg rfl rfl rfl) rfl ?_
    refine Wo.s (gg rfl rfl rfl) rfl ?_
    refine Wo.s (gg rfl rfl rfl) rfl ?_
    refine Wo.od (o_pT rfl rfl) rfl ?_
    refine Wo.nil ?_
    cases hF
    exact At.en () rfl (sc rfl (sc rfl (sc rfl (sc rfl sn)))) (Turn.picks [0, 1] rfl rfl)
   ·refine Wo.og (o_mv rfl) (gg rfl rfl (eFF h29)) rfl ?_
    refine Wo.og (o_fa (r := ptr b8 0) rfl (fa25_0 _ _)) (gg rfl rfl (eFF h29)) rfl ?_
    refine Wo.og (o_ld (k := 0) t3 rfl rfl rfl) (gg rfl rfl (eFF h29)) rfl ?_
    refine Wo.og (o_bi rfl rfl (bin_geq _ _ _)) (gg rfl rfl (eFF h29)) rfl ?_
    refine Wo.od (o_pf rfl h29 rfl) rfl ?_
    refine Wo.od (o_mv rfl) rfl ?_
    rcases br_some hF with ⟨h30, hF⟩ | ⟨h30, hF⟩
    ·refine Wo.s (gg rfl rfl (eTF h30)) rfl ?_
     refine Wo.s (gg rfl rfl (eTF h30)) rfl ?_
     refine Wo.s (gg rfl rfl (eTF h30)) rfl ?_
     refine Wo.s (gg rfl rfl (eTF h30)) rfl ?_
     refine Wo.od (o_pt rfl h30 rfl) rfl ?_
     refine Wo.nil ?_
     cases hF
     exact At.en () rfl (sc rfl (sc rfl (sc rfl (sc rfl sn)))) (Turn.picks [0, 1] rfl rfl)
    ·refine Wo.og (o_mv rfl) (gg rfl rfl (eFF h30)) rfl ?_
     refine Wo.og (o_mv rfl) (gg rfl rfl (eFF h30)) rfl ?_
     obtain ⟨r32, h31, hF⟩ := ob_some hF
     refine Wo.x (o_cl rfl rfl (fun m hm => f57_ok n x6 x7  _ h31 m ) fun _ => rfl) (gg rfl rfl (eFF h30)) rfl ?_
     rintro ⟨⟩
     refine Wo.og (o_un rfl rfl) (gg rfl rfl (eFF h30)) rfl ?_
     refine Wo.od (o_pf rfl h30 rfl) rfl ?_
     refine Wo.nil ?_
     cases hF
     exact At.en () rfl (sc rfl (sc rfl (sc rfl (sc rfl sn)))) (Turn.picks [0, 1] rfl rfl)
  ·clear h33
   rintro ⟨⟩
   refine At.tn ?_
   rcases br_some hF with ⟨h35, hF⟩ | ⟨h35, hF⟩
   ·refine Wk.condT rfl h35 ?_
    refine Wk.seq <| Wk.region <| Wo.od (o_as rfl) rfl ?_
    refine Wo.od (o_as rfl) rfl ?_
    refine Wo.nil <| At.tn <| Wk.ret <| At.tr ?_
    cases hF
    exact At.ret (.tmp rfl (.tmp rfl .nil)) fun m' hm => ⟨(none, 0), rfl, (Turn.trans (Turn.nil 1 rfl) (Turn.picks [0] rfl rfl)) m' hm⟩
   ·refine Wk.condF rfl h35 ?_
    refine Wk.skip <| At.tn <| Wk.seq <| Wk.region <| Wo.x (o_bs (es := ([-1] : List (Int)).map (eI .i64)) s39 rfl (bs_c s39 z3 rfl rfl) rfl rfl) gn rfl fun b36 => ?_
    refine Wo.od (o_fa (r := ptr b8 0) rfl (fa25_0 _ _)) rfl ?_
    refine Wo.od (o_ld (k := 1) t3 rfl rfl rfl) rfl ?_
    obtain ⟨l38, h37, hF⟩ := ob_some hF
    refine Wo.x (o_cl rfl rfl (fun m hm => f60r_ok n ([-1]) x1 (some ⟨b36, 0, none⟩) 1 _ h37 m (hm.rd (k := 0) rfl (.arr _ _ _ _ _))) fun _ => rfl) gn rfl ?_
    rintro ⟨a39, n40⟩
    refine Wo.len (k := 0) (xs := l38) rfl ?_
    rintro rfl
    refine Wo.x (o_al z39 rfl) gn rfl fun b41 => ?_
    refine Wo.o0 (o_st (k := 0) t39 rfl rfl rfl rfl rfl) ?_
    refine Wo.nil <| At.tn <| Wk.seq <| Wk.region <| Wo.od (o_mv rfl) rfl ?_
    obtain ⟨h42, hF⟩ := gd_some hF
    refine Wo.od (o_bi rfl rfl (ub_shl rfl _ _ h42)) rfl ?_
    refine Wo.od (o_as rfl) rfl ?_
    refine Wo.nil <| At.tn <| Wk.seq <| Wk.seq <| Wk.region <| Wo.od (o_mv rfl) rfl ?_
    refine Wo.x (o_al z3 rfl) gn rfl fun b43 => ?_
    refine Wo.o0 (o_st (k := 0) t3 rfl rfl rfl rfl rfl) ?_
    refine Wo.od (o_as rfl) rfl ?_
    refine Wo.nil <| At.tn <| Wk.block ?_
    obtain ⟨l348, h494, hF⟩ := ob_some hF
    refine Wk.cut (G := (fun (r : List (Int)) (g : Unit) => match r, g with | l348, _ => ⟨(.exit 0), [(9, ptr b41 0)], [.obj b41 (.cells [.slice a39 l38.length l38.length] .own), .sl a39 1 l38.length (l348.map (eI .i64))]⟩) l348) ?_ ?_
    ·refine Wk.weak (fs' := [(1, .int .u64 ((x6 : Nat) : Int)), (3, ptr b8 0), (9, ptr b41 0), (10, .int .u64 (((ushl .u64 1 x7.toNat) : Nat) : Int)), (11, ptr b43 0), (12, .int .u64 (((ushl .u64 1 x7.toNat) : Nat) : Int))]) (ps' := [.obj b8 (.cells [.int .i64 x1, .slice a3 l2.length c4] .own), .rd a3 c4 2 l2.length (l2.map (eP (eI .i64) (eI .i64))), .obj b41 (.cells [.slice a39 l38.length l38.length] .own), .sl a39 1 l38.length (l38.map (eI .i64)), .obj b43 (.cells [.int .i64 0] .own)]) (sc rfl (sc rfl (sc rfl (sc rfl (sc rfl (sc rfl sn)))))) (Turn.picks [4, 5, 1, 2, 0] rfl rfl) ?_
     refine Wk.loop (σ := List (Int) × Nat × Int × Nat) (ρ := List (Int)) (γ := Nat) (δ := fun _ => Unit) _ (fun (s : List (Int) × Nat × Int × Nat) (g : Nat) => match s, g with | (l193, v194, v196, v197), b195 => ⟨.normal, [(1, .int .u64 ((x6 : Nat) : Int)), (3, ptr b8 0), (9, ptr b41 0), (10, .int .u64 ((v194 : Nat) : Int)), (11, ptr b195 0), (12, .int .u64 ((v197 : Nat) : Int))], [.obj b8 (.cells [.int .i64 x1, .slice a3 l2.length c4] .own), .rd a3 c4 2 l2.length (l2.map (eP (eI .i64) (eI .i64))), .obj b41 (.cells [.slice a39 l38.length l38.length] .own), .sl a39 1 l38.length (l193.map (eI .i64)), .obj b195 (.cells [.int .i64 v196] .own)]⟩) (fun (r : List (Int)) (g : Unit) => match r, g with | l348, _ => ⟨(.exit 0), [(9, ptr b41 0)], [.obj b41 (.cells [.slice a39 l38.length l38.length] .own), .sl a39 1 l38.length (l348.map (eI .i64))]⟩) ?_ (fun _ _ => rfl) (fun r d => by intro e; cases e) _ _ _ h494 b43
     clear hF h494
     rintro ⟨l193, v194, v196, v197⟩ b195 r hF
     unfold L20_2 at hF
     refine Wk.seq <| Wk.seq <| Wk.region <| Wo.od (o_mv rfl) rfl ?_
     refine Wo.od (o_bi rfl rfl (ub_neq _ _)) rfl ?_
     refine Wo.nil <| At.tn ?_
     rcases br_some hF with ⟨h349, hF⟩ | ⟨h349, hF⟩
     ·refine Wk.condT rfl h349 ?_
      refine Wk.skip <| At.tn <| Wk.seq <| Wk.block <| Wk.seq <| Wk.seq <| Wk.region ?_
      refine Wo.od (o_mv rfl) rfl ?_
      obtain ⟨r353, h354, hF⟩ := ob_some hF
      refine Wo.x (o_cs (α := Nat) (V := fun g => (fun (r : Unit) (g : Nat) => match r, g with | _, b351 => (.func (.func 78) #[] #[ptr b351 0] : Value)) r353 g) (N := fun g => (fun (r : Unit) (g : Nat) => match r, g with | _, b351 => ([.obj b351 (.cells [.int .u64 ((v197 : Nat) : Int)] .own), .obj b8 (.cells [.int .i64 x1, .slice a3 l2.length c4] .own), .rd a3 c4 2 l2.length (l2.map (eP (eI .i64) (eI .i64))), .obj b41 (.cells [.slice a39 l38.length l38.length] .own), .sl a39 1 l38.length (l193.map (eI .i64)), .obj b195 (.cells [.int .i64 v196] .own)] : List Pc)) r353 g) rfl rfl (fun m hm => ?_)) gn rfl ?_
      ·clear hF
       revert r353
       intro r hF
       refine call_wk (N := 4) (rs := [.tmp 2]) rfl Tryd.func61 rfl rfl rfl hm ?_
       refine Wk.seq <| Wk.region <| Wo.x (o_bx rfl) gn rfl fun b352 => ?_
       refine Wo.od (o_as rfl) rfl ?_
       refine Wo.nil <| At.tn <| Wk.seq <| Wk.region <| Wo.od (o_mf rfl rfl) rfl ?_
       refine Wo.od (o_as rfl) rfl ?_
       refine Wo.nil <| At.tn <| Wk.ret ?_
       cases hF
       exact At.ret (.tmp rfl .nil) fun m' hm => ⟨b352, rfl, (Turn.picks [0, 1, 2, 3, 4, 5] rfl rfl) m' hm⟩
      ·clear h354
       rintro b351
       refine Wo.nil <| At.tn <| Wk.block ?_
       obtain ⟨l423, h488, hF⟩ := ob_some hF
       refine Wk.range (N := 14) (rs := []) (γ := Unit) (X := fun g => (fun (r : List (Int)) (g : Unit) => (match r, g with | l423, _ => ⟨.ready, none, [.obj b8 (.cells [.int .i64 x1, .slice a3 l2.length c4] .own), .rd a3 c4 2 l2.length (l2.map (eP (eI .i64) (eI .i64))), .obj b41 (.cells [.slice a39 l38.length l38.length] .own), .sl a39 1 l38.length (l423.map (eI .i64)), .obj b195 (.cells [.int .i64 v196] .own)]⟩ : Rn)) l423 g) rfl rfl Tryd.func78 rfl rfl rfl ?_ (fun y => by intro e; cases e) ?_
       ·clear hF
        revert l423
        intro r hF
        intro t357 l355 rc356 h358 h359
        refine Wk.block ?_
        obtain ⟨l465, h485, hF⟩ := ob_some hF
        refine Wk.cut (G := (fun (r : List (Int)) (g : Unit) => match r, g with | l465, _ => ⟨(.exit 0), [], [.obj l355 (rc356 .ready none), .obj b8 (.cells [.int .i64 x1, .slice a3 l2.length c4] .own), .rd a3 c4 2 l2.length (l2.map (eP (eI .i64) (eI .i64))), .obj b41 (.cells [.slice a39 l38.length l38.length] .own), .sl a39 1 l38.length (l465.map (eI .i64)), .obj b195 (.cells [.int .i64 v196] .own)]⟩) l465) ?_ ?_
        ·refine Wk.weak (fs' := [(0, .func (.yield l355) #[] #[]), (1, ptr b351 0)]) (ps' := [.obj l355 (rc356 .ready none), .obj b351 (.cells [.int .u64 ((v197 : Nat) : Int)] .own), .obj b8 (.cells [.int .i64 x1, .slice a3 l2.length c4] .own), .rd a3 c4 2 l2.length (l2.map (eP (eI .i64) (eI .i64))), .obj b41 (.cells [.slice a39 l38.length l38.length] .own), .sl a39 1 l38.length (l193.map (eI .i64)), .obj b195 (.cells [.int .i64 v196] .own)]) (sc rfl (sc rfl sn)) (Turn.picks [0, 1, 2, 3, 4, 5, 6] rfl rfl) ?_
         refine Wk.loop (σ := Nat × List (Int)) (ρ := List (Int)) (γ := Unit) (δ := fun _ => Unit) _ (fun (s : Nat × List (Int)) (g : Unit) => match s, g with | (v442, l443), _ => ⟨.normal, [(0, .func (.yield l355) #[] #[]), (1, ptr b351 0)], [.obj l355 (rc356 .ready none), .obj b351 (.cells [.int .u64 ((v442 : Nat) : Int)] .own), .obj b8 (.cells [.int .i64 x1, .slice a3 l2.length c4] .own), .rd a3 c4 2 l2.length (l2.map (eP (eI .i64) (eI .i64))), .obj b41 (.cells [.slice a39 l38.length l38.length] .own), .sl a39 1 l38.length (l443.map (eI .i64)), .obj b195 (.cells [.int .i64 v196] .own)]⟩) (fun (r : List (Int)) (g : Unit) => match r, g with | l465, _ => ⟨(.exit 0), [], [.obj l355 (rc356 .ready none), .obj b8 (.cells [.int .i64 x1, .slice a3 l2.length c4] .own), .rd a3 c4 2 l2.length (l2.map (eP (eI .i64) (eI .i64))), .obj b41 (.cells [.slice a39 l38.length l38.length] .own), .sl a39 1 l38.length (l465.map (eI .i64)), .obj b195 (.cells [.int .i64 v196] .own)]⟩) ?_ (fun _ _ => rfl) (fun r d => by intro e; cases e) _ _ _ h485 ()
         clear hF h485
         rintro ⟨v442, l443⟩ ⟨⟩ r hF
         unfold L20_1 at hF
         refine Wk.seq <| Wk.seq <| Wk.region <| Wo.od (o_ld (k := 1) t28 rfl rfl rfl) rfl ?_
         refine Wo.od (o_bi rfl rfl (ub_neq _ _)) rfl ?_
         refine Wo.nil <| At.tn ?_
         rcases br_some hF with ⟨h466, hF⟩ | ⟨h466, hF⟩
         ·refine Wk.condT rfl h466 ?_
          refine Wk.skip <| At.tn <| Wk.seq <| Wk.block <| Wk.seq <| Wk.region <| Wo.od (o_mv rfl) rfl ?_
          refine Wo.od (o_ld (k := 1) t28 rfl rfl rfl) rfl ?_
          obtain ⟨r468, h467, hF⟩ := ob_some hF
          refine Wo.x (o_cl rfl rfl (fun m hm => f42_ok n v442  _ h467 m (hG.ext hm.ext) ) fun _ => rfl) gn rfl ?_
          rintro ⟨⟩
          obtain ⟨r483, h484, hF⟩ := ob_some hF
          refine Wo.x (o_yd (k := 0) (k1 := 0) (γA := Unit) (GA := (fun g : Unit => (match g with | _ => ⟨.normal, [(9, ptr b41 0), (11, ptr b195 0), (13, .int .i64 r468)], [.obj l355 (rc356 .ready none), .obj b41 (.cells [.slice a39 l38.length l38.length] .own), .sl a39 1 l38.length (l443.map (eI .i64)), .obj b195 (.cells [.int .i64 v196] .own), .obj b8 (.cells [.int .i64 x1, .slice a3 l2.length c4] .own), .rd a3 c4 2 l2.length (l2.map (eP (eI .i64) (eI .i64))), .obj b351 (.cells [.int .u64 ((v442 : Nat) : Int)] .own)]⟩ : En))) (γ := Unit) (G := fun g => (fun (r : Unit) (g : Unit) => (match r, g with | _, _ => ⟨.normal, [], [.obj l355 (rc356 .busy none), .obj b8 (.cells [.int .i64 x1, .slice a3 l2.length c4] .own), .rd a3 c4 2 l2.length (l2.map (eP (eI .i64) (eI .i64))), .obj b41 (.cells [.slice a39 l38.length l38.length] .own), .sl a39 1 l38.length ((l443.set r468.toNat v196).map (eI .i64)), .obj b195 (.cells [.int .i64 v196] .own), .obj b351 (.cells [.int .u64 ((v442 : Nat) : Int)] .own)]⟩ : En)) r483 g) rfl rfl rfl h359 h358 rfl ?_ (fun _ => rfl) (fun _ => rfl) ?_ (fun y => rfl)) gn rfl ?_
          ·clear hF h484
           refine Wk.region <| Wo.od (o_as rfl) rfl ?_
           refine Wo.nil ?_
           exact At.en () rfl (sc rfl (sc rfl (sc rfl sn))) (Turn.picks [0, 4, 5, 6, 2, 3, 1] rfl rfl)
          ·clear hF
           revert r483
           intro r hF
           rintro ⟨⟩
           refine Wk.block <| Wk.region <| Wo.od (o_ld (k := 1) t39 rfl rfl rfl) rfl ?_
           refine Wo.od (o_mv rfl) rfl ?_
           refine Wo.od (o_ld (k := 3) t3 rfl rfl rfl) rfl ?_
           obtain ⟨h476, hF⟩ := gd_some hF
           replace h476 := inB_some h476
           refine Wo.open (k := 2) rfl (pos_of h476) ?_
           rintro b477 tg478 rfl h479
           refine Wo.og (o_ixa s39 rfl rfl h476) gn rfl ?_
           obtain ⟨x480, h481, hF⟩ := ob_some hF
           refine Wo.o0 (o_stl (k := 2) (x1 := x480) (x2 := v196) t3 rfl rfl rfl h481 rfl) ?_
           refine Wo.nil <| At.bn ?_
           cases hF
           exact At.en () rfl sn (Turn.trans (Turn.close (k := 2) rfl) (Turn.picks [0, 4, 5, 1, 2, 3, 6] rfl rfl))
          ·clear h484
           rintro ⟨⟩
           refine Wo.od (o_un rfl rfl) rfl ?_
           refine Wo.nil <| At.tn <| Wk.condF rfl rfl ?_
           refine Wk.skip <| At.bn <| At.tn <| Wk.region <| Wo.od (o_ld (k := 6) t28 rfl rfl rfl) rfl ?_
           refine Wo.od (o_ld (k := 6) t28 rfl rfl rfl) rfl ?_
           refine Wo.od (o_bi rfl rfl (ub_sub rfl _ _)) rfl ?_
           refine Wo.od (o_bi rfl rfl (ub_and rfl _ _)) rfl ?_
           refine Wo.o0 (o_st (k := 6) t28 rfl rfl rfl rfl rfl) ?_
           refine Wo.nil ?_
           cases hF
           exact At.en () rfl (sc rfl (sc rfl sn)) (Turn.picks [0, 6, 1, 2, 3, 4, 5] rfl rfl)
         ·refine Wk.condF rfl h466 ?_
          refine Wk.exit <| At.te ?_
          cases hF
          exact At.en () rfl sn (Turn.picks [0, 2, 3, 4, 5, 6] rfl rfl)
        ·clear h485
         rintro ⟨⟩
         refine At.be ?_
         have hr := Option.some.inj hF
         subst r
         exact At.fin .nil fun m' hm => ⟨(), (Turn.picks [0, 1, 2, 3, 4, 5] rfl rfl) m' hm⟩
       ·clear h488
        rintro ⟨⟩
        change At _ .normal _ _ _
        refine At.bn <| At.tn <| Wk.seq <| Wk.region <| Wo.od (o_ld (k := 0) t25 rfl rfl rfl) rfl ?_
        refine Wo.od (o_mv rfl) rfl ?_
        obtain ⟨r490, h489, hF⟩ := ob_some hF
        refine Wo.x (o_cl rfl rfl (fun m hm => f56_ok n x1 l2 v194 a3 c4 _ h489 m (hG.ext hm.ext) (hm.rd (k := 1) rfl (.rd _ _ _ _ _))) fun _ => rfl) gn rfl ?_
        rintro ⟨⟩
        refine Wo.od (o_mv rfl) rfl ?_
        refine Wo.od (o_bi rfl rfl (ub_and rfl _ _)) rfl ?_
        refine Wo.od (o_as rfl) rfl ?_
        refine Wo.nil <| At.tn <| Wk.region <| Wo.od (o_mv rfl) rfl ?_
        refine Wo.od (o_mv rfl) rfl ?_
        obtain ⟨y491, h492, hF⟩ := ob_some hF
        refine Wo.od (o_bi rfl rfl ((ub_or rfl _ _).trans (cN h492))) rfl ?_
        refine Wo.od (o_as rfl) rfl ?_
        refine Wo.nil <| At.bn <| At.tn <| Wk.seq <| Wk.seq <| Wk.region <| Wo.od (o_ld (k := 4) t3 rfl rfl rfl) rfl ?_
        refine Wo.nil <| At.tn <| Wk.region <| Wo.x (o_al z3 rfl) gn rfl fun b493 => ?_
        refine Wo.o0 (o_st (k := 0) t3 rfl rfl rfl rfl rfl) ?_
        refine Wo.nil <| At.tn <| Wk.region <| Wo.od (o_ld (k := 0) t3 rfl rfl rfl) rfl ?_
        refine Wo.od (o_bi rfl rfl (bin_add _ _ _)) rfl ?_
        refine Wo.o0 (o_st (k := 0) t3 rfl rfl rfl rfl rfl) ?_
        refine Wo.nil ?_
        cases hF
        exact At.en b493 rfl (sc rfl (sc rfl (sc rfl (sc rfl (sc rfl (sc rfl sn)))))) (Turn.picks [1, 2, 3, 4, 0] rfl rfl)
     ·refine Wk.condF rfl h349 ?_
      refine Wk.exit <| At.te ?_
      cases hF
      exact At.en () rfl (sc rfl sn) (Turn.picks [2, 3] rfl rfl)
    ·clear h494
     rintro ⟨⟩
     refine At.be <| At.tn <| Wk.seq <| Wk.region <| Wo.od (o_ld (k := 0) t39 rfl rfl rfl) rfl ?_
     refine Wo.od (o_as rfl) rfl ?_
     refine Wo.od (o_as rfl) rfl ?_
     refine Wo.nil <| At.tn <| Wk.ret ?_
     cases hF
     exact At.ret (.tmp rfl (.tmp rfl .nil)) fun m' hm => ⟨(a39, l38.length), rfl, (Turn.picks [1] rfl rfl) m' hm⟩

theorem f58_ok (n : Nat) (x1 : Int) (l2 : List (Int × Int)) (x6 : Nat) (a3 : Option Addr) (c4 : Nat) (r : List Nat) (hF : F58 n x1 l2 x6 = some r) (m : AMem) (hG : Gl m) (h5 : Rd m a3 c4 2 l2.length (l2.map (eP (eI .i64) (eI .i64)))) :
  CallA E18w 58 [.agg #[.int .i64 x1, .slice a3 l2.length c4], .int .u64 ((x6 : Nat) : Int)] m (fun v m' => ∃ x : Option Addr × Nat, v = .slice x.1 x.2 x.2 ∧ Hp m m' [.sl x.1 1 x.2 (r.map (eN .u64))]) := by
 unfold F58 at hF
 refine call_wk (m0 := m) (ps := [.rd a3 c4 2 l2.length (l2.map (eP (eI .i64) (eI .i64)))]) (N := 44) (rs := [.tmp 4]) rfl Tryd.func58 rfl rfl rfl ((Hp.start m).inn rfl h5) ?_
 refine Wk.seq <| Wk.region <| Wo.x (o_bx rfl) gn rfl fun b7 => ?_
 refine Wo.x (o_bx rfl) gn rfl fun b8 => ?_
 refine Wo.od (o_as rfl) rfl ?_
 refine Wo.nil <| At.tn <| Wk.seq <| Wk.region <| Wo.od (o_ld (k := 1) t25 rfl rfl rfl) rfl ?_
 obtain ⟨l10, h9, hF⟩ := ob_some hF
 refine Wo.x (o_cl rfl rfl (fun m hm => f75_ok n x1 l2 a3 c4 _ h9 m (hm.rd (k := 2) rfl (.rd _ _ _ _ _))) fun _ => rfl) gn rfl ?_
 rintro ⟨a11, n12⟩
 refine Wo.len (k := 0) (xs := l10) rfl ?_
 rintro rfl
 refine Wo.x (o_al z36 rfl) gn rfl fun b13 => ?_
 refine Wo.o0 (o_st (k := 0) t36 rfl rfl rfl rfl rfl) ?_
 refine Wo.nil <| At.tn <| Wk.seq <| Wk.region <| Wo.od (o_as rfl) rfl ?_
 refine Wo.nil <| At.tn <| Wk.seq <| Wk.seq <| Wk.region <| Wo.od (o_ld (k := 2) t28 rfl rfl rfl) rfl ?_
 refine Wo.od (o_as rfl) rfl ?_
 refine Wo.nil <| At.tn <| Wk.block ?_
 obtain ⟨l686, h1020, hF⟩ := ob_some hF
 refine Wk.cut (G := (fun (r : List (Nat)) (g : Option Addr) => match r, g with | l686, a687 => ⟨(.exit 0), [(6, .slice a687 l686.length l686.length)], [.sl a687 1 l686.length (l686.map (eN .u64))]⟩) l686) ?_ ?_
 ·refine Wk.weak (fs' := [(3, ptr b8 0), (5, ptr b13 0), (6, .slice none ([] : List (Nat)).length ([] : List (Nat)).length), (7, .int .u64 ((x6 : Nat) : Int))]) (ps' := [.obj b8 (.cells [.int .u64 ((x6 : Nat) : Int)] .own), .obj b13 (.cells [.slice a11 l10.length l10.length] .own), .sl a11 1 l10.length (l10.map (eN .u64)), .sl none 1 ([] : List (Nat)).length (([] : List (Nat)).map (eN .u64))]) (sc rfl (sc rfl (sc rfl (sc rfl sn)))) (Turn.trans (Turn.nil 1 rfl) (Turn.picks [3, 1, 2, 0] rfl rfl)) ?_
  refine Wk.loop (σ := List (Nat) × Nat) (ρ := List (Nat)) (γ := Option Addr) (δ := fun _ => Option Addr) _ (fun (s : List (Nat) × Nat) (g : Option Addr) => match s, g with | (l348, v350), a349 => ⟨.normal, [(3, ptr b8 0), (5, ptr b13 0), (6, .slice a349 l348.length l348.length), (7, .int .u64 ((v350 : Nat) : Int))], [.obj b8 (.cells [.int .u64 ((x6 : Nat) : Int)] .own), .obj b13 (.cells [.slice a11 l10.length l10.length] .own), .sl a11 1 l10.length (l10.map (eN .u64)), .sl a349 1 l348.length (l348.map (eN .u64))]⟩) (fun (r : List (Nat)) (g : Option Addr) => match r, g with | l686, a687 => ⟨(.exit 0), [(6, .slice a687 l686.length l686.length)], [.sl a687 1 l686.length (l686.map (eN .u64))]⟩) ?_ (fun _ _ => rfl) (fun r d => by intro e; cases e) _ _ _ h1020 none
  clear hF h1020
  rintro ⟨l348, v350⟩ a349 r hF
  unfold L58_3 at hF
  refine Wk.seq <| Wk.seq <| Wk.region <| Wo.od (o_mv rfl) rfl ?_
  refine Wo.od (o_bi rfl rfl (ub_neq _ _)) rfl ?_
  refine Wo.nil <| At.tn ?_
  rcases br_some hF with ⟨h688, hF⟩ | ⟨h688, hF⟩
  ·refine Wk.condT rfl h688 ?_
   refine Wk.skip <| At.tn <| Wk.block <| Wk.seq <| Wk.region <| Wo.od (o_mv rfl) rfl ?_
   refine Wo.od (o_mv rfl) rfl ?_
   refine Wo.od (o_un rfl (uu_neg rfl _)) rfl ?_
   refine Wo.od (o_bi rfl rfl (ub_and rfl _ _)) rfl ?_
   refine Wo.od (o_as rfl) rfl ?_
   refine Wo.nil <| At.tn <| Wk.seq <| Wk.block ?_
   obtain ⟨v853, h1015, hF⟩ := ob_some hF
   refine Wk.cut (G := (fun (r : Nat) (g : Unit) => match r, g with | v853, _ => ⟨(.exit 2), [(3, ptr b8 0), (5, ptr b13 0), (6, .slice a349 l348.length l348.length), (7, .int .u64 ((v350 : Nat) : Int)), (8, .int .u64 ((v853 : Nat) : Int))], [.obj b8 (.cells [.int .u64 ((x6 : Nat) : Int)] .own), .obj b13 (.cells [.slice a11 l10.length l10.length] .own), .sl a11 1 l10.length (l10.map (eN .u64)), .sl a349 1 l348.length (l348.map (eN .u64))]⟩) v853) ?_ ?_
   ·refine Wk.weak (fs' := [(3, ptr b8 0), (5, ptr b13 0), (6, .slice a349 l348.length l348.length), (7, .int .u64 ((v350 : Nat) : Int)), (8, .int .u64 (((uw .u64 (uw .u64 v350 &&& uw .u64 (uneg .u64 v350))) : Nat) : Int))]) (ps' := [.obj b8 (.cells [.int .u64 ((x6 : Nat) : Int)] .own), .obj b13 (.cells [.slice a11 l10.length l10.length] .own), .sl a11 1 l10.length (l10.map (eN .u64)), .sl a349 1 l348.length (l348.map (eN .u64))]) (sc rfl (sc rfl (sc rfl (sc rfl (sc rfl sn))))) (Turn.picks [0, 1, 2, 3] rfl rfl) ?_
    refine Wk.loop (σ := Nat) (ρ := Nat) (γ := Unit) (δ := fun _ => Unit) _ (fun (s : Nat) (g : Unit) => match s, g with | v690, _ => ⟨.normal, [(3, ptr b8 0), (5, ptr b13 0), (6, .slice a349 l348.length l348.length), (7, .int .u64 ((v350 : Nat) : Int)), (8, .int .u64 ((v690 : Nat) : Int))], [.obj b8 (.cells [.int .u64 ((x6 : Nat) : Int)] .own), .obj b13 (.cells [.slice a11 l10.length l10.length] .own), .sl a11 1 l10.length (l10.map (eN .u64)), .sl a349 1 l348.length (l348.map (eN .u64))]⟩) (fun (r : Nat) (g : Unit) => match r, g with | v853, _ => ⟨(.exit 2), [(3, ptr b8 0), (5, ptr b13 0), (6, .slice a349 l348.length l348.length), (7, .int .u64 ((v350 : Nat) : Int)), (8, .int .u64 ((v853 : Nat) : Int))], [.obj b8 (.cells [.int .u64 ((x6 : Nat) : Int)] .own), .obj b13 (.cells [.slice a11 l10.length l10.length] .own), .sl a11 1 l10.length (l10.map (eN .u64)), .sl a349 1 l348.length (l348.map (eN .u64))]⟩) ?_ (fun _ _ => rfl) (fun r d => by intro e; cases e) _ _ _ h1015 ()
    clear hF h1015
    rintro v690 ⟨⟩ r hF
    unfold L58_2 at hF
    refine Wk.block <| Wk.seq <| Wk.region <| Wo.od (o_mv rfl) rfl ?_
    refine Wo.x (o_al z28 rfl) gn rfl fun b854 => ?_
    refine Wo.o0 (o_st (k := 0) t28 rfl rfl rfl rfl rfl) ?_
    refine Wo.nil <| At.tn <| Wk.seq <| Wk.seq <| Wk.region <| Wo.od (o_mv rfl) rfl ?_
    obtain ⟨r858, h859, hF⟩ := ob_some hF
    refine Wo.x (o_cs (α := Nat) (V := fun g => (fun (r : Unit) (g : Nat) => match r, g with | _, b856 => (.func (.func 78) #[] #[ptr b856 0] : Value)) r858 g) (N := fun g => (fun (r : Unit) (g : Nat) => match r, g with | _, b856 => ([.obj b856 (.cells [.int .u64 ((v690 : Nat) : Int)] .own), .obj b8 (.cells [.int .u64 ((x6 : Nat) : Int)] .own), .obj b13 (.cells [.slice a11 l10.length l10.length] .own), .sl a11 1 l10.length (l10.map (eN .u64)), .sl a349 1 l348.length (l348.map (eN .u64)), .obj b854 (.cells [.int .u64 ((v690 : Nat) : Int)] .own)] : List Pc)) r858 g) rfl rfl (fun m hm => ?_)) gn rfl ?_
    ·clear hF
     revert r858
     intro r hF
     refine call_wk (N := 4) (rs := [.tmp 2]) rfl Tryd.func61 rfl rfl rfl hm ?_
     refine Wk.seq <| Wk.region <| Wo.x (o_bx rfl) gn rfl fun b857 => ?_
     refine Wo.od (o_as rfl) rfl ?_
     refine Wo.nil <| At.tn <| Wk.seq <| Wk.region <| Wo.od (o_mf rfl rfl) rfl ?_
     refine Wo.od (o_as rfl) rfl ?_
     refine Wo.nil <| At.tn <| Wk.ret ?_
     cases hF
     exact At.ret (.tmp rfl .nil) fun m' hm => ⟨b857, rfl, (Turn.picks [0, 2, 3, 4, 5, 1] rfl rfl) m' hm⟩
    ·clear h859
     rintro b856
     refine Wo.nil <| At.tn <| Wk.block ?_
     obtain ⟨v938, h1013, hF⟩ := ob_some hF
     refine Wk.range (N := 14) (rs := []) (γ := Unit) (X := fun g => (fun (r : Nat) (g : Unit) => (match r, g with | v938, _ => ⟨.ready, none, [.obj b8 (.cells [.int .u64 ((x6 : Nat) : Int)] .own), .obj b13 (.cells [.slice a11 l10.length l10.length] .own), .sl a11 1 l10.length (l10.map (eN .u64)), .sl a349 1 l348.length (l348.map (eN .u64)), .obj b854 (.cells [.int .u64 ((v938 : Nat) : Int)] .own)]⟩ : Rn)) v938 g) rfl rfl Tryd.func78 rfl rfl rfl ?_ (fun y => by intro e; cases e) ?_
     ·clear hF
      revert v938
      intro r hF
      intro t862 l860 rc861 h863 h864
      refine Wk.block ?_
      obtain ⟨v987, h1010, hF⟩ := ob_some hF
      refine Wk.cut (G := (fun (r : Nat) (g : Unit) => match r, g with | v987, _ => ⟨(.exit 0), [], [.obj l860 (rc861 .ready none), .obj b8 (.cells [.int .u64 ((x6 : Nat) : Int)] .own), .obj b13 (.cells [.slice a11 l10.length l10.length] .own), .sl a11 1 l10.length (l10.map (eN .u64)), .sl a349 1 l348.length (l348.map (eN .u64)), .obj b854 (.cells [.int .u64 ((v987 : Nat) : Int)] .own)]⟩) v987) ?_ ?_
      ·refine Wk.weak (fs' := [(0, .func (.yield l860) #[] #[]), (1, ptr b856 0)]) (ps' := [.obj l860 (rc861 .ready none), .obj b856 (.cells [.int .u64 ((v690 : Nat) : Int)] .own), .obj b8 (.cells [.int .u64 ((x6 : Nat) : Int)] .own), .obj b13 (.cells [.slice a11 l10.length l10.length] .own), .sl a11 1 l10.length (l10.map (eN .u64)), .sl a349 1 l348.length (l348.map (eN .u64)), .obj b854 (.cells [.int .u64 ((v690 : Nat) : Int)] .own)]) (sc rfl (sc rfl sn)) (Turn.picks [0, 1, 2, 3, 4, 5, 6] rfl rfl) ?_
       refine Wk.loop (σ := Nat × Nat) (ρ := Nat) (γ := Unit) (δ := fun _ => Unit) _ (fun (s : Nat × Nat) (g : Unit) => match s, g with | (v961, v962), _ => ⟨.normal, [(0, .func (.yield l860) #[] #[]), (1, ptr b856 0)], [.obj l860 (rc861 .ready none), .obj b856 (.cells [.int .u64 ((v961 : Nat) : Int)] .own), .obj b8 (.cells [.int .u64 ((x6 : Nat) : Int)] .own), .obj b13 (.cells [.slice a11 l10.length l10.length] .own), .sl a11 1 l10.length (l10.map (eN .u64)), .sl a349 1 l348.length (l348.map (eN .u64)), .obj b854 (.cells [.int .u64 ((v962 : Nat) : Int)] .own)]⟩) (fun (r : Nat) (g : Unit) => match r, g with | v987, _ => ⟨(.exit 0), [], [.obj l860 (rc861 .ready none), .obj b8 (.cells [.int .u64 ((x6 : Nat) : Int)] .own), .obj b13 (.cells [.slice a11 l10.length l10.length] .own), .sl a11 1 l10.length (l10.map (eN .u64)), .sl a349 1 l348.length (l348.map (eN .u64)), .obj b854 (.cells [.int .u64 ((v987 : Nat) : Int)] .own)]⟩) ?_ (fun _ _ => rfl) (fun r d => by intro e; cases e) _ _ _ h1010 ()
       clear hF h1010
       rintro ⟨v961, v962⟩ ⟨⟩ r hF
       unfold L58_1 at hF
       refine Wk.seq <| Wk.seq <| Wk.region <| Wo.od (o_ld (k := 1) t28 rfl rfl rfl) rfl ?_
       refine Wo.od (o_bi rfl rfl (ub_neq _ _)) rfl ?_
       refine Wo.nil <| At.tn ?_
       rcases br_some hF with ⟨h988, hF⟩ | ⟨h988, hF⟩
       ·refine Wk.condT rfl h988 ?_
        refine Wk.skip <| At.tn <| Wk.seq <| Wk.block <| Wk.seq <| Wk.region <| Wo.od (o_mv rfl) rfl ?_
        refine Wo.od (o_ld (k := 1) t28 rfl rfl rfl) rfl ?_
        obtain ⟨r990, h989, hF⟩ := ob_some hF
        refine Wo.x (o_cl rfl rfl (fun m hm => f42_ok n v961  _ h989 m (hG.ext hm.ext) ) fun _ => rfl) gn rfl ?_
        rintro ⟨⟩
        obtain ⟨v999, h1009, hF⟩ := ob_some hF
        refine Wo.x (o_yd (k := 0) (k1 := 0) (γA := Unit) (GA := (fun g : Unit => (match g with | _ => ⟨.normal, [(3, ptr b8 0), (5, ptr b13 0), (9, ptr b854 0), (10, .int .i64 r990)], [.obj l860 (rc861 .ready none), .obj b8 (.cells [.int .u64 ((x6 : Nat) : Int)] .own), .obj b13 (.cells [.slice a11 l10.length l10.length] .own), .sl a11 1 l10.length (l10.map (eN .u64)), .obj b854 (.cells [.int .u64 ((v962 : Nat) : Int)] .own), .sl a349 1 l348.length (l348.map (eN .u64)), .obj b856 (.cells [.int .u64 ((v961 : Nat) : Int)] .own)]⟩ : En))) (γ := Unit) (G := fun g => (fun (r : Nat) (g : Unit) => (match r, g with | v999, _ => ⟨.normal, [], [.obj l860 (rc861 .busy none), .obj b8 (.cells [.int .u64 ((x6 : Nat) : Int)] .own), .obj b13 (.cells [.slice a11 l10.length l10.length] .own), .sl a11 1 l10.length (l10.map (eN .u64)), .sl a349 1 l348.length (l348.map (eN .u64)), .obj b854 (.cells [.int .u64 ((v999 : Nat) : Int)] .own), .obj b856 (.cells [.int .u64 ((v961 : Nat) : Int)] .own)]⟩ : En)) v999 g) rfl rfl rfl h864 h863 rfl ?_ (fun _ => rfl) (fun _ => rfl) ?_ (fun y => rfl)) gn rfl ?_
        ·clear hF h1009
         refine Wk.region <| Wo.od (o_as rfl) rfl ?_
         refine Wo.nil ?_
         exact At.en () rfl (sc rfl (sc rfl (sc rfl (sc rfl sn)))) (Turn.picks [0, 2, 3, 4, 6, 5, 1] rfl rfl)
        ·clear hF
         revert v999
         intro r hF
         rintro ⟨⟩
         refine Wk.block <| Wk.draw (by kernel_rfl) ?_
         refine Wo.od (o_ld (k := 4) t28 rfl rfl rfl) rfl ?_
         refine Wo.od (o_ld (k := 2) t36 rfl rfl rfl) rfl ?_
         refine Wo.od (o_mv rfl) rfl ?_
         obtain ⟨h1000, hF⟩ := gd_some hF
         replace h1000 := inB_some h1000
         refine Wo.open (k := 3) rfl (pos_of h1000) ?_
         rintro b1001 tg1002 rfl h1003
         refine Wo.og (o_ixa s36 rfl rfl h1000) gn rfl ?_
         obtain ⟨x1004, h1005, hF⟩ := ob_some hF
         refine Wo.od (o_lda (k := 3) t28 rfl rfl (map_at h1005) rfl rfl) rfl ?_
         refine Wo.od (o_ld (k := 1) t28 rfl rfl rfl) rfl ?_
         refine Wo.od (o_bi rfl rfl (ub_and rfl _ _)) rfl ?_
         obtain ⟨y1006, h1007, hF⟩ := ob_some hF
         refine Wo.od (o_bi rfl rfl ((ub_or rfl _ _).trans (cN h1007))) rfl ?_
         refine Wo.o0 (o_st (k := 4) t28 rfl rfl rfl rfl rfl) ?_
         refine Wo.nil <| At.bn ?_
         have hr := Option.some.inj hF
         subst r
         exact At.en () rfl sn (Turn.trans (Turn.close (k := 3) rfl) (Turn.picks [0, 1, 2, 3, 5, 4, 6] rfl rfl))
        ·clear h1009
         rintro ⟨⟩
         refine Wo.od (o_un rfl rfl) rfl ?_
         refine Wo.nil <| At.tn <| Wk.condF rfl rfl ?_
         refine Wk.skip <| At.bn <| At.tn <| Wk.region <| Wo.od (o_ld (k := 6) t28 rfl rfl rfl) rfl ?_
         refine Wo.od (o_ld (k := 6) t28 rfl rfl rfl) rfl ?_
         refine Wo.od (o_bi rfl rfl (ub_sub rfl _ _)) rfl ?_
         refine Wo.od (o_bi rfl rfl (ub_and rfl _ _)) rfl ?_
         refine Wo.o0 (o_st (k := 6) t28 rfl rfl rfl rfl rfl) ?_
         refine Wo.nil ?_
         cases hF
         exact At.en () rfl (sc rfl (sc rfl sn)) (Turn.picks [0, 6, 1, 2, 3, 4, 5] rfl rfl)
       ·refine Wk.condF rfl h988 ?_
        refine Wk.exit <| At.te ?_
        cases hF
        exact At.en () rfl sn (Turn.picks [0, 2, 3, 4, 5, 6] rfl rfl)
      ·clear h1010
       rintro ⟨⟩
       refine At.be ?_
       have hr := Option.some.inj hF
       subst r
       exact At.fin .nil fun m' hm => ⟨(), (Turn.picks [0, 1, 2, 3, 4, 5] rfl rfl) m' hm⟩
     ·clear h1013
      rintro ⟨⟩
      change At _ .normal _ _ _
      refine At.bn <| At.tn <| Wk.seq <| Wk.seq <| Wk.region <| Wo.od (o_ld (k := 4) t28 rfl rfl rfl) rfl ?_
      refine Wo.od (o_mv rfl) rfl ?_
      refine Wo.od (o_bi rfl rfl (ub_eql _ _)) rfl ?_
      refine Wo.nil <| At.tn ?_
      rcases br_some hF with ⟨h1014, hF⟩ | ⟨h1014, hF⟩
      ·refine Wk.condT rfl h1014 ?_
       refine Wk.exit <| At.te <| At.bx rfl ?_
       cases hF
       exact At.en () rfl (sc rfl (sc rfl (sc rfl (sc rfl (sc rfl sn))))) (Turn.picks [0, 1, 2, 3] rfl rfl)
      ·refine Wk.condF rfl h1014 ?_
       refine Wk.skip <| At.tn <| Wk.region <| Wo.od (o_ld (k := 4) t28 rfl rfl rfl) rfl ?_
       refine Wo.od (o_as rfl) rfl ?_
       refine Wo.nil <| At.bn ?_
       cases hF
       exact At.en () rfl (sc rfl (sc rfl (sc rfl (sc rfl (sc rfl sn))))) (Turn.picks [0, 1, 2, 3] rfl rfl)
   ·clear h1015
    rintro ⟨⟩
    refine At.be <| At.tn <| Wk.seq <| Wk.region <| Wo.od (o_mv rfl) rfl ?_
    refine Wo.od (o_mv rfl) rfl ?_
    refine Wo.x (o_bs (es := ([v853] : List (Nat)).map (eN .u64)) s36 rfl (bs_c s36 z28 rfl rfl) rfl rfl) gn rfl fun b1017 => ?_
    obtain ⟨h1018, hF⟩ := gd_some hF
    refine Wo.x (o_apl (k := 4) (k2 := 0) (xs := (l348 : List (Nat))) (ys := ([v853] : List (Nat))) (enN .u64) s36 ⟨_, u36⟩ rfl rfl rfl (.arr _ _ _ _ _) h1018) gn rfl fun a1019 => ?_
    refine Wo.od (o_as rfl) rfl ?_
    refine Wo.nil <| At.tn <| Wk.region <| Wo.od (o_mv rfl) rfl ?_
    refine Wo.od (o_mv rfl) rfl ?_
    refine Wo.od (o_bi rfl rfl (ub_andn rfl _ _)) rfl ?_
    refine Wo.od (o_as rfl) rfl ?_
    refine Wo.nil <| At.bn ?_
    cases hF
    exact At.en a1019 rfl (sc rfl (sc rfl (sc rfl (sc rfl sn)))) (Turn.picks [1, 2, 3, 4] rfl rfl)
  ·refine Wk.condF rfl h688 ?_
   refine Wk.exit <| At.te ?_
   cases hF
   exact At.en a349 rfl (sc rfl sn) (Turn.picks [3] rfl rfl)
 ·clear h1020
  rintro a687
  refine At.be <| At.tn <| Wk.seq <| Wk.region <| Wo.od (o_mv rfl) rfl ?_
  refine Wo.od (o_as rfl) rfl ?_
  refine Wo.nil <| At.tn <| Wk.ret ?_
  have hr := Option.some.inj hF
  subst r
  exact At.ret (.tmp rfl .nil) fun m' hm => ⟨(a687, l686.length), rfl, (Turn.picks [0] rfl rfl) m' hm⟩

theorem f17_ok (n : Nat) (x1 : Int) (l2 : List (Int × Int)) (x6 : Nat) (a3 : Option Addr) (c4 : Nat) (r : List Nat × Int) (hF : F17 n x1 l2 x6 = some r) (m : AMem) (hG : Gl m) (h5 : Rd m a3 c4 2 l2.length (l2.map (eP (eI .i64) (eI .i64)))) :
  CallA E18w 17 [.agg #[.int .i64 x1, .slice a3 l2.length c4], .int .u64 ((x6 : Nat) : Int)] m (fun v m' => ∃ x : Option Addr × Nat, v = .tuple #[.slice x.1 x.2 x.2, .int .i64 r.2] ∧ Hp m m' [.sl x.1 1 x.2 (r.1.map (eN .u64))]) := by
 unfold F17 at hF
 refine call_wk (m0 := m) (ps := [.rd a3 c4 2 l2.length (l2.map (eP (eI .i64) (eI .i64)))]) (N := 16) (rs := [.tmp 4, .tmp 5]) rfl Tryd.func17 rfl rfl rfl ((Hp.start m).inn rfl h5) ?_
 refine Wk.seq <| Wk.region <| Wo.x (o_bx rfl) gn rfl fun b7 => ?_
 refine Wo.od (o_as rfl) rfl ?_
 refine Wo.od (o_as rfl) rfl ?_
 refine Wo.nil <| At.tn <| Wk.seq <| Wk.seq <| Wk.region <| Wo.od (o_ld (k := 0) t25 rfl rfl rfl) rfl ?_
 refine Wo.od (o_mv rfl) rfl ?_
 obtain ⟨r9, h8, hF⟩ := ob_some hF
 refine Wo.x (o_cl rfl rfl (fun m hm => f55_ok n x1 l2 x6 a3 c4 _ h8 m (hm.rd (k := 1) rfl (.rd _ _ _ _ _))) fun _ => rfl) gn rfl ?_
 rintro ⟨⟩
 refine Wo.od (o_as rfl) rfl ?_
 refine Wo.nil <| At.tn <| Wk.seq <| Wk.region <| Wo.od (o_mv rfl) rfl ?_
 refine Wo.od (o_bi rfl rfl (ib_neq _ _)) rfl ?_
 refine Wo.nil <| At.tn ?_
 rcases br_some hF with ⟨h10, hF⟩ | ⟨h10, hF⟩
 ·refine Wk.condT rfl h10 ?_
  refine Wk.seq <| Wk.region <| Wo.od (o_mv rfl) rfl ?_
  refine Wo.od (o_as rfl) rfl ?_
  refine Wo.od (o_as rfl) rfl ?_
  refine Wo.nil <| At.tn <| Wk.ret <| At.tr ?_
  cases hF
  exact At.ret (.tmp rfl (.tmp rfl .nil)) fun m' hm => ⟨(none, 0), rfl, (Turn.trans (Turn.nil 1 rfl) (Turn.picks [0] rfl rfl)) m' hm⟩
 ·refine Wk.condF rfl h10 ?_
  refine Wk.skip <| At.tn <| Wk.seq <| Wk.region <| Wo.od (o_ld (k := 0) t25 rfl rfl rfl) rfl ?_
  refine Wo.od (o_mv rfl) rfl ?_
  obtain ⟨l12, h11, hF⟩ := ob_some hF
  refine Wo.x (o_cl rfl rfl (fun m hm => f58_ok n x1 l2 x6 a3 c4 _ h11 m (hG.ext hm.ext) (hm.rd (k := 1) rfl (.rd _ _ _ _ _))) fun _ => rfl) gn rfl ?_
  rintro ⟨a13, n14⟩
  refine Wo.len (k := 0) (xs := l12) rfl ?_
  rintro rfl
  refine Wo.od (o_as rfl) rfl ?_
  refine Wo.od (o_as rfl) rfl ?_
  refine Wo.nil <| At.tn <| Wk.ret ?_
  cases hF
  exact At.ret (.tmp rfl (.tmp rfl .nil)) fun m' hm => ⟨(a13, l12.length), rfl, (Turn.picks [0] rfl rfl) m' hm⟩

theorem f74_ok (n : Nat) (l1 : List (Nat)) (x5 : Nat) (a2 : Option Addr) (c3 : Nat) (r : Int) (hF : F74 n l1 x5 = some r) (m : AMem) (h4 : Rd m a2 c3 1 l1.length (l1.map (eN .u64))) :
  CallA E18w 74 [.slice a2 l1.length c3, .int .u64 ((x5 : Nat) : Int)] m (fun v m' => ∃ x : Unit, v = .int .i64 r ∧ Hp m m' []) := by
 unfold F74 at hF
 refine call_wk (m0 := m) (ps := [.rd a2 c3 1 l1.length (l1.map (eN .u64))]) (N := 19) (rs := [.tmp 4]) rfl Tryd.func74 rfl rfl rfl ((Hp.start m).inn rfl h4) ?_
 refine Wk.seq <| Wk.region <| Wo.od (o_as rfl) rfl ?_
 refine Wo.nil <| At.tn <| Wk.seq <| Wk.seq <| Wk.region <| Wo.od (o_mv rfl) rfl ?_
 refine Wo.od (o_ln (k := 0) u36 rfl rfl (.inl rfl)) rfl ?_
 refine Wo.od (o_mv rfl) rfl ?_
 refine Wo.nil <| At.tn <| Wk.block ?_
 obtain ⟨r25, h24, hF⟩ := ob_some hF
 refine Wk.cut (G := (fun (r : (Int) ⊕ (Unit)) (g : Unit) => match r, g with | .inl v16, _ => ⟨.ret, [(4, .int .i64 v16)], []⟩ | .inr _, _ => ⟨(.exit 0), [], []⟩) r25) ?_ ?_
 ·refine Wk.weak (fs' := [(0, .slice a2 l1.length c3), (1, .int .u64 ((x5 : Nat) : Int)), (7, .int .i64 (l1.length : Int)), (8, .int .i64 0)]) (ps' := [.rd a2 c3 1 l1.length (l1.map (eN .u64))]) (sc rfl (sc rfl (sc rfl (sc rfl sn)))) (Turn.picks [0] rfl rfl) ?_
  refine Wk.loop (σ := Int) (ρ := (Int) ⊕ (Unit)) (γ := Unit) (δ := fun _ => Unit) _ (fun (s : Int) (g : Unit) => match s, g with | v7, _ => ⟨.normal, [(0, .slice a2 l1.length c3), (1, .int .u64 ((x5 : Nat) : Int)), (7, .int .i64 (l1.length : Int)), (8, .int .i64 v7)], [.rd a2 c3 1 l1.length (l1.map (eN .u64))]⟩) (fun (r : (Int) ⊕ (Unit)) (g : Unit) => match r, g with | .inl v16, _ => ⟨.ret, [(4, .int .i64 v16)], []⟩ | .inr _, _ => ⟨(.exit 0), [], []⟩) ?_ (fun _ _ => rfl) (fun r d => by rcases r with _ | _ <;> (intro e; cases e)) _ _ _ h24 ()
  clear hF h24
  rintro v7 ⟨⟩ r hF
  unfold L74_1 at hF
  refine Wk.seq <| Wk.region <| Wo.od (o_bi rfl rfl (bin_lss _ _ _)) rfl ?_
  refine Wo.nil <| At.tn <| Wk.seq ?_
  rcases br_some hF with ⟨h17, hF⟩ | ⟨h17, hF⟩
  ·refine Wk.condT rfl h17 ?_
   refine Wk.skip <| At.tn <| Wk.seq <| Wk.block <| Wk.seq <| Wk.region <| Wo.od (o_mv rfl) rfl ?_
   refine Wo.od (o_as rfl) rfl ?_
   refine Wo.nil <| At.tn <| Wk.seq <| Wk.region <| Wo.od (o_mv rfl) rfl ?_
   refine Wo.od (o_mv rfl) rfl ?_
   refine Wo.od (o_mv rfl) rfl ?_
   obtain ⟨h18, hF⟩ := gd_some hF
   replace h18 := inB_some h18
   refine Wo.openr (k := 0) rfl (pos_of h18) ?_
   rintro b19 o20 rfl
   refine Wo.og (o_ixs s36 rfl rfl h18) gn rfl ?_
   obtain ⟨x21, h22, hF⟩ := ob_some hF
   refine Wo.od (o_ldr (k := 0) t28 rfl rfl (map_at h22) rfl rfl) rfl ?_
   refine Wo.od (o_bi rfl rfl (ub_eql _ _)) rfl ?_
   refine Wo.nil <| At.tn ?_
   rcases br_some hF with ⟨h23, hF⟩ | ⟨h23, hF⟩
   ·refine Wk.condT rfl h23 ?_
    refine Wk.seq <| Wk.region <| Wo.od (o_mv rfl) rfl ?_
    refine Wo.od (o_as rfl) rfl ?_
    refine Wo.nil <| At.tn <| Wk.ret <| At.br <| At.tr ?_
    cases hF
    exact At.en () rfl (sc rfl sn) (Turn.picks [] rfl rfl)
   ·refine Wk.condF rfl h23 ?_
    refine Wk.skip <| At.bn <| At.tn <| Wk.region <| Wo.od (o_bi rfl rfl (bin_add _ _ _)) rfl ?_
    refine Wo.od (o_mv rfl) rfl ?_
    refine Wo.nil ?_
    cases hF
    exact At.en () rfl (sc rfl (sc rfl (sc rfl (sc rfl sn)))) (Turn.picks [1] rfl rfl)
  ·refine Wk.condF rfl h17 ?_
   refine Wk.exit <| At.te ?_
   cases hF
   exact At.en () rfl sn (Turn.picks [] rfl rfl)
 ·clear h24
  rcases r25 with v16 | _
  ·rintro ⟨⟩
   refine At.br <| At.tr ?_
   have hr := Option.some.inj hF
   subst r
   exact At.ret (.tmp rfl .nil) fun m' hm => ⟨(), rfl, (Turn.picks [] rfl rfl) m' hm⟩
  ·rintro ⟨⟩
   refine At.be <| At.tn <| Wk.seq <| Wk.region <| Wo.od (o_as rfl) rfl ?_
   refine Wo.nil <| At.tn <| Wk.ret ?_
   cases hF
   exact At.ret (.tmp rfl .nil) fun m' hm => ⟨(), rfl, (Turn.picks [] rfl rfl) m' hm⟩

theorem f50_ok (n : Nat) (l1 : List (Nat)) (x5 : Nat) (a2 : Option Addr) (c3 : Nat) (r : Bool) (hF : F50 n l1 x5 = some r) (m : AMem) (h4 : Rd m a2 c3 1 l1.length (l1.map (eN .u64))) :
  CallA E18w 50 [.slice a2 l1.length c3, .int .u64 ((x5 : Nat) : Int)] m (fun v m' => ∃ x : Unit, v = .bool r ∧ Hp m m' []) := by
 unfold F50 at hF
 refine call_wk (m0 := m) (ps := [.rd a2 c3 1 l1.length (l1.map (eN .u64))]) (N := 9) (rs := [.tmp 4]) rfl Tryd.func50 rfl rfl rfl ((Hp.start m).inn rfl h4) ?_
 refine Wk.seq <| Wk.region <| Wo.od (o_as rfl) rfl ?_
 refine Wo.nil <| At.tn <| Wk.seq <| Wk.region <| Wo.od (o_mv rfl) rfl ?_
 refine Wo.od (o_mv rfl) rfl ?_
 obtain ⟨r7, h6, hF⟩ := ob_some hF
 refine Wo.x (o_cl rfl rfl (fun m hm => f74_ok n l1 x5 a2 c3 _ h6 m (hm.rd (k := 0) rfl (.rd _ _ _ _ _))) fun _ => rfl) gn rfl ?_
 rintro ⟨⟩
 refine Wo.od (o_bi rfl rfl (bin_geq _ _ _)) rfl ?_
 refine Wo.od (o_as rfl) rfl ?_
 refine Wo.nil <| At.tn <| Wk.ret ?_
 cases hF
 exact At.ret (.tmp rfl .nil) fun m' hm => ⟨(), rfl, (Turn.picks [] rfl rfl) m' hm⟩

theorem f11_ok (n : Nat) (x1 : Nat) (x2 : Nat) (x3 : Nat) (l4 : List (Nat × Nat)) (x8 : Nat) (x9 : Nat) (x10 : Int) (x11 : Int) (x12 : Int) (x13 : Nat) (x14 : Nat) (x15 : Int) (x16 : Int) (x17 : Int) (x18 : Nat) (x19 : Nat) (a5 : Option Addr) (c6 : Nat) (r : Bool) (hF : F11 n x1 x2 x3 l4 x8 x9 x10 x11 x12 x13 x14 x15 x16 x17 x18 x19 = some r) (m : AMem) (hG : Gl m) (h7 : Rd m a5 c6 2 l4.length (l4.map (eP (eN .u8) (eN .u8)))) :
  CallA E18w 11 [.agg #[.int .u8 ((x1 : Nat) : Int), .int .u8 ((x2 : Nat) : Int), .int .u16 ((x3 : Nat) : Int), .slice a5 l4.length c6], .agg #[.int .u8 ((x8 : Nat) : Int), .int .u8 ((x9 : Nat) : Int), .int .i64 x10, .int .i64 x11, .int .i64 x12, .int .u8 ((x13 : Nat) : Int), .int .u8 ((x14 : Nat) : Int), .int .i64 x15, .int .i64 x16, .int .i64 x17], .int .u64 ((x18 : Nat) : Int), .int .u8 ((x19 : Nat) : Int)] m (fun v m' => ∃ x : Unit, v = .bool r ∧ Hp m m' []) := by
 unfold F11 at hF
 refine call_wk (m0 := m) (ps := [.rd a5 c6 2 l4.length (l4.map (eP (eN .u8) (eN .u8)))]) (N := 246) (rs := [.tmp 8]) rfl Tryd.func11 rfl rfl rfl ((Hp.start m).inn rfl h7) ?_
 refine Wk.seq <| Wk.region <| Wo.x (o_bx rfl) gn rfl fun b20 => ?_
 refine Wo.x (o_bx rfl) gn rfl fun b21 => ?_
 refine Wo.od (o_as rfl) rfl ?_
 refine Wo.nil <| At.tn <| Wk.seq <| Wk.seq <| Wk.region ?_
 obtain ⟨r23, h22, hF⟩ := ob_some hF
 refine Wo.x (o_cl rfl rfl (fun m hm => f13_ok n   _ h22 m (hG.ext hm.ext) ) fun _ => rfl) gn rfl ?_
 rintro ⟨⟩
 refine Wo.od (o_un rfl rfl) rfl ?_
 refine Wo.nil <| At.tn ?_
 rcases br_some hF with ⟨h24, hF⟩ | ⟨h24, hF⟩
 ·refine Wk.condT rfl h24 ?_
  refine Wk.seq <| Wk.region <| Wo.od (o_as rfl) rfl ?_
  refine Wo.nil <| At.tn <| Wk.ret <| At.tr ?_
  cases hF
  exact At.ret (.tmp rfl .nil) fun m' hm => ⟨(), rfl, (Turn.picks [] rfl rfl) m' hm⟩
 ·refine Wk.condF rfl h24 ?_
  refine Wk.skip <| At.tn <| Wk.seq <| Wk.seq <| Wk.region <| Wo.od (o_ld (k := 1) t55 rfl rfl rfl) rfl ?_
  refine Wo.od (o_ld (k := 0) t58 rfl rfl rfl) rfl ?_
  obtain ⟨l25, h26, hF⟩ := ob_some hF
  refine Wo.gs rfl rfl (fun m hm => f41_ok n x1 x2 x3 l4 x8 x9 x10 x11 x12 x13 x14 x15 x16 x17 a5 c6 _ h26 m (hm.rd (k := 2) rfl (.rd _ _ _ _ _))) rfl ?_
  intro m28 a27 h29 h30
  have hG := hG.ext h29
  refine Wo.od (o_lng u27 rfl h30) rfl ?_
  refine Wo.od (o_mv rfl) rfl ?_
  refine Wo.nil <| At.tn <| Wk.block ?_
  obtain ⟨r5137, h5136, hF⟩ := ob_some hF
  refine Wk.cut (G := (fun (r : (Unit) ⊕ (Unit)) (g : Unit) => match r, g with | .inl _, _ => ⟨.ret, [(8, .bool false)], []⟩ | .inr _, _ => ⟨(.exit 0), [], []⟩) r5137) ?_ ?_
  ·refine Wk.weak (fs' := [(2, .int .u64 ((x18 : Nat) : Int)), (3, .int .u8 ((x19 : Nat) : Int)), (32, .slice a27 l25.length l25.length), (33, .int .i64 (l25.length : Int)), (34, .int .i64 0)]) (ps' := []) (sc rfl (sc rfl (sc rfl (sc rfl (sc rfl sn))))) (Turn.picks [] rfl rfl) ?_
   refine Wk.loop (σ := Int) (ρ := (Unit) ⊕ (Unit)) (γ := Unit) (δ := fun _ => Unit) _ (fun (s : Int) (g : Unit) => match s, g with | v32, _ => ⟨.normal, [(2, .int .u64 ((x18 : Nat) : Int)), (3, .int .u8 ((x19 : Nat) : Int)), (32, .slice a27 l25.length l25.length), (33, .int .i64 (l25.length : Int)), (34, .int .i64 v32)], []⟩) (fun (r : (Unit) ⊕ (Unit)) (g : Unit) => match r, g with | .inl _, _ => ⟨.ret, [(8, .bool false)], []⟩ | .inr _, _ => ⟨(.exit 0), [], []⟩) ?_ (fun _ _ => rfl) (fun r d => by rcases r with _ | _ <;> (intro e; cases e)) _ _ _ h5136 ()
   clear hF h5136
   rintro v32 ⟨⟩ r hF
   unfold L11_3 at hF
   refine Wk.seq <| Wk.region <| Wo.od (o_bi rfl rfl (bin_lss _ _ _)) rfl ?_
   refine Wo.nil <| At.tn <| Wk.seq ?_
   rcases br_some hF with ⟨h2515, hF⟩ | ⟨h2515, hF⟩
   ·refine Wk.condT rfl h2515 ?_
    refine Wk.skip <| At.tn <| Wk.seq <| Wk.block <| Wk.seq <| Wk.region ?_
    obtain ⟨h3826, hF⟩ := gd_some hF
    replace h3826 := inB_some h3826
    refine Wo.og (o_ixg s27 rfl rfl h30 h3826) gn rfl ?_
    obtain ⟨⟨x3827, l3828⟩, h3829, hF⟩ := ob_some hF
    refine Wo.x (o_ldg t25 rfl h30 h3829) gn rfl ?_
    rintro ⟨a3830, c3831⟩
    refine Wo.x (o_al z25 rfl) gn rfl fun b3832 => ?_
    refine Wo.o0 (o_st (k := 0) t25 rfl rfl rfl rfl rfl) ?_
    refine Wo.nil <| At.tn <| Wk.seq <| Wk.region <| Wo.od (o_mv rfl) rfl ?_
    refine Wo.od (o_cv rfl (cv_i (by rw [u5]; rfl) u3)) rfl ?_
    refine Wo.od (o_fa (r := ptr b3832 0) rfl (fa25_0 _ _)) rfl ?_
    refine Wo.od (o_ld (k := 0) t3 rfl rfl rfl) rfl ?_
    obtain ⟨h3833, hF⟩ := gd_some hF
    refine Wo.od (o_bi rfl rfl (ib_rem _ _ h3833)) rfl ?_
    refine Wo.od (o_as rfl) rfl ?_
    refine Wo.nil <| At.tn <| Wk.seq <| Wk.draw (by kernel_rfl) ?_
    refine Wo.od (o_mv rfl) rfl ?_
    refine Wo.od (o_fa (r := ptr b3832 0) rfl (fa25_0 _ _)) rfl ?_
    refine Wo.od (o_ld (k := 0) t3 rfl rfl rfl) rfl ?_
    obtain ⟨h3834, hF⟩ := gd_some hF
    refine Wo.od (o_bi rfl rfl (ub_shl rfl _ _ h3834)) rfl ?_
    refine Wo.od (o_bi rfl rfl (ub_sub rfl _ _)) rfl ?_
    obtain ⟨y3835, h3836, hF⟩ := ob_some hF
    refine Wo.od (o_bi rfl rfl ((ub_and rfl _ _).trans (cN h3836))) rfl ?_
    refine Wo.od (o_mv rfl) rfl ?_
    obtain ⟨h3837, hF⟩ := gd_some hF
    obtain ⟨y3838, h3839, hF⟩ := ob_some hF
    refine Wo.od (o_bi rfl rfl ((ub_shl rfl _ _ h3837).trans (cN h3839))) rfl ?_
    refine Wo.od (o_bi rfl rfl (ub_or rfl _ _)) rfl ?_
    refine Wo.od (o_as rfl) rfl ?_
    refine Wo.nil <| At.tn <| Wk.seq <| Wk.region <| Wo.od (o_ld (k := 0) t25 rfl rfl rfl) rfl ?_
    refine Wo.od (o_mv rfl) rfl ?_
    refine Wo.od (o_mv rfl) rfl ?_
    obtain ⟨⟨l3841, r3844⟩, h3840, hF⟩ := ob_some hF
    refine Wo.x (o_cl rfl rfl (fun m hm => f20_ok n x3827 l3828 (uw .u64 (uw .u64 y3835 ||| uw .u64 y3838)) (Int.tmod (IntKind.wrap .i64 ((x19 : Nat) : Int)) x3827) a3830 c3831 _ h3840 m (hG.ext hm.ext) (hm.rd (k := 1) rfl (.rd _ _ _ _ _))) fun _ => rfl) gn rfl ?_
    rintro ⟨a3842, n3843⟩
    refine Wo.len (k := 0) (xs := l3841) rfl ?_
    rintro rfl
    refine Wo.od (o_mv rfl) rfl ?_
    refine Wo.od (o_ex rfl rfl) rfl ?_
    refine Wo.od (o_ex rfl rfl) rfl ?_
    refine Wo.od (o_as rfl) rfl ?_
    refine Wo.od (o_as rfl) rfl ?_
    refine Wo.nil <| At.tn <| Wk.seq <| Wk.seq ?_
    obtain ⟨v3852, h3854, hF⟩ := ob_some hF
    refine Wk.cut (G := (fun (r : Bool) (g : Unit) => match r, g with | v3852, _ => ⟨.normal, [(2, .int .u64 ((x18 : Nat) : Int)), (3, .int .u8 ((x19 : Nat) : Int)), (10, ptr b3832 0), (11, .int .i64 (Int.tmod (IntKind.wrap .i64 ((x19 : Nat) : Int)) x3827)), (12, .int .u64 ((uw .u64 (uw .u64 y3835 ||| uw .u64 y3838) : Nat) : Int)), (13, .slice a3842 l3841.length l3841.length), (32, .slice a27 l25.length l25.length), (33, .int .i64 (l25.length : Int)), (34, .int .i64 v32), (67, .bool v3852)], [.obj b3832 (.cells [.int .i64 x3827, .slice a3830 l3828.length c3831] .own), .rd a3830 c3831 2 l3828.length (l3828.map (eP (eI .i64) (eI .i64))), .sl a3842 1 l3841.length (l3841.map (eI .i64))]⟩) v3852) ?_ ?_
    ·clear hF
     revert v3852
     intro r hF
     refine Wk.region <| Wo.od (o_mv rfl) rfl ?_
     refine Wo.od (o_bi rfl rfl (ib_neq _ _)) rfl ?_
     refine Wo.od (o_mv rfl) rfl ?_
     rcases br_some hF with ⟨h3853, hF⟩ | ⟨h3853, hF⟩
     ·refine Wo.s (gg rfl rfl (eTF h3853)) rfl ?_
      refine Wo.s (gg rfl rfl (eTF h3853)) rfl ?_
      refine Wo.s (gg rfl rfl (eTF h3853)) rfl ?_
      refine Wo.s (gg rfl rfl (eTF h3853)) rfl ?_
      refine Wo.s (gg rfl rfl (eTF h3853)) rfl ?_
      refine Wo.od (o_pt rfl h3853 rfl) rfl ?_
      refine Wo.nil ?_
      cases hF
      exact At.en () rfl (sc rfl (sc rfl (sc rfl (sc rfl (sc rfl (sc rfl (sc rfl (sc rfl (sc rfl (sc rfl sn)))))))))) (Turn.picks [1, 2, 0] rfl rfl)
     ·refine Wo.og (o_mv rfl) (gg rfl rfl (eFF h3853)) rfl ?_
      refine Wo.og (o_ln (k := 0) u39 rfl rfl (.inl rfl)) (gg rfl rfl (eFF h3853)) rfl ?_
      refine Wo.og (o_fa (r := ptr b3832 0) rfl (fa25_0 _ _)) (gg rfl rfl (eFF h3853)) rfl ?_
      refine Wo.og (o_ld (k := 1) t3 rfl rfl rfl) (gg rfl rfl (eFF h3853)) rfl ?_
      refine Wo.og (o_bi rfl rfl (ib_neq _ _)) (gg rfl rfl (eFF h3853)) rfl ?_
      refine Wo.od (o_pf rfl h3853 rfl) rfl ?_
      refine Wo.nil ?_
      cases hF
      exact At.en () rfl (sc rfl (sc rfl (sc rfl (sc rfl (sc rfl (sc rfl (sc rfl (sc rfl (sc rfl (sc rfl sn)))))))))) (Turn.picks [1, 2, 0] rfl rfl)
    ·clear h3854
     rintro ⟨⟩
     refine At.tn ?_
     rcases br_some hF with ⟨h3856, hF⟩ | ⟨h3856, hF⟩
     ·refine Wk.condT rfl h3856 ?_
      refine Wk.seq <| Wk.region <| Wo.od (o_as rfl) rfl ?_
      refine Wo.nil <| At.tn <| Wk.ret <| At.tr <| At.br <| At.tr ?_
      cases hF
      exact At.en () rfl (sc rfl sn) (Turn.picks [] rfl rfl)
     ·refine Wk.condF rfl h3856 ?_
      refine Wk.skip <| At.tn <| Wk.seq <| Wk.region <| Wo.od (o_fa (r := ptr b3832 0) rfl (fa25_0 _ _)) rfl ?_
      refine Wo.od (o_ld (k := 0) t3 rfl rfl rfl) rfl ?_
      obtain ⟨h3857, hF⟩ := gd_some hF
      obtain ⟨h3858, hF⟩ := gd_some hF
      refine Wo.x (o_msl (f := eB) (z0 := false) s78 rfl h3857 h3858 z4 rfl rfl) gn rfl fun b3859 => ?_
      refine Wo.od (o_as rfl) rfl ?_
      refine Wo.nil <| At.tn <| Wk.seq <| Wk.seq <| Wk.region <| Wo.od (o_fa (r := ptr b3832 1) rfl (fa25_1 _ _)) rfl ?_
      refine Wo.od (o_ld (k := 1) t23 rfl rfl rfl) rfl ?_
      refine Wo.od (o_ln (k := 2) u23 rfl rfl (.inl rfl)) rfl ?_
      refine Wo.od (o_mv rfl) rfl ?_
      refine Wo.nil <| At.tn <| Wk.block ?_
      obtain ⟨r4894, h4893, hF⟩ := ob_some hF
      refine Wk.cut (G := (fun (r : (Unit) ⊕ (List (Bool))) (g : Unit) => match r, g with | .inl _, _ => ⟨.ret, [(8, .bool false)], []⟩ | .inr l4550, _ => ⟨(.exit 2), [(2, .int .u64 ((x18 : Nat) : Int)), (3, .int .u8 ((x19 : Nat) : Int)), (10, ptr b3832 0), (11, .int .i64 (Int.tmod (IntKind.wrap .i64 ((x19 : Nat) : Int)) x3827)), (12, .int .u64 ((uw .u64 (uw .u64 y3835 ||| uw .u64 y3838) : Nat) : Int)), (13, .slice a3842 l3841.length l3841.length), (15, .slice (some ⟨b3859, 0, none⟩) x3827.toNat x3827.toNat), (32, .slice a27 l25.length l25.length), (33, .int .i64 (l25.length : Int)), (34, .int .i64 v32)], [.obj b3832 (.cells [.int .i64 x3827, .slice a3830 l3828.length c3831] .own), .rd a3830 c3831 2 l3828.length (l3828.map (eP (eI .i64) (eI .i64))), .sl a3842 1 l3841.length (l3841.map (eI .i64)), .arr b3859 1 x3827.toNat (l4550.map (eB)) .own]⟩) r4894) ?_ ?_
      ·refine Wk.weak (fs' := [(2, .int .u64 ((x18 : Nat) : Int)), (3, .int .u8 ((x19 : Nat) : Int)), (10, ptr b3832 0), (11, .int .i64 (Int.tmod (IntKind.wrap .i64 ((x19 : Nat) : Int)) x3827)), (12, .int .u64 ((uw .u64 (uw .u64 y3835 ||| uw .u64 y3838) : Nat) : Int)), (13, .slice a3842 l3841.length l3841.length), (15, .slice (some ⟨b3859, 0, none⟩) x3827.toNat x3827.toNat), (32, .slice a27 l25.length l25.length), (33, .int .i64 (l25.length : Int)), (34, .int .i64 v32), (72, .slice a3830 l3828.length c3831), (73, .int .i64 (l3828.length : Int)), (74, .int .i64 0)]) (ps' := [.obj b3832 (.cells [.int .i64 x3827, .slice a3830 l3828.length c3831] .own), .rd a3830 c3831 2 l3828.length (l3828.map (eP (eI .i64) (eI .i64))), .sl a3842 1 l3841.length (l3841.map (eI .i64)), .arr b3859 1 x3827.toNat ((List.replicate x3827.toNat false).map (eB)) .own]) (sc rfl (sc rfl (sc rfl (sc rfl (sc rfl (sc rfl (sc rfl (sc rfl (sc rfl (sc rfl (sc rfl (sc rfl (sc rfl sn))))))))))))) (Turn.picks [1, 2, 3, 0] rfl rfl) ?_
       refine Wk.loop (σ := List (Bool) × Int) (ρ := (Unit) ⊕ (List (Bool))) (γ := Unit) (δ := fun _ => Unit) _ (fun (s : List (Bool) × Int) (g : Unit) => match s, g with | (l4204, v4205), _ => ⟨.normal, [(2, .int .u64 ((x18 : Nat) : Int)), (3, .int .u8 ((x19 : Nat) : Int)), (10, ptr b3832 0), (11, .int .i64 (Int.tmod (IntKind.wrap .i64 ((x19 : Nat) : Int)) x3827)), (12, .int .u64 ((uw .u64 (uw .u64 y3835 ||| uw .u64 y3838) : Nat) : Int)), (13, .slice a3842 l3841.length l3841.length), (15, .slice (some ⟨b3859, 0, none⟩) x3827.toNat x3827.toNat), (32, .slice a27 l25.length l25.length), (33, .int .i64 (l25.length : Int)), (34, .int .i64 v32), (72, .slice a3830 l3828.length c3831), (73, .int .i64 (l3828.length : Int)), (74, .int .i64 v4205)], [.obj b3832 (.cells [.int .i64 x3827, .slice a3830 l3828.length c3831] .own), .rd a3830 c3831 2 l3828.length (l3828.map (eP (eI .i64) (eI .i64))), .sl a3842 1 l3841.length (l3841.map (eI .i64)), .arr b3859 1 x3827.toNat (l4204.map (eB)) .own]⟩) (fun (r : (Unit) ⊕ (List (Bool))) (g : Unit) => match r, g with | .inl _, _ => ⟨.ret, [(8, .bool false)], []⟩ | .inr l4550, _ => ⟨(.exit 2), [(2, .int .u64 ((x18 : Nat) : Int)), (3, .int .u8 ((x19 : Nat) : Int)), (10, ptr b3832 0), (11, .int .i64 (Int.tmod (IntKind.wrap .i64 ((x19 : Nat) : Int)) x3827)), (12, .int .u64 ((uw .u64 (uw .u64 y3835 ||| uw .u64 y3838) : Nat) : Int)), (13, .slice a3842 l3841.length l3841.length), (15, .slice (some ⟨b3859, 0, none⟩) x3827.toNat x3827.toNat), (32, .slice a27 l25.length l25.length), (33, .int .i64 (l25.length : Int)), (34, .int .i64 v32)], [.obj b3832 (.cells [.int .i64 x3827, .slice a3830 l3828.length c3831] .own), .rd a3830 c3831 2 l3828.length (l3828.map (eP (eI .i64) (eI .i64))), .sl a3842 1 l3841.length (l3841.map (eI .i64)), .arr b3859 1 x3827.toNat (l4550.map (eB)) .own]⟩) ?_ (fun _ _ => rfl) (fun r d => by rcases r with _ | _ <;> (intro e; cases e)) _ _ _ h4893 ()
       clear hF h4893
       rintro ⟨l4204, v4205⟩ ⟨⟩ r hF
       unfold L11_1 at hF
       refine Wk.seq <| Wk.region <| Wo.od (o_bi rfl rfl (bin_lss _ _ _)) rfl ?_
       refine Wo.nil <| At.tn <| Wk.seq ?_
       rcases br_some hF with ⟨h4551, hF⟩ | ⟨h4551, hF⟩
       ·refine Wk.condT rfl h4551 ?_
        refine Wk.skip <| At.tn <| Wk.seq ?_
        obtain ⟨r4892, h4891, hF⟩ := ob_some hF
        refine Wk.cut (G := (fun (r : (List (Bool)) ⊕ (Unit)) (g : Unit) => match r, g with | .inl l4721, _ => ⟨.normal, [(2, .int .u64 ((x18 : Nat) : Int)), (3, .int .u8 ((x19 : Nat) : Int)), (10, ptr b3832 0), (11, .int .i64 (Int.tmod (IntKind.wrap .i64 ((x19 : Nat) : Int)) x3827)), (12, .int .u64 ((uw .u64 (uw .u64 y3835 ||| uw .u64 y3838) : Nat) : Int)), (13, .slice a3842 l3841.length l3841.length), (15, .slice (some ⟨b3859, 0, none⟩) x3827.toNat x3827.toNat), (32, .slice a27 l25.length l25.length), (33, .int .i64 (l25.length : Int)), (34, .int .i64 v32), (72, .slice a3830 l3828.length c3831), (73, .int .i64 (l3828.length : Int)), (74, .int .i64 v4205)], [.obj b3832 (.cells [.int .i64 x3827, .slice a3830 l3828.length c3831] .own), .rd a3830 c3831 2 l3828.length (l3828.map (eP (eI .i64) (eI .i64))), .sl a3842 1 l3841.length (l3841.map (eI .i64)), .arr b3859 1 x3827.toNat (l4721.map (eB)) .own]⟩ | .inr _, _ => ⟨.ret, [(8, .bool false)], []⟩) r4892) ?_ ?_
        ·clear hF
         revert r4892
         intro r hF
         refine Wk.block <| Wk.seq <| Wk.region ?_
         obtain ⟨h4722, hF⟩ := gd_some hF
         replace h4722 := inB_some h4722
         refine Wo.openr (k := 1) rfl (pos_of h4722) ?_
         rintro b4723 o4724 rfl
         refine Wo.og (o_ixs s23 rfl rfl h4722) gn rfl ?_
         obtain ⟨⟨x4725, x4726⟩, h4727, hF⟩ := ob_some hF
         refine Wo.od (o_ldr (k := 0) t26 rfl rfl (map_at h4727) rfl rfl) rfl ?_
         refine Wo.x (o_al z26 rfl) gn rfl fun b4728 => ?_
         refine Wo.o0 (o_st (k := 0) t26 rfl rfl rfl rfl rfl) ?_
         refine Wo.nil <| At.tn <| Wk.seq <| Wk.draw (by kernel_rfl) ?_
         refine Wo.od (o_ia (r := ptr b4728 0) rfl rfl (ia_c ar26 (i := 0) (by decide))) rfl ?_
         refine Wo.od (o_ld (k := 0) t3 rfl rfl rfl) rfl ?_
         refine Wo.od (o_ia (r := ptr b4728 1) rfl rfl (ia_c ar26 (i := 1) (by decide))) rfl ?_
         refine Wo.od (o_ld (k := 0) t3 rfl rfl rfl) rfl ?_
         refine Wo.od (o_as rfl) rfl ?_
         refine Wo.od (o_as rfl) rfl ?_
         refine Wo.nil <| At.tn <| Wk.seq <| Wk.seq ?_
         obtain ⟨v4754, h4762, hF⟩ := ob_some hF
         refine Wk.cut (G := (fun (r : Bool) (g : Unit) => match r, g with | v4754, _ => ⟨.normal, [(2, .int .u64 ((x18 : Nat) : Int)), (3, .int .u8 ((x19 : Nat) : Int)), (10, ptr b3832 0), (11, .int .i64 (Int.tmod (IntKind.wrap .i64 ((x19 : Nat) : Int)) x3827)), (12, .int .u64 ((uw .u64 (uw .u64 y3835 ||| uw .u64 y3838) : Nat) : Int)), (13, .slice a3842 l3841.length l3841.length), (15, .slice (some ⟨b3859, 0, none⟩) x3827.toNat x3827.toNat), (18, .int .i64 x4725), (19, .int .i64 x4726), (32, .slice a27 l25.length l25.length), (33, .int .i64 (l25.length : Int)), (34, .int .i64 v32), (72, .slice (some ⟨b4723, o4724, none⟩) l3828.length c3831), (73, .int .i64 (l3828.length : Int)), (74, .int .i64 v4205), (93, .bool v4754)], [.obj b3832 (.cells [.int .i64 x3827, .slice (some ⟨b4723, o4724, none⟩) l3828.length c3831] .own), .ro b4723 o4724 2 l3828.length (l3828.map (eP (eI .i64) (eI .i64))), .rd (some ⟨b4723, o4724, none⟩) c3831 2 l3828.length (l3828.map (eP (eI .i64) (eI .i64))), .sl a3842 1 l3841.length (l3841.map (eI .i64)), .arr b3859 1 x3827.toNat (l4204.map (eB)) .own]⟩) v4754) ?_ ?_
         ·clear hF
          revert v4754
          intro r hF
          refine Wk.region <| Wo.od (o_mv rfl) rfl ?_
          refine Wo.od (o_mv rfl) rfl ?_
          obtain ⟨h4755, hF⟩ := gd_some hF
          refine Wo.od (o_bi rfl rfl (ub_shr _ _ h4755)) rfl ?_
          obtain ⟨y4756, h4757, hF⟩ := ob_some hF
          refine Wo.od (o_bi rfl rfl ((ub_and rfl _ _).trans (cN h4757))) rfl ?_
          refine Wo.od (o_bi rfl rfl (ub_eql _ _)) rfl ?_
          refine Wo.od (o_mv rfl) rfl ?_
          rcases br_some hF with ⟨h4758, hF⟩ | ⟨h4758, hF⟩
          ·refine Wo.s (gg rfl rfl (eTF h4758)) rfl ?_
           refine Wo.s (gg rfl rfl (eTF h4758)) rfl ?_
           refine Wo.s (gg rfl rfl (eTF h4758)) rfl ?_
           refine Wo.s (gg rfl rfl (eTF h4758)) rfl ?_
           refine Wo.s (gg rfl rfl (eTF h4758)) rfl ?_
           refine Wo.od (o_pt rfl h4758 rfl) rfl ?_
           refine Wo.nil ?_
           cases hF
           exact At.en () rfl (sc rfl (sc rfl (sc rfl (sc rfl (sc rfl (sc rfl (sc rfl (sc rfl (sc rfl (sc rfl (sc rfl (sc rfl (sc rfl (sc rfl (sc rfl (sc rfl sn)))))))))))))))) (Turn.picks [2, 1, 3, 4, 5] rfl rfl)
          ·refine Wo.og (o_mv rfl) (gg rfl rfl (eFF h4758)) rfl ?_
           refine Wo.og (o_mv rfl) (gg rfl rfl (eFF h4758)) rfl ?_
           obtain ⟨h4759, hF⟩ := gd_some hF
           refine Wo.og (o_bi rfl rfl (ub_shr _ _ h4759)) (gg rfl rfl (eFF h4758)) rfl ?_
           obtain ⟨y4760, h4761, hF⟩ := ob_some hF
           refine Wo.og (o_bi rfl rfl ((ub_and rfl _ _).trans (cN h4761))) (gg rfl rfl (eFF h4758)) rfl ?_
           refine Wo.og (o_bi rfl rfl (ub_eql _ _)) (gg rfl rfl (eFF h4758)) rfl ?_
           refine Wo.od (o_pf rfl h4758 rfl) rfl ?_
           refine Wo.nil ?_
           cases hF
           exact At.en () rfl (sc rfl (sc rfl (sc rfl (sc rfl (sc rfl (sc rfl (sc rfl (sc rfl (sc rfl (sc rfl (sc rfl (sc rfl (sc rfl (sc rfl (sc rfl (sc rfl sn)))))))))))))))) (Turn.picks [2, 1, 3, 4, 5] rfl rfl)
         ·clear h4762
          rintro ⟨⟩
          refine At.tn ?_
          rcases br_some hF with ⟨h4764, hF⟩ | ⟨h4764, hF⟩
          ·refine Wk.condT rfl h4764 ?_
           refine Wk.exit <| At.te <| At.be ?_
           cases hF
           exact At.en () rfl (sc rfl (sc rfl (sc rfl (sc rfl (sc rfl (sc rfl (sc rfl (sc rfl (sc rfl (sc rfl (sc rfl (sc rfl (sc rfl sn))))))))))))) (Turn.picks [0, 2, 3, 4] rfl rfl)
          ·refine Wk.condF rfl h4764 ?_
           refine Wk.skip <| At.tn <| Wk.seq <| Wk.seq ?_
           obtain ⟨v4817, h4834, hF⟩ := ob_some hF
           refine Wk.cut (G := (fun (r : Bool) (g : Unit) => match r, g with | v4817, _ => ⟨.normal, [(2, .int .u64 ((x18 : Nat) : Int)), (3, .int .u8 ((x19 : Nat) : Int)), (10, ptr b3832 0), (11, .int .i64 (Int.tmod (IntKind.wrap .i64 ((x19 : Nat) : Int)) x3827)), (12, .int .u64 ((uw .u64 (uw .u64 y3835 ||| uw .u64 y3838) : Nat) : Int)), (13, .slice a3842 l3841.length l3841.length), (15, .slice (some ⟨b3859, 0, none⟩) x3827.toNat x3827.toNat), (18, .int .i64 x4725), (19, .int .i64 x4726), (32, .slice a27 l25.length l25.length), (33, .int .i64 (l25.length : Int)), (34, .int .i64 v32), (72, .slice (some ⟨b4723, o4724, none⟩) l3828.length c3831), (73, .int .i64 (l3828.length : Int)), (74, .int .i64 v4205), (126, .bool v4817)], [.obj b3832 (.cells [.int .i64 x3827, .slice (some ⟨b4723, o4724, none⟩) l3828.length c3831] .own), .ro b4723 o4724 2 l3828.length (l3828.map (eP (eI .i64) (eI .i64))), .rd (some ⟨b4723, o4724, none⟩) c3831 2 l3828.length (l3828.map (eP (eI .i64) (eI .i64))), .sl a3842 1 l3841.length (l3841.map (eI .i64)), .arr b3859 1 x3827.toNat (l4204.map (eB)) .own]⟩) v4817) ?_ ?_
           ·clear hF
            revert v4817
            intro r hF
            refine Wk.draw (by kernel_rfl) ?_
            refine Wo.od (o_mv rfl) rfl ?_
            refine Wo.od (o_mv rfl) rfl ?_
            obtain ⟨h4818, hF⟩ := gd_some hF
            replace h4818 := inB_some h4818
            refine Wo.open (k := 3) rfl (pos_of h4818) ?_
            rintro b4819 tg4820 rfl h4821
            refine Wo.og (o_ixa s39 rfl rfl h4818) gn rfl ?_
            obtain ⟨x4822, h4823, hF⟩ := ob_some hF
            refine Wo.od (o_lda (k := 3) t3 rfl rfl (map_at h4823) rfl rfl) rfl ?_
            refine Wo.od (o_bi rfl rfl (bin_lss _ _ _)) rfl ?_
            refine Wo.od (o_mv rfl) rfl ?_
            refine Wo.od (o_mv rfl) rfl ?_
            obtain ⟨h4824, hF⟩ := gd_some hF
            replace h4824 := inB_some h4824
            refine Wo.og (o_ixa s39 rfl rfl h4824) gn rfl ?_
            obtain ⟨x4825, h4826, hF⟩ := ob_some hF
            refine Wo.od (o_lda (k := 3) t3 rfl rfl (map_at h4826) rfl rfl) rfl ?_
            refine Wo.od (o_bi rfl rfl (bin_lss _ _ _)) rfl ?_
            refine Wo.od (o_bi rfl rfl (bb_ne u4)) rfl ?_
            refine Wo.od (o_mv rfl) rfl ?_
            rcases br_some hF with ⟨h4827, hF⟩ | ⟨h4827, hF⟩
            ·refine Wo.s (gg rfl rfl (eTF h4827)) rfl ?_
             refine Wo.s (gg rfl rfl (eTF h4827)) rfl ?_
             refine Wo.s (gg rfl rfl (eTF h4827)) rfl ?_
             refine Wo.s (gg rfl rfl (eTF h4827)) rfl ?_
             refine Wo.s (gg rfl rfl (eTF h4827)) rfl ?_
             refine Wo.s (gg rfl rfl (eTF h4827)) rfl ?_
             refine Wo.s (gg rfl rfl (eTF h4827)) rfl ?_
             refine Wo.s (gg rfl rfl (eTF h4827)) rfl ?_
             refine Wo.s (gg rfl rfl (eTF h4827)) rfl ?_
             refine Wo.s (gg rfl rfl (eTF h4827)) rfl ?_
             refine Wo.s (gg rfl rfl (eTF h4827)) rfl ?_
             refine Wo.s (gg rfl rfl (eTF h4827)) rfl ?_
             refine Wo.s (gg rfl rfl (eTF h4827)) rfl ?_
             refine Wo.s (gg rfl rfl (eTF h4827)) rfl ?_
             refine Wo.s (gg rfl rfl (eTF h4827)) rfl ?_
             refine Wo.s (gg rfl rfl (eTF h4827)) rfl ?_
             refine Wo.s (gg rfl rfl (eTF h4827)) rfl ?_
             refine Wo.s (gg rfl rfl (eTF h4827)) rfl ?_
             refine Wo.s (gg rfl rfl (eTF h4827)) rfl ?_
             refine Wo.s (gg rfl rfl (eTF h4827)) rfl ?_
             refine Wo.od (o_pt rfl h4827 rfl) rfl ?_
             refine Wo.nil ?_
             cases hF
             exact At.en () rfl (sc rfl (sc rfl (sc rfl (sc rfl (sc rfl (sc rfl (sc rfl (sc rfl (sc rfl (sc rfl (sc rfl (sc rfl (sc rfl (sc rfl (sc rfl (sc rfl sn)))))))))))))))) (Turn.trans (Turn.close (k := 3) rfl) (Turn.picks [0, 1, 2, 3, 4] rfl rfl))
            ·refine Wo.og (o_mv rfl) (gg rfl rfl (eFF h4827)) rfl ?_
             refine Wo.og (o_mv rfl) (gg rfl rfl (eFF h4827)) rfl ?_
             obtain ⟨h4828, hF⟩ := gd_some hF
             replace h4828 := inB_some h4828
             refine Wo.og (o_ixa s39 rfl rfl h4828) (gg rfl rfl (eFF h4827)) rfl ?_
             refine Wo.og (o_lda (k := 3) t3 rfl rfl (map_at h4823) rfl rfl) (gg rfl rfl (eFF h4827)) rfl ?_
             refine Wo.og (o_mv rfl) (gg rfl rfl (eFF h4827)) rfl ?_
             refine Wo.og (o_mv rfl) (gg rfl rfl (eFF h4827)) rfl ?_
             obtain ⟨h4829, hF⟩ := gd_some hF
             replace h4829 := inB_some h4829
             refine Wo.og (o_ixa s39 rfl rfl h4829) (gg rfl rfl (eFF h4827)) rfl ?_
             refine Wo.og (o_lda (k := 3) t3 rfl rfl (map_at h4826) rfl rfl) (gg rfl rfl (eFF h4827)) rfl ?_
             refine Wo.og (o_bi rfl rfl (bin_sub _ _ _)) (gg rfl rfl (eFF h4827)) rfl ?_
             refine Wo.og (o_mv rfl) (gg rfl rfl (eFF h4827)) rfl ?_
             refine Wo.og (o_mv rfl) (gg rfl rfl (eFF h4827)) rfl ?_
             obtain ⟨h4830, hF⟩ := gd_some hF
             replace h4830 := inB_some h4830
             refine Wo.og (o_ixa s39 rfl rfl h4830) (gg rfl rfl (eFF h4827)) rfl ?_
             refine Wo.og (o_lda (k := 3) t3 rfl rfl (map_at h4826) rfl rfl) (gg rfl rfl (eFF h4827)) rfl ?_
             refine Wo.og (o_mv rfl) (gg rfl rfl (eFF h4827)) rfl ?_
             refine Wo.og (o_mv rfl) (gg rfl rfl (eFF h4827)) rfl ?_
             obtain ⟨h4831, hF⟩ := gd_some hF
             replace h4831 := inB_some h4831
             refine Wo.og (o_ixa s39 rfl rfl h4831) (gg rfl rfl (eFF h4827)) rfl ?_
             refine Wo.og (o_lda (k := 3) t3 rfl rfl (map_at h4823) rfl rfl) (gg rfl rfl (eFF h4827)) rfl ?_
             refine Wo.og (o_bi rfl rfl (bin_sub _ _ _)) (gg rfl rfl (eFF h4827)) rfl ?_
             obtain ⟨y4832, h4833, hF⟩ := ob_some hF
             refine Wo.og (o_bu rfl rfl (fun m => (bu_ma _ _ m).trans (cIm h4833))) (gg rfl rfl (eFF h4827)) rfl ?_
             refine Wo.og (o_bi rfl rfl (bin_gtr _ _ _)) (gg rfl rfl (eFF h4827)) rfl ?_
             refine Wo.od (o_pf rfl h4827 rfl) rfl ?_
             refine Wo.nil ?_
             cases hF
             exact At.en () rfl (sc rfl (sc rfl (sc rfl (sc rfl (sc rfl (sc rfl (sc rfl (sc rfl (sc rfl (sc rfl (sc rfl (sc rfl (sc rfl (sc rfl (sc rfl (sc rfl sn)))))))))))))))) (Turn.trans (Turn.close (k := 3) rfl) (Turn.picks [0, 1, 2, 3, 4] rfl rfl))
           ·clear h4834
            rintro ⟨⟩
            refine At.tn ?_
            rcases br_some hF with ⟨h4836, hF⟩ | ⟨h4836, hF⟩
            ·refine Wk.condT rfl h4836 ?_
             refine Wk.seq <| Wk.region <| Wo.od (o_as rfl) rfl ?_
             refine Wo.nil <| At.tn <| Wk.ret <| At.tr <| At.br ?_
             cases hF
             exact At.en () rfl (sc rfl sn) (Turn.picks [] rfl rfl)
            ·refine Wk.condF rfl h4836 ?_
             refine Wk.skip <| At.tn <| Wk.seq ?_
             obtain ⟨l4854, h4872, hF⟩ := ob_some hF
             refine Wk.cut (G := (fun (r : List (Bool)) (g : Unit) => match r, g with | l4854, _ => ⟨.normal, [(2, .int .u64 ((x18 : Nat) : Int)), (3, .int .u8 ((x19 : Nat) : Int)), (10, ptr b3832 0), (11, .int .i64 (Int.tmod (IntKind.wrap .i64 ((x19 : Nat) : Int)) x3827)), (12, .int .u64 ((uw .u64 (uw .u64 y3835 ||| uw .u64 y3838) : Nat) : Int)), (13, .slice a3842 l3841.length l3841.length), (15, .slice (some ⟨b3859, 0, none⟩) x3827.toNat x3827.toNat), (18, .int .i64 x4725), (19, .int .i64 x4726), (32, .slice a27 l25.length l25.length), (33, .int .i64 (l25.length : Int)), (34, .int .i64 v32), (72, .slice (some ⟨b4723, o4724, none⟩) l3828.length c3831), (73, .int .i64 (l3828.length : Int)), (74, .int .i64 v4205)], [.obj b3832 (.cells [.int .i64 x3827, .slice (some ⟨b4723, o4724, none⟩) l3828.length c3831] .own), .ro b4723 o4724 2 l3828.length (l3828.map (eP (eI .i64) (eI .i64))), .rd (some ⟨b4723, o4724, none⟩) c3831 2 l3828.length (l3828.map (eP (eI .i64) (eI .i64))), .sl a3842 1 l3841.length (l3841.map (eI .i64)), .arr b3859 1 x3827.toNat (l4854.map (eB)) .own]⟩) l4854) ?_ ?_
             ·clear hF
              revert l4854
              intro r hF
              refine Wk.draw (by kernel_rfl) ?_
              refine Wo.od (o_mv rfl) rfl ?_
              refine Wo.od (o_mv rfl) rfl ?_
              refine Wo.od (o_mv rfl) rfl ?_
              refine Wo.od (o_mv rfl) rfl ?_
              obtain ⟨h4855, hF⟩ := gd_some hF
              replace h4855 := inB_some h4855
              refine Wo.og (o_ixa s78 rfl rfl h4855) gn rfl ?_
              obtain ⟨x4856, h4857, hF⟩ := ob_some hF
              refine Wo.od (o_lda (k := 4) t4 rfl rfl (map_at h4857) rfl rfl) rfl ?_
              refine Wo.od (o_mv rfl) rfl ?_
              rcases br_some hF with ⟨h4858, hF⟩ | ⟨h4858, hF⟩
              ·refine Wo.s (gg rfl rfl (eTF h4858)) rfl ?_
               refine Wo.s (gg rfl rfl (eTF h4858)) rfl ?_
               refine Wo.s (gg rfl rfl (eTF h4858)) rfl ?_
               refine Wo.s (gg rfl rfl (eTF h4858)) rfl ?_
               refine Wo.s (gg rfl rfl (eTF h4858)) rfl ?_
               refine Wo.s (gg rfl rfl (eTF h4858)) rfl ?_
               refine Wo.s (gg rfl rfl (eTF h4858)) rfl ?_
               refine Wo.s (gg rfl rfl (eTF h4858)) rfl ?_
               refine Wo.s (gg rfl rfl (eTF h4858)) rfl ?_
               refine Wo.s (gg rfl rfl (eTF h4858)) rfl ?_
               refine Wo.od (o_pt rfl h4858 rfl) rfl ?_
               obtain ⟨h4859, hF⟩ := gd_some hF
               replace h4859 := inB_some h4859
               refine Wo.og (o_ixa s78 rfl rfl h4859) gn rfl ?_
               refine Wo.o0 (o_stl (k := 4) (x1 := x4856) (x2 := true) t4 rfl rfl rfl h4857 rfl) ?_
               refine Wo.nil ?_
               cases hF
               exact At.en () rfl (sc rfl (sc rfl (sc rfl (sc rfl (sc rfl (sc rfl (sc rfl (sc rfl (sc rfl (sc rfl (sc rfl (sc rfl (sc rfl (sc rfl (sc rfl sn))))))))))))))) (Turn.picks [0, 1, 2, 3, 4] rfl rfl)
              ·refine Wo.og (o_mv rfl) (gg rfl rfl (eFF h4858)) rfl ?_
               refine Wo.og (o_mv rfl) (gg rfl rfl (eFF h4858)) rfl ?_
               obtain ⟨h4861, hF⟩ := gd_some hF
               replace h4861 := inB_some h4861
               refine Wo.open (k := 3) rfl (pos_of h4861) ?_
               rintro b4862 tg4863 rfl h4864
               refine Wo.og (o_ixa s39 rfl rfl h4861) (gg rfl rfl (eFF h4858)) rfl ?_
               obtain ⟨x4865, h4866, hF⟩ := ob_some hF
               refine Wo.og (o_lda (k := 3) t3 rfl rfl (map_at h4866) rfl rfl) (gg rfl rfl (eFF h4858)) rfl ?_
               refine Wo.og (o_mv rfl) (gg rfl rfl (eFF h4858)) rfl ?_
               refine Wo.og (o_mv rfl) (gg rfl rfl (eFF h4858)) rfl ?_
               obtain ⟨h4867, hF⟩ := gd_some hF
               replace h4867 := inB_some h4867
               refine Wo.og (o_ixa s39 rfl rfl h4867) (gg rfl rfl (eFF h4858)) rfl ?_
               obtain ⟨x4868, h4869, hF⟩ := ob_some hF
               refine Wo.og (o_lda (k := 3) t3 rfl rfl (map_at h4869) rfl rfl) (gg rfl rfl (eFF h4858)) rfl ?_
               refine Wo.og (o_bi rfl rfl (bin_sub _ _ _)) (gg rfl rfl (eFF h4858)) rfl ?_
               refine Wo.og (o_bi rfl rfl (bin_eql _ _ _)) (gg rfl rfl (eFF h4858)) rfl ?_
               refine Wo.od (o_pf rfl h4858 rfl) rfl ?_
               obtain ⟨h4870, hF⟩ := gd_some hF
               replace h4870 := inB_some h4870
               refine Wo.og (o_ixa s78 rfl rfl h4870) gn rfl ?_
               refine Wo.o0 (o_stl (k := 4) (x1 := x4856) (x2 := decide (x4865 = IntKind.wrap .i64 (x4868 - 1))) t4 rfl rfl rfl h4857 rfl) ?_
               refine Wo.nil ?_
               cases hF
               exact At.en () rfl (sc rfl (sc rfl (sc rfl (sc rfl (sc rfl (sc rfl (sc rfl (sc rfl (sc rfl (sc rfl (sc rfl (sc rfl (sc rfl (sc rfl (sc rfl sn))))))))))))))) (Turn.trans (Turn.close (k := 3) rfl) (Turn.picks [0, 1, 2, 3, 4] rfl rfl))
             ·clear h4872
              rintro ⟨⟩
              refine At.tn <| Wk.draw (by kernel_rfl) ?_
              refine Wo.od (o_mv rfl) rfl ?_
              refine Wo.od (o_mv rfl) rfl ?_
              refine Wo.od (o_mv rfl) rfl ?_
              refine Wo.od (o_mv rfl) rfl ?_
              obtain ⟨h4874, hF⟩ := gd_some hF
              replace h4874 := inB_some h4874
              refine Wo.og (o_ixa s78 rfl rfl h4874) gn rfl ?_
              obtain ⟨x4875, h4876, hF⟩ := ob_some hF
              refine Wo.od (o_lda (k := 4) t4 rfl rfl (map_at h4876) rfl rfl) rfl ?_
              refine Wo.od (o_mv rfl) rfl ?_
              rcases br_some hF with ⟨h4877, hF⟩ | ⟨h4877, hF⟩
              ·refine Wo.s (gg rfl rfl (eTF h4877)) rfl ?_
               refine Wo.s (gg rfl rfl (eTF h4877)) rfl ?_
               refine Wo.s (gg rfl rfl (eTF h4877)) rfl ?_
               refine Wo.s (gg rfl rfl (eTF h4877)) rfl ?_
               refine Wo.s (gg rfl rfl (eTF h4877)) rfl ?_
               refine Wo.s (gg rfl rfl (eTF h4877)) rfl ?_
               refine Wo.s (gg rfl rfl (eTF h4877)) rfl ?_
               refine Wo.s (gg rfl rfl (eTF h4877)) rfl ?_
               refine Wo.s (gg rfl rfl (eTF h4877)) rfl ?_
               refine Wo.s (gg rfl rfl (eTF h4877)) rfl ?_
               refine Wo.od (o_pt rfl h4877 rfl) rfl ?_
               obtain ⟨h4878, hF⟩ := gd_some hF
               replace h4878 := inB_some h4878
               refine Wo.og (o_ixa s78 rfl rfl h4878) gn rfl ?_
               refine Wo.o0 (o_stl (k := 4) (x1 := x4875) (x2 := true) t4 rfl rfl rfl h4876 rfl) ?_
               refine Wo.nil <| At.bn ?_
               cases hF
               exact At.en () rfl (sc rfl (sc rfl (sc rfl (sc rfl (sc rfl (sc rfl (sc rfl (sc rfl (sc rfl (sc rfl (sc rfl (sc rfl (sc rfl sn))))))))))))) (Turn.picks [0, 2, 3, 4] rfl rfl)
              ·refine Wo.og (o_mv rfl) (gg rfl rfl (eFF h4877)) rfl ?_
               refine Wo.og (o_mv rfl) (gg rfl rfl (eFF h4877)) rfl ?_
               obtain ⟨h4880, hF⟩ := gd_some hF
               replace h4880 := inB_some h4880
               refine Wo.open (k := 3) rfl (pos_of h4880) ?_
               rintro b4881 tg4882 rfl h4883
               refine Wo.og (o_ixa s39 rfl rfl h4880) (gg rfl rfl (eFF h4877)) rfl ?_
               obtain ⟨x4884, h4885, hF⟩ := ob_some hF
               refine Wo.og (o_lda (k := 3) t3 rfl rfl (map_at h4885) rfl rfl) (gg rfl rfl (eFF h4877)) rfl ?_
               refine Wo.og (o_mv rfl) (gg rfl rfl (eFF h4877)) rfl ?_
               refine Wo.og (o_mv rfl) (gg rfl rfl (eFF h4877)) rfl ?_
               obtain ⟨h4886, hF⟩ := gd_some hF
               replace h4886 := inB_some h4886
               refine Wo.og (o_ixa s39 rfl rfl h4886) (gg rfl rfl (eFF h4877)) rfl ?_
               obtain ⟨x4887, h4888, hF⟩ := ob_some hF
               refine Wo.og (o_lda (k := 3) t3 rfl rfl (map_at h4888) rfl rfl) (gg rfl rfl (eFF h4877)) rfl ?_
               refine Wo.og (o_bi rfl rfl (bin_sub _ _ _)) (gg rfl rfl (eFF h4877)) rfl ?_
               refine Wo.og (o_bi rfl rfl (bin_eql _ _ _)) (gg rfl rfl (eFF h4877)) rfl ?_
               refine Wo.od (o_pf rfl h4877 rfl) rfl ?_
               obtain ⟨h4889, hF⟩ := gd_some hF
               replace h4889 := inB_some h4889
               refine Wo.og (o_ixa s78 rfl rfl h4889) gn rfl ?_
               refine Wo.o0 (o_stl (k := 4) (x1 := x4875) (x2 := decide (x4884 = IntKind.wrap .i64 (x4887 - 1))) t4 rfl rfl rfl h4876 rfl) ?_
               refine Wo.nil <| At.bn ?_
               cases hF
               exact At.en () rfl (sc rfl (sc rfl (sc rfl (sc rfl (sc rfl (sc rfl (sc rfl (sc rfl (sc rfl (sc rfl (sc rfl (sc rfl (sc rfl sn))))))))))))) (Turn.trans (Turn.close (k := 3) rfl) (Turn.picks [0, 2, 3, 4] rfl rfl))
        ·clear h4891
         rcases r4892 with l4721 | _
         ·rintro ⟨⟩
          refine At.tn <| Wk.region <| Wo.od (o_bi rfl rfl (bin_add _ _ _)) rfl ?_
          refine Wo.od (o_mv rfl) rfl ?_
          refine Wo.nil ?_
          cases hF
          exact At.en () rfl (sc rfl (sc rfl (sc rfl (sc rfl (sc rfl (sc rfl (sc rfl (sc rfl (sc rfl (sc rfl (sc rfl (sc rfl (sc rfl sn))))))))))))) (Turn.picks [0, 1, 2, 3] rfl rfl)
         ·rintro ⟨⟩
          refine At.tr ?_
          cases hF
          exact At.en () rfl (sc rfl sn) (Turn.picks [] rfl rfl)
       ·refine Wk.condF rfl h4551 ?_
        refine Wk.exit <| At.te ?_
        cases hF
        exact At.en () rfl (sc rfl (sc rfl (sc rfl (sc rfl (sc rfl (sc rfl (sc rfl (sc rfl (sc rfl (sc rfl sn)))))))))) (Turn.picks [0, 1, 2, 3] rfl rfl)
      ·clear h4893
       rcases r4894 with _ | l4550
       ·rintro ⟨⟩
        refine At.br <| At.tr <| At.br <| At.tr ?_
        cases hF
        exact At.en () rfl (sc rfl sn) (Turn.picks [] rfl rfl)
       ·rintro ⟨⟩
        refine At.be <| At.tn <| Wk.seq <| Wk.region <| Wo.od (o_as rfl) rfl ?_
        refine Wo.nil <| At.tn <| Wk.seq <| Wk.seq <| Wk.region <| Wo.od (o_mv rfl) rfl ?_
        refine Wo.od (o_ln (k := 2) u39 rfl rfl (.inl rfl)) rfl ?_
        refine Wo.od (o_mv rfl) rfl ?_
        refine Wo.nil <| At.tn <| Wk.block ?_
        obtain ⟨r5071, h5070, hF⟩ := ob_some hF
        refine Wk.cut (G := (fun (r : (Unit) ⊕ (Nat)) (g : Unit) => match r, g with | .inl _, _ => ⟨.ret, [(8, .bool false)], []⟩ | .inr v4985, _ => ⟨(.exit 4), [(2, .int .u64 ((x18 : Nat) : Int)), (3, .int .u8 ((x19 : Nat) : Int)), (10, ptr b3832 0), (11, .int .i64 (Int.tmod (IntKind.wrap .i64 ((x19 : Nat) : Int)) x3827)), (12, .int .u64 ((uw .u64 (uw .u64 y3835 ||| uw .u64 y3838) : Nat) : Int)), (13, .slice a3842 l3841.length l3841.length), (20, .int .u64 ((v4985 : Nat) : Int)), (32, .slice a27 l25.length l25.length), (33, .int .i64 (l25.length : Int)), (34, .int .i64 v32)], [.obj b3832 (.cells [.int .i64 x3827, .slice a3830 l3828.length c3831] .own), .rd a3830 c3831 2 l3828.length (l3828.map (eP (eI .i64) (eI .i64))), .sl a3842 1 l3841.length (l3841.map (eI .i64))]⟩) r5071) ?_ ?_
        ·refine Wk.weak (fs' := [(2, .int .u64 ((x18 : Nat) : Int)), (3, .int .u8 ((x19 : Nat) : Int)), (10, ptr b3832 0), (11, .int .i64 (Int.tmod (IntKind.wrap .i64 ((x19 : Nat) : Int)) x3827)), (12, .int .u64 ((uw .u64 (uw .u64 y3835 ||| uw .u64 y3838) : Nat) : Int)), (13, .slice a3842 l3841.length l3841.length), (15, .slice (some ⟨b3859, 0, none⟩) x3827.toNat x3827.toNat), (20, .int .u64 ((0 : Nat) : Int)), (32, .slice a27 l25.length l25.length), (33, .int .i64 (l25.length : Int)), (34, .int .i64 v32), (166, .slice a3842 l3841.length l3841.length), (167, .int .i64 (l3841.length : Int)), (168, .int .i64 0)]) (ps' := [.obj b3832 (.cells [.int .i64 x3827, .slice a3830 l3828.length c3831] .own), .rd a3830 c3831 2 l3828.length (l3828.map (eP (eI .i64) (eI .i64))), .sl a3842 1 l3841.length (l3841.map (eI .i64)), .arr b3859 1 x3827.toNat (l4550.map (eB)) .own]) (sc rfl (sc rfl (sc rfl (sc rfl (sc rfl (sc rfl (sc rfl (sc rfl (sc rfl (sc rfl (sc rfl (sc rfl (sc rfl (sc rfl sn)))))))))))))) (Turn.picks [0, 1, 2, 3] rfl rfl) ?_
         refine Wk.loop (σ := Nat × Int) (ρ := (Unit) ⊕ (Nat)) (γ := Unit) (δ := fun _ => Unit) _ (fun (s : Nat × Int) (g : Unit) => match s, g with | (v4897, v4898), _ => ⟨.normal, [(2, .int .u64 ((x18 : Nat) : Int)), (3, .int .u8 ((x19 : Nat) : Int)), (10, ptr b3832 0), (11, .int .i64 (Int.tmod (IntKind.wrap .i64 ((x19 : Nat) : Int)) x3827)), (12, .int .u64 ((uw .u64 (uw .u64 y3835 ||| uw .u64 y3838) : Nat) : Int)), (13, .slice a3842 l3841.length l3841.length), (15, .slice (some ⟨b3859, 0, none⟩) x3827.toNat x3827.toNat), (20, .int .u64 ((v4897 : Nat) : Int)), (32, .slice a27 l25.length l25.length), (33, .int .i64 (l25.length : Int)), (34, .int .i64 v32), (166, .slice a3842 l3841.length l3841.length), (167, .int .i64 (l3841.length : Int)), (168, .int .i64 v4898)], [.obj b3832 (.cells [.int .i64 x3827, .slice a3830 l3828.length c3831] .own), .rd a3830 c3831 2 l3828.length (l3828.map (eP (eI .i64) (eI .i64))), .sl a3842 1 l3841.length (l3841.map (eI .i64)), .arr b3859 1 x3827.toNat (l4550.map (eB)) .own]⟩) (fun (r : (Unit) ⊕ (Nat)) (g : Unit) => match r, g with | .inl _, _ => ⟨.ret, [(8, .bool false)], []⟩ | .inr v4985, _ => ⟨(.exit 4), [(2, .int .u64 ((x18 : Nat) : Int)), (3, .int .u8 ((x19 : Nat) : Int)), (10, ptr b3832 0), (11, .int .i64 (Int.tmod (IntKind.wrap .i64 ((x19 : Nat) : Int)) x3827)), (12, .int .u64 ((uw .u64 (uw .u64 y3835 ||| uw .u64 y3838) : Nat) : Int)), (13, .slice a3842 l3841.length l3841.length), (20, .int .u64 ((v4985 : Nat) : Int)), (32, .slice a27 l25.length l25.length), (33, .int .i64 (l25.length : Int)), (34, .int .i64 v32)], [.obj b3832 (.cells [.int .i64 x3827, .slice a3830 l3828.length c3831] .own), .rd a3830 c3831 2 l3828.length (l3828.map (eP (eI .i64) (eI .i64))), .sl a3842 1 l3841.length (l3841.map (eI .i64))]⟩) ?_ (fun _ _ => rfl) (fun r d => by rcases r with _ | _ <;> (intro e; cases e)) _ _ _ h5070 ()
         clear hF h5070
         rintro ⟨v4897, v4898⟩ ⟨⟩ r hF
         unfold L11_2 at hF
         refine Wk.seq <| Wk.region <| Wo.od (o_bi rfl rfl (bin_lss _ _ _)) rfl ?_
         refine Wo.nil <| At.tn <| Wk.seq ?_
         rcases br_some hF with ⟨h4986, hF⟩ | ⟨h4986, hF⟩
         ·refine Wk.condT rfl h4986 ?_
          refine Wk.skip <| At.tn <| Wk.seq ?_
          obtain ⟨r5069, h5068, hF⟩ := ob_some hF
          refine Wk.cut (G := (fun (r : (Unit) ⊕ (Nat)) (g : Unit) => match r, g with | .inl _, _ => ⟨.ret, [(8, .bool false)], []⟩ | .inr v5027, _ => ⟨.normal, [(2, .int .u64 ((x18 : Nat) : Int)), (3, .int .u8 ((x19 : Nat) : Int)), (10, ptr b3832 0), (11, .int .i64 (Int.tmod (IntKind.wrap .i64 ((x19 : Nat) : Int)) x3827)), (12, .int .u64 ((uw .u64 (uw .u64 y3835 ||| uw .u64 y3838) : Nat) : Int)), (13, .slice a3842 l3841.length l3841.length), (15, .slice (some ⟨b3859, 0, none⟩) x3827.toNat x3827.toNat), (20, .int .u64 ((v5027 : Nat) : Int)), (32, .slice a27 l25.length l25.length), (33, .int .i64 (l25.length : Int)), (34, .int .i64 v32), (166, .slice a3842 l3841.length l3841.length), (167, .int .i64 (l3841.length : Int)), (168, .int .i64 v4898)], [.obj b3832 (.cells [.int .i64 x3827, .slice a3830 l3828.length c3831] .own), .rd a3830 c3831 2 l3828.length (l3828.map (eP (eI .i64) (eI .i64))), .sl a3842 1 l3841.length (l3841.map (eI .i64)), .arr b3859 1 x3827.toNat (l4550.map (eB)) .own]⟩) r5069) ?_ ?_
          ·clear hF
           revert r5069
           intro r hF
           refine Wk.block <| Wk.seq <| Wk.region <| Wo.od (o_mv rfl) rfl ?_
           obtain ⟨h5028, hF⟩ := gd_some hF
           replace h5028 := inB_some h5028
           refine Wo.open (k := 2) rfl (pos_of h5028) ?_
           rintro b5029 tg5030 rfl h5031
           refine Wo.og (o_ixa s39 rfl rfl h5028) gn rfl ?_
           obtain ⟨x5032, h5033, hF⟩ := ob_some hF
           refine Wo.od (o_lda (k := 2) t3 rfl rfl (map_at h5033) rfl rfl) rfl ?_
           refine Wo.od (o_as rfl) rfl ?_
           refine Wo.od (o_as rfl) rfl ?_
           refine Wo.nil <| At.tn <| Wk.seq <| Wk.seq ?_
           obtain ⟨v5056, h5063, hF⟩ := ob_some hF
           refine Wk.cut (G := (fun (r : Bool) (g : Unit) => match r, g with | v5056, _ => ⟨.normal, [(2, .int .u64 ((x18 : Nat) : Int)), (3, .int .u8 ((x19 : Nat) : Int)), (10, ptr b3832 0), (11, .int .i64 (Int.tmod (IntKind.wrap .i64 ((x19 : Nat) : Int)) x3827)), (12, .int .u64 ((uw .u64 (uw .u64 y3835 ||| uw .u64 y3838) : Nat) : Int)), (13, .slice (some ⟨b5029, 0, none⟩) l3841.length l3841.length), (15, .slice (some ⟨b3859, 0, none⟩) x3827.toNat x3827.toNat), (20, .int .u64 ((v4897 : Nat) : Int)), (21, .int .i64 v4898), (22, .int .i64 x5032), (32, .slice a27 l25.length l25.length), (33, .int .i64 (l25.length : Int)), (34, .int .i64 v32), (166, .slice (some ⟨b5029, 0, none⟩) l3841.length l3841.length), (167, .int .i64 (l3841.length : Int)), (168, .int .i64 v4898), (193, .bool v5056)], [.obj b3832 (.cells [.int .i64 x3827, .slice a3830 l3828.length c3831] .own), .rd a3830 c3831 2 l3828.length (l3828.map (eP (eI .i64) (eI .i64))), .arr b5029 1 l3841.length (l3841.map (eI .i64)) tg5030, .arr b3859 1 x3827.toNat (l4550.map (eB)) .own]⟩) v5056) ?_ ?_
           ·clear hF
            revert v5056
            intro r hF
            refine Wk.region <| Wo.od (o_mv rfl) rfl ?_
            refine Wo.od (o_bi rfl rfl (bin_eql _ _ _)) rfl ?_
            refine Wo.od (o_mv rfl) rfl ?_
            refine Wo.od (o_mv rfl) rfl ?_
            refine Wo.od (o_bi rfl rfl (bin_eql _ _ _)) rfl ?_
            refine Wo.od (o_bi rfl rfl (bb_ne u4)) rfl ?_
            refine Wo.od (o_mv rfl) rfl ?_
            rcases br_some hF with ⟨h5057, hF⟩ | ⟨h5057, hF⟩
            ·refine Wo.s (gg rfl rfl (eTF h5057)) rfl ?_
             refine Wo.s (gg rfl rfl (eTF h5057)) rfl ?_
             refine Wo.s (gg rfl rfl (eTF h5057)) rfl ?_
             refine Wo.s (gu rfl rfl) rfl ?_
             refine Wo.s (gu rfl rfl) rfl ?_
             refine Wo.s (gu rfl rfl) rfl ?_
             refine Wo.s (gu rfl rfl) rfl ?_
             refine Wo.s (gu rfl rfl) rfl ?_
             refine Wo.s (gg rfl rfl (eTF h5057)) rfl ?_
             refine Wo.od (o_pt rfl h5057 rfl) rfl ?_
             refine Wo.od (o_mv rfl) rfl ?_
             refine Wo.s (gg rfl rfl rfl) rfl ?_
             refine Wo.s (gg rfl rfl rfl) rfl ?_
             refine Wo.od (o_pT rfl rfl) rfl ?_
             refine Wo.nil ?_
             cases hF
             exact At.en () rfl (sc rfl (sc rfl (sc rfl (sc rfl (sc rfl (sc rfl (sc rfl (sc rfl (sc rfl (sc rfl (sc rfl (sc rfl (sc rfl (sc rfl (sc rfl (sc rfl (sc rfl sn))))))))))))))))) (Turn.picks [0, 1, 2, 3] rfl rfl)
            ·refine Wo.og (o_mv rfl) (gg rfl rfl (eFF h5057)) rfl ?_
             refine Wo.og (o_bi rfl rfl (bin_gtr _ _ _)) (gg rfl rfl (eFF h5057)) rfl ?_
             refine Wo.og (o_mv rfl) (gg rfl rfl (eFF h5057)) rfl ?_
             rcases br_some hF with ⟨h5058, hF⟩ | ⟨h5058, hF⟩
             ·refine Wo.og (o_mv rfl) (gg rfl rfl (eTT h5058)) rfl ?_
              refine Wo.og (o_mv rfl) (gg rfl rfl (eTT h5058)) rfl ?_
              obtain ⟨h5059, hF⟩ := gd_some hF
              replace h5059 := inB_some h5059
              refine Wo.og (o_ixa s78 rfl rfl h5059) (gg rfl rfl (eTT h5058)) rfl ?_
              obtain ⟨x5060, h5061, hF⟩ := ob_some hF
              refine Wo.og (o_lda (k := 3) t4 rfl rfl (map_at h5061) rfl rfl) (gg rfl rfl (eTT h5058)) rfl ?_
              refine Wo.og (o_un rfl rfl) (gg rfl rfl (eTT h5058)) rfl ?_
              refine Wo.og (o_pt rfl h5058 rfl) (gg rfl rfl (eFF h5057)) rfl ?_
              refine Wo.od (o_pf rfl h5057 rfl) rfl ?_
              refine Wo.od (o_mv rfl) rfl ?_
              rcases br_some hF with ⟨h5062, hF⟩ | ⟨h5062, hF⟩
              ·refine Wo.s (gg rfl rfl (eTF h5062)) rfl ?_
               refine Wo.s (gg rfl rfl (eTF h5062)) rfl ?_
               refine Wo.od (o_pt rfl h5062 rfl) rfl ?_
               refine Wo.nil ?_
               cases hF
               exact At.en () rfl (sc rfl (sc rfl (sc rfl (sc rfl (sc rfl (sc rfl (sc rfl (sc rfl (sc rfl (sc rfl (sc rfl (sc rfl (sc rfl (sc rfl (sc rfl (sc rfl (sc rfl sn))))))))))))))))) (Turn.picks [0, 1, 2, 3] rfl rfl)
              ·refine Wo.og (o_mv rfl) (gg rfl rfl (eFF h5062)) rfl ?_
               refine Wo.og (o_bi rfl rfl (bin_lss _ _ _)) (gg rfl rfl (eFF h5062)) rfl ?_
               refine Wo.od (o_pf rfl h5062 rfl) rfl ?_
               refine Wo.nil ?_
               cases hF
               exact At.en () rfl (sc rfl (sc rfl (sc rfl (sc rfl (sc rfl (sc rfl (sc rfl (sc rfl (sc rfl (sc rfl (sc rfl (sc rfl (sc rfl (sc rfl (sc rfl (sc rfl (sc rfl sn))))))))))))))))) (Turn.picks [0, 1, 2, 3] rfl rfl)
             ·refine Wo.s (gg rfl rfl (eFT h5058)) rfl ?_
              refine Wo.s (gg rfl rfl (eFT h5058)) rfl ?_
              refine Wo.s (gg rfl rfl (eFT h5058)) rfl ?_
              refine Wo.s (gg rfl rfl (eFT h5058)) rfl ?_
              refine Wo.s (gg rfl rfl (eFT h5058)) rfl ?_
              refine Wo.og (o_pf rfl h5058 rfl) (gg rfl rfl (eFF h5057)) rfl ?_
              refine Wo.od (o_pf rfl h5057 rfl) rfl ?_
              refine Wo.od (o_mv rfl) rfl ?_
              refine Wo.og (o_mv rfl) (gg rfl rfl rfl) rfl ?_
              refine Wo.og (o_bi rfl rfl (bin_lss _ _ _)) (gg rfl rfl rfl) rfl ?_
              refine Wo.od (o_pF rfl rfl) rfl ?_
              refine Wo.nil ?_
              cases hF
              exact At.en () rfl (sc rfl (sc rfl (sc rfl (sc rfl (sc rfl (sc rfl (sc rfl (sc rfl (sc rfl (sc rfl (sc rfl (sc rfl (sc rfl (sc rfl (sc rfl (sc rfl (sc rfl sn))))))))))))))))) (Turn.picks [0, 1, 2, 3] rfl rfl)
           ·clear h5063
            rintro ⟨⟩
            refine At.tn ?_
            rcases br_some hF with ⟨h5065, hF⟩ | ⟨h5065, hF⟩
            ·refine Wk.condT rfl h5065 ?_
             refine Wk.seq <| Wk.region <| Wo.od (o_as rfl) rfl ?_
             refine Wo.nil <| At.tn <| Wk.ret <| At.tr <| At.br ?_
             cases hF
             exact At.en () rfl (sc rfl sn) (Turn.picks [] rfl rfl)
            ·refine Wk.condF rfl h5065 ?_
             refine Wk.skip <| At.tn <| Wk.seq <| Wk.region <| Wo.od (o_mv rfl) rfl ?_
             refine Wo.od (o_bi rfl rfl (bin_geq _ _ _)) rfl ?_
             refine Wo.nil <| At.tn ?_
             rcases br_some hF with ⟨h5066, hF⟩ | ⟨h5066, hF⟩
             ·refine Wk.condT rfl h5066 ?_
              refine Wk.region <| Wo.od (o_mv rfl) rfl ?_
              refine Wo.od (o_mv rfl) rfl ?_
              obtain ⟨h5067, hF⟩ := gd_some hF
              refine Wo.od (o_bi rfl rfl (ub_shl rfl _ _ h5067)) rfl ?_
              refine Wo.od (o_bi rfl rfl (ub_or rfl _ _)) rfl ?_
              refine Wo.od (o_as rfl) rfl ?_
              refine Wo.nil <| At.bn ?_
              cases hF
              exact At.en () rfl (sc rfl (sc rfl (sc rfl (sc rfl (sc rfl (sc rfl (sc rfl (sc rfl (sc rfl (sc rfl (sc rfl (sc rfl (sc rfl (sc rfl sn)))))))))))))) (Turn.trans (Turn.close (k := 2) rfl) (Turn.picks [0, 1, 2, 3] rfl rfl))
             ·refine Wk.condF rfl h5066 ?_
              refine Wk.skip <| At.bn ?_
              cases hF
              exact At.en () rfl (sc rfl (sc rfl (sc rfl (sc rfl (sc rfl (sc rfl (sc rfl (sc rfl (sc rfl (sc rfl (sc rfl (sc rfl (sc rfl (sc rfl sn)))))))))))))) (Turn.trans (Turn.close (k := 2) rfl) (Turn.picks [0, 1, 2, 3] rfl rfl))
          ·clear h5068
           rcases r5069 with _ | v5027
           ·rintro ⟨⟩
            refine At.tr ?_
            cases hF
            exact At.en () rfl (sc rfl sn) (Turn.picks [] rfl rfl)
           ·rintro ⟨⟩
            refine At.tn <| Wk.region <| Wo.od (o_bi rfl rfl (bin_add _ _ _)) rfl ?_
            refine Wo.od (o_mv rfl) rfl ?_
            refine Wo.nil ?_
            cases hF
            exact At.en () rfl (sc rfl (sc rfl (sc rfl (sc rfl (sc rfl (sc rfl (sc rfl (sc rfl (sc rfl (sc rfl (sc rfl (sc rfl (sc rfl (sc rfl sn)))))))))))))) (Turn.picks [0, 1, 2, 3] rfl rfl)
         ·refine Wk.condF rfl h4986 ?_
          refine Wk.exit <| At.te ?_
          cases hF
          exact At.en () rfl (sc rfl (sc rfl (sc rfl (sc rfl (sc rfl (sc rfl (sc rfl (sc rfl (sc rfl (sc rfl sn)))))))))) (Turn.picks [0, 1, 2] rfl rfl)
        ·clear h5070
         rcases r5071 with _ | v4985
         ·rintro ⟨⟩
          refine At.br <| At.tr <| At.br <| At.tr ?_
          cases hF
          exact At.en () rfl (sc rfl sn) (Turn.picks [] rfl rfl)
         ·rintro ⟨⟩
          refine At.be <| At.tn <| Wk.seq <| Wk.region <| Wo.od (o_ld (k := 0) t25 rfl rfl rfl) rfl ?_
          refine Wo.od (o_mv rfl) rfl ?_
          obtain ⟨⟨l5073, r5076⟩, h5072, hF⟩ := ob_some hF
          refine Wo.x (o_cl rfl rfl (fun m hm => f17_ok n x3827 l3828 (uw .u64 (uw .u64 y3835 ||| uw .u64 y3838)) a3830 c3831 _ h5072 m (hG.ext hm.ext) (hm.rd (k := 1) rfl (.rd _ _ _ _ _))) fun _ => rfl) gn rfl ?_
          rintro ⟨a5074, n5075⟩
          refine Wo.len (k := 0) (xs := l5073) rfl ?_
          rintro rfl
          refine Wo.od (o_mv rfl) rfl ?_
          refine Wo.od (o_ex rfl rfl) rfl ?_
          refine Wo.od (o_ex rfl rfl) rfl ?_
          refine Wo.od (o_as rfl) rfl ?_
          refine Wo.od (o_as rfl) rfl ?_
          refine Wo.nil <| At.tn <| Wk.seq <| Wk.seq ?_
          obtain ⟨v5090, h5094, hF⟩ := ob_some hF
          refine Wk.cut (G := (fun (r : Bool) (g : Unit) => match r, g with | v5090, _ => ⟨.normal, [(2, .int .u64 ((x18 : Nat) : Int)), (3, .int .u8 ((x19 : Nat) : Int)), (10, ptr b3832 0), (11, .int .i64 (Int.tmod (IntKind.wrap .i64 ((x19 : Nat) : Int)) x3827)), (12, .int .u64 ((uw .u64 (uw .u64 y3835 ||| uw .u64 y3838) : Nat) : Int)), (13, .slice a3842 l3841.length l3841.length), (20, .int .u64 ((v4985 : Nat) : Int)), (32, .slice a27 l25.length l25.length), (33, .int .i64 (l25.length : Int)), (34, .int .i64 v32), (214, .bool v5090)], [.obj b3832 (.cells [.int .i64 x3827, .slice a3830 l3828.length c3831] .own), .rd a3830 c3831 2 l3828.length (l3828.map (eP (eI .i64) (eI .i64))), .sl a3842 1 l3841.length (l3841.map (eI .i64))]⟩) v5090) ?_ ?_
          ·clear hF
           revert v5090
           intro r hF
           refine Wk.region <| Wo.od (o_mv rfl) rfl ?_
           refine Wo.od (o_bi rfl rfl (ib_neq _ _)) rfl ?_
           refine Wo.od (o_mv rfl) rfl ?_
           rcases br_some hF with ⟨h5091, hF⟩ | ⟨h5091, hF⟩
           ·refine Wo.s (gg rfl rfl (eTF h5091)) rfl ?_
            refine Wo.s (gg rfl rfl (eTF h5091)) rfl ?_
            refine Wo.s (gg rfl rfl (eTF h5091)) rfl ?_
            refine Wo.s (gg rfl rfl (eTF h5091)) rfl ?_
            refine Wo.od (o_pt rfl h5091 rfl) rfl ?_
            refine Wo.nil ?_
            cases hF
            exact At.en () rfl (sc rfl (sc rfl (sc rfl (sc rfl (sc rfl (sc rfl (sc rfl (sc rfl (sc rfl (sc rfl (sc rfl sn))))))))))) (Turn.picks [1, 2, 3] rfl rfl)
           ·refine Wo.og (o_mv rfl) (gg rfl rfl (eFF h5091)) rfl ?_
            refine Wo.og (o_mv rfl) (gg rfl rfl (eFF h5091)) rfl ?_
            obtain ⟨r5093, h5092, hF⟩ := ob_some hF
            refine Wo.x (o_cl rfl rfl (fun m hm => f50_ok n l5073 v4985 a5074 l5073.length _ h5092 m (hm.rd (k := 0) rfl (.sl _ _ _ _))) fun _ => rfl) (gg rfl rfl (eFF h5091)) rfl ?_
            rintro ⟨⟩
            refine Wo.og (o_un rfl rfl) (gg rfl rfl (eFF h5091)) rfl ?_
            refine Wo.od (o_pf rfl h5091 rfl) rfl ?_
            refine Wo.nil ?_
            cases hF
            exact At.en () rfl (sc rfl (sc rfl (sc rfl (sc rfl (sc rfl (sc rfl (sc rfl (sc rfl (sc rfl (sc rfl (sc rfl sn))))))))))) (Turn.picks [1, 2, 3] rfl rfl)
          ·clear h5094
           rintro ⟨⟩
           refine At.tn ?_
           rcases br_some hF with ⟨h5096, hF⟩ | ⟨h5096, hF⟩
           ·refine Wk.condT rfl h5096 ?_
            refine Wk.seq <| Wk.region <| Wo.od (o_as rfl) rfl ?_
            refine Wo.nil <| At.tn <| Wk.ret <| At.tr <| At.br <| At.tr ?_
            cases hF
            exact At.en () rfl (sc rfl sn) (Turn.picks [] rfl rfl)
           ·refine Wk.condF rfl h5096 ?_
            refine Wk.skip <| At.tn <| Wk.seq <| Wk.region <| Wo.od (o_mv rfl) rfl ?_
            obtain ⟨r5098, h5097, hF⟩ := ob_some hF
            refine Wo.x (o_cl rfl rfl (fun m hm => f51_ok n v4985  _ h5097 m ) fun _ => rfl) gn rfl ?_
            rintro ⟨⟩
            refine Wo.od (o_bi rfl rfl (bin_sub _ _ _)) rfl ?_
            refine Wo.od (o_as rfl) rfl ?_
            refine Wo.nil <| At.tn <| Wk.seq <| Wk.region <| Wo.od (o_ld (k := 0) t25 rfl rfl rfl) rfl ?_
            refine Wo.od (o_mv rfl) rfl ?_
            refine Wo.od (o_mv rfl) rfl ?_
            obtain ⟨⟨l5100, r5103⟩, h5099, hF⟩ := ob_some hF
            refine Wo.x (o_cl rfl rfl (fun m hm => f20_ok n x3827 l3828 (uw .u64 (uw .u64 y3835 ||| uw .u64 y3838)) (IntKind.wrap .i64 (r5098 - 1)) a3830 c3831 _ h5099 m (hG.ext hm.ext) (hm.rd (k := 1) rfl (.rd _ _ _ _ _))) fun _ => rfl) gn rfl ?_
            rintro ⟨a5101, n5102⟩
            refine Wo.len (k := 0) (xs := l5100) rfl ?_
            rintro rfl
            refine Wo.od (o_mv rfl) rfl ?_
            refine Wo.od (o_ex rfl rfl) rfl ?_
            refine Wo.od (o_ex rfl rfl) rfl ?_
            refine Wo.od (o_as rfl) rfl ?_
            refine Wo.od (o_as rfl) rfl ?_
            refine Wo.nil <| At.tn <| Wk.seq ?_
            obtain ⟨v5118, h5133, hF⟩ := ob_some hF
            refine Wk.cut (G := (fun (r : Bool) (g : Unit) => match r, g with | v5118, _ => ⟨.normal, [(2, .int .u64 ((x18 : Nat) : Int)), (3, .int .u8 ((x19 : Nat) : Int)), (32, .slice a27 l25.length l25.length), (33, .int .i64 (l25.length : Int)), (34, .int .i64 v32), (244, .bool v5118)], []⟩) v5118) ?_ ?_
            ·clear hF
             revert v5118
             intro r hF
             refine Wk.draw (by kernel_rfl) ?_
             refine Wo.od (o_mv rfl) rfl ?_
             refine Wo.od (o_bi rfl rfl (ib_neq _ _)) rfl ?_
             refine Wo.od (o_mv rfl) rfl ?_
             rcases br_some hF with ⟨h5119, hF⟩ | ⟨h5119, hF⟩
             ·refine Wo.s (gg rfl rfl (eTF h5119)) rfl ?_
              refine Wo.s (gg rfl rfl (eTF h5119)) rfl ?_
              refine Wo.s (gg rfl rfl (eTF h5119)) rfl ?_
              refine Wo.s (gg rfl rfl (eTF h5119)) rfl ?_
              refine Wo.s (gg rfl rfl (eTF h5119)) rfl ?_
              refine Wo.od (o_pt rfl h5119 rfl) rfl ?_
              refine Wo.od (o_mv rfl) rfl ?_
              refine Wo.s (gg rfl rfl rfl) rfl ?_
              refine Wo.s (gg rfl rfl rfl) rfl ?_
              refine Wo.s (gg rfl rfl rfl) rfl ?_
              refine Wo.s (gg rfl rfl rfl) rfl ?_
              refine Wo.s (gg rfl rfl rfl) rfl ?_
              refine Wo.s (gg rfl rfl rfl) rfl ?_
              refine Wo.s (gg rfl rfl rfl) rfl ?_
              refine Wo.s (gg rfl rfl rfl) rfl ?_
              refine Wo.s (gg rfl rfl rfl) rfl ?_
              refine Wo.od (o_pT rfl rfl) rfl ?_
              refine Wo.nil ?_
              cases hF
              exact At.en () rfl (sc rfl (sc rfl (sc rfl (sc rfl (sc rfl (sc rfl sn)))))) (Turn.picks [] rfl rfl)
             ·refine Wo.og (o_mv rfl) (gg rfl rfl (eFF h5119)) rfl ?_
              refine Wo.og (o_ln (k := 0) u39 rfl rfl (.inl rfl)) (gg rfl rfl (eFF h5119)) rfl ?_
              refine Wo.og (o_fa (r := ptr b3832 0) rfl (fa25_0 _ _)) (gg rfl rfl (eFF h5119)) rfl ?_
              refine Wo.og (o_ld (k := 1) t3 rfl rfl rfl) (gg rfl rfl (eFF h5119)) rfl ?_
              refine Wo.og (o_bi rfl rfl (ib_neq _ _)) (gg rfl rfl (eFF h5119)) rfl ?_
              refine Wo.od (o_pf rfl h5119 rfl) rfl ?_
              refine Wo.od (o_mv rfl) rfl ?_
              rcases br_some hF with ⟨h5120, hF⟩ | ⟨h5120, hF⟩
              ·refine Wo.s (gg rfl rfl (eTF h5120)) rfl ?_
               refine Wo.s (gg rfl rfl (eTF h5120)) rfl ?_
               refine Wo.s (gg rfl rfl (eTF h5120)) rfl ?_
               refine Wo.s (gg rfl rfl (eTF h5120)) rfl ?_
               refine Wo.s (gg rfl rfl (eTF h5120)) rfl ?_
               refine Wo.s (gg rfl rfl (eTF h5120)) rfl ?_
               refine Wo.s (gg rfl rfl (eTF h5120)) rfl ?_
               refine Wo.s (gg rfl rfl (eTF h5120)) rfl ?_
               refine Wo.s (gg rfl rfl (eTF h5120)) rfl ?_
               refine Wo.od (o_pt rfl h5120 rfl) rfl ?_
               refine Wo.nil ?_
               cases hF
               exact At.en () rfl (sc rfl (sc rfl (sc rfl (sc rfl (sc rfl (sc rfl sn)))))) (Turn.picks [] rfl rfl)
              ·refine Wo.og (o_mv rfl) (gg rfl rfl (eFF h5120)) rfl ?_
               refine Wo.og (o_mv rfl) (gg rfl rfl (eFF h5120)) rfl ?_
               obtain ⟨h5121, hF⟩ := gd_some hF
               replace h5121 := inB_some h5121
               refine Wo.open (k := 0) rfl (pos_of h5121) ?_
               rintro b5122 tg5123 rfl h5124
               refine Wo.og (o_ixa s39 rfl rfl h5121) (gg rfl rfl (eFF h5120)) rfl ?_
               obtain ⟨x5125, h5126, hF⟩ := ob_some hF
               refine Wo.og (o_lda (k := 0) t3 rfl rfl (map_at h5126) rfl rfl) (gg rfl rfl (eFF h5120)) rfl ?_
               refine Wo.og (o_mv rfl) (gg rfl rfl (eFF h5120)) rfl ?_
               refine Wo.og (o_mv rfl) (gg rfl rfl (eFF h5120)) rfl ?_
               obtain ⟨h5127, hF⟩ := gd_some hF
               replace h5127 := inB_some h5127
               refine Wo.open (k := 3) rfl (pos_of h5127) ?_
               rintro b5128 tg5129 rfl h5130
               refine Wo.og (o_ixa s39 rfl rfl h5127) (gg rfl rfl (eFF h5120)) rfl ?_
               obtain ⟨x5131, h5132, hF⟩ := ob_some hF
               refine Wo.og (o_lda (k := 3) t3 rfl rfl (map_at h5132) rfl rfl) (gg rfl rfl (eFF h5120)) rfl ?_
               refine Wo.og (o_bi rfl rfl (ib_neq _ _)) (gg rfl rfl (eFF h5120)) rfl ?_
               refine Wo.od (o_pf rfl h5120 rfl) rfl ?_
               refine Wo.nil ?_
               cases hF
               exact At.en () rfl (sc rfl (sc rfl (sc rfl (sc rfl (sc rfl (sc rfl sn)))))) (Turn.picks [] rfl rfl)
            ·clear h5133
             rintro ⟨⟩
             refine At.tn ?_
             rcases br_some hF with ⟨h5135, hF⟩ | ⟨h5135, hF⟩
             ·refine Wk.condT rfl h5135 ?_
              refine Wk.seq <| Wk.region <| Wo.od (o_as rfl) rfl ?_
              refine Wo.nil <| At.tn <| Wk.ret <| At.br <| At.tr ?_
              cases hF
              exact At.en () rfl (sc rfl sn) (Turn.picks [] rfl rfl)
             ·refine Wk.condF rfl h5135 ?_
              refine Wk.skip <| At.bn <| At.tn <| Wk.region <| Wo.od (o_bi rfl rfl (bin_add _ _ _)) rfl ?_
              refine Wo.od (o_mv rfl) rfl ?_
              refine Wo.nil ?_
              cases hF
              exact At.en () rfl (sc rfl (sc rfl (sc rfl (sc rfl (sc rfl sn))))) (Turn.picks [] rfl rfl)
   ·refine Wk.condF rfl h2515 ?_
    refine Wk.exit <| At.te ?_
    cases hF
    exact At.en () rfl sn (Turn.picks [] rfl rfl)
  ·clear h5136
   rcases r5137 with _ | _
   ·rintro ⟨⟩
    refine At.br <| At.tr ?_
    cases hF
    exact At.ret (.tmp rfl .nil) fun m' hm => ⟨(), rfl, (Hp.base h29 ((Turn.picks [] rfl rfl) m' hm))⟩
   ·rintro ⟨⟩
    refine At.be <| At.tn <| Wk.seq <| Wk.region <| Wo.od (o_as rfl) rfl ?_
    refine Wo.nil <| At.tn <| Wk.ret ?_
    cases hF
    exact At.ret (.tmp rfl .nil) fun m' hm => ⟨(), rfl, (Hp.base h29 ((Turn.picks [] rfl rfl) m' hm))⟩

end Go.Proofs.YtpclggcpobakhaaDoor.W11
end

section
/-
  Chapter 18, plain laws: drafts and bends come to some graph.
-/
namespace Go.Proofs.YtpclggcpobakhaaDoor
open Go Go.Ab Go.Ab.W

theorem lp_tot {σ ρ : Type} {body : σ → Option (σ ⊕ ρ)} {R : ρ → Prop} (I : Nat → σ → Prop) (h : ∀ k s, I k s → (∃ s', body s = some (.inl s') ∧ ∃ k', k' < k ∧ I k' s') ∨ ∃ r, body s = some (.inr r) ∧ R r) : ∀ k s n, I k s → k < n → ∃ r, lpN body n s = some r ∧ R r := by
 intro k
 induction k using Nat.strongRecOn with
 | _ k ih =>
  intro s n hI hk
  obtain ⟨n, rfl⟩ : ∃ n', n = n' + 1 := ⟨n - 1, by omega⟩
  rcases h k s hI with ⟨s', h1, k', h2, h3⟩ | ⟨r, h1, h2⟩
  ·obtain ⟨r, h4, h5⟩ := ih k' h2 s' n h3 (by omega)
   exact ⟨r, by rw [lp_next h1]; exact h4, h5⟩
  ·exact ⟨r, lp_end h1, h2⟩
/-- Some bool. -/
theorem br_bool {c : Bool} {a b : Option Bool} (ha : c = true → ∃ x, a = some x) (hb : c = false → ∃ x, b = some x) : ∃ x, br c a b = some x := by
 cases c with
 | true => exact ha rfl
 | false => exact hb rfl
theorem some_b (x : Bool) : ∃ y, some x = some y := ⟨x, rfl⟩
theorem lim_of {n : Nat} (h : n ≤ 1073741824) : lim n = true := Nat.ble_eq_true_of_le h

theorem L40_1_tot (n0 : Nat) (l4 : List (Nat × Nat)) (N a b : Int) (hN : N ≠ 0) (v : Bool) (n : Nat) (hn : 3 < n) : ∃ r, lpN (L40_1 n0 l4 N a b) n (v, 0) = some r := by
 obtain ⟨r, h, _⟩ := lp_tot (body := L40_1 n0 l4 N a b) (R := fun _ => True) (fun k s => 0 ≤ s.2 ∧ s.2 + k = 3) (fun k s hI => by
  obtain ⟨v, i⟩ := s
  obtain ⟨h1, h2⟩ := hI
  simp only at h1 h2
  simp only [L40_1]
  by_cases c1 : i < (l4.length : Int)
  ·rw [br_dt c1, ob_s]
   by_cases c2 : i < 3
   ·rw [decide_eq_true c2, br_t]
    have hb : inB i l4.length = true := decide_eq_true ⟨h1, by omega⟩
    have hlt : i.toNat < l4.length := by omega
    have he : l4[i.toNat]? = some l4[i.toNat] := by simp [hlt]
    rw [hb, gd_t, he, ob_s]
    generalize l4[i.toNat] = e
    obtain ⟨x, y⟩ := e
    simp only [gd_t]
    rw [gd_dt hN, gd_dt hN]
    have : ∃ z, br v (some true) (br (decide (Int.tmod (IntKind.wrap .i64 ((x : Nat) : Int)) N = a)) (br (decide (Int.tmod (IntKind.wrap .i64 ((y : Nat) : Int)) N = b)) (some true) (br (decide (Int.tmod (IntKind.wrap .i64 ((x : Nat) : Int)) N = b)) (some (decide (Int.tmod (IntKind.wrap .i64 ((y : Nat) : Int)) N = a))) (some false))) (br (decide (Int.tmod (IntKind.wrap .i64 ((x : Nat) : Int)) N = b)) (some (decide (Int.tmod (IntKind.wrap .i64 ((y : Nat) : Int)) N = a))) (some false))) = some z :=
     br_bool (fun _ => some_b _) fun _ => br_bool (fun _ => br_bool (fun _ => some_b _) fun _ => br_bool (fun _ => some_b _) fun _ => some_b _) fun _ => br_bool (fun _ => some_b _) fun _ => some_b _
    obtain ⟨z, hz⟩ := this
    refine .inl ⟨(z, i + 1), ?_, k - 1, by omega, by simp only; omega, by simp only; omega⟩
    rw [hz, ob_s, wrap_in (by omega) (by omega)]
   ·rw [decide_eq_false c2, br_f]; exact .inr ⟨v, rfl, trivial⟩
  ·rw [br_df c1, ob_s, br_f]; exact .inr ⟨v, rfl, trivial⟩) 3 (v, 0) n ⟨by simp, by simp⟩ hn
 exact ⟨r, h⟩
theorem L40_2_tot (n0 : Nat) (N a w : Int) (x3 : Nat) (l4 : List (Nat × Nat)) (hN : 1 ≤ N ∧ N ≤ 12) (hw : w ≠ 0) (l : List (Int × Int)) (c b : Int) (M : Nat) (hl : l.length ≤ M) (hM : M ≤ 1000) (hb : 0 ≤ b ∧ b ≤ N) (n : Nat) (hn : 12 < n) (hn0 : 3 < n0) :
  ∃ r, lpN (L40_2 n0 N a w x3 l4) n (l, c, b) = some r ∧ r.1.length ≤ M + 12 := by
 refine lp_tot (body := L40_2 n0 N a w x3 l4) (R := fun r => r.1.length ≤ M + 12) (fun k s => 0 ≤ s.2.2 ∧ s.2.2 + k = N ∧ s.1.length + k ≤ M + 12) (fun k s hI => ?_) (N - b).toNat (l, c, b) n ⟨hb.1, by simp only; omega, by simp only; omega⟩ (by omega)
 obtain ⟨l, c, b⟩ := s
 obtain ⟨h1, h2, h3⟩ := hI
 simp only at h1 h2 h3
 simp only [L40_2]
 by_cases c1 : b < N
 ·rw [br_dt c1]
  have e1 : ∃ z, br (decide (b = IntKind.wrap .i64 (a + w))) (some true) (br (decide (b = IntKind.wrap .i64 (a + 1))) (gd (decide (w ≠ 0)) (some (!decide (Int.tmod b w = 0)))) (some false)) = some z :=
   br_bool (fun _ => some_b _) fun _ => br_bool (fun _ => ⟨_, gd_dt hw _⟩) fun _ => some_b _
  obtain ⟨z, hz⟩ := e1
  rw [hz, ob_s]
  have e2 : ∃ c' z', br z (ob (ob (br (decide (Int.tmod c 2 = 1)) (ob (some (ushr .u16 x3 (ui .u64 (Int.tmod (IntKind.wrap .i64 (Int.tdiv c 2)) 16)))) fun y2906 => some (decide (uw .u16 (uw .u16 y2906 &&& uw .u16 1) = 1))) (some false)) fun v2904 => br v2904 (some false) (some z)) fun v2900 => some (IntKind.wrap .i64 (c + 1), v2900)) (some (c, z)) = some (c', z') := by
   cases z with
   | false => exact ⟨c, false, rfl⟩
   | true =>
    rw [br_t]
    have : ∃ q, (ob (br (decide (Int.tmod c 2 = 1)) (ob (some (ushr .u16 x3 (ui .u64 (Int.tmod (IntKind.wrap .i64 (Int.tdiv c 2)) 16)))) fun y2906 => some (decide (uw .u16 (uw .u16 y2906 &&& uw .u16 1) = 1))) (some false)) fun v2904 => br v2904 (some false) (some true)) = some q := by
     by_cases h : Int.tmod c 2 = 1
     ·rw [br_dt h, ob_s, ob_s]; exact br_bool (fun _ => some_b _) fun _ => some_b _
     ·rw [br_df h, ob_s]; exact br_bool (fun _ => some_b _) fun _ => some_b _
    obtain ⟨q, hq⟩ := this
    exact ⟨_, q, by rw [hq, ob_s]⟩
  obtain ⟨c', z', hz'⟩ := e2
  rw [hz', ob_s]
  obtain ⟨q, hq⟩ := L40_1_tot n0 l4 N a b (by omega) z' n0 hn0
  simp only [hq, ob_s]
  cases q with
  | false =>
   refine .inl ⟨(l, c', b + 1), ?_, k - 1, by omega, by simp only; omega, by simp only; omega, by simp only; omega⟩
   rw [br_f, ob_s, wrap_in (by omega) (by omega)]
  | true =>
   refine .inl ⟨(l ++ [(a, b)], c', b + 1), ?_, k - 1, by omega, by simp only; omega, by simp only; omega, by simp; omega⟩
   rw [br_t, lim_of (by simp; omega), gd_t, ob_s, wrap_in (by omega) (by omega)]
 ·rw [br_df c1]; exact .inr ⟨(l, c), rfl, by simp only; omega⟩
theorem L40_3_tot (n0 : Nat) (N w : Int) (x3 : Nat) (l4 : List (Nat × Nat)) (hN : 1 ≤ N ∧ N ≤ 12) (hw : w ≠ 0) (n : Nat) (hn : 12 < n) (hn0 : 12 < n0) :
  ∃ r, lpN (L40_3 n0 N x3 l4) n (w, [], 0, 0) = some r ∧ r.length ≤ 200 := by
 refine lp_tot (body := L40_3 n0 N x3 l4) (R := fun r => r.length ≤ 200) (fun k s => s.1 = w ∧ 0 ≤ s.2.2.2 ∧ s.2.2.2 + k = N ∧ s.2.1.length + 12 * k ≤ 144) (fun k s hI => ?_) N.toNat (w, [], 0, 0) n ⟨rfl, by simp, by simp only; omega, by simp; omega⟩ (by omega)
 obtain ⟨w', l, c, a⟩ := s
 obtain ⟨rfl, h1, h2, h3⟩ := hI
 simp only at h1 h2 h3 hw
 simp only [L40_3]
 by_cases c1 : a < N
 ·rw [br_dt c1]
  obtain ⟨r, hr, hrl⟩ := L40_2_tot n0 N a w' x3 l4 hN hw l c (IntKind.wrap .i64 (a + 1)) l.length (Nat.le_refl _) (by omega) (by rw [wrap_in (by omega) (by omega)]; omega) n0 hn0 (by omega)
  obtain ⟨l', c'⟩ := r
  simp only [hr, ob_s]
  exact .inl ⟨(w', l', c', a + 1), by rw [wrap_in (by omega) (by omega)], k - 1, by omega, rfl, by simp only; omega, by simp only; omega, by simp only at hrl ⊢; omega⟩
 ·rw [br_df c1]; exact .inr ⟨l, rfl, by omega⟩
theorem F40_tot (n x1 x2 x3 : Nat) (l4 : List (Nat × Nat)) (hn : 12 < n) : ∃ N es, F40 n x1 x2 x3 l4 = some (N, es) ∧ es.length ≤ 200 := by
 unfold F40
 have w1 : IntKind.wrap .i64 ((x1 % 4 : Nat) : Int) = ((x1 % 4 : Nat) : Int) := wrap_in (by omega) (by omega)
 have w2 : IntKind.wrap .i64 ((x2 % 3 : Nat) : Int) = ((x2 % 3 : Nat) : Int) := wrap_in (by omega) (by omega)
 have w3 : IntKind.wrap .i64 (1 + ((x1 % 4 : Nat) : Int)) = 1 + ((x1 % 4 : Nat) : Int) := wrap_in (by omega) (by omega)
 have w4 : IntKind.wrap .i64 (1 + ((x2 % 3 : Nat) : Int)) = 1 + ((x2 % 3 : Nat) : Int) := wrap_in (by omega) (by omega)
 rw [w1, w2, w3, w4, ob_s]
 have hN : ∀ a b : Nat, a < 4 → b < 3 → 1 ≤ (1 + (a : Int)) * (1 + (b : Int)) ∧ (1 + (a : Int)) * (1 + (b : Int)) ≤ 12 := by
  intro a b ha hb
  have h1 : a = 0 ∨ a = 1 ∨ a = 2 ∨ a = 3 := by omega
  have h2 : b = 0 ∨ b = 1 ∨ b = 2 := by omega
  rcases h1 with rfl | rfl | rfl | rfl <;> rcases h2 with rfl | rfl | rfl <;> decide
 have hN' := hN (x1 % 4) (x2 % 3) (Nat.mod_lt _ (by omega)) (Nat.mod_lt _ (by omega))
 rw [wrap_in (by omega) (by omega)]
 obtain ⟨r, hr, hl⟩ := L40_3_tot n ((1 + ((x1 % 4 : Nat) : Int)) * (1 + ((x2 % 3 : Nat) : Int))) (1 + ((x1 % 4 : Nat) : Int)) x3 l4 hN' (by omega) n hn hn
 exact ⟨_, r, by rw [hr, ob_s], hl⟩
end Go.Proofs.YtpclggcpobakhaaDoor
end

section
/-
  Chapter 18, plain laws: bends come to some graph; GraphChecks.
-/
namespace Go.Proofs.YtpclggcpobakhaaDoor
open Go Go.Ab Go.Ab.W

theorem L65_1_tot (n0 : Nat) (a : Int) (x2 : Nat) (l : List (Int × Int)) (b : Int) (ha : 0 ≤ a ∧ a < 64) (hb : 0 ≤ b ∧ b ≤ 65) (hl : l.length ≤ 201) (n : Nat) (hn : 65 < n) : ∃ r, lpN (L65_1 n0 a x2) n (l, b) = some r ∧ r.length ≤ 201 := by
 refine lp_tot (body := L65_1 n0 a x2) (R := fun r => r.length ≤ 201) (fun k s => 0 ≤ s.2 ∧ s.2 + k = 65 ∧ s.1.length ≤ 201) (fun k s hI => ?_) (65 - b).toNat (l, b) n ⟨hb.1, by simp only; omega, hl⟩ (by omega)
 obtain ⟨l, b⟩ := s
 obtain ⟨h1, h2, h3⟩ := hI
 simp only at h1 h2 h3
 have hmi : mi (IntKind.wrap .i64 (a + 5)) (64 : Int) ≤ 64 := by unfold mi; split <;> omega
 have w2 : IntKind.wrap .i64 ((x2 % 3 : Nat) : Int) = ((x2 % 3 : Nat) : Int) := wrap_in (by omega) (by omega)
 have w3 : IntKind.wrap .i64 (199 + ((x2 % 3 : Nat) : Int)) = 199 + ((x2 % 3 : Nat) : Int) := wrap_in (by omega) (by omega)
 simp only [L65_1, w2, w3]
 by_cases c1 : b < mi (IntKind.wrap .i64 (a + 5)) (64 : Int)
 ·rw [br_dt c1, ob_s]
  by_cases c2 : (l.length : Int) < 199 + ((x2 % 3 : Nat) : Int)
  ·rw [decide_eq_true c2, br_t]
   have : x2 % 3 < 3 := Nat.mod_lt _ (by omega)
   rw [lim_of (by simp; omega), gd_t, wrap_in (by omega) (by omega)]
   exact .inl ⟨(l ++ [(a, b)], b + 1), rfl, k - 1, by omega, by simp only; omega, by simp only; omega, by simp; omega⟩
  ·rw [decide_eq_false c2, br_f]; exact .inr ⟨l, rfl, h3⟩
 ·rw [br_df c1, ob_s, br_f]; exact .inr ⟨l, rfl, h3⟩
theorem L65_2_tot (n0 : Nat) (x2 : Nat) (n : Nat) (hn : 65 < n) (hn0 : 65 < n0) : ∃ r, lpN (L65_2 n0 x2) n ([], 0) = some r ∧ r.length ≤ 201 := by
 refine lp_tot (body := L65_2 n0 x2) (R := fun r => r.length ≤ 201) (fun k s => 0 ≤ s.2 ∧ s.2 + k = 64 ∧ s.1.length ≤ 201) (fun k s hI => ?_) 64 ([], 0) n ⟨by simp, by simp, by simp⟩ (by omega)
 obtain ⟨l, a⟩ := s
 obtain ⟨h1, h2, h3⟩ := hI
 simp only at h1 h2 h3
 simp only [L65_2]
 by_cases c1 : a < 64
 ·rw [br_dt c1, wrap_in (by omega) (by omega)]
  obtain ⟨r, hr, hrl⟩ := L65_1_tot n0 a x2 l (a + 1) ⟨h1, c1⟩ ⟨by omega, by omega⟩ h3 n0 hn0
  rw [hr, ob_s]
  exact .inl ⟨(r, a + 1), rfl, k - 1, by omega, by simp only; omega, by simp only; omega, hrl⟩
 ·rw [br_df c1]; exact .inr ⟨l, rfl, h3⟩
theorem okB_of {lo hi : Int} {n : Nat} (h : 0 ≤ lo ∧ lo ≤ hi ∧ hi ≤ (n : Int)) : okB lo hi n = true := decide_eq_true h
theorem F65_tot (n x1 x2 : Nat) (x3 x4 x5 N : Int) (l7 : List (Int × Int)) (hx : x2 < 256) (hl : l7.length ≤ 1000000) (hn : 65 < n) : ∃ N' es, F65 n x1 x2 x3 x4 x5 N l7 = some (N', es) ∧ es.length ≤ 300 := by
 unfold F65
 have hmi : 0 ≤ mi (l7.length : Int) (210 : Int) ∧ mi (l7.length : Int) (210 : Int) ≤ (l7.length : Int) ∧ mi (l7.length : Int) (210 : Int) ≤ 210 := by unfold mi; split <;> omega
 rw [okB_of ⟨by omega, hmi.1, hmi.2.1⟩, gd_t]
 generalize hL : ((l7.drop (0 : Int).toNat).take ((mi (l7.length : Int) (210 : Int) : Int).toNat - (0 : Int).toNat)) = L
 have hLl : L.length ≤ 210 := by
  rw [← hL, List.length_take]
  have := hmi.2.2
  omega
 unfold F26
 rw [lim_of (by omega), gd_t, ob_s]
 have w1 : IntKind.wrap .i64 ((L.length : Int) + 1) = (L.length : Int) + 1 := wrap_in (by omega) (by omega)
 rw [w1, gd_dt (by omega)]
 have w2 : IntKind.wrap .i64 ((x2 : Nat) : Int) = ((x2 : Nat) : Int) := wrap_in (by omega) (by omega)
 rw [w2, ob_s]
 obtain ⟨y, hy⟩ : ∃ y, y = Int.tmod ((x2 : Nat) : Int) ((L.length : Int) + 1) := ⟨_, rfl⟩
 have hy1 : 0 ≤ y ∧ y ≤ L.length := by
  rw [hy, Int.tmod_eq_emod_of_nonneg (Int.natCast_nonneg _)]
  have h1 := Int.emod_nonneg ((x2 : Nat) : Int) (show ((L.length : Int) + 1) ≠ 0 by omega)
  have h2 := Int.emod_lt_of_pos ((x2 : Nat) : Int) (show 0 < ((L.length : Int) + 1) by omega)
  omega
 rw [← hy]
 have fin : ∀ (q : Option (Int × List (Int × Int) × Nat)), (∃ N' es k, q = some (N', es, k) ∧ es.length ≤ 300) → ∃ N' es, (ob q fun (v256, l257, n259) => some (v256, l257)) = some (N', es) ∧ es.length ≤ 300 := by
  rintro q ⟨N', es, k, rfl, h⟩
  exact ⟨N', es, rfl, h⟩
 have ins : ∀ p : Int × Int, F82 n L y [p] = some (L.take y.toNat ++ [p] ++ L.drop y.toNat) ∧ (L.take y.toNat ++ [p] ++ L.drop y.toNat).length ≤ 300 := by
  intro p
  refine ⟨?_, by simp; omega⟩
  unfold F82
  rw [okB_of ⟨hy1.1, hy1.2, Int.le_refl _⟩, gd_t, lim_of (by simp; omega), gd_t]
 refine fin _ ?_
 have case1 : ∀ {p : Prop} [Decidable p] {a b : Option (Int × List (Int × Int) × Nat)}, (p → ∃ N' es k, a = some (N', es, k) ∧ es.length ≤ 300) → (¬ p → ∃ N' es k, b = some (N', es, k) ∧ es.length ≤ 300) → ∃ N' es k, br (decide p) a b = some (N', es, k) ∧ es.length ≤ 300 := by
  intro p _ a b ha hb
  by_cases h : p
  ·rw [br_dt h]; exact ha h
  ·rw [br_df h]; exact hb h
 have base : ∀ (N' : Int) (k : Nat), ∃ N'' es k', (some (N', L, k) : Option (Int × List (Int × Int) × Nat)) = some (N'', es, k') ∧ es.length ≤ 300 := fun N' k => ⟨_, _, _, rfl, by omega⟩
 refine case1 (fun _ => base _ _) fun _ => case1 (fun _ => ?_) fun _ => case1 (fun _ => case1 (fun h => ?_) fun _ => base _ _) fun _ => case1 (fun _ => case1 (fun h => ?_) fun _ => base _ _) fun _ => case1 (fun _ => case1 (fun h => ?_) fun _ => base _ _) fun _ => case1 (fun _ => base _ _) fun _ => case1 (fun _ => ?_) fun _ => base _ _
 ·rw [(ins _).1, ob_s]; exact ⟨_, _, _, rfl, (ins _).2⟩
 ·unfold F49
  rw [wrap_in (by omega) (by omega), okB_of ⟨hy1.1, by omega, by omega⟩, gd_t, decide_eq_true (show y < y + 1 by omega), gd_t, lim_of (by omega), gd_t, ob_s]
  exact ⟨_, _, _, rfl, by simp; omega⟩
 ·have hb : inB y L.length = true := decide_eq_true ⟨hy1.1, by omega⟩
  have hlt : y.toNat < L.length := by omega
  have he : L[y.toNat]? = some L[y.toNat] := by simp [hlt]
  rw [hb, gd_t, he, ob_s]
  generalize L[y.toNat] = e
  obtain ⟨u, v⟩ := e
  have he2 : (L.set y.toNat (v, v))[y.toNat]? = some (v, v) := by simp [hlt]
  simp only [gd_t, he2, ob_s]
  exact ⟨_, _, _, rfl, by simp; omega⟩
 ·have hb : inB y L.length = true := decide_eq_true ⟨hy1.1, by omega⟩
  have hlt : y.toNat < L.length := by omega
  have he : L[y.toNat]? = some L[y.toNat] := by simp [hlt]
  rw [hb, gd_t, he, ob_s]
  generalize L[y.toNat] = e
  obtain ⟨u, v⟩ := e
  simp only [(ins _).1, ob_s]
  exact ⟨_, _, _, rfl, (ins _).2⟩
 ·obtain ⟨r, hr, hrl⟩ := L65_2_tot n x2 n hn hn
  rw [hr, ob_s]; exact ⟨_, _, _, rfl, by omega⟩
theorem F28_tot (n x1 x2 x3 : Nat) (l4 : List (Nat × Nat)) (x8 x9 : Nat) (x10 x11 x12 : Int) (x13 x14 : Nat) (x15 x16 x17 : Int) (h9 : x9 < 256) (h14 : x14 < 256) (hn : 65 < n) :
  ∃ N1 e1 N2 e2 N3 e3, F28 n x1 x2 x3 l4 x8 x9 x10 x11 x12 x13 x14 x15 x16 x17 = some (N1, e1, N2, e2, N3, e3) ∧ e1.length ≤ 300 ∧ e2.length ≤ 300 ∧ e3.length ≤ 300 ∧ F40 n x1 x2 x3 l4 = some (N1, e1) := by
 obtain ⟨N1, e1, h1, g1⟩ := F40_tot n x1 x2 x3 l4 (by omega)
 obtain ⟨N2, e2, h2, g2⟩ := F65_tot n x8 x9 x10 x11 x12 N1 e1 h9 (by omega) hn
 obtain ⟨N3, e3, h3, g3⟩ := F65_tot n x13 x14 x15 x16 x17 N2 e2 h14 (by omega) hn
 refine ⟨N1, e1, N2, e2, N3, e3, ?_, by omega, g2, g3, h1⟩
 unfold F28
 simp only [h1, ob_s, h2, h3]

/-! ### GraphChecks -/
theorem L7_1_eq (n0 : Nat) (N1 N2 N3 N4 : Int) (e1 e2 e3 l19 : List (Int × Int)) (N : Int) (es : List (Int × Int)) (hes : es.length ≤ 300) (hn0 : 300 < n0) (n : Nat) (hn : 5 < n) :
  lpN (L7_1 n0 N1 e1 N2 e2 N3 e3 N4 l19 N es) n 0 = some (.inr ()) := by
 obtain ⟨r, h1, h2⟩ := lp_tot (body := L7_1 n0 N1 e1 N2 e2 N3 e3 N4 l19 N es) (R := fun r => r = .inr ()) (fun k s => 0 ≤ s ∧ s + k = 4) (fun k s hI => by
  obtain ⟨g1, g2⟩ := hI
  simp only [L7_1]
  by_cases c : s < 4
  ·rw [br_dt c]
   have hb : inB s 4 = true := decide_eq_true ⟨g1, by omega⟩
   rw [hb, gd_t]
   generalize hl : ([(N1, e1), (N2, e2), (N3, e3), (N4, ((l19.drop (0 : Int).toNat).take ((mi (l19.length : Int) (5 : Int) : Int).toNat - (0 : Int).toNat)))] : List (Int × List (Int × Int))) = gs
   have hgl : gs.length = 4 := by rw [← hl]; rfl
   have hlt : s.toNat < gs.length := by omega
   have he : gs[s.toNat]? = some gs[s.toNat] := by simp [hlt]
   rw [he, ob_s]
   generalize gs[s.toNat] = g
   obtain ⟨N', es'⟩ := g
   simp only [F27_eq n0 N N' es es' (by omega) (by omega), F44_eq n0 N N' es es' (by omega) (by omega), ob_s]
   refine .inl ⟨s + 1, ?_, k - 1, by omega, by omega, by omega⟩
   rw [show (!((decide (N = N') && decide (es = es')) == (decide (N = N') && decide (es = es')))) = false by simp, br_f, wrap_in (by omega) (by omega)]
  ·rw [br_df c]; exact .inr ⟨_, rfl, rfl⟩) 4 0 n ⟨by omega, by omega⟩ (by omega)
 rw [h1, h2]
theorem L7_2_eq (n0 : Nat) (N1 N2 N3 N4 : Int) (e1 e2 e3 l19 : List (Int × Int)) (h1 : e1.length ≤ 300) (h2 : e2.length ≤ 300) (h3 : e3.length ≤ 300) (hn0 : 300 < n0) (n : Nat) (hn : 5 < n) :
  lpN (L7_2 n0 N1 e1 N2 e2 N3 e3 N4 l19) n 0 = some (.inr ()) := by
 obtain ⟨r, k1, k2⟩ := lp_tot (body := L7_2 n0 N1 e1 N2 e2 N3 e3 N4 l19) (R := fun r => r = .inr ()) (fun k s => 0 ≤ s ∧ s + k = 4) (fun k s hI => by
  obtain ⟨g1, g2⟩ := hI
  simp only [L7_2]
  by_cases c : s < 4
  ·rw [br_dt c]
   have hb : inB s 4 = true := decide_eq_true ⟨g1, by omega⟩
   rw [hb, gd_t]
   have hR : ((l19.drop (0 : Int).toNat).take ((mi (l19.length : Int) (5 : Int) : Int).toNat - (0 : Int).toNat)).length ≤ 300 := by
    rw [List.length_take]
    have : mi (l19.length : Int) (5 : Int) ≤ 5 := by unfold mi; split <;> omega
    omega
   have hgs : ∀ g ∈ ([(N1, e1), (N2, e2), (N3, e3), (N4, ((l19.drop (0 : Int).toNat).take ((mi (l19.length : Int) (5 : Int) : Int).toNat - (0 : Int).toNat)))] : List (Int × List (Int × Int))), g.2.length ≤ 300 := by
    intro g hg
    simp only [List.mem_cons, List.not_mem_nil, or_false] at hg
    rcases hg with rfl | rfl | rfl | rfl
    ·exact h1
    ·exact h2
    ·exact h3
    ·exact hR
   generalize hl : ([(N1, e1), (N2, e2), (N3, e3), (N4, ((l19.drop (0 : Int).toNat).take ((mi (l19.length : Int) (5 : Int) : Int).toNat - (0 : Int).toNat)))] : List (Int × List (Int × Int))) = gs at hgs ⊢
   have hgl : gs.length = 4 := by rw [← hl]; rfl
   have hlt : s.toNat < gs.length := by omega
   have he : gs[s.toNat]? = some gs[s.toNat] := by simp [hlt]
   have hg := hgs gs[s.toNat] (List.getElem_mem hlt)
   rw [he, ob_s]
   generalize gs[s.toNat] = g at hg
   obtain ⟨N', es'⟩ := g
   simp only at hg
   simp only [F23_eq n0 N' es' (by omega) (by omega) (by omega), F43_eq n0 N' es' (by omega) (by omega), ob_s]
   simp only [decide_true, Bool.not_true, br_f]
   rw [L7_1_eq n0 N1 N2 N3 N4 e1 e2 e3 l19 N' es' hg hn0 n0 (by omega), ob_s]
   exact .inl ⟨s + 1, by simp only; rw [wrap_in (by omega) (by omega)], k - 1, by omega, by omega, by omega⟩
  ·rw [br_df c]; exact .inr ⟨_, rfl, rfl⟩) 4 0 n ⟨by omega, by omega⟩ (by omega)
 rw [k1, k2]
theorem F7_true (n x1 x2 x3 : Nat) (l4 : List (Nat × Nat)) (x8 x9 : Nat) (x10 x11 x12 : Int) (x13 x14 : Nat) (x15 x16 x17 x18 : Int) (l19 : List (Int × Int)) (h9 : x9 < 256) (h14 : x14 < 256) (hn : 300 < n) :
  F7 n x1 x2 x3 l4 x8 x9 x10 x11 x12 x13 x14 x15 x16 x17 x18 l19 = some true := by
 obtain ⟨N1, e1, N2, e2, N3, e3, h1, g1, g2, g3, _⟩ := F28_tot n x1 x2 x3 l4 x8 x9 x10 x11 x12 x13 x14 x15 x16 x17 h9 h14 (by omega)
 unfold F7
 have hmi : 0 ≤ mi (l19.length : Int) (5 : Int) ∧ mi (l19.length : Int) (5 : Int) ≤ (l19.length : Int) := by unfold mi; split <;> omega
 rw [okB_of ⟨by omega, hmi.1, hmi.2⟩, gd_t, h1, ob_s]
 simp only [L7_2_eq n N1 N2 N3 x18 e1 e2 e3 l19 g1 g2 g3 hn n (by omega), ob_s]
 rfl
end Go.Proofs.YtpclggcpobakhaaDoor
end

section
/-
  Chapter 18, plain laws: what the graph's functions and the reference's compute: sets, neighbours, borders.
-/
namespace Go.Proofs.YtpclggcpobakhaaDoor
open Go Go.Ab Go.Ab.W

def adj (es : List (Int × Int)) (i j : Nat) : Prop := ((i : Int), (j : Int)) ∈ es ∨ ((j : Int), (i : Int)) ∈ es
theorem adj_symm {es : List (Int × Int)} {i j : Nat} (h : adj es i j) : adj es j i := h.symm
theorem okE_mem {N : Int} : ∀ {es : List (Int × Int)} {p : Int × Int}, okEp N p es = true → ∀ e ∈ es, 0 ≤ e.1 ∧ e.1 < e.2 ∧ e.2 < N
 | [], _, _, e, he => by cases he
 | x :: es, p, h, e, he => by
  rw [okE_cons, Bool.and_eq_true] at h
  rcases List.mem_cons.1 he with rfl | he
  ·simp only [stepOk, Bool.and_eq_true, decide_eq_true_eq] at h
   exact h.1.1
  ·exact okE_mem h.2 e he
structure Okay (N : Nat) (es : List (Int × Int)) : Prop where
 pos : 1 ≤ N
 le : N ≤ 64
 len : es.length ≤ 200
 mem : ∀ e ∈ es, ∃ a b : Nat, e = ((a : Int), (b : Int)) ∧ a < b ∧ b < N
theorem okay_of {N : Int} {es : List (Int × Int)} (h : okG N es = true) : ∃ M : Nat, N = (M : Int) ∧ Okay M es := by
 simp only [okG, Bool.and_eq_true, decide_eq_true_eq] at h
 obtain ⟨⟨h1, h2, h3⟩, h4⟩ := h
 obtain ⟨M, rfl⟩ := Int.eq_ofNat_of_zero_le (show 0 ≤ N by omega)
 refine ⟨M, rfl, by omega, by omega, h3, fun e he => ?_⟩
 obtain ⟨g1, g2, g3⟩ := okE_mem h4 e he
 obtain ⟨a, b⟩ := e
 obtain ⟨a, rfl⟩ := Int.eq_ofNat_of_zero_le (show 0 ≤ a from g1)
 obtain ⟨b, rfl⟩ := Int.eq_ofNat_of_zero_le (show 0 ≤ b by simp only at g1 g2; omega)
 exact ⟨a, b, rfl, by simp only at g2; omega, by simp only at g3; omega⟩
theorem Okay.adj {N : Nat} {es : List (Int × Int)} (h : Okay N es) {i j : Nat} (ha : adj es i j) : i < N ∧ j < N ∧ i ≠ j := by
 rcases ha with ha | ha
 ·obtain ⟨a, b, e, h1, h2⟩ := h.mem _ ha
  simp only [Prod.mk.injEq, Int.natCast_inj] at e
  omega
 ·obtain ⟨a, b, e, h1, h2⟩ := h.mem _ ha
  simp only [Prod.mk.injEq, Int.natCast_inj] at e
  omega

/-! ### Lengths of words, errors -/
def bl (x : Nat) : Nat := if x = 0 then 0 else Nat.log2 x + 1
theorem lt_bl {x k : Nat} : k < bl x ↔ 2 ^ k ≤ x := by
 unfold bl
 by_cases h : x = 0
 ·subst h
  rw [if_pos rfl]
  have := Nat.two_pow_pos k
  omega
 ·rw [if_neg h, Nat.lt_succ_iff, Nat.le_log2 h]
theorem bl_unique {x m : Nat} (h : ∀ k, k < m ↔ 2 ^ k ≤ x) : m = bl x := by
 rcases Nat.lt_trichotomy m (bl x) with h1 | h1 | h1
 ·have := (h m).2 (lt_bl.1 h1); omega
 ·exact h1
 ·have := lt_bl.2 ((h (bl x)).1 h1); omega
theorem bl_shift {x s : Nat} (h : 2 ^ s ≤ x) : bl (x >>> s) + s = bl x := by
 refine bl_unique fun k => ?_
 rw [Nat.shiftRight_eq_div_pow]
 by_cases hk : k < s
 ·have : 2 ^ k ≤ 2 ^ s := Nat.pow_le_pow_right (by decide) (by omega)
  constructor
  ·intro _; omega
  ·intro _; omega
 ·obtain ⟨d, rfl⟩ : ∃ d, k = d + s := ⟨k - s, by omega⟩
  have h1 := lt_bl (x := x / 2 ^ s) (k := d)
  have h2 : 2 ^ (d + s) ≤ x ↔ 2 ^ d ≤ x / 2 ^ s := by rw [Nat.pow_add, Nat.le_div_iff_mul_le (Nat.two_pow_pos s)]
  rw [h2, ← h1]; omega
theorem tab_bl : ∀ y : Fin 256, tab256_482390[y.val]? = some (bl y.val) := by decide +kernel
theorem bl_le {x s : Nat} (h : x < 2 ^ s) : bl x ≤ s := by
 rcases Nat.lt_or_ge s (bl x) with h1 | h1
 ·have := lt_bl.1 h1; omega
 ·exact h1
theorem len_step (s y m : Nat) (hs : s ≤ 32) (hy : y < 2 ^ (2 * s)) (hm : m ≤ 64) : ∃ y' m' : Nat, br (decide (2 ^ s ≤ y)) (some (ushr .u64 y s, IntKind.wrap .i64 ((m : Int) + (s : Int)))) (some (y, (m : Int))) = some (y', (m' : Int)) ∧ y' < 2 ^ s ∧ bl y' + m' = bl y + m ∧ m' ≤ m + s := by
 by_cases h : 2 ^ s ≤ y
 ·refine ⟨y >>> s, m + s, ?_, ?_, ?_, Nat.le_refl _⟩
  ·rw [br_dt h, word_shr (by omega), wrap_in (by omega) (by omega)]; rfl
  ·rw [Nat.shiftRight_eq_div_pow, Nat.div_lt_iff_lt_mul (Nat.two_pow_pos s), ← Nat.pow_add]
   rw [Nat.two_mul] at hy; exact hy
  ·have := bl_shift h; omega
 ·exact ⟨y, m, br_df h _ _, by omega, rfl, by omega⟩
theorem F51_eq (n x : Nat) (hx : x < 2 ^ 64) : F51 n x = some ((bl x : Nat) : Int) := by
 unfold F51
 obtain ⟨y1, m1, e1, h1, b1, g1⟩ := len_step 32 x 0 (by omega) hx (by omega)
 have e1' : br (decide (4294967296 ≤ x)) (some (ushr .u64 x 32, (32 : Int))) (some (x, 0)) = some (y1, (m1 : Int)) := e1
 rw [e1', ob_s]
 obtain ⟨y2, m2, e2, h2, b2, g2⟩ := len_step 16 y1 m1 (by omega) h1 (by omega)
 have e2' : br (decide (65536 ≤ y1)) (some (ushr .u64 y1 16, IntKind.wrap .i64 ((m1 : Int) + 16))) (some (y1, (m1 : Int))) = some (y2, (m2 : Int)) := e2
 simp only [e2', ob_s]
 obtain ⟨y3, m3, e3, h3, b3, g3⟩ := len_step 8 y2 m2 (by omega) h2 (by omega)
 have e3' : br (decide (256 ≤ y2)) (some (ushr .u64 y2 8, IntKind.wrap .i64 ((m2 : Int) + 8))) (some (y2, (m2 : Int))) = some (y3, (m3 : Int)) := e3
 simp only [e3', ob_s]
 have h3 : y3 < 256 := h3
 have e : uw .u8 y3 = y3 := Nat.mod_eq_of_lt h3
 have h8 : bl y3 ≤ 8 := bl_le h3
 have ht : tab256_482390[y3]? = some (bl y3) := tab_bl ⟨y3, h3⟩
 have w1 : IntKind.wrap .i64 ((bl y3 : Nat) : Int) = ((bl y3 : Nat) : Int) := wrap_in (by omega) (by omega)
 rw [e, inB_nat h3, gd_t, Int.toNat_natCast, ht, ob_s, w1, wrap_in (by omega) (by omega)]
 simp only [Option.some.injEq]; omega
theorem F42_eq {n x : Nat} (h : x < 2 ^ 64) : F42 n x = some ((tz x : Nat) : Int) := by unfold F42; rw [decide_eq_true h, gd_t]
/-- What is wrong with a graph and a set. -/
def ckF (N : Int) (es : List (Int × Int)) (x : Nat) : Int := if okG N es then (if 2 ^ N.toNat ≤ x then 2 else 0) else 180
theorem F55_eq (n : Nat) (N : Int) (es : List (Int × Int)) (x : Nat) (hx : x < 2 ^ 64) (hn : 2 < n) (hl : es.length < 4611686018427387904) (hk : es.length < n) : F55 n N es x = some (ckF N es x) := by
 unfold F55 ckF
 rw [F23_eq n N es hn hl hk, ob_s]
 unfold ckG
 by_cases h : okG N es = true
 ·obtain ⟨M, rfl, hM⟩ := okay_of h
  rw [if_pos h, if_pos h]
  simp only [decide_true, Bool.not_true, br_f, F51_eq n x hx, ob_s, Int.toNat_natCast]
  by_cases h2 : 2 ^ M ≤ x
  ·have := lt_bl.2 h2
   rw [if_pos h2, br_dt (by omega)]
  ·have : ¬ M < bl x := fun h => h2 (lt_bl.1 h)
   rw [if_neg h2, br_df (by omega)]
 ·rw [if_neg h, if_neg h]; rfl
theorem F66_eq (n : Nat) (N : Int) (es : List (Int × Int)) (x : Nat) (hx : x < 2 ^ 64) (hl : es.length < 4611686018427387904) (hk : es.length < n) : F66 n N es x = some (ckF N es x) := by
 unfold F66 ckF
 rw [F43_eq n N es hl hk, ob_s]
 unfold ckG
 by_cases h : okG N es = true
 ·obtain ⟨M, rfl, hM⟩ := okay_of h
  rw [if_pos h, if_pos h]
  simp only [decide_true, Bool.not_true, br_f, Int.toNat_natCast]
  by_cases h64 : M < 64
  ·have hu : ui .u64 (M : Int) = M := (ui_nn (by omega) (by omega)).trans (Int.toNat_natCast M)
   rw [br_dt (by omega), ob_s, hu, word_shr (by omega), Nat.shiftRight_eq_div_pow]
   by_cases h2 : 2 ^ M ≤ x
   ·have : 0 < x / 2 ^ M := Nat.div_pos h2 (Nat.two_pow_pos _)
    rw [if_pos h2, decide_eq_false (by omega)]; rfl
   ·have : x / 2 ^ M = 0 := Nat.div_eq_of_lt (by omega)
    rw [if_neg h2, decide_eq_true this]; rfl
  ·have hM64 : M = 64 := by have := hM.le; omega
   subst hM64
   rw [br_df (by omega), ob_s, if_neg (by omega)]; rfl
 ·rw [if_neg h, if_neg h]; rfl
/-- A set that fits. -/
theorem ckF_ok {N : Int} {es : List (Int × Int)} {x : Nat} (h : ckF N es x = 0) : ∃ M : Nat, N = (M : Int) ∧ Okay M es ∧ x < 2 ^ M := by
 unfold ckF at h
 split at h
 ·rename_i hk
  obtain ⟨M, rfl, hM⟩ := okay_of hk
  split at h
  ·cases h
  ·rename_i h2
   rw [Int.toNat_natCast] at h2
   exact ⟨M, rfl, hM, by omega⟩
 ·cases h
theorem F67_eq (n x i : Nat) (hx : x < 2 ^ 64) (hi : i < 64) : F67 n x ((i : Nat) : Int) = some (x.testBit i) := by
 unfold F67
 rw [ui_nn (by omega) (by omega), Int.toNat_natCast, bit_at hx (by omega)]
theorem F57_eq (n x i : Nat) (hx : x < 2 ^ 64) (hi : i < 64) : F57 n x ((i : Nat) : Int) = some (x.testBit i) := by
 unfold F57
 rw [decide_eq_true (show (0 : Int) ≤ (i : Int) by omega), gd_t, Int.toNat_natCast, bit_at hx (by omega)]
theorem F68_eq (n i : Nat) (hi : i < 64) : F68 n ((i : Nat) : Int) = some (2 ^ i) := by
 unfold F68
 rw [ui_nn (by omega) (by omega), Int.toNat_natCast, word_one hi]
theorem lt64 {x N : Nat} (h : x < 2 ^ N) (hN : N ≤ 64) : x < 2 ^ 64 := Nat.lt_of_lt_of_le h (Nat.pow_le_pow_right (by decide) hN)
theorem tb_ltN {x N i : Nat} (h : x < 2 ^ N) (hi : x.testBit i = true) : i < N := by
 rcases Nat.lt_or_ge i N with h1 | h1
 ·exact h1
 ·rw [Nat.testBit_lt_two_pow (Nat.lt_of_lt_of_le h (Nat.pow_le_pow_right (by decide) h1))] at hi; cases hi

/-! ### The neighbours of each node -/
def addA (L : List Nat) (e : Int × Int) : List Nat :=
 let L1 := L.set e.1.toNat (L.getD e.1.toNat 0 ||| 2 ^ e.2.toNat)
 L1.set e.2.toNat (L1.getD e.2.toNat 0 ||| 2 ^ e.1.toNat)
def AroundOk (N : Nat) (es : List (Int × Int)) (L : List Nat) : Prop := L.length = N ∧ ∀ k, k < N → ∃ w, L[k]? = some w ∧ w < 2 ^ 64 ∧ ∀ i, w.testBit i = true ↔ adj es k i
theorem adj_snoc {es : List (Int × Int)} {a b k i : Nat} : adj (es ++ [((a : Int), (b : Int))]) k i ↔ adj es k i ∨ (k = a ∧ i = b) ∨ (k = b ∧ i = a) := by
 unfold adj
 simp only [List.mem_append, List.mem_singleton, Prod.mk.injEq, Int.natCast_inj]
 constructor
 ·rintro ((h | h) | (h | h))
  ·exact .inl (.inl h)
  ·exact .inr (.inl h)
  ·exact .inl (.inr h)
  ·exact .inr (.inr ⟨h.2, h.1⟩)
 ·rintro ((h | h) | (h | h))
  ·exact .inl (.inl h)
  ·exact .inr (.inl h)
  ·exact .inl (.inr h)
  ·exact .inr (.inr ⟨h.2, h.1⟩)
theorem around_step {N : Nat} {es : List (Int × Int)} {L : List Nat} (h : AroundOk N es L) {a b : Nat} (hab : a < b) (hb : b < N) (hN : N ≤ 64) : AroundOk N (es ++ [((a : Int), (b : Int))]) (addA L ((a : Int), (b : Int))) := by
 obtain ⟨hl, hw⟩ := h
 obtain ⟨wa, ha1, ha2, ha3⟩ := hw a (by omega)
 obtain ⟨wb, hb1, hb2, hb3⟩ := hw b hb
 have e1 : L.getD a 0 = wa := by simp [List.getD, ha1]
 have hset : (L.set a (wa ||| 2 ^ b))[b]? = some wb := by rw [List.getElem?_set_ne (by omega)]; exact hb1
 have e2 : (L.set a (wa ||| 2 ^ b)).getD b 0 = wb := by simp only [List.getD, hset]; rfl
 unfold addA
 simp only [Int.toNat_natCast, e1, e2]
 refine ⟨by simp [hl], fun k hk => ?_⟩
 by_cases hkb : k = b
 ·subst hkb
  refine ⟨wb ||| 2 ^ a, by rw [List.getElem?_set_self (by simp [hl]; exact hk)], or_lt' hb2 (one_lt (by omega)), fun i => ?_⟩
  rw [Nat.testBit_or, Bool.or_eq_true, hb3, tb_one, decide_eq_true_eq, adj_snoc]
  constructor
  ·rintro (h | h)
   ·exact .inl h
   ·exact .inr (.inr ⟨rfl, h⟩)
  ·rintro (h | ⟨h, _⟩ | ⟨_, h⟩)
   ·exact .inl h
   ·omega
   ·exact .inr h
 ·by_cases hka : k = a
  ·subst hka
   refine ⟨wa ||| 2 ^ b, by rw [List.getElem?_set_ne (by omega), List.getElem?_set_self (by simp [hl]; exact hk)], or_lt' ha2 (one_lt (by omega)), fun i => ?_⟩
   rw [Nat.testBit_or, Bool.or_eq_true, ha3, tb_one, decide_eq_true_eq, adj_snoc]
   constructor
   ·rintro (h | h)
    ·exact .inl h
    ·exact .inr (.inl ⟨rfl, h⟩)
   ·rintro (h | ⟨_, h⟩ | ⟨h, _⟩)
    ·exact .inl h
    ·exact .inr h
    ·omega
  ·obtain ⟨w, h1, h2, h3⟩ := hw k hk
   refine ⟨w, by rw [List.getElem?_set_ne (by omega), List.getElem?_set_ne (by omega)]; exact h1, h2, fun i => ?_⟩
   rw [h3, adj_snoc]
   constructor
   ·exact .inl
   ·rintro (h | ⟨h, _⟩ | ⟨h, _⟩)
    ·exact h
    ·omega
    ·omega
theorem F75_eq (n N : Nat) (es : List (Int × Int)) (h : Okay N es) (hn : 200 < n) : ∃ L, F75 n (N : Int) es = some L ∧ AroundOk N es L := by
 have hN := h.le
 have hlen := h.len
 unfold F75
 rw [decide_eq_true (show (0 : Int) ≤ (N : Int) by omega), gd_t, Int.toNat_natCast, lim_of (by omega), gd_t]
 have := lp_list0 (body := L75_1 n es (N : Int)) es (fun (L : List Nat) (v : Int) => (L, v)) addA id (fun i L => AroundOk N (es.take i) L) (fun L i x hx hI => ?_) (fun L _ => ?_) (n := n) (s := List.replicate N 0) ⟨by simp, fun k hk => ⟨0, by simp [hk], by decide, fun i => by simp [adj]⟩⟩ (by omega)
 ·obtain ⟨h1, h2⟩ := this
  rw [h1, ob_s]
  rw [List.take_length] at h2
  exact ⟨_, rfl, h2⟩
 ·have hi : i < es.length := (List.getElem?_eq_some_iff.1 hx).1
  obtain ⟨a, b, rfl, hab, hbN⟩ := h.mem x (List.mem_of_getElem? hx)
  have hstep := around_step hI hab hbN hN
  have htk : es.take (i + 1) = es.take i ++ [((a : Int), (b : Int))] := by rw [List.take_add_one, hx]; rfl
  obtain ⟨hl, hw⟩ := hI
  obtain ⟨wa, ha1, ha2, ha3⟩ := hw a (by omega)
  obtain ⟨wb, hb1, hb2, hb3⟩ := hw b hbN
  have e1 : L.getD a 0 = wa := by simp [List.getD, ha1]
  have hset : (L.set a (wa ||| 2 ^ b))[b]? = some wb := by rw [List.getElem?_set_ne (by omega)]; exact hb1
  have e2 : (L.set a (wa ||| 2 ^ b)).getD b 0 = wb := by simp only [List.getD, hset]; rfl
  refine ⟨?_, by rw [htk]; exact hstep⟩
  simp only [L75_1, Int.toNat_natCast, hx, ob_s, ha1, word_one (show b < 64 by omega), word_one (show a < 64 by omega), inB_nat hi, inB_nat (show a < N by omega), inB_nat hbN, gd_t, word_or ha2 (one_lt (show b < 64 by omega)), hset, word_or hb2 (one_lt (show a < 64 by omega)), wrap_succ (show i < 4611686018427387904 by omega), addA, e1, e2]
  rw [br_dt (by omega), decide_eq_true (show (0 : Int) ≤ (b : Int) by omega), gd_t, decide_eq_true (show (0 : Int) ≤ (a : Int) by omega), gd_t]
 ·simp only [L75_1]
  rw [br_df (by omega)]; rfl

/-! ### The neighbours of a set -/
def nbP (es : List (Int × Int)) (x i : Nat) : Prop := (∃ k, x.testBit k = true ∧ adj es k i) ∧ x.testBit i = false
theorem F56_eq (n N : Nat) (es : List (Int × Int)) (x : Nat) (h : Okay N es) (hx : x < 2 ^ N) (hn : 200 < n) : ∃ w, F56 n (N : Int) es x = some w ∧ w < 2 ^ 64 ∧ ∀ i, w.testBit i = true ↔ nbP es x i := by
 have hx64 := lt64 hx h.le
 obtain ⟨L, hL, hlen, hw⟩ := F75_eq n N es h hn
 unfold F56
 rw [hL, ob_s, ob_s]
 have hat : ∀ k, x.testBit k = true → ∃ w, L[k]? = some w ∧ L.getD k 0 = w ∧ w < 2 ^ 64 ∧ ∀ i, w.testBit i = true ↔ adj es k i := fun k hk => by
  obtain ⟨w, h1, h2, h3⟩ := hw k (tb_ltN hx hk)
  exact ⟨w, h1, by simp [List.getD, h1], h2, h3⟩
 have := lp_bits (body := L56_1 n L) (fun (r s : Nat) => (r, s)) (fun s k => s ||| L.getD k 0) id (fun s => s < 2 ^ 64) x (fun r s h0 hr hb hs => ?_) (fun s _ => ?_) n x 0 hx64 (fun i hi => hi) (by decide) (by have := bitsOf_len x; omega)
 ·simp only [this, ob_s, id_eq]
  have hlt := foldl_or_lt (fun k => L.getD k 0) (bitsOf x) 0 (by decide) fun k hk => by
   obtain ⟨w, _, h2, h3, _⟩ := hat k ((mem_bitsOf hx64).1 hk)
   rw [h2]; exact h3
  refine ⟨_, rfl, andn_lt hlt hx64, fun i => ?_⟩
  rw [tb_andn hlt hx64, Bool.and_eq_true, foldl_or, nbP]
  simp only [Nat.zero_testBit, Bool.false_eq_true, false_or, Bool.not_eq_true', mem_bitsOf hx64]
  constructor
  ·rintro ⟨⟨k, hk, h1⟩, h2⟩
   obtain ⟨w, _, e, _, h3⟩ := hat k hk
   rw [e] at h1
   exact ⟨⟨k, hk, (h3 i).1 h1⟩, h2⟩
  ·rintro ⟨⟨k, hk, h1⟩, h2⟩
   obtain ⟨w, _, e, _, h3⟩ := hat k hk
   exact ⟨⟨k, hk, by rw [e]; exact (h3 i).2 h1⟩, h2⟩
 ·obtain ⟨w, h1, h2, h3, h4⟩ := hat _ hb
  have hkN := tb_ltN hx hb
  refine ⟨?_, by rw [h2]; exact or_lt' hs h3⟩
  simp only [L56_1, F42_eq hr, ob_s, Int.toNat_natCast, h1, h2, word_or hs h3]
  rw [show (!decide (r = 0)) = true by simp; omega, br_t, inB_nat (by omega), gd_t]
  rfl
 ·simp only [L56_1]
  rfl
theorem nb_mem {N : Nat} {es : List (Int × Int)} (h : Okay N es) {x i : Nat} : nbP es x i ↔ ∃ a b : Nat, ((a : Int), (b : Int)) ∈ es ∧ ((x.testBit a = true ∧ x.testBit b = false ∧ i = b) ∨ (x.testBit b = true ∧ x.testBit a = false ∧ i = a)) := by
 unfold nbP adj
 constructor
 ·rintro ⟨⟨k, hk, h1 | h1⟩, h2⟩
  ·exact ⟨k, i, h1, .inl ⟨hk, h2, rfl⟩⟩
  ·exact ⟨i, k, h1, .inr ⟨hk, h2, rfl⟩⟩
 ·rintro ⟨a, b, hm, ⟨h1, h2, rfl⟩ | ⟨h1, h2, rfl⟩⟩
  ·exact ⟨⟨a, h1, .inl hm⟩, h2⟩
  ·exact ⟨⟨b, h1, .inr hm⟩, h2⟩
theorem F30_body (n : Nat) (es : List (Int × Int)) (x : Nat) (v i a b : Nat) (hx : x < 2 ^ 64) (hv : v < 2 ^ 64) (he : es[i]? = some ((a : Int), (b : Int))) (ha : a < 64) (hb : b < 64) (hi : i < 4611686018427387904) :
  L30_1 n es x (v, (i : Int)) = some (.inl ((let v1 := if x.testBit a && !x.testBit b then v ||| 2 ^ b else v; if x.testBit b && !x.testBit a then v1 ||| 2 ^ a else v1), ((i + 1 : Nat) : Int))) := by
 have hlt : i < es.length := (List.getElem?_eq_some_iff.1 he).1
 have h1 : ∀ u, u < 2 ^ 64 → uw .u64 (uw .u64 u ||| uw .u64 (2 ^ b)) = u ||| 2 ^ b := fun u hu => word_or hu (one_lt hb)
 have h2 : ∀ u, u < 2 ^ 64 → uw .u64 (uw .u64 u ||| uw .u64 (2 ^ a)) = u ||| 2 ^ a := fun u hu => word_or hu (one_lt ha)
 have hvb : v ||| 2 ^ b < 2 ^ 64 := or_lt' hv (one_lt hb)
 unfold L30_1
 simp only [Int.toNat_natCast, he, ob_s, F67_eq n x a hx ha, F67_eq n x b hx hb, F68_eq n a ha, F68_eq n b hb, inB_nat hlt, gd_t, wrap_succ hi]
 rw [br_dt (by omega)]
 cases x.testBit a <;> cases x.testBit b <;> simp only [br_t, br_f, ob_s, Bool.not_true, Bool.not_false, Bool.and_self, Bool.and_true, Bool.and_false, Bool.true_and, Bool.false_and, if_true, Bool.false_eq_true, if_false, h1 v hv, h2 v hv]
theorem F30_nb (n N : Nat) (es : List (Int × Int)) (x : Nat) (h : Okay N es) (hx : x < 2 ^ N) (hn : 200 < n) : ∃ w, lpN (L30_1 n es x) n (0, 0) = some w ∧ w < 2 ^ 64 ∧ ∀ i, w.testBit i = true ↔ nbP es x i := by
 have hx64 := lt64 hx h.le
 have hN := h.le
 have hlen := h.len
 have := lp_list0 (body := L30_1 n es x) es (fun (s : Nat) (v : Int) => (s, v)) (fun v e => (let v1 := if x.testBit e.1.toNat && !x.testBit e.2.toNat then v ||| 2 ^ e.2.toNat else v; if x.testBit e.2.toNat && !x.testBit e.1.toNat then v1 ||| 2 ^ e.1.toNat else v1)) id
  (fun k s => s < 2 ^ 64 ∧ ∀ i, s.testBit i = true ↔ ∃ a b : Nat, ((a : Int), (b : Int)) ∈ es.take k ∧ ((x.testBit a = true ∧ x.testBit b = false ∧ i = b) ∨ (x.testBit b = true ∧ x.testBit a = false ∧ i = a))) (fun s k e he hI => ?_) (fun s _ => ?_) (n := n) (s := 0) ⟨by decide, fun i => by simp⟩ (by omega)
 ·obtain ⟨h1, h2, h3⟩ := this
  rw [List.take_length] at h3
  exact ⟨_, h1, h2, fun i => (h3 i).trans (nb_mem h).symm⟩
 ·have hi : k < es.length := (List.getElem?_eq_some_iff.1 he).1
  obtain ⟨a, b, rfl, hab, hbN⟩ := h.mem e (List.mem_of_getElem? he)
  have htk : es.take (k + 1) = es.take k ++ [((a : Int), (b : Int))] := by rw [List.take_add_one, he]; rfl
  obtain ⟨hs, hb⟩ := hI
  simp only [Int.toNat_natCast]
  refine ⟨F30_body n es x s k a b hx64 hs he (by omega) (by omega) (by omega), ?_, fun i => ?_⟩
  ·cases x.testBit a <;> cases x.testBit b <;> simp only [Bool.not_true, Bool.not_false, Bool.and_self, Bool.and_true, Bool.and_false, if_true, Bool.false_eq_true, if_false]
   ·exact hs
   ·exact or_lt' hs (one_lt (by omega))
   ·exact or_lt' hs (one_lt (by omega))
   ·exact hs
  ·rw [htk]
   simp only [List.mem_append, List.mem_singleton, Prod.mk.injEq, Int.natCast_inj]
   have key : (∃ a' b' : Nat, (((a' : Int), (b' : Int)) ∈ es.take k ∨ (a' = a ∧ b' = b)) ∧ ((x.testBit a' = true ∧ x.testBit b' = false ∧ i = b') ∨ (x.testBit b' = true ∧ x.testBit a' = false ∧ i = a'))) ↔ s.testBit i = true ∨ ((x.testBit a = true ∧ x.testBit b = false ∧ i = b) ∨ (x.testBit b = true ∧ x.testBit a = false ∧ i = a)) := by
    rw [hb i]
    constructor
    ·rintro ⟨a', b', h1 | ⟨rfl, rfl⟩, h2⟩
     ·exact .inl ⟨a', b', h1, h2⟩
     ·exact .inr h2
    ·rintro (⟨a', b', h1, h2⟩ | h2)
     ·exact ⟨a', b', .inl h1, h2⟩
     ·exact ⟨a, b, .inr ⟨rfl, rfl⟩, h2⟩
   rw [key]
   cases x.testBit a <;> cases x.testBit b <;> simp [Nat.testBit_or, tb_one]
 ·simp only [L30_1]
  rw [br_df (by omega)]; rfl
/-- Neighbours: both. -/
theorem nb_both (n : Nat) (N : Int) (es : List (Int × Int)) (x : Nat) (hx : x < 2 ^ 64) (hn : 200 < n) (hl : es.length < 4611686018427387904) (hk : es.length < n) :
  ∃ w, F14 n N es x = some (w, ckF N es x) ∧ F30 n N es x = some (w, ckF N es x) ∧ (ckF N es x = 0 → w < 2 ^ 64 ∧ ∀ i, w.testBit i = true ↔ nbP es x i) := by
 unfold F14 F30
 rw [F55_eq n N es x hx (by omega) hl hk, F66_eq n N es x hx hl hk, ob_s, ob_s]
 by_cases h : ckF N es x = 0
 ·obtain ⟨M, rfl, hM, hxM⟩ := ckF_ok h
  obtain ⟨w1, h1, g1, e1⟩ := F56_eq n M es x hM hxM hn
  obtain ⟨w2, h2, g2, e2⟩ := F30_nb n M es x hM hxM hn
  have : w1 = w2 := word_ext fun i => by rw [e1, e2]
  subst this
  refine ⟨w1, ?_, ?_, fun _ => ⟨g1, e1⟩⟩
  ·rw [h, decide_eq_true rfl, Bool.not_true, br_f, h1, ob_s]
  ·rw [h, decide_eq_true rfl, Bool.not_true, br_f, h2, ob_s]
 ·refine ⟨0, ?_, ?_, fun h' => absurd h' h⟩
  ·rw [decide_eq_false h, Bool.not_false, br_t]
  ·rw [decide_eq_false h, Bool.not_false, br_t]

/-! ### The border of a set -/
def cross (x : Nat) (e : Int × Int) : Bool := !(x.testBit e.1.toNat == x.testBit e.2.toNat)
theorem border_loop {n N : Nat} {es : List (Int × Int)} {x : Nat} (h : Okay N es) (body : (List (Int × Int) × Int) → Option ((List (Int × Int) × Int) ⊕ (List (Int × Int))))
  (hb : ∀ (s : List (Int × Int)) (k a b : Nat), es[k]? = some ((a : Int), (b : Int)) → a < 64 → b < 64 → s.length ≤ k → k < 200 → body (s, (k : Int)) = some (.inl ((if cross x ((a : Int), (b : Int)) then s ++ [((a : Int), (b : Int))] else s), ((k + 1 : Nat) : Int)))) (he : ∀ s, body (s, (es.length : Int)) = some (.inr s)) (hn : 200 < n) :
  lpN body n ([], 0) = some (es.filter (cross x)) := by
 have hN := h.le
 have hlen := h.len
 have := lp_list0 (body := body) es (fun (s : List (Int × Int)) (v : Int) => (s, v)) (fun s e => if cross x e then s ++ [e] else s) id (fun k s => s.length ≤ k ∧ s = (es.take k).filter (cross x)) (fun s k e he' hI => ?_) (fun s _ => he s) (n := n) (s := []) ⟨by simp, by simp⟩ (by omega)
 ·obtain ⟨h1, h2, h3⟩ := this
  rw [h1, h3, List.take_length]; rfl
 ·have hi : k < es.length := (List.getElem?_eq_some_iff.1 he').1
  obtain ⟨a, b, rfl, hab, hbN⟩ := h.mem e (List.mem_of_getElem? he')
  have htk : es.take (k + 1) = es.take k ++ [((a : Int), (b : Int))] := by rw [List.take_add_one, he']; rfl
  refine ⟨hb s k a b he' (by omega) (by omega) hI.1 (by omega), ?_, ?_⟩
  ·split
   ·simp; have := hI.1; omega
   ·have := hI.1; omega
  ·rw [htk, List.filter_append, ← hI.2]
   by_cases hc : cross x ((a : Int), (b : Int)) = true
   ·rw [if_pos hc, List.filter_cons_of_pos hc]; rfl
   ·rw [if_neg hc, List.filter_cons_of_neg hc]; simp
theorem border_both (n : Nat) (N : Int) (es : List (Int × Int)) (x : Nat) (hx : x < 2 ^ 64) (hn : 200 < n) (hl : es.length < 4611686018427387904) (hk : es.length < n) :
  ∃ l, F15 n N es x = some (l, ckF N es x) ∧ F31 n N es x = some (l, ckF N es x) ∧ l.length ≤ 300 ∧ (ckF N es x = 0 → l = es.filter (cross x)) := by
 unfold F15 F31
 rw [F55_eq n N es x hx (by omega) hl hk, F66_eq n N es x hx hl hk, ob_s, ob_s]
 by_cases h : ckF N es x = 0
 ·obtain ⟨M, rfl, hM, hxM⟩ := ckF_ok h
  have hlen := hM.len
  have h1 : lpN (L15_1 n es x) n ([], 0) = some (es.filter (cross x)) := border_loop hM _ (fun s k a b he ha hb hs hk => by
   have hi : k < es.length := (List.getElem?_eq_some_iff.1 he).1
   unfold L15_1
   simp only [Int.toNat_natCast, he, ob_s, F57_eq n x a hx ha, F57_eq n x b hx hb, inB_nat hi, gd_t, wrap_succ (show k < 4611686018427387904 by omega), cross]
   rw [br_dt (by omega)]
   rcases Bool.eq_false_or_eq_true (x.testBit a == x.testBit b) with hc | hc
   ·simp only [hc, Bool.not_true, br_f, ob_s, Bool.false_eq_true, if_false]
   ·simp only [hc, Bool.not_false, br_t, ob_s, if_true]
    rw [lim_of (by simp; omega), gd_t, ob_s]) (fun s => by
   unfold L15_1
   simp only
   rw [br_df (by omega)]) hn
  have h2 : lpN (L31_1 n es x) n ([], 0) = some (es.filter (cross x)) := border_loop hM _ (fun s k a b he ha hb hs hk => by
   have hi : k < es.length := (List.getElem?_eq_some_iff.1 he).1
   unfold L31_1
   simp only [Int.toNat_natCast, he, ob_s, F67_eq n x a hx ha, F67_eq n x b hx hb, inB_nat hi, gd_t, wrap_succ (show k < 4611686018427387904 by omega), cross]
   rw [br_dt (by omega)]
   rcases Bool.eq_false_or_eq_true (x.testBit a == x.testBit b) with hc | hc
   ·simp only [hc, Bool.not_true, br_f, ob_s, Bool.false_eq_true, if_false]
   ·simp only [hc, Bool.not_false, br_t, ob_s, if_true]
    rw [lim_of (by simp; omega), gd_t, ob_s]) (fun s => by
   unfold L31_1
   simp only
   rw [br_df (by omega)]) hn
  refine ⟨es.filter (cross x), ?_, ?_, Nat.le_trans (List.length_filter_le _ _) (by omega), fun _ => rfl⟩
  ·rw [h, decide_eq_true rfl, Bool.not_true, br_f, h1, ob_s]
  ·rw [h, decide_eq_true rfl, Bool.not_true, br_f, h2, ob_s]
 ·refine ⟨[], ?_, ?_, by simp, fun h' => absurd h' h⟩
  ·rw [decide_eq_false h, Bool.not_false, br_t]
  ·rw [decide_eq_false h, Bool.not_false, br_t]
end Go.Proofs.YtpclggcpobakhaaDoor
end

section
/-
  Chapter 18, plain laws: components.
-/
namespace Go.Proofs.YtpclggcpobakhaaDoor
open Go Go.Ab Go.Ab.W

/-- What can be reached within a set. -/
inductive Rch (es : List (Int × Int)) (S : Nat) (i : Nat) : Nat → Prop
 | refl : Rch es S i i
 | step {j k : Nat} (h : Rch es S i j) (ha : adj es j k) (hk : S.testBit k = true) : Rch es S i k
theorem Rch.mem {es : List (Int × Int)} {S i j : Nat} (h : Rch es S i j) (hi : S.testBit i = true) : S.testBit j = true := by
 cases h with
 | refl => exact hi
 | step _ _ hk => exact hk
theorem Rch.trans {es : List (Int × Int)} {S i j k : Nat} (h : Rch es S i j) (h' : Rch es S j k) : Rch es S i k := by
 induction h' with
 | refl => exact h
 | step _ ha hk ih => exact .step ih ha hk
theorem Rch.symm {es : List (Int × Int)} {S i j : Nat} (h : Rch es S i j) (hi : S.testBit i = true) : Rch es S j i := by
 induction h with
 | refl => exact .refl
 | step h' ha _ ih => exact Rch.trans (.step .refl (adj_symm ha) (h'.mem hi)) ih
/-- A component, ars a word. -/
def IsCl (es : List (Int × Int)) (S i w : Nat) : Prop := w < 2 ^ 64 ∧ ∀ j, w.testBit j = true ↔ Rch es S i j
theorem IsCl.unique {es : List (Int × Int)} {S i w w' : Nat} (h : IsCl es S i w) (h' : IsCl es S i w') : w = w' := word_ext fun j => by rw [h.2, h'.2]
/-- What is closed, holds the start and holds nothing but what is reached is the component. -/
theorem IsCl.of {es : List (Int × Int)} {S i w : Nat} (hw : w < 2 ^ 64) (hi : w.testBit i = true) (hr : ∀ j, w.testBit j = true → Rch es S i j) (hc : ∀ j k, w.testBit j = true → adj es j k → S.testBit k = true → w.testBit k = true) : IsCl es S i w := by
 refine ⟨hw, fun j => ⟨hr j, fun h => ?_⟩⟩
 induction h with
 | refl => exact hi
 | step _ ha hk ih => exact hc _ _ ih ha hk
/-- The components of what is left, in order. -/
inductive Cs (es : List (Int × Int)) (S : Nat) : Nat → List Nat → Prop
 | nil : Cs es S 0 []
 | cons {r w : Nat} {L : List Nat} (h0 : 0 < r) (hr : r < 2 ^ 64) (hw : IsCl es S (tz r) w) (t : Cs es S (uandn .u64 r w) L) : Cs es S r (w :: L)
theorem Cs.unique {es : List (Int × Int)} {S : Nat} {L : List Nat} : ∀ {r : Nat} {L' : List Nat}, Cs es S r L → Cs es S r L' → L = L' := by
 intro r L' h
 induction h generalizing L' with
 | nil => intro h'; cases h' with
  | nil => rfl
  | cons h0 => exact absurd h0 (Nat.lt_irrefl 0)
 | cons h0 hr hw _ ih => intro h'; cases h' with
  | nil => exact absurd h0 (Nat.lt_irrefl 0)
  | cons _ _ hw' t' =>
   have := hw.unique hw'
   subst this
   rw [ih t']

/-! ### Counting bits -/
def cnt (x : Nat) : Nat := (bitsOf x).length
theorem filter_le {p q : Nat → Bool} : ∀ {l : List Nat}, (∀ i ∈ l, p i = true → q i = true) → (l.filter p).length ≤ (l.filter q).length
 | [], _ => Nat.le_refl _
 | x :: l, h => by
  have ih := filter_le (p := p) (q := q) (l := l) fun i hi => h i (by simp [hi])
  by_cases hp : p x = true
  ·rw [List.filter_cons_of_pos hp, List.filter_cons_of_pos (h x (by simp) hp)]
   simp only [List.length_cons]; omega
  ·rw [List.filter_cons_of_neg hp]
   by_cases hq : q x = true
   ·rw [List.filter_cons_of_pos hq, List.length_cons]; omega
   ·rw [List.filter_cons_of_neg hq]; exact ih
theorem filter_lt {p q : Nat → Bool} {a : Nat} : ∀ {l : List Nat}, a ∈ l → (∀ i ∈ l, p i = true → q i = true) → p a = false → q a = true → (l.filter p).length < (l.filter q).length
 | x :: l, ha, h, h1, h2 => by
  by_cases hx : x = a
  ·subst hx
   rw [List.filter_cons_of_neg (by rw [h1]; decide), List.filter_cons_of_pos h2, List.length_cons]
   have := filter_le (p := p) (q := q) (l := l) fun i hi => h i (by simp [hi])
   omega
  ·have ha' : a ∈ l := by
    rcases List.mem_cons.1 ha with e | e
    ·exact absurd e.symm hx
    ·exact e
   have ih := filter_lt ha' (fun i hi => h i (by simp [hi])) h1 h2
   by_cases hp : p x = true
   ·rw [List.filter_cons_of_pos hp, List.filter_cons_of_pos (h x (by simp) hp)]
    simp only [List.length_cons]; omega
   ·rw [List.filter_cons_of_neg hp]
    by_cases hq : q x = true
    ·rw [List.filter_cons_of_pos hq, List.length_cons]; omega
    ·rw [List.filter_cons_of_neg hq]; exact ih
theorem cnt_lt {a b i : Nat} (hb : b < 2 ^ 64) (h : ∀ i, a.testBit i = true → b.testBit i = true) (h1 : a.testBit i = false) (h2 : b.testBit i = true) : cnt a < cnt b :=
 filter_lt (by have := tb_lt hb h2; simpa using this) (fun i _ h' => h i h') h1 h2

/-! ### The program's components -/
theorem L58_1_eq (n N : Nat) (es : List (Int × Int)) (L : List Nat) (S p : Nat) (hL : AroundOk N es L) (hS : S < 2 ^ 64) (hp : p < 2 ^ N) (hN : N ≤ 64) (hn : 64 < n) :
  ∃ q, lpN (L58_1 n L S) n (p, p) = some q ∧ q < 2 ^ 64 ∧ ∀ i, q.testBit i = true ↔ p.testBit i = true ∨ ∃ k, p.testBit k = true ∧ adj es k i ∧ S.testBit i = true := by
 have hp64 := lt64 hp hN
 have hat : ∀ k, p.testBit k = true → ∃ w, L[k]? = some w ∧ L.getD k 0 = w ∧ w < 2 ^ 64 ∧ ∀ i, w.testBit i = true ↔ adj es k i := fun k hk => by
  obtain ⟨w, h1, h2, h3⟩ := hL.2 k (tb_ltN hp hk)
  exact ⟨w, h1, by simp [List.getD, h1], h2, h3⟩
 have := lp_bits (body := L58_1 n L S) (fun (r s : Nat) => (r, s)) (fun s k => s ||| (L.getD k 0 &&& S)) id (fun s => s < 2 ^ 64) p (fun r s h0 hr hb hs => ?_) (fun s _ => ?_) n p p hp64 (fun i hi => hi) hp64 (by have := bitsOf_len p; omega)
 ·refine ⟨_, this, foldl_or_lt _ _ _ hp64 fun k hk => ?_, fun i => ?_⟩
  ·obtain ⟨w, _, h2, h3, _⟩ := hat k ((mem_bitsOf hp64).1 hk)
   rw [h2]; exact and_lt' h3
  ·rw [id_eq, foldl_or]
   simp only [mem_bitsOf hp64, Nat.testBit_and, Bool.and_eq_true]
   constructor
   ·rintro (h | ⟨k, hk, h1, h2⟩)
    ·exact .inl h
    ·obtain ⟨w, _, e, _, h3⟩ := hat k hk
     rw [e] at h1
     exact .inr ⟨k, hk, (h3 i).1 h1, h2⟩
   ·rintro (h | ⟨k, hk, h1, h2⟩)
    ·exact .inl h
    ·obtain ⟨w, _, e, _, h3⟩ := hat k hk
     exact .inr ⟨k, hk, by rw [e]; exact (h3 i).2 h1, h2⟩
 ·obtain ⟨w, h1, h2, h3, h4⟩ := hat _ hb
  have hkN := tb_ltN hp hb
  refine ⟨?_, by rw [h2]; exact or_lt' hs (and_lt' h3)⟩
  have hlen := hL.1
  simp only [L58_1, F42_eq hr, ob_s, Int.toNat_natCast, h1, h2, word_and h3 hS, word_or hs (and_lt' (b := S) h3)]
  rw [show (!decide (r = 0)) = true by simp; omega, br_t, inB_nat (by omega), gd_t]
  rfl
 ·simp only [L58_1]
  rfl
theorem L58_2_eq (n N : Nat) (es : List (Int × Int)) (L : List Nat) (S i : Nat) (hok : Okay N es) (hL : AroundOk N es L) (hS : S < 2 ^ N) (hi : S.testBit i = true) (hn : 64 < n) :
  ∀ (m p k : Nat), p < 2 ^ N → p.testBit i = true → (∀ j, p.testBit j = true → Rch es S i j) → 64 - cnt p < m → k = m → ∃ w, lpN (L58_2 n L S) k p = some w ∧ IsCl es S i w := by
 intro m
 have hN := hok.le
 have hS64 := lt64 hS hN
 induction m with
 | zero => intro p k _ _ _ h; exact absurd h (Nat.not_lt_zero _)
 | succ m ih =>
  rintro p k hp hpi hr hm rfl
  have hp64 := lt64 hp hN
  obtain ⟨q, h1, h2, h3⟩ := L58_1_eq n N es L S p hL hS64 hp hN hn
  have hbody : L58_2 n L S p = br (decide (q = p)) (some (.inr p)) (some (.inl q)) := by
   unfold L58_2
   rw [ob_s, h1, ob_s, ob_s]
  by_cases hq : q = p
  ·rw [hq, decide_eq_true rfl, br_t] at hbody
   rw [hq] at h3
   exact ⟨p, lp_end hbody, IsCl.of hp64 hpi hr fun j k hj ha hk => (h3 k).2 (.inr ⟨j, hj, ha, hk⟩)⟩
  ·rw [br_df hq] at hbody
   rw [lp_next hbody]
   have hsub : ∀ j, p.testBit j = true → q.testBit j = true := fun j hj => (h3 j).2 (.inl hj)
   have hqr : ∀ j, q.testBit j = true → Rch es S i j := fun j hj => by
    rcases (h3 j).1 hj with h | ⟨k, hk, ha, hs⟩
    ·exact hr j h
    ·exact .step (hr k hk) ha hs
   have hqN : q < 2 ^ N := by
    have : ∀ j, q.testBit j = true → S.testBit j = true := fun j hj => (hqr j hj).mem hi
    refine Nat.lt_pow_two_of_testBit q fun j hj => ?_
    cases e : q.testBit j with
    | false => rfl
    | true => have := tb_ltN hS (this j e); omega
   obtain ⟨j, hj1, hj2⟩ : ∃ j, p.testBit j = false ∧ q.testBit j = true := by
    apply Classical.byContradiction
    intro hno
    refine hq (word_ext fun j => ⟨fun hj => ?_, hsub j⟩)
    cases e : p.testBit j with
    | true => rfl
    | false => exact absurd ⟨j, e, hj⟩ hno
   have hc := cnt_lt h2 hsub hj1 hj2
   have hcl : cnt q ≤ 64 := bitsOf_len q
   exact ih q m hqN (hsub i hpi) hqr (by omega) rfl
theorem L58_3_eq (n N : Nat) (es : List (Int × Int)) (L : List Nat) (S : Nat) (hok : Okay N es) (hL : AroundOk N es L) (hS : S < 2 ^ N) (hn : 65 < n) :
  ∀ (m r k : Nat) (acc : List Nat), (∀ i, r.testBit i = true → S.testBit i = true) → r < 2 ^ 64 → cnt r < m → m ≤ k → acc.length + cnt r ≤ 64 → ∃ l, lpN (L58_3 n L S) k (acc, r) = some (acc ++ l) ∧ Cs es S r l ∧ l.length ≤ cnt r := by
 intro m
 have hN := hok.le
 induction m with
 | zero => intro r k acc _ _ h; exact absurd h (Nat.not_lt_zero _)
 | succ m ih =>
  intro r k acc hsub hr hm hk hacc
  obtain ⟨k, rfl⟩ : ∃ k', k = k' + 1 := ⟨k - 1, by omega⟩
  rcases Nat.eq_zero_or_pos r with h0 | h0
  ·subst h0
   refine ⟨[], ?_, .nil, Nat.zero_le _⟩
   rw [List.append_nil]
   exact lp_end (by simp only [L58_3]; rfl)
  ·obtain ⟨hb, _⟩ := tz_bit h0 hr
   have hSi := hsub _ hb
   have hiN := tb_ltN hS hSi
   obtain ⟨w, h1, hw⟩ := L58_2_eq n N es L S (tz r) hok hL hS hSi (by omega) n (2 ^ tz r) n (Nat.pow_lt_pow_right (by decide) hiN) (by rw [tb_one]; simp) (fun j hj => by
    rw [tb_one, decide_eq_true_eq] at hj; subst hj; exact .refl) (by omega) rfl
   have hwi : w.testBit (tz r) = true := (hw.2 _).2 .refl
   have hlt : cnt (uandn .u64 r w) < cnt r := cnt_lt (i := tz r) hr (fun i hi => by
    rw [tb_andn hr hw.1, Bool.and_eq_true] at hi; exact hi.1) (by rw [tb_andn hr hw.1, hwi]; simp) hb
   obtain ⟨l, h2, h3, h4⟩ := ih (uandn .u64 r w) k (acc ++ [w]) (fun i hi => by
    rw [tb_andn hr hw.1, Bool.and_eq_true] at hi; exact hsub i hi.1) (andn_lt hr hw.1) (by omega) (by omega) (by simp; omega)
   refine ⟨w :: l, ?_, .cons h0 hr hw h3, by simp; omega⟩
   rw [lp_next (s' := (acc ++ [w], uandn .u64 r w)) ?_, h2, List.append_assoc]; rfl
   simp only [L58_3]
   rw [show (!decide (r = 0)) = true by simp; omega, br_t, low_word h0 hr, h1, ob_s, lim_of (by simp; omega), gd_t]
theorem F58_eq (n N : Nat) (es : List (Int × Int)) (S : Nat) (hok : Okay N es) (hS : S < 2 ^ N) (hn : 200 < n) : ∃ l, F58 n (N : Int) es S = some l ∧ Cs es S S l ∧ l.length ≤ 64 := by
 obtain ⟨L, hL, hA⟩ := F75_eq n N es hok hn
 have hS64 := lt64 hS hok.le
 have hc : cnt S ≤ 64 := bitsOf_len S
 obtain ⟨l, h1, h2, h3⟩ := L58_3_eq n N es L S hok hA hS (by omega) (cnt S + 1) S n [] (fun i h => h) hS64 (by omega) (by omega) (by simpa using hc)
 refine ⟨l, ?_, h2, by omega⟩
 unfold F58
 rw [hL, ob_s, h1, ob_s]; rfl

/-! ### The reference's components -/
def rnd1 (S : Nat) (v : Nat) (e : Int × Int) : Nat := if S.testBit e.1.toNat && S.testBit e.2.toNat && (v.testBit e.1.toNat || v.testBit e.2.toNat) then v ||| 2 ^ e.1.toNat ||| 2 ^ e.2.toNat else v
theorem L71_body (n : Nat) (es : List (Int × Int)) (S v k a b : Nat) (hS : S < 2 ^ 64) (hv : v < 2 ^ 64) (he : es[k]? = some ((a : Int), (b : Int))) (ha : a < 64) (hb : b < 64) (hk : k < 200) :
  L71_1 n es (-1) S (v, (k : Int)) = some (.inl (rnd1 S v ((a : Int), (b : Int)), ((k + 1 : Nat) : Int))) := by
 have hlt : k < es.length := (List.getElem?_eq_some_iff.1 he).1
 have h1 : uw .u64 (uw .u64 (uw .u64 (uw .u64 v ||| uw .u64 (2 ^ a))) ||| uw .u64 (2 ^ b)) = v ||| 2 ^ a ||| 2 ^ b := by rw [word_or hv (one_lt ha), word_or (or_lt' hv (one_lt ha)) (one_lt hb)]
 have hne : (!decide ((k : Int) = -1)) = true := by rw [decide_eq_false (by omega)]; rfl
 unfold L71_1
 simp only [Int.toNat_natCast, he, ob_s, F67_eq n S a hS ha, F67_eq n S b hS hb, F67_eq n v a hv ha, F67_eq n v b hv hb, F68_eq n a ha, F68_eq n b hb, inB_nat hlt, gd_t, wrap_succ (show k < 4611686018427387904 by omega), hne, br_t, h1]
 rw [br_dt (by omega)]
 unfold rnd1
 simp only [Int.toNat_natCast]
 rcases Bool.eq_false_or_eq_true (S.testBit a) with e1 | e1 <;> rcases Bool.eq_false_or_eq_true (S.testBit b) with e2 | e2 <;> rcases Bool.eq_false_or_eq_true (v.testBit a) with e3 | e3 <;> rcases Bool.eq_false_or_eq_true (v.testBit b) with e4 | e4 <;>
  simp only [e1, e2, e3, e4, br_t, br_f, ob_s, Bool.and_self, Bool.and_true, Bool.and_false, Bool.true_and, Bool.or_self, Bool.or_true, Bool.or_false, Bool.true_or, if_true, Bool.false_eq_true, if_false]
theorem rnd1_lt {S v : Nat} {a b : Nat} (hv : v < 2 ^ 64) (ha : a < 64) (hb : b < 64) : rnd1 S v ((a : Int), (b : Int)) < 2 ^ 64 := by
 unfold rnd1
 simp only [Int.toNat_natCast]
 split
 ·exact or_lt' (or_lt' hv (one_lt ha)) (one_lt hb)
 ·exact hv
theorem rnd1_bit {S v a b i : Nat} : (rnd1 S v ((a : Int), (b : Int))).testBit i = true ↔ v.testBit i = true ∨ ((S.testBit a = true ∧ S.testBit b = true ∧ (v.testBit a = true ∨ v.testBit b = true)) ∧ (i = a ∨ i = b)) := by
 unfold rnd1
 simp only [Int.toNat_natCast]
 split
 ·rename_i h
  simp only [Bool.and_eq_true, Bool.or_eq_true] at h
  rw [Nat.testBit_or, Nat.testBit_or, Bool.or_eq_true, Bool.or_eq_true, tb_one, tb_one, decide_eq_true_eq, decide_eq_true_eq]
  constructor
  ·rintro ((h1 | h1) | h1)
   ·exact .inl h1
   ·exact .inr ⟨⟨h.1.1, h.1.2, h.2⟩, .inl h1⟩
   ·exact .inr ⟨⟨h.1.1, h.1.2, h.2⟩, .inr h1⟩
  ·rintro (h1 | ⟨_, h1 | h1⟩)
   ·exact .inl (.inl h1)
   ·exact .inl (.inr h1)
   ·exact .inr h1
 ·rename_i h
  constructor
  ·exact .inl
  ·rintro (h1 | ⟨⟨h1, h2, h3⟩, _⟩)
   ·exact h1
   ·exact absurd (by simp [h1, h2, h3]) h
/-- One round. -/
def rnd (es : List (Int × Int)) (S v : Nat) : Nat := es.foldl (rnd1 S) v
/-- Edges with both ends in a set. -/
def inn (es : List (Int × Int)) (v : Nat) : Nat := (es.filter fun e => v.testBit e.1.toNat && v.testBit e.2.toNat).length
theorem inn_le (es : List (Int × Int)) (v : Nat) : inn es v ≤ es.length := List.length_filter_le _ _
theorem rnd_sub {S : Nat} : ∀ {es : List (Int × Int)} {v i : Nat}, (∀ e ∈ es, ∃ a b : Nat, e = ((a : Int), (b : Int)) ∧ a < 64 ∧ b < 64) → v.testBit i = true → (es.foldl (rnd1 S) v).testBit i = true
 | [], _, _, _, h => h
 | e :: es, v, i, hm, h => by
  obtain ⟨a, b, rfl, _, _⟩ := hm e (by simp)
  rw [List.foldl_cons]
  exact rnd_sub (fun e he => hm e (by simp [he])) (rnd1_bit.2 (.inl h))
theorem rnd_lt {S : Nat} : ∀ {es : List (Int × Int)} {v : Nat}, (∀ e ∈ es, ∃ a b : Nat, e = ((a : Int), (b : Int)) ∧ a < 64 ∧ b < 64) → v < 2 ^ 64 → es.foldl (rnd1 S) v < 2 ^ 64
 | [], _, _, h => h
 | e :: es, v, hm, h => by
  obtain ⟨a, b, rfl, ha, hb⟩ := hm e (by simp)
  rw [List.foldl_cons]
  exact rnd_lt (fun e he => hm e (by simp [he])) (rnd1_lt h ha hb)
theorem rnd_rch {es0 : List (Int × Int)} {S i : Nat} : ∀ {es : List (Int × Int)} {v : Nat}, (∀ e ∈ es, e ∈ es0 ∧ ∃ a b : Nat, e = ((a : Int), (b : Int)) ∧ a < 64 ∧ b < 64) → (∀ j, v.testBit j = true → Rch es0 S i j) → ∀ j, (es.foldl (rnd1 S) v).testBit j = true → Rch es0 S i j
 | [], _, _, h, j, hj => h j hj
 | e :: es, v, hm, h, j, hj => by
  obtain ⟨hin, a, b, rfl, ha, hb⟩ := hm e (by simp)
  rw [List.foldl_cons] at hj
  refine rnd_rch (fun e he => hm e (by simp [he])) (fun k hk => ?_) j hj
  rcases rnd1_bit.1 hk with h1 | ⟨⟨s1, s2, h1 | h1⟩, rfl | rfl⟩
  ·exact h k h1
  ·exact h _ h1
  ·exact .step (h a h1) (.inl hin) s2
  ·exact .step (h b h1) (.inr hin) s1
  ·exact h _ h1
/-- A round that changes something takes in an edge more. -/
theorem rnd_grow {S : Nat} {es : List (Int × Int)} (hm : ∀ e ∈ es, ∃ a b : Nat, e = ((a : Int), (b : Int)) ∧ a < 64 ∧ b < 64) (v : Nat) :
  (∀ e ∈ es, S.testBit e.1.toNat = true → S.testBit e.2.toNat = true → (v.testBit e.1.toNat = true ∨ v.testBit e.2.toNat = true) → v.testBit e.1.toNat = true ∧ v.testBit e.2.toNat = true) ∨ inn es v < inn es (rnd es S v) := by
 by_cases h : ∀ e ∈ es, S.testBit e.1.toNat = true → S.testBit e.2.toNat = true → (v.testBit e.1.toNat = true ∨ v.testBit e.2.toNat = true) → v.testBit e.1.toNat = true ∧ v.testBit e.2.toNat = true
 ·exact .inl h
 ·right
  obtain ⟨e, he, s1, s2, h1, h2⟩ : ∃ e, e ∈ es ∧ S.testBit e.1.toNat = true ∧ S.testBit e.2.toNat = true ∧ (v.testBit e.1.toNat = true ∨ v.testBit e.2.toNat = true) ∧ ¬ (v.testBit e.1.toNat = true ∧ v.testBit e.2.toNat = true) := by
   apply Classical.byContradiction
   intro hno
   refine h fun e he s1 s2 h1 => ?_
   apply Classical.byContradiction
   intro h2
   exact hno ⟨e, he, s1, s2, h1, h2⟩
  obtain ⟨l1, l2, rfl⟩ := List.append_of_mem he
  obtain ⟨a, b, rfl, ha, hb⟩ := hm e he
  simp only [Int.toNat_natCast] at s1 s2 h1 h2
  -- behind this edge both ends are in
  have hboth : (rnd (l1 ++ ((a : Int), (b : Int)) :: l2) S v).testBit a = true ∧ (rnd (l1 ++ ((a : Int), (b : Int)) :: l2) S v).testBit b = true := by
   unfold rnd
   rw [List.foldl_append, List.foldl_cons]
   have hm1 : ∀ e ∈ l1, ∃ a b : Nat, e = ((a : Int), (b : Int)) ∧ a < 64 ∧ b < 64 := fun e he => hm e (by simp [he])
   have hm2 : ∀ e ∈ l2, ∃ a b : Nat, e = ((a : Int), (b : Int)) ∧ a < 64 ∧ b < 64 := fun e he => hm e (by simp [he])
   have hc : (l1.foldl (rnd1 S) v).testBit a = true ∨ (l1.foldl (rnd1 S) v).testBit b = true := h1.imp (rnd_sub hm1) (rnd_sub hm1)
   exact ⟨rnd_sub hm2 (rnd1_bit.2 (.inr ⟨⟨s1, s2, hc⟩, .inl rfl⟩)), rnd_sub hm2 (rnd1_bit.2 (.inr ⟨⟨s1, s2, hc⟩, .inr rfl⟩))⟩
  generalize hes : l1 ++ ((a : Int), (b : Int)) :: l2 = es at hm he hboth ⊢
  unfold inn
  -- counted
  have key : ∀ (l : List (Int × Int)) (p q : Int × Int → Bool), (∀ e ∈ l, p e = true → q e = true) → (l.filter p).length ≤ (l.filter q).length ∧ ((∃ e ∈ l, p e = false ∧ q e = true) → (l.filter p).length < (l.filter q).length) := by
   intro l p q
   induction l with
   | nil => intro _; exact ⟨Nat.le_refl _, fun ⟨e, h, _⟩ => by cases h⟩
   | cons x l ih =>
    intro hpq
    obtain ⟨ih1, ih2⟩ := ih fun e he => hpq e (by simp [he])
    have hx := hpq x (by simp)
    by_cases hp : p x = true
    ·rw [List.filter_cons_of_pos hp, List.filter_cons_of_pos (hx hp)]
     refine ⟨by simp only [List.length_cons]; omega, fun ⟨e, he, h1, h2⟩ => ?_⟩
     rcases List.mem_cons.1 he with rfl | he
     ·rw [h1] at hp; cases hp
     ·have := ih2 ⟨e, he, h1, h2⟩
      simp only [List.length_cons]; omega
    ·rw [List.filter_cons_of_neg hp]
     by_cases hq : q x = true
     ·rw [List.filter_cons_of_pos hq, List.length_cons]
      exact ⟨by omega, fun _ => by omega⟩
     ·rw [List.filter_cons_of_neg hq]
      refine ⟨ih1, fun ⟨e, he, h1, h2⟩ => ?_⟩
      rcases List.mem_cons.1 he with rfl | he
      ·exact absurd h2 hq
      ·exact ih2 ⟨e, he, h1, h2⟩
  refine (key es _ _ fun e he' h => ?_).2 ⟨_, he, ?_, ?_⟩
  ·simp only [Bool.and_eq_true] at h ⊢
   exact ⟨rnd_sub hm h.1, rnd_sub hm h.2⟩
  ·simp only [Int.toNat_natCast]
   cases e1 : v.testBit a <;> cases e2 : v.testBit b <;> simp_all
  ·simp only [Int.toNat_natCast, hboth.1, hboth.2, Bool.and_self]
end Go.Proofs.YtpclggcpobakhaaDoor
end

section
/-
  Chapter 18, plain laws: components by the reference; GraphParts.
-/
namespace Go.Proofs.YtpclggcpobakhaaDoor
open Go Go.Ab Go.Ab.W

theorem Okay.mem64 {N : Nat} {es : List (Int × Int)} (h : Okay N es) : ∀ e ∈ es, ∃ a b : Nat, e = ((a : Int), (b : Int)) ∧ a < 64 ∧ b < 64 := fun e he => by
 obtain ⟨a, b, e1, h1, h2⟩ := h.mem e he
 have := h.le
 exact ⟨a, b, e1, by omega, by omega⟩
/-- No edge within S leads out. -/
def Closed (es : List (Int × Int)) (S v : Nat) : Prop := ∀ e ∈ es, S.testBit e.1.toNat = true → S.testBit e.2.toNat = true → (v.testBit e.1.toNat = true ∨ v.testBit e.2.toNat = true) → v.testBit e.1.toNat = true ∧ v.testBit e.2.toNat = true
theorem rnd_closed {S v : Nat} : ∀ {es es0 : List (Int × Int)}, (∀ e ∈ es, e ∈ es0 ∧ ∃ a b : Nat, e = ((a : Int), (b : Int)) ∧ a < 64 ∧ b < 64) → Closed es0 S v → es.foldl (rnd1 S) v = v
 | [], _, _, _ => rfl
 | e :: es, es0, hm, h => by
  obtain ⟨hin, a, b, rfl, ha, hb⟩ := hm e (by simp)
  have h1 : rnd1 S v ((a : Int), (b : Int)) = v := word_ext fun i => by
   rw [rnd1_bit]
   constructor
   ·rintro (h1 | ⟨⟨s1, s2, h1⟩, rfl | rfl⟩)
    ·exact h1
    ·have := h _ hin (by simpa using s1) (by simpa using s2) (by simpa using h1)
     simpa using this.1
    ·have := h _ hin (by simpa using s1) (by simpa using s2) (by simpa using h1)
     simpa using this.2
   ·exact .inl
  rw [List.foldl_cons, h1]
  exact rnd_closed (fun e he => hm e (by simp [he])) h
theorem F71_eq (n N : Nat) (es : List (Int × Int)) (S i : Nat) (hok : Okay N es) (hS : S < 2 ^ N) (hi : S.testBit i = true) (hn : 200 < n) : ∃ w, F71 n (N : Int) es S ((i : Nat) : Int) (-1) = some w ∧ IsCl es S i w := by
 have hN := hok.le
 have hlen := hok.len
 have hS64 := lt64 hS hN
 have hi64 := tb_lt hS64 hi
 have hm := hok.mem64
 have hinner : ∀ v, v < 2 ^ 64 → lpN (L71_1 n es (-1) S) n (v, 0) = some (rnd es S v) := fun v hv => by
  have := lp_list0 (body := L71_1 n es (-1) S) es (fun (s : Nat) (k : Int) => (s, k)) (rnd1 S) id (fun _ s => s < 2 ^ 64) (fun s k e he hI => ?_) (fun s _ => ?_) (n := n) (s := v) hv (by omega)
  ·exact this.1
  ·have hk : k < es.length := (List.getElem?_eq_some_iff.1 he).1
   obtain ⟨a, b, rfl, ha, hb⟩ := hm e (List.mem_of_getElem? he)
   exact ⟨L71_body n es S s k a b hS64 hI he ha hb (by omega), rnd1_lt hI ha hb⟩
  ·simp only [L71_1]
   rw [br_df (by omega)]; rfl
 have hout := lp_upto (body := L71_2 n es (-1) S) es.length (fun (s : Nat) (k : Int) => (s, k)) (fun s _ => rnd es S s) id
  (fun k s => s < 2 ^ 64 ∧ s.testBit i = true ∧ (∀ j, s.testBit j = true → Rch es S i j) ∧ (Closed es S s ∨ k ≤ inn es s)) (fun s k hk hI => ?_) (fun s _ => ?_) (n := n) (s := 2 ^ i) ⟨one_lt hi64, by rw [tb_one]; simp, fun j hj => by
   rw [tb_one, decide_eq_true_eq] at hj; subst hj; exact .refl, .inr (Nat.zero_le _)⟩ (by omega)
 ·obtain ⟨h1, h2, h3, h4, h5⟩ := hout
  refine ⟨_, by unfold F71; rw [F68_eq n i hi64, ob_s]; simp only [h1, ob_s, id_eq]; rfl, ?_⟩
  have hcl : Closed es S ((List.range es.length).foldl (fun s _ => rnd es S s) (2 ^ i)) := by
   rcases h5 with h5 | h5
   ·exact h5
   ·intro e he _ _ _
    have hall : (es.filter fun e => ((List.range es.length).foldl (fun s _ => rnd es S s) (2 ^ i)).testBit e.1.toNat && ((List.range es.length).foldl (fun s _ => rnd es S s) (2 ^ i)).testBit e.2.toNat).length = es.length := Nat.le_antisymm (List.length_filter_le _ _) h5
    have := List.length_filter_eq_length_iff.1 hall e he
    simpa using this
  refine IsCl.of h2 h3 h4 fun j k hj ha hk => ?_
  have hjS := (h4 j hj).mem hi
  rcases ha with ha | ha
  ·have := hcl _ ha (by simpa using hjS) (by simpa using hk) (.inl (by simpa using hj))
   simpa using this.2
  ·have := hcl _ ha (by simpa using hk) (by simpa using hjS) (.inr (by simpa using hj))
   simpa using this.1
 ·obtain ⟨g1, g2, g3, g4⟩ := hI
  refine ⟨?_, rnd_lt hm g1, rnd_sub hm g2, rnd_rch (fun e he => ⟨he, hm e he⟩) g3, ?_⟩
  ·simp only [L71_2]
   rw [br_dt (by omega), hinner s g1, ob_s, wrap_succ (by omega)]
  ·rcases g4 with g4 | g4
   ·have e : rnd es S s = s := rnd_closed (fun e he => ⟨he, hm e he⟩) g4
    rw [e]; exact .inl g4
   ·rcases rnd_grow hm s with h | h
    ·have e : rnd es S s = s := rnd_closed (fun e he => ⟨he, hm e he⟩) h
     rw [e]; exact .inl h
    ·exact .inr (by omega)
 ·simp only [L71_2]
  rw [br_df (by omega)]; rfl
theorem andn_or {a b c : Nat} (ha : a < 2 ^ 64) (hb : b < 2 ^ 64) (hc : c < 2 ^ 64) : uandn .u64 a (b ||| c) = uandn .u64 (uandn .u64 a b) c := word_ext fun i => by
 rw [tb_andn ha (or_lt' hb hc), tb_andn (andn_lt ha hb) hc, tb_andn ha hb, Nat.testBit_or]
 cases a.testBit i <;> cases b.testBit i <;> cases c.testBit i <;> decide
theorem tz_unique {x i : Nat} (hx : x < 2 ^ 64) (hi : x.testBit i = true) (hl : ∀ j, x.testBit j = true → i ≤ j) : 0 < x ∧ tz x = i := by
 have h0 : 0 < x := by
  rcases Nat.eq_zero_or_pos x with h | h
  ·subst h; rw [Nat.zero_testBit] at hi; cases hi
  ·exact h
 obtain ⟨h1, h2⟩ := tz_bit h0 hx
 refine ⟨h0, ?_⟩
 rcases Nat.lt_trichotomy (tz x) i with h | h | h
 ·have := hl _ h1; omega
 ·exact h
 ·have := h2 i h; rw [hi] at this; cases this
theorem L70_eq (n N : Nat) (es : List (Int × Int)) (S : Nat) (hok : Okay N es) (hS : S < 2 ^ N) (hn : 200 < n) :
  ∀ (k i m : Nat) (acc : List Nat) (done : Nat), i + k = N → done < 2 ^ 64 → (∀ j, (uandn .u64 S done).testBit j = true → i ≤ j) → acc.length ≤ i → k < m →
   ∃ l, lpN (L70_1 n (N : Int) S es) m (acc, done, (i : Int)) = some (acc ++ l) ∧ Cs es S (uandn .u64 S done) l := by
 intro k
 have hN := hok.le
 have hS64 := lt64 hS hN
 induction k with
 | zero =>
  intro i m acc done hi hd hl ha hm
  obtain ⟨m, rfl⟩ : ∃ m', m = m' + 1 := ⟨m - 1, by omega⟩
  have hz : uandn .u64 S done = 0 := word_zero.2 fun j => by
   cases e : (uandn .u64 S done).testBit j with
   | false => rfl
   | true =>
    have h1 := hl j e
    rw [tb_andn hS64 hd, Bool.and_eq_true] at e
    have := tb_ltN hS e.1
    omega
  rw [hz]
  refine ⟨[], ?_, .nil⟩
  rw [List.append_nil]
  exact lp_end (by simp only [L70_1]; rw [br_df (by omega)])
 | succ k ih =>
  intro i m acc done hi hd hl ha hm
  obtain ⟨m, rfl⟩ : ∃ m', m = m' + 1 := ⟨m - 1, by omega⟩
  have hi64 : i < 64 := by omega
  have hbit := tb_andn hS64 hd i
  have hcond : (ob (ob (F67 n S (i : Int)) fun r140 => br r140 (ob (F67 n done (i : Int)) fun r143 => some (!r143)) (some false)) fun v138 => br v138 (ob (F71 n (N : Int) es S (i : Int) (-1)) fun r148 => gd (lim (acc ++ [r148]).length) (some ((acc ++ [r148]), uw .u64 (uw .u64 done ||| uw .u64 r148)))) (some (acc, done)))
    = br (S.testBit i && !done.testBit i) (ob (F71 n (N : Int) es S (i : Int) (-1)) fun r148 => gd (lim (acc ++ [r148]).length) (some ((acc ++ [r148]), uw .u64 (uw .u64 done ||| uw .u64 r148)))) (some (acc, done)) := by
   rw [F67_eq n S i hS64 hi64, F67_eq n done i hd hi64, ob_s]
   rcases Bool.eq_false_or_eq_true (S.testBit i) with h | h <;> simp only [h, br_t, br_f, ob_s, Bool.true_and, Bool.false_and]
  have hbody : L70_1 n (N : Int) S es (acc, done, (i : Int)) = ob (br (S.testBit i && !done.testBit i) (ob (F71 n (N : Int) es S (i : Int) (-1)) fun r148 => gd (lim (acc ++ [r148]).length) (some ((acc ++ [r148]), uw .u64 (uw .u64 done ||| uw .u64 r148)))) (some (acc, done))) fun x => some (.inl (x.1, x.2, ((i + 1 : Nat) : Int))) := by
   simp only [L70_1]
   rw [br_dt (by omega), hcond, wrap_succ (by omega)]
  by_cases hc : (S.testBit i && !done.testBit i) = true
  ·rw [hc, br_t] at hbody
   have hSi : S.testBit i = true := by simp only [Bool.and_eq_true] at hc; exact hc.1
   obtain ⟨w, h1, hw⟩ := F71_eq n N es S i hok hS hSi hn
   rw [h1, ob_s, lim_of (by simp; omega), gd_t, ob_s, word_or hd hw.1] at hbody
   rw [hc] at hbit
   obtain ⟨h0, htz⟩ := tz_unique (andn_lt hS64 hd) hbit hl
   have hwi : w.testBit i = true := (hw.2 i).2 .refl
   obtain ⟨l, h2, h3⟩ := ih (i + 1) m (acc ++ [w]) (done ||| w) (by omega) (or_lt' hd hw.1) (fun j hj => by
    rw [andn_or hS64 hd hw.1, tb_andn (andn_lt hS64 hd) hw.1, Bool.and_eq_true] at hj
    have := hl j hj.1
    have : j ≠ i := fun e => by subst e; rw [hwi] at hj; cases hj.2
    omega) (by simp; omega) (by omega)
   refine ⟨w :: l, ?_, ?_⟩
   ·rw [lp_next hbody, h2, List.append_assoc]; rfl
   ·rw [andn_or hS64 hd hw.1] at h3
    exact .cons h0 (andn_lt hS64 hd) (by rw [htz]; exact hw) h3
  ·rw [Bool.not_eq_true] at hc
   rw [hc, br_f, ob_s] at hbody
   rw [hc] at hbit
   obtain ⟨l, h2, h3⟩ := ih (i + 1) m acc done (by omega) hd (fun j hj => by
    have := hl j hj
    have : j ≠ i := fun e => by subst e; rw [hbit] at hj; cases hj
    omega) (by omega) (by omega)
   exact ⟨l, by rw [lp_next hbody, h2], h3⟩
theorem F70_eq (n N : Nat) (es : List (Int × Int)) (S : Nat) (hok : Okay N es) (hS : S < 2 ^ N) (hn : 200 < n) : ∃ l, F70 n (N : Int) es S = some l ∧ Cs es S S l := by
 have hN := hok.le
 have hS64 := lt64 hS hN
 have e : uandn .u64 S 0 = S := word_ext fun i => by rw [tb_andn hS64 (by decide), Nat.zero_testBit]; simp
 obtain ⟨l, h1, h2⟩ := L70_eq n N es S hok hS hn N 0 n [] 0 (by omega) (by decide) (fun j _ => Nat.zero_le j) (by simp) (by omega)
 rw [e] at h2
 refine ⟨l, ?_, h2⟩
 unfold F70
 have h1' : lpN (L70_1 n (N : Int) S es) n ([], 0, 0) = some l := h1
 rw [h1', ob_s]
/-- Components: both. -/
theorem comps_both (n : Nat) (N : Int) (es : List (Int × Int)) (x : Nat) (hx : x < 2 ^ 64) (hn : 200 < n) (hl : es.length < 4611686018427387904) (hk : es.length < n) :
  ∃ l, F17 n N es x = some (l, ckF N es x) ∧ F33 n N es x = some (l, ckF N es x) ∧ F16 n N es x = some (decide (ckF N es x = 0) && decide (l.length = 1), ckF N es x) ∧ F32 n N es x = some (decide (ckF N es x = 0) && decide (l.length = 1), ckF N es x) ∧ l.length ≤ 64 ∧ (ckF N es x = 0 → Cs es x x l) := by
 unfold F17 F33 F16 F32
 rw [F55_eq n N es x hx (by omega) hl hk, F66_eq n N es x hx hl hk, ob_s, ob_s, ob_s, ob_s]
 by_cases h : ckF N es x = 0
 ·obtain ⟨M, rfl, hM, hxM⟩ := ckF_ok h
  obtain ⟨l1, h1, c1, b1⟩ := F58_eq n M es x hM hxM hn
  obtain ⟨l2, h2, c2⟩ := F70_eq n M es x hM hxM hn
  have := c1.unique c2
  subst this
  have e : decide (((l1.length : Nat) : Int) = 1) = decide (l1.length = 1) := by
   by_cases h : l1.length = 1
   ·rw [decide_eq_true h, decide_eq_true (by omega)]
   ·rw [decide_eq_false h, decide_eq_false (by omega)]
  refine ⟨l1, ?_, ?_, ?_, ?_, b1, fun _ => c1⟩
  ·rw [h, decide_eq_true rfl, Bool.not_true, br_f, h1, ob_s]
  ·rw [h, decide_eq_true rfl, Bool.not_true, br_f, h2, ob_s]
  ·rw [h, decide_eq_true rfl, Bool.not_true, br_f, h1, ob_s, e]; rfl
  ·unfold F69
   rw [h, decide_eq_true rfl, Bool.not_true, br_f, h2, ob_s, ob_s, e]; rfl
 ·refine ⟨[], ?_, ?_, ?_, ?_, by simp, fun h' => absurd h' h⟩
  ·rw [decide_eq_false h, Bool.not_false, br_t]
  ·rw [decide_eq_false h, Bool.not_false, br_t]
  ·rw [decide_eq_false h, Bool.not_false, br_t, Bool.false_and]
  ·rw [decide_eq_false h, Bool.not_false, br_t, Bool.false_and]

/-! ### GraphParts -/
theorem L35_self (n0 : Nat) (l : List Nat) (hl : l.length < 4611686018427387904) : ∀ k i n, i + k = l.length → k < n → lpN (L35_1 n0 l l) n ((i : Nat) : Int) = some (.inr ()) := by
 intro k
 induction k with
 | zero =>
  intro i n hi hk
  obtain ⟨n, rfl⟩ : ∃ n', n = n' + 1 := ⟨n - 1, by omega⟩
  exact lp_end (by unfold L35_1; rw [br_df (by omega)])
 | succ k ih =>
  intro i n hi hk
  obtain ⟨n, rfl⟩ : ∃ n', n = n' + 1 := ⟨n - 1, by omega⟩
  have a1 : i < l.length := by omega
  have e1 : l[((i : Nat) : Int).toNat]? = some l[i] := by simp [a1]
  rw [lp_next (s' := ((i + 1 : Nat) : Int)) ?_]
  ·exact ih (i + 1) n (by omega) (by omega)
  ·simp only [L35_1, e1, inB_nat a1, gd_t, ob_s, decide_true, Bool.not_true, br_f, wrap_succ (show i < 4611686018427387904 by omega)]
   rw [br_dt (by omega)]
theorem F35_self (n : Nat) (l : List Nat) (hl : l.length < 4611686018427387904) (hn : l.length < n) : F35 n l l = some true := by
 unfold F35
 rw [decide_eq_true rfl, Bool.not_true, br_f]
 have := L35_self n l hl l.length 0 n (by omega) hn
 rw [show lpN (L35_1 n l l) n 0 = _ from this, ob_s]
theorem L4_1_eq (n r1 r2 : Nat) (N : Int) (es : List (Int × Int)) (h1 : r1 < 2 ^ 64) (h2 : r2 < 2 ^ 64) (hn : 300 < n) (hl : es.length ≤ 300) : lpN (L4_1 n r1 r2 N es) n 0 = some (.inr ()) := by
 have one : ∀ (i x : Nat), i < 2 → [r1, r2][i]? = some x → x < 2 ^ 64 → L4_1 n r1 r2 N es (i : Int) = some (.inl ((i + 1 : Nat) : Int)) := by
  intro i x hi hx hx64
  obtain ⟨w, a1, a2, _⟩ := nb_both n N es x hx64 (by omega) (by omega) (by omega)
  obtain ⟨l, b1, b2, bl, _⟩ := border_both n N es x hx64 (by omega) (by omega) (by omega)
  obtain ⟨c, c1, c2, c3, c4, cl, _⟩ := comps_both n N es x hx64 (by omega) (by omega) (by omega)
  unfold L4_1
  simp only [Int.toNat_natCast, hx, ob_s, inB_nat hi, gd_t, a1, a2, b1, b2, c1, c2, c3, c4, decide_true, Bool.not_true, br_f, F34_eq n l l (by omega) (by omega), beq_self_eq_true, F35_self n c (by omega) (by omega), wrap_succ (show i < 4611686018427387904 by omega)]
  rw [br_dt (by omega)]
 obtain ⟨n', rfl⟩ : ∃ n', n = n' + 3 := ⟨n - 3, by omega⟩
 have s0 : L4_1 (n' + 3) r1 r2 N es 0 = some (.inl 1) := one 0 r1 (by omega) rfl h1
 have s1 : L4_1 (n' + 3) r1 r2 N es 1 = some (.inl 2) := one 1 r2 (by omega) rfl h2
 have s2 : L4_1 (n' + 3) r1 r2 N es 2 = some (.inr (.inr ())) := by unfold L4_1; rw [br_df (by decide)]
 rw [lp_next (s' := 1) s0, lp_next (s' := 2) s1, lp_end s2]
theorem F29_eq (n : Nat) (N : Int) (es : List (Int × Int)) (x : Nat) (hx : x < 2 ^ 64) : ∃ y, F29 n N es x = some (x, y) ∧ y < 2 ^ 64 ∧ (1 ≤ N → N ≤ 63 → y = x % 2 ^ N.toNat) := by
 unfold F29
 by_cases h1 : N < 1
 ·rw [br_dt h1, ob_s, br_t]; exact ⟨x, rfl, hx, fun h => by omega⟩
 ·rw [br_df h1, ob_s]
  by_cases h2 : 63 < N
  ·rw [decide_eq_true h2, br_t]; exact ⟨x, rfl, hx, fun _ h => by omega⟩
  ·rw [decide_eq_false h2, br_f, decide_eq_true (show (0 : Int) ≤ N by omega), gd_t]
   obtain ⟨M, rfl⟩ := Int.eq_ofNat_of_zero_le (show 0 ≤ N by omega)
   have hM : M < 64 := by omega
   have hp := Nat.two_pow_pos M
   have hpl := one_lt hM
   have hs : usub .u64 (2 ^ M) 1 = 2 ^ M - 1 := by
    unfold usub
    rw [uM64, uw_id (show (1 : Nat) < 2 ^ 64 by decide)]
    show (2 ^ M + (2 ^ 64 - 1)) % 2 ^ 64 = 2 ^ M - 1
    omega
   rw [Int.toNat_natCast, word_one hM, hs, word_and hx (by omega), Nat.and_two_pow_sub_one_eq_mod]
   exact ⟨_, rfl, Nat.lt_of_le_of_lt (Nat.mod_le _ _) hx, fun _ _ => rfl⟩
theorem L4_2_eq (n : Nat) (N1 N2 N3 : Int) (e1 e2 e3 : List (Int × Int)) (x : Nat) (hx : x < 2 ^ 64) (hn : 300 < n) (h1 : e1.length ≤ 300) (h2 : e2.length ≤ 300) (h3 : e3.length ≤ 300) : lpN (L4_2 n N1 e1 N2 e2 N3 e3 x) n 0 = some (.inr ()) := by
 have one : ∀ (i : Nat) (N : Int) (es : List (Int × Int)), i < 3 → [(N1, e1), (N2, e2), (N3, e3)][i]? = some (N, es) → es.length ≤ 300 → L4_2 n N1 e1 N2 e2 N3 e3 x (i : Int) = some (.inl ((i + 1 : Nat) : Int)) := by
  intro i N es hi hx' hl
  obtain ⟨y, f1, f2, _⟩ := F29_eq n N es x hx
  unfold L4_2
  simp only [Int.toNat_natCast, hx', ob_s, inB_nat hi, gd_t, f1, L4_1_eq n x y N es hx f2 hn hl, wrap_succ (show i < 4611686018427387904 by omega)]
  rw [br_dt (by omega)]
 obtain ⟨n', rfl⟩ : ∃ n', n = n' + 4 := ⟨n - 4, by omega⟩
 have s0 : L4_2 (n' + 4) N1 e1 N2 e2 N3 e3 x 0 = some (.inl 1) := one 0 N1 e1 (by omega) rfl h1
 have s1 : L4_2 (n' + 4) N1 e1 N2 e2 N3 e3 x 1 = some (.inl 2) := one 1 N2 e2 (by omega) rfl h2
 have s2 : L4_2 (n' + 4) N1 e1 N2 e2 N3 e3 x 2 = some (.inl 3) := one 2 N3 e3 (by omega) rfl h3
 have s3 : L4_2 (n' + 4) N1 e1 N2 e2 N3 e3 x 3 = some (.inr (.inr ())) := by unfold L4_2; rw [br_df (by decide)]
 rw [lp_next (s' := 1) s0, lp_next (s' := 2) s1, lp_next (s' := 3) s2, lp_end s3]
theorem F4_true (n x1 x2 x3 : Nat) (l4 : List (Nat × Nat)) (x8 x9 : Nat) (x10 x11 x12 : Int) (x13 x14 : Nat) (x15 x16 x17 : Int) (x18 : Nat) (h9 : x9 < 256) (h14 : x14 < 256) (h18 : x18 < 2 ^ 64) (hn : 300 < n) :
  F4 n x1 x2 x3 l4 x8 x9 x10 x11 x12 x13 x14 x15 x16 x17 x18 = some true := by
 obtain ⟨N1, e1, N2, e2, N3, e3, h1, g1, g2, g3, _⟩ := F28_tot n x1 x2 x3 l4 x8 x9 x10 x11 x12 x13 x14 x15 x16 x17 h9 h14 (by omega)
 unfold F4
 rw [h1, ob_s]
 simp only [L4_2_eq n N1 N2 N3 e1 e2 e3 x18 h18 hn g1 g2 g3, ob_s]
 rfl
end Go.Proofs.YtpclggcpobakhaaDoor
end

section
/-
  Chapter 18, plain laws: the graphs that a law goes through; GraphBorders.
-/
namespace Go.Proofs.YtpclggcpobakhaaDoor
open Go Go.Ab Go.Ab.W

theorem L41_eq (n : Nat) (N1 N2 N3 : Int) (l1 l2 l3 : List (Int × Int)) (hn : 300 < n) (h1 : l1.length ≤ 300) (h2 : l2.length ≤ 300) (h3 : l3.length ≤ 300) :
  ∃ J, lpN (L41_1 n N1 l1 N2 l2 N3 l3) n ([], 0) = some J ∧ J.length ≤ 3 ∧ ∀ j ∈ J, okG (gOf N1 l1 N2 l2 N3 l3 j).1 (gOf N1 l1 N2 l2 N3 l3 j).2 = true := by
 have hl : ∀ j, (gOf N1 l1 N2 l2 N3 l3 j).2.length ≤ 300 := fun j => by
  match j with
  | 0 => exact h1
  | 1 => exact h2
  | _ + 2 => exact h3
 have := lp_upto (body := L41_1 n N1 l1 N2 l2 N3 l3) 3 (fun (J : List Nat) (v : Int) => (J, v)) (fun J i => if okG (gOf N1 l1 N2 l2 N3 l3 i).1 (gOf N1 l1 N2 l2 N3 l3 i).2 then J ++ [i] else J) id
  (fun i J => J.length ≤ i ∧ ∀ j ∈ J, okG (gOf N1 l1 N2 l2 N3 l3 j).1 (gOf N1 l1 N2 l2 N3 l3 j).2 = true) (fun J i hi hI => ?_) (fun J _ => ?_) (n := n) (s := []) ⟨Nat.le_refl _, fun j hj => by cases hj⟩ (by omega)
 ·exact ⟨_, this.1, this.2.1, this.2.2⟩
 ·have hg := hl i
  have hF := F23_eq n (gOf N1 l1 N2 l2 N3 l3 i).1 (gOf N1 l1 N2 l2 N3 l3 i).2 (by omega) (by omega) (by omega)
  have hlen := hI.1
  by_cases hk : okG (gOf N1 l1 N2 l2 N3 l3 i).1 (gOf N1 l1 N2 l2 N3 l3 i).2 = true
  ·rw [if_pos hk]
   refine ⟨?_, by simp; omega, fun j hj => ?_⟩
   ·have hc : ckG (gOf N1 l1 N2 l2 N3 l3 i).1 (gOf N1 l1 N2 l2 N3 l3 i).2 = 0 := by unfold ckG; rw [if_pos hk]
    unfold L41_1
    simp only [Int.toNat_natCast, inB_nat hi, gd_t, hF, ob_s, hc, decide_true, br_t, lim_of (show J.length + 1 ≤ 1073741824 by omega), wrap_succ (show i < 4611686018427387904 by omega)]
    rw [br_dt (by omega)]
   ·rcases List.mem_append.1 hj with hj | hj
    ·exact hI.2 j hj
    ·rw [List.mem_singleton.1 hj]; exact hk
  ·rw [if_neg hk]
   refine ⟨?_, by omega, hI.2⟩
   have hc : ckG (gOf N1 l1 N2 l2 N3 l3 i).1 (gOf N1 l1 N2 l2 N3 l3 i).2 = 180 := by unfold ckG; rw [if_neg hk]
   unfold L41_1
   simp only [Int.toNat_natCast, inB_nat hi, gd_t, hF, ob_s, hc, wrap_succ (show i < 4611686018427387904 by omega)]
   rw [br_dt (by omega), br_df (by decide)]
 ·simp only [L41_1]
  rw [br_df (by omega)]; rfl
/-- The graphs that fit are valid. -/
theorem F41_eq (n x1 x2 x3 : Nat) (l4 : List (Nat × Nat)) (x8 x9 : Nat) (x10 x11 x12 : Int) (x13 x14 : Nat) (x15 x16 x17 : Int) (h9 : x9 < 256) (h14 : x14 < 256) (hn : 300 < n) :
  ∃ gs, F41 n x1 x2 x3 l4 x8 x9 x10 x11 x12 x13 x14 x15 x16 x17 = some gs ∧ gs.length ≤ 3 ∧ ∀ g ∈ gs, okG g.1 g.2 = true ∧ ∃ M : Nat, g.1 = (M : Int) ∧ Okay M g.2 := by
 obtain ⟨N1, e1, N2, e2, N3, e3, h1, g1, g2, g3, _⟩ := F28_tot n x1 x2 x3 l4 x8 x9 x10 x11 x12 x13 x14 x15 x16 x17 h9 h14 (by omega)
 obtain ⟨J, h2, hJ, h3⟩ := L41_eq n N1 N2 N3 e1 e2 e3 hn g1 g2 g3
 refine ⟨J.map (gOf N1 e1 N2 e2 N3 e3), ?_, by simpa using hJ, fun g hg => ?_⟩
 ·unfold F41
  rw [h1, ob_s]
  simp only [h2, ob_s]
 ·obtain ⟨j, hj, rfl⟩ := List.mem_map.1 hg
  exact ⟨h3 j hj, okay_of (h3 j hj)⟩
/-- A mask of the least bits. -/
theorem mask_eq {M : Nat} (h : M ≤ 64) : usub .u64 (ushl .u64 1 M) 1 = 2 ^ M - 1 := by
 have hp := Nat.two_pow_pos M
 have hpl : 2 ^ M ≤ 2 ^ 64 := Nat.pow_le_pow_right (by decide) h
 unfold usub ushl
 rw [uw_id (show (1 : Nat) < 2 ^ 64 by decide), Nat.one_mul, Nat.min_eq_left (show M ≤ IntKind.bits .u64 from h)]
 show (uw .u64 (2 ^ M) + (2 ^ 64 - 1)) % 2 ^ 64 = 2 ^ M - 1
 rcases Nat.lt_or_ge M 64 with h1 | h1
 ·have := one_lt h1
  rw [uw_id this]; omega
 ·have : M = 64 := by omega
  subst this
  decide
theorem masked {M x : Nat} (h : M ≤ 64) (hx : x < 2 ^ 64) : uw .u64 (uw .u64 x &&& uw .u64 (usub .u64 (ushl .u64 1 M) 1)) = x % 2 ^ M ∧ x % 2 ^ M < 2 ^ M := by
 have hp := Nat.two_pow_pos M
 have hpl : 2 ^ M ≤ 2 ^ 64 := Nat.pow_le_pow_right (by decide) h
 rw [mask_eq h, word_and hx (by omega), Nat.and_two_pow_sub_one_eq_mod]
 exact ⟨rfl, Nat.mod_lt _ hp⟩
theorem ckF_fit {M : Nat} {es : List (Int × Int)} {x : Nat} (h : Okay M es) (hk : okG (M : Int) es = true) (hx : x < 2 ^ M) : ckF (M : Int) es x = 0 := by
 unfold ckF
 rw [if_pos hk, Int.toNat_natCast, if_neg (by omega)]
theorem bitval {y a : Nat} (hy : y < 2 ^ 64) (ha : a ≤ 64) : uw .u64 (uw .u64 (ushr .u64 y a) &&& uw .u64 1) = (y.testBit a).toNat := by
 have h := bit_at hy ha
 have h2 : uw .u64 (uw .u64 (ushr .u64 y a) &&& uw .u64 1) < 2 := by
  have hs : y >>> a < 2 ^ 64 := Nat.lt_of_le_of_lt (by rw [Nat.shiftRight_eq_div_pow]; exact Nat.div_le_self _ _) hy
  rw [word_shr ha, word_and hs (by decide), Nat.and_one_is_mod]
  omega
 generalize uw .u64 (uw .u64 (ushr .u64 y a) &&& uw .u64 1) = X at h h2
 rw [← h]
 have : X = 0 ∨ X = 1 := by omega
 rcases this with rfl | rfl <;> rfl
/-! ### Contains -/
theorem L73_eq (n0 : Nat) (l : List (Int × Int)) (a b : Int) (hl : l.length < 4611686018427387904) : ∀ k i n, i + k = l.length → k < n → (∃ j, i ≤ j ∧ l[j]? = some (a, b)) → ∃ j : Nat, lpN (L73_1 n0 l a b) n ((i : Nat) : Int) = some (.inl (j : Int)) := by
 intro k
 induction k with
 | zero =>
  rintro i n hi hk ⟨j, hj, h⟩
  have := (List.getElem?_eq_some_iff.1 h).1
  omega
 | succ k ih =>
  rintro i n hi hk ⟨j, hj, h⟩
  obtain ⟨n, rfl⟩ : ∃ n', n = n' + 1 := ⟨n - 1, by omega⟩
  have a1 : i < l.length := by omega
  have e1 : l[((i : Nat) : Int).toNat]? = some l[i] := by simp [a1]
  have hbody : L73_1 n0 l a b (i : Int) = br (decide (a = l[i].1) && decide (b = l[i].2)) (some (.inr (.inl (i : Int)))) (some (.inl ((i + 1 : Nat) : Int))) := by
   simp only [L73_1, e1, inB_nat a1, gd_t, ob_s, wrap_succ (show i < 4611686018427387904 by omega)]
   rw [br_dt (by omega)]
  by_cases hc : (decide (a = l[i].1) && decide (b = l[i].2)) = true
  ·rw [hc, br_t] at hbody
   exact ⟨i, lp_end hbody⟩
  ·rw [Bool.not_eq_true] at hc
   rw [hc, br_f] at hbody
   rw [lp_next hbody]
   refine ih (i + 1) n (by omega) (by omega) ⟨j, ?_, h⟩
   rcases Nat.lt_or_ge i j with h1 | h1
   ·exact h1
   ·have : i = j := by omega
    subst this
    rw [List.getElem?_eq_getElem a1] at h
    have := Option.some.inj h
    rw [this] at hc
    simp at hc
theorem F48_mem (n : Nat) (l : List (Int × Int)) (a b : Int) (hl : l.length < 4611686018427387904) (hn : l.length < n) (h : (a, b) ∈ l) : F48 n l a b = some true := by
 obtain ⟨j, hj⟩ := List.mem_iff_getElem?.1 h
 obtain ⟨k, hk⟩ := L73_eq n l a b hl l.length 0 n (by omega) hn ⟨j, Nat.zero_le _, hj⟩
 unfold F48 F73
 rw [show lpN (L73_1 n l a b) n 0 = _ from hk, ob_s, ob_s, decide_eq_true (by omega)]

/-! ### GraphBorders -/
theorem comp_bit {M y : Nat} (hM : M ≤ 64) (hy : y < 2 ^ M) (i : Nat) : (uandn .u64 (usub .u64 (ushl .u64 1 M) 1) y).testBit i = (decide (i < M) && !y.testBit i) := by
 have hp := Nat.two_pow_pos M
 have hpl : 2 ^ M ≤ 2 ^ 64 := Nat.pow_le_pow_right (by decide) hM
 rw [mask_eq hM, tb_andn (by omega) (lt64 hy hM), Nat.testBit_two_pow_sub_one]
theorem comp_lt {M y : Nat} (hM : M ≤ 64) (hy : y < 2 ^ M) : uandn .u64 (usub .u64 (ushl .u64 1 M) 1) y < 2 ^ M := Nat.lt_pow_two_of_testBit _ fun i hi => by
 rw [comp_bit hM hy, decide_eq_false (by omega)]; rfl
theorem cross_comp {M y : Nat} {es : List (Int × Int)} (h : Okay M es) (hy : y < 2 ^ M) : es.filter (cross (uandn .u64 (usub .u64 (ushl .u64 1 M) 1) y)) = es.filter (cross y) := by
 apply List.filter_congr
 intro e he
 obtain ⟨a, b, rfl, hab, hb⟩ := h.mem e he
 unfold cross
 simp only [Int.toNat_natCast]
 rw [comp_bit h.le hy, comp_bit h.le hy, decide_eq_true (show a < M by omega), decide_eq_true hb]
 cases y.testBit a <;> cases y.testBit b <;> rfl
theorem L9_1_eq (n M y : Nat) (es : List (Int × Int)) (h : Okay M es) (hy : y < 2 ^ M) (hn : 300 < n) :
  ∃ v, lpN (L9_1 n (es.filter (cross y)) es y) n (0, 0) = some (.inr v) ∧ v < 2 ^ 64 ∧ ∀ i, v.testBit i = true ↔ ∃ a b : Nat, ((a : Int), (b : Int)) ∈ es ∧ cross y ((a : Int), (b : Int)) = true ∧ (i = a ∨ i = b) := by
 have hM := h.le
 have hy64 := lt64 hy hM
 have hlen := h.len
 have hfl : (es.filter (cross y)).length ≤ es.length := List.length_filter_le _ _
 have := lp_list0 (body := L9_1 n (es.filter (cross y)) es y) (es.filter (cross y)) (fun (s : Nat) (k : Int) => (s, k)) (fun s e => s ||| (2 ^ e.1.toNat ||| 2 ^ e.2.toNat)) Sum.inr
  (fun k s => s < 2 ^ 64 ∧ ∀ i, s.testBit i = true ↔ ∃ a b : Nat, ((a : Int), (b : Int)) ∈ (es.filter (cross y)).take k ∧ (i = a ∨ i = b)) (fun s k e he hI => ?_) (fun s _ => ?_) (n := n) (s := 0) ⟨by decide, fun i => by simp⟩ (by omega)
 ·obtain ⟨h1, h2, h3⟩ := this
  rw [List.take_length] at h3
  refine ⟨_, h1, h2, fun i => ?_⟩
  rw [h3]
  simp only [List.mem_filter, and_assoc]
 ·have hk : k < (es.filter (cross y)).length := (List.getElem?_eq_some_iff.1 he).1
  have hmem := List.mem_of_getElem? he
  obtain ⟨hin, hcr⟩ := List.mem_filter.1 hmem
  obtain ⟨a, b, rfl, hab, hb⟩ := h.mem e hin
  have htk : (es.filter (cross y)).take (k + 1) = (es.filter (cross y)).take k ++ [((a : Int), (b : Int))] := by rw [List.take_add_one, he]; rfl
  obtain ⟨g1, g2⟩ := hI
  have hor : 2 ^ a ||| 2 ^ b < 2 ^ 64 := or_lt' (one_lt (by omega)) (one_lt (by omega))
  refine ⟨?_, or_lt' g1 hor, fun i => ?_⟩
  ·have hne : decide ((y.testBit a).toNat = (y.testBit b).toNat) = false := by
    unfold cross at hcr
    simp only [Int.toNat_natCast] at hcr
    revert hcr
    cases y.testBit a <;> cases y.testBit b <;> decide
   unfold L9_1
   simp only [Int.toNat_natCast, he, ob_s, inB_nat hk, gd_t, F48_mem n es a b (by omega) (by omega) hin, Bool.not_true, br_f, bitval hy64 (show a ≤ 64 by omega), bitval hy64 (show b ≤ 64 by omega), hne, word_one (show a < 64 by omega), word_one (show b < 64 by omega), word_or (one_lt (show a < 64 by omega)) (one_lt (show b < 64 by omega)), word_or g1 hor, wrap_succ (show k < 4611686018427387904 by omega), decide_eq_true (show (0 : Int) ≤ (a : Int) by omega), decide_eq_true (show (0 : Int) ≤ (b : Int) by omega)]
   rw [br_dt (by omega)]
  ·simp only [Int.toNat_natCast]
   rw [htk, Nat.testBit_or, Nat.testBit_or, Bool.or_eq_true, Bool.or_eq_true, g2, tb_one, tb_one, decide_eq_true_eq, decide_eq_true_eq]
   simp only [List.mem_append, List.mem_singleton, Prod.mk.injEq, Int.natCast_inj]
   constructor
   ·rintro (⟨a', b', h1, h2⟩ | h1)
    ·exact ⟨a', b', .inl h1, h2⟩
    ·exact ⟨a, b, .inr ⟨rfl, rfl⟩, h1⟩
   ·rintro ⟨a', b', h1 | ⟨rfl, rfl⟩, h2⟩
    ·exact .inl ⟨a', b', h1, h2⟩
    ·exact .inr h2
 ·simp only [L9_1]
  rw [br_df (by omega)]
theorem okG_of {M : Nat} {es : List (Int × Int)} (h : ∃ M' : Nat, (M : Int) = (M' : Int) ∧ Okay M' es) : Okay M es := by
 obtain ⟨M', e, h⟩ := h
 have : M = M' := by omega
 subst this; exact h
theorem L9_2_body (n x : Nat) (gs : List (Int × List (Int × Int))) (k M : Nat) (es : List (Int × Int)) (hx : x < 2 ^ 64) (hk : gs[k]? = some ((M : Int), es)) (hok : okG (M : Int) es = true) (h : Okay M es) (hn : 300 < n) (hk3 : k < 3) : L9_2 n gs x (k : Int) = some (.inl ((k + 1 : Nat) : Int)) := by
 have hM := h.le
 have hlen := h.len
 have hlt : k < gs.length := (List.getElem?_eq_some_iff.1 hk).1
 obtain ⟨e1, hy⟩ := masked hM hx
 have hy64 := lt64 hy hM
 have hc64 := lt64 (comp_lt hM hy) hM
 have c1 := ckF_fit h hok hy
 have c2 := ckF_fit h hok (comp_lt hM hy)
 obtain ⟨l, b1, _, _, b3⟩ := border_both n (M : Int) es _ hy64 (by omega) (by omega) (by omega)
 obtain ⟨l', d1, _, _, d3⟩ := border_both n (M : Int) es _ hc64 (by omega) (by omega) (by omega)
 obtain ⟨w, w1, _, w3⟩ := nb_both n (M : Int) es _ hy64 (by omega) (by omega) (by omega)
 rw [c1] at b1 w1
 rw [c2] at d1
 obtain ⟨wl, wb⟩ := w3 c1
 have hl := b3 c1
 have hl' := d3 c2
 rw [cross_comp h hy, ← hl] at hl'
 subst hl'
 have hand : w &&& (x % 2 ^ M) = 0 := word_zero.2 fun i => by
  rw [Nat.testBit_and]
  cases e : w.testBit i with
  | false => rfl
  | true => rw [((wb i).1 e).2]; rfl
 obtain ⟨v, v1, v2, v3⟩ := L9_1_eq n M _ es h hy hn
 rw [← hl] at v1
 have hvw : uandn .u64 v (x % 2 ^ M) = w := word_ext fun i => by
  rw [tb_andn v2 hy64, Bool.and_eq_true, v3, wb, nb_mem h]
  simp only [Bool.not_eq_true']
  unfold cross
  simp only [Int.toNat_natCast]
  constructor
  ·rintro ⟨⟨a, b, hin, hc, rfl | rfl⟩, hi⟩
   ·refine ⟨i, b, hin, .inr ⟨?_, hi, rfl⟩⟩
    rw [hi] at hc
    revert hc; cases (x % 2 ^ M).testBit b <;> simp
   ·refine ⟨a, i, hin, .inl ⟨?_, hi, rfl⟩⟩
    rw [hi] at hc
    revert hc; cases (x % 2 ^ M).testBit a <;> simp
  ·rintro ⟨a, b, hin, ⟨h1, h2, rfl⟩ | ⟨h1, h2, rfl⟩⟩
   ·exact ⟨⟨a, i, hin, by rw [h1, h2]; rfl, .inr rfl⟩, h2⟩
   ·exact ⟨⟨i, b, hin, by rw [h1, h2]; rfl, .inl rfl⟩, h2⟩
 have hll : l'.length ≤ 200 := by rw [hl]; exact Nat.le_trans (List.length_filter_le _ _) hlen
 unfold L9_2
 simp only [Int.toNat_natCast, hk, ob_s, inB_nat hlt, gd_t, decide_eq_true (show (0 : Int) ≤ (M : Int) by omega), e1, b1, d1, w1, decide_true, Bool.not_true, br_f, F34_eq n l' l' (by omega) (by omega), word_and wl hy64, hand, v1, hvw, wrap_succ (show k < 4611686018427387904 by omega)]
 rw [br_dt (by omega)]
theorem F9_true (n x1 x2 x3 : Nat) (l4 : List (Nat × Nat)) (x8 x9 : Nat) (x10 x11 x12 : Int) (x13 x14 : Nat) (x15 x16 x17 : Int) (x18 : Nat) (h9 : x9 < 256) (h14 : x14 < 256) (h18 : x18 < 2 ^ 64) (hn : 300 < n) :
  F9 n x1 x2 x3 l4 x8 x9 x10 x11 x12 x13 x14 x15 x16 x17 x18 = some true := by
 obtain ⟨gs, h1, h2, h3⟩ := F41_eq n x1 x2 x3 l4 x8 x9 x10 x11 x12 x13 x14 x15 x16 x17 h9 h14 hn
 have hlp := lp_list0 (body := L9_2 n gs x18) gs (fun (_ : Unit) (v : Int) => v) (fun _ _ => ()) (fun _ => Sum.inr ()) (fun _ _ => True) (fun s k g hg _ => ?_) (fun s _ => ?_) (n := n) (s := ()) trivial (by omega)
 ·unfold F9 F13
  rw [ob_s, Bool.not_true, br_f, h1, ob_s]
  simp only [hlp.1, ob_s]
 ·have hk : k < gs.length := (List.getElem?_eq_some_iff.1 hg).1
  obtain ⟨hok, M, hM, h⟩ := h3 g (List.mem_of_getElem? hg)
  obtain ⟨N, es⟩ := g
  simp only at hok hM h
  subst hM
  exact ⟨L9_2_body n x18 gs k M es h18 hg hok h hn (by omega), trivial⟩
 ·unfold L9_2
  rw [br_df (by omega)]
end Go.Proofs.YtpclggcpobakhaaDoor
end

section
/-
  Chapter 18, plain laws: drafts are valid; GraphPartitions.
-/
namespace Go.Proofs.YtpclggcpobakhaaDoor
open Go Go.Ab Go.Ab.W

/-! ### Drafts are valid -/
def lastP (p : Int × Int) (l : List (Int × Int)) : Int × Int := (l.getLast?).getD p
theorem okE_snoc {N : Int} (e : Int × Int) : ∀ (l : List (Int × Int)) (p : Int × Int), okEp N p (l ++ [e]) = (okEp N p l && stepOk N (lastP p l) e)
 | [], p => by rw [List.nil_append, okE_cons]; simp [okEp, lastP]
 | x :: l, p => by
  rw [List.cons_append, okE_cons, okE_cons, okE_snoc e l x, Bool.and_assoc]
  congr 2
  unfold lastP
  cases l with
  | nil => rfl
  | cons y l =>
   rw [List.getLast?_cons_cons]
   have : ∃ z, (y :: l).getLast? = some z := ⟨_, List.getLast?_eq_some_getLast (by simp)⟩
   obtain ⟨z, hz⟩ := this
   rw [hz]; rfl
/-- Edges in order, all before (a, b). -/
def Upto (N : Int) (l : List (Int × Int)) (a b : Int) : Prop := okEp N (-1, -1) l = true ∧ ((lastP (-1, -1) l).1 < a ∨ (lastP (-1, -1) l).1 = a ∧ (lastP (-1, -1) l).2 < b)
theorem Upto.add {N : Int} {l : List (Int × Int)} {a b : Int} (h : Upto N l a b) (ha : 0 ≤ a) (hab : a < b) (hb : b < N) : Upto N (l ++ [(a, b)]) a (b + 1) := by
 refine ⟨?_, .inr ?_⟩
 ·rw [okE_snoc, h.1, Bool.true_and]
  simp only [stepOk, Bool.and_eq_true, decide_eq_true_eq]
  exact ⟨⟨ha, hab, hb⟩, h.2⟩
 ·unfold lastP
  rw [List.getLast?_append]
  simp only [List.getLast?_singleton, Option.some_or, Option.getD_some]
  exact ⟨trivial, by omega⟩
theorem Upto.next {N : Int} {l : List (Int × Int)} {a b : Int} (h : Upto N l a b) : Upto N l a (b + 1) := ⟨h.1, by rcases h.2 with h | h; exact .inl h; exact .inr (by omega)⟩
theorem Upto.row {N : Int} {l : List (Int × Int)} {a b c : Int} (h : Upto N l a b) : Upto N l (a + 1) c := ⟨h.1, .inl (by rcases h.2 with h | h <;> omega)⟩
theorem L40_2_ok (n0 : Nat) (N a w : Int) (x3 : Nat) (l4 : List (Nat × Nat)) (hN : 1 ≤ N ∧ N ≤ 12) (hw : w ≠ 0) (l : List (Int × Int)) (c b : Int) (M : Nat) (hl : l.length ≤ M) (hM : M ≤ 1000) (hb : 0 ≤ b ∧ b ≤ N) (ha : 0 ≤ a ∧ a < b) (hu : Upto N l a b) (n : Nat) (hn : 12 < n) (hn0 : 3 < n0) :
  ∃ r, lpN (L40_2 n0 N a w x3 l4) n (l, c, b) = some r ∧ r.1.length ≤ M + 12 ∧ Upto N r.1 a N := by
 refine lp_tot (body := L40_2 n0 N a w x3 l4) (R := fun r => r.1.length ≤ M + 12 ∧ Upto N r.1 a N) (fun k s => 0 ≤ s.2.2 ∧ s.2.2 + k = N ∧ s.1.length + k ≤ M + 12 ∧ a < s.2.2 ∧ Upto N s.1 a s.2.2) (fun k s hI => ?_) (N - b).toNat (l, c, b) n ⟨hb.1, by simp only; omega, by simp only; omega, ha.2, hu⟩ (by omega)
 obtain ⟨l, c, b⟩ := s
 obtain ⟨h1, h2, h3, h4, h5⟩ := hI
 simp only at h1 h2 h3 h4 h5
 simp only [L40_2]
 by_cases c1 : b < N
 ·rw [br_dt c1]
  have e1 : ∃ z, br (decide (b = IntKind.wrap .i64 (a + w))) (some true) (br (decide (b = IntKind.wrap .i64 (a + 1))) (gd (decide (w ≠ 0)) (some (!decide (Int.tmod b w = 0)))) (some false)) = some z :=
   br_bool (fun _ => some_b _) fun _ => br_bool (fun _ => ⟨_, gd_dt hw _⟩) fun _ => some_b _
  obtain ⟨z, hz⟩ := e1
  rw [hz, ob_s]
  have e2 : ∃ c' z', br z (ob (ob (br (decide (Int.tmod c 2 = 1)) (ob (some (ushr .u16 x3 (ui .u64 (Int.tmod (IntKind.wrap .i64 (Int.tdiv c 2)) 16)))) fun y2906 => some (decide (uw .u16 (uw .u16 y2906 &&& uw .u16 1) = 1))) (some false)) fun v2904 => br v2904 (some false) (some z)) fun v2900 => some (IntKind.wrap .i64 (c + 1), v2900)) (some (c, z)) = some (c', z') := by
   cases z with
   | false => exact ⟨c, false, rfl⟩
   | true =>
    rw [br_t]
    have : ∃ q, (ob (br (decide (Int.tmod c 2 = 1)) (ob (some (ushr .u16 x3 (ui .u64 (Int.tmod (IntKind.wrap .i64 (Int.tdiv c 2)) 16)))) fun y2906 => some (decide (uw .u16 (uw .u16 y2906 &&& uw .u16 1) = 1))) (some false)) fun v2904 => br v2904 (some false) (some true)) = some q := by
     by_cases h : Int.tmod c 2 = 1
     ·rw [br_dt h, ob_s, ob_s]; exact br_bool (fun _ => some_b _) fun _ => some_b _
     ·rw [br_df h, ob_s]; exact br_bool (fun _ => some_b _) fun _ => some_b _
    obtain ⟨q, hq⟩ := this
    exact ⟨_, q, by rw [hq, ob_s]⟩
  obtain ⟨c', z', hz'⟩ := e2
  rw [hz', ob_s]
  obtain ⟨q, hq⟩ := L40_1_tot n0 l4 N a b (by omega) z' n0 hn0
  simp only [hq, ob_s]
  cases q with
  | false =>
   refine .inl ⟨(l, c', b + 1), ?_, k - 1, by omega, by simp only; omega, by simp only; omega, by simp only; omega, by simp only; omega, h5.next⟩
   rw [br_f, ob_s, wrap_in (by omega) (by omega)]
  | true =>
   refine .inl ⟨(l ++ [(a, b)], c', b + 1), ?_, k - 1, by omega, by simp only; omega, by simp only; omega, by simp; omega, by simp only; omega, h5.add ha.1 h4 c1⟩
   rw [br_t, lim_of (by simp; omega), gd_t, ob_s, wrap_in (by omega) (by omega)]
 ·rw [br_df c1]; exact .inr ⟨(l, c), rfl, by simp only; omega, (show b = N by omega) ▸ h5⟩
theorem L40_3_ok (n0 : Nat) (N w : Int) (x3 : Nat) (l4 : List (Nat × Nat)) (hN : 1 ≤ N ∧ N ≤ 12) (hw : w ≠ 0) (n : Nat) (hn : 12 < n) (hn0 : 12 < n0) :
  ∃ r, lpN (L40_3 n0 N x3 l4) n (w, [], 0, 0) = some r ∧ r.length ≤ 200 ∧ okEp N (-1, -1) r = true := by
 refine lp_tot (body := L40_3 n0 N x3 l4) (R := fun r => r.length ≤ 200 ∧ okEp N (-1, -1) r = true) (fun k s => s.1 = w ∧ 0 ≤ s.2.2.2 ∧ s.2.2.2 + k = N ∧ s.2.1.length + 12 * k ≤ 144 ∧ Upto N s.2.1 s.2.2.2 0) (fun k s hI => ?_) N.toNat (w, [], 0, 0) n ⟨rfl, by simp, by simp only; omega, by simp; omega, ⟨rfl, .inl (by show (-1 : Int) < 0; decide)⟩⟩ (by omega)
 obtain ⟨w', l, c, a⟩ := s
 obtain ⟨rfl, h1, h2, h3, h4⟩ := hI
 simp only at h1 h2 h3 h4 hw
 simp only [L40_3]
 by_cases c1 : a < N
 ·rw [br_dt c1]
  obtain ⟨r, hr, hrl, hru⟩ := L40_2_ok n0 N a w' x3 l4 hN hw l c (IntKind.wrap .i64 (a + 1)) l.length (Nat.le_refl _) (by omega) (by rw [wrap_in (by omega) (by omega)]; omega) (by rw [wrap_in (by omega) (by omega)]; omega) (by rw [wrap_in (by omega) (by omega)]; exact ⟨h4.1, h4.2.imp id fun h => ⟨h.1, by omega⟩⟩) n0 hn0 (by omega)
  obtain ⟨l', c'⟩ := r
  simp only [hr, ob_s]
  exact .inl ⟨(w', l', c', a + 1), by rw [wrap_in (by omega) (by omega)], k - 1, by omega, rfl, by simp only; omega, by simp only; omega, by simp only at hrl ⊢; omega, hru.row⟩
 ·rw [br_df c1]; exact .inr ⟨l, rfl, by omega, h4.1⟩
theorem F40_ok (n x1 x2 x3 : Nat) (l4 : List (Nat × Nat)) (hn : 12 < n) : ∃ N es, F40 n x1 x2 x3 l4 = some (N, es) ∧ okG N es = true := by
 unfold F40
 have w1 : IntKind.wrap .i64 ((x1 % 4 : Nat) : Int) = ((x1 % 4 : Nat) : Int) := wrap_in (by omega) (by omega)
 have w2 : IntKind.wrap .i64 ((x2 % 3 : Nat) : Int) = ((x2 % 3 : Nat) : Int) := wrap_in (by omega) (by omega)
 have w3 : IntKind.wrap .i64 (1 + ((x1 % 4 : Nat) : Int)) = 1 + ((x1 % 4 : Nat) : Int) := wrap_in (by omega) (by omega)
 have w4 : IntKind.wrap .i64 (1 + ((x2 % 3 : Nat) : Int)) = 1 + ((x2 % 3 : Nat) : Int) := wrap_in (by omega) (by omega)
 rw [w1, w2, w3, w4, ob_s]
 have hN : ∀ a b : Nat, a < 4 → b < 3 → 1 ≤ (1 + (a : Int)) * (1 + (b : Int)) ∧ (1 + (a : Int)) * (1 + (b : Int)) ≤ 12 := by
  intro a b ha hb
  have h1 : a = 0 ∨ a = 1 ∨ a = 2 ∨ a = 3 := by omega
  have h2 : b = 0 ∨ b = 1 ∨ b = 2 := by omega
  rcases h1 with rfl | rfl | rfl | rfl <;> rcases h2 with rfl | rfl | rfl <;> decide
 have hN' := hN (x1 % 4) (x2 % 3) (Nat.mod_lt _ (by omega)) (Nat.mod_lt _ (by omega))
 rw [wrap_in (by omega) (by omega)]
 obtain ⟨r, hr, hl, hu⟩ := L40_3_ok n ((1 + ((x1 % 4 : Nat) : Int)) * (1 + ((x2 % 3 : Nat) : Int))) (1 + ((x1 % 4 : Nat) : Int)) x3 l4 hN' (by omega) n hn hn
 refine ⟨_, r, by rw [hr, ob_s], ?_⟩
 simp only [okG, Bool.and_eq_true, decide_eq_true_eq]
 exact ⟨⟨hN'.1, by omega, hl⟩, hu⟩

/-! ### GraphPartitions -/
theorem Rch.within {es : List (Int × Int)} {S c i j : Nat} (h : Rch es S i j) (hc : ∀ k, Rch es S i k → c.testBit k = true) : Rch es c i j := by
 induction h with
 | refl => exact .refl
 | step h' ha hk ih => exact .step ih ha (hc _ (.step h' ha hk))
/-- What is left: whole components. -/
def Whole1 (es : List (Int × Int)) (S r : Nat) : Prop := r < 2 ^ 64 ∧ (∀ i, r.testBit i = true → S.testBit i = true) ∧ ∀ i j, r.testBit i = true → Rch es S i j → r.testBit j = true
theorem cl_facts {es : List (Int × Int)} {S r w : Nat} (h : Whole1 es S r) (h0 : 0 < r) (hw : IsCl es S (tz r) w) :
  w.testBit (tz r) = true ∧ (∀ i, w.testBit i = true → r.testBit i = true) ∧ 0 < w ∧ tz w = tz r ∧ Whole1 es S (uandn .u64 r w) ∧ (∀ i, (uandn .u64 r w).testBit i = true → tz w < i) := by
 obtain ⟨hr, hs, hc⟩ := h
 obtain ⟨hb, hl⟩ := tz_bit h0 hr
 have hwi : w.testBit (tz r) = true := (hw.2 _).2 .refl
 have hsub : ∀ i, w.testBit i = true → r.testBit i = true := fun i hi => hc _ _ hb ((hw.2 i).1 hi)
 have hle : ∀ i, r.testBit i = true → tz r ≤ i := fun i hi => by
  rcases Nat.lt_or_ge i (tz r) with h | h
  ·rw [hl i h] at hi; cases hi
  ·exact h
 obtain ⟨hw0, hwt⟩ := tz_unique hw.1 hwi fun j hj => hle j (hsub j hj)
 refine ⟨hwi, hsub, hw0, hwt, ⟨andn_lt hr hw.1, fun i hi => ?_, fun i j hi hij => ?_⟩, fun i hi => ?_⟩
 ·rw [tb_andn hr hw.1, Bool.and_eq_true] at hi
  exact hs i hi.1
 ·rw [tb_andn hr hw.1, Bool.and_eq_true] at hi ⊢
  refine ⟨hc i j hi.1 hij, ?_⟩
  cases e : w.testBit j with
  | false => rfl
  | true =>
   have hji := hij.symm (hs i hi.1)
   have : w.testBit i = true := (hw.2 i).2 (((hw.2 j).1 e).trans hji)
   rw [this] at hi; cases hi.2
 ·rw [tb_andn hr hw.1, Bool.and_eq_true] at hi
  rw [hwt]
  have h1 := hle i hi.1
  have : i ≠ tz r := fun e => by subst e; rw [hwi] at hi; cases hi.2
  omega
theorem one_part {es : List (Int × Int)} {S r w : Nat} (h : Whole1 es S r) (h0 : 0 < r) (hw : IsCl es S (tz r) w) {L : List Nat} (hL : Cs es w w L) : L.length = 1 := by
 obtain ⟨h1, h2, h3, h4, _, _⟩ := cl_facts h h0 hw
 have hcl : IsCl es w (tz w) w := by
  rw [h4]
  exact ⟨hw.1, fun j => ⟨fun hj => ((hw.2 j).1 hj).within fun k hk => (hw.2 k).2 hk, fun hj => hj.mem h1⟩⟩
 cases hL with
 | nil => omega
 | cons g0 gr gw t =>
  have e := gw.unique hcl
  rw [e] at t
  have hz : uandn .u64 w w = 0 := word_zero.2 fun i => by
   rw [tb_andn hw.1 hw.1]; cases w.testBit i <;> rfl
  rw [hz] at t
  cases t with
  | nil => rfl
  | cons g0 => omega
theorem L6_1_eq (n M S : Nat) (es : List (Int × Int)) (l : List Nat) (h : Okay M es) (hok : okG (M : Int) es = true) (hS : S < 2 ^ M) (hn : 300 < n) (hl : l.length ≤ 64) :
  ∀ (r : Nat) (L : List Nat), Cs es S r L → ∀ (k m v : Nat), l.drop k = L → k + L.length = l.length → Whole1 es S r → v = uandn .u64 S r → (k = 0 ∨ ∃ p, l[k - 1]? = some p ∧ p < 2 ^ 64 ∧ 0 < p ∧ ∀ i, r.testBit i = true → tz p < i) → L.length < m →
   lpN (L6_1 n l (M : Int) es S) m (v, (k : Int)) = some (.inr S) := by
 intro r L hC
 have hM := h.le
 have hlen := h.len
 have hS64 := lt64 hS hM
 induction hC with
 | nil =>
  intro k m v hd hk hW hv hp hm
  obtain ⟨m, rfl⟩ : ∃ m', m = m' + 1 := ⟨m - 1, by omega⟩
  have e : uandn .u64 S 0 = S := word_ext fun i => by rw [tb_andn hS64 (by decide), Nat.zero_testBit]; simp
  rw [hv, e]
  exact lp_end (by simp only [L6_1]; simp only [List.length_nil] at hk; rw [br_df (by omega)])
 | @cons r w L h0 hr hw t ih =>
  intro k m v hd hk hW hv hp hm
  obtain ⟨m, rfl⟩ : ∃ m', m = m' + 1 := ⟨m - 1, by simp at hm; omega⟩
  simp only [List.length_cons] at hk hm
  have hlt : k < l.length := by omega
  have hat : l[k]? = some w := by
   rw [List.getElem?_eq_getElem hlt]
   rw [List.drop_eq_getElem_cons hlt] at hd
   exact congrArg some (List.cons.inj hd).1
  have hd' : l.drop (k + 1) = L := by
   rw [List.drop_eq_getElem_cons hlt] at hd
   exact (List.cons.inj hd).2
  obtain ⟨f1, f2, f3, f4, f5, f6⟩ := cl_facts hW h0 hw
  have hwS : ∀ i, w.testBit i = true → S.testBit i = true := fun i hi => hW.2.1 i (f2 i hi)
  have hwM : w < 2 ^ M := Nat.lt_pow_two_of_testBit w fun j hj => by
   cases e : w.testBit j with
   | false => rfl
   | true => have := tb_ltN hS (hwS j e); omega
  have c1 := ckF_fit h hok hwM
  obtain ⟨u, u1, _, u3⟩ := nb_both n (M : Int) es w hw.1 (by omega) (by omega) (by omega)
  obtain ⟨c, _, _, c3, _, _, c6⟩ := comps_both n (M : Int) es w hw.1 (by omega) (by omega) (by omega)
  rw [c1] at u1 c3
  obtain ⟨ul, ub⟩ := u3 c1
  have hone := one_part hW h0 hw (c6 c1)
  rw [hone] at c3
  have hvl : v < 2 ^ 64 := by rw [hv]; exact andn_lt hS64 hr
  have hwv : w &&& v = 0 := word_zero.2 fun i => by
   rw [Nat.testBit_and, hv, tb_andn hS64 hr]
   cases e : w.testBit i with
   | false => rfl
   | true => rw [f2 i e]; simp
  have huS : u &&& S = 0 := word_zero.2 fun i => by
   rw [Nat.testBit_and]
   cases e : u.testBit i with
   | false => rfl
   | true =>
    obtain ⟨⟨k', hk', ha⟩, hi⟩ := (ub i).1 e
    cases e2 : S.testBit i with
    | false => rfl
    | true =>
     have : w.testBit i = true := (hw.2 i).2 (.step ((hw.2 k').1 hk') ha e2)
     rw [hi] at this; cases this
  have hlast : br (decide (0 < (k : Int))) (gd (inB (IntKind.wrap .i64 ((k : Int) - 1)) l.length) (ob (l[(IntKind.wrap .i64 ((k : Int) - 1)).toNat]?) fun x1404 => ob (F42 n x1404) fun r1407 => ob (F42 n w) fun r1409 => some (decide (r1409 ≤ r1407)))) (some false) = some false := by
   by_cases hk0 : k = 0
   ·subst hk0; rfl
   ·rw [br_dt (by omega), wrap_in (by omega) (by omega)]
    have e : (k : Int) - 1 = ((k - 1 : Nat) : Int) := by omega
    rcases hp with hp | ⟨p, p1, p2, p3, p4⟩
    ·exact absurd hp hk0
    ·rw [e, inB_nat (by omega), gd_t, Int.toNat_natCast, p1, ob_s, F42_eq p2, ob_s, F42_eq hw.1, ob_s]
     have := p4 _ (f2 _ (tz_bit f3 hw.1).1)
     rw [decide_eq_false (by omega)]
  have hv' : v ||| w = uandn .u64 S (uandn .u64 r w) := word_ext fun i => by
   rw [Nat.testBit_or, hv, tb_andn hS64 hr, tb_andn hS64 (andn_lt hr hw.1), tb_andn hr hw.1]
   have := hwS i
   have h2 := f2 i
   revert this h2
   cases S.testBit i <;> cases r.testBit i <;> cases w.testBit i <;> simp
  rw [lp_next (s' := (v ||| w, ((k + 1 : Nat) : Int))) ?_]
  ·refine ih (k + 1) m _ hd' (by omega) f5 hv' (.inr ⟨w, by simpa using hat, hw.1, f3, f6⟩) (by omega)
  ·unfold L6_1
   simp only [Int.toNat_natCast, hat, ob_s, inB_nat hlt, gd_t, u1, c3, decide_true, Bool.and_self, Bool.not_true, br_f, word_and hw.1 hvl, hwv, word_and ul hS64, huS, hlast, word_or hvl hw.1, wrap_succ (show k < 4611686018427387904 by omega)]
   rw [br_dt (by omega)]
theorem L6_2_body (n x : Nat) (gs : List (Int × List (Int × Int))) (k M : Nat) (es : List (Int × Int)) (hx : x < 2 ^ 64) (hk : gs[k]? = some ((M : Int), es)) (hok : okG (M : Int) es = true) (h : Okay M es) (hn : 300 < n) (hk3 : k < 3) : L6_2 n gs x (k : Int) = some (.inl ((k + 1 : Nat) : Int)) := by
 have hM := h.le
 have hlen := h.len
 have hlt : k < gs.length := (List.getElem?_eq_some_iff.1 hk).1
 obtain ⟨e1, hy⟩ := masked hM hx
 have hy64 := lt64 hy hM
 have c1 := ckF_fit h hok hy
 obtain ⟨l, b1, _, b3, _, b5, b6⟩ := comps_both n (M : Int) es _ hy64 (by omega) (by omega) (by omega)
 rw [c1] at b1 b3
 have hC := b6 c1
 have hz : uandn .u64 (x % 2 ^ M) (x % 2 ^ M) = 0 := word_zero.2 fun i => by
  rw [tb_andn hy64 hy64]; cases (x % 2 ^ M).testBit i <;> rfl
 have hloop := L6_1_eq n M _ es l h hok hy hn b5 _ l hC 0 n 0 rfl (by omega) ⟨hy64, fun i hi => hi, fun i j hi hij => hij.mem hi⟩ hz.symm (.inl rfl) (by omega)
 have hloop' : lpN (L6_1 n l (M : Int) es (x % 2 ^ M)) n (0, 0) = some (.inr (x % 2 ^ M)) := hloop
 have e : decide (((l.length : Nat) : Int) = 1) = decide (l.length = 1) := by
  by_cases h : l.length = 1
  ·rw [decide_eq_true h, decide_eq_true (by omega)]
  ·rw [decide_eq_false h, decide_eq_false (by omega)]
 unfold L6_2
 simp only [Int.toNat_natCast, hk, ob_s, inB_nat hlt, gd_t, decide_eq_true (show (0 : Int) ≤ (M : Int) by omega), e1, b1, b3, decide_true, Bool.not_true, br_f, Bool.true_and, e, beq_self_eq_true, hloop', wrap_succ (show k < 4611686018427387904 by omega)]
 rw [br_dt (by omega)]
theorem F6_true (n x1 x2 x3 : Nat) (l4 : List (Nat × Nat)) (x8 x9 : Nat) (x10 x11 x12 : Int) (x13 x14 : Nat) (x15 x16 x17 : Int) (x18 : Nat) (h9 : x9 < 256) (h14 : x14 < 256) (h18 : x18 < 2 ^ 64) (hn : 300 < n) :
  F6 n x1 x2 x3 l4 x8 x9 x10 x11 x12 x13 x14 x15 x16 x17 x18 = some true := by
 obtain ⟨gs, h1, h2, h3⟩ := F41_eq n x1 x2 x3 l4 x8 x9 x10 x11 x12 x13 x14 x15 x16 x17 h9 h14 hn
 obtain ⟨N, es, d1, d2⟩ := F40_ok n x1 x2 x3 l4 (by omega)
 obtain ⟨M0, _, hM0⟩ := okay_of d2
 have hl0 := hM0.len
 have d3 : F23 n N es = some 0 := by rw [F23_eq n N es (by omega) (by omega) (by omega)]; unfold ckG; rw [if_pos d2]
 have hlp := lp_list0 (body := L6_2 n gs x18) gs (fun (_ : Unit) (v : Int) => v) (fun _ _ => ()) (fun _ => Sum.inr ()) (fun _ _ => True) (fun s k g hg _ => ?_) (fun s _ => ?_) (n := n) (s := ()) trivial (by omega)
 ·unfold F6 F13
  rw [ob_s, Bool.not_true, br_f, d1, ob_s]
  simp only [d3, ob_s, decide_true, Bool.not_true, br_f, h1, hlp.1]
 ·have hk : k < gs.length := (List.getElem?_eq_some_iff.1 hg).1
  obtain ⟨hok, M, hM, h⟩ := h3 g (List.mem_of_getElem? hg)
  obtain ⟨N, es⟩ := g
  simp only at hok hM h
  subst hM
  exact ⟨L6_2_body n x18 gs k M es h18 hg hok h hn (by omega), trivial⟩
 ·unfold L6_2
  rw [br_df (by omega)]
end Go.Proofs.YtpclggcpobakhaaDoor
end

section
/-
  Chapter 18, plain laws: distances.
-/
namespace Go.Proofs.YtpclggcpobakhaaDoor
open Go Go.Ab Go.Ab.W

/-- By k steps at most, within a set. -/
def Wkk (es : List (Int × Int)) (S i : Nat) : Nat → Nat → Prop
 | 0, j => j = i
 | k + 1, j => Wkk es S i k j ∨ ∃ h, Wkk es S i k h ∧ adj es h j ∧ S.testBit j = true
section
variable {es : List (Int × Int)} {S i j : Nat}
theorem wk_mono {k k' : Nat} (h : Wkk es S i k j) (hk : k ≤ k') : Wkk es S i k' j := by
 induction hk with
 | refl => exact h
 | step _ ih => exact .inl ih
theorem wk_mem (hi : S.testBit i = true) : ∀ {k j : Nat}, Wkk es S i k j → S.testBit j = true
 | 0, j, h => by rw [show j = i from h]; exact hi
 | k + 1, j, h => by
  rcases h with h | ⟨_, _, _, h⟩
  ·exact wk_mem hi h
  ·exact h
theorem wk_rch : ∀ {k j : Nat}, Wkk es S i k j → Rch es S i j
 | 0, j, h => by rw [show j = i from h]; exact .refl
 | k + 1, j, h => by
  rcases h with h | ⟨_, h1, h2, h3⟩
  ·exact wk_rch h
  ·exact .step (wk_rch h1) h2 h3
theorem rch_wk (h : Rch es S i j) : ∃ k, Wkk es S i k j := by
 induction h with
 | refl => exact ⟨0, rfl⟩
 | step _ ha hk ih => obtain ⟨k, h⟩ := ih; exact ⟨k + 1, .inr ⟨_, h, ha, hk⟩⟩
theorem wk_trans {a : Nat} (h : Wkk es S i a j) : ∀ {b l : Nat}, Wkk es S j b l → Wkk es S i (a + b) l
 | 0, l, h' => by rw [show l = j from h']; exact h
 | b + 1, l, h' => by
  rcases h' with h' | ⟨x, h1, h2, h3⟩
  ·exact .inl (wk_trans h h')
  ·exact .inr ⟨x, wk_trans h h1, h2, h3⟩
theorem wk_symm (hi : S.testBit i = true) : ∀ {k j : Nat}, Wkk es S i k j → Wkk es S j k i
 | 0, j, h => (show j = i from h).symm
 | k + 1, j, h => by
  rcases h with h | ⟨x, h1, h2, h3⟩
  ·exact .inl (wk_symm hi h)
  ·have := wk_trans (a := 1) (i := j) (j := x) (es := es) (S := S) (.inr ⟨j, rfl, adj_symm h2, wk_mem hi h1⟩) (wk_symm hi h1)
   rw [Nat.add_comm] at this
   exact this
end
/-- A distance: -1 if there is no way. -/
def Dv (es : List (Int × Int)) (S i j : Nat) (v : Int) : Prop := (v = -1 ∧ ∀ k, ¬ Wkk es S i k j) ∨ ∃ d : Nat, v = (d : Int) ∧ d ≤ 64 ∧ Wkk es S i d j ∧ ∀ k, k < d → ¬ Wkk es S i k j
theorem foldl_set (d : Int) : ∀ (l : List Nat) (out : List Int), (l.foldl (fun o k => o.set k d) out).length = out.length ∧ ∀ j, (l.foldl (fun o k => o.set k d) out)[j]? = if j ∈ l ∧ j < out.length then some d else out[j]?
 | [], out => ⟨rfl, fun j => by simp⟩
 | x :: l, out => by
  obtain ⟨h1, h2⟩ := foldl_set d l (out.set x d)
  rw [List.foldl_cons]
  refine ⟨by rw [h1, List.length_set], fun j => ?_⟩
  rw [h2, List.length_set]
  by_cases hlt : j < out.length
  ·by_cases hj : j ∈ l
   ·rw [if_pos ⟨hj, hlt⟩, if_pos ⟨List.mem_cons_of_mem _ hj, hlt⟩]
   ·rw [if_neg (fun h => hj h.1)]
    by_cases e : x = j
    ·rw [if_pos ⟨by rw [e]; exact List.mem_cons_self .., hlt⟩, e, List.getElem?_set_self hlt]
    ·rw [if_neg (fun h => by rcases List.mem_cons.1 h.1 with h1 | h1; exact e h1.symm; exact hj h1), List.getElem?_set_ne e]
  ·rw [if_neg (fun h => hlt h.2), if_neg (fun h => hlt h.2), List.getElem?_eq_none (by rw [List.length_set]; omega), List.getElem?_eq_none (by omega)]
theorem L20_1_eq (n : Nat) (L out : List Int) (N d front : Nat) (hL : L.length = N) (ho : out.length = N) (hf : front < 2 ^ N) (hN : N ≤ 64) (hn : 64 < n) :
  lpN (L20_1 n L (d : Int)) n (front, out) = some ((bitsOf front).foldl (fun o k => o.set k (d : Int)) out) := by
 have hf64 := lt64 hf hN
 refine lp_bits (body := L20_1 n L (d : Int)) (fun (r : Nat) (s : List Int) => (r, s)) (fun o k => o.set k (d : Int)) id (fun s => s.length = N) front (fun r s h0 hr hb hs => ?_) (fun s _ => ?_) n front out hf64 (fun i hi => hi) ho (by have := bitsOf_len front; omega)
 ·have hk := tb_ltN hf hb
  refine ⟨?_, by simpa using hs⟩
  have e1 : s[tz r]? = some s[tz r] := List.getElem?_eq_getElem (by omega)
  simp only [L20_1, F42_eq hr, ob_s, Int.toNat_natCast, e1]
  rw [show (!decide (r = 0)) = true by simp; omega, br_t, inB_nat (by omega), gd_t]
  rfl
 ·simp only [L20_1]
  rfl
theorem L20_2_eq (n N : Nat) (es : List (Int × Int)) (L : List Int) (S i : Nat) (hok : Okay N es) (hS : S < 2 ^ N) (hi : S.testBit i = true) (hL : L.length = N) (hn : 200 < n) :
  ∀ (q d m R F : Nat) (out : List Int), q + d = 65 → q < m → R < 2 ^ N → F < 2 ^ N → (∀ j, R.testBit j = true ↔ Wkk es S i d j) → (∀ j, F.testBit j = true ↔ Wkk es S i d j ∧ ∀ k, k < d → ¬ Wkk es S i k j) → (F ≠ 0 → d < cnt R) → out.length = N →
   (∀ j, j < N → ∃ v, out[j]? = some v ∧ ((v = -1 ∧ ∀ k, k < d → ¬ Wkk es S i k j) ∨ ∃ e : Nat, e < d ∧ v = (e : Int) ∧ Wkk es S i e j ∧ ∀ k, k < e → ¬ Wkk es S i k j)) →
   ∃ l, lpN (L20_2 n L (N : Int) es S) m (out, R, (d : Int), F) = some l ∧ l.length = N ∧ ∀ j, j < N → ∃ v, l[j]? = some v ∧ Dv es S i j v := by
 have hN := hok.le
 have hS64 := lt64 hS hN
 intro q
 induction q with
 | zero =>
  intro d m R F out hq hm hR hF hRb hFb hc ho hv
  have hcl : cnt R ≤ 64 := bitsOf_len R
  have hF0 : F = 0 := by
   apply Classical.byContradiction
   intro h
   have := hc h; omega
  obtain ⟨m, rfl⟩ : ∃ m', m = m' + 1 := ⟨m - 1, by omega⟩
  have hd : d = 65 := by omega
  refine ⟨out, lp_end (by simp only [L20_2, hF0]; rfl), ho, fun j hj => ?_⟩
  have hstop : ∀ k j, Wkk es S i k j → Wkk es S i 64 j := by
   have hnew : ∀ j, Wkk es S i 65 j → Wkk es S i 64 j := fun j h => by
    apply Classical.byContradiction
    intro hno
    have : F.testBit j = true := (hFb j).2 ⟨by rw [hd]; exact h, fun k hk h' => hno (wk_mono h' (by omega))⟩
    rw [hF0, Nat.zero_testBit] at this; cases this
   intro k
   induction k with
   | zero => intro j h; exact wk_mono h (by omega)
   | succ k ih =>
    intro j h
    rcases h with h | ⟨x, h1, h2, h3⟩
    ·exact ih j h
    ·exact hnew j (.inr ⟨x, ih x h1, h2, h3⟩)
  obtain ⟨v, h1, h2⟩ := hv j hj
  refine ⟨v, h1, ?_⟩
  rcases h2 with ⟨h2, h3⟩ | ⟨e, h2, h3, h4, h5⟩
  ·exact .inl ⟨h2, fun k h => h3 64 (by omega) (hstop k j h)⟩
  ·exact .inr ⟨e, h3, by omega, h4, h5⟩
 | succ q ih =>
  intro d m R F out hq hm hR hF hRb hFb hc ho hv
  obtain ⟨m, rfl⟩ : ∃ m', m = m' + 1 := ⟨m - 1, by omega⟩
  have hR64 := lt64 hR hN
  by_cases hF0 : F = 0
  ·refine ⟨out, lp_end (by simp only [L20_2, hF0]; rfl), ho, fun j hj => ?_⟩
   have hd0 : d ≠ 0 := fun e => by
    subst e
    have : F.testBit i = true := (hFb i).2 ⟨rfl, fun k hk => absurd hk (Nat.not_lt_zero k)⟩
    rw [hF0, Nat.zero_testBit] at this; cases this
   obtain ⟨d', rfl⟩ : ∃ d', d = d' + 1 := ⟨d - 1, by omega⟩
   have hnew : ∀ j, Wkk es S i (d' + 1) j → Wkk es S i d' j := fun j h => by
    apply Classical.byContradiction
    intro hno
    have : F.testBit j = true := (hFb j).2 ⟨h, fun k hk h' => hno (wk_mono h' (by omega))⟩
    rw [hF0, Nat.zero_testBit] at this; cases this
   have hstop : ∀ k j, Wkk es S i k j → Wkk es S i d' j := by
    intro k
    induction k with
    | zero => intro j h; exact wk_mono h (by omega)
    | succ k ih =>
     intro j h
     rcases h with h | ⟨x, h1, h2, h3⟩
     ·exact ih j h
     ·exact hnew j (.inr ⟨x, ih x h1, h2, h3⟩)
   obtain ⟨v, h1, h2⟩ := hv j hj
   refine ⟨v, h1, ?_⟩
   rcases h2 with ⟨h2, h3⟩ | ⟨e, h2, h3, h4, h5⟩
   ·exact .inl ⟨h2, fun k h => h3 d' (by omega) (hstop k j h)⟩
   ·exact .inr ⟨e, h3, by omega, h4, h5⟩
  ·have hdc := hc hF0
   have hcl : cnt R ≤ 64 := bitsOf_len R
   obtain ⟨w, w1, w2, w3⟩ := F56_eq n N es R hok hR hn
   have hset := foldl_set (d : Int) (bitsOf F) out
   have hFl := L20_1_eq n L out N d F hL ho hF hN (by omega)
   have hF' : w &&& S < 2 ^ N := Nat.lt_of_le_of_lt Nat.and_le_right hS
   have hR' : R ||| (w &&& S) < 2 ^ N := Nat.or_lt_two_pow hR hF'
   have hF'64 := lt64 hF' hN
   have hbody : L20_2 n L (N : Int) es S (out, R, (d : Int), F) = some (.inl ((bitsOf F).foldl (fun o k => o.set k (d : Int)) out, R ||| (w &&& S), ((d + 1 : Nat) : Int), w &&& S)) := by
    simp only [L20_2, ob_s, hFl, w1, word_and w2 hS64, word_or hR64 hF'64, wrap_succ (show d < 4611686018427387904 by omega)]
    rw [show (!decide (F = 0)) = true by simp [hF0], br_t]
   rw [lp_next hbody]
   have hRb' : ∀ j, (R ||| (w &&& S)).testBit j = true ↔ Wkk es S i (d + 1) j := fun j => by
    rw [Nat.testBit_or, Nat.testBit_and, Bool.or_eq_true, Bool.and_eq_true, hRb, w3]
    constructor
    ·rintro (h | ⟨⟨⟨k, hk, ha⟩, _⟩, hs⟩)
     ·exact .inl h
     ·exact .inr ⟨k, (hRb k).1 hk, ha, hs⟩
    ·rintro (h | ⟨k, hk, ha, hs⟩)
     ·exact .inl h
     ·cases e : R.testBit j with
      | true => exact .inl ((hRb j).1 e)
      | false => exact .inr ⟨⟨⟨k, (hRb k).2 hk, ha⟩, e⟩, hs⟩
   have hFb' : ∀ j, (w &&& S).testBit j = true ↔ Wkk es S i (d + 1) j ∧ ∀ k, k < d + 1 → ¬ Wkk es S i k j := fun j => by
    rw [Nat.testBit_and, Bool.and_eq_true, w3]
    constructor
    ·rintro ⟨⟨⟨k, hk, ha⟩, hj⟩, hs⟩
     refine ⟨.inr ⟨k, (hRb k).1 hk, ha, hs⟩, fun k' hk' h => ?_⟩
     have := (hRb j).2 (wk_mono h (by omega))
     rw [hj] at this; cases this
    ·rintro ⟨h, hno⟩
     have hj : R.testBit j = false := by
      cases e : R.testBit j with
      | false => rfl
      | true => exact absurd ((hRb j).1 e) (hno d (by omega))
     rcases h with h | ⟨k, hk, ha, hs⟩
     ·exact absurd h (hno d (by omega))
     ·exact ⟨⟨⟨k, (hRb k).2 hk, ha⟩, hj⟩, hs⟩
   refine ih (d + 1) m _ _ _ (by omega) (by omega) hR' hF' hRb' hFb' (fun h => ?_) (by rw [hset.1]; exact ho) (fun j hj => ?_)
   ·obtain ⟨j, hj⟩ : ∃ j, (w &&& S).testBit j = true := by
     apply Classical.byContradiction
     intro hno
     refine h (word_zero.2 fun j => ?_)
     cases e : (w &&& S).testBit j with
     | false => rfl
     | true => exact absurd ⟨j, e⟩ hno
    have h1 := (hFb' j).1 hj
    have := cnt_lt (a := R) (b := R ||| (w &&& S)) (i := j) (lt64 hR' hN) (fun k hk => by rw [Nat.testBit_or, hk]; rfl) (by
     cases e : R.testBit j with
     | false => rfl
     | true => exact absurd ((hRb j).1 e) (h1.2 d (by omega))) (by rw [Nat.testBit_or, hj]; simp)
    omega
   ·obtain ⟨v, h1, h2⟩ := hv j hj
    rw [hset.2]
    by_cases hjF : F.testBit j = true
    ·have := (hFb j).1 hjF
     exact ⟨(d : Int), by rw [if_pos ⟨(mem_bitsOf (lt64 hF hN)).2 hjF, by omega⟩], .inr ⟨d, by omega, rfl, this.1, this.2⟩⟩
    ·refine ⟨v, by rw [if_neg (fun h => hjF ((mem_bitsOf (lt64 hF hN)).1 h.1))]; exact h1, ?_⟩
     rcases h2 with ⟨h2, h3⟩ | ⟨e, h2, h3, h4, h5⟩
     ·refine .inl ⟨h2, fun k hk h => ?_⟩
      rcases Nat.lt_or_ge k d with hkd | hkd
      ·exact h3 k hkd h
      ·have : k = d := by omega
       subst this
       exact hjF ((hFb j).2 ⟨h, h3⟩)
     ·exact .inr ⟨e, by omega, h3, h4, h5⟩
theorem F20_eq (n N : Nat) (es : List (Int × Int)) (S i : Nat) (hg : okG (N : Int) es = true) (hok : Okay N es) (hS : S < 2 ^ N) (hi : S.testBit i = true) (hn : 200 < n) :
  ∃ l, F20 n (N : Int) es S (i : Int) = some (l, 0) ∧ l.length = N ∧ ∀ j, j < N → ∃ v, l[j]? = some v ∧ Dv es S i j v := by
 have hN := hok.le
 have hlen := hok.len
 have hpos := hok.pos
 have hS64 := lt64 hS hN
 have hiN := tb_ltN hS hi
 have hone : 2 ^ i < 2 ^ N := Nat.pow_lt_pow_right (by decide) hiN
 obtain ⟨l, h1, h2, h3⟩ := L20_2_eq n N es (List.replicate N (-1)) S i hok hS hi (by simp) hn 65 0 n (2 ^ i) (2 ^ i) (List.replicate N (-1)) rfl (by omega) hone hone (fun j => by rw [tb_one, decide_eq_true_eq]; rfl) (fun j => by
  rw [tb_one, decide_eq_true_eq]
  exact ⟨fun h => ⟨h, fun k hk => absurd hk (Nat.not_lt_zero k)⟩, fun h => h.1⟩) (fun _ => by
   have := cnt_lt (a := 0) (b := 2 ^ i) (i := i) (lt64 hone hN) (fun k hk => by rw [Nat.zero_testBit] at hk; cases hk) (Nat.zero_testBit i) (by rw [tb_one]; simp)
   omega) (by simp) (fun j hj => ⟨-1, by simp [hj], .inl ⟨rfl, fun k hk => absurd hk (Nat.not_lt_zero k)⟩⟩)
 refine ⟨l, ?_, h2, h3⟩
 have h1' : lpN (L20_2 n (List.replicate N (-1)) (N : Int) es S) n (List.replicate N (-1), 2 ^ i, 0, 2 ^ i) = some l := h1
 have c1 := ckF_fit hok hg hS
 unfold F20
 rw [F55_eq n N es S hS64 (by omega) (by omega) (by omega), ob_s, c1]
 simp only [decide_true, Bool.not_true, br_f]
 rw [br_df (show ¬ (i : Int) < 0 by omega), br_df (show ¬ (N : Int) ≤ (i : Int) by omega), F57_eq n S i hS64 (by omega), hi, ob_s, ob_s, Bool.not_true, br_f]
 have e60 : F60r n [-1] (N : Int) = some (List.replicate N (-1)) := by
  unfold F60r
  simp only
  rw [decide_eq_true (show (1 : Int) ≤ (N : Int) by omega), gd_t, Int.toNat_natCast, lim_of (by omega), gd_t]
 rw [e60, ob_s, decide_eq_true (show (0 : Int) ≤ (i : Int) by omega), gd_t, Int.toNat_natCast, word_one (by omega)]
 simp only [h1', ob_s]
end Go.Proofs.YtpclggcpobakhaaDoor
end
