/- Texts of the abstract machine and of the walks, joined: T30W2 T30W3 AbsWord. -/
import Derived.Test.YtookeaakpiefjaaGreatDoorTp5
section
namespace Go.Proofs.YtookeaakpiefjaaGreatDoor
open Go Go.Ab Go.Ab.W
set_option maxRecDepth 10000
set_option maxHeartbeats 4000000
attribute [local irreducible] Tm.at Trie.set Trie.get AMem.get AMem.set AMem.alloc AMem.ww AMem.kill
theorem f121_ok (n : Nat) (x1 : Bool) (l2 : List (Int)) (x6 : Bool) (l7 : List (Int)) (a3 : Option Addr) (c4 : Nat) (a8 : Option Addr) (c9 : Nat) (r : Int) (hF : F121 n x1 l2 x6 l7 = some r) (m : AMem) (h5 : Rd m a3 c4 1 l2.length (l2.map (eI .i64))) (h10 : Rd m a8 c9 1 l7.length (l7.map (eI .i64))) :
  CallA E30w 121 [.agg #[.bool x1, .slice a3 l2.length c4], .agg #[.bool x6, .slice a8 l7.length c9]] m (fun v m' => ∃ x : Unit, v = .int .i64 r ∧ Hp m m' []) := by
 unfold F121 at hF
 refine call_wk (m0 := m) (ps := [.rd a8 c9 1 l7.length (l7.map (eI .i64)), .rd a3 c4 1 l2.length (l2.map (eI .i64))]) (N := 15) (rs := [.tmp 4]) rfl Tryz.func121 rfl rfl rfl (((Hp.start m).inn rfl h5).inn rfl h10) <| Wk.seq <| Wk.region <| Wo.x (o_bx rfl) gn rfl fun b11 => ?_
 refine Wo.x (o_bx rfl) gn rfl fun b12 => ?_
 refine Wo.od (o_as rfl) rfl <| Wo.nil <| At.tn <| Wk.seq <| Wk.region <| Wo.od (o_ld (k := 1) t118 rfl rfl rfl) rfl <| Wo.od (o_ld (k := 0) t118 rfl rfl rfl) rfl ?_
 obtain ⟨⟨r14, l15⟩, h13, hF⟩ := ob_some hF
 refine Wo.x (o_clv (N := (fun x : Option Addr × Nat × Nat => [.rd x.1 x.2.1 1 x.2.2 (l15.map (eI .i64))])) rfl rfl (fun m hm => f147_ok n x1 l2 x6 l7 a3 c4 a8 c9 _ h13 m hm.owns_lt (hm.rd (k := 3) rfl (.rd _ _ _ _ _)) (hm.noOwn (k := 3) rfl) (hm.rd (k := 2) rfl (.rd _ _ _ _ _)) (hm.noOwn (k := 2) rfl)) fun _ => rfl) gn rfl ?_
 rintro ⟨a16, c17, n18⟩
 refine Wo.lenr (k := 0) (xs := l15) rfl ?_
 rintro rfl
 refine Wo.x (o_al z118 rfl) gn rfl fun b19 => ?_
 refine Wo.o0 (o_st (k := 0) t118 rfl rfl rfl rfl rfl) <| Wo.nil <| At.tn <| Wk.seq <| Wk.seq <| Wk.region <| Wo.od (o_fa (r := ptr b19 0) rfl (fa118_0 _ _)) rfl <| Wo.od (o_ld (k := 0) t4 rfl rfl rfl) rfl <| Wo.nil <| At.tn ?_
 rcases br_some hF with ⟨h20, hF⟩ | ⟨h20, hF⟩
 ·refine Wk.condT rfl h20 <| Wk.seq <| Wk.region <| Wo.od (o_as rfl) rfl <| Wo.nil <| At.tn <| Wk.ret <| At.tr ?_
  cases hF
  exact At.ret (.tmp rfl .nil) fun m' hm => ⟨(), rfl, (Turn.picks [] rfl rfl) m' hm⟩
 ·refine Wk.condF rfl h20 <| Wk.skip <| At.tn <| Wk.seq <| Wk.seq <| Wk.region <| Wo.od (o_fa (r := ptr b19 1) rfl (fa118_1 _ _)) rfl <| Wo.od (o_ld (k := 0) t49 rfl rfl rfl) rfl <| Wo.od (o_ln (k := 1) u49 rfl rfl (.inl rfl)) rfl <| Wo.od (o_bi rfl rfl (bin_gtr _ _ _)) rfl <| Wo.nil <| At.tn ?_
  rcases br_some hF with ⟨h21, hF⟩ | ⟨h21, hF⟩
  ·refine Wk.condT rfl h21 <| Wk.seq <| Wk.region <| Wo.od (o_as rfl) rfl <| Wo.nil <| At.tn <| Wk.ret <| At.tr ?_
   cases hF
   exact At.ret (.tmp rfl .nil) fun m' hm => ⟨(), rfl, (Turn.picks [] rfl rfl) m' hm⟩
  ·refine Wk.condF rfl h21 <| Wk.skip <| At.tn <| Wk.seq <| Wk.region <| Wo.od (o_as rfl) rfl <| Wo.nil <| At.tn <| Wk.ret ?_
   cases hF
   exact At.ret (.tmp rfl .nil) fun m' hm => ⟨(), rfl, (Turn.picks [] rfl rfl) m' hm⟩
theorem f65_ok (n : Nat) (x1 : Bool) (l2 : List (Int)) (a3 : Option Addr) (c4 : Nat) (r : Int × Int) (hF : F65 n x1 l2 = some r) (m : AMem) (h5 : Rd m a3 c4 1 l2.length (l2.map (eI .i64))) :
  CallA E30w 65 [.agg #[.bool x1, .slice a3 l2.length c4]] m (fun v m' => ∃ x : Unit, v = .tuple #[.int .i64 r.1, .int .i64 r.2] ∧ Hp m m' []) := by
 unfold F65 at hF
 refine call_wk (m0 := m) (ps := [.rd a3 c4 1 l2.length (l2.map (eI .i64))]) (N := 39) (rs := [.tmp 2, .tmp 3]) rfl Tryz.func65 rfl rfl rfl ((Hp.start m).inn rfl h5) <| Wk.seq <| Wk.region <| Wo.x (o_bx rfl) gn rfl fun b6 => ?_
 refine Wo.od (o_as rfl) rfl <| Wo.od (o_as rfl) rfl <| Wo.nil <| At.tn <| Wk.seq <| Wk.seq ?_
 obtain ⟨v62, h80, hF⟩ := ob_some hF
 refine Wk.cut (G := (fun (r : Bool) (g : Unit) => match r, g with | v62, _ => ⟨.normal, [(1, ptr b6 0), (15, .bool v62)], [.obj b6 (.cells [.bool x1, .slice a3 l2.length c4] .own), .rd a3 c4 1 l2.length (l2.map (eI .i64))]⟩) v62) ?_ ?_
 ·clear hF
  revert v62
  intro r hF
  refine Wk.drawc (prs := [(0, 1), (5, 6)]) (by kernel_rfl) <| Wn.od (o_ld (k := 0) t118 rfl rfl rfl) rfl ?_
  obtain ⟨⟨r64, l65⟩, h63, hF⟩ := ob_some hF
  refine Wn.c (o_cev (N := (fun x : Option Addr × Nat × Nat => [.rd x.1 x.2.1 1 x.2.2 (l65.map (eI .i64))])) rfl rfl (fun m hm => f72_ok n (-9223372036854775808)  _ h63 m hm.owns_lt ) fun _ => rfl) gn rfl ?_
  rintro ⟨a66, c67, n68⟩
  refine Wn.lenr (k := 0) (xs := l65) rfl ?_
  rintro rfl
  obtain ⟨r70, h69, hF⟩ := ob_some hF
  refine Wn.c (o_ce rfl rfl (fun m hm => f121_ok n x1 l2 r64 l65 a3 c4 a66 c67 _ h69 m (hm.rd (k := 2) rfl (.rd _ _ _ _ _)) (hm.rd (k := 0) rfl (.rd _ _ _ _ _))) fun _ => rfl) gn rfl ?_
  rintro ⟨⟩
  refine Wn.od (o_bi rfl rfl (bin_lss _ _ _)) rfl <| Wn.od (o_mv rfl) rfl ?_
  rcases br_some hF with ⟨h71, hF⟩ | ⟨h71, hF⟩
  ·refine Wn.s (gg rfl rfl (eTF h71)) rfl <| Wn.s (gg rfl rfl (eTF h71)) rfl <| Wn.s (gg rfl rfl (eTF h71)) rfl <| Wn.s (gg rfl rfl (eTF h71)) rfl <| Wn.od (o_pt rfl h71 rfl) rfl <| Wn.nil (fun m hm => OkP.all rfl) ?_
   cases hF
   exact At.en () rfl (sc rfl (sc rfl sn)) (Turn.picks [1, 2] rfl rfl)
  ·refine Wn.og (o_ld (k := 1) t118 rfl rfl rfl) (gg rfl rfl (eFF h71)) rfl ?_
   obtain ⟨⟨r73, l74⟩, h72, hF⟩ := ob_some hF
   refine Wn.c (o_cev (N := (fun x : Option Addr × Nat × Nat => [.rd x.1 x.2.1 1 x.2.2 (l74.map (eI .i64))])) rfl rfl (fun m hm => f72_ok n 9223372036854775807  _ h72 m hm.owns_lt ) fun _ => rfl) (gg rfl rfl (eFF h71)) rfl ?_
   rintro ⟨a75, c76, n77⟩
   refine Wn.lenr (k := 0) (xs := l74) rfl ?_
   rintro rfl
   obtain ⟨r79, h78, hF⟩ := ob_some hF
   refine Wn.c (o_ce rfl rfl (fun m hm => f121_ok n x1 l2 r73 l74 a3 c4 a75 c76 _ h78 m (hm.rd (k := 3) rfl (.rd _ _ _ _ _)) (hm.rd (k := 0) rfl (.rd _ _ _ _ _))) fun _ => rfl) (gg rfl rfl (eFF h71)) rfl ?_
   rintro ⟨⟩
   refine Wn.og (o_bi rfl rfl (bin_gtr _ _ _)) (gg rfl rfl (eFF h71)) rfl <| Wn.od (o_pf rfl h71 rfl) rfl <| Wn.nil (fun m hm => OkP.all rfl) ?_
   cases hF
   exact At.en () rfl (sc rfl (sc rfl sn)) (Turn.picks [2, 3] rfl rfl)
 ·clear h80
  rintro ⟨⟩
  refine At.tn ?_
  rcases br_some hF with ⟨h82, hF⟩ | ⟨h82, hF⟩
  ·refine Wk.condT rfl h82 <| Wk.seq <| Wk.region <| Wo.od (o_as rfl) rfl <| Wo.od (o_as rfl) rfl <| Wo.nil <| At.tn <| Wk.ret <| At.tr ?_
   cases hF
   exact At.ret (.tmp rfl (.tmp rfl .nil)) fun m' hm => ⟨(), rfl, (Turn.picks [] rfl rfl) m' hm⟩
  ·refine Wk.condF rfl h82 <| Wk.skip <| At.tn <| Wk.seq <| Wk.region <| Wo.od (o_as rfl) rfl <| Wo.nil <| At.tn <| Wk.seq <| Wk.seq <| Wk.region <| Wo.od (o_fa (r := ptr b6 1) rfl (fa118_1 _ _)) rfl <| Wo.od (o_ld (k := 0) t49 rfl rfl rfl) rfl <| Wo.od (o_ln (k := 1) u49 rfl rfl (.inl rfl)) rfl <| Wo.od (o_bi rfl rfl (bin_sub _ _ _)) rfl <| Wo.od (o_as rfl) rfl <| Wo.nil <| At.tn <| Wk.block ?_
   obtain ⟨v95, h102, hF⟩ := ob_some hF
   refine Wk.cut (G := (fun (r : Nat) (g : Unit) => match r, g with | v95, _ => ⟨(.exit 0), [(1, ptr b6 0), (4, .int .u64 ((v95 : Nat) : Int))], [.obj b6 (.cells [.bool x1, .slice a3 l2.length c4] .own), .rd a3 c4 1 l2.length (l2.map (eI .i64))]⟩) v95) ?_ ?_
   ·refine Wk.weak (fs' := [(1, ptr b6 0), (4, .int .u64 ((0 : Nat) : Int)), (5, .int .i64 (IntKind.wrap .i64 ((l2.length : Int) - 1)))]) (ps' := [.obj b6 (.cells [.bool x1, .slice a3 l2.length c4] .own), .rd a3 c4 1 l2.length (l2.map (eI .i64))]) (sc rfl (sc rfl (sc rfl sn))) (Turn.picks [0, 1] rfl rfl) ?_
    refine Wk.loop (σ := Nat × Int) (ρ := Nat) (γ := Unit) (δ := fun _ => Unit) _ (fun (s : Nat × Int) (g : Unit) => match s, g with | (v85, v86), _ => ⟨.normal, [(1, ptr b6 0), (4, .int .u64 ((v85 : Nat) : Int)), (5, .int .i64 v86)], [.obj b6 (.cells [.bool x1, .slice a3 l2.length c4] .own), .rd a3 c4 1 l2.length (l2.map (eI .i64))]⟩) (fun (r : Nat) (g : Unit) => match r, g with | v95, _ => ⟨(.exit 0), [(1, ptr b6 0), (4, .int .u64 ((v95 : Nat) : Int))], [.obj b6 (.cells [.bool x1, .slice a3 l2.length c4] .own), .rd a3 c4 1 l2.length (l2.map (eI .i64))]⟩) ?_ (fun _ _ => rfl) (fun r d => by intro e; cases e) _ _ _ h102 ()
    clear hF h102
    rintro ⟨v85, v86⟩ ⟨⟩ r hF
    unfold L65_1 at hF
    refine Wk.seq <| Wk.seq <| Wk.region <| Wo.od (o_mv rfl) rfl <| Wo.od (o_bi rfl rfl (bin_geq _ _ _)) rfl <| Wo.nil <| At.tn ?_
    rcases br_some hF with ⟨h96, hF⟩ | ⟨h96, hF⟩
    ·refine Wk.condT rfl h96 <| Wk.skip <| At.tn <| Wk.seq <| Wk.block <| Wk.region <| Wo.od (o_mv rfl) rfl <| Wo.od (o_bi rfl rfl (ub_mul rfl _ _)) rfl <| Wo.od (o_fa (r := ptr b6 1) rfl (fa118_1 _ _)) rfl <| Wo.od (o_ld (k := 0) t49 rfl rfl rfl) rfl <| Wo.od (o_mv rfl) rfl ?_
     obtain ⟨h97, hF⟩ := gd_some hF
     replace h97 := inB_some h97
     refine Wo.openr (k := 1) rfl (pos_of h97) ?_
     rintro b98 o99 rfl
     refine Wo.og (o_ixs s49 rfl rfl h97) gn rfl ?_
     obtain ⟨x100, h101, hF⟩ := ob_some hF
     refine Wo.od (o_ldr (k := 0) t3 rfl rfl (map_at h101) rfl rfl) rfl <| Wo.od (o_cv rfl (cv_u (by rw [u3]; rfl) u26 rfl)) rfl <| Wo.od (o_bi rfl rfl (ub_add rfl _ _)) rfl <| Wo.od (o_as rfl) rfl <| Wo.nil <| At.bn <| At.tn <| Wk.region <| Wo.od (o_mv rfl) rfl <| Wo.od (o_bi rfl rfl (bin_sub _ _ _)) rfl <| Wo.od (o_as rfl) rfl <| Wo.nil ?_
     cases hF
     exact At.en () rfl (sc rfl (sc rfl (sc rfl sn))) (Turn.picks [1, 2] rfl rfl)
    ·refine Wk.condF rfl h96 <| Wk.exit <| At.te ?_
     cases hF
     exact At.en () rfl (sc rfl (sc rfl sn)) (Turn.picks [0, 1] rfl rfl)
   ·clear h102
    rintro ⟨⟩
    refine At.be <| At.tn <| Wk.seq ?_
    obtain ⟨v105, h107, hF⟩ := ob_some hF
    refine Wk.cut (G := (fun (r : Nat) (g : Unit) => match r, g with | v105, _ => ⟨.normal, [(4, .int .u64 ((v105 : Nat) : Int))], []⟩) v105) ?_ ?_
    ·clear hF
     revert v105
     intro r hF
     refine Wk.seq <| Wk.region <| Wo.od (o_fa (r := ptr b6 0) rfl (fa118_0 _ _)) rfl <| Wo.od (o_ld (k := 0) t4 rfl rfl rfl) rfl <| Wo.nil <| At.tn ?_
     rcases br_some hF with ⟨h106, hF⟩ | ⟨h106, hF⟩
     ·refine Wk.condT rfl h106 <| Wk.region <| Wo.od (o_mv rfl) rfl <| Wo.od (o_un rfl (uu_neg rfl _)) rfl <| Wo.od (o_as rfl) rfl <| Wo.nil ?_
      cases hF
      exact At.en () rfl (sc rfl sn) (Turn.picks [] rfl rfl)
     ·refine Wk.condF rfl h106 <| Wk.skip ?_
      have hr := Option.some.inj hF
      subst r
      exact At.en () rfl (sc rfl sn) (Turn.picks [] rfl rfl)
    ·clear h107
     rintro ⟨⟩
     refine At.tn <| Wk.seq <| Wk.region <| Wo.od (o_mv rfl) rfl <| Wo.od (o_cv rfl (cv_i (by rw [u26]; rfl) u3)) rfl <| Wo.od (o_as rfl) rfl <| Wo.od (o_as rfl) rfl <| Wo.nil <| At.tn <| Wk.ret ?_
     cases hF
     exact At.ret (.tmp rfl (.tmp rfl .nil)) fun m' hm => ⟨(), rfl, (Turn.picks [] rfl rfl) m' hm⟩
theorem f14_ok (n : Nat) (x1 : Nat) (x2 : Nat) (x3 : Nat) (x4 : Nat) (x5 : Nat) (x6 : Nat) (x7 : Nat) (x8 : Nat)  (r : Int × Int) (hF : F14 n x1 x2 x3 x4 x5 x6 x7 x8 = some r) (m : AMem)  :
  CallA E30w 14 [.agg #[.int .u64 ((x1 : Nat) : Int), .int .u64 ((x2 : Nat) : Int), .int .u64 ((x3 : Nat) : Int), .int .u64 ((x4 : Nat) : Int), .int .u64 ((x5 : Nat) : Int), .int .u64 ((x6 : Nat) : Int), .int .u64 ((x7 : Nat) : Int), .int .u64 ((x8 : Nat) : Int)]] m (fun v m' => ∃ x : Unit, v = .tuple #[.int .i64 r.1, .int .i64 r.2] ∧ Hp m m' []) := by
 unfold F14 at hF
 refine call_wk (m0 := m) (ps := []) (N := 9) (rs := [.tmp 2, .tmp 3]) rfl Tryz.func14 rfl rfl rfl (Hp.start m) <| Wk.seq <| Wk.region <| Wo.x (o_bx rfl) gn rfl fun b9 => ?_
 refine Wo.od (o_as rfl) rfl <| Wo.od (o_as rfl) rfl <| Wo.nil <| At.tn <| Wk.seq <| Wk.region <| Wo.od (o_ld (k := 0) t38 rfl rfl rfl) rfl ?_
 obtain ⟨⟨r11, l12⟩, h10, hF⟩ := ob_some hF
 refine Wo.x (o_clv (N := (fun x : Option Addr × Nat × Nat => [.rd x.1 x.2.1 1 x.2.2 (l12.map (eI .i64))])) rfl rfl (fun m hm => f66_ok n x1 x2 x3 x4 x5 x6 x7 x8  _ h10 m hm.owns_lt ) fun _ => rfl) gn rfl ?_
 rintro ⟨a13, c14, n15⟩
 refine Wo.lenr (k := 0) (xs := l12) rfl ?_
 rintro rfl
 obtain ⟨⟨r17, r18⟩, h16, hF⟩ := ob_some hF
 refine Wo.x (o_cl rfl rfl (fun m hm => f65_ok n r11 l12 a13 c14 _ h16 m (hm.rd (k := 0) rfl (.rd _ _ _ _ _))) fun _ => rfl) gn rfl ?_
 rintro ⟨⟩
 refine Wo.od (o_ex rfl rfl) rfl <| Wo.od (o_ex rfl rfl) rfl <| Wo.od (o_as rfl) rfl <| Wo.od (o_as rfl) rfl <| Wo.nil <| At.tn <| Wk.ret ?_
 cases hF
 exact At.ret (.tmp rfl (.tmp rfl .nil)) fun m' hm => ⟨(), rfl, (Turn.picks [] rfl rfl) m' hm⟩
theorem f17_ok (n : Nat) (x1 : Int) (l2 : List (Int × Int)) (x7 : Nat) (x8 : Nat) (x9 : Nat) (x10 : Nat) (x11 : Nat) (x12 : Nat) (x13 : Nat) (x14 : Nat) (x15 : Nat) (a3 : Option Addr) (c4 : Nat) (r : List Int × Int) (hF : F17 n x1 l2 x7 x8 x9 x10 x11 x12 x13 x14 x15 = some r) (m : AMem) {H : Nat → Prop} (hH : ∀ b, H b → b < m.next) (h5 : Rd m a3 c4 2 l2.length (l2.map (eP (eI .i64) (eI .i64)))) (h6 : ∀ b, abk a3 = some b → ¬ H b) :
  CallA E30w 17 [.agg #[.int .i64 x1, .slice a3 l2.length c4], .int .u64 ((x7 : Nat) : Int), .agg #[.int .u64 ((x8 : Nat) : Int), .int .u64 ((x9 : Nat) : Int), .int .u64 ((x10 : Nat) : Int), .int .u64 ((x11 : Nat) : Int), .int .u64 ((x12 : Nat) : Int), .int .u64 ((x13 : Nat) : Int), .int .u64 ((x14 : Nat) : Int), .int .u64 ((x15 : Nat) : Int)]] m (fun v m' => ∃ x : Option Addr × Nat × Nat, v = .tuple #[.slice x.1 x.2.2 x.2.1, .int .i64 r.2] ∧ Hp m m' [.rd x.1 x.2.1 1 x.2.2 (r.1.map (eI .i64)), .gen (veil H)]) := by
 unfold F17 at hF
 refine call_wk (m0 := m) (ps := [.rd a3 c4 2 l2.length (l2.map (eP (eI .i64) (eI .i64))), .gen (veil H)]) (N := 42) (rs := [.tmp 6, .tmp 7]) rfl Tryz.func17 rfl rfl rfl (Hp.innV (l0 := []) (Hp.startV m hH) rfl h5 h6) <| Wk.seq <| Wk.region <| Wo.x (o_bx rfl) gn rfl fun b16 => ?_
 refine Wo.x (o_bx rfl) gn rfl fun b17 => ?_
 refine Wo.od (o_as rfl) rfl <| Wo.od (o_as rfl) rfl <| Wo.nil <| At.tn <| Wk.seq <| Wk.seq <| Wk.region <| Wo.od (o_ld (k := 1) t34 rfl rfl rfl) rfl <| Wo.od (o_mv rfl) rfl ?_
 obtain ⟨r19, h18, hF⟩ := ob_some hF
 refine Wo.x (o_cl rfl rfl (fun m hm => f57_ok n x1 l2 x7 a3 c4 _ h18 m (hm.rd (k := 2) rfl (.rd _ _ _ _ _))) fun _ => rfl) gn rfl ?_
 rintro ⟨⟩
 refine Wo.od (o_as rfl) rfl <| Wo.nil <| At.tn <| Wk.seq <| Wk.region <| Wo.od (o_mv rfl) rfl <| Wo.od (o_bi rfl rfl (ib_neq _ _)) rfl <| Wo.nil <| At.tn ?_
 rcases br_some hF with ⟨h20, hF⟩ | ⟨h20, hF⟩
 ·refine Wk.condT rfl h20 <| Wk.seq <| Wk.region <| Wo.od (o_mv rfl) rfl <| Wo.od (o_as rfl) rfl <| Wo.od (o_as rfl) rfl <| Wo.nil <| At.tn <| Wk.ret <| At.tr ?_
  cases hF
  exact At.ret (.tmp rfl (.tmp rfl .nil)) fun m' hm => ⟨(none, 0, 0), rfl, (Turn.trans (Turn.nilr 1) (Turn.picks [0, 4] rfl rfl)) m' hm⟩
 ·refine Wk.condF rfl h20 <| Wk.skip <| At.tn <| Wk.seq <| Wk.region <| Wo.od (o_ld (k := 1) t34 rfl rfl rfl) rfl <| Wo.od (o_mv rfl) rfl ?_
  obtain ⟨l22, h21, hF⟩ := ob_some hF
  refine Wo.x (o_clg rfl rfl (fun m hm => f58_ok n x1 l2 x7 a3 c4 _ h21 m (hm.rd (k := 2) rfl (.rd _ _ _ _ _))) fun _ => ll_bound) gn rfl ?_
  rintro ⟨a23, n24, rr25⟩
  refine Wo.lenll (k := 0) (L := l22) (f := eI .i64) rfl ?_
  rintro rfl
  refine Wo.od (o_as rfl) rfl <| Wo.nil <| At.tn <| Wk.seq <| Wk.region <| Wo.od (o_ld (k := 1) t38 rfl rfl rfl) rfl ?_
  obtain ⟨⟨r27, r28⟩, h26, hF⟩ := ob_some hF
  refine Wo.x (o_cl rfl rfl (fun m hm => f14_ok n x8 x9 x10 x11 x12 x13 x14 x15  _ h26 m ) fun _ => rfl) gn rfl ?_
  rintro ⟨⟩
  refine Wo.od (o_mv rfl) rfl <| Wo.od (o_ex rfl rfl) rfl <| Wo.od (o_ex rfl rfl) rfl <| Wo.od (o_as rfl) rfl <| Wo.od (o_as rfl) rfl <| Wo.nil <| At.tn <| Wk.seq <| Wk.seq ?_
  obtain ⟨v39, h42, hF⟩ := ob_some hF
  refine Wk.cut (G := (fun (r : Bool) (g : Unit) => match r, g with | v39, _ => ⟨.normal, [(9, .slice a23 l22.length l22.length), (10, .int .i64 r27), (37, .bool v39)], [.gen (llG a23 l22.length rr25 1 (eI .i64) l22), .gen (veil H)]⟩) v39) ?_ ?_
  ·clear hF
   revert v39
   intro r hF
   refine Wk.region <| Wo.od (o_mv rfl) rfl <| Wo.od (o_bi rfl rfl (ib_neq _ _)) rfl <| Wo.od (o_mv rfl) rfl ?_
   rcases br_some hF with ⟨h40, hF⟩ | ⟨h40, hF⟩
   ·refine Wo.s (gg rfl rfl (eTF h40)) rfl <| Wo.s (gg rfl rfl (eTF h40)) rfl <| Wo.od (o_pt rfl h40 rfl) rfl <| Wo.od (o_mv rfl) rfl <| Wo.s (gg rfl rfl rfl) rfl <| Wo.s (gg rfl rfl rfl) rfl <| Wo.s (gg rfl rfl rfl) rfl <| Wo.s (gg rfl rfl rfl) rfl <| Wo.od (o_pT rfl rfl) rfl <| Wo.nil ?_
    cases hF
    exact At.en () rfl (sc rfl (sc rfl (sc rfl sn))) (Turn.picks [0, 4] rfl rfl)
   ·refine Wo.og (o_mv rfl) (gg rfl rfl (eFF h40)) rfl <| Wo.og (o_bi rfl rfl (bin_lss _ _ _)) (gg rfl rfl (eFF h40)) rfl <| Wo.od (o_pf rfl h40 rfl) rfl <| Wo.od (o_mv rfl) rfl ?_
    rcases br_some hF with ⟨h41, hF⟩ | ⟨h41, hF⟩
    ·refine Wo.s (gg rfl rfl (eTF h41)) rfl <| Wo.s (gg rfl rfl (eTF h41)) rfl <| Wo.s (gg rfl rfl (eTF h41)) rfl <| Wo.s (gg rfl rfl (eTF h41)) rfl <| Wo.od (o_pt rfl h41 rfl) rfl <| Wo.nil ?_
     cases hF
     exact At.en () rfl (sc rfl (sc rfl (sc rfl sn))) (Turn.picks [0, 4] rfl rfl)
    ·refine Wo.og (o_mv rfl) (gg rfl rfl (eFF h41)) rfl <| Wo.og (o_mv rfl) (gg rfl rfl (eFF h41)) rfl <| Wo.og (o_lnl (k := 0) u52 rfl rfl ll_any) (gg rfl rfl (eFF h41)) rfl <| Wo.og (o_bi rfl rfl (bin_geq _ _ _)) (gg rfl rfl (eFF h41)) rfl <| Wo.od (o_pf rfl h41 rfl) rfl <| Wo.nil ?_
     cases hF
     exact At.en () rfl (sc rfl (sc rfl (sc rfl sn))) (Turn.picks [0, 4] rfl rfl)
  ·clear h42
   rintro ⟨⟩
   refine At.tn ?_
   rcases br_some hF with ⟨h44, hF⟩ | ⟨h44, hF⟩
   ·refine Wk.condT rfl h44 <| Wk.seq <| Wk.region <| Wo.od (o_as rfl) rfl <| Wo.od (o_as rfl) rfl <| Wo.nil <| At.tn <| Wk.ret <| At.tr ?_
    cases hF
    exact At.ret (.tmp rfl (.tmp rfl .nil)) fun m' hm => ⟨(none, 0, 0), rfl, (Turn.trans (Turn.nilr 1) (Turn.picks [0, 2] rfl rfl)) m' hm⟩
   ·refine Wk.condF rfl h44 <| Wk.skip <| At.tn <| Wk.seq <| Wk.region <| Wo.od (o_mv rfl) rfl <| Wo.od (o_mv rfl) rfl ?_
    obtain ⟨h45, hF⟩ := gd_some hF
    replace h45 := inB_some h45
    refine Wo.turn (Turn.freezeLL (k := 0) rfl) <| Wo.openlr (k := 0) rfl (pos_of h45) ?_
    rintro b46 rfl
    refine Wo.og (o_ixa s52 rfl rfl h45) gn rfl ?_
    obtain ⟨l47, h48, hF⟩ := ob_some hF
    refine Wo.x (o_ldl (k := 0) (i := r27.toNat) t49 rfl (by rw [Nat.mul_one]; rfl) rfl h48) gn rfl ?_
    rintro ⟨a49, c50⟩
    refine Wo.od (o_as rfl) rfl <| Wo.od (o_as rfl) rfl <| Wo.nil <| At.tn <| Wk.ret ?_
    cases hF
    exact At.ret (.tmp rfl (.tmp rfl .nil)) fun m' hm => ⟨(a49, c50, l47.length), rfl, (Turn.picks [0, 2] rfl rfl) m' hm⟩
theorem f168_ok (n : Nat) (x1 : Int)  (r : Bool) (hF : F168 n x1 = some r) (m : AMem)  :
  CallA E30w 168 [.int .i64 x1] m (fun v m' => ∃ x : Unit, v = .bool r ∧ Hp m m' []) := by
 unfold F168 at hF
 refine call_wk (m0 := m) (ps := []) (N := 6) (rs := [.tmp 2]) rfl Tryz.func168 rfl rfl rfl (Hp.start m) <| Wk.seq <| Wk.region <| Wo.od (o_as rfl) rfl <| Wo.nil <| At.tn <| Wk.seq <| Wk.region <| Wo.od (o_mv rfl) rfl <| Wo.od (o_mv rfl) rfl <| Wo.od (o_bi rfl rfl (ib_neq _ _)) rfl <| Wo.od (o_as rfl) rfl <| Wo.nil <| At.tn <| Wk.ret ?_
 cases hF
 exact At.ret (.tmp rfl .nil) fun m' hm => ⟨(), rfl, (Turn.picks [] rfl rfl) m' hm⟩
theorem f154_ok (n : Nat) (x1 : Int) (x2 : Int)  (r : Int) (hF : F154 n x1 x2 = some r) (m : AMem)  :
  CallA E30w 154 [.int .i64 x1, .int .i64 x2] m (fun v m' => ∃ x : Unit, v = .int .i64 r ∧ Hp m m' []) := by
 unfold F154 at hF
 refine call_wk (m0 := m) (ps := []) (N := 20) (rs := [.tmp 4]) rfl Tryz.func154 rfl rfl rfl (Hp.start m) <| Wk.seq <| Wk.region <| Wo.od (o_as rfl) rfl <| Wo.nil <| At.tn <| Wk.seq <| Wk.region <| Wo.od (o_mv rfl) rfl ?_
 obtain ⟨r4, h3, hF⟩ := ob_some hF
 refine Wo.x (o_cl rfl rfl (fun m hm => f168_ok n x1  _ h3 m ) fun _ => rfl) gn rfl ?_
 rintro ⟨⟩
 refine Wo.od (o_as rfl) rfl <| Wo.nil <| At.tn <| Wk.seq <| Wk.region <| Wo.od (o_mv rfl) rfl ?_
 obtain ⟨r6, h5, hF⟩ := ob_some hF
 refine Wo.x (o_cl rfl rfl (fun m hm => f168_ok n x2  _ h5 m ) fun _ => rfl) gn rfl ?_
 rintro ⟨⟩
 refine Wo.od (o_as rfl) rfl <| Wo.nil <| At.tn <| Wk.seq <| Wk.seq <| Wk.region <| Wo.od (o_mv rfl) rfl <| Wo.nil <| At.tn ?_
 rcases br_some hF with ⟨h7, hF⟩ | ⟨h7, hF⟩
 ·refine Wk.condT rfl h7 <| Wk.seq <| Wk.seq <| Wk.region <| Wo.od (o_mv rfl) rfl <| Wo.nil <| At.tn ?_
  rcases br_some hF with ⟨h8, hF⟩ | ⟨h8, hF⟩
  ·refine Wk.condT rfl h8 <| Wk.seq <| Wk.region <| Wo.od (o_as rfl) rfl <| Wo.nil <| At.tn <| Wk.ret <| At.tr <| At.tr ?_
   cases hF
   exact At.ret (.tmp rfl .nil) fun m' hm => ⟨(), rfl, (Turn.picks [] rfl rfl) m' hm⟩
  ·refine Wk.condF rfl h8 <| Wk.skip <| At.tn <| Wk.seq <| Wk.region <| Wo.od (o_as rfl) rfl <| Wo.nil <| At.tn <| Wk.ret <| At.tr ?_
   cases hF
   exact At.ret (.tmp rfl .nil) fun m' hm => ⟨(), rfl, (Turn.picks [] rfl rfl) m' hm⟩
 ·refine Wk.condF rfl h7 <| Wk.skip <| At.tn <| Wk.seq <| Wk.seq <| Wk.region <| Wo.od (o_mv rfl) rfl <| Wo.nil <| At.tn ?_
  rcases br_some hF with ⟨h9, hF⟩ | ⟨h9, hF⟩
  ·refine Wk.condT rfl h9 <| Wk.seq <| Wk.region <| Wo.od (o_as rfl) rfl <| Wo.nil <| At.tn <| Wk.ret <| At.tr ?_
   cases hF
   exact At.ret (.tmp rfl .nil) fun m' hm => ⟨(), rfl, (Turn.picks [] rfl rfl) m' hm⟩
  ·refine Wk.condF rfl h9 <| Wk.skip <| At.tn <| Wk.seq <| Wk.seq <| Wk.region <| Wo.od (o_mv rfl) rfl <| Wo.od (o_mv rfl) rfl <| Wo.od (o_bi rfl rfl (bin_lss _ _ _)) rfl <| Wo.nil <| At.tn ?_
   rcases br_some hF with ⟨h10, hF⟩ | ⟨h10, hF⟩
   ·refine Wk.condT rfl h10 <| Wk.seq <| Wk.region <| Wo.od (o_as rfl) rfl <| Wo.nil <| At.tn <| Wk.ret <| At.tr ?_
    cases hF
    exact At.ret (.tmp rfl .nil) fun m' hm => ⟨(), rfl, (Turn.picks [] rfl rfl) m' hm⟩
   ·refine Wk.condF rfl h10 <| Wk.skip <| At.tn <| Wk.seq <| Wk.seq <| Wk.region <| Wo.od (o_mv rfl) rfl <| Wo.od (o_mv rfl) rfl <| Wo.od (o_bi rfl rfl (bin_gtr _ _ _)) rfl <| Wo.nil <| At.tn ?_
    rcases br_some hF with ⟨h11, hF⟩ | ⟨h11, hF⟩
    ·refine Wk.condT rfl h11 <| Wk.seq <| Wk.region <| Wo.od (o_as rfl) rfl <| Wo.nil <| At.tn <| Wk.ret <| At.tr ?_
     cases hF
     exact At.ret (.tmp rfl .nil) fun m' hm => ⟨(), rfl, (Turn.picks [] rfl rfl) m' hm⟩
    ·refine Wk.condF rfl h11 <| Wk.skip <| At.tn <| Wk.seq <| Wk.region <| Wo.od (o_as rfl) rfl <| Wo.nil <| At.tn <| Wk.ret ?_
     cases hF
     exact At.ret (.tmp rfl .nil) fun m' hm => ⟨(), rfl, (Turn.picks [] rfl rfl) m' hm⟩
theorem f140_ok (n : Nat) (l1 : List (Int)) (l5 : List (Int)) (a2 : Option Addr) (c3 : Nat) (a6 : Option Addr) (c7 : Nat) (r : Int) (hF : F140 n l1 l5 = some r) (m : AMem) (h4 : Rd m a2 c3 1 l1.length (l1.map (eI .i64))) (h8 : Rd m a6 c7 1 l5.length (l5.map (eI .i64))) :
  CallA E30w 140 [.slice a2 l1.length c3, .slice a6 l5.length c7] m (fun v m' => ∃ x : Unit, v = .int .i64 r ∧ Hp m m' []) := by
 unfold F140 at hF
 refine call_wk (m0 := m) (ps := [.rd a6 c7 1 l5.length (l5.map (eI .i64)), .rd a2 c3 1 l1.length (l1.map (eI .i64))]) (N := 36) (rs := [.tmp 4]) rfl Tryz.func140 rfl rfl rfl (((Hp.start m).inn rfl h4).inn rfl h8) <| Wk.seq <| Wk.region <| Wo.od (o_as rfl) rfl <| Wo.nil <| At.tn <| Wk.seq <| Wk.seq <| Wk.region <| Wo.od (o_mv rfl) rfl <| Wo.od (o_ln (k := 1) u49 rfl rfl (.inl rfl)) rfl <| Wo.od (o_mv rfl) rfl <| Wo.nil <| At.tn <| Wk.block ?_
 obtain ⟨r44, h43, hF⟩ := ob_some hF
 refine Wk.cut (G := (fun (r : (Int) ⊕ (Unit)) (g : Unit) => match r, g with | .inl v27, _ => ⟨.ret, [(4, .int .i64 v27)], []⟩ | .inr _, _ => ⟨(.exit 0), [(0, .slice a2 l1.length c3), (1, .slice a6 l5.length c7)], [.rd a2 c3 1 l1.length (l1.map (eI .i64)), .rd a6 c7 1 l5.length (l5.map (eI .i64))]⟩) r44) ?_ ?_
 ·refine Wk.weak (fs' := [(0, .slice a2 l1.length c3), (1, .slice a6 l5.length c7), (9, .slice a2 l1.length c3), (10, .int .i64 (l1.length : Int)), (11, .int .i64 0)]) (ps' := [.rd a2 c3 1 l1.length (l1.map (eI .i64)), .rd a6 c7 1 l5.length (l5.map (eI .i64))]) (sc rfl (sc rfl (sc rfl (sc rfl (sc rfl sn))))) (Turn.picks [1, 0] rfl rfl) ?_
  refine Wk.loop (σ := Int) (ρ := (Int) ⊕ (Unit)) (γ := Unit) (δ := fun _ => Unit) _ (fun (s : Int) (g : Unit) => match s, g with | v10, _ => ⟨.normal, [(0, .slice a2 l1.length c3), (1, .slice a6 l5.length c7), (9, .slice a2 l1.length c3), (10, .int .i64 (l1.length : Int)), (11, .int .i64 v10)], [.rd a2 c3 1 l1.length (l1.map (eI .i64)), .rd a6 c7 1 l5.length (l5.map (eI .i64))]⟩) (fun (r : (Int) ⊕ (Unit)) (g : Unit) => match r, g with | .inl v27, _ => ⟨.ret, [(4, .int .i64 v27)], []⟩ | .inr _, _ => ⟨(.exit 0), [(0, .slice a2 l1.length c3), (1, .slice a6 l5.length c7)], [.rd a2 c3 1 l1.length (l1.map (eI .i64)), .rd a6 c7 1 l5.length (l5.map (eI .i64))]⟩) ?_ (fun _ _ => rfl) (fun r d => by rcases r with _ | _ <;> (intro e; cases e)) _ _ _ h43 ()
  clear hF h43
  rintro v10 ⟨⟩ r hF
  unfold L140_1 at hF
  refine Wk.seq <| Wk.region <| Wo.od (o_bi rfl rfl (bin_lss _ _ _)) rfl <| Wo.nil <| At.tn <| Wk.seq ?_
  rcases br_some hF with ⟨h28, hF⟩ | ⟨h28, hF⟩
  ·refine Wk.condT rfl h28 <| Wk.skip <| At.tn <| Wk.seq <| Wk.block <| Wk.seq <| Wk.region <| Wo.od (o_mv rfl) rfl ?_
   obtain ⟨h29, hF⟩ := gd_some hF
   replace h29 := inB_some h29
   refine Wo.openr (k := 0) rfl (pos_of h29) ?_
   rintro b30 o31 rfl
   refine Wo.og (o_ixs s49 rfl rfl h29) gn rfl ?_
   obtain ⟨x32, h33, hF⟩ := ob_some hF
   refine Wo.od (o_ldr (k := 0) t3 rfl rfl (map_at h33) rfl rfl) rfl <| Wo.od (o_as rfl) rfl <| Wo.od (o_as rfl) rfl <| Wo.nil <| At.tn <| Wk.seq <| Wk.seq <| Wk.region <| Wo.od (o_mv rfl) rfl <| Wo.od (o_mv rfl) rfl <| Wo.od (o_ln (k := 2) u49 rfl rfl (.inl rfl)) rfl <| Wo.od (o_bi rfl rfl (bin_geq _ _ _)) rfl <| Wo.nil <| At.tn ?_
   rcases br_some hF with ⟨h34, hF⟩ | ⟨h34, hF⟩
   ·refine Wk.condT rfl h34 <| Wk.seq <| Wk.region <| Wo.od (o_as rfl) rfl <| Wo.nil <| At.tn <| Wk.ret <| At.tr <| At.br <| At.tr ?_
    cases hF
    exact At.en () rfl (sc rfl sn) (Turn.picks [] rfl rfl)
   ·refine Wk.condF rfl h34 <| Wk.skip <| At.tn <| Wk.seq <| Wk.region <| Wo.od (o_mv rfl) rfl <| Wo.od (o_mv rfl) rfl ?_
    obtain ⟨h35, hF⟩ := gd_some hF
    replace h35 := inB_some h35
    refine Wo.openr (k := 2) rfl (pos_of h35) ?_
    rintro b36 o37 rfl
    refine Wo.og (o_ixs s49 rfl rfl h35) gn rfl ?_
    obtain ⟨x38, h39, hF⟩ := ob_some hF
    refine Wo.od (o_ldr (k := 0) t3 rfl rfl (map_at h39) rfl rfl) rfl <| Wo.od (o_as rfl) rfl <| Wo.nil <| At.tn <| Wk.seq <| Wk.region <| Wo.od (o_mv rfl) rfl <| Wo.od (o_mv rfl) rfl ?_
    obtain ⟨r41, h40, hF⟩ := ob_some hF
    refine Wo.x (o_cl rfl rfl (fun m hm => f154_ok n x32 x38  _ h40 m ) fun _ => rfl) gn rfl ?_
    rintro ⟨⟩
    refine Wo.od (o_as rfl) rfl <| Wo.nil <| At.tn <| Wk.seq <| Wk.region <| Wo.od (o_mv rfl) rfl <| Wo.od (o_bi rfl rfl (ib_neq _ _)) rfl <| Wo.nil <| At.tn ?_
    rcases br_some hF with ⟨h42, hF⟩ | ⟨h42, hF⟩
    ·refine Wk.condT rfl h42 <| Wk.seq <| Wk.region <| Wo.od (o_mv rfl) rfl <| Wo.od (o_as rfl) rfl <| Wo.nil <| At.tn <| Wk.ret <| At.br <| At.tr ?_
     cases hF
     exact At.en () rfl (sc rfl sn) (Turn.picks [] rfl rfl)
    ·refine Wk.condF rfl h42 <| Wk.skip <| At.bn <| At.tn <| Wk.region <| Wo.od (o_bi rfl rfl (bin_add _ _ _)) rfl <| Wo.od (o_mv rfl) rfl <| Wo.nil ?_
     cases hF
     exact At.en () rfl (sc rfl (sc rfl (sc rfl (sc rfl (sc rfl sn))))) (Turn.picks [2, 3] rfl rfl)
  ·refine Wk.condF rfl h28 <| Wk.exit <| At.te ?_
   cases hF
   exact At.en () rfl (sc rfl (sc rfl sn)) (Turn.picks [0, 1] rfl rfl)
 ·clear h43
  rcases r44 with v27 | _
  ·rintro ⟨⟩
   refine At.br <| At.tr ?_
   have hr := Option.some.inj hF
   subst r
   exact At.ret (.tmp rfl .nil) fun m' hm => ⟨(), rfl, (Turn.picks [] rfl rfl) m' hm⟩
  ·rintro ⟨⟩
   refine At.be <| At.tn <| Wk.seq <| Wk.seq <| Wk.region <| Wo.od (o_mv rfl) rfl <| Wo.od (o_ln (k := 0) u49 rfl rfl (.inl rfl)) rfl <| Wo.od (o_mv rfl) rfl <| Wo.od (o_ln (k := 1) u49 rfl rfl (.inl rfl)) rfl <| Wo.od (o_bi rfl rfl (bin_lss _ _ _)) rfl <| Wo.nil <| At.tn ?_
   rcases br_some hF with ⟨h45, hF⟩ | ⟨h45, hF⟩
   ·refine Wk.condT rfl h45 <| Wk.seq <| Wk.region <| Wo.od (o_as rfl) rfl <| Wo.nil <| At.tn <| Wk.ret <| At.tr ?_
    cases hF
    exact At.ret (.tmp rfl .nil) fun m' hm => ⟨(), rfl, (Turn.picks [] rfl rfl) m' hm⟩
   ·refine Wk.condF rfl h45 <| Wk.skip <| At.tn <| Wk.seq <| Wk.region <| Wo.od (o_as rfl) rfl <| Wo.nil <| At.tn <| Wk.ret ?_
    cases hF
    exact At.ret (.tmp rfl .nil) fun m' hm => ⟨(), rfl, (Turn.picks [] rfl rfl) m' hm⟩
theorem f107_ok (n : Nat) (x1 : Int) (l2 : List (Int × Int)) (a3 : Option Addr) (c4 : Nat) (r : Int) (hF : F107 n x1 l2 = some r) (m : AMem) (h5 : Rd m a3 c4 2 l2.length (l2.map (eP (eI .i64) (eI .i64)))) :
  CallA E30w 107 [.agg #[.int .i64 x1, .slice a3 l2.length c4]] m (fun v m' => ∃ x : Unit, v = .int .i64 r ∧ Hp m m' []) := by
 unfold F107 at hF
 refine call_wk (m0 := m) (ps := [.rd a3 c4 2 l2.length (l2.map (eP (eI .i64) (eI .i64)))]) (N := 53) (rs := [.tmp 2]) rfl Tryz.func107 rfl rfl rfl ((Hp.start m).inn rfl h5) <| Wk.seq <| Wk.region <| Wo.x (o_bx rfl) gn rfl fun b6 => ?_
 refine Wo.od (o_as rfl) rfl <| Wo.nil <| At.tn <| Wk.seq <| Wk.seq ?_
 obtain ⟨v17, h20, hF⟩ := ob_some hF
 refine Wk.cut (G := (fun (r : Bool) (g : Unit) => match r, g with | v17, _ => ⟨.normal, [(1, ptr b6 0), (19, .bool v17)], [.obj b6 (.cells [.int .i64 x1, .slice a3 l2.length c4] .own), .rd a3 c4 2 l2.length (l2.map (eP (eI .i64) (eI .i64)))]⟩) v17) ?_ ?_
 ·clear hF
  revert v17
  intro r hF
  refine Wk.region <| Wo.od (o_fa (r := ptr b6 0) rfl (fa34_0 _ _)) rfl <| Wo.od (o_ld (k := 0) t3 rfl rfl rfl) rfl <| Wo.od (o_bi rfl rfl (bin_lss _ _ _)) rfl <| Wo.od (o_mv rfl) rfl ?_
  rcases br_some hF with ⟨h18, hF⟩ | ⟨h18, hF⟩
  ·refine Wo.s (gg rfl rfl (eTF h18)) rfl <| Wo.s (gg rfl rfl (eTF h18)) rfl <| Wo.s (gg rfl rfl (eTF h18)) rfl <| Wo.od (o_pt rfl h18 rfl) rfl <| Wo.od (o_mv rfl) rfl <| Wo.s (gg rfl rfl rfl) rfl <| Wo.s (gg rfl rfl rfl) rfl <| Wo.s (gg rfl rfl rfl) rfl <| Wo.s (gg rfl rfl rfl) rfl <| Wo.od (o_pT rfl rfl) rfl ?_
   refine Wo.nil ?_
   cases hF
   exact At.en () rfl (sc rfl (sc rfl sn)) (Turn.picks [0, 1] rfl rfl)
  ·refine Wo.og (o_fa (r := ptr b6 0) rfl (fa34_0 _ _)) (gg rfl rfl (eFF h18)) rfl <| Wo.og (o_ld (k := 0) t3 rfl rfl rfl) (gg rfl rfl (eFF h18)) rfl <| Wo.og (o_bi rfl rfl (bin_gtr _ _ _)) (gg rfl rfl (eFF h18)) rfl <| Wo.od (o_pf rfl h18 rfl) rfl <| Wo.od (o_mv rfl) rfl ?_
   rcases br_some hF with ⟨h19, hF⟩ | ⟨h19, hF⟩
   ·refine Wo.s (gg rfl rfl (eTF h19)) rfl <| Wo.s (gg rfl rfl (eTF h19)) rfl <| Wo.s (gg rfl rfl (eTF h19)) rfl <| Wo.s (gg rfl rfl (eTF h19)) rfl <| Wo.od (o_pt rfl h19 rfl) rfl <| Wo.nil ?_
    cases hF
    exact At.en () rfl (sc rfl (sc rfl sn)) (Turn.picks [0, 1] rfl rfl)
   ·refine Wo.og (o_fa (r := ptr b6 1) rfl (fa34_1 _ _)) (gg rfl rfl (eFF h19)) rfl <| Wo.og (o_ld (k := 0) t32 rfl rfl rfl) (gg rfl rfl (eFF h19)) rfl <| Wo.og (o_ln (k := 1) u32 rfl rfl (.inl rfl)) (gg rfl rfl (eFF h19)) rfl <| Wo.og (o_bi rfl rfl (bin_gtr _ _ _)) (gg rfl rfl (eFF h19)) rfl <| Wo.od (o_pf rfl h19 rfl) rfl <| Wo.nil ?_
    cases hF
    exact At.en () rfl (sc rfl (sc rfl sn)) (Turn.picks [0, 1] rfl rfl)
 ·clear h20
  rintro ⟨⟩
  refine At.tn ?_
  rcases br_some hF with ⟨h22, hF⟩ | ⟨h22, hF⟩
  ·refine Wk.condT rfl h22 <| Wk.seq <| Wk.region <| Wo.od (o_as rfl) rfl <| Wo.nil <| At.tn <| Wk.ret <| At.tr ?_
   cases hF
   exact At.ret (.tmp rfl .nil) fun m' hm => ⟨(), rfl, (Turn.picks [] rfl rfl) m' hm⟩
  ·refine Wk.condF rfl h22 <| Wk.skip <| At.tn <| Wk.seq <| Wk.region <| Wo.od (o_bd rfl z43 rfl (bd_s bs43 rfl rfl rfl)) rfl <| Wo.x (o_al z43 rfl) gn rfl fun b23 => ?_
   refine Wo.o0 (o_st (k := 0) t43 rfl rfl rfl rfl rfl) <| Wo.nil <| At.tn <| Wk.seq <| Wk.seq <| Wk.region <| Wo.od (o_fa (r := ptr b6 1) rfl (fa34_1 _ _)) rfl <| Wo.od (o_ld (k := 1) t32 rfl rfl rfl) rfl <| Wo.od (o_ln (k := 2) u32 rfl rfl (.inl rfl)) rfl <| Wo.od (o_mv rfl) rfl <| Wo.nil <| At.tn <| Wk.block ?_
   obtain ⟨r246, h245, hF⟩ := ob_some hF
   refine Wk.cut (G := (fun (r : (Unit) ⊕ (Unit)) (g : Unit) => match r, g with | .inl _, _ => ⟨.ret, [(2, .int .i64 180)], []⟩ | .inr _, _ => ⟨(.exit 0), [], []⟩) r246) ?_ ?_
   ·refine Wk.weak (fs' := [(1, ptr b6 0), (3, ptr b23 0), (22, .slice a3 l2.length c4), (23, .int .i64 (l2.length : Int)), (24, .int .i64 0)]) (ps' := [.obj b6 (.cells [.int .i64 x1, .slice a3 l2.length c4] .own), .rd a3 c4 2 l2.length (l2.map (eP (eI .i64) (eI .i64))), .obj b23 (.cells [.int .i64 (-1), .int .i64 (-1)] .own)]) (sc rfl (sc rfl (sc rfl (sc rfl (sc rfl sn))))) (Turn.picks [1, 2, 0] rfl rfl) ?_
    refine Wk.loop (σ := Int × Int × Int) (ρ := (Unit) ⊕ (Unit)) (γ := Unit) (δ := fun _ => Unit) _ (fun (s : Int × Int × Int) (g : Unit) => match s, g with | (v97, v98, v99), _ => ⟨.normal, [(1, ptr b6 0), (3, ptr b23 0), (22, .slice a3 l2.length c4), (23, .int .i64 (l2.length : Int)), (24, .int .i64 v99)], [.obj b6 (.cells [.int .i64 x1, .slice a3 l2.length c4] .own), .rd a3 c4 2 l2.length (l2.map (eP (eI .i64) (eI .i64))), .obj b23 (.cells [.int .i64 v97, .int .i64 v98] .own)]⟩) (fun (r : (Unit) ⊕ (Unit)) (g : Unit) => match r, g with | .inl _, _ => ⟨.ret, [(2, .int .i64 180)], []⟩ | .inr _, _ => ⟨(.exit 0), [], []⟩) ?_ (fun _ _ => rfl) (fun r d => by rcases r with _ | _ <;> (intro e; cases e)) _ _ _ h245 ()
    clear hF h245
    rintro ⟨v97, v98, v99⟩ ⟨⟩ r hF
    unfold L107_1 at hF
    refine Wk.seq <| Wk.region <| Wo.od (o_bi rfl rfl (bin_lss _ _ _)) rfl <| Wo.nil <| At.tn <| Wk.seq ?_
    rcases br_some hF with ⟨h174, hF⟩ | ⟨h174, hF⟩
    ·refine Wk.condT rfl h174 <| Wk.skip <| At.tn <| Wk.seq <| Wk.block <| Wk.seq <| Wk.region ?_
     obtain ⟨h210, hF⟩ := gd_some hF
     replace h210 := inB_some h210
     refine Wo.openr (k := 1) rfl (pos_of h210) ?_
     rintro b211 o212 rfl
     refine Wo.og (o_ixs s32 rfl rfl h210) gn rfl ?_
     obtain ⟨⟨x213, x214⟩, h215, hF⟩ := ob_some hF
     refine Wo.od (o_ldr (k := 0) t43 rfl rfl (map_at h215) rfl rfl) rfl <| Wo.x (o_al z43 rfl) gn rfl fun b216 => ?_
     refine Wo.o0 (o_st (k := 0) t43 rfl rfl rfl rfl rfl) <| Wo.nil <| At.tn <| Wk.seq <| Wk.seq ?_
     obtain ⟨v236, h242, hF⟩ := ob_some hF
     refine Wk.cut (G := (fun (r : Bool) (g : Unit) => match r, g with | v236, _ => ⟨.normal, [(1, ptr b6 0), (3, ptr b23 0), (5, ptr b216 0), (22, .slice (some ⟨b211, o212, none⟩) l2.length c4), (23, .int .i64 (l2.length : Int)), (24, .int .i64 v99), (50, .bool v236)], [.obj b6 (.cells [.int .i64 x1, .slice (some ⟨b211, o212, none⟩) l2.length c4] .own), .ro b211 o212 2 l2.length (l2.map (eP (eI .i64) (eI .i64))), .rd (some ⟨b211, o212, none⟩) c4 2 l2.length (l2.map (eP (eI .i64) (eI .i64))), .obj b23 (.cells [.int .i64 v97, .int .i64 v98] .own), .obj b216 (.cells [.int .i64 x213, .int .i64 x214] .own)]⟩) v236) ?_ ?_
     ·clear hF
      revert v236
      intro r hF
      refine Wk.draw (by kernel_rfl) <| Wo.od (o_ia (r := ptr b216 0) rfl rfl (ia_c ar43 (i := 0) (by decide))) rfl <| Wo.od (o_ld (k := 0) t3 rfl rfl rfl) rfl <| Wo.od (o_bi rfl rfl (bin_lss _ _ _)) rfl <| Wo.od (o_mv rfl) rfl ?_
      rcases br_some hF with ⟨h237, hF⟩ | ⟨h237, hF⟩
      ·refine Wo.s (gg rfl rfl (eTF h237)) rfl <| Wo.s (gg rfl rfl (eTF h237)) rfl <| Wo.s (gg rfl rfl (eTF h237)) rfl <| Wo.s (gg rfl rfl (eTF h237)) rfl <| Wo.s (gg rfl rfl (eTF h237)) rfl <| Wo.od (o_pt rfl h237 rfl) rfl <| Wo.od (o_mv rfl) rfl <| Wo.s (gg rfl rfl rfl) rfl <| Wo.s (gg rfl rfl rfl) rfl <| Wo.s (gg rfl rfl rfl) rfl ?_
       refine Wo.s (gg rfl rfl rfl) rfl <| Wo.s (gg rfl rfl rfl) rfl <| Wo.od (o_pT rfl rfl) rfl <| Wo.od (o_mv rfl) rfl <| Wo.s (gg rfl rfl rfl) rfl <| Wo.s (gg rfl rfl rfl) rfl <| Wo.s (gg rfl rfl rfl) rfl <| Wo.s (gg rfl rfl rfl) rfl <| Wo.od (o_pT rfl rfl) rfl <| Wo.nil ?_
       cases hF
       exact At.en () rfl (sc rfl (sc rfl (sc rfl (sc rfl (sc rfl (sc rfl (sc rfl sn))))))) (Turn.picks [2, 1, 3, 4, 0] rfl rfl)
      ·refine Wo.og (o_ia (r := ptr b216 0) rfl rfl (ia_c ar43 (i := 0) (by decide))) (gg rfl rfl (eFF h237)) rfl <| Wo.og (o_ld (k := 0) t3 rfl rfl rfl) (gg rfl rfl (eFF h237)) rfl <| Wo.og (o_ia (r := ptr b216 1) rfl rfl (ia_c ar43 (i := 1) (by decide))) (gg rfl rfl (eFF h237)) rfl <| Wo.og (o_ld (k := 0) t3 rfl rfl rfl) (gg rfl rfl (eFF h237)) rfl <| Wo.og (o_bi rfl rfl (bin_geq _ _ _)) (gg rfl rfl (eFF h237)) rfl <| Wo.od (o_pf rfl h237 rfl) rfl <| Wo.od (o_mv rfl) rfl ?_
       rcases br_some hF with ⟨h238, hF⟩ | ⟨h238, hF⟩
       ·refine Wo.s (gg rfl rfl (eTF h238)) rfl <| Wo.s (gg rfl rfl (eTF h238)) rfl <| Wo.s (gg rfl rfl (eTF h238)) rfl <| Wo.s (gg rfl rfl (eTF h238)) rfl <| Wo.s (gg rfl rfl (eTF h238)) rfl <| Wo.od (o_pt rfl h238 rfl) rfl <| Wo.od (o_mv rfl) rfl <| Wo.s (gg rfl rfl rfl) rfl <| Wo.s (gg rfl rfl rfl) rfl <| Wo.s (gg rfl rfl rfl) rfl ?_
        refine Wo.s (gg rfl rfl rfl) rfl <| Wo.od (o_pT rfl rfl) rfl <| Wo.nil ?_
        cases hF
        exact At.en () rfl (sc rfl (sc rfl (sc rfl (sc rfl (sc rfl (sc rfl (sc rfl sn))))))) (Turn.picks [2, 1, 3, 4, 0] rfl rfl)
       ·refine Wo.og (o_ia (r := ptr b216 1) rfl rfl (ia_c ar43 (i := 1) (by decide))) (gg rfl rfl (eFF h238)) rfl <| Wo.og (o_ld (k := 0) t3 rfl rfl rfl) (gg rfl rfl (eFF h238)) rfl <| Wo.og (o_fa (r := ptr b6 0) rfl (fa34_0 _ _)) (gg rfl rfl (eFF h238)) rfl <| Wo.og (o_ld (k := 2) t3 rfl rfl rfl) (gg rfl rfl (eFF h238)) rfl <| Wo.og (o_bi rfl rfl (bin_geq _ _ _)) (gg rfl rfl (eFF h238)) rfl <| Wo.od (o_pf rfl h238 rfl) rfl <| Wo.od (o_mv rfl) rfl ?_
        rcases br_some hF with ⟨h239, hF⟩ | ⟨h239, hF⟩
        ·refine Wo.s (gg rfl rfl (eTF h239)) rfl <| Wo.s (gg rfl rfl (eTF h239)) rfl <| Wo.s (gg rfl rfl (eTF h239)) rfl <| Wo.s (gg rfl rfl (eTF h239)) rfl <| Wo.od (o_pt rfl h239 rfl) rfl <| Wo.nil ?_
         cases hF
         exact At.en () rfl (sc rfl (sc rfl (sc rfl (sc rfl (sc rfl (sc rfl (sc rfl sn))))))) (Turn.picks [2, 1, 3, 4, 0] rfl rfl)
        ·refine Wo.og (o_sa (k := 4) ar43 rfl rfl rfl rfl) (gg rfl rfl (eFF h239)) rfl <| Wo.og (o_sa (k := 0) ar43 rfl rfl rfl rfl) (gg rfl rfl (eFF h239)) rfl ?_
         obtain ⟨r241, h240, hF⟩ := ob_some hF
         refine Wo.x (o_cl rfl rfl (fun m hm => f140_ok n [v97, v98] [x213, x214] (some ⟨b23, 0, none⟩) 2 (some ⟨b216, 0, none⟩) 2 _ h240 m (hm.rdo (k := 4) (xs := [v97, v98]) (f := eI .i64) rfl rfl rfl rfl (enI .i64)) (hm.rdo (k := 0) (xs := [x213, x214]) (f := eI .i64) rfl rfl rfl rfl (enI .i64))) fun _ => rfl) (gg rfl rfl (eFF h239)) rfl ?_
         rintro ⟨⟩
         refine Wo.og (o_bi rfl rfl (bin_geq _ _ _)) (gg rfl rfl (eFF h239)) rfl <| Wo.od (o_pf rfl h239 rfl) rfl <| Wo.nil ?_
         cases hF
         exact At.en () rfl (sc rfl (sc rfl (sc rfl (sc rfl (sc rfl (sc rfl (sc rfl sn))))))) (Turn.picks [2, 1, 3, 4, 0] rfl rfl)
     ·clear h242
      rintro ⟨⟩
      refine At.tn ?_
      rcases br_some hF with ⟨h244, hF⟩ | ⟨h244, hF⟩
      ·refine Wk.condT rfl h244 <| Wk.seq <| Wk.region <| Wo.od (o_as rfl) rfl <| Wo.nil <| At.tn <| Wk.ret <| At.tr <| At.br <| At.tr ?_
       cases hF
       exact At.en () rfl (sc rfl sn) (Turn.picks [] rfl rfl)
      ·refine Wk.condF rfl h244 <| Wk.skip <| At.tn <| Wk.region <| Wo.od (o_ld (k := 4) t43 rfl rfl rfl) rfl <| Wo.o0 (o_st (k := 3) t43 rfl rfl rfl rfl rfl) <| Wo.nil <| At.bn <| At.tn <| Wk.region <| Wo.od (o_bi rfl rfl (bin_add _ _ _)) rfl <| Wo.od (o_mv rfl) rfl <| Wo.nil ?_
       cases hF
       exact At.en () rfl (sc rfl (sc rfl (sc rfl (sc rfl (sc rfl sn))))) (Turn.picks [0, 2, 3] rfl rfl)
    ·refine Wk.condF rfl h174 <| Wk.exit <| At.te ?_
     cases hF
     exact At.en () rfl sn (Turn.picks [] rfl rfl)
   ·clear h245
    rcases r246 with _ | _
    ·rintro ⟨⟩
     refine At.br <| At.tr ?_
     cases hF
     exact At.ret (.tmp rfl .nil) fun m' hm => ⟨(), rfl, (Turn.picks [] rfl rfl) m' hm⟩
    ·rintro ⟨⟩
     refine At.be <| At.tn <| Wk.seq <| Wk.region <| Wo.od (o_as rfl) rfl <| Wo.nil <| At.tn <| Wk.ret ?_
     cases hF
     exact At.ret (.tmp rfl .nil) fun m' hm => ⟨(), rfl, (Turn.picks [] rfl rfl) m' hm⟩
theorem f108_ok (n : Nat) (x1 : Nat)  (r : Int) (hF : F108 n x1 = some r) (m : AMem)  :
  CallA E30w 108 [.int .u64 ((x1 : Nat) : Int)] m (fun v m' => ∃ x : Unit, v = .int .i64 r ∧ Hp m m' []) := by
 unfold F108 at hF
 refine call_wk (m0 := m) (ps := []) (N := 25) (rs := [.tmp 2]) rfl Tryz.func108 rfl rfl rfl (Hp.start m) <| Wk.seq <| Wk.region <| Wo.od (o_as rfl) rfl <| Wo.nil <| At.tn <| Wk.seq ?_
 obtain ⟨r7, h6, hF⟩ := ob_some hF
 refine Wk.cut (G := (fun (r : Nat × Int) (g : Unit) => match r, g with | (v3, v4), _ => ⟨.normal, [(0, .int .u64 ((v3 : Nat) : Int)), (2, .int .i64 v4)], []⟩) r7) ?_ ?_
 ·clear hF
  revert r7
  intro r hF
  refine Wk.seq <| Wk.region <| Wo.od (o_mv rfl) rfl <| Wo.od (o_bi rfl rfl (ub_geq _ _)) rfl <| Wo.nil <| At.tn ?_
  rcases br_some hF with ⟨h5, hF⟩ | ⟨h5, hF⟩
  ·refine Wk.condT rfl h5 <| Wk.seq <| Wk.region <| Wo.od (o_mv rfl) rfl <| Wo.od (o_bi rfl rfl (ub_shr _ _ rfl)) rfl <| Wo.od (o_as rfl) rfl <| Wo.nil <| At.tn <| Wk.region <| Wo.od (o_as rfl) rfl <| Wo.nil ?_
   cases hF
   exact At.en () rfl (sc rfl (sc rfl sn)) (Turn.picks [] rfl rfl)
  ·refine Wk.condF rfl h5 <| Wk.skip ?_
   cases hF
   exact At.en () rfl (sc rfl (sc rfl sn)) (Turn.picks [] rfl rfl)
 ·clear h6
  obtain ⟨v3, v4⟩ := r7
  rintro ⟨⟩
  refine At.tn <| Wk.seq ?_
  obtain ⟨r13, h12, hF⟩ := ob_some hF
  refine Wk.cut (G := (fun (r : Nat × Int) (g : Unit) => match r, g with | (v9, v10), _ => ⟨.normal, [(0, .int .u64 ((v9 : Nat) : Int)), (2, .int .i64 v10)], []⟩) r13) ?_ ?_
  ·clear hF
   revert r13
   intro r hF
   refine Wk.seq <| Wk.region <| Wo.od (o_mv rfl) rfl <| Wo.od (o_bi rfl rfl (ub_geq _ _)) rfl <| Wo.nil <| At.tn ?_
   rcases br_some hF with ⟨h11, hF⟩ | ⟨h11, hF⟩
   ·refine Wk.condT rfl h11 <| Wk.seq <| Wk.region <| Wo.od (o_mv rfl) rfl <| Wo.od (o_bi rfl rfl (ub_shr _ _ rfl)) rfl <| Wo.od (o_as rfl) rfl <| Wo.nil <| At.tn <| Wk.region <| Wo.od (o_mv rfl) rfl <| Wo.od (o_bi rfl rfl (bin_add _ _ _)) rfl <| Wo.od (o_as rfl) rfl <| Wo.nil ?_
    cases hF
    exact At.en () rfl (sc rfl (sc rfl sn)) (Turn.picks [] rfl rfl)
   ·refine Wk.condF rfl h11 <| Wk.skip ?_
    cases hF
    exact At.en () rfl (sc rfl (sc rfl sn)) (Turn.picks [] rfl rfl)
  ·clear h12
   obtain ⟨v9, v10⟩ := r13
   rintro ⟨⟩
   refine At.tn <| Wk.seq ?_
   obtain ⟨r19, h18, hF⟩ := ob_some hF
   refine Wk.cut (G := (fun (r : Nat × Int) (g : Unit) => match r, g with | (v15, v16), _ => ⟨.normal, [(0, .int .u64 ((v15 : Nat) : Int)), (2, .int .i64 v16)], []⟩) r19) ?_ ?_
   ·clear hF
    revert r19
    intro r hF
    refine Wk.seq <| Wk.region <| Wo.od (o_mv rfl) rfl <| Wo.od (o_bi rfl rfl (ub_geq _ _)) rfl <| Wo.nil <| At.tn ?_
    rcases br_some hF with ⟨h17, hF⟩ | ⟨h17, hF⟩
    ·refine Wk.condT rfl h17 <| Wk.seq <| Wk.region <| Wo.od (o_mv rfl) rfl <| Wo.od (o_bi rfl rfl (ub_shr _ _ rfl)) rfl <| Wo.od (o_as rfl) rfl <| Wo.nil <| At.tn <| Wk.region <| Wo.od (o_mv rfl) rfl <| Wo.od (o_bi rfl rfl (bin_add _ _ _)) rfl <| Wo.od (o_as rfl) rfl <| Wo.nil ?_
     cases hF
     exact At.en () rfl (sc rfl (sc rfl sn)) (Turn.picks [] rfl rfl)
    ·refine Wk.condF rfl h17 <| Wk.skip ?_
     cases hF
     exact At.en () rfl (sc rfl (sc rfl sn)) (Turn.picks [] rfl rfl)
   ·clear h18
    obtain ⟨v15, v16⟩ := r19
    rintro ⟨⟩
    refine At.tn <| Wk.seq <| Wk.region <| Wo.od (o_mv rfl) rfl <| Wo.od (o_mv rfl) rfl <| Wo.od (o_cv rfl (cv_uu (by rw [u26]; rfl) u5 rfl)) rfl ?_
    obtain ⟨h20, hF⟩ := gd_some hF
    obtain ⟨y22, h21, hF⟩ := ob_some hF
    refine Wo.od (o_ixt tab256_482390 u9 rfl (by rfl) rfl h20 h21) rfl <| Wo.od (o_cv rfl (cv_i (by rw [u5]; rfl) u3)) rfl <| Wo.od (o_bi rfl rfl (bin_add _ _ _)) rfl <| Wo.od (o_as rfl) rfl <| Wo.nil <| At.tn <| Wk.ret ?_
    cases hF
    exact At.ret (.tmp rfl .nil) fun m' hm => ⟨(), rfl, (Turn.picks [] rfl rfl) m' hm⟩
theorem f54_ok (n : Nat) (x1 : Int) (l2 : List (Int × Int)) (x6 : Nat) (a3 : Option Addr) (c4 : Nat) (r : Int) (hF : F54 n x1 l2 x6 = some r) (m : AMem) (h5 : Rd m a3 c4 2 l2.length (l2.map (eP (eI .i64) (eI .i64)))) :
  CallA E30w 54 [.agg #[.int .i64 x1, .slice a3 l2.length c4], .int .u64 ((x6 : Nat) : Int)] m (fun v m' => ∃ x : Unit, v = .int .i64 r ∧ Hp m m' []) := by
 unfold F54 at hF
 refine call_wk (m0 := m) (ps := [.rd a3 c4 2 l2.length (l2.map (eP (eI .i64) (eI .i64)))]) (N := 20) (rs := [.tmp 4]) rfl Tryz.func54 rfl rfl rfl ((Hp.start m).inn rfl h5) <| Wk.seq <| Wk.region <| Wo.x (o_bx rfl) gn rfl fun b7 => ?_
 refine Wo.od (o_as rfl) rfl <| Wo.nil <| At.tn <| Wk.seq <| Wk.seq <| Wk.region <| Wo.od (o_ld (k := 0) t34 rfl rfl rfl) rfl ?_
 obtain ⟨r9, h8, hF⟩ := ob_some hF
 refine Wo.x (o_cl rfl rfl (fun m hm => f107_ok n x1 l2 a3 c4 _ h8 m (hm.rd (k := 1) rfl (.rd _ _ _ _ _))) fun _ => rfl) gn rfl ?_
 rintro ⟨⟩
 refine Wo.od (o_as rfl) rfl <| Wo.nil <| At.tn <| Wk.seq <| Wk.region <| Wo.od (o_mv rfl) rfl <| Wo.od (o_bi rfl rfl (ib_neq _ _)) rfl <| Wo.nil <| At.tn ?_
 rcases br_some hF with ⟨h10, hF⟩ | ⟨h10, hF⟩
 ·refine Wk.condT rfl h10 <| Wk.seq <| Wk.region <| Wo.od (o_mv rfl) rfl <| Wo.od (o_as rfl) rfl <| Wo.nil <| At.tn <| Wk.ret <| At.tr ?_
  have hr := Option.some.inj hF
  subst r
  exact At.ret (.tmp rfl .nil) fun m' hm => ⟨(), rfl, (Turn.picks [] rfl rfl) m' hm⟩
 ·refine Wk.condF rfl h10 <| Wk.skip <| At.tn <| Wk.seq <| Wk.seq ?_
  obtain ⟨v24, h28, hF⟩ := ob_some hF
  refine Wk.cut (G := (fun (r : Bool) (g : Unit) => match r, g with | v24, _ => ⟨.normal, [(19, .bool v24)], []⟩) v24) ?_ ?_
  ·clear hF
   revert v24
   intro r hF
   refine Wk.drawc (prs := [(4, 6)]) (by kernel_rfl) <| Wn.od (o_mv rfl) rfl <| Wn.od (o_bi rfl rfl (ub_eql _ _)) rfl <| Wn.od (o_mv rfl) rfl ?_
   rcases br_some hF with ⟨h25, hF⟩ | ⟨h25, hF⟩
   ·refine Wn.s (gg rfl rfl (eTF h25)) rfl <| Wn.s (gg rfl rfl (eTF h25)) rfl <| Wn.s (gg rfl rfl (eTF h25)) rfl <| Wn.s (gg rfl rfl (eTF h25)) rfl <| Wn.s (gg rfl rfl (eTF h25)) rfl <| Wn.od (o_pt rfl h25 rfl) rfl <| Wn.nil (fun m hm => OkP.all rfl) ?_
    cases hF
    exact At.en () rfl (sc rfl sn) (Turn.picks [] rfl rfl)
   ·refine Wn.og (o_mv rfl) (gg rfl rfl (eFF h25)) rfl ?_
    obtain ⟨r27, h26, hF⟩ := ob_some hF
    refine Wn.c (o_ce rfl rfl (fun m hm => f108_ok n x6  _ h26 m ) fun _ => rfl) (gg rfl rfl (eFF h25)) rfl ?_
    rintro ⟨⟩
    refine Wn.og (o_fa (r := ptr b7 0) rfl (fa34_0 _ _)) (gg rfl rfl (eFF h25)) rfl <| Wn.og (o_ld (k := 0) t3 rfl rfl rfl) (gg rfl rfl (eFF h25)) rfl <| Wn.og (o_bi rfl rfl (bin_gtr _ _ _)) (gg rfl rfl (eFF h25)) rfl <| Wn.od (o_pf rfl h25 rfl) rfl <| Wn.nil (fun m hm => OkP.all rfl) ?_
    cases hF
    exact At.en () rfl (sc rfl sn) (Turn.picks [] rfl rfl)
  ·clear h28
   rintro ⟨⟩
   refine At.tn ?_
   rcases br_some hF with ⟨h30, hF⟩ | ⟨h30, hF⟩
   ·refine Wk.condT rfl h30 <| Wk.seq <| Wk.region <| Wo.od (o_as rfl) rfl <| Wo.nil <| At.tn <| Wk.ret <| At.tr ?_
    cases hF
    exact At.ret (.tmp rfl .nil) fun m' hm => ⟨(), rfl, (Turn.picks [] rfl rfl) m' hm⟩
   ·refine Wk.condF rfl h30 <| Wk.skip <| At.tn <| Wk.seq <| Wk.region <| Wo.od (o_as rfl) rfl <| Wo.nil <| At.tn <| Wk.ret ?_
    cases hF
    exact At.ret (.tmp rfl .nil) fun m' hm => ⟨(), rfl, (Turn.picks [] rfl rfl) m' hm⟩
theorem f78_ok (n : Nat)   (r : List Int) (hF : F78 n  = some r) (m : AMem)  :
  CallA E30w 78 [] m (fun v m' => ∃ x : Option Addr × Nat, v = .agg #[.slice x.1 x.2 x.2] ∧ Hp m m' [.sl x.1 1 x.2 (r.map (eI .i64))]) := by
 unfold F78 at hF
 refine call_wk (m0 := m) (ps := []) (N := 16) (rs := [.cell 0 133]) rfl Tryz.func78 rfl rfl rfl (Hp.start m) <| Wk.seq <| Wk.region <| Wo.x (o_al z133 rfl) gn rfl fun b1 => ?_
 refine Wo.nil <| At.tn <| Wk.seq <| Wk.region ?_
 obtain ⟨h2, hF⟩ := gd_some hF
 obtain ⟨h3, hF⟩ := gd_some hF
 refine Wo.x (o_msl (f := eI .i64) (z0 := (0 : Int)) s131 rfl h2 h3 z3 rfl rfl) gn rfl fun b4 => ?_
 refine Wo.od (o_as rfl) rfl <| Wo.nil <| At.tn <| Wk.seq <| Wk.seq <| Wk.region <| Wo.od (o_mv rfl) rfl <| Wo.od (o_ln (k := 0) u131 rfl rfl (.inl rfl)) rfl <| Wo.od (o_mv rfl) rfl <| Wo.nil <| At.tn <| Wk.block ?_
 obtain ⟨l21, h27, hF⟩ := ob_some hF
 refine Wk.cut (G := (fun (r : List (Int)) (g : Unit) => match r, g with | l21, _ => ⟨(.exit 0), [(0, ptr b1 0), (1, .slice (some ⟨b4, 0, none⟩) ((64 : Int).toNat) ((64 : Int).toNat))], [.obj b1 (.cells [.slice none 0 0] .own), .arr b4 1 ((64 : Int).toNat) (l21.map (eI .i64)) .own]⟩) l21) ?_ ?_
 ·refine Wk.weak (fs' := [(0, ptr b1 0), (1, .slice (some ⟨b4, 0, none⟩) ((64 : Int).toNat) ((64 : Int).toNat)), (5, .int .i64 ((64 : Int).toNat : Int)), (6, .int .i64 0)]) (ps' := [.obj b1 (.cells [.slice none 0 0] .own), .arr b4 1 ((64 : Int).toNat) ((List.replicate (64 : Int).toNat (0 : Int)).map (eI .i64)) .own]) (sc rfl (sc rfl (sc rfl (sc rfl sn)))) (Turn.picks [1, 0] rfl rfl) ?_
  refine Wk.loop (σ := List (Int) × Int) (ρ := List (Int)) (γ := Unit) (δ := fun _ => Unit) _ (fun (s : List (Int) × Int) (g : Unit) => match s, g with | (l12, v13), _ => ⟨.normal, [(0, ptr b1 0), (1, .slice (some ⟨b4, 0, none⟩) ((64 : Int).toNat) ((64 : Int).toNat)), (5, .int .i64 ((64 : Int).toNat : Int)), (6, .int .i64 v13)], [.obj b1 (.cells [.slice none 0 0] .own), .arr b4 1 ((64 : Int).toNat) (l12.map (eI .i64)) .own]⟩) (fun (r : List (Int)) (g : Unit) => match r, g with | l21, _ => ⟨(.exit 0), [(0, ptr b1 0), (1, .slice (some ⟨b4, 0, none⟩) ((64 : Int).toNat) ((64 : Int).toNat))], [.obj b1 (.cells [.slice none 0 0] .own), .arr b4 1 ((64 : Int).toNat) (l21.map (eI .i64)) .own]⟩) ?_ (fun _ _ => rfl) (fun r d => by intro e; cases e) _ _ _ h27 ()
  clear hF h27
  rintro ⟨l12, v13⟩ ⟨⟩ r hF
  unfold L78_1 at hF
  refine Wk.seq <| Wk.region <| Wo.od (o_bi rfl rfl (bin_lss _ _ _)) rfl <| Wo.nil <| At.tn <| Wk.seq ?_
  rcases br_some hF with ⟨h22, hF⟩ | ⟨h22, hF⟩
  ·refine Wk.condT rfl h22 <| Wk.skip <| At.tn <| Wk.seq <| Wk.block <| Wk.seq <| Wk.region <| Wo.od (o_mv rfl) rfl <| Wo.od (o_as rfl) rfl <| Wo.nil <| At.tn <| Wk.region <| Wo.od (o_mv rfl) rfl <| Wo.od (o_mv rfl) rfl <| Wo.od (o_mv rfl) rfl ?_
   obtain ⟨h23, hF⟩ := gd_some hF
   replace h23 := inB_some h23
   refine Wo.og (o_ixa s131 rfl rfl h23) gn rfl ?_
   obtain ⟨x24, h25, hF⟩ := ob_some hF
   refine Wo.o0 (o_stl (k := 1) (x1 := x24) (x2 := v13) t3 rfl rfl rfl h25 rfl) <| Wo.nil <| At.bn <| At.tn <| Wk.region <| Wo.od (o_bi rfl rfl (bin_add _ _ _)) rfl <| Wo.od (o_mv rfl) rfl <| Wo.nil ?_
   cases hF
   exact At.en () rfl (sc rfl (sc rfl (sc rfl (sc rfl sn)))) (Turn.picks [0, 1] rfl rfl)
  ·refine Wk.condF rfl h22 <| Wk.exit <| At.te ?_
   cases hF
   exact At.en () rfl (sc rfl (sc rfl sn)) (Turn.picks [0, 1] rfl rfl)
 ·clear h27
  rintro ⟨⟩
  refine At.be <| At.tn <| Wk.seq <| Wk.region <| Wo.od (o_mv rfl) rfl <| Wo.od (o_bd rfl z133 rfl (bd_s bs133 rfl rfl rfl)) rfl <| Wo.o0 (o_st (k := 0) t133 rfl rfl rfl rfl rfl) <| Wo.nil <| At.tn <| Wk.ret ?_
  have hr := Option.some.inj hF
  subst r
  exact At.ret (.cell (k := 0) t133 rfl rfl rfl .nil) fun m' hm => ⟨((some ⟨b4, 0, none⟩), ((64 : Int).toNat)), rfl, (Turn.trans (Turn.close (k := 1) rfl) (Turn.picks [1] rfl rfl)) m' hm⟩
theorem f59_ok (n : Nat) (x1 : Nat) (x2 : Int) (x3 : Int)  (r : Bool) (hF : F59 n x1 x2 x3 = some r) (m : AMem)  :
  CallA E30w 59 [.int .u64 ((x1 : Nat) : Int), .agg #[.int .i64 x2, .int .i64 x3]] m (fun v m' => ∃ x : Unit, v = .bool r ∧ Hp m m' []) := by
 unfold F59 at hF
 refine call_wk (m0 := m) (ps := []) (N := 19) (rs := [.tmp 4]) rfl Tryz.func59 rfl rfl rfl (Hp.start m) <| Wk.seq <| Wk.region <| Wo.x (o_bx rfl) gn rfl fun b4 => ?_
 refine Wo.od (o_as rfl) rfl <| Wo.nil <| At.tn <| Wk.seq <| Wk.region <| Wo.od (o_mv rfl) rfl <| Wo.od (o_ia (r := ptr b4 0) rfl rfl (ia_c ar43 (i := 0) (by decide))) rfl <| Wo.od (o_ld (k := 0) t3 rfl rfl rfl) rfl ?_
 obtain ⟨h5, hF⟩ := gd_some hF
 refine Wo.od (o_bi rfl rfl (ub_shr _ _ h5)) rfl <| Wo.od (o_bi rfl rfl (ub_and rfl _ _)) rfl <| Wo.od (o_bi rfl rfl (ub_eql _ _)) rfl <| Wo.od (o_mv rfl) rfl ?_
 rcases br_some hF with ⟨h6, hF⟩ | ⟨h6, hF⟩
 ·refine Wo.og (o_mv rfl) (gg rfl rfl (eTT h6)) rfl <| Wo.og (o_ia (r := ptr b4 1) rfl rfl (ia_c ar43 (i := 1) (by decide))) (gg rfl rfl (eTT h6)) rfl <| Wo.og (o_ld (k := 0) t3 rfl rfl rfl) (gg rfl rfl (eTT h6)) rfl ?_
  obtain ⟨h7, hF⟩ := gd_some hF
  refine Wo.og (o_bi rfl rfl (ub_shr _ _ h7)) (gg rfl rfl (eTT h6)) rfl <| Wo.og (o_bi rfl rfl (ub_and rfl _ _)) (gg rfl rfl (eTT h6)) rfl <| Wo.og (o_bi rfl rfl (ub_eql _ _)) (gg rfl rfl (eTT h6)) rfl <| Wo.od (o_pt rfl h6 rfl) rfl <| Wo.od (o_as rfl) rfl <| Wo.nil <| At.tn <| Wk.ret ?_
  cases hF
  exact At.ret (.tmp rfl .nil) fun m' hm => ⟨(), rfl, (Turn.picks [] rfl rfl) m' hm⟩
 ·refine Wo.s (gg rfl rfl (eFT h6)) rfl <| Wo.s (gg rfl rfl (eFT h6)) rfl <| Wo.s (gg rfl rfl (eFT h6)) rfl <| Wo.s (gg rfl rfl (eFT h6)) rfl <| Wo.s (gg rfl rfl (eFT h6)) rfl <| Wo.s (gg rfl rfl (eFT h6)) rfl <| Wo.od (o_pf rfl h6 rfl) rfl <| Wo.od (o_as rfl) rfl <| Wo.nil <| At.tn <| Wk.ret ?_
  cases hF
  exact At.ret (.tmp rfl .nil) fun m' hm => ⟨(), rfl, (Turn.picks [] rfl rfl) m' hm⟩
theorem f109_ok (n : Nat) (l1 : List (Int)) (x5 : Int) (a2 : Option Addr) (c3 : Nat) (r : Int) (hF : F109 n l1 x5 = some r) (m : AMem) (h4 : Rd m a2 c3 1 l1.length (l1.map (eI .i64))) :
  CallA E30w 109 [.slice a2 l1.length c3, .int .i64 x5] m (fun v m' => ∃ x : Unit, v = .int .i64 r ∧ Hp m m' []) := by
 unfold F109 at hF
 refine call_wk (m0 := m) (ps := [.rd a2 c3 1 l1.length (l1.map (eI .i64))]) (N := 16) (rs := [.tmp 4]) rfl Tryz.func109 rfl rfl rfl ((Hp.start m).inn rfl h4) <| Wk.seq <| Wk.region <| Wo.od (o_as rfl) rfl <| Wo.nil <| At.tn <| Wk.seq <| Wk.block ?_
 obtain ⟨v16, h24, hF⟩ := ob_some hF
 refine Wk.cut (G := (fun (r : Int) (g : Unit) => match r, g with | v16, _ => ⟨(.exit 0), [(1, .int .i64 v16)], []⟩) v16) ?_ ?_
 ·refine Wk.weak (fs' := [(0, .slice a2 l1.length c3), (1, .int .i64 x5)]) (ps' := [.rd a2 c3 1 l1.length (l1.map (eI .i64))]) (sc rfl (sc rfl sn)) (Turn.picks [0] rfl rfl) ?_
  refine Wk.loop (σ := Int) (ρ := Int) (γ := Unit) (δ := fun _ => Unit) _ (fun (s : Int) (g : Unit) => match s, g with | v7, _ => ⟨.normal, [(0, .slice a2 l1.length c3), (1, .int .i64 v7)], [.rd a2 c3 1 l1.length (l1.map (eI .i64))]⟩) (fun (r : Int) (g : Unit) => match r, g with | v16, _ => ⟨(.exit 0), [(1, .int .i64 v16)], []⟩) ?_ (fun _ _ => rfl) (fun r d => by intro e; cases e) _ _ _ h24 ()
  clear hF h24
  rintro v7 ⟨⟩ r hF
  unfold L109_1 at hF
  refine Wk.seq <| Wk.seq <| Wk.region <| Wo.od (o_mv rfl) rfl <| Wo.od (o_mv rfl) rfl ?_
  obtain ⟨h17, hF⟩ := gd_some hF
  replace h17 := inB_some h17
  refine Wo.openr (k := 0) rfl (pos_of h17) ?_
  rintro b18 o19 rfl
  refine Wo.og (o_ixs s131 rfl rfl h17) gn rfl ?_
  obtain ⟨x20, h21, hF⟩ := ob_some hF
  refine Wo.od (o_ldr (k := 0) t3 rfl rfl (map_at h21) rfl rfl) rfl <| Wo.od (o_mv rfl) rfl <| Wo.od (o_bi rfl rfl (ib_neq _ _)) rfl <| Wo.nil <| At.tn ?_
  rcases br_some hF with ⟨h22, hF⟩ | ⟨h22, hF⟩
  ·refine Wk.condT rfl h22 <| Wk.skip <| At.tn <| Wk.block <| Wk.region <| Wo.od (o_mv rfl) rfl <| Wo.od (o_mv rfl) rfl ?_
   obtain ⟨h23, hF⟩ := gd_some hF
   replace h23 := inB_some h23
   refine Wo.og (o_ixs s131 rfl rfl h23) gn rfl <| Wo.od (o_ldr (k := 0) t3 rfl rfl (map_at h21) rfl rfl) rfl <| Wo.od (o_as rfl) rfl <| Wo.nil <| At.bn ?_
   cases hF
   exact At.en () rfl (sc rfl (sc rfl sn)) (Turn.picks [1] rfl rfl)
  ·refine Wk.condF rfl h22 <| Wk.exit <| At.te ?_
   cases hF
   exact At.en () rfl (sc rfl sn) (Turn.picks [] rfl rfl)
 ·clear h24
  rintro ⟨⟩
  refine At.be <| At.tn <| Wk.seq <| Wk.region <| Wo.od (o_mv rfl) rfl <| Wo.od (o_as rfl) rfl <| Wo.nil <| At.tn <| Wk.ret ?_
  have hr := Option.some.inj hF
  subst r
  exact At.ret (.tmp rfl .nil) fun m' hm => ⟨(), rfl, (Turn.picks [] rfl rfl) m' hm⟩
theorem f43_ok (n : Nat) (x1 : Nat)  (r : Int) (hF : F43 n x1 = some r) (m : AMem)  :
  CallA E30w 43 [.int .u64 ((x1 : Nat) : Int)] m (fun v m' => ∃ x : Unit, v = .int .i64 r ∧ Hp m m' []) := by
 unfold F43 at hF
 refine call_wk (m0 := m) (ps := []) (N := 35) (rs := [.tmp 2]) rfl Tryz.func43 rfl rfl rfl (Hp.start m) <| Wk.seq <| Wk.region <| Wo.od (o_as rfl) rfl <| Wo.nil <| At.tn <| Wk.seq <| Wk.region <| Wo.od (o_mv rfl) rfl <| Wo.od (o_bi rfl rfl (ub_shr _ _ rfl)) rfl <| Wo.od (o_bi rfl rfl (ub_and rfl _ _)) rfl <| Wo.od (o_mv rfl) rfl <| Wo.od (o_bi rfl rfl (ub_and rfl _ _)) rfl ?_
 obtain ⟨y2, h3, hF⟩ := ob_some hF
 refine Wo.od (o_bi rfl rfl ((ub_add rfl _ _).trans (cN h3))) rfl <| Wo.od (o_as rfl) rfl <| Wo.nil <| At.tn <| Wk.seq <| Wk.region <| Wo.od (o_mv rfl) rfl <| Wo.od (o_bi rfl rfl (ub_shr _ _ rfl)) rfl <| Wo.od (o_bi rfl rfl (ub_and rfl _ _)) rfl <| Wo.od (o_mv rfl) rfl <| Wo.od (o_bi rfl rfl (ub_and rfl _ _)) rfl ?_
 obtain ⟨y4, h5, hF⟩ := ob_some hF
 refine Wo.od (o_bi rfl rfl ((ub_add rfl _ _).trans (cN h5))) rfl <| Wo.od (o_as rfl) rfl <| Wo.nil <| At.tn <| Wk.seq <| Wk.region <| Wo.od (o_mv rfl) rfl <| Wo.od (o_bi rfl rfl (ub_shr _ _ rfl)) rfl <| Wo.od (o_mv rfl) rfl <| Wo.od (o_bi rfl rfl (ub_add rfl _ _)) rfl ?_
 obtain ⟨y6, h7, hF⟩ := ob_some hF
 refine Wo.od (o_bi rfl rfl ((ub_and rfl _ _).trans (cN h7))) rfl <| Wo.od (o_as rfl) rfl <| Wo.nil <| At.tn <| Wk.seq <| Wk.region <| Wo.od (o_mv rfl) rfl <| Wo.od (o_mv rfl) rfl <| Wo.od (o_bi rfl rfl (ub_shr _ _ rfl)) rfl <| Wo.od (o_bi rfl rfl (ub_add rfl _ _)) rfl <| Wo.od (o_as rfl) rfl <| Wo.nil <| At.tn <| Wk.seq <| Wk.region <| Wo.od (o_mv rfl) rfl <| Wo.od (o_mv rfl) rfl <| Wo.od (o_bi rfl rfl (ub_shr _ _ rfl)) rfl ?_
 obtain ⟨y8, h9, hF⟩ := ob_some hF
 refine Wo.od (o_bi rfl rfl ((ub_add rfl _ _).trans (cN h9))) rfl <| Wo.od (o_as rfl) rfl <| Wo.nil <| At.tn <| Wk.seq <| Wk.region <| Wo.od (o_mv rfl) rfl <| Wo.od (o_mv rfl) rfl <| Wo.od (o_bi rfl rfl (ub_shr _ _ rfl)) rfl <| Wo.od (o_bi rfl rfl (ub_add rfl _ _)) rfl <| Wo.od (o_as rfl) rfl <| Wo.nil <| At.tn <| Wk.seq <| Wk.region <| Wo.od (o_mv rfl) rfl <| Wo.od (o_cv rfl (cv_i (by rw [u26]; rfl) u3)) rfl ?_
 obtain ⟨y10, h11, hF⟩ := ob_some hF
 refine Wo.od (o_bi rfl rfl ((ib_and _ _).trans (cI h11))) rfl <| Wo.od (o_as rfl) rfl <| Wo.nil <| At.tn <| Wk.ret ?_
 have hr := Option.some.inj hF
 subst r
 exact At.ret (.tmp rfl .nil) fun m' hm => ⟨(), rfl, (Turn.picks [] rfl rfl) m' hm⟩
theorem f22_ok (n : Nat) (x1 : Int) (l2 : List (Int × Int)) (x6 : Nat) (l7 : List (Int)) (a3 : Option Addr) (c4 : Nat) (a8 : Option Addr) (c9 : Nat) (r : Int) (hF : F22 n x1 l2 x6 l7 = some r) (m : AMem) (h5 : Rd m a3 c4 2 l2.length (l2.map (eP (eI .i64) (eI .i64)))) (h10 : Rd m a8 c9 1 l7.length (l7.map (eI .i64))) :
  CallA E30w 22 [.agg #[.int .i64 x1, .slice a3 l2.length c4], .int .u64 ((x6 : Nat) : Int), .slice a8 l7.length c9] m (fun v m' => ∃ x : Unit, v = .int .i64 r ∧ Hp m m' []) := by
 unfold F22 at hF
 refine call_wk (m0 := m) (ps := [.rd a8 c9 1 l7.length (l7.map (eI .i64)), .rd a3 c4 2 l2.length (l2.map (eP (eI .i64) (eI .i64)))]) (N := 63) (rs := [.tmp 6]) rfl Tryz.func22 rfl rfl rfl (((Hp.start m).inn rfl h5).inn rfl h10) <| Wk.seq <| Wk.region <| Wo.x (o_bx rfl) gn rfl fun b11 => ?_
 refine Wo.od (o_as rfl) rfl <| Wo.nil <| At.tn <| Wk.seq <| Wk.seq <| Wk.region <| Wo.od (o_ld (k := 0) t34 rfl rfl rfl) rfl <| Wo.od (o_mv rfl) rfl ?_
 obtain ⟨r13, h12, hF⟩ := ob_some hF
 refine Wo.x (o_cl rfl rfl (fun m hm => f54_ok n x1 l2 x6 a3 c4 _ h12 m (hm.rd (k := 2) rfl (.rd _ _ _ _ _))) fun _ => rfl) gn rfl ?_
 rintro ⟨⟩
 refine Wo.od (o_as rfl) rfl <| Wo.nil <| At.tn <| Wk.seq <| Wk.region <| Wo.od (o_mv rfl) rfl <| Wo.od (o_bi rfl rfl (ib_neq _ _)) rfl <| Wo.nil <| At.tn ?_
 rcases br_some hF with ⟨h14, hF⟩ | ⟨h14, hF⟩
 ·refine Wk.condT rfl h14 <| Wk.seq <| Wk.region <| Wo.od (o_mv rfl) rfl <| Wo.od (o_as rfl) rfl <| Wo.nil <| At.tn <| Wk.ret <| At.tr ?_
  have hr := Option.some.inj hF
  subst r
  exact At.ret (.tmp rfl .nil) fun m' hm => ⟨(), rfl, (Turn.picks [] rfl rfl) m' hm⟩
 ·refine Wk.condF rfl h14 <| Wk.skip <| At.tn <| Wk.seq <| Wk.region ?_
  obtain ⟨l16, h15, hF⟩ := ob_some hF
  refine Wo.x (o_cl rfl rfl (fun m hm => f78_ok n   _ h15 m ) fun _ => rfl) gn rfl ?_
  rintro ⟨a17, n18⟩
  refine Wo.len (k := 0) (xs := l16) rfl ?_
  rintro rfl
  refine Wo.x (o_al z133 rfl) gn rfl fun b19 => ?_
  refine Wo.o0 (o_st (k := 0) t133 rfl rfl rfl rfl rfl) <| Wo.nil <| At.tn <| Wk.seq <| Wk.region <| Wo.od (o_as rfl) rfl <| Wo.nil <| At.tn <| Wk.seq <| Wk.seq <| Wk.region <| Wo.od (o_mv rfl) rfl <| Wo.od (o_ln (k := 3) u49 rfl rfl (.inl rfl)) rfl <| Wo.od (o_mv rfl) rfl <| Wo.nil <| At.tn <| Wk.block ?_
  obtain ⟨r1530, h1529, hF⟩ := ob_some hF
  refine Wk.cut (G := (fun (r : (Unit) ⊕ (Unit)) (g : Unit) => match r, g with | .inl _, _ => ⟨.ret, [(6, .int .i64 300)], []⟩ | .inr _, _ => ⟨(.exit 0), [(1, .int .u64 ((x6 : Nat) : Int)), (2, .slice a8 l7.length c9)], [.rd a8 c9 1 l7.length (l7.map (eI .i64))]⟩) r1530) ?_ ?_
  ·refine Wk.weak (fs' := [(1, .int .u64 ((x6 : Nat) : Int)), (2, .slice a8 l7.length c9), (3, ptr b11 0), (8, ptr b19 0), (9, .int .i64 (-1)), (19, .slice a8 l7.length c9), (20, .int .i64 (l7.length : Int)), (21, .int .i64 0)]) (ps' := [.rd a8 c9 1 l7.length (l7.map (eI .i64)), .obj b11 (.cells [.int .i64 x1, .slice a3 l2.length c4] .own), .rd a3 c4 2 l2.length (l2.map (eP (eI .i64) (eI .i64))), .obj b19 (.cells [.slice a17 l16.length l16.length] .own), .sl a17 1 l16.length (l16.map (eI .i64))]) (sc rfl (sc rfl (sc rfl (sc rfl (sc rfl (sc rfl (sc rfl (sc rfl sn)))))))) (Turn.picks [3, 2, 4, 0, 1] rfl rfl) ?_
   refine Wk.loop (σ := List (Int) × Nat × Int × Int) (ρ := (Unit) ⊕ (Unit)) (γ := Option Addr) (δ := fun _ => Unit) _ (fun (s : List (Int) × Nat × Int × Int) (g : Option Addr) => match s, g with | (l769, n771, v772, v773), a770 => ⟨.normal, [(1, .int .u64 ((x6 : Nat) : Int)), (2, .slice a8 l7.length c9), (3, ptr b11 0), (8, ptr b19 0), (9, .int .i64 v772), (19, .slice a8 l7.length c9), (20, .int .i64 (l7.length : Int)), (21, .int .i64 v773)], [.rd a8 c9 1 l7.length (l7.map (eI .i64)), .obj b11 (.cells [.int .i64 x1, .slice a3 l2.length c4] .own), .rd a3 c4 2 l2.length (l2.map (eP (eI .i64) (eI .i64))), .obj b19 (.cells [.slice a770 n771 n771] .own), .sl a770 1 n771 (l769.map (eI .i64))]⟩) (fun (r : (Unit) ⊕ (Unit)) (g : Unit) => match r, g with | .inl _, _ => ⟨.ret, [(6, .int .i64 300)], []⟩ | .inr _, _ => ⟨(.exit 0), [(1, .int .u64 ((x6 : Nat) : Int)), (2, .slice a8 l7.length c9)], [.rd a8 c9 1 l7.length (l7.map (eI .i64))]⟩) ?_ (fun _ _ => rfl) (fun r d => by rcases r with _ | _ <;> (intro e; cases e)) _ _ _ h1529 a17
   clear hF h1529
   rintro ⟨l769, n771, v772, v773⟩ a770 r hF
   unfold L22_1 at hF
   refine Wk.seq <| Wk.region <| Wo.od (o_bi rfl rfl (bin_lss _ _ _)) rfl <| Wo.nil <| At.tn <| Wk.seq ?_
   rcases br_some hF with ⟨h1154, hF⟩ | ⟨h1154, hF⟩
   ·refine Wk.condT rfl h1154 <| Wk.skip <| At.tn <| Wk.seq <| Wk.block <| Wk.seq <| Wk.region ?_
    obtain ⟨h1342, hF⟩ := gd_some hF
    replace h1342 := inB_some h1342
    refine Wo.openr (k := 0) rfl (pos_of h1342) ?_
    rintro b1343 o1344 rfl
    refine Wo.og (o_ixs s49 rfl rfl h1342) gn rfl ?_
    obtain ⟨x1345, h1346, hF⟩ := ob_some hF
    refine Wo.od (o_ldr (k := 0) t3 rfl rfl (map_at h1346) rfl rfl) rfl <| Wo.od (o_as rfl) rfl <| Wo.nil <| At.tn <| Wk.seq <| Wk.seq ?_
    obtain ⟨r1527, h1526, hF⟩ := ob_some hF
    refine Wk.cut (G := (fun (r : List (Int) × Nat × Bool) (g : Option Addr) => match r, g with | (l1480, n1482, v1483), a1481 => ⟨.normal, [(1, .int .u64 ((x6 : Nat) : Int)), (2, .slice (some ⟨b1343, o1344, none⟩) l7.length c9), (3, ptr b11 0), (8, ptr b19 0), (11, .int .i64 x1345), (19, .slice (some ⟨b1343, o1344, none⟩) l7.length c9), (20, .int .i64 (l7.length : Int)), (21, .int .i64 v773), (54, .bool v1483)], [.ro b1343 o1344 1 l7.length (l7.map (eI .i64)), .rd (some ⟨b1343, o1344, none⟩) c9 1 l7.length (l7.map (eI .i64)), .obj b11 (.cells [.int .i64 x1, .slice a3 l2.length c4] .own), .rd a3 c4 2 l2.length (l2.map (eP (eI .i64) (eI .i64))), .obj b19 (.cells [.slice a1481 n1482 n1482] .own), .sl a1481 1 n1482 (l1480.map (eI .i64))]⟩) r1527) ?_ ?_
    ·clear hF
     revert r1527
     intro r hF
     refine Wk.draw (by kernel_rfl) <| Wo.od (o_mv rfl) rfl <| Wo.od (o_mv rfl) rfl <| Wo.od (o_bi rfl rfl (bin_leq _ _ _)) rfl <| Wo.od (o_mv rfl) rfl ?_
     rcases br_some hF with ⟨h1484, hF⟩ | ⟨h1484, hF⟩
     ·refine Wo.s (gg rfl rfl (eTF h1484)) rfl <| Wo.s (gg rfl rfl (eTF h1484)) rfl <| Wo.s (gg rfl rfl (eTF h1484)) rfl <| Wo.s (gg rfl rfl (eTF h1484)) rfl <| Wo.s (gg rfl rfl (eTF h1484)) rfl <| Wo.od (o_pt rfl h1484 rfl) rfl <| Wo.od (o_mv rfl) rfl <| Wo.s (gg rfl rfl rfl) rfl <| Wo.s (gg rfl rfl rfl) rfl <| Wo.s (gg rfl rfl rfl) rfl ?_
      refine Wo.s (gg rfl rfl rfl) rfl <| Wo.s (gg rfl rfl rfl) rfl <| Wo.s (gg rfl rfl rfl) rfl <| Wo.s (gg rfl rfl rfl) rfl <| Wo.s (gg rfl rfl rfl) rfl <| Wo.od (o_pT rfl rfl) rfl <| Wo.od (o_mv rfl) rfl <| Wo.s (gg rfl rfl rfl) rfl <| Wo.s (gg rfl rfl rfl) rfl <| Wo.s (gg rfl rfl rfl) rfl ?_
      refine Wo.s (gg rfl rfl rfl) rfl <| Wo.s (gg rfl rfl rfl) rfl <| Wo.s (gg rfl rfl rfl) rfl <| Wo.s (gg rfl rfl rfl) rfl <| Wo.s (gg rfl rfl rfl) rfl <| Wo.od (o_pT rfl rfl) rfl <| Wo.nil ?_
      cases hF
      exact At.en a770 rfl (sc rfl (sc rfl (sc rfl (sc rfl (sc rfl (sc rfl (sc rfl (sc rfl (sc rfl sn))))))))) (Turn.picks [0, 1, 2, 3, 4, 5] rfl rfl)
     ·refine Wo.og (o_mv rfl) (gg rfl rfl (eFF h1484)) rfl <| Wo.og (o_fa (r := ptr b11 1) rfl (fa34_1 _ _)) (gg rfl rfl (eFF h1484)) rfl <| Wo.og (o_ld (k := 2) t32 rfl rfl rfl) (gg rfl rfl (eFF h1484)) rfl <| Wo.og (o_ln (k := 3) u32 rfl rfl (.inl rfl)) (gg rfl rfl (eFF h1484)) rfl <| Wo.og (o_bi rfl rfl (bin_geq _ _ _)) (gg rfl rfl (eFF h1484)) rfl <| Wo.od (o_pf rfl h1484 rfl) rfl <| Wo.od (o_mv rfl) rfl ?_
      rcases br_some hF with ⟨h1485, hF⟩ | ⟨h1485, hF⟩
      ·refine Wo.s (gg rfl rfl (eTF h1485)) rfl <| Wo.s (gg rfl rfl (eTF h1485)) rfl <| Wo.s (gg rfl rfl (eTF h1485)) rfl <| Wo.s (gg rfl rfl (eTF h1485)) rfl <| Wo.s (gg rfl rfl (eTF h1485)) rfl <| Wo.s (gg rfl rfl (eTF h1485)) rfl <| Wo.s (gg rfl rfl (eTF h1485)) rfl <| Wo.s (gg rfl rfl (eTF h1485)) rfl <| Wo.od (o_pt rfl h1485 rfl) rfl <| Wo.od (o_mv rfl) rfl ?_
       refine Wo.s (gg rfl rfl rfl) rfl <| Wo.s (gg rfl rfl rfl) rfl <| Wo.s (gg rfl rfl rfl) rfl <| Wo.s (gg rfl rfl rfl) rfl <| Wo.s (gg rfl rfl rfl) rfl <| Wo.s (gg rfl rfl rfl) rfl <| Wo.s (gg rfl rfl rfl) rfl <| Wo.s (gg rfl rfl rfl) rfl <| Wo.od (o_pT rfl rfl) rfl <| Wo.nil ?_
       cases hF
       exact At.en a770 rfl (sc rfl (sc rfl (sc rfl (sc rfl (sc rfl (sc rfl (sc rfl (sc rfl (sc rfl sn))))))))) (Turn.picks [0, 1, 2, 3, 4, 5] rfl rfl)
      ·refine Wo.og (o_mv rfl) (gg rfl rfl (eFF h1485)) rfl <| Wo.og (o_fa (r := ptr b11 1) rfl (fa34_1 _ _)) (gg rfl rfl (eFF h1485)) rfl <| Wo.og (o_ld (k := 2) t32 rfl rfl rfl) (gg rfl rfl (eFF h1485)) rfl <| Wo.og (o_mv rfl) (gg rfl rfl (eFF h1485)) rfl ?_
       obtain ⟨h1486, hF⟩ := gd_some hF
       replace h1486 := inB_some h1486
       refine Wo.openr (k := 3) rfl (pos_of h1486) ?_
       rintro b1487 o1488 rfl
       refine Wo.og (o_ixs s32 rfl rfl h1486) (gg rfl rfl (eFF h1485)) rfl ?_
       obtain ⟨⟨x1489, x1490⟩, h1491, hF⟩ := ob_some hF
       refine Wo.og (o_ldr (k := 0) t43 rfl rfl (map_at h1491) rfl rfl) (gg rfl rfl (eFF h1485)) rfl ?_
       obtain ⟨r1493, h1492, hF⟩ := ob_some hF
       refine Wo.x (o_cl rfl rfl (fun m hm => f59_ok n x6 x1489 x1490  _ h1492 m ) fun _ => rfl) (gg rfl rfl (eFF h1485)) rfl ?_
       rintro ⟨⟩
       refine Wo.og (o_un rfl rfl) (gg rfl rfl (eFF h1485)) rfl <| Wo.od (o_pf rfl h1485 rfl) rfl <| Wo.od (o_mv rfl) rfl ?_
       rcases br_some hF with ⟨h1494, hF⟩ | ⟨h1494, hF⟩
       ·refine Wo.s (gg rfl rfl (eTF h1494)) rfl <| Wo.s (gg rfl rfl (eTF h1494)) rfl <| Wo.s (gg rfl rfl (eTF h1494)) rfl <| Wo.s (gg rfl rfl (eTF h1494)) rfl <| Wo.s (gg rfl rfl (eTF h1494)) rfl <| Wo.s (gg rfl rfl (eTF h1494)) rfl <| Wo.s (gg rfl rfl (eTF h1494)) rfl <| Wo.s (gg rfl rfl (eTF h1494)) rfl <| Wo.od (o_pt rfl h1494 rfl) rfl <| Wo.nil ?_
        cases hF
        exact At.en a770 rfl (sc rfl (sc rfl (sc rfl (sc rfl (sc rfl (sc rfl (sc rfl (sc rfl (sc rfl sn))))))))) (Turn.picks [1, 2, 3, 4, 5, 6] rfl rfl)
       ·refine Wo.og (o_ld (k := 5) t133 rfl rfl rfl) (gg rfl rfl (eFF h1494)) rfl <| Wo.og (o_fa (r := ptr b11 1) rfl (fa34_1 _ _)) (gg rfl rfl (eFF h1494)) rfl <| Wo.og (o_ld (k := 3) t32 rfl rfl rfl) (gg rfl rfl (eFF h1494)) rfl <| Wo.og (o_mv rfl) (gg rfl rfl (eFF h1494)) rfl ?_
        obtain ⟨h1495, hF⟩ := gd_some hF
        replace h1495 := inB_some h1495
        refine Wo.og (o_ixs s32 rfl rfl h1495) (gg rfl rfl (eFF h1494)) rfl <| Wo.og (o_ldr (k := 0) t43 rfl rfl (map_at h1491) rfl rfl) (gg rfl rfl (eFF h1494)) rfl ?_
        obtain ⟨r1524, h1525, hF⟩ := ob_some hF
        refine Wo.x (o_cs (α := Unit) (V := fun g => (fun (r : Bool × List (Int)) (g : Unit) => match r, g with | (v1509, l1510), _ => (.bool v1509 : Value)) r1524 g) (N := fun g => (fun (r : Bool × List (Int)) (g : Unit) => match r, g with | (v1509, l1510), _ => ([.ro b1343 o1344 1 l7.length (l7.map (eI .i64)), .rd (some ⟨b1343, o1344, none⟩) c9 1 l7.length (l7.map (eI .i64)), .obj b11 (.cells [.int .i64 x1, .slice (some ⟨b1487, o1488, none⟩) l2.length c4] .own), .ro b1487 o1488 2 l2.length (l2.map (eP (eI .i64) (eI .i64))), .rd (some ⟨b1487, o1488, none⟩) c4 2 l2.length (l2.map (eP (eI .i64) (eI .i64))), .obj b19 (.cells [.slice a770 l769.length l769.length] .own), .sl a770 1 l769.length (l1510.map (eI .i64))] : List Pc)) r1524 g) rfl rfl (fun m hm => ?_)) (gg rfl rfl (eFF h1494)) rfl ?_
        ·clear hF
         revert r1524
         intro r hF
         refine call_wk (N := 29) (rs := [.tmp 4]) rfl Tryz.func79 rfl rfl rfl hm <| Wk.seq <| Wk.region <| Wo.x (o_bx rfl) gn rfl fun b1511 => ?_
         refine Wo.x (o_bx rfl) gn rfl fun b1512 => ?_
         refine Wo.od (o_as rfl) rfl <| Wo.nil <| At.tn <| Wk.seq <| Wk.drawc (prs := [(4, 6), (4, 8)]) (by kernel_rfl) <| Wn.od (o_fa (r := ptr b1511 0) rfl (fa133_0 _ _)) rfl <| Wn.od (o_ld (k := 1) t131 rfl rfl rfl) rfl <| Wn.od (o_ia (r := ptr b1512 0) rfl rfl (ia_c ar43 (i := 0) (by decide))) rfl <| Wn.od (o_ld (k := 0) t3 rfl rfl rfl) rfl ?_
         obtain ⟨r1514, h1513, hF⟩ := ob_some hF
         have hFx := hF
         refine Wn.len (k := 8) (xs := (l769 : List (Int))) rfl ?_
         rintro rfl
         replace hF := hFx
         clear hFx
         refine Wn.c (o_ce rfl rfl (fun m hm => f109_ok n l769 x1489 a770 l769.length _ h1513 m (hm.rd (k := 8) rfl (.sl _ _ _ _))) fun _ => rfl) gn rfl ?_
         rintro ⟨⟩
         refine Wn.od (o_fa (r := ptr b1511 0) rfl (fa133_0 _ _)) rfl <| Wn.od (o_ld (k := 1) t131 rfl rfl rfl) rfl <| Wn.od (o_ia (r := ptr b1512 1) rfl rfl (ia_c ar43 (i := 1) (by decide))) rfl <| Wn.od (o_ld (k := 0) t3 rfl rfl rfl) rfl ?_
         obtain ⟨r1516, h1515, hF⟩ := ob_some hF
         refine Wn.c (o_ce rfl rfl (fun m hm => f109_ok n l769 x1490 a770 l769.length _ h1515 m (hm.rd (k := 8) rfl (.sl _ _ _ _))) fun _ => rfl) gn rfl ?_
         rintro ⟨⟩
         refine Wn.od (o_as rfl) rfl <| Wn.od (o_as rfl) rfl <| Wn.nil (fun m hm => OkP.all rfl) <| At.tn <| Wk.seq <| Wk.region <| Wo.od (o_fa (r := ptr b1511 0) rfl (fa133_0 _ _)) rfl <| Wo.od (o_ld (k := 1) t131 rfl rfl rfl) rfl <| Wo.od (o_mv rfl) rfl <| Wo.od (o_mv rfl) rfl <| Wo.od (o_bu rfl rfl (bu_ma _ _)) rfl <| Wo.od (o_mv rfl) rfl <| Wo.od (o_mv rfl) rfl ?_
         refine Wo.od (o_bu rfl rfl (bu_mi _ _)) rfl ?_
         obtain ⟨h1517, hF⟩ := gd_some hF
         replace h1517 := inB_some h1517
         refine Wo.open (k := 8) rfl (pos_of h1517) ?_
         rintro b1518 tg1519 rfl h1520
         refine Wo.og (o_ixa s131 rfl rfl h1517) gn rfl ?_
         obtain ⟨x1521, h1522, hF⟩ := ob_some hF
         refine Wo.o0 (o_stl (k := 8) (x1 := x1521) (x2 := mi r1514 r1516) t3 rfl rfl rfl h1522 rfl) <| Wo.nil <| At.tn <| Wk.seq <| Wk.region <| Wo.od (o_mv rfl) rfl <| Wo.od (o_mv rfl) rfl <| Wo.od (o_bi rfl rfl (ib_neq _ _)) rfl <| Wo.od (o_as rfl) rfl <| Wo.nil <| At.tn <| Wk.ret ?_
         cases hF
         exact At.ret (.tmp rfl .nil) fun m' hm => ⟨(), rfl, (Turn.trans (Turn.close (k := 8) rfl) (Turn.picks [3, 4, 5, 2, 6, 7, 8] rfl rfl)) m' hm⟩
        ·clear h1525
         obtain ⟨v1509, l1510⟩ := r1524
         rintro ⟨⟩
         refine Wo.og (o_un rfl rfl) (gg rfl rfl (eFF h1494)) rfl <| Wo.od (o_pf rfl h1494 rfl) rfl <| Wo.nil ?_
         cases hF
         exact At.en a770 rfl (sc rfl (sc rfl (sc rfl (sc rfl (sc rfl (sc rfl (sc rfl (sc rfl (sc rfl sn))))))))) (Turn.picks [0, 1, 2, 4, 5, 6] rfl rfl)
    ·clear h1526
     obtain ⟨l1480, n1482, v1483⟩ := r1527
     rintro a1481
     refine At.tn ?_
     rcases br_some hF with ⟨h1528, hF⟩ | ⟨h1528, hF⟩
     ·refine Wk.condT rfl h1528 <| Wk.seq <| Wk.region <| Wo.od (o_as rfl) rfl <| Wo.nil <| At.tn <| Wk.ret <| At.tr <| At.br <| At.tr ?_
      cases hF
      exact At.en () rfl (sc rfl sn) (Turn.picks [] rfl rfl)
     ·refine Wk.condF rfl h1528 <| Wk.skip <| At.tn <| Wk.region <| Wo.od (o_mv rfl) rfl <| Wo.od (o_as rfl) rfl <| Wo.nil <| At.bn <| At.tn <| Wk.region <| Wo.od (o_bi rfl rfl (bin_add _ _ _)) rfl <| Wo.od (o_mv rfl) rfl <| Wo.nil ?_
      cases hF
      exact At.en a1481 rfl (sc rfl (sc rfl (sc rfl (sc rfl (sc rfl (sc rfl (sc rfl (sc rfl sn)))))))) (Turn.picks [1, 2, 3, 4, 5] rfl rfl)
   ·refine Wk.condF rfl h1154 <| Wk.exit <| At.te ?_
    cases hF
    exact At.en () rfl (sc rfl (sc rfl sn)) (Turn.picks [0] rfl rfl)
  ·clear h1529
   rcases r1530 with _ | _
   ·rintro ⟨⟩
    refine At.br <| At.tr ?_
    cases hF
    exact At.ret (.tmp rfl .nil) fun m' hm => ⟨(), rfl, (Turn.picks [] rfl rfl) m' hm⟩
   ·rintro ⟨⟩
    refine At.be <| At.tn <| Wk.seq <| Wk.seq <| Wk.region <| Wo.od (o_mv rfl) rfl <| Wo.od (o_ln (k := 0) u49 rfl rfl (.inl rfl)) rfl <| Wo.od (o_mv rfl) rfl ?_
    obtain ⟨r1532, h1531, hF⟩ := ob_some hF
    refine Wo.x (o_cl rfl rfl (fun m hm => f43_ok n x6  _ h1531 m ) fun _ => rfl) gn rfl ?_
    rintro ⟨⟩
    refine Wo.od (o_bi rfl rfl (bin_sub _ _ _)) rfl <| Wo.od (o_bi rfl rfl (ib_neq _ _)) rfl <| Wo.nil <| At.tn ?_
    rcases br_some hF with ⟨h1533, hF⟩ | ⟨h1533, hF⟩
    ·refine Wk.condT rfl h1533 <| Wk.seq <| Wk.region <| Wo.od (o_as rfl) rfl <| Wo.nil <| At.tn <| Wk.ret <| At.tr ?_
     cases hF
     exact At.ret (.tmp rfl .nil) fun m' hm => ⟨(), rfl, (Turn.picks [] rfl rfl) m' hm⟩
    ·refine Wk.condF rfl h1533 <| Wk.skip <| At.tn <| Wk.seq <| Wk.region <| Wo.od (o_as rfl) rfl <| Wo.nil <| At.tn <| Wk.ret ?_
     cases hF
     exact At.ret (.tmp rfl .nil) fun m' hm => ⟨(), rfl, (Turn.picks [] rfl rfl) m' hm⟩
theorem f129_ok (n : Nat) (l1 : List (Int)) (x5 : Int) (a2 : Option Addr) (c3 : Nat) (r : Int) (hF : F129 n l1 x5 = some r) (m : AMem) (h4 : Rd m a2 c3 1 l1.length (l1.map (eI .i64))) :
  CallA E30w 129 [.slice a2 l1.length c3, .int .i64 x5] m (fun v m' => ∃ x : Unit, v = .int .i64 r ∧ Hp m m' []) := by
 unfold F129 at hF
 refine call_wk (m0 := m) (ps := [.rd a2 c3 1 l1.length (l1.map (eI .i64))]) (N := 19) (rs := [.tmp 4]) rfl Tryz.func129 rfl rfl rfl ((Hp.start m).inn rfl h4) <| Wk.seq <| Wk.region <| Wo.od (o_as rfl) rfl <| Wo.nil <| At.tn <| Wk.seq <| Wk.seq <| Wk.region <| Wo.od (o_mv rfl) rfl <| Wo.od (o_ln (k := 0) u49 rfl rfl (.inl rfl)) rfl <| Wo.od (o_mv rfl) rfl <| Wo.nil <| At.tn <| Wk.block ?_
 obtain ⟨r25, h24, hF⟩ := ob_some hF
 refine Wk.cut (G := (fun (r : (Int) ⊕ (Unit)) (g : Unit) => match r, g with | .inl v16, _ => ⟨.ret, [(4, .int .i64 v16)], []⟩ | .inr _, _ => ⟨(.exit 0), [], []⟩) r25) ?_ ?_
 ·refine Wk.weak (fs' := [(0, .slice a2 l1.length c3), (1, .int .i64 x5), (7, .int .i64 (l1.length : Int)), (8, .int .i64 0)]) (ps' := [.rd a2 c3 1 l1.length (l1.map (eI .i64))]) (sc rfl (sc rfl (sc rfl (sc rfl sn)))) (Turn.picks [0] rfl rfl) ?_
  refine Wk.loop (σ := Int) (ρ := (Int) ⊕ (Unit)) (γ := Unit) (δ := fun _ => Unit) _ (fun (s : Int) (g : Unit) => match s, g with | v7, _ => ⟨.normal, [(0, .slice a2 l1.length c3), (1, .int .i64 x5), (7, .int .i64 (l1.length : Int)), (8, .int .i64 v7)], [.rd a2 c3 1 l1.length (l1.map (eI .i64))]⟩) (fun (r : (Int) ⊕ (Unit)) (g : Unit) => match r, g with | .inl v16, _ => ⟨.ret, [(4, .int .i64 v16)], []⟩ | .inr _, _ => ⟨(.exit 0), [], []⟩) ?_ (fun _ _ => rfl) (fun r d => by rcases r with _ | _ <;> (intro e; cases e)) _ _ _ h24 ()
  clear hF h24
  rintro v7 ⟨⟩ r hF
  unfold L129_1 at hF
  refine Wk.seq <| Wk.region <| Wo.od (o_bi rfl rfl (bin_lss _ _ _)) rfl <| Wo.nil <| At.tn <| Wk.seq ?_
  rcases br_some hF with ⟨h17, hF⟩ | ⟨h17, hF⟩
  ·refine Wk.condT rfl h17 <| Wk.skip <| At.tn <| Wk.seq <| Wk.block <| Wk.seq <| Wk.region <| Wo.od (o_mv rfl) rfl <| Wo.od (o_as rfl) rfl <| Wo.nil <| At.tn <| Wk.seq <| Wk.region <| Wo.od (o_mv rfl) rfl <| Wo.od (o_mv rfl) rfl <| Wo.od (o_mv rfl) rfl ?_
   obtain ⟨h18, hF⟩ := gd_some hF
   replace h18 := inB_some h18
   refine Wo.openr (k := 0) rfl (pos_of h18) ?_
   rintro b19 o20 rfl
   refine Wo.og (o_ixs s49 rfl rfl h18) gn rfl ?_
   obtain ⟨x21, h22, hF⟩ := ob_some hF
   refine Wo.od (o_ldr (k := 0) t3 rfl rfl (map_at h22) rfl rfl) rfl <| Wo.od (o_bi rfl rfl (bin_eql _ _ _)) rfl <| Wo.nil <| At.tn ?_
   rcases br_some hF with ⟨h23, hF⟩ | ⟨h23, hF⟩
   ·refine Wk.condT rfl h23 <| Wk.seq <| Wk.region <| Wo.od (o_mv rfl) rfl <| Wo.od (o_as rfl) rfl <| Wo.nil <| At.tn <| Wk.ret <| At.br <| At.tr ?_
    cases hF
    exact At.en () rfl (sc rfl sn) (Turn.picks [] rfl rfl)
   ·refine Wk.condF rfl h23 <| Wk.skip <| At.bn <| At.tn <| Wk.region <| Wo.od (o_bi rfl rfl (bin_add _ _ _)) rfl <| Wo.od (o_mv rfl) rfl <| Wo.nil ?_
    cases hF
    exact At.en () rfl (sc rfl (sc rfl (sc rfl (sc rfl sn)))) (Turn.picks [1] rfl rfl)
  ·refine Wk.condF rfl h17 <| Wk.exit <| At.te ?_
   cases hF
   exact At.en () rfl sn (Turn.picks [] rfl rfl)
 ·clear h24
  rcases r25 with v16 | _
  ·rintro ⟨⟩
   refine At.br <| At.tr ?_
   have hr := Option.some.inj hF
   subst r
   exact At.ret (.tmp rfl .nil) fun m' hm => ⟨(), rfl, (Turn.picks [] rfl rfl) m' hm⟩
  ·rintro ⟨⟩
   refine At.be <| At.tn <| Wk.seq <| Wk.region <| Wo.od (o_as rfl) rfl <| Wo.nil <| At.tn <| Wk.ret ?_
   cases hF
   exact At.ret (.tmp rfl .nil) fun m' hm => ⟨(), rfl, (Turn.picks [] rfl rfl) m' hm⟩
theorem f75_ok (n : Nat) (l1 : List (Int)) (x5 : Int) (a2 : Option Addr) (c3 : Nat) (r : Bool) (hF : F75 n l1 x5 = some r) (m : AMem) (h4 : Rd m a2 c3 1 l1.length (l1.map (eI .i64))) :
  CallA E30w 75 [.slice a2 l1.length c3, .int .i64 x5] m (fun v m' => ∃ x : Unit, v = .bool r ∧ Hp m m' []) := by
 unfold F75 at hF
 refine call_wk (m0 := m) (ps := [.rd a2 c3 1 l1.length (l1.map (eI .i64))]) (N := 9) (rs := [.tmp 4]) rfl Tryz.func75 rfl rfl rfl ((Hp.start m).inn rfl h4) <| Wk.seq <| Wk.region <| Wo.od (o_as rfl) rfl <| Wo.nil <| At.tn <| Wk.seq <| Wk.region <| Wo.od (o_mv rfl) rfl <| Wo.od (o_mv rfl) rfl ?_
 obtain ⟨r7, h6, hF⟩ := ob_some hF
 refine Wo.x (o_cl rfl rfl (fun m hm => f129_ok n l1 x5 a2 c3 _ h6 m (hm.rd (k := 0) rfl (.rd _ _ _ _ _))) fun _ => rfl) gn rfl ?_
 rintro ⟨⟩
 refine Wo.od (o_bi rfl rfl (bin_geq _ _ _)) rfl <| Wo.od (o_as rfl) rfl <| Wo.nil <| At.tn <| Wk.ret ?_
 cases hF
 exact At.ret (.tmp rfl .nil) fun m' hm => ⟨(), rfl, (Turn.picks [] rfl rfl) m' hm⟩
theorem f81_ok (n : Nat) (x1 : Int) (l2 : List (Int × Int)) (l6 : List (Int)) (x10 : Int) (x11 : Int) (a3 : Option Addr) (c4 : Nat) (a7 : Option Addr) (c8 : Nat) (r : Nat) (hF : F81 n x1 l2 l6 x10 x11 = some r) (m : AMem) (h5 : Rd m a3 c4 2 l2.length (l2.map (eP (eI .i64) (eI .i64)))) (h9 : Rd m a7 c8 1 l6.length (l6.map (eI .i64))) :
  CallA E30w 81 [.agg #[.int .i64 x1, .slice a3 l2.length c4], .slice a7 l6.length c8, .int .i64 x10, .int .i64 x11] m (fun v m' => ∃ x : Unit, v = .int .u64 ((r : Nat) : Int) ∧ Hp m m' []) := by
 unfold F81 at hF
 refine call_wk (m0 := m) (ps := [.rd a7 c8 1 l6.length (l6.map (eI .i64)), .rd a3 c4 2 l2.length (l2.map (eP (eI .i64) (eI .i64)))]) (N := 59) (rs := [.tmp 8]) rfl Tryz.func81 rfl rfl rfl (((Hp.start m).inn rfl h5).inn rfl h9) <| Wk.seq <| Wk.region <| Wo.x (o_bx rfl) gn rfl fun b12 => ?_
 refine Wo.od (o_as rfl) rfl <| Wo.nil <| At.tn <| Wk.seq <| Wk.region <| Wo.od (o_mv rfl) rfl ?_
 obtain ⟨h13, hF⟩ := gd_some hF
 refine Wo.od (o_bi rfl rfl (ub_shl rfl _ _ h13)) rfl <| Wo.od (o_as rfl) rfl <| Wo.nil <| At.tn <| Wk.seq <| Wk.seq <| Wk.region <| Wo.od (o_as rfl) rfl <| Wo.nil <| At.tn <| Wk.block ?_
 obtain ⟨v140, h261, hF⟩ := ob_some hF
 refine Wk.cut (G := (fun (r : Nat) (g : Unit) => match r, g with | v140, _ => ⟨(.exit 0), [(9, .int .u64 ((v140 : Nat) : Int))], []⟩) v140) ?_ ?_
 ·refine Wk.weak (fs' := [(1, .slice a7 l6.length c8), (2, .int .i64 x10), (4, ptr b12 0), (9, .int .u64 (((ushl .u64 1 x11.toNat) : Nat) : Int)), (10, .bool true)]) (ps' := [.rd a7 c8 1 l6.length (l6.map (eI .i64)), .obj b12 (.cells [.int .i64 x1, .slice a3 l2.length c4] .own), .rd a3 c4 2 l2.length (l2.map (eP (eI .i64) (eI .i64)))]) (sc rfl (sc rfl (sc rfl (sc rfl (sc rfl sn))))) (Turn.picks [1, 0, 2] rfl rfl) ?_
  refine Wk.loop (σ := Nat × Bool) (ρ := Nat) (γ := Unit) (δ := fun _ => Unit) _ (fun (s : Nat × Bool) (g : Unit) => match s, g with | (v16, v17), _ => ⟨.normal, [(1, .slice a7 l6.length c8), (2, .int .i64 x10), (4, ptr b12 0), (9, .int .u64 ((v16 : Nat) : Int)), (10, .bool v17)], [.rd a7 c8 1 l6.length (l6.map (eI .i64)), .obj b12 (.cells [.int .i64 x1, .slice a3 l2.length c4] .own), .rd a3 c4 2 l2.length (l2.map (eP (eI .i64) (eI .i64)))]⟩) (fun (r : Nat) (g : Unit) => match r, g with | v140, _ => ⟨(.exit 0), [(9, .int .u64 ((v140 : Nat) : Int))], []⟩) ?_ (fun _ _ => rfl) (fun r d => by intro e; cases e) _ _ _ h261 ()
  clear hF h261
  rintro ⟨v16, v17⟩ ⟨⟩ r hF
  unfold L81_2 at hF
  refine Wk.seq <| Wk.seq <| Wk.region <| Wo.od (o_mv rfl) rfl <| Wo.nil <| At.tn ?_
  rcases br_some hF with ⟨h141, hF⟩ | ⟨h141, hF⟩
  ·refine Wk.condT rfl h141 <| Wk.skip <| At.tn <| Wk.block <| Wk.seq <| Wk.region <| Wo.od (o_as rfl) rfl <| Wo.nil <| At.tn <| Wk.seq <| Wk.region <| Wo.od (o_mv rfl) rfl <| Wo.od (o_ln (k := 0) u49 rfl rfl (.inl rfl)) rfl <| Wo.od (o_mv rfl) rfl <| Wo.nil <| At.tn <| Wk.block ?_
   obtain ⟨r260, h259, hF⟩ := ob_some hF
   refine Wk.cut (G := (fun (r : Nat × Bool) (g : Unit) => match r, g with | (v204, v205), _ => ⟨(.exit 2), [(1, .slice a7 l6.length c8), (2, .int .i64 x10), (4, ptr b12 0), (9, .int .u64 ((v204 : Nat) : Int)), (10, .bool v205)], [.rd a7 c8 1 l6.length (l6.map (eI .i64)), .obj b12 (.cells [.int .i64 x1, .slice a3 l2.length c4] .own), .rd a3 c4 2 l2.length (l2.map (eP (eI .i64) (eI .i64)))]⟩) r260) ?_ ?_
   ·refine Wk.weak (fs' := [(1, .slice a7 l6.length c8), (2, .int .i64 x10), (4, ptr b12 0), (9, .int .u64 ((v16 : Nat) : Int)), (10, .bool false), (17, .slice a7 l6.length c8), (18, .int .i64 (l6.length : Int)), (19, .int .i64 0)]) (ps' := [.rd a7 c8 1 l6.length (l6.map (eI .i64)), .obj b12 (.cells [.int .i64 x1, .slice a3 l2.length c4] .own), .rd a3 c4 2 l2.length (l2.map (eP (eI .i64) (eI .i64)))]) (sc rfl (sc rfl (sc rfl (sc rfl (sc rfl (sc rfl (sc rfl (sc rfl sn)))))))) (Turn.picks [0, 1, 2] rfl rfl) ?_
    refine Wk.loop (σ := Nat × Bool × Int) (ρ := Nat × Bool) (γ := Unit) (δ := fun _ => Unit) _ (fun (s : Nat × Bool × Int) (g : Unit) => match s, g with | (v145, v146, v147), _ => ⟨.normal, [(1, .slice a7 l6.length c8), (2, .int .i64 x10), (4, ptr b12 0), (9, .int .u64 ((v145 : Nat) : Int)), (10, .bool v146), (17, .slice a7 l6.length c8), (18, .int .i64 (l6.length : Int)), (19, .int .i64 v147)], [.rd a7 c8 1 l6.length (l6.map (eI .i64)), .obj b12 (.cells [.int .i64 x1, .slice a3 l2.length c4] .own), .rd a3 c4 2 l2.length (l2.map (eP (eI .i64) (eI .i64)))]⟩) (fun (r : Nat × Bool) (g : Unit) => match r, g with | (v204, v205), _ => ⟨(.exit 2), [(1, .slice a7 l6.length c8), (2, .int .i64 x10), (4, ptr b12 0), (9, .int .u64 ((v204 : Nat) : Int)), (10, .bool v205)], [.rd a7 c8 1 l6.length (l6.map (eI .i64)), .obj b12 (.cells [.int .i64 x1, .slice a3 l2.length c4] .own), .rd a3 c4 2 l2.length (l2.map (eP (eI .i64) (eI .i64)))]⟩) ?_ (fun _ _ => rfl) (fun r d => by intro e; cases e) _ _ _ h259 ()
    clear hF h259
    rintro ⟨v145, v146, v147⟩ ⟨⟩ r hF
    unfold L81_1 at hF
    refine Wk.seq <| Wk.region <| Wo.od (o_bi rfl rfl (bin_lss _ _ _)) rfl <| Wo.nil <| At.tn <| Wk.seq ?_
    rcases br_some hF with ⟨h206, hF⟩ | ⟨h206, hF⟩
    ·refine Wk.condT rfl h206 <| Wk.skip <| At.tn <| Wk.seq ?_
     obtain ⟨r258, h257, hF⟩ := ob_some hF
     refine Wk.cut (G := (fun (r : Nat × Bool) (g : Unit) => match r, g with | (v231, v232), _ => ⟨.normal, [(1, .slice a7 l6.length c8), (2, .int .i64 x10), (4, ptr b12 0), (9, .int .u64 ((v231 : Nat) : Int)), (10, .bool v232), (17, .slice a7 l6.length c8), (18, .int .i64 (l6.length : Int)), (19, .int .i64 v147)], [.rd a7 c8 1 l6.length (l6.map (eI .i64)), .obj b12 (.cells [.int .i64 x1, .slice a3 l2.length c4] .own), .rd a3 c4 2 l2.length (l2.map (eP (eI .i64) (eI .i64)))]⟩) r258) ?_ ?_
     ·clear hF
      revert r258
      intro r hF
      refine Wk.block <| Wk.seq <| Wk.region ?_
      obtain ⟨h233, hF⟩ := gd_some hF
      replace h233 := inB_some h233
      refine Wo.openr (k := 0) rfl (pos_of h233) ?_
      rintro b234 o235 rfl
      refine Wo.og (o_ixs s49 rfl rfl h233) gn rfl ?_
      obtain ⟨x236, h237, hF⟩ := ob_some hF
      refine Wo.od (o_ldr (k := 0) t3 rfl rfl (map_at h237) rfl rfl) rfl <| Wo.od (o_as rfl) rfl <| Wo.nil <| At.tn <| Wk.seq <| Wk.draw (by kernel_rfl) <| Wo.od (o_fa (r := ptr b12 1) rfl (fa34_1 _ _)) rfl <| Wo.od (o_ld (k := 2) t32 rfl rfl rfl) rfl <| Wo.od (o_mv rfl) rfl ?_
      obtain ⟨h238, hF⟩ := gd_some hF
      replace h238 := inB_some h238
      refine Wo.openr (k := 3) rfl (pos_of h238) ?_
      rintro b239 o240 rfl
      refine Wo.og (o_ixs s32 rfl rfl h238) gn rfl <| Wo.od (o_ia (r := ptr b239 (o240 + x236.toNat * 2 + 0)) rfl rfl (ia_c ar43 (i := 0) (by decide))) rfl ?_
      obtain ⟨⟨x241, x242⟩, h243, hF⟩ := ob_some hF
      refine Wo.od (o_ldr (k := 0) t3 rfl rfl (map_at h243) rfl rfl) rfl ?_
      obtain ⟨h244, hF⟩ := gd_some hF
      refine Wo.od (o_bi rfl rfl (ub_shl rfl _ _ h244)) rfl <| Wo.od (o_fa (r := ptr b12 1) rfl (fa34_1 _ _)) rfl <| Wo.od (o_ld (k := 3) t32 rfl rfl rfl) rfl <| Wo.od (o_mv rfl) rfl ?_
      obtain ⟨h245, hF⟩ := gd_some hF
      replace h245 := inB_some h245
      refine Wo.og (o_ixs s32 rfl rfl h245) gn rfl <| Wo.od (o_ia (r := ptr b239 (o240 + x236.toNat * 2 + 1)) rfl rfl (ia_c ar43 (i := 1) (by decide))) rfl <| Wo.od (o_ldr (k := 0) t3 rfl rfl (map_at h243) rfl rfl) rfl ?_
      obtain ⟨h246, hF⟩ := gd_some hF
      refine Wo.od (o_bi rfl rfl (ub_shl rfl _ _ h246)) rfl ?_
      obtain ⟨y247, h248, hF⟩ := ob_some hF
      refine Wo.od (o_bi rfl rfl ((ub_or rfl _ _).trans (cN h248))) rfl <| Wo.od (o_as rfl) rfl <| Wo.nil <| At.tn <| Wk.seq ?_
      obtain ⟨v251, h254, hF⟩ := ob_some hF
      refine Wk.cut (G := (fun (r : Bool) (g : Unit) => match r, g with | v251, _ => ⟨.normal, [(1, .slice (some ⟨b234, o235, none⟩) l6.length c8), (2, .int .i64 x10), (4, ptr b12 0), (9, .int .u64 ((v145 : Nat) : Int)), (10, .bool v146), (13, .int .u64 ((y247 : Nat) : Int)), (17, .slice (some ⟨b234, o235, none⟩) l6.length c8), (18, .int .i64 (l6.length : Int)), (19, .int .i64 v147), (53, .bool v251)], [.ro b234 o235 1 l6.length (l6.map (eI .i64)), .rd (some ⟨b234, o235, none⟩) c8 1 l6.length (l6.map (eI .i64)), .obj b12 (.cells [.int .i64 x1, .slice (some ⟨b239, o240, none⟩) l2.length c4] .own), .ro b239 o240 2 l2.length (l2.map (eP (eI .i64) (eI .i64))), .rd (some ⟨b239, o240, none⟩) c4 2 l2.length (l2.map (eP (eI .i64) (eI .i64)))]⟩) v251) ?_ ?_
      ·clear hF
       revert v251
       intro r hF
       refine Wk.region <| Wo.od (o_mv rfl) rfl <| Wo.od (o_mv rfl) rfl <| Wo.od (o_bi rfl rfl (ib_neq _ _)) rfl <| Wo.od (o_mv rfl) rfl ?_
       rcases br_some hF with ⟨h252, hF⟩ | ⟨h252, hF⟩
       ·refine Wo.og (o_mv rfl) (gg rfl rfl (eTT h252)) rfl <| Wo.og (o_mv rfl) (gg rfl rfl (eTT h252)) rfl <| Wo.og (o_bi rfl rfl (ub_and rfl _ _)) (gg rfl rfl (eTT h252)) rfl <| Wo.og (o_bi rfl rfl (ub_neq _ _)) (gg rfl rfl (eTT h252)) rfl <| Wo.od (o_pt rfl h252 rfl) rfl <| Wo.od (o_mv rfl) rfl ?_
        rcases br_some hF with ⟨h253, hF⟩ | ⟨h253, hF⟩
        ·refine Wo.og (o_mv rfl) (gg rfl rfl (eTT h253)) rfl <| Wo.og (o_mv rfl) (gg rfl rfl (eTT h253)) rfl <| Wo.og (o_bi rfl rfl (ub_and rfl _ _)) (gg rfl rfl (eTT h253)) rfl <| Wo.og (o_mv rfl) (gg rfl rfl (eTT h253)) rfl <| Wo.og (o_bi rfl rfl (ub_neq _ _)) (gg rfl rfl (eTT h253)) rfl <| Wo.od (o_pt rfl h253 rfl) rfl <| Wo.nil ?_
         cases hF
         exact At.en () rfl (sc rfl (sc rfl (sc rfl (sc rfl (sc rfl (sc rfl (sc rfl (sc rfl (sc rfl (sc rfl sn)))))))))) (Turn.picks [1, 2, 3, 0, 4] rfl rfl)
        ·refine Wo.s (gg rfl rfl (eFT h253)) rfl <| Wo.s (gg rfl rfl (eFT h253)) rfl <| Wo.s (gg rfl rfl (eFT h253)) rfl <| Wo.s (gg rfl rfl (eFT h253)) rfl <| Wo.s (gg rfl rfl (eFT h253)) rfl <| Wo.od (o_pf rfl h253 rfl) rfl <| Wo.nil ?_
         cases hF
         exact At.en () rfl (sc rfl (sc rfl (sc rfl (sc rfl (sc rfl (sc rfl (sc rfl (sc rfl (sc rfl (sc rfl sn)))))))))) (Turn.picks [1, 2, 3, 0, 4] rfl rfl)
       ·refine Wo.s (gg rfl rfl (eFT h252)) rfl <| Wo.s (gg rfl rfl (eFT h252)) rfl <| Wo.s (gg rfl rfl (eFT h252)) rfl <| Wo.s (gg rfl rfl (eFT h252)) rfl <| Wo.od (o_pf rfl h252 rfl) rfl <| Wo.od (o_mv rfl) rfl <| Wo.s (gg rfl rfl rfl) rfl <| Wo.s (gg rfl rfl rfl) rfl <| Wo.s (gg rfl rfl rfl) rfl <| Wo.s (gg rfl rfl rfl) rfl ?_
        refine Wo.s (gg rfl rfl rfl) rfl <| Wo.od (o_pF rfl rfl) rfl <| Wo.nil ?_
        cases hF
        exact At.en () rfl (sc rfl (sc rfl (sc rfl (sc rfl (sc rfl (sc rfl (sc rfl (sc rfl (sc rfl (sc rfl sn)))))))))) (Turn.picks [1, 2, 3, 0, 4] rfl rfl)
      ·clear h254
       rintro ⟨⟩
       refine At.tn ?_
       rcases br_some hF with ⟨h256, hF⟩ | ⟨h256, hF⟩
       ·refine Wk.condT rfl h256 <| Wk.seq <| Wk.region <| Wo.od (o_mv rfl) rfl <| Wo.od (o_mv rfl) rfl <| Wo.od (o_bi rfl rfl (ub_or rfl _ _)) rfl <| Wo.od (o_as rfl) rfl <| Wo.nil <| At.tn <| Wk.region <| Wo.od (o_as rfl) rfl <| Wo.nil <| At.bn ?_
        cases hF
        exact At.en () rfl (sc rfl (sc rfl (sc rfl (sc rfl (sc rfl (sc rfl (sc rfl (sc rfl sn)))))))) (Turn.picks [1, 2, 4] rfl rfl)
       ·refine Wk.condF rfl h256 <| Wk.skip <| At.bn ?_
        cases hF
        exact At.en () rfl (sc rfl (sc rfl (sc rfl (sc rfl (sc rfl (sc rfl (sc rfl (sc rfl sn)))))))) (Turn.picks [1, 2, 4] rfl rfl)
     ·clear h257
      obtain ⟨v231, v232⟩ := r258
      rintro ⟨⟩
      refine At.tn <| Wk.region <| Wo.od (o_bi rfl rfl (bin_add _ _ _)) rfl <| Wo.od (o_mv rfl) rfl <| Wo.nil ?_
      cases hF
      exact At.en () rfl (sc rfl (sc rfl (sc rfl (sc rfl (sc rfl (sc rfl (sc rfl (sc rfl sn)))))))) (Turn.picks [0, 1, 2] rfl rfl)
    ·refine Wk.condF rfl h206 <| Wk.exit <| At.te ?_
     cases hF
     exact At.en () rfl (sc rfl (sc rfl (sc rfl (sc rfl (sc rfl sn))))) (Turn.picks [0, 1, 2] rfl rfl)
   ·clear h259
    obtain ⟨v204, v205⟩ := r260
    rintro ⟨⟩
    refine At.be <| At.bn ?_
    cases hF
    exact At.en () rfl (sc rfl (sc rfl (sc rfl (sc rfl (sc rfl sn))))) (Turn.picks [0, 1, 2] rfl rfl)
  ·refine Wk.condF rfl h141 <| Wk.exit <| At.te ?_
   cases hF
   exact At.en () rfl (sc rfl sn) (Turn.picks [] rfl rfl)
 ·clear h261
  rintro ⟨⟩
  refine At.be <| At.tn <| Wk.seq <| Wk.region <| Wo.od (o_mv rfl) rfl <| Wo.od (o_as rfl) rfl <| Wo.nil <| At.tn <| Wk.ret ?_
  have hr := Option.some.inj hF
  subst r
  exact At.ret (.tmp rfl .nil) fun m' hm => ⟨(), rfl, (Turn.picks [] rfl rfl) m' hm⟩
theorem f24_ok (n : Nat) (x1 : Int) (l2 : List (Int × Int)) (x6 : Nat) (l7 : List (Int)) (x11 : Int) (a3 : Option Addr) (c4 : Nat) (a8 : Option Addr) (c9 : Nat) (r : Nat × Nat × Int) (hF : F24 n x1 l2 x6 l7 x11 = some r) (m : AMem) (hG : Gl m) (h5 : Rd m a3 c4 2 l2.length (l2.map (eP (eI .i64) (eI .i64)))) (h10 : Rd m a8 c9 1 l7.length (l7.map (eI .i64))) :
  CallA E30w 24 [.agg #[.int .i64 x1, .slice a3 l2.length c4], .int .u64 ((x6 : Nat) : Int), .slice a8 l7.length c9, .int .i64 x11] m (fun v m' => ∃ x : Unit, v = .tuple #[.int .u64 ((r.1 : Nat) : Int), .int .u64 ((r.2.1 : Nat) : Int), .int .i64 r.2.2] ∧ Hp m m' []) := by
 unfold F24 at hF
 refine call_wk (m0 := m) (ps := [.rd a8 c9 1 l7.length (l7.map (eI .i64)), .rd a3 c4 2 l2.length (l2.map (eP (eI .i64) (eI .i64)))]) (N := 33) (rs := [.tmp 8, .tmp 9, .tmp 10]) rfl Tryz.func24 rfl rfl rfl (((Hp.start m).inn rfl h5).inn rfl h10) <| Wk.seq <| Wk.region <| Wo.x (o_bx rfl) gn rfl fun b12 => ?_
 refine Wo.od (o_as rfl) rfl <| Wo.od (o_as rfl) rfl <| Wo.od (o_as rfl) rfl <| Wo.nil <| At.tn <| Wk.seq <| Wk.seq <| Wk.region <| Wo.od (o_ld (k := 0) t34 rfl rfl rfl) rfl <| Wo.od (o_mv rfl) rfl <| Wo.od (o_mv rfl) rfl ?_
 obtain ⟨r14, h13, hF⟩ := ob_some hF
 refine Wo.x (o_cl rfl rfl (fun m hm => f22_ok n x1 l2 x6 l7 a3 c4 a8 c9 _ h13 m (hm.rd (k := 2) rfl (.rd _ _ _ _ _)) (hm.rd (k := 1) rfl (.rd _ _ _ _ _))) fun _ => rfl) gn rfl ?_
 rintro ⟨⟩
 refine Wo.od (o_as rfl) rfl <| Wo.nil <| At.tn <| Wk.seq <| Wk.region <| Wo.od (o_mv rfl) rfl <| Wo.od (o_bi rfl rfl (ib_neq _ _)) rfl <| Wo.nil <| At.tn ?_
 rcases br_some hF with ⟨h15, hF⟩ | ⟨h15, hF⟩
 ·refine Wk.condT rfl h15 <| Wk.seq <| Wk.region <| Wo.od (o_mv rfl) rfl <| Wo.od (o_as rfl) rfl <| Wo.od (o_as rfl) rfl <| Wo.od (o_as rfl) rfl <| Wo.nil <| At.tn <| Wk.ret <| At.tr ?_
  cases hF
  exact At.ret (.tmp rfl (.tmp rfl (.tmp rfl .nil))) fun m' hm => ⟨(), rfl, (Turn.picks [] rfl rfl) m' hm⟩
 ·refine Wk.condF rfl h15 <| Wk.skip <| At.tn <| Wk.seq <| Wk.seq <| Wk.region <| Wo.od (o_mv rfl) rfl <| Wo.od (o_mv rfl) rfl ?_
  obtain ⟨r17, h16, hF⟩ := ob_some hF
  refine Wo.x (o_cl rfl rfl (fun m hm => f75_ok n l7 x11 a8 c9 _ h16 m (hm.rd (k := 1) rfl (.rd _ _ _ _ _))) fun _ => rfl) gn rfl ?_
  rintro ⟨⟩
  refine Wo.od (o_un rfl rfl) rfl <| Wo.nil <| At.tn ?_
  rcases br_some hF with ⟨h18, hF⟩ | ⟨h18, hF⟩
  ·refine Wk.condT rfl h18 <| Wk.seq <| Wk.region <| Wo.od (o_as rfl) rfl <| Wo.od (o_as rfl) rfl <| Wo.od (o_as rfl) rfl <| Wo.nil <| At.tn <| Wk.ret <| At.tr ?_
   cases hF
   exact At.ret (.tmp rfl (.tmp rfl (.tmp rfl .nil))) fun m' hm => ⟨(), rfl, (Turn.picks [] rfl rfl) m' hm⟩
  ·refine Wk.condF rfl h18 <| Wk.skip <| At.tn <| Wk.seq <| Wk.drawc (prs := [(0, 4)]) (by kernel_rfl) <| Wn.od (o_ld (k := 0) t34 rfl rfl rfl) rfl <| Wn.od (o_mv rfl) rfl <| Wn.od (o_mv rfl) rfl <| Wn.od (o_mv rfl) rfl ?_
   obtain ⟨r20, h19, hF⟩ := ob_some hF
   refine Wn.c (o_ce rfl rfl (fun m hm => f82_ok n x6  _ h19 m (hG.ext hm.ext) ) fun _ => rfl) gn rfl ?_
   rintro ⟨⟩
   obtain ⟨r22, h21, hF⟩ := ob_some hF
   refine Wn.c (o_ce rfl rfl (fun m hm => f81_ok n x1 l2 l7 x11 r20 a3 c4 a8 c9 _ h21 m (hm.rd (k := 2) rfl (.rd _ _ _ _ _)) (hm.rd (k := 1) rfl (.rd _ _ _ _ _))) fun _ => rfl) gn rfl ?_
   rintro ⟨⟩
   refine Wn.od (o_as rfl) rfl <| Wn.nil (fun m hm => OkP.all rfl) <| At.tn <| Wk.seq <| Wk.region <| Wo.od (o_mv rfl) rfl <| Wo.od (o_mv rfl) rfl <| Wo.od (o_mv rfl) rfl <| Wo.od (o_bi rfl rfl (ub_andn rfl _ _)) rfl <| Wo.od (o_as rfl) rfl <| Wo.od (o_as rfl) rfl <| Wo.od (o_as rfl) rfl <| Wo.nil <| At.tn <| Wk.ret ?_
   cases hF
   exact At.ret (.tmp rfl (.tmp rfl (.tmp rfl .nil))) fun m' hm => ⟨(), rfl, (Turn.picks [] rfl rfl) m' hm⟩
theorem f85_ok (n : Nat) (x1 : Nat)  (r : Int) (hF : F85 n x1 = some r) (m : AMem)  :
  CallA E30w 85 [.int .u64 ((x1 : Nat) : Int)] m (fun v m' => ∃ x : Unit, v = .int .i64 r ∧ Hp m m' []) := by
 unfold F85 at hF
 refine call_wk (m0 := m) (ps := []) (N := 11) (rs := [.tmp 2]) rfl Tryz.func85 rfl rfl rfl (Hp.start m) <| Wk.seq <| Wk.region <| Wo.od (o_as rfl) rfl <| Wo.nil <| At.tn <| Wk.seq <| Wk.region <| Wo.od (o_as rfl) rfl <| Wo.nil <| At.tn <| Wk.seq <| Wk.block ?_
 obtain ⟨v8, h12, hF⟩ := ob_some hF
 refine Wk.cut (G := (fun (r : Int) (g : Unit) => match r, g with | v8, _ => ⟨(.exit 0), [(3, .int .i64 v8)], []⟩) v8) ?_ ?_
 ·refine Wk.weak (fs' := [(0, .int .u64 ((x1 : Nat) : Int)), (3, .int .i64 0)]) (ps' := []) (sc rfl (sc rfl sn)) (Turn.picks [] rfl rfl) ?_
  refine Wk.loop (σ := Int) (ρ := Int) (γ := Unit) (δ := fun _ => Unit) _ (fun (s : Int) (g : Unit) => match s, g with | v3, _ => ⟨.normal, [(0, .int .u64 ((x1 : Nat) : Int)), (3, .int .i64 v3)], []⟩) (fun (r : Int) (g : Unit) => match r, g with | v8, _ => ⟨(.exit 0), [(3, .int .i64 v8)], []⟩) ?_ (fun _ _ => rfl) (fun r d => by intro e; cases e) _ _ _ h12 ()
  clear hF h12
  rintro v3 ⟨⟩ r hF
  unfold L85_1 at hF
  refine Wk.seq <| Wk.seq <| Wk.region <| Wo.od (o_mv rfl) rfl <| Wo.od (o_mv rfl) rfl ?_
  obtain ⟨r10, h9, hF⟩ := ob_some hF
  refine Wo.x (o_cl rfl rfl (fun m hm => f86_ok n x1 v3  _ h9 m ) fun _ => rfl) gn rfl ?_
  rintro ⟨⟩
  refine Wo.od (o_un rfl rfl) rfl <| Wo.nil <| At.tn ?_
  rcases br_some hF with ⟨h11, hF⟩ | ⟨h11, hF⟩
  ·refine Wk.condT rfl h11 <| Wk.skip <| At.tn <| Wk.block <| Wk.region <| Wo.od (o_mv rfl) rfl <| Wo.od (o_bi rfl rfl (bin_add _ _ _)) rfl <| Wo.od (o_as rfl) rfl <| Wo.nil <| At.bn ?_
   cases hF
   exact At.en () rfl (sc rfl (sc rfl sn)) (Turn.picks [] rfl rfl)
  ·refine Wk.condF rfl h11 <| Wk.exit <| At.te ?_
   cases hF
   exact At.en () rfl (sc rfl sn) (Turn.picks [] rfl rfl)
 ·clear h12
  rintro ⟨⟩
  refine At.be <| At.tn <| Wk.seq <| Wk.region <| Wo.od (o_mv rfl) rfl <| Wo.od (o_as rfl) rfl <| Wo.nil <| At.tn <| Wk.ret ?_
  have hr := Option.some.inj hF
  subst r
  exact At.ret (.tmp rfl .nil) fun m' hm => ⟨(), rfl, (Turn.picks [] rfl rfl) m' hm⟩
theorem f80_ok (n : Nat) (x1 : Int) (l2 : List (Int × Int)) (x6 : Nat) (l7 : List (Int)) (a3 : Option Addr) (c4 : Nat) (a8 : Option Addr) (c9 : Nat) (r : Bool) (hF : F80 n x1 l2 x6 l7 = some r) (m : AMem) (h5 : Rd m a3 c4 2 l2.length (l2.map (eP (eI .i64) (eI .i64)))) (h10 : Rd m a8 c9 1 l7.length (l7.map (eI .i64))) :
  CallA E30w 80 [.agg #[.int .i64 x1, .slice a3 l2.length c4], .int .u64 ((x6 : Nat) : Int), .slice a8 l7.length c9] m (fun v m' => ∃ x : Unit, v = .bool r ∧ Hp m m' []) := by
 unfold F80 at hF
 refine call_wk (m0 := m) (ps := [.rd a8 c9 1 l7.length (l7.map (eI .i64)), .rd a3 c4 2 l2.length (l2.map (eP (eI .i64) (eI .i64)))]) (N := 53) (rs := [.tmp 6]) rfl Tryz.func80 rfl rfl rfl (((Hp.start m).inn rfl h5).inn rfl h10) <| Wk.seq <| Wk.region <| Wo.x (o_bx rfl) gn rfl fun b11 => ?_
 refine Wo.od (o_as rfl) rfl <| Wo.nil <| At.tn <| Wk.seq <| Wk.seq <| Wk.region <| Wo.od (o_as rfl) rfl <| Wo.nil <| At.tn <| Wk.block ?_
 obtain ⟨r138, h137, hF⟩ := ob_some hF
 refine Wk.cut (G := (fun (r : (Unit) ⊕ (Unit)) (g : Unit) => match r, g with | .inl _, _ => ⟨.ret, [(6, .bool false)], []⟩ | .inr _, _ => ⟨(.exit 0), [(1, .int .u64 ((x6 : Nat) : Int)), (2, .slice a8 l7.length c9), (3, ptr b11 0)], [.rd a8 c9 1 l7.length (l7.map (eI .i64)), .obj b11 (.cells [.int .i64 x1, .slice a3 l2.length c4] .own), .rd a3 c4 2 l2.length (l2.map (eP (eI .i64) (eI .i64)))]⟩) r138) ?_ ?_
 ·refine Wk.weak (fs' := [(1, .int .u64 ((x6 : Nat) : Int)), (2, .slice a8 l7.length c9), (3, ptr b11 0), (7, .int .i64 0)]) (ps' := [.rd a8 c9 1 l7.length (l7.map (eI .i64)), .obj b11 (.cells [.int .i64 x1, .slice a3 l2.length c4] .own), .rd a3 c4 2 l2.length (l2.map (eP (eI .i64) (eI .i64)))]) (sc rfl (sc rfl (sc rfl (sc rfl sn)))) (Turn.picks [1, 0, 2] rfl rfl) ?_
  refine Wk.loop (σ := Int) (ρ := (Unit) ⊕ (Unit)) (γ := Unit) (δ := fun _ => Unit) _ (fun (s : Int) (g : Unit) => match s, g with | v13, _ => ⟨.normal, [(1, .int .u64 ((x6 : Nat) : Int)), (2, .slice a8 l7.length c9), (3, ptr b11 0), (7, .int .i64 v13)], [.rd a8 c9 1 l7.length (l7.map (eI .i64)), .obj b11 (.cells [.int .i64 x1, .slice a3 l2.length c4] .own), .rd a3 c4 2 l2.length (l2.map (eP (eI .i64) (eI .i64)))]⟩) (fun (r : (Unit) ⊕ (Unit)) (g : Unit) => match r, g with | .inl _, _ => ⟨.ret, [(6, .bool false)], []⟩ | .inr _, _ => ⟨(.exit 0), [(1, .int .u64 ((x6 : Nat) : Int)), (2, .slice a8 l7.length c9), (3, ptr b11 0)], [.rd a8 c9 1 l7.length (l7.map (eI .i64)), .obj b11 (.cells [.int .i64 x1, .slice a3 l2.length c4] .own), .rd a3 c4 2 l2.length (l2.map (eP (eI .i64) (eI .i64)))]⟩) ?_ (fun _ _ => rfl) (fun r d => by rcases r with _ | _ <;> (intro e; cases e)) _ _ _ h137 ()
  clear hF h137
  rintro v13 ⟨⟩ r hF
  unfold L80_1 at hF
  refine Wk.seq <| Wk.seq <| Wk.region <| Wo.od (o_mv rfl) rfl <| Wo.od (o_mv rfl) rfl <| Wo.od (o_ln (k := 0) u49 rfl rfl (.inl rfl)) rfl <| Wo.od (o_bi rfl rfl (bin_lss _ _ _)) rfl <| Wo.nil <| At.tn ?_
  rcases br_some hF with ⟨h76, hF⟩ | ⟨h76, hF⟩
  ·refine Wk.condT rfl h76 <| Wk.skip <| At.tn <| Wk.seq <| Wk.block <| Wk.seq ?_
   obtain ⟨v120, h134, hF⟩ := ob_some hF
   refine Wk.cut (G := (fun (r : Bool) (g : Unit) => match r, g with | v120, _ => ⟨.normal, [(1, .int .u64 ((x6 : Nat) : Int)), (2, .slice a8 l7.length c9), (3, ptr b11 0), (7, .int .i64 v13), (37, .bool v120)], [.rd a8 c9 1 l7.length (l7.map (eI .i64)), .obj b11 (.cells [.int .i64 x1, .slice a3 l2.length c4] .own), .rd a3 c4 2 l2.length (l2.map (eP (eI .i64) (eI .i64)))]⟩) v120) ?_ ?_
   ·clear hF
    revert v120
    intro r hF
    refine Wk.draw (by kernel_rfl) <| Wo.od (o_ld (k := 1) t34 rfl rfl rfl) rfl <| Wo.od (o_mv rfl) rfl <| Wo.od (o_mv rfl) rfl <| Wo.od (o_mv rfl) rfl ?_
    obtain ⟨h121, hF⟩ := gd_some hF
    replace h121 := inB_some h121
    refine Wo.openr (k := 0) rfl (pos_of h121) ?_
    rintro b122 o123 rfl
    refine Wo.og (o_ixs s49 rfl rfl h121) gn rfl ?_
    obtain ⟨x124, h125, hF⟩ := ob_some hF
    refine Wo.od (o_ldr (k := 0) t3 rfl rfl (map_at h125) rfl rfl) rfl ?_
    obtain ⟨r127, h126, hF⟩ := ob_some hF
    refine Wo.x (o_cl rfl rfl (fun m hm => f63_ok n x1 l2 x6 x124 a3 c4 _ h126 m (hm.rd (k := 3) rfl (.rd _ _ _ _ _))) fun _ => rfl) gn rfl ?_
    rintro ⟨⟩
    refine Wo.od (o_un rfl rfl) rfl <| Wo.od (o_mv rfl) rfl ?_
    rcases br_some hF with ⟨h128, hF⟩ | ⟨h128, hF⟩
    ·refine Wo.s (gg rfl rfl (eTF h128)) rfl <| Wo.s (gg rfl rfl (eTF h128)) rfl <| Wo.s (gg rfl rfl (eTF h128)) rfl <| Wo.s (gu rfl rfl) rfl <| Wo.s (gu rfl rfl) rfl <| Wo.s (gu rfl rfl) rfl <| Wo.s (gu rfl rfl) rfl <| Wo.s (gu rfl rfl) rfl <| Wo.s (gu rfl rfl) rfl <| Wo.s (gu rfl rfl) rfl ?_
     refine Wo.s (gu rfl rfl) rfl <| Wo.s (gu rfl rfl) rfl <| Wo.s (gu rfl rfl) rfl <| Wo.s (gg rfl rfl (eTF h128)) rfl <| Wo.od (o_pt rfl h128 rfl) rfl <| Wo.nil ?_
     cases hF
     exact At.en () rfl (sc rfl (sc rfl (sc rfl (sc rfl (sc rfl sn))))) (Turn.picks [1, 2, 3] rfl rfl)
    ·refine Wo.og (o_mv rfl) (gg rfl rfl (eFF h128)) rfl <| Wo.og (o_bi rfl rfl (bin_gtr _ _ _)) (gg rfl rfl (eFF h128)) rfl <| Wo.og (o_mv rfl) (gg rfl rfl (eFF h128)) rfl ?_
     rcases br_some hF with ⟨h129, hF⟩ | ⟨h129, hF⟩
     ·refine Wo.og (o_mv rfl) (gg rfl rfl (eTT h129)) rfl <| Wo.og (o_mv rfl) (gg rfl rfl (eTT h129)) rfl ?_
      obtain ⟨h130, hF⟩ := gd_some hF
      replace h130 := inB_some h130
      refine Wo.og (o_ixs s49 rfl rfl h130) (gg rfl rfl (eTT h129)) rfl <| Wo.og (o_ldr (k := 0) t3 rfl rfl (map_at h125) rfl rfl) (gg rfl rfl (eTT h129)) rfl <| Wo.og (o_mv rfl) (gg rfl rfl (eTT h129)) rfl <| Wo.og (o_mv rfl) (gg rfl rfl (eTT h129)) rfl <| Wo.og (o_bi rfl rfl (bin_sub _ _ _)) (gg rfl rfl (eTT h129)) rfl ?_
      obtain ⟨h131, hF⟩ := gd_some hF
      replace h131 := inB_some h131
      refine Wo.og (o_ixs s49 rfl rfl h131) (gg rfl rfl (eTT h129)) rfl ?_
      obtain ⟨x132, h133, hF⟩ := ob_some hF
      refine Wo.og (o_ldr (k := 0) t3 rfl rfl (map_at h133) rfl rfl) (gg rfl rfl (eTT h129)) rfl <| Wo.og (o_bi rfl rfl (bin_leq _ _ _)) (gg rfl rfl (eTT h129)) rfl <| Wo.og (o_pt rfl h129 rfl) (gg rfl rfl (eFF h128)) rfl <| Wo.od (o_pf rfl h128 rfl) rfl <| Wo.nil ?_
      cases hF
      exact At.en () rfl (sc rfl (sc rfl (sc rfl (sc rfl (sc rfl sn))))) (Turn.picks [1, 2, 3] rfl rfl)
     ·refine Wo.s (gg rfl rfl (eFT h129)) rfl <| Wo.s (gg rfl rfl (eFT h129)) rfl <| Wo.s (gg rfl rfl (eFT h129)) rfl <| Wo.s (gg rfl rfl (eFT h129)) rfl <| Wo.s (gg rfl rfl (eFT h129)) rfl <| Wo.s (gg rfl rfl (eFT h129)) rfl <| Wo.s (gg rfl rfl (eFT h129)) rfl <| Wo.s (gg rfl rfl (eFT h129)) rfl <| Wo.s (gg rfl rfl (eFT h129)) rfl <| Wo.s (gg rfl rfl (eFT h129)) rfl ?_
      refine Wo.og (o_pf rfl h129 rfl) (gg rfl rfl (eFF h128)) rfl <| Wo.od (o_pf rfl h128 rfl) rfl <| Wo.nil ?_
      cases hF
      exact At.en () rfl (sc rfl (sc rfl (sc rfl (sc rfl (sc rfl sn))))) (Turn.picks [1, 2, 3] rfl rfl)
   ·clear h134
    rintro ⟨⟩
    refine At.tn ?_
    rcases br_some hF with ⟨h136, hF⟩ | ⟨h136, hF⟩
    ·refine Wk.condT rfl h136 <| Wk.seq <| Wk.region <| Wo.od (o_as rfl) rfl <| Wo.nil <| At.tn <| Wk.ret <| At.br <| At.tr ?_
     cases hF
     exact At.en () rfl (sc rfl sn) (Turn.picks [] rfl rfl)
    ·refine Wk.condF rfl h136 <| Wk.skip <| At.bn <| At.tn <| Wk.region <| Wo.od (o_mv rfl) rfl <| Wo.od (o_bi rfl rfl (bin_add _ _ _)) rfl <| Wo.od (o_as rfl) rfl <| Wo.nil ?_
     cases hF
     exact At.en () rfl (sc rfl (sc rfl (sc rfl (sc rfl sn)))) (Turn.picks [0, 1, 2] rfl rfl)
  ·refine Wk.condF rfl h76 <| Wk.exit <| At.te ?_
   cases hF
   exact At.en () rfl (sc rfl (sc rfl (sc rfl sn))) (Turn.picks [0, 1, 2] rfl rfl)
 ·clear h137
  rcases r138 with _ | _
  ·rintro ⟨⟩
   refine At.br <| At.tr ?_
   cases hF
   exact At.ret (.tmp rfl .nil) fun m' hm => ⟨(), rfl, (Turn.picks [] rfl rfl) m' hm⟩
  ·rintro ⟨⟩
   refine At.be <| At.tn <| Wk.seq <| Wk.drawc (prs := [(1, 3), (7, 10)]) (by kernel_rfl) <| Wn.od (o_mv rfl) rfl <| Wn.od (o_ln (k := 0) u49 rfl rfl (.inl rfl)) rfl <| Wn.od (o_mv rfl) rfl ?_
   obtain ⟨r140, h139, hF⟩ := ob_some hF
   refine Wn.c (o_ce rfl rfl (fun m hm => f53_ok n x6  _ h139 m ) fun _ => rfl) gn rfl ?_
   rintro ⟨⟩
   refine Wn.od (o_bi rfl rfl (bin_sub _ _ _)) rfl <| Wn.od (o_bi rfl rfl (bin_eql _ _ _)) rfl <| Wn.od (o_mv rfl) rfl ?_
   rcases br_some hF with ⟨h141, hF⟩ | ⟨h141, hF⟩
   ·refine Wn.og (o_ld (k := 1) t34 rfl rfl rfl) (gg rfl rfl (eTT h141)) rfl <| Wn.og (o_mv rfl) (gg rfl rfl (eTT h141)) rfl <| Wn.og (o_mv rfl) (gg rfl rfl (eTT h141)) rfl ?_
    obtain ⟨r143, h142, hF⟩ := ob_some hF
    refine Wn.c (o_ce rfl rfl (fun m hm => f85_ok n x6  _ h142 m ) fun _ => rfl) (gg rfl rfl (eTT h141)) rfl ?_
    rintro ⟨⟩
    obtain ⟨r145, h144, hF⟩ := ob_some hF
    refine Wn.c (o_ce rfl rfl (fun m hm => f84_ok n x1 l2 l7 r143 a3 c4 a8 c9 _ h144 m (hm.rd (k := 2) rfl (.rd _ _ _ _ _)) (hm.rd (k := 0) rfl (.rd _ _ _ _ _))) fun _ => rfl) (gg rfl rfl (eTT h141)) rfl ?_
    rintro ⟨⟩
    refine Wn.og (o_mv rfl) (gg rfl rfl (eTT h141)) rfl <| Wn.og (o_bi rfl rfl (ub_eql _ _)) (gg rfl rfl (eTT h141)) rfl <| Wn.od (o_pt rfl h141 rfl) rfl <| Wn.od (o_as rfl) rfl <| Wn.nil (fun m hm => OkP.all rfl) <| At.tn <| Wk.ret ?_
    cases hF
    exact At.ret (.tmp rfl .nil) fun m' hm => ⟨(), rfl, (Turn.picks [] rfl rfl) m' hm⟩
   ·refine Wn.s (gg rfl rfl (eFT h141)) rfl <| Wn.s (gg rfl rfl (eFT h141)) rfl <| Wn.s (gg rfl rfl (eFT h141)) rfl <| Wn.s (gg rfl rfl (eFT h141)) rfl <| Wn.s (gg rfl rfl (eFT h141)) rfl <| Wn.s (gg rfl rfl (eFT h141)) rfl <| Wn.s (gg rfl rfl (eFT h141)) rfl <| Wn.od (o_pf rfl h141 rfl) rfl <| Wn.od (o_as rfl) rfl <| Wn.nil (fun m hm => OkP.all rfl) ?_
    refine At.tn <| Wk.ret ?_
    cases hF
    exact At.ret (.tmp rfl .nil) fun m' hm => ⟨(), rfl, (Turn.picks [] rfl rfl) m' hm⟩
theorem f23_ok (n : Nat) (x1 : Int) (l2 : List (Int × Int)) (x6 : Nat) (l7 : List (Int)) (a3 : Option Addr) (c4 : Nat) (a8 : Option Addr) (c9 : Nat) (r : Int) (hF : F23 n x1 l2 x6 l7 = some r) (m : AMem) (h5 : Rd m a3 c4 2 l2.length (l2.map (eP (eI .i64) (eI .i64)))) (h10 : Rd m a8 c9 1 l7.length (l7.map (eI .i64))) :
  CallA E30w 23 [.agg #[.int .i64 x1, .slice a3 l2.length c4], .int .u64 ((x6 : Nat) : Int), .slice a8 l7.length c9] m (fun v m' => ∃ x : Unit, v = .int .i64 r ∧ Hp m m' []) := by
 unfold F23 at hF
 refine call_wk (m0 := m) (ps := [.rd a8 c9 1 l7.length (l7.map (eI .i64)), .rd a3 c4 2 l2.length (l2.map (eP (eI .i64) (eI .i64)))]) (N := 19) (rs := [.tmp 6]) rfl Tryz.func23 rfl rfl rfl (((Hp.start m).inn rfl h5).inn rfl h10) <| Wk.seq <| Wk.region <| Wo.x (o_bx rfl) gn rfl fun b11 => ?_
 refine Wo.od (o_as rfl) rfl <| Wo.nil <| At.tn <| Wk.seq <| Wk.seq <| Wk.region <| Wo.od (o_ld (k := 0) t34 rfl rfl rfl) rfl <| Wo.od (o_mv rfl) rfl ?_
 obtain ⟨r13, h12, hF⟩ := ob_some hF
 refine Wo.x (o_cl rfl rfl (fun m hm => f57_ok n x1 l2 x6 a3 c4 _ h12 m (hm.rd (k := 2) rfl (.rd _ _ _ _ _))) fun _ => rfl) gn rfl ?_
 rintro ⟨⟩
 refine Wo.od (o_as rfl) rfl <| Wo.nil <| At.tn <| Wk.seq <| Wk.region <| Wo.od (o_mv rfl) rfl <| Wo.od (o_bi rfl rfl (ib_neq _ _)) rfl <| Wo.nil <| At.tn ?_
 rcases br_some hF with ⟨h14, hF⟩ | ⟨h14, hF⟩
 ·refine Wk.condT rfl h14 <| Wk.seq <| Wk.region <| Wo.od (o_mv rfl) rfl <| Wo.od (o_as rfl) rfl <| Wo.nil <| At.tn <| Wk.ret <| At.tr ?_
  have hr := Option.some.inj hF
  subst r
  exact At.ret (.tmp rfl .nil) fun m' hm => ⟨(), rfl, (Turn.picks [] rfl rfl) m' hm⟩
 ·refine Wk.condF rfl h14 <| Wk.skip <| At.tn <| Wk.seq <| Wk.seq <| Wk.region <| Wo.od (o_ld (k := 0) t34 rfl rfl rfl) rfl <| Wo.od (o_mv rfl) rfl <| Wo.od (o_mv rfl) rfl ?_
  obtain ⟨r16, h15, hF⟩ := ob_some hF
  refine Wo.x (o_cl rfl rfl (fun m hm => f80_ok n x1 l2 x6 l7 a3 c4 a8 c9 _ h15 m (hm.rd (k := 2) rfl (.rd _ _ _ _ _)) (hm.rd (k := 1) rfl (.rd _ _ _ _ _))) fun _ => rfl) gn rfl ?_
  rintro ⟨⟩
  refine Wo.od (o_un rfl rfl) rfl <| Wo.nil <| At.tn ?_
  rcases br_some hF with ⟨h17, hF⟩ | ⟨h17, hF⟩
  ·refine Wk.condT rfl h17 <| Wk.seq <| Wk.region <| Wo.od (o_as rfl) rfl <| Wo.nil <| At.tn <| Wk.ret <| At.tr ?_
   cases hF
   exact At.ret (.tmp rfl .nil) fun m' hm => ⟨(), rfl, (Turn.picks [] rfl rfl) m' hm⟩
  ·refine Wk.condF rfl h17 <| Wk.skip <| At.tn <| Wk.seq <| Wk.region <| Wo.od (o_as rfl) rfl <| Wo.nil <| At.tn <| Wk.ret ?_
   cases hF
   exact At.ret (.tmp rfl .nil) fun m' hm => ⟨(), rfl, (Turn.picks [] rfl rfl) m' hm⟩
theorem f83_ok (n : Nat) (l1 : List (Int)) (x5 : Int) (a2 : Option Addr) (c3 : Nat) (r : List Int) (hF : F83 n l1 x5 = some r) (m : AMem) (h4 : Rd m a2 c3 1 l1.length (l1.map (eI .i64))) :
  CallA E30w 83 [.slice a2 l1.length c3, .int .i64 x5] m (fun v m' => ∃ x : Option Addr × Nat, v = .slice x.1 x.2 x.2 ∧ Hp m m' [.sl x.1 1 x.2 (r.map (eI .i64))]) := by
 unfold F83 at hF
 refine call_wk (m0 := m) (ps := [.rd a2 c3 1 l1.length (l1.map (eI .i64))]) (N := 27) (rs := [.tmp 4]) rfl Tryz.func83 rfl rfl rfl ((Hp.start m).inn rfl h4) <| Wk.seq <| Wk.region <| Wo.od (o_as rfl) rfl <| Wo.nil <| At.tn <| Wk.seq <| Wk.region <| Wo.od (o_as rfl) rfl <| Wo.nil <| At.tn <| Wk.seq <| Wk.seq <| Wk.region <| Wo.od (o_as rfl) rfl <| Wo.nil <| At.tn <| Wk.block ?_
 obtain ⟨l64, h91, hF⟩ := ob_some hF
 refine Wk.cut (G := (fun (r : List (Int)) (g : Option Addr) => match r, g with | l64, a65 => ⟨(.exit 0), [(5, .slice a65 l64.length l64.length)], [.sl a65 1 l64.length (l64.map (eI .i64))]⟩) l64) ?_ ?_
 ·refine Wk.weak (fs' := [(0, .slice a2 l1.length c3), (1, .int .i64 x5), (5, .slice none ([] : List (Int)).length ([] : List (Int)).length), (6, .int .i64 0)]) (ps' := [.rd a2 c3 1 l1.length (l1.map (eI .i64)), .sl none 1 ([] : List (Int)).length (([] : List (Int)).map (eI .i64))]) (sc rfl (sc rfl (sc rfl (sc rfl sn)))) (Turn.trans (Turn.nil 1 rfl) (Turn.picks [1, 0] rfl rfl)) ?_
  refine Wk.loop (σ := List (Int) × Int) (ρ := List (Int)) (γ := Option Addr) (δ := fun _ => Option Addr) _ (fun (s : List (Int) × Int) (g : Option Addr) => match s, g with | (l33, v35), a34 => ⟨.normal, [(0, .slice a2 l1.length c3), (1, .int .i64 x5), (5, .slice a34 l33.length l33.length), (6, .int .i64 v35)], [.rd a2 c3 1 l1.length (l1.map (eI .i64)), .sl a34 1 l33.length (l33.map (eI .i64))]⟩) (fun (r : List (Int)) (g : Option Addr) => match r, g with | l64, a65 => ⟨(.exit 0), [(5, .slice a65 l64.length l64.length)], [.sl a65 1 l64.length (l64.map (eI .i64))]⟩) ?_ (fun _ _ => rfl) (fun r d => by intro e; cases e) _ _ _ h91 none
  clear hF h91
  rintro ⟨l33, v35⟩ a34 r hF
  unfold L83_1 at hF
  refine Wk.seq <| Wk.seq <| Wk.region <| Wo.od (o_mv rfl) rfl <| Wo.od (o_mv rfl) rfl <| Wo.od (o_ln (k := 0) u49 rfl rfl (.inl rfl)) rfl <| Wo.od (o_bi rfl rfl (bin_lss _ _ _)) rfl <| Wo.nil <| At.tn ?_
  rcases br_some hF with ⟨h66, hF⟩ | ⟨h66, hF⟩
  ·refine Wk.condT rfl h66 <| Wk.skip <| At.tn <| Wk.seq ?_
   obtain ⟨l77, h89, hF⟩ := ob_some hF
   refine Wk.cut (G := (fun (r : List (Int)) (g : Option Addr) => match r, g with | l77, a78 => ⟨.normal, [(0, .slice a2 l1.length c3), (1, .int .i64 x5), (5, .slice a78 l77.length l77.length), (6, .int .i64 v35)], [.rd a2 c3 1 l1.length (l1.map (eI .i64)), .sl a78 1 l77.length (l77.map (eI .i64))]⟩) l77) ?_ ?_
   ·clear hF
    revert l77
    intro r hF
    refine Wk.block <| Wk.seq <| Wk.region <| Wo.od (o_mv rfl) rfl <| Wo.od (o_mv rfl) rfl ?_
    obtain ⟨h79, hF⟩ := gd_some hF
    replace h79 := inB_some h79
    refine Wo.openr (k := 0) rfl (pos_of h79) ?_
    rintro b80 o81 rfl
    refine Wo.og (o_ixs s49 rfl rfl h79) gn rfl ?_
    obtain ⟨x82, h83, hF⟩ := ob_some hF
    refine Wo.od (o_ldr (k := 0) t3 rfl rfl (map_at h83) rfl rfl) rfl <| Wo.od (o_mv rfl) rfl <| Wo.od (o_bi rfl rfl (ib_neq _ _)) rfl <| Wo.nil <| At.tn ?_
    rcases br_some hF with ⟨h84, hF⟩ | ⟨h84, hF⟩
    ·refine Wk.condT rfl h84 <| Wk.region <| Wo.od (o_mv rfl) rfl <| Wo.od (o_mv rfl) rfl <| Wo.od (o_mv rfl) rfl ?_
     obtain ⟨h85, hF⟩ := gd_some hF
     replace h85 := inB_some h85
     refine Wo.og (o_ixs s49 rfl rfl h85) gn rfl <| Wo.od (o_ldr (k := 0) t3 rfl rfl (map_at h83) rfl rfl) rfl <| Wo.x (o_bs (es := ([x82] : List (Int)).map (eI .i64)) s49 rfl (bs_c s49 z3 rfl rfl) rfl rfl) gn rfl fun b86 => ?_
     obtain ⟨h87, hF⟩ := gd_some hF
     refine Wo.x (o_apl (k := 3) (k2 := 0) (xs := (l33 : List (Int))) (ys := ([x82] : List (Int))) (enI .i64) s49 ⟨_, u49⟩ rfl rfl rfl (.arr _ _ _ _ _) h87) gn rfl fun a88 => ?_
     refine Wo.od (o_as rfl) rfl <| Wo.nil <| At.bn ?_
     cases hF
     exact At.en a88 rfl (sc rfl (sc rfl (sc rfl (sc rfl sn)))) (Turn.picks [2, 3] rfl rfl)
    ·refine Wk.condF rfl h84 <| Wk.skip <| At.bn ?_
     have hr := Option.some.inj hF
     subst r
     exact At.en a34 rfl (sc rfl (sc rfl (sc rfl (sc rfl sn)))) (Turn.picks [1, 2] rfl rfl)
   ·clear h89
    rintro a78
    refine At.tn <| Wk.region <| Wo.od (o_mv rfl) rfl <| Wo.od (o_bi rfl rfl (bin_add _ _ _)) rfl <| Wo.od (o_as rfl) rfl <| Wo.nil ?_
    cases hF
    exact At.en a78 rfl (sc rfl (sc rfl (sc rfl (sc rfl sn)))) (Turn.picks [0, 1] rfl rfl)
  ·refine Wk.condF rfl h66 <| Wk.exit <| At.te ?_
   cases hF
   exact At.en a34 rfl (sc rfl sn) (Turn.picks [1] rfl rfl)
 ·clear h91
  rintro a65
  refine At.be <| At.tn <| Wk.seq <| Wk.region <| Wo.od (o_mv rfl) rfl <| Wo.od (o_as rfl) rfl <| Wo.nil <| At.tn <| Wk.ret ?_
  have hr := Option.some.inj hF
  subst r
  exact At.ret (.tmp rfl .nil) fun m' hm => ⟨(a65, l64.length), rfl, (Turn.picks [0] rfl rfl) m' hm⟩
theorem f25_ok (n : Nat) (x1 : Int) (l2 : List (Int × Int)) (x6 : Nat) (l7 : List (Int)) (x11 : Int) (a3 : Option Addr) (c4 : Nat) (a8 : Option Addr) (c9 : Nat) (r : Nat × Nat × Int) (hF : F25 n x1 l2 x6 l7 x11 = some r) (m : AMem) (h5 : Rd m a3 c4 2 l2.length (l2.map (eP (eI .i64) (eI .i64)))) (h10 : Rd m a8 c9 1 l7.length (l7.map (eI .i64))) :
  CallA E30w 25 [.agg #[.int .i64 x1, .slice a3 l2.length c4], .int .u64 ((x6 : Nat) : Int), .slice a8 l7.length c9, .int .i64 x11] m (fun v m' => ∃ x : Unit, v = .tuple #[.int .u64 ((r.1 : Nat) : Int), .int .u64 ((r.2.1 : Nat) : Int), .int .i64 r.2.2] ∧ Hp m m' []) := by
 unfold F25 at hF
 refine call_wk (m0 := m) (ps := [.rd a8 c9 1 l7.length (l7.map (eI .i64)), .rd a3 c4 2 l2.length (l2.map (eP (eI .i64) (eI .i64)))]) (N := 38) (rs := [.tmp 8, .tmp 9, .tmp 10]) rfl Tryz.func25 rfl rfl rfl (((Hp.start m).inn rfl h5).inn rfl h10) <| Wk.seq <| Wk.region <| Wo.x (o_bx rfl) gn rfl fun b12 => ?_
 refine Wo.od (o_as rfl) rfl <| Wo.od (o_as rfl) rfl <| Wo.od (o_as rfl) rfl <| Wo.nil <| At.tn <| Wk.seq <| Wk.seq <| Wk.region <| Wo.od (o_ld (k := 0) t34 rfl rfl rfl) rfl <| Wo.od (o_mv rfl) rfl <| Wo.od (o_mv rfl) rfl ?_
 obtain ⟨r14, h13, hF⟩ := ob_some hF
 refine Wo.x (o_cl rfl rfl (fun m hm => f23_ok n x1 l2 x6 l7 a3 c4 a8 c9 _ h13 m (hm.rd (k := 2) rfl (.rd _ _ _ _ _)) (hm.rd (k := 1) rfl (.rd _ _ _ _ _))) fun _ => rfl) gn rfl ?_
 rintro ⟨⟩
 refine Wo.od (o_as rfl) rfl <| Wo.nil <| At.tn <| Wk.seq <| Wk.region <| Wo.od (o_mv rfl) rfl <| Wo.od (o_bi rfl rfl (ib_neq _ _)) rfl <| Wo.nil <| At.tn ?_
 rcases br_some hF with ⟨h15, hF⟩ | ⟨h15, hF⟩
 ·refine Wk.condT rfl h15 <| Wk.seq <| Wk.region <| Wo.od (o_mv rfl) rfl <| Wo.od (o_as rfl) rfl <| Wo.od (o_as rfl) rfl <| Wo.od (o_as rfl) rfl <| Wo.nil <| At.tn <| Wk.ret <| At.tr ?_
  cases hF
  exact At.ret (.tmp rfl (.tmp rfl (.tmp rfl .nil))) fun m' hm => ⟨(), rfl, (Turn.picks [] rfl rfl) m' hm⟩
 ·refine Wk.condF rfl h15 <| Wk.skip <| At.tn <| Wk.seq <| Wk.region <| Wo.od (o_mv rfl) rfl <| Wo.od (o_mv rfl) rfl ?_
  obtain ⟨l17, h16, hF⟩ := ob_some hF
  refine Wo.x (o_cl rfl rfl (fun m hm => f83_ok n l7 x11 a8 c9 _ h16 m (hm.rd (k := 1) rfl (.rd _ _ _ _ _))) fun _ => rfl) gn rfl ?_
  rintro ⟨a18, n19⟩
  refine Wo.len (k := 0) (xs := l17) rfl ?_
  rintro rfl
  refine Wo.od (o_as rfl) rfl <| Wo.nil <| At.tn <| Wk.seq <| Wk.seq <| Wk.region <| Wo.od (o_mv rfl) rfl <| Wo.od (o_ln (k := 0) u49 rfl rfl (.inl rfl)) rfl <| Wo.od (o_mv rfl) rfl <| Wo.od (o_ln (k := 2) u49 rfl rfl (.inl rfl)) rfl <| Wo.od (o_bi rfl rfl (bin_eql _ _ _)) rfl <| Wo.nil <| At.tn ?_
  rcases br_some hF with ⟨h20, hF⟩ | ⟨h20, hF⟩
  ·refine Wk.condT rfl h20 <| Wk.seq <| Wk.region <| Wo.od (o_as rfl) rfl <| Wo.od (o_as rfl) rfl <| Wo.od (o_as rfl) rfl <| Wo.nil <| At.tn <| Wk.ret <| At.tr ?_
   cases hF
   exact At.ret (.tmp rfl (.tmp rfl (.tmp rfl .nil))) fun m' hm => ⟨(), rfl, (Turn.picks [] rfl rfl) m' hm⟩
  ·refine Wk.condF rfl h20 <| Wk.skip <| At.tn <| Wk.seq <| Wk.drawc (prs := [(0, 3)]) (by kernel_rfl) <| Wn.od (o_ld (k := 1) t34 rfl rfl rfl) rfl <| Wn.od (o_mv rfl) rfl <| Wn.od (o_mv rfl) rfl ?_
   obtain ⟨r22, h21, hF⟩ := ob_some hF
   refine Wn.c (o_ce rfl rfl (fun m hm => f85_ok n x6  _ h21 m ) fun _ => rfl) gn rfl ?_
   rintro ⟨⟩
   obtain ⟨r24, h23, hF⟩ := ob_some hF
   refine Wn.c (o_ce rfl rfl (fun m hm => f84_ok n x1 l2 l17 r22 a3 c4 a18 l17.length _ h23 m (hm.rd (k := 3) rfl (.rd _ _ _ _ _)) (hm.rd (k := 0) rfl (.sl _ _ _ _))) fun _ => rfl) gn rfl ?_
   rintro ⟨⟩
   refine Wn.od (o_as rfl) rfl <| Wn.nil (fun m hm => OkP.all rfl) <| At.tn <| Wk.seq <| Wk.region <| Wo.od (o_mv rfl) rfl <| Wo.od (o_mv rfl) rfl <| Wo.od (o_mv rfl) rfl <| Wo.od (o_bi rfl rfl (ub_sub rfl _ _)) rfl <| Wo.od (o_as rfl) rfl <| Wo.od (o_as rfl) rfl <| Wo.od (o_as rfl) rfl <| Wo.nil <| At.tn <| Wk.ret ?_
   cases hF
   exact At.ret (.tmp rfl (.tmp rfl (.tmp rfl .nil))) fun m' hm => ⟨(), rfl, (Turn.picks [] rfl rfl) m' hm⟩
theorem f26_ok (n : Nat) (x1 : Int) (l2 : List (Int × Int)) (x6 : Nat) (l7 : List (Int)) (x11 : Int) (x12 : Int) (a3 : Option Addr) (c4 : Nat) (a8 : Option Addr) (c9 : Nat) (r : List Int × Int) (hF : F26 n x1 l2 x6 l7 x11 x12 = some r) (m : AMem) (h5 : Rd m a3 c4 2 l2.length (l2.map (eP (eI .i64) (eI .i64)))) (h10 : Rd m a8 c9 1 l7.length (l7.map (eI .i64))) :
  CallA E30w 26 [.agg #[.int .i64 x1, .slice a3 l2.length c4], .int .u64 ((x6 : Nat) : Int), .slice a8 l7.length c9, .int .i64 x11, .int .i64 x12] m (fun v m' => ∃ x : Option Addr × Nat, v = .tuple #[.slice x.1 x.2 x.2, .int .i64 r.2] ∧ Hp m m' [.sl x.1 1 x.2 (r.1.map (eI .i64))]) := by
 unfold F26 at hF
 refine call_wk (m0 := m) (ps := [.rd a8 c9 1 l7.length (l7.map (eI .i64)), .rd a3 c4 2 l2.length (l2.map (eP (eI .i64) (eI .i64)))]) (N := 102) (rs := [.tmp 10, .tmp 11]) rfl Tryz.func26 rfl rfl rfl (((Hp.start m).inn rfl h5).inn rfl h10) <| Wk.seq <| Wk.region <| Wo.x (o_bx rfl) gn rfl fun b13 => ?_
 refine Wo.od (o_as rfl) rfl <| Wo.od (o_as rfl) rfl <| Wo.nil <| At.tn <| Wk.scope <| Wk.seq <| Wk.seq <| Wk.region <| Wo.od (o_ld (k := 0) t34 rfl rfl rfl) rfl <| Wo.od (o_mv rfl) rfl <| Wo.od (o_mv rfl) rfl ?_
 obtain ⟨r15, h14, hF⟩ := ob_some hF
 refine Wo.x (o_cl rfl rfl (fun m hm => f22_ok n x1 l2 x6 l7 a3 c4 a8 c9 _ h14 m (hm.rd (k := 2) rfl (.rd _ _ _ _ _)) (hm.rd (k := 1) rfl (.rd _ _ _ _ _))) fun _ => rfl) gn rfl ?_
 rintro ⟨⟩
 refine Wo.od (o_as rfl) rfl <| Wo.nil <| At.tn <| Wk.seq <| Wk.region <| Wo.od (o_mv rfl) rfl <| Wo.od (o_bi rfl rfl (ib_neq _ _)) rfl <| Wo.nil <| At.tn ?_
 rcases br_some hF with ⟨h16, hF⟩ | ⟨h16, hF⟩
 ·refine Wk.condT rfl h16 <| Wk.seq <| Wk.region <| Wo.od (o_mv rfl) rfl <| Wo.od (o_as rfl) rfl <| Wo.od (o_as rfl) rfl <| Wo.nil <| At.tn <| Wk.ret <| At.tr ?_
  cases hF
  exact At.ret (.tmp rfl (.tmp rfl .nil)) fun m' hm => ⟨(none, 0), rfl, (Turn.trans (Turn.nil 1 rfl) (Turn.picks [0] rfl rfl)) m' hm⟩
 ·refine Wk.condF rfl h16 <| Wk.skip <| At.tn <| Wk.seq <| Wk.seq <| Wk.region <| Wo.od (o_mv rfl) rfl <| Wo.od (o_mv rfl) rfl <| Wo.od (o_bd rfl z43 rfl (bd_s bs43 rfl rfl rfl)) rfl <| Wo.od (o_mv rfl) rfl <| Wo.nil <| At.tn <| Wk.block ?_
  obtain ⟨r75, h74, hF⟩ := ob_some hF
  refine Wk.cut (G := (fun (r : (Unit) ⊕ (Unit)) (g : Unit) => match r, g with | .inl _, _ => ⟨.ret, [(10, .slice none 0 0), (11, .int .i64 2)], []⟩ | .inr _, _ => ⟨(.exit 0), [(2, .slice a8 l7.length c9), (3, .int .i64 x11), (4, .int .i64 x12), (5, ptr b13 0)], [.rd a8 c9 1 l7.length (l7.map (eI .i64)), .obj b13 (.cells [.int .i64 x1, .slice a3 l2.length c4] .own), .rd a3 c4 2 l2.length (l2.map (eP (eI .i64) (eI .i64)))]⟩) r75) ?_ ?_
  ·refine Wk.weak (fs' := [(1, .int .u64 ((x6 : Nat) : Int)), (2, .slice a8 l7.length c9), (3, .int .i64 x11), (4, .int .i64 x12), (5, ptr b13 0), (30, .agg #[.int .i64 x11, .int .i64 x12]), (31, .int .i64 0)]) (ps' := [.rd a8 c9 1 l7.length (l7.map (eI .i64)), .obj b13 (.cells [.int .i64 x1, .slice a3 l2.length c4] .own), .rd a3 c4 2 l2.length (l2.map (eP (eI .i64) (eI .i64)))]) (sc rfl (sc rfl (sc rfl (sc rfl (sc rfl (sc rfl (sc rfl sn))))))) (Turn.picks [1, 0, 2] rfl rfl) ?_
   refine Wk.loop (σ := Int) (ρ := (Unit) ⊕ (Unit)) (γ := Unit) (δ := fun _ => Unit) _ (fun (s : Int) (g : Unit) => match s, g with | v18, _ => ⟨.normal, [(1, .int .u64 ((x6 : Nat) : Int)), (2, .slice a8 l7.length c9), (3, .int .i64 x11), (4, .int .i64 x12), (5, ptr b13 0), (30, .agg #[.int .i64 x11, .int .i64 x12]), (31, .int .i64 v18)], [.rd a8 c9 1 l7.length (l7.map (eI .i64)), .obj b13 (.cells [.int .i64 x1, .slice a3 l2.length c4] .own), .rd a3 c4 2 l2.length (l2.map (eP (eI .i64) (eI .i64)))]⟩) (fun (r : (Unit) ⊕ (Unit)) (g : Unit) => match r, g with | .inl _, _ => ⟨.ret, [(10, .slice none 0 0), (11, .int .i64 2)], []⟩ | .inr _, _ => ⟨(.exit 0), [(2, .slice a8 l7.length c9), (3, .int .i64 x11), (4, .int .i64 x12), (5, ptr b13 0)], [.rd a8 c9 1 l7.length (l7.map (eI .i64)), .obj b13 (.cells [.int .i64 x1, .slice a3 l2.length c4] .own), .rd a3 c4 2 l2.length (l2.map (eP (eI .i64) (eI .i64)))]⟩) ?_ (fun _ _ => rfl) (fun r d => by rcases r with _ | _ <;> (intro e; cases e)) _ _ _ h74 ()
   clear hF h74
   rintro v18 ⟨⟩ r hF
   unfold L26_1 at hF
   refine Wk.seq <| Wk.region <| Wo.od (o_bi rfl rfl (bin_lss _ _ _)) rfl <| Wo.nil <| At.tn <| Wk.seq ?_
   rcases br_some hF with ⟨h47, hF⟩ | ⟨h47, hF⟩
   ·refine Wk.condT rfl h47 <| Wk.skip <| At.tn <| Wk.seq <| Wk.block <| Wk.seq <| Wk.region ?_
    obtain ⟨h62, hF⟩ := gd_some hF
    obtain ⟨x61, h63, hF⟩ := ob_some hF
    refine Wo.x (o_sel (α := Unit) (V := fun g => match g with | _ => .int .i64 x61) (N := fun g => match g with | _ => [] ++ [.rd a8 c9 1 l7.length (l7.map (eI .i64)), .obj b13 (.cells [.int .i64 x1, .slice a3 l2.length c4] .own), .rd a3 c4 2 l2.length (l2.map (eP (eI .i64) (eI .i64)))]) rfl rfl (fun m hm => ?_)) gn rfl ?_
    ·have hj := inB_some h62
     obtain ⟨j, hj2⟩ : ∃ j : Nat, (v18 : Int) = j := ⟨_, (Int.toNat_of_nonneg hj.1).symm⟩
     rw [hj2] at h63 hj ⊢
     rw [Int.toNat_natCast] at h63 hj
     replace hj := hj.2
     clear hF hj2
     match j, hj, h63 with
     | 0, _, h63 => cases h63; exact ⟨(), ix_c ar43 (i := 0) (by decide) (part_o t3 rfl), hm⟩
     | 1, _, h63 => cases h63; exact ⟨(), ix_c ar43 (i := 1) (by decide) (part_o t3 rfl), hm⟩
     | _ + 2, hj, _ => exact absurd hj (by omega)
    rintro ⟨⟩
    refine Wo.od (o_as rfl) rfl <| Wo.nil <| At.tn <| Wk.seq ?_
    obtain ⟨v67, h71, hF⟩ := ob_some hF
    refine Wk.cut (G := (fun (r : Bool) (g : Unit) => match r, g with | v67, _ => ⟨.normal, [(1, .int .u64 ((x6 : Nat) : Int)), (2, .slice a8 l7.length c9), (3, .int .i64 x11), (4, .int .i64 x12), (5, ptr b13 0), (30, .agg #[.int .i64 x11, .int .i64 x12]), (31, .int .i64 v18), (48, .bool v67)], [.rd a8 c9 1 l7.length (l7.map (eI .i64)), .obj b13 (.cells [.int .i64 x1, .slice a3 l2.length c4] .own), .rd a3 c4 2 l2.length (l2.map (eP (eI .i64) (eI .i64)))]⟩) v67) ?_ ?_
    ·clear hF
     revert v67
     intro r hF
     refine Wk.region <| Wo.od (o_mv rfl) rfl <| Wo.od (o_bi rfl rfl (bin_lss _ _ _)) rfl <| Wo.od (o_mv rfl) rfl ?_
     rcases br_some hF with ⟨h68, hF⟩ | ⟨h68, hF⟩
     ·refine Wo.s (gg rfl rfl (eTF h68)) rfl <| Wo.s (gg rfl rfl (eTF h68)) rfl <| Wo.s (gg rfl rfl (eTF h68)) rfl <| Wo.s (gg rfl rfl (eTF h68)) rfl <| Wo.od (o_pt rfl h68 rfl) rfl <| Wo.od (o_mv rfl) rfl <| Wo.s (gg rfl rfl rfl) rfl <| Wo.s (gg rfl rfl rfl) rfl <| Wo.s (gg rfl rfl rfl) rfl <| Wo.s (gg rfl rfl rfl) rfl ?_
      refine Wo.s (gg rfl rfl rfl) rfl <| Wo.od (o_pT rfl rfl) rfl <| Wo.nil ?_
      cases hF
      exact At.en () rfl (sc rfl (sc rfl (sc rfl (sc rfl (sc rfl (sc rfl (sc rfl (sc rfl sn)))))))) (Turn.picks [0, 1, 2] rfl rfl)
     ·refine Wo.og (o_mv rfl) (gg rfl rfl (eFF h68)) rfl <| Wo.og (o_fa (r := ptr b13 0) rfl (fa34_0 _ _)) (gg rfl rfl (eFF h68)) rfl <| Wo.og (o_ld (k := 1) t3 rfl rfl rfl) (gg rfl rfl (eFF h68)) rfl <| Wo.og (o_bi rfl rfl (bin_geq _ _ _)) (gg rfl rfl (eFF h68)) rfl <| Wo.od (o_pf rfl h68 rfl) rfl <| Wo.od (o_mv rfl) rfl ?_
      rcases br_some hF with ⟨h69, hF⟩ | ⟨h69, hF⟩
      ·refine Wo.s (gg rfl rfl (eTF h69)) rfl <| Wo.s (gg rfl rfl (eTF h69)) rfl <| Wo.s (gg rfl rfl (eTF h69)) rfl <| Wo.s (gg rfl rfl (eTF h69)) rfl <| Wo.s (gg rfl rfl (eTF h69)) rfl <| Wo.od (o_pt rfl h69 rfl) rfl <| Wo.nil ?_
       cases hF
       exact At.en () rfl (sc rfl (sc rfl (sc rfl (sc rfl (sc rfl (sc rfl (sc rfl (sc rfl sn)))))))) (Turn.picks [0, 1, 2] rfl rfl)
      ·refine Wo.og (o_mv rfl) (gg rfl rfl (eFF h69)) rfl <| Wo.og (o_mv rfl) (gg rfl rfl (eFF h69)) rfl ?_
       obtain ⟨h70, hF⟩ := gd_some hF
       refine Wo.og (o_bi rfl rfl (ub_shr _ _ h70)) (gg rfl rfl (eFF h69)) rfl <| Wo.og (o_bi rfl rfl (ub_and rfl _ _)) (gg rfl rfl (eFF h69)) rfl <| Wo.og (o_bi rfl rfl (ub_eql _ _)) (gg rfl rfl (eFF h69)) rfl <| Wo.od (o_pf rfl h69 rfl) rfl <| Wo.nil ?_
       cases hF
       exact At.en () rfl (sc rfl (sc rfl (sc rfl (sc rfl (sc rfl (sc rfl (sc rfl (sc rfl sn)))))))) (Turn.picks [0, 1, 2] rfl rfl)
    ·clear h71
     rintro ⟨⟩
     refine At.tn ?_
     rcases br_some hF with ⟨h73, hF⟩ | ⟨h73, hF⟩
     ·refine Wk.condT rfl h73 <| Wk.seq <| Wk.region <| Wo.od (o_as rfl) rfl <| Wo.od (o_as rfl) rfl <| Wo.nil <| At.tn <| Wk.ret <| At.br <| At.tr ?_
      cases hF
      exact At.en () rfl (sc rfl (sc rfl sn)) (Turn.picks [] rfl rfl)
     ·refine Wk.condF rfl h73 <| Wk.skip <| At.bn <| At.tn <| Wk.region <| Wo.od (o_bi rfl rfl (bin_add _ _ _)) rfl <| Wo.od (o_mv rfl) rfl <| Wo.nil ?_
      cases hF
      exact At.en () rfl (sc rfl (sc rfl (sc rfl (sc rfl (sc rfl (sc rfl (sc rfl sn))))))) (Turn.picks [0, 1, 2] rfl rfl)
   ·refine Wk.condF rfl h47 <| Wk.exit <| At.te ?_
    cases hF
    exact At.en () rfl (sc rfl (sc rfl (sc rfl (sc rfl sn)))) (Turn.picks [0, 1, 2] rfl rfl)
  ·clear h74
   rcases r75 with _ | _
   ·rintro ⟨⟩
    refine At.br <| At.tr ?_
    cases hF
    exact At.ret (.tmp rfl (.tmp rfl .nil)) fun m' hm => ⟨(none, 0), rfl, (Turn.trans (Turn.nil 1 rfl) (Turn.picks [0] rfl rfl)) m' hm⟩
   ·rintro ⟨⟩
    refine At.be <| At.tn <| Wk.seq <| Wk.region <| Wo.od (o_mv rfl) rfl <| Wo.x (o_bs (es := ([x11] : List (Int)).map (eI .i64)) s49 rfl (bs_c s49 z3 rfl rfl) rfl rfl) gn rfl fun b76 => ?_
    refine Wo.od (o_as rfl) rfl <| Wo.nil <| At.tn <| Wk.seq <| Wk.region <| Wo.od (o_mv rfl) rfl <| Wo.od (o_as rfl) rfl <| Wo.nil <| At.tn <| Wk.seq <| Wk.label <| At.tn <| Wk.seq <| Wk.block ?_
    obtain ⟨r799, h798, hF⟩ := ob_some hF
    refine Wk.cut (G := (fun (r : List (Int) × Nat) (g : Option Addr) => match r, g with | (l559, n561), a560 => ⟨(.exit 2), [(15, .slice a560 n561 n561)], [.sl a560 1 n561 (l559.map (eI .i64))]⟩) r799) ?_ ?_
    ·refine Wk.weak (fs' := [(2, .slice a8 l7.length c9), (4, .int .i64 x12), (5, ptr b13 0), (15, .slice (some ⟨b76, 0, none⟩) 1 1), (16, .int .i64 x11)]) (ps' := [.rd a8 c9 1 l7.length (l7.map (eI .i64)), .obj b13 (.cells [.int .i64 x1, .slice a3 l2.length c4] .own), .rd a3 c4 2 l2.length (l2.map (eP (eI .i64) (eI .i64))), .sl (some ⟨b76, 0, none⟩) 1 1 (([x11]).map (eI .i64))]) (sc rfl (sc rfl (sc rfl (sc rfl (sc rfl sn))))) (Turn.trans (Turn.close (k := 0) rfl) (Turn.picks [1, 2, 3, 0] rfl rfl)) ?_
     refine Wk.loop (σ := List (Int) × Nat × Int) (ρ := List (Int) × Nat) (γ := Option Addr) (δ := fun _ => Option Addr) _ (fun (s : List (Int) × Nat × Int) (g : Option Addr) => match s, g with | (l315, n317, v318), a316 => ⟨.normal, [(2, .slice a8 l7.length c9), (4, .int .i64 x12), (5, ptr b13 0), (15, .slice a316 n317 n317), (16, .int .i64 v318)], [.rd a8 c9 1 l7.length (l7.map (eI .i64)), .obj b13 (.cells [.int .i64 x1, .slice a3 l2.length c4] .own), .rd a3 c4 2 l2.length (l2.map (eP (eI .i64) (eI .i64))), .sl a316 1 n317 (l315.map (eI .i64))]⟩) (fun (r : List (Int) × Nat) (g : Option Addr) => match r, g with | (l559, n561), a560 => ⟨(.exit 2), [(15, .slice a560 n561 n561)], [.sl a560 1 n561 (l559.map (eI .i64))]⟩) ?_ (fun _ _ => rfl) (fun r d => by intro e; cases e) _ _ _ h798 (some ⟨b76, 0, none⟩)
     clear hF h798
     rintro ⟨l315, n317, v318⟩ a316 r hF
     unfold L26_3 at hF
     refine Wk.seq <| Wk.seq <| Wk.region <| Wo.od (o_mv rfl) rfl <| Wo.od (o_mv rfl) rfl <| Wo.od (o_bi rfl rfl (ib_neq _ _)) rfl <| Wo.nil <| At.tn ?_
     rcases br_some hF with ⟨h562, hF⟩ | ⟨h562, hF⟩
     ·refine Wk.condT rfl h562 <| Wk.skip <| At.tn <| Wk.block <| Wk.seq <| Wk.region <| Wo.od (o_mv rfl) rfl <| Wo.od (o_ln (k := 0) u49 rfl rfl (.inl rfl)) rfl <| Wo.od (o_mv rfl) rfl <| Wo.nil <| At.tn <| Wk.block ?_
      obtain ⟨r797, h796, hF⟩ := ob_some hF
      refine Wk.cut (G := (fun (r : (List (Int) × Int) ⊕ (Int)) (g : Option Addr) => match r, g with | .inl (l680, v682), a681 => ⟨(.exit 3), [(2, .slice a8 l7.length c9), (4, .int .i64 x12), (5, ptr b13 0), (15, .slice a681 l680.length l680.length), (16, .int .i64 v682)], [.rd a8 c9 1 l7.length (l7.map (eI .i64)), .obj b13 (.cells [.int .i64 x1, .slice a3 l2.length c4] .own), .rd a3 c4 2 l2.length (l2.map (eP (eI .i64) (eI .i64))), .sl a681 1 l680.length (l680.map (eI .i64))]⟩ | .inr v683, _ => ⟨(.exit 4), [(2, .slice a8 l7.length c9), (4, .int .i64 x12), (5, ptr b13 0), (15, .slice a316 n317 n317), (16, .int .i64 v683)], [.rd a8 c9 1 l7.length (l7.map (eI .i64)), .obj b13 (.cells [.int .i64 x1, .slice a3 l2.length c4] .own), .rd a3 c4 2 l2.length (l2.map (eP (eI .i64) (eI .i64))), .sl a316 1 n317 (l315.map (eI .i64))]⟩) r797) ?_ ?_
      ·refine Wk.weak (fs' := [(2, .slice a8 l7.length c9), (4, .int .i64 x12), (5, ptr b13 0), (15, .slice a316 n317 n317), (16, .int .i64 v318), (56, .slice a8 l7.length c9), (57, .int .i64 (l7.length : Int)), (58, .int .i64 0)]) (ps' := [.rd a8 c9 1 l7.length (l7.map (eI .i64)), .obj b13 (.cells [.int .i64 x1, .slice a3 l2.length c4] .own), .rd a3 c4 2 l2.length (l2.map (eP (eI .i64) (eI .i64))), .sl a316 1 n317 (l315.map (eI .i64))]) (sc rfl (sc rfl (sc rfl (sc rfl (sc rfl (sc rfl (sc rfl (sc rfl sn)))))))) (Turn.picks [0, 1, 2, 3] rfl rfl) ?_
       refine Wk.loop (σ := Int × Int) (ρ := (List (Int) × Int) ⊕ (Int)) (γ := Unit) (δ := fun _ => Option Addr) _ (fun (s : Int × Int) (g : Unit) => match s, g with | (v565, v566), _ => ⟨.normal, [(2, .slice a8 l7.length c9), (4, .int .i64 x12), (5, ptr b13 0), (15, .slice a316 n317 n317), (16, .int .i64 v565), (56, .slice a8 l7.length c9), (57, .int .i64 (l7.length : Int)), (58, .int .i64 v566)], [.rd a8 c9 1 l7.length (l7.map (eI .i64)), .obj b13 (.cells [.int .i64 x1, .slice a3 l2.length c4] .own), .rd a3 c4 2 l2.length (l2.map (eP (eI .i64) (eI .i64))), .sl a316 1 n317 (l315.map (eI .i64))]⟩) (fun (r : (List (Int) × Int) ⊕ (Int)) (g : Option Addr) => match r, g with | .inl (l680, v682), a681 => ⟨(.exit 3), [(2, .slice a8 l7.length c9), (4, .int .i64 x12), (5, ptr b13 0), (15, .slice a681 l680.length l680.length), (16, .int .i64 v682)], [.rd a8 c9 1 l7.length (l7.map (eI .i64)), .obj b13 (.cells [.int .i64 x1, .slice a3 l2.length c4] .own), .rd a3 c4 2 l2.length (l2.map (eP (eI .i64) (eI .i64))), .sl a681 1 l680.length (l680.map (eI .i64))]⟩ | .inr v683, _ => ⟨(.exit 4), [(2, .slice a8 l7.length c9), (4, .int .i64 x12), (5, ptr b13 0), (15, .slice a316 n317 n317), (16, .int .i64 v683)], [.rd a8 c9 1 l7.length (l7.map (eI .i64)), .obj b13 (.cells [.int .i64 x1, .slice a3 l2.length c4] .own), .rd a3 c4 2 l2.length (l2.map (eP (eI .i64) (eI .i64))), .sl a316 1 n317 (l315.map (eI .i64))]⟩) ?_ (fun _ _ => rfl) (fun r d => by rcases r with _ | _ <;> (intro e; cases e)) _ _ _ h796 ()
       clear hF h796
       rintro ⟨v565, v566⟩ ⟨⟩ r hF
       unfold L26_2 at hF
       refine Wk.seq <| Wk.region <| Wo.od (o_bi rfl rfl (bin_lss _ _ _)) rfl <| Wo.nil <| At.tn <| Wk.seq ?_
       rcases br_some hF with ⟨h685, hF⟩ | ⟨h685, hF⟩
       ·refine Wk.condT rfl h685 <| Wk.skip <| At.tn <| Wk.seq <| Wk.block <| Wk.seq <| Wk.region ?_
        obtain ⟨h741, hF⟩ := gd_some hF
        replace h741 := inB_some h741
        refine Wo.openr (k := 0) rfl (pos_of h741) ?_
        rintro b742 o743 rfl
        refine Wo.og (o_ixs s49 rfl rfl h741) gn rfl ?_
        obtain ⟨x744, h745, hF⟩ := ob_some hF
        refine Wo.od (o_ldr (k := 0) t3 rfl rfl (map_at h745) rfl rfl) rfl <| Wo.od (o_as rfl) rfl <| Wo.nil <| At.tn <| Wk.seq <| Wk.region <| Wo.od (o_fa (r := ptr b13 1) rfl (fa34_1 _ _)) rfl <| Wo.od (o_ld (k := 2) t32 rfl rfl rfl) rfl <| Wo.od (o_mv rfl) rfl ?_
        obtain ⟨h746, hF⟩ := gd_some hF
        replace h746 := inB_some h746
        refine Wo.openr (k := 3) rfl (pos_of h746) ?_
        rintro b747 o748 rfl
        refine Wo.og (o_ixs s32 rfl rfl h746) gn rfl ?_
        obtain ⟨⟨x749, x750⟩, h751, hF⟩ := ob_some hF
        refine Wo.od (o_ldr (k := 0) t43 rfl rfl (map_at h751) rfl rfl) rfl <| Wo.x (o_al z43 rfl) gn rfl fun b752 => ?_
        refine Wo.o0 (o_st (k := 0) t43 rfl rfl rfl rfl rfl) <| Wo.nil <| At.tn <| Wk.seq <| Wk.region <| Wo.od (o_ia (r := ptr b752 0) rfl rfl (ia_c ar43 (i := 0) (by decide))) rfl <| Wo.od (o_ld (k := 0) t3 rfl rfl rfl) rfl <| Wo.od (o_ia (r := ptr b752 1) rfl rfl (ia_c ar43 (i := 1) (by decide))) rfl <| Wo.od (o_ld (k := 0) t3 rfl rfl rfl) rfl <| Wo.od (o_bi rfl rfl (bin_add _ _ _)) rfl <| Wo.od (o_mv rfl) rfl <| Wo.od (o_bi rfl rfl (bin_sub _ _ _)) rfl <| Wo.od (o_as rfl) rfl <| Wo.nil <| At.tn <| Wk.seq <| Wk.seq ?_
        obtain ⟨v781, h790, hF⟩ := ob_some hF
        refine Wk.cut (G := (fun (r : Bool) (g : Unit) => match r, g with | v781, _ => ⟨.normal, [(2, .slice (some ⟨b742, o743, none⟩) l7.length c9), (4, .int .i64 x12), (5, ptr b13 0), (15, .slice a316 n317 n317), (16, .int .i64 v565), (20, .int .i64 (IntKind.wrap .i64 ((IntKind.wrap .i64 (x749 + x750)) - v565))), (56, .slice (some ⟨b742, o743, none⟩) l7.length c9), (57, .int .i64 (l7.length : Int)), (58, .int .i64 v566), (94, .bool v781)], [.ro b742 o743 1 l7.length (l7.map (eI .i64)), .rd (some ⟨b742, o743, none⟩) c9 1 l7.length (l7.map (eI .i64)), .obj b13 (.cells [.int .i64 x1, .slice (some ⟨b747, o748, none⟩) l2.length c4] .own), .ro b747 o748 2 l2.length (l2.map (eP (eI .i64) (eI .i64))), .rd (some ⟨b747, o748, none⟩) c4 2 l2.length (l2.map (eP (eI .i64) (eI .i64))), .sl a316 1 n317 (l315.map (eI .i64))]⟩) v781) ?_ ?_
        ·clear hF
         revert v781
         intro r hF
         refine Wk.region <| Wo.od (o_ia (r := ptr b752 0) rfl rfl (ia_c ar43 (i := 0) (by decide))) rfl <| Wo.od (o_ld (k := 0) t3 rfl rfl rfl) rfl <| Wo.od (o_mv rfl) rfl <| Wo.od (o_bi rfl rfl (ib_neq _ _)) rfl <| Wo.od (o_mv rfl) rfl ?_
         rcases br_some hF with ⟨h782, hF⟩ | ⟨h782, hF⟩
         ·refine Wo.og (o_ia (r := ptr b752 1) rfl rfl (ia_c ar43 (i := 1) (by decide))) (gg rfl rfl (eTT h782)) rfl <| Wo.og (o_ld (k := 0) t3 rfl rfl rfl) (gg rfl rfl (eTT h782)) rfl <| Wo.og (o_mv rfl) (gg rfl rfl (eTT h782)) rfl <| Wo.og (o_bi rfl rfl (ib_neq _ _)) (gg rfl rfl (eTT h782)) rfl <| Wo.od (o_pt rfl h782 rfl) rfl <| Wo.od (o_mv rfl) rfl ?_
          rcases br_some hF with ⟨h783, hF⟩ | ⟨h783, hF⟩
          ·refine Wo.s (gg rfl rfl (eTF h783)) rfl <| Wo.s (gg rfl rfl (eTF h783)) rfl <| Wo.s (gg rfl rfl (eTF h783)) rfl <| Wo.s (gg rfl rfl (eTF h783)) rfl <| Wo.s (gg rfl rfl (eTF h783)) rfl <| Wo.s (gg rfl rfl (eTF h783)) rfl <| Wo.s (gg rfl rfl (eTF h783)) rfl <| Wo.s (gg rfl rfl (eTF h783)) rfl <| Wo.s (gg rfl rfl (eTF h783)) rfl <| Wo.od (o_pt rfl h783 rfl) rfl ?_
           refine Wo.nil ?_
           cases hF
           exact At.en () rfl (sc rfl (sc rfl (sc rfl (sc rfl (sc rfl (sc rfl (sc rfl (sc rfl (sc rfl (sc rfl sn)))))))))) (Turn.picks [2, 3, 4, 1, 5, 6] rfl rfl)
          ·refine Wo.og (o_ld (k := 4) t34 rfl rfl rfl) (gg rfl rfl (eFF h783)) rfl <| Wo.og (o_mv rfl) (gg rfl rfl (eFF h783)) rfl <| Wo.og (o_mv rfl) (gg rfl rfl (eFF h783)) rfl <| Wo.og (o_mv rfl) (gg rfl rfl (eFF h783)) rfl ?_
           obtain ⟨r785, h784, hF⟩ := ob_some hF
           refine Wo.x (o_cl rfl rfl (fun m hm => f81_ok n x1 l2 l7 x744 (IntKind.wrap .i64 ((IntKind.wrap .i64 (x749 + x750)) - v565)) (some ⟨b747, o748, none⟩) c4 (some ⟨b742, o743, none⟩) c9 _ h784 m (hm.rd (k := 5) rfl (.rd _ _ _ _ _)) (hm.rd (k := 3) rfl (.rd _ _ _ _ _))) fun _ => rfl) (gg rfl rfl (eFF h783)) rfl ?_
           rintro ⟨⟩
           refine Wo.og (o_mv rfl) (gg rfl rfl (eFF h783)) rfl ?_
           obtain ⟨h786, hF⟩ := gd_some hF
           refine Wo.og (o_bi rfl rfl (ub_shr _ _ h786)) (gg rfl rfl (eFF h783)) rfl <| Wo.og (o_bi rfl rfl (ub_and rfl _ _)) (gg rfl rfl (eFF h783)) rfl <| Wo.og (o_bi rfl rfl (ub_eql _ _)) (gg rfl rfl (eFF h783)) rfl <| Wo.od (o_pf rfl h783 rfl) rfl <| Wo.nil ?_
           cases hF
           exact At.en () rfl (sc rfl (sc rfl (sc rfl (sc rfl (sc rfl (sc rfl (sc rfl (sc rfl (sc rfl (sc rfl sn)))))))))) (Turn.picks [2, 3, 4, 1, 5, 6] rfl rfl)
         ·refine Wo.s (gg rfl rfl (eFT h782)) rfl <| Wo.s (gg rfl rfl (eFT h782)) rfl <| Wo.s (gg rfl rfl (eFT h782)) rfl <| Wo.s (gg rfl rfl (eFT h782)) rfl <| Wo.od (o_pf rfl h782 rfl) rfl <| Wo.od (o_mv rfl) rfl <| Wo.og (o_ld (k := 4) t34 rfl rfl rfl) (gg rfl rfl rfl) rfl <| Wo.og (o_mv rfl) (gg rfl rfl rfl) rfl <| Wo.og (o_mv rfl) (gg rfl rfl rfl) rfl <| Wo.og (o_mv rfl) (gg rfl rfl rfl) rfl ?_
          obtain ⟨r788, h787, hF⟩ := ob_some hF
          refine Wo.x (o_cl rfl rfl (fun m hm => f81_ok n x1 l2 l7 x744 (IntKind.wrap .i64 ((IntKind.wrap .i64 (x749 + x750)) - v565)) (some ⟨b747, o748, none⟩) c4 (some ⟨b742, o743, none⟩) c9 _ h787 m (hm.rd (k := 5) rfl (.rd _ _ _ _ _)) (hm.rd (k := 3) rfl (.rd _ _ _ _ _))) fun _ => rfl) (gg rfl rfl rfl) rfl ?_
          rintro ⟨⟩
          refine Wo.og (o_mv rfl) (gg rfl rfl rfl) rfl ?_
          obtain ⟨h789, hF⟩ := gd_some hF
          refine Wo.og (o_bi rfl rfl (ub_shr _ _ h789)) (gg rfl rfl rfl) rfl <| Wo.og (o_bi rfl rfl (ub_and rfl _ _)) (gg rfl rfl rfl) rfl <| Wo.og (o_bi rfl rfl (ub_eql _ _)) (gg rfl rfl rfl) rfl <| Wo.od (o_pF rfl rfl) rfl <| Wo.nil ?_
          cases hF
          exact At.en () rfl (sc rfl (sc rfl (sc rfl (sc rfl (sc rfl (sc rfl (sc rfl (sc rfl (sc rfl (sc rfl sn)))))))))) (Turn.picks [2, 3, 4, 1, 5, 6] rfl rfl)
        ·clear h790
         rintro ⟨⟩
         refine At.tn ?_
         rcases br_some hF with ⟨h792, hF⟩ | ⟨h792, hF⟩
         ·refine Wk.condT rfl h792 <| Wk.exit <| At.te <| At.be <| At.tn <| Wk.region <| Wo.od (o_bi rfl rfl (bin_add _ _ _)) rfl <| Wo.od (o_mv rfl) rfl <| Wo.nil ?_
          cases hF
          exact At.en () rfl (sc rfl (sc rfl (sc rfl (sc rfl (sc rfl (sc rfl (sc rfl (sc rfl sn)))))))) (Turn.picks [1, 2, 4, 5] rfl rfl)
         ·refine Wk.condF rfl h792 <| Wk.skip <| At.tn <| Wk.seq <| Wk.region <| Wo.od (o_mv rfl) rfl <| Wo.od (o_as rfl) rfl <| Wo.nil <| At.tn <| Wk.seq <| Wk.region <| Wo.od (o_mv rfl) rfl <| Wo.od (o_mv rfl) rfl <| Wo.x (o_bs (es := ([IntKind.wrap .i64 ((IntKind.wrap .i64 (x749 + x750)) - v565)] : List (Int)).map (eI .i64)) s49 rfl (bs_c s49 z3 rfl rfl) rfl rfl) gn rfl fun b793 => ?_
          obtain ⟨h794, hF⟩ := gd_some hF
          refine Wo.x (o_apl (k := 6) (k2 := 0) (xs := (l315 : List (Int))) (ys := ([IntKind.wrap .i64 ((IntKind.wrap .i64 (x749 + x750)) - v565)] : List (Int))) (enI .i64) s49 ⟨_, u49⟩ rfl rfl rfl (.arr _ _ _ _ _) h794) gn rfl fun a795 => ?_
          refine Wo.od (o_as rfl) rfl <| Wo.nil <| At.tn <| Wk.exit <| At.bx rfl <| At.te ?_
          cases hF
          exact At.en a795 rfl (sc rfl (sc rfl (sc rfl (sc rfl (sc rfl sn))))) (Turn.picks [2, 3, 5, 6] rfl rfl)
       ·refine Wk.condF rfl h685 <| Wk.exit <| At.te ?_
        cases hF
        exact At.en none rfl (sc rfl (sc rfl (sc rfl (sc rfl (sc rfl sn))))) (Turn.picks [0, 1, 2, 3] rfl rfl)
      ·clear h796
       rcases r797 with ⟨l680, v682⟩ | v683
       ·rintro a681
        refine At.bx rfl <| At.be ?_
        cases hF
        exact At.en a681 rfl (sc rfl (sc rfl (sc rfl (sc rfl (sc rfl sn))))) (Turn.picks [0, 1, 2, 3] rfl rfl)
       ·rintro g684
        refine At.be <| At.bn ?_
        cases hF
        exact At.en a316 rfl (sc rfl (sc rfl (sc rfl (sc rfl (sc rfl sn))))) (Turn.picks [0, 1, 2, 3] rfl rfl)
     ·refine Wk.condF rfl h562 <| Wk.exit <| At.te ?_
      cases hF
      exact At.en a316 rfl (sc rfl sn) (Turn.picks [3] rfl rfl)
    ·clear h798
     obtain ⟨l559, n561⟩ := r799
     rintro a560
     refine At.be <| At.tn <| Wk.seq <| Wk.region <| Wo.od (o_mv rfl) rfl <| Wo.od (o_as rfl) rfl <| Wo.od (o_as rfl) rfl <| Wo.nil <| At.tn <| Wk.ret ?_
     cases hF
     exact At.ret (.tmp rfl (.tmp rfl .nil)) fun m' hm => ⟨(a560, n561), rfl, (Turn.picks [0] rfl rfl) m' hm⟩
theorem f27_ok (n : Nat) (x1 : Int) (l2 : List (Int × Int)) (x6 : Nat) (l7 : List (Int)) (x11 : Int) (x12 : Int) (a3 : Option Addr) (c4 : Nat) (a8 : Option Addr) (c9 : Nat) (r : List Int × Int) (hF : F27 n x1 l2 x6 l7 x11 x12 = some r) (m : AMem) (h5 : Rd m a3 c4 2 l2.length (l2.map (eP (eI .i64) (eI .i64)))) (h10 : Rd m a8 c9 1 l7.length (l7.map (eI .i64))) :
  CallA E30w 27 [.agg #[.int .i64 x1, .slice a3 l2.length c4], .int .u64 ((x6 : Nat) : Int), .slice a8 l7.length c9, .int .i64 x11, .int .i64 x12] m (fun v m' => ∃ x : Option Addr × Nat, v = .tuple #[.slice x.1 x.2 x.2, .int .i64 r.2] ∧ Hp m m' [.sl x.1 1 x.2 (r.1.map (eI .i64))]) := by
 unfold F27 at hF
 refine call_wk (m0 := m) (ps := [.rd a8 c9 1 l7.length (l7.map (eI .i64)), .rd a3 c4 2 l2.length (l2.map (eP (eI .i64) (eI .i64)))]) (N := 127) (rs := [.tmp 10, .tmp 11]) rfl Tryz.func27 rfl rfl rfl (((Hp.start m).inn rfl h5).inn rfl h10) <| Wk.seq <| Wk.region <| Wo.x (o_bx rfl) gn rfl fun b13 => ?_
 refine Wo.od (o_as rfl) rfl <| Wo.od (o_as rfl) rfl <| Wo.nil <| At.tn <| Wk.seq <| Wk.seq <| Wk.region <| Wo.od (o_ld (k := 0) t34 rfl rfl rfl) rfl <| Wo.od (o_mv rfl) rfl <| Wo.od (o_mv rfl) rfl ?_
 obtain ⟨r15, h14, hF⟩ := ob_some hF
 refine Wo.x (o_cl rfl rfl (fun m hm => f23_ok n x1 l2 x6 l7 a3 c4 a8 c9 _ h14 m (hm.rd (k := 2) rfl (.rd _ _ _ _ _)) (hm.rd (k := 1) rfl (.rd _ _ _ _ _))) fun _ => rfl) gn rfl ?_
 rintro ⟨⟩
 refine Wo.od (o_as rfl) rfl <| Wo.nil <| At.tn <| Wk.seq <| Wk.region <| Wo.od (o_mv rfl) rfl <| Wo.od (o_bi rfl rfl (ib_neq _ _)) rfl <| Wo.nil <| At.tn ?_
 rcases br_some hF with ⟨h16, hF⟩ | ⟨h16, hF⟩
 ·refine Wk.condT rfl h16 <| Wk.seq <| Wk.region <| Wo.od (o_mv rfl) rfl <| Wo.od (o_as rfl) rfl <| Wo.od (o_as rfl) rfl <| Wo.nil <| At.tn <| Wk.ret <| At.tr ?_
  cases hF
  exact At.ret (.tmp rfl (.tmp rfl .nil)) fun m' hm => ⟨(none, 0), rfl, (Turn.trans (Turn.nil 1 rfl) (Turn.picks [0] rfl rfl)) m' hm⟩
 ·refine Wk.condF rfl h16 <| Wk.skip <| At.tn <| Wk.seq <| Wk.seq ?_
  obtain ⟨v48, h58, hF⟩ := ob_some hF
  refine Wk.cut (G := (fun (r : Bool) (g : Unit) => match r, g with | v48, _ => ⟨.normal, [(2, .slice a8 l7.length c9), (3, .int .i64 x11), (4, .int .i64 x12), (5, ptr b13 0), (54, .bool v48)], [.rd a8 c9 1 l7.length (l7.map (eI .i64)), .obj b13 (.cells [.int .i64 x1, .slice a3 l2.length c4] .own), .rd a3 c4 2 l2.length (l2.map (eP (eI .i64) (eI .i64)))]⟩) v48) ?_ ?_
  ·clear hF
   revert v48
   intro r hF
   refine Wk.region <| Wo.od (o_mv rfl) rfl <| Wo.od (o_bi rfl rfl (bin_lss _ _ _)) rfl <| Wo.od (o_mv rfl) rfl ?_
   rcases br_some hF with ⟨h49, hF⟩ | ⟨h49, hF⟩
   ·refine Wo.s (gg rfl rfl (eTF h49)) rfl <| Wo.s (gg rfl rfl (eTF h49)) rfl <| Wo.s (gg rfl rfl (eTF h49)) rfl <| Wo.s (gg rfl rfl (eTF h49)) rfl <| Wo.od (o_pt rfl h49 rfl) rfl <| Wo.od (o_mv rfl) rfl <| Wo.s (gg rfl rfl rfl) rfl <| Wo.s (gg rfl rfl rfl) rfl <| Wo.s (gg rfl rfl rfl) rfl <| Wo.s (gg rfl rfl rfl) rfl ?_
    refine Wo.od (o_pT rfl rfl) rfl <| Wo.od (o_mv rfl) rfl <| Wo.s (gg rfl rfl rfl) rfl <| Wo.s (gg rfl rfl rfl) rfl <| Wo.od (o_pT rfl rfl) rfl <| Wo.od (o_mv rfl) rfl <| Wo.s (gg rfl rfl rfl) rfl <| Wo.s (gg rfl rfl rfl) rfl <| Wo.s (gg rfl rfl rfl) rfl <| Wo.s (gg rfl rfl rfl) rfl ?_
    refine Wo.od (o_pT rfl rfl) rfl <| Wo.od (o_mv rfl) rfl <| Wo.s (gg rfl rfl rfl) rfl <| Wo.s (gg rfl rfl rfl) rfl <| Wo.s (gg rfl rfl rfl) rfl <| Wo.s (gg rfl rfl rfl) rfl <| Wo.od (o_pT rfl rfl) rfl <| Wo.nil ?_
    cases hF
    exact At.en () rfl (sc rfl (sc rfl (sc rfl (sc rfl (sc rfl sn))))) (Turn.picks [1, 0, 2] rfl rfl)
   ·refine Wo.og (o_mv rfl) (gg rfl rfl (eFF h49)) rfl <| Wo.og (o_fa (r := ptr b13 0) rfl (fa34_0 _ _)) (gg rfl rfl (eFF h49)) rfl <| Wo.og (o_ld (k := 0) t3 rfl rfl rfl) (gg rfl rfl (eFF h49)) rfl <| Wo.og (o_bi rfl rfl (bin_geq _ _ _)) (gg rfl rfl (eFF h49)) rfl <| Wo.od (o_pf rfl h49 rfl) rfl <| Wo.od (o_mv rfl) rfl ?_
    rcases br_some hF with ⟨h50, hF⟩ | ⟨h50, hF⟩
    ·refine Wo.s (gg rfl rfl (eTF h50)) rfl <| Wo.s (gg rfl rfl (eTF h50)) rfl <| Wo.s (gg rfl rfl (eTF h50)) rfl <| Wo.s (gg rfl rfl (eTF h50)) rfl <| Wo.od (o_pt rfl h50 rfl) rfl <| Wo.od (o_mv rfl) rfl <| Wo.s (gg rfl rfl rfl) rfl <| Wo.s (gg rfl rfl rfl) rfl <| Wo.od (o_pT rfl rfl) rfl <| Wo.od (o_mv rfl) rfl ?_
     refine Wo.s (gg rfl rfl rfl) rfl <| Wo.s (gg rfl rfl rfl) rfl <| Wo.s (gg rfl rfl rfl) rfl <| Wo.s (gg rfl rfl rfl) rfl <| Wo.od (o_pT rfl rfl) rfl <| Wo.od (o_mv rfl) rfl <| Wo.s (gg rfl rfl rfl) rfl <| Wo.s (gg rfl rfl rfl) rfl <| Wo.s (gg rfl rfl rfl) rfl <| Wo.s (gg rfl rfl rfl) rfl ?_
     refine Wo.od (o_pT rfl rfl) rfl <| Wo.nil ?_
     cases hF
     exact At.en () rfl (sc rfl (sc rfl (sc rfl (sc rfl (sc rfl sn))))) (Turn.picks [1, 0, 2] rfl rfl)
    ·refine Wo.og (o_mv rfl) (gg rfl rfl (eFF h50)) rfl <| Wo.og (o_mv rfl) (gg rfl rfl (eFF h50)) rfl ?_
     obtain ⟨r52, h51, hF⟩ := ob_some hF
     refine Wo.x (o_cl rfl rfl (fun m hm => f86_ok n x6 x11  _ h51 m ) fun _ => rfl) (gg rfl rfl (eFF h50)) rfl ?_
     rintro ⟨⟩
     refine Wo.og (o_un rfl rfl) (gg rfl rfl (eFF h50)) rfl <| Wo.od (o_pf rfl h50 rfl) rfl <| Wo.od (o_mv rfl) rfl ?_
     rcases br_some hF with ⟨h53, hF⟩ | ⟨h53, hF⟩
     ·refine Wo.s (gg rfl rfl (eTF h53)) rfl <| Wo.s (gg rfl rfl (eTF h53)) rfl <| Wo.od (o_pt rfl h53 rfl) rfl <| Wo.od (o_mv rfl) rfl <| Wo.s (gg rfl rfl rfl) rfl <| Wo.s (gg rfl rfl rfl) rfl <| Wo.s (gg rfl rfl rfl) rfl <| Wo.s (gg rfl rfl rfl) rfl <| Wo.od (o_pT rfl rfl) rfl <| Wo.od (o_mv rfl) rfl ?_
      refine Wo.s (gg rfl rfl rfl) rfl <| Wo.s (gg rfl rfl rfl) rfl <| Wo.s (gg rfl rfl rfl) rfl <| Wo.s (gg rfl rfl rfl) rfl <| Wo.od (o_pT rfl rfl) rfl <| Wo.nil ?_
      cases hF
      exact At.en () rfl (sc rfl (sc rfl (sc rfl (sc rfl (sc rfl sn))))) (Turn.picks [1, 0, 2] rfl rfl)
     ·refine Wo.og (o_mv rfl) (gg rfl rfl (eFF h53)) rfl <| Wo.og (o_bi rfl rfl (bin_lss _ _ _)) (gg rfl rfl (eFF h53)) rfl <| Wo.od (o_pf rfl h53 rfl) rfl <| Wo.od (o_mv rfl) rfl ?_
      rcases br_some hF with ⟨h54, hF⟩ | ⟨h54, hF⟩
      ·refine Wo.s (gg rfl rfl (eTF h54)) rfl <| Wo.s (gg rfl rfl (eTF h54)) rfl <| Wo.s (gg rfl rfl (eTF h54)) rfl <| Wo.s (gg rfl rfl (eTF h54)) rfl <| Wo.od (o_pt rfl h54 rfl) rfl <| Wo.od (o_mv rfl) rfl <| Wo.s (gg rfl rfl rfl) rfl <| Wo.s (gg rfl rfl rfl) rfl <| Wo.s (gg rfl rfl rfl) rfl <| Wo.s (gg rfl rfl rfl) rfl ?_
       refine Wo.od (o_pT rfl rfl) rfl <| Wo.nil ?_
       cases hF
       exact At.en () rfl (sc rfl (sc rfl (sc rfl (sc rfl (sc rfl sn))))) (Turn.picks [1, 0, 2] rfl rfl)
      ·refine Wo.og (o_mv rfl) (gg rfl rfl (eFF h54)) rfl <| Wo.og (o_fa (r := ptr b13 0) rfl (fa34_0 _ _)) (gg rfl rfl (eFF h54)) rfl <| Wo.og (o_ld (k := 0) t3 rfl rfl rfl) (gg rfl rfl (eFF h54)) rfl <| Wo.og (o_bi rfl rfl (bin_geq _ _ _)) (gg rfl rfl (eFF h54)) rfl <| Wo.od (o_pf rfl h54 rfl) rfl <| Wo.od (o_mv rfl) rfl ?_
       rcases br_some hF with ⟨h55, hF⟩ | ⟨h55, hF⟩
       ·refine Wo.s (gg rfl rfl (eTF h55)) rfl <| Wo.s (gg rfl rfl (eTF h55)) rfl <| Wo.s (gg rfl rfl (eTF h55)) rfl <| Wo.s (gg rfl rfl (eTF h55)) rfl <| Wo.od (o_pt rfl h55 rfl) rfl <| Wo.nil ?_
        cases hF
        exact At.en () rfl (sc rfl (sc rfl (sc rfl (sc rfl (sc rfl sn))))) (Turn.picks [1, 0, 2] rfl rfl)
       ·refine Wo.og (o_mv rfl) (gg rfl rfl (eFF h55)) rfl <| Wo.og (o_mv rfl) (gg rfl rfl (eFF h55)) rfl ?_
        obtain ⟨r57, h56, hF⟩ := ob_some hF
        refine Wo.x (o_cl rfl rfl (fun m hm => f86_ok n x6 x12  _ h56 m ) fun _ => rfl) (gg rfl rfl (eFF h55)) rfl ?_
        rintro ⟨⟩
        refine Wo.og (o_un rfl rfl) (gg rfl rfl (eFF h55)) rfl <| Wo.od (o_pf rfl h55 rfl) rfl <| Wo.nil ?_
        cases hF
        exact At.en () rfl (sc rfl (sc rfl (sc rfl (sc rfl (sc rfl sn))))) (Turn.picks [1, 0, 2] rfl rfl)
  ·clear h58
   rintro ⟨⟩
   refine At.tn ?_
   rcases br_some hF with ⟨h60, hF⟩ | ⟨h60, hF⟩
   ·refine Wk.condT rfl h60 <| Wk.seq <| Wk.region <| Wo.od (o_as rfl) rfl <| Wo.od (o_as rfl) rfl <| Wo.nil <| At.tn <| Wk.ret <| At.tr ?_
    cases hF
    exact At.ret (.tmp rfl (.tmp rfl .nil)) fun m' hm => ⟨(none, 0), rfl, (Turn.trans (Turn.nil 1 rfl) (Turn.picks [0] rfl rfl)) m' hm⟩
   ·refine Wk.condF rfl h60 <| Wk.skip <| At.tn <| Wk.seq <| Wk.region <| Wo.od (o_mv rfl) rfl <| Wo.x (o_bs (es := ([x11] : List (Int)).map (eI .i64)) s49 rfl (bs_c s49 z3 rfl rfl) rfl rfl) gn rfl fun b61 => ?_
    refine Wo.od (o_as rfl) rfl <| Wo.nil <| At.tn <| Wk.seq <| Wk.region <| Wo.od (o_mv rfl) rfl <| Wo.od (o_as rfl) rfl <| Wo.nil <| At.tn <| Wk.seq <| Wk.block ?_
    obtain ⟨r906, h905, hF⟩ := ob_some hF
    refine Wk.cut (G := (fun (r : List (Int) × Nat) (g : Option Addr) => match r, g with | (l625, n627), a626 => ⟨(.exit 0), [(13, .slice a626 n627 n627)], [.sl a626 1 n627 (l625.map (eI .i64))]⟩) r906) ?_ ?_
    ·refine Wk.weak (fs' := [(4, .int .i64 x12), (5, ptr b13 0), (13, .slice (some ⟨b61, 0, none⟩) 1 1), (14, .slice a8 l7.length c9)]) (ps' := [.obj b13 (.cells [.int .i64 x1, .slice a3 l2.length c4] .own), .rd a3 c4 2 l2.length (l2.map (eP (eI .i64) (eI .i64))), .sl (some ⟨b61, 0, none⟩) 1 1 (([x11]).map (eI .i64)), .rd a8 c9 1 l7.length (l7.map (eI .i64))]) (sc rfl (sc rfl (sc rfl (sc rfl sn)))) (Turn.trans (Turn.close (k := 0) rfl) (Turn.picks [2, 3, 0, 1] rfl rfl)) ?_
     refine Wk.loop (σ := List (Int) × Nat × List (Int)) (ρ := List (Int) × Nat) (γ := Option Addr × Option Addr × Nat) (δ := fun _ => Option Addr) _ (fun (s : List (Int) × Nat × List (Int)) (g : Option Addr × Option Addr × Nat) => match s, g with | (l336, n338, l339), (a337, a340, c341) => ⟨.normal, [(4, .int .i64 x12), (5, ptr b13 0), (13, .slice a337 n338 n338), (14, .slice a340 l339.length c341)], [.obj b13 (.cells [.int .i64 x1, .slice a3 l2.length c4] .own), .rd a3 c4 2 l2.length (l2.map (eP (eI .i64) (eI .i64))), .sl a337 1 n338 (l336.map (eI .i64)), .rd a340 c341 1 l339.length (l339.map (eI .i64))]⟩) (fun (r : List (Int) × Nat) (g : Option Addr) => match r, g with | (l625, n627), a626 => ⟨(.exit 0), [(13, .slice a626 n627 n627)], [.sl a626 1 n627 (l625.map (eI .i64))]⟩) ?_ (fun _ _ => rfl) (fun r d => by intro e; cases e) _ _ _ h905 ((some ⟨b61, 0, none⟩), a8, c9)
     clear hF h905
     rintro ⟨l336, n338, l339⟩ ⟨a337, a340, c341⟩ r hF
     unfold L27_2 at hF
     refine Wk.seq <| Wk.seq <| Wk.region <| Wo.od (o_mv rfl) rfl <| Wo.od (o_mv rfl) rfl <| Wo.od (o_ln (k := 2) u49 rfl rfl (.inl rfl)) rfl <| Wo.od (o_bi rfl rfl (bin_sub _ _ _)) rfl ?_
     obtain ⟨h628, hF⟩ := gd_some hF
     replace h628 := inB_some h628
     refine Wo.open (k := 2) rfl (pos_of h628) ?_
     rintro b629 tg630 rfl h631
     refine Wo.og (o_ixa s49 rfl rfl h628) gn rfl ?_
     obtain ⟨x632, h633, hF⟩ := ob_some hF
     refine Wo.od (o_lda (k := 2) t3 rfl rfl (map_at h633) rfl rfl) rfl <| Wo.od (o_mv rfl) rfl <| Wo.od (o_bi rfl rfl (ib_neq _ _)) rfl <| Wo.nil <| At.tn ?_
     rcases br_some hF with ⟨h634, hF⟩ | ⟨h634, hF⟩
     ·refine Wk.condT rfl h634 <| Wk.skip <| At.tn <| Wk.block <| Wk.seq <| Wk.region <| Wo.od (o_mv rfl) rfl <| Wo.od (o_mv rfl) rfl <| Wo.od (o_ln (k := 2) u49 rfl rfl (.inl rfl)) rfl <| Wo.od (o_bi rfl rfl (bin_sub _ _ _)) rfl ?_
      obtain ⟨h635, hF⟩ := gd_some hF
      replace h635 := inB_some h635
      refine Wo.og (o_ixa s49 rfl rfl h635) gn rfl <| Wo.od (o_lda (k := 2) t3 rfl rfl (map_at h633) rfl rfl) rfl <| Wo.od (o_as rfl) rfl <| Wo.nil <| At.tn <| Wk.seq <| Wk.region <| Wo.od (o_as rfl) rfl <| Wo.nil <| At.tn <| Wk.block ?_
      obtain ⟨r904, h903, hF⟩ := ob_some hF
      refine Wk.cut (G := (fun (r : List (Int) × Nat × List (Int)) (g : Option Addr × Option Addr × Nat) => match r, g with | (l768, n770, l771), (a769, a772, c773) => ⟨(.exit 2), [(4, .int .i64 x12), (5, ptr b13 0), (13, .slice a769 n770 n770), (14, .slice a772 l771.length c773)], [.obj b13 (.cells [.int .i64 x1, .slice a3 l2.length c4] .own), .rd a3 c4 2 l2.length (l2.map (eP (eI .i64) (eI .i64))), .sl a769 1 n770 (l768.map (eI .i64)), .rd a772 c773 1 l771.length (l771.map (eI .i64))]⟩) r904) ?_ ?_
      ·refine Wk.weak (fs' := [(4, .int .i64 x12), (5, ptr b13 0), (13, .slice (some ⟨b629, 0, none⟩) n338 n338), (14, .slice a340 l339.length c341), (15, .int .i64 x632), (16, .int .i64 0)]) (ps' := [.obj b13 (.cells [.int .i64 x1, .slice a3 l2.length c4] .own), .rd a3 c4 2 l2.length (l2.map (eP (eI .i64) (eI .i64))), .arr b629 1 n338 (l336.map (eI .i64)) tg630, .rd a340 c341 1 l339.length (l339.map (eI .i64))]) (sc rfl (sc rfl (sc rfl (sc rfl (sc rfl (sc rfl sn)))))) (Turn.picks [0, 1, 2, 3] rfl rfl) ?_
       refine Wk.loop (σ := Int) (ρ := List (Int) × Nat × List (Int)) (γ := Unit) (δ := fun _ => Option Addr × Option Addr × Nat) _ (fun (s : Int) (g : Unit) => match s, g with | v637, _ => ⟨.normal, [(4, .int .i64 x12), (5, ptr b13 0), (13, .slice (some ⟨b629, 0, none⟩) n338 n338), (14, .slice a340 l339.length c341), (15, .int .i64 x632), (16, .int .i64 v637)], [.obj b13 (.cells [.int .i64 x1, .slice a3 l2.length c4] .own), .rd a3 c4 2 l2.length (l2.map (eP (eI .i64) (eI .i64))), .arr b629 1 n338 (l336.map (eI .i64)) tg630, .rd a340 c341 1 l339.length (l339.map (eI .i64))]⟩) (fun (r : List (Int) × Nat × List (Int)) (g : Option Addr × Option Addr × Nat) => match r, g with | (l768, n770, l771), (a769, a772, c773) => ⟨(.exit 2), [(4, .int .i64 x12), (5, ptr b13 0), (13, .slice a769 n770 n770), (14, .slice a772 l771.length c773)], [.obj b13 (.cells [.int .i64 x1, .slice a3 l2.length c4] .own), .rd a3 c4 2 l2.length (l2.map (eP (eI .i64) (eI .i64))), .sl a769 1 n770 (l768.map (eI .i64)), .rd a772 c773 1 l771.length (l771.map (eI .i64))]⟩) ?_ (fun _ _ => rfl) (fun r d => by intro e; cases e) _ _ _ h903 ()
       clear hF h903
       rintro v637 ⟨⟩ r hF
       unfold L27_1 at hF
       refine Wk.seq <| Wk.seq <| Wk.region <| Wo.od (o_mv rfl) rfl <| Wo.od (o_mv rfl) rfl <| Wo.od (o_ln (k := 3) u49 rfl rfl (.inl rfl)) rfl <| Wo.od (o_bi rfl rfl (bin_lss _ _ _)) rfl <| Wo.nil <| At.tn ?_
       rcases br_some hF with ⟨h774, hF⟩ | ⟨h774, hF⟩
       ·refine Wk.condT rfl h774 <| Wk.skip <| At.tn <| Wk.seq <| Wk.block <| Wk.seq <| Wk.draw (by kernel_rfl) <| Wo.od (o_fa (r := ptr b13 1) rfl (fa34_1 _ _)) rfl <| Wo.od (o_ld (k := 0) t32 rfl rfl rfl) rfl <| Wo.od (o_mv rfl) rfl <| Wo.od (o_mv rfl) rfl ?_
        obtain ⟨h839, hF⟩ := gd_some hF
        replace h839 := inB_some h839
        refine Wo.openr (k := 3) rfl (pos_of h839) ?_
        rintro b840 o841 rfl
        refine Wo.og (o_ixs s49 rfl rfl h839) gn rfl ?_
        obtain ⟨x842, h843, hF⟩ := ob_some hF
        refine Wo.od (o_ldr (k := 0) t3 rfl rfl (map_at h843) rfl rfl) rfl ?_
        obtain ⟨h844, hF⟩ := gd_some hF
        replace h844 := inB_some h844
        refine Wo.openr (k := 2) rfl (pos_of h844) ?_
        rintro b845 o846 rfl
        refine Wo.og (o_ixs s32 rfl rfl h844) gn rfl ?_
        obtain ⟨⟨x847, x848⟩, h849, hF⟩ := ob_some hF
        refine Wo.od (o_ldr (k := 0) t43 rfl rfl (map_at h849) rfl rfl) rfl <| Wo.x (o_al z43 rfl) gn rfl fun b850 => ?_
        refine Wo.o0 (o_st (k := 0) t43 rfl rfl rfl rfl rfl) <| Wo.nil <| At.tn <| Wk.seq ?_
        obtain ⟨v871, h892, hF⟩ := ob_some hF
        refine Wk.cut (G := (fun (r : Bool) (g : Unit) => match r, g with | v871, _ => ⟨.normal, [(4, .int .i64 x12), (5, ptr b13 0), (13, .slice (some ⟨b629, 0, none⟩) n338 n338), (14, .slice (some ⟨b840, o841, none⟩) l339.length c341), (15, .int .i64 x632), (16, .int .i64 v637), (17, ptr b850 0), (109, .bool v871)], [.obj b13 (.cells [.int .i64 x1, .slice (some ⟨b845, o846, none⟩) l2.length c4] .own), .ro b845 o846 2 l2.length (l2.map (eP (eI .i64) (eI .i64))), .rd (some ⟨b845, o846, none⟩) c4 2 l2.length (l2.map (eP (eI .i64) (eI .i64))), .arr b629 1 n338 (l336.map (eI .i64)) tg630, .ro b840 o841 1 l339.length (l339.map (eI .i64)), .rd (some ⟨b840, o841, none⟩) c341 1 l339.length (l339.map (eI .i64)), .obj b850 (.cells [.int .i64 x847, .int .i64 x848] .own)]⟩) v871) ?_ ?_
        ·clear hF
         revert v871
         intro r hF
         refine Wk.drawc (prs := [(11, 17)]) (by kernel_rfl) <| Wn.od (o_ia (r := ptr b850 0) rfl rfl (ia_c ar43 (i := 0) (by decide))) rfl <| Wn.od (o_ld (k := 0) t3 rfl rfl rfl) rfl <| Wn.od (o_mv rfl) rfl <| Wn.od (o_bi rfl rfl (bin_eql _ _ _)) rfl <| Wn.od (o_mv rfl) rfl ?_
         rcases br_some hF with ⟨h872, hF⟩ | ⟨h872, hF⟩
         ·refine Wn.s (gg rfl rfl (eTF h872)) rfl <| Wn.s (gg rfl rfl (eTF h872)) rfl <| Wn.s (gg rfl rfl (eTF h872)) rfl <| Wn.s (gg rfl rfl (eTF h872)) rfl <| Wn.od (o_pt rfl h872 rfl) rfl <| Wn.od (o_mv rfl) rfl <| Wn.og (o_ld (k := 3) t34 rfl rfl rfl) (gg rfl rfl rfl) rfl <| Wn.og (o_mv rfl) (gg rfl rfl rfl) rfl <| Wn.og (o_mv rfl) (gg rfl rfl rfl) rfl <| Wn.og (o_mv rfl) (gg rfl rfl rfl) rfl ?_
          obtain ⟨h873, hF⟩ := gd_some hF
          replace h873 := inB_some h873
          refine Wn.og (o_ixs s49 rfl rfl h873) (gg rfl rfl rfl) rfl <| Wn.og (o_ldr (k := 2) t3 rfl rfl (map_at h843) rfl rfl) (gg rfl rfl rfl) rfl ?_
          obtain ⟨l875, h874, hF⟩ := ob_some hF
          refine Wn.c (o_ce rfl rfl (fun m hm => f83_ok n l339 x842 (some ⟨b840, o841, none⟩) c341 _ h874 m (hm.rd (k := 6) rfl (.rd _ _ _ _ _))) fun _ => rfl) (gg rfl rfl rfl) rfl ?_
          rintro ⟨a876, n877⟩
          refine Wn.len (k := 0) (xs := l875) rfl ?_
          rintro rfl
          refine Wn.og (o_mv rfl) (gg rfl rfl rfl) rfl ?_
          obtain ⟨r879, h878, hF⟩ := ob_some hF
          refine Wn.c (o_ce rfl rfl (fun m hm => f84_ok n x1 l2 l875 x632 (some ⟨b845, o846, none⟩) c4 a876 l875.length _ h878 m (hm.rd (k := 5) rfl (.rd _ _ _ _ _)) (hm.rd (k := 0) rfl (.sl _ _ _ _))) fun _ => rfl) (gg rfl rfl rfl) rfl ?_
          rintro ⟨⟩
          refine Wn.og (o_mv rfl) (gg rfl rfl rfl) rfl ?_
          obtain ⟨r881, h880, hF⟩ := ob_some hF
          refine Wn.c (o_ce rfl rfl (fun m hm => f86_ok n r879 x12  _ h880 m ) fun _ => rfl) (gg rfl rfl rfl) rfl ?_
          rintro ⟨⟩
          refine Wn.og (o_un rfl rfl) (gg rfl rfl rfl) rfl <| Wn.od (o_pT rfl rfl) rfl <| Wn.nil (fun m hm => OkP.all rfl) ?_
          cases hF
          exact At.en () rfl (sc rfl (sc rfl (sc rfl (sc rfl (sc rfl (sc rfl (sc rfl (sc rfl sn)))))))) (Turn.picks [4, 2, 5, 6, 3, 7, 1] rfl rfl)
         ·refine Wn.og (o_ia (r := ptr b850 1) rfl rfl (ia_c ar43 (i := 1) (by decide))) (gg rfl rfl (eFF h872)) rfl <| Wn.og (o_ld (k := 0) t3 rfl rfl rfl) (gg rfl rfl (eFF h872)) rfl <| Wn.og (o_mv rfl) (gg rfl rfl (eFF h872)) rfl <| Wn.og (o_bi rfl rfl (bin_eql _ _ _)) (gg rfl rfl (eFF h872)) rfl <| Wn.od (o_pf rfl h872 rfl) rfl <| Wn.od (o_mv rfl) rfl ?_
          rcases br_some hF with ⟨h882, hF⟩ | ⟨h882, hF⟩
          ·refine Wn.og (o_ld (k := 3) t34 rfl rfl rfl) (gg rfl rfl (eTT h882)) rfl <| Wn.og (o_mv rfl) (gg rfl rfl (eTT h882)) rfl <| Wn.og (o_mv rfl) (gg rfl rfl (eTT h882)) rfl <| Wn.og (o_mv rfl) (gg rfl rfl (eTT h882)) rfl ?_
           obtain ⟨h883, hF⟩ := gd_some hF
           replace h883 := inB_some h883
           refine Wn.og (o_ixs s49 rfl rfl h883) (gg rfl rfl (eTT h882)) rfl <| Wn.og (o_ldr (k := 2) t3 rfl rfl (map_at h843) rfl rfl) (gg rfl rfl (eTT h882)) rfl ?_
           obtain ⟨l885, h884, hF⟩ := ob_some hF
           refine Wn.c (o_ce rfl rfl (fun m hm => f83_ok n l339 x842 (some ⟨b840, o841, none⟩) c341 _ h884 m (hm.rd (k := 6) rfl (.rd _ _ _ _ _))) fun _ => rfl) (gg rfl rfl (eTT h882)) rfl ?_
           rintro ⟨a886, n887⟩
           refine Wn.len (k := 0) (xs := l885) rfl ?_
           rintro rfl
           refine Wn.og (o_mv rfl) (gg rfl rfl (eTT h882)) rfl ?_
           obtain ⟨r889, h888, hF⟩ := ob_some hF
           refine Wn.c (o_ce rfl rfl (fun m hm => f84_ok n x1 l2 l885 x632 (some ⟨b845, o846, none⟩) c4 a886 l885.length _ h888 m (hm.rd (k := 5) rfl (.rd _ _ _ _ _)) (hm.rd (k := 0) rfl (.sl _ _ _ _))) fun _ => rfl) (gg rfl rfl (eTT h882)) rfl ?_
           rintro ⟨⟩
           refine Wn.og (o_mv rfl) (gg rfl rfl (eTT h882)) rfl ?_
           obtain ⟨r891, h890, hF⟩ := ob_some hF
           refine Wn.c (o_ce rfl rfl (fun m hm => f86_ok n r889 x12  _ h890 m ) fun _ => rfl) (gg rfl rfl (eTT h882)) rfl ?_
           rintro ⟨⟩
           refine Wn.og (o_un rfl rfl) (gg rfl rfl (eTT h882)) rfl <| Wn.od (o_pt rfl h882 rfl) rfl <| Wn.nil (fun m hm => OkP.all rfl) ?_
           cases hF
           exact At.en () rfl (sc rfl (sc rfl (sc rfl (sc rfl (sc rfl (sc rfl (sc rfl (sc rfl sn)))))))) (Turn.picks [4, 2, 5, 6, 3, 7, 1] rfl rfl)
          ·refine Wn.s (gg rfl rfl (eFT h882)) rfl <| Wn.s (gg rfl rfl (eFT h882)) rfl <| Wn.s (gg rfl rfl (eFT h882)) rfl <| Wn.s (gg rfl rfl (eFT h882)) rfl <| Wn.s (gg rfl rfl (eFT h882)) rfl <| Wn.s (gg rfl rfl (eFT h882)) rfl <| Wn.s (gg rfl rfl (eFT h882)) rfl <| Wn.s (gg rfl rfl (eFT h882)) rfl <| Wn.s (gg rfl rfl (eFT h882)) rfl <| Wn.s (gg rfl rfl (eFT h882)) rfl ?_
           refine Wn.s (gg rfl rfl (eFT h882)) rfl <| Wn.s (gg rfl rfl (eFT h882)) rfl <| Wn.od (o_pf rfl h882 rfl) rfl <| Wn.nil (fun m hm => OkP.all rfl) ?_
           cases hF
           exact At.en () rfl (sc rfl (sc rfl (sc rfl (sc rfl (sc rfl (sc rfl (sc rfl (sc rfl sn)))))))) (Turn.picks [3, 1, 4, 5, 2, 6, 0] rfl rfl)
        ·clear h892
         rintro ⟨⟩
         refine At.tn ?_
         rcases br_some hF with ⟨h894, hF⟩ | ⟨h894, hF⟩
         ·refine Wk.condT rfl h894 <| Wk.seq <| Wk.region <| Wo.od (o_mv rfl) rfl <| Wo.od (o_ia (r := ptr b850 0) rfl rfl (ia_c ar43 (i := 0) (by decide))) rfl <| Wo.od (o_ld (k := 6) t3 rfl rfl rfl) rfl <| Wo.od (o_ia (r := ptr b850 1) rfl rfl (ia_c ar43 (i := 1) (by decide))) rfl <| Wo.od (o_ld (k := 6) t3 rfl rfl rfl) rfl <| Wo.od (o_bi rfl rfl (bin_add _ _ _)) rfl <| Wo.od (o_mv rfl) rfl <| Wo.od (o_bi rfl rfl (bin_sub _ _ _)) rfl <| Wo.x (o_bs (es := ([IntKind.wrap .i64 ((IntKind.wrap .i64 (x847 + x848)) - x632)] : List (Int)).map (eI .i64)) s49 rfl (bs_c s49 z3 rfl rfl) rfl rfl) gn rfl fun b895 => ?_
          obtain ⟨h896, hF⟩ := gd_some hF
          refine Wo.turn (Turn.close (k := 4) rfl) <| Wo.x (o_apl (k := 4) (k2 := 0) (xs := (l336 : List (Int))) (ys := ([IntKind.wrap .i64 ((IntKind.wrap .i64 (x847 + x848)) - x632)] : List (Int))) (enI .i64) s49 ⟨_, u49⟩ rfl rfl rfl (.arr _ _ _ _ _) h896) gn rfl fun a897 => ?_
          refine Wo.od (o_as rfl) rfl <| Wo.nil <| At.tn <| Wk.seq <| Wk.region <| Wo.od (o_mv rfl) rfl <| Wo.od (o_mv rfl) rfl <| Wo.od (o_mv rfl) rfl ?_
          obtain ⟨h898, hF⟩ := gd_some hF
          replace h898 := inB_some h898
          refine Wo.og (o_ixs s49 rfl rfl h898) gn rfl <| Wo.od (o_ldr (k := 5) t3 rfl rfl (map_at h843) rfl rfl) rfl ?_
          obtain ⟨l900, h899, hF⟩ := ob_some hF
          refine Wo.x (o_cl rfl rfl (fun m hm => f83_ok n l339 x842 (some ⟨b840, o841, none⟩) c341 _ h899 m (hm.rd (k := 6) rfl (.rd _ _ _ _ _))) fun _ => rfl) gn rfl ?_
          rintro ⟨a901, n902⟩
          refine Wo.len (k := 0) (xs := l900) rfl ?_
          rintro rfl
          refine Wo.od (o_as rfl) rfl <| Wo.nil <| At.tn <| Wk.exit <| At.bx rfl <| At.te ?_
          cases hF
          exact At.en (a897, a901, l900.length) rfl (sc rfl (sc rfl (sc rfl (sc rfl sn)))) (Turn.trans (Turn.freeze (k := 0) rfl) (Turn.picks [2, 4, 5, 0] rfl rfl))
         ·refine Wk.condF rfl h894 <| Wk.skip <| At.bn <| At.tn <| Wk.region <| Wo.od (o_mv rfl) rfl <| Wo.od (o_bi rfl rfl (bin_add _ _ _)) rfl <| Wo.od (o_as rfl) rfl <| Wo.nil ?_
          cases hF
          exact At.en () rfl (sc rfl (sc rfl (sc rfl (sc rfl (sc rfl (sc rfl sn)))))) (Turn.picks [0, 2, 3, 5] rfl rfl)
       ·refine Wk.condF rfl h774 <| Wk.exit <| At.te ?_
        cases hF
        exact At.en ((some ⟨b629, 0, none⟩), a340, c341) rfl (sc rfl (sc rfl (sc rfl (sc rfl sn)))) (Turn.trans (Turn.close (k := 2) rfl) (Turn.picks [0, 1, 2, 3] rfl rfl))
      ·clear h903
       obtain ⟨l768, n770, l771⟩ := r904
       rintro ⟨a769, a772, c773⟩
       refine At.be <| At.bn ?_
       cases hF
       exact At.en (a769, a772, c773) rfl (sc rfl (sc rfl (sc rfl (sc rfl sn)))) (Turn.picks [0, 1, 2, 3] rfl rfl)
     ·refine Wk.condF rfl h634 <| Wk.exit <| At.te ?_
      cases hF
      exact At.en (some ⟨b629, 0, none⟩) rfl (sc rfl sn) (Turn.trans (Turn.close (k := 2) rfl) (Turn.picks [2] rfl rfl))
    ·clear h905
     obtain ⟨l625, n627⟩ := r906
     rintro a626
     refine At.be <| At.tn <| Wk.seq <| Wk.region <| Wo.od (o_mv rfl) rfl <| Wo.od (o_as rfl) rfl <| Wo.od (o_as rfl) rfl <| Wo.nil <| At.tn <| Wk.ret ?_
     cases hF
     exact At.ret (.tmp rfl (.tmp rfl .nil)) fun m' hm => ⟨(a626, n627), rfl, (Turn.picks [0] rfl rfl) m' hm⟩
theorem f18_ok (n : Nat) (l1 : List (Int)) (l5 : List (Int)) (a2 : Option Addr) (c3 : Nat) (a6 : Option Addr) (c7 : Nat) (r : Bool) (hF : F18 n l1 l5 = some r) (m : AMem) (h4 : Rd m a2 c3 1 l1.length (l1.map (eI .i64))) (h8 : Rd m a6 c7 1 l5.length (l5.map (eI .i64))) :
  CallA E30w 18 [.slice a2 l1.length c3, .slice a6 l5.length c7] m (fun v m' => ∃ x : Unit, v = .bool r ∧ Hp m m' []) := by
 unfold F18 at hF
 refine call_wk (m0 := m) (ps := [.rd a6 c7 1 l5.length (l5.map (eI .i64)), .rd a2 c3 1 l1.length (l1.map (eI .i64))]) (N := 26) (rs := [.tmp 4]) rfl Tryz.func18 rfl rfl rfl (((Hp.start m).inn rfl h4).inn rfl h8) <| Wk.seq <| Wk.region <| Wo.od (o_as rfl) rfl <| Wo.nil <| At.tn <| Wk.seq <| Wk.seq <| Wk.region <| Wo.od (o_mv rfl) rfl <| Wo.od (o_ln (k := 1) u49 rfl rfl (.inl rfl)) rfl <| Wo.od (o_mv rfl) rfl <| Wo.od (o_ln (k := 0) u49 rfl rfl (.inl rfl)) rfl <| Wo.od (o_bi rfl rfl (ib_neq _ _)) rfl <| Wo.nil <| At.tn ?_
 rcases br_some hF with ⟨h9, hF⟩ | ⟨h9, hF⟩
 ·refine Wk.condT rfl h9 <| Wk.seq <| Wk.region <| Wo.od (o_as rfl) rfl <| Wo.nil <| At.tn <| Wk.ret <| At.tr ?_
  cases hF
  exact At.ret (.tmp rfl .nil) fun m' hm => ⟨(), rfl, (Turn.picks [] rfl rfl) m' hm⟩
 ·refine Wk.condF rfl h9 <| Wk.skip <| At.tn <| Wk.seq <| Wk.seq <| Wk.region <| Wo.od (o_mv rfl) rfl <| Wo.od (o_ln (k := 1) u49 rfl rfl (.inl rfl)) rfl <| Wo.od (o_mv rfl) rfl <| Wo.nil <| At.tn <| Wk.block ?_
  obtain ⟨r38, h37, hF⟩ := ob_some hF
  refine Wk.cut (G := (fun (r : (Unit) ⊕ (Unit)) (g : Unit) => match r, g with | .inl _, _ => ⟨.ret, [(4, .bool false)], []⟩ | .inr _, _ => ⟨(.exit 0), [], []⟩) r38) ?_ ?_
  ·refine Wk.weak (fs' := [(0, .slice a2 l1.length c3), (1, .slice a6 l5.length c7), (12, .int .i64 (l1.length : Int)), (13, .int .i64 0)]) (ps' := [.rd a2 c3 1 l1.length (l1.map (eI .i64)), .rd a6 c7 1 l5.length (l5.map (eI .i64))]) (sc rfl (sc rfl (sc rfl (sc rfl sn)))) (Turn.picks [1, 0] rfl rfl) ?_
   refine Wk.loop (σ := Int) (ρ := (Unit) ⊕ (Unit)) (γ := Unit) (δ := fun _ => Unit) _ (fun (s : Int) (g : Unit) => match s, g with | v11, _ => ⟨.normal, [(0, .slice a2 l1.length c3), (1, .slice a6 l5.length c7), (12, .int .i64 (l1.length : Int)), (13, .int .i64 v11)], [.rd a2 c3 1 l1.length (l1.map (eI .i64)), .rd a6 c7 1 l5.length (l5.map (eI .i64))]⟩) (fun (r : (Unit) ⊕ (Unit)) (g : Unit) => match r, g with | .inl _, _ => ⟨.ret, [(4, .bool false)], []⟩ | .inr _, _ => ⟨(.exit 0), [], []⟩) ?_ (fun _ _ => rfl) (fun r d => by rcases r with _ | _ <;> (intro e; cases e)) _ _ _ h37 ()
   clear hF h37
   rintro v11 ⟨⟩ r hF
   unfold L18_1 at hF
   refine Wk.seq <| Wk.region <| Wo.od (o_bi rfl rfl (bin_lss _ _ _)) rfl <| Wo.nil <| At.tn <| Wk.seq ?_
   rcases br_some hF with ⟨h25, hF⟩ | ⟨h25, hF⟩
   ·refine Wk.condT rfl h25 <| Wk.skip <| At.tn <| Wk.seq <| Wk.block <| Wk.seq <| Wk.region <| Wo.od (o_mv rfl) rfl <| Wo.od (o_as rfl) rfl <| Wo.nil <| At.tn <| Wk.seq <| Wk.draw (by kernel_rfl) <| Wo.od (o_mv rfl) rfl <| Wo.od (o_mv rfl) rfl ?_
    obtain ⟨h26, hF⟩ := gd_some hF
    replace h26 := inB_some h26
    refine Wo.openr (k := 0) rfl (pos_of h26) ?_
    rintro b27 o28 rfl
    refine Wo.og (o_ixs s49 rfl rfl h26) gn rfl ?_
    obtain ⟨x29, h30, hF⟩ := ob_some hF
    refine Wo.od (o_ldr (k := 0) t3 rfl rfl (map_at h30) rfl rfl) rfl <| Wo.od (o_mv rfl) rfl <| Wo.od (o_mv rfl) rfl ?_
    obtain ⟨h31, hF⟩ := gd_some hF
    replace h31 := inB_some h31
    refine Wo.openr (k := 2) rfl (pos_of h31) ?_
    rintro b32 o33 rfl
    refine Wo.og (o_ixs s49 rfl rfl h31) gn rfl ?_
    obtain ⟨x34, h35, hF⟩ := ob_some hF
    refine Wo.od (o_ldr (k := 0) t3 rfl rfl (map_at h35) rfl rfl) rfl <| Wo.od (o_bi rfl rfl (ib_neq _ _)) rfl <| Wo.nil <| At.tn ?_
    rcases br_some hF with ⟨h36, hF⟩ | ⟨h36, hF⟩
    ·refine Wk.condT rfl h36 <| Wk.seq <| Wk.region <| Wo.od (o_as rfl) rfl <| Wo.nil <| At.tn <| Wk.ret <| At.br <| At.tr ?_
     cases hF
     exact At.en () rfl (sc rfl sn) (Turn.picks [] rfl rfl)
    ·refine Wk.condF rfl h36 <| Wk.skip <| At.bn <| At.tn <| Wk.region <| Wo.od (o_bi rfl rfl (bin_add _ _ _)) rfl <| Wo.od (o_mv rfl) rfl <| Wo.nil ?_
     cases hF
     exact At.en () rfl (sc rfl (sc rfl (sc rfl (sc rfl sn)))) (Turn.picks [2, 3] rfl rfl)
   ·refine Wk.condF rfl h25 <| Wk.exit <| At.te ?_
    cases hF
    exact At.en () rfl sn (Turn.picks [] rfl rfl)
  ·clear h37
   rcases r38 with _ | _
   ·rintro ⟨⟩
    refine At.br <| At.tr ?_
    cases hF
    exact At.ret (.tmp rfl .nil) fun m' hm => ⟨(), rfl, (Turn.picks [] rfl rfl) m' hm⟩
   ·rintro ⟨⟩
    refine At.be <| At.tn <| Wk.seq <| Wk.region <| Wo.od (o_as rfl) rfl <| Wo.nil <| At.tn <| Wk.ret ?_
    cases hF
    exact At.ret (.tmp rfl .nil) fun m' hm => ⟨(), rfl, (Turn.picks [] rfl rfl) m' hm⟩
end Go.Proofs.YtookeaakpiefjaaGreatDoor
end

section
namespace Go.Proofs.YtookeaakpiefjaaGreatDoor
open Go Go.Ab Go.Ab.W
set_option maxRecDepth 10000
set_option maxHeartbeats 4000000
attribute [local irreducible] Tm.at Trie.set Trie.get AMem.get AMem.set AMem.alloc AMem.ww AMem.kill
theorem f5_ok (n : Nat) (x1 : Nat) (x2 : Nat) (x3 : Nat) (l4 : List (Nat × Nat)) (x8 : Nat) (x9 : Nat) (x10 : Int) (x11 : Nat) (x12 : Nat) (l13 : List (Int)) (x17 : Int) (x18 : Int) (x19 : Int) (a5 : Option Addr) (c6 : Nat) (a14 : Option Addr) (c15 : Nat) (r : Bool) (hF : F5 n x1 x2 x3 l4 x8 x9 x10 x11 x12 l13 x17 x18 x19 = some r) (m : AMem) (hG : Gl m) (h7 : Rd m a5 c6 2 l4.length (l4.map (eP (eN .u8) (eN .u8)))) (h16 : Rd m a14 c15 1 l13.length (l13.map (eI .i64))) :
  CallA E30w 5 [.agg #[.int .u8 ((x1 : Nat) : Int), .int .u8 ((x2 : Nat) : Int), .int .u16 ((x3 : Nat) : Int), .slice a5 l4.length c6], .int .u64 ((x8 : Nat) : Int), .agg #[.int .u8 ((x9 : Nat) : Int), .int .i64 x10, .int .u64 ((x11 : Nat) : Int)], .int .u16 ((x12 : Nat) : Int), .slice a14 l13.length c15, .int .i64 x17, .int .i64 x18, .int .i64 x19] m (fun v m' => ∃ x : Unit, v = .bool r ∧ Hp m m' []) := by
 unfold F5 at hF
 refine call_wk (m0 := m) (ps := [.rd a14 c15 1 l13.length (l13.map (eI .i64)), .rd a5 c6 2 l4.length (l4.map (eP (eN .u8) (eN .u8)))]) (N := 185) (rs := [.tmp 16]) rfl Tryz.func5 rfl rfl rfl (((Hp.start m).inn rfl h7).inn rfl h16) <| Wk.seq <| Wk.region <| Wo.x (o_bx rfl) gn rfl fun b20 => ?_
 refine Wo.x (o_bx rfl) gn rfl fun b21 => ?_
 refine Wo.od (o_as rfl) rfl <| Wo.nil <| At.tn <| Wk.seq <| Wk.seq <| Wk.region ?_
 obtain ⟨r23, h22, hF⟩ := ob_some hF
 refine Wo.x (o_cl rfl rfl (fun m hm => f8_ok n   _ h22 m (hG.ext hm.ext) ) fun _ => rfl) gn rfl ?_
 rintro ⟨⟩
 refine Wo.od (o_un rfl rfl) rfl <| Wo.nil <| At.tn ?_
 rcases br_some hF with ⟨h24, hF⟩ | ⟨h24, hF⟩
 ·refine Wk.condT rfl h24 <| Wk.seq <| Wk.region <| Wo.od (o_as rfl) rfl <| Wo.nil <| At.tn <| Wk.ret <| At.tr ?_
  cases hF
  exact At.ret (.tmp rfl .nil) fun m' hm => ⟨(), rfl, (Turn.picks [] rfl rfl) m' hm⟩
 ·refine Wk.condF rfl h24 <| Wk.skip <| At.tn <| Wk.seq <| Wk.seq <| Wk.region <| Wo.od (o_ld (k := 1) t25 rfl rfl rfl) rfl <| Wo.od (o_mv rfl) rfl <| Wo.od (o_ld (k := 0) t28 rfl rfl rfl) rfl ?_
  obtain ⟨r150, h151, hF⟩ := ob_some hF
  refine Wo.x (o_cs (α := Option Addr × Option Addr × Option Addr) (V := fun g => (fun (r : Int × List (Int × Int) × Nat × Int × Nat × Int × List (Int × Int) × Nat) (g : Option Addr × Option Addr × Option Addr) => match r, g with | (v83, l84, v86, v87, v88, v89, l90, v92), (a82, a85, a91) => (.slice a82 3 3 : Value)) r150 g) (N := fun g => (fun (r : Int × List (Int × Int) × Nat × Int × Nat × Int × List (Int × Int) × Nat) (g : Option Addr × Option Addr × Option Addr) => match r, g with | (v83, l84, v86, v87, v88, v89, l90, v92), (a82, a85, a91) => ([.sl a82 3 3 [[.int .i64 v83, .slice a85 l84.length l84.length, .int .u64 ((v86 : Nat) : Int)], [.int .i64 v87, .slice a85 l84.length l84.length, .int .u64 ((v88 : Nat) : Int)], [.int .i64 v89, .slice a91 l90.length l90.length, .int .u64 ((v92 : Nat) : Int)]], .sl a85 2 l84.length (l84.map (eP (eI .i64) (eI .i64))), .sl a91 2 l90.length (l90.map (eP (eI .i64) (eI .i64))), .rd a14 c15 1 l13.length (l13.map (eI .i64))] : List Pc)) r150 g) rfl rfl (fun m hm => ?_)) gn rfl ?_
  ·clear hF
   revert r150
   intro r hF
   refine call_wk (N := 49) (rs := [.tmp 6]) rfl Tryz.func9 rfl rfl rfl hm <| Wk.seq <| Wk.region <| Wo.x (o_bx rfl) gn rfl fun b93 => ?_
   refine Wo.x (o_bx rfl) gn rfl fun b94 => ?_
   refine Wo.od (o_as rfl) rfl <| Wo.nil <| At.tn <| Wk.seq <| Wk.region <| Wo.od (o_ld (k := 1) t25 rfl rfl rfl) rfl ?_
   obtain ⟨⟨r96, l97⟩, h95, hF⟩ := ob_some hF
   refine Wo.x (o_cl rfl rfl (fun m hm => f28_ok n x1 x2 x3 l4 a5 c6 _ h95 m (hm.rd (k := 5) rfl (.rd _ _ _ _ _))) fun _ => rfl) gn rfl ?_
   rintro ⟨a98, n99⟩
   refine Wo.len (k := 0) (xs := l97) rfl ?_
   rintro rfl
   refine Wo.x (o_al z34 rfl) gn rfl fun b100 => ?_
   refine Wo.o0 (o_st (k := 0) t34 rfl rfl rfl rfl rfl) <| Wo.nil <| At.tn <| Wk.seq <| Wk.region <| Wo.od (o_ld (k := 0) t34 rfl rfl rfl) rfl <| Wo.od (o_mv rfl) rfl ?_
   obtain ⟨r102, h101, hF⟩ := ob_some hF
   refine Wo.x (o_cl rfl rfl (fun m hm => f50_ok n r96 l97 x8 a98 l97.length _ h101 m (hm.rd (k := 1) rfl (.sl _ _ _ _))) fun _ => rfl) gn rfl ?_
   rintro ⟨⟩
   refine Wo.od (o_as rfl) rfl <| Wo.nil <| At.tn <| Wk.seq <| Wk.drawc (prs := [(0, 5), (3, 5)]) (by kernel_rfl) <| Wn.od (o_ld (k := 0) t34 rfl rfl rfl) rfl <| Wn.od (o_mv rfl) rfl <| Wn.od (o_bd rfl z36 rfl (bd_s bs36 rfl rfl rfl)) rfl <| Wn.od (o_ld (k := 0) t34 rfl rfl rfl) rfl <| Wn.od (o_ld (k := 0) t34 rfl rfl rfl) rfl ?_
   obtain ⟨r104, h103, hF⟩ := ob_some hF
   refine Wn.c (o_ce rfl rfl (fun m hm => f50_ok n r96 l97 18446744073709551615 a98 l97.length _ h103 m (hm.rd (k := 1) rfl (.sl _ _ _ _))) fun _ => rfl) gn rfl ?_
   rintro ⟨⟩
   refine Wn.od (o_bd rfl z36 rfl (bd_s bs36 rfl rfl rfl)) rfl <| Wn.x (o_bsx (es := [[.int .i64 r96, .slice a98 l97.length l97.length, .int .u64 ((r102 : Nat) : Int)], [.int .i64 r96, .slice a98 l97.length l97.length, .int .u64 ((r104 : Nat) : Int)]]) s30 rfl (bs_c s30 z36 rfl rfl) rfl rfl) gn rfl fun b105 => ?_
   refine Wn.od (o_as rfl) rfl <| Wn.nil (fun m hm => OkP.all rfl) <| At.tn <| Wk.seq <| Wk.region <| Wo.od (o_ld (k := 3) t28 rfl rfl rfl) rfl <| Wo.od (o_ld (k := 1) t34 rfl rfl rfl) rfl <| Wo.od (o_mv rfl) rfl ?_
   obtain ⟨⟨r107, l108, r111⟩, h106, hF⟩ := ob_some hF
   refine Wo.x (o_cl rfl rfl (fun m hm => f51_ok n x9 x10 x11 r96 l97 r102 a98 l97.length _ h106 m (hm.rd (k := 2) rfl (.sl _ _ _ _))) fun _ => rfl) gn rfl ?_
   rintro ⟨a109, n110⟩
   refine Wo.len (k := 0) (xs := l108) rfl ?_
   rintro rfl
   refine Wo.od (o_mv rfl) rfl <| Wo.od (o_ex rfl rfl) rfl <| Wo.od (o_ex rfl rfl) rfl <| Wo.x (o_al z34 rfl) gn rfl fun b112 => ?_
   refine Wo.o0 (o_st (k := 0) t34 rfl rfl rfl rfl rfl) <| Wo.od (o_as rfl) rfl <| Wo.nil <| At.tn <| Wk.seq ?_
   obtain ⟨v129, h146, hF⟩ := ob_some hF
   refine Wk.cut (G := (fun (r : Nat) (g : Unit) => match r, g with | v129, _ => ⟨.normal, [(9, .slice (some ⟨b105, 0, none⟩) 2 2), (10, ptr b112 0), (11, .int .u64 ((v129 : Nat) : Int))], [.obj b105 (.cells [.int .i64 r96, .slice a98 l97.length l97.length, .int .u64 ((r102 : Nat) : Int), .int .i64 r96, .slice a98 l97.length l97.length, .int .u64 ((r104 : Nat) : Int)] .own), .sl a98 2 l97.length (l97.map (eP (eI .i64) (eI .i64))), .obj b112 (.cells [.int .i64 r107, .slice a109 l108.length l108.length] .own), .sl a109 2 l108.length (l108.map (eP (eI .i64) (eI .i64))), .rd a14 c15 1 l13.length (l13.map (eI .i64))]⟩) v129) ?_ ?_
   ·clear hF
    revert v129
    intro r hF
    refine Wk.seq ?_
    obtain ⟨v135, h141, hF⟩ := ob_some hF
    refine Wk.cut (G := (fun (r : Bool) (g : Unit) => match r, g with | v135, _ => ⟨.normal, [(9, .slice (some ⟨b105, 0, none⟩) 2 2), (10, ptr b112 0), (11, .int .u64 ((r111 : Nat) : Int)), (39, .bool v135)], [.obj b105 (.cells [.int .i64 r96, .slice a98 l97.length l97.length, .int .u64 ((r102 : Nat) : Int), .int .i64 r96, .slice a98 l97.length l97.length, .int .u64 ((r104 : Nat) : Int)] .own), .sl a98 2 l97.length (l97.map (eP (eI .i64) (eI .i64))), .obj b112 (.cells [.int .i64 r107, .slice a109 l108.length l108.length] .own), .sl a109 2 l108.length (l108.map (eP (eI .i64) (eI .i64))), .rd a14 c15 1 l13.length (l13.map (eI .i64))]⟩) v135) ?_ ?_
    ·clear hF
     revert v135
     intro r hF
     refine Wk.region <| Wo.od (o_ld (k := 0) t34 rfl rfl rfl) rfl ?_
     obtain ⟨r137, h136, hF⟩ := ob_some hF
     refine Wo.x (o_cl rfl rfl (fun m hm => f52_ok n r107 l108 a109 l108.length _ h136 m (hm.rd (k := 1) rfl (.sl _ _ _ _))) fun _ => rfl) gn rfl ?_
     rintro ⟨⟩
     refine Wo.od (o_bi rfl rfl (bin_eql _ _ _)) rfl <| Wo.od (o_mv rfl) rfl ?_
     rcases br_some hF with ⟨h138, hF⟩ | ⟨h138, hF⟩
     ·refine Wo.og (o_mv rfl) (gg rfl rfl (eTT h138)) rfl ?_
      obtain ⟨r140, h139, hF⟩ := ob_some hF
      refine Wo.x (o_cl rfl rfl (fun m hm => f53_ok n r111  _ h139 m ) fun _ => rfl) (gg rfl rfl (eTT h138)) rfl ?_
      rintro ⟨⟩
      refine Wo.og (o_bi rfl rfl (bin_gtr _ _ _)) (gg rfl rfl (eTT h138)) rfl <| Wo.od (o_pt rfl h138 rfl) rfl <| Wo.nil ?_
      cases hF
      exact At.en () rfl (sc rfl (sc rfl (sc rfl (sc rfl sn)))) (Turn.picks [2, 4, 0, 1, 9] rfl rfl)
     ·refine Wo.s (gg rfl rfl (eFT h138)) rfl <| Wo.s (gg rfl rfl (eFT h138)) rfl <| Wo.s (gg rfl rfl (eFT h138)) rfl <| Wo.od (o_pf rfl h138 rfl) rfl <| Wo.nil ?_
      cases hF
      exact At.en () rfl (sc rfl (sc rfl (sc rfl (sc rfl sn)))) (Turn.picks [2, 4, 0, 1, 9] rfl rfl)
    ·clear h141
     rintro ⟨⟩
     refine At.tn ?_
     rcases br_some hF with ⟨h143, hF⟩ | ⟨h143, hF⟩
     ·refine Wk.condT rfl h143 <| Wk.region <| Wo.od (o_ld (k := 2) t34 rfl rfl rfl) rfl <| Wo.od (o_mv rfl) rfl ?_
      obtain ⟨r145, h144, hF⟩ := ob_some hF
      refine Wo.x (o_cl rfl rfl (fun m hm => f50_ok n r107 l108 r111 a109 l108.length _ h144 m (hm.rd (k := 3) rfl (.sl _ _ _ _))) fun _ => rfl) gn rfl ?_
      rintro ⟨⟩
      refine Wo.od (o_as rfl) rfl <| Wo.nil ?_
      have hr := Option.some.inj hF
      subst r
      exact At.en () rfl (sc rfl (sc rfl (sc rfl sn))) (Turn.picks [0, 1, 2, 3, 4] rfl rfl)
     ·refine Wk.condF rfl h143 <| Wk.skip ?_
      have hr := Option.some.inj hF
      subst r
      exact At.en () rfl (sc rfl (sc rfl (sc rfl sn))) (Turn.picks [0, 1, 2, 3, 4] rfl rfl)
   ·clear h146
    rintro ⟨⟩
    refine At.tn <| Wk.seq <| Wk.region <| Wo.od (o_mv rfl) rfl <| Wo.od (o_ld (k := 2) t34 rfl rfl rfl) rfl <| Wo.od (o_mv rfl) rfl <| Wo.od (o_bd rfl z36 rfl (bd_s bs36 rfl rfl rfl)) rfl <| Wo.x (o_bsx (es := [[.int .i64 r107, .slice a109 l108.length l108.length, .int .u64 ((v129 : Nat) : Int)]]) s30 rfl (bs_c s30 z36 rfl rfl) rfl rfl) gn rfl fun b148 => ?_
    refine Wo.turn (Turn.asX (k := 1) (es := [[.int .i64 r96, .slice a98 l97.length l97.length, .int .u64 ((r102 : Nat) : Int)], [.int .i64 r96, .slice a98 l97.length l97.length, .int .u64 ((r104 : Nat) : Int)]]) (w := 3) (n := 2) rfl rfl rfl rfl rfl) <| Wo.turn (Turn.asX (k := 0) (es := [[.int .i64 r107, .slice a109 l108.length l108.length, .int .u64 ((v129 : Nat) : Int)]]) (w := 3) (n := 1) rfl rfl rfl rfl rfl) <| Wo.x (o_apx (k := 1) (k2 := 0) (n3 := 3) (es3 := [[.int .i64 r96, .slice a98 l97.length l97.length, .int .u64 ((r102 : Nat) : Int)], [.int .i64 r96, .slice a98 l97.length l97.length, .int .u64 ((r104 : Nat) : Int)], [.int .i64 r107, .slice a109 l108.length l108.length, .int .u64 ((v129 : Nat) : Int)]]) s30 ⟨_, u30⟩ rfl rfl rfl rfl rfl rfl rfl rfl) gn rfl fun a149 => ?_
    refine Wo.od (o_as rfl) rfl <| Wo.nil <| At.tn <| Wk.ret ?_
    cases hF
    exact At.ret (.tmp rfl .nil) fun m' hm => ⟨(a149, a98, a109), rfl, (Turn.picks [1, 2, 4, 5] rfl rfl) m' hm⟩
  ·clear h151
   obtain ⟨v83, l84, v86, v87, v88, v89, l90, v92⟩ := r150
   rintro ⟨a82, a85, a91⟩
   refine Wo.od (o_ln (k := 0) u30 rfl rfl (.inl rfl)) rfl <| Wo.od (o_mv rfl) rfl <| Wo.nil <| At.tn <| Wk.block ?_
   obtain ⟨r1345, h1344, hF⟩ := ob_some hF
   refine Wk.cut (G := (fun (r : (Unit) ⊕ (Unit)) (g : Unit) => match r, g with | .inl _, _ => ⟨.ret, [(16, .bool false)], []⟩ | .inr _, _ => ⟨(.exit 0), [], []⟩) r1345) ?_ ?_
   ·refine Wk.weak (fs' := [(3, .int .u16 ((x12 : Nat) : Int)), (4, .slice a14 l13.length c15), (5, .int .i64 x17), (6, .int .i64 x18), (7, .int .i64 x19), (44, .slice a82 3 3), (45, .int .i64 3), (46, .int .i64 0)]) (ps' := [.rd a14 c15 1 l13.length (l13.map (eI .i64)), .sl a82 3 3 [[.int .i64 v83, .slice a85 l84.length l84.length, .int .u64 ((v86 : Nat) : Int)], [.int .i64 v87, .slice a85 l84.length l84.length, .int .u64 ((v88 : Nat) : Int)], [.int .i64 v89, .slice a91 l90.length l90.length, .int .u64 ((v92 : Nat) : Int)]], .rd a85 l84.length 2 l84.length (l84.map (eP (eI .i64) (eI .i64))), .rd a91 l90.length 2 l90.length (l90.map (eP (eI .i64) (eI .i64)))]) (sc rfl (sc rfl (sc rfl (sc rfl (sc rfl (sc rfl (sc rfl (sc rfl sn)))))))) (Turn.trans (Turn.freeze (k := 1) rfl) (Turn.trans (Turn.freeze (k := 2) rfl) (Turn.picks [3, 0, 1, 2] rfl rfl))) ?_
    refine Wk.loop (σ := Int) (ρ := (Unit) ⊕ (Unit)) (γ := Unit) (δ := fun _ => Unit) _ (fun (s : Int) (g : Unit) => match s, g with | v550, _ => ⟨.normal, [(3, .int .u16 ((x12 : Nat) : Int)), (4, .slice a14 l13.length c15), (5, .int .i64 x17), (6, .int .i64 x18), (7, .int .i64 x19), (44, .slice a82 3 3), (45, .int .i64 3), (46, .int .i64 v550)], [.rd a14 c15 1 l13.length (l13.map (eI .i64)), .sl a82 3 3 [[.int .i64 v83, .slice a85 l84.length l84.length, .int .u64 ((v86 : Nat) : Int)], [.int .i64 v87, .slice a85 l84.length l84.length, .int .u64 ((v88 : Nat) : Int)], [.int .i64 v89, .slice a91 l90.length l90.length, .int .u64 ((v92 : Nat) : Int)]], .rd a85 l84.length 2 l84.length (l84.map (eP (eI .i64) (eI .i64))), .rd a91 l90.length 2 l90.length (l90.map (eP (eI .i64) (eI .i64)))]⟩) (fun (r : (Unit) ⊕ (Unit)) (g : Unit) => match r, g with | .inl _, _ => ⟨.ret, [(16, .bool false)], []⟩ | .inr _, _ => ⟨(.exit 0), [], []⟩) ?_ (fun _ _ => rfl) (fun r d => by rcases r with _ | _ <;> (intro e; cases e)) _ _ _ h1344 ()
    clear hF h1344
    rintro v550 ⟨⟩ r hF
    unfold L5_3 at hF
    refine Wk.seq <| Wk.region <| Wo.od (o_bi rfl rfl (bin_lss _ _ _)) rfl <| Wo.nil <| At.tn <| Wk.seq ?_
    rcases br_some hF with ⟨h948, hF⟩ | ⟨h948, hF⟩
    ·refine Wk.condT rfl h948 <| Wk.skip <| At.tn <| Wk.seq <| Wk.block <| Wk.seq <| Wk.region ?_
     obtain ⟨h949, hF⟩ := gd_some hF
     replace h949 := inB_some h949
     refine Wo.open (k := 1) rfl (pos_of h949) ?_
     rintro b950 tg951 rfl h952
     refine Wo.og (o_ixa s30 rfl rfl h949) gn rfl ?_
     obtain ⟨⟨x953, l954, x957⟩, h958, hF⟩ := ob_some hF
     refine Wo.x (o_ldsel (β := Option Addr × Nat) (V := fun g => match g with | (a955, c956) => .agg #[.int .i64 x953, .slice a955 l954.length c956, .int .u64 ((x957 : Nat) : Int)]) (N := fun g => match g with | (a955, c956) => [.rd a955 c956 2 l954.length (l954.map (eP (eI .i64) (eI .i64)))] ++ [.rd a14 c15 1 l13.length (l13.map (eI .i64)), .arr b950 3 3 [[.int .i64 v83, .slice a85 l84.length l84.length, .int .u64 ((v86 : Nat) : Int)], [.int .i64 v87, .slice a85 l84.length l84.length, .int .u64 ((v88 : Nat) : Int)], [.int .i64 v89, .slice a91 l90.length l90.length, .int .u64 ((v92 : Nat) : Int)]] tg951, .rd a85 l84.length 2 l84.length (l84.map (eP (eI .i64) (eI .i64))), .rd a91 l90.length 2 l90.length (l90.map (eP (eI .i64) (eI .i64)))]) rfl (fun m hm => Pc.any_lt (hm.get (k := 1) rfl) (.inl rfl)) (fun m hm => ?_)) gn rfl ?_
     ·clear hF
      generalize v550.toNat = j at h958 ⊢
      match j, h958 with
      | 0, h958 => cases h958; exact ⟨(a85, l84.length), ldx (k := 1) (j := 0) hm t36 rfl rfl rfl rfl, (Hp.dup hm (k := 2) rfl)⟩
      | 1, h958 => cases h958; exact ⟨(a85, l84.length), ldx (k := 1) (j := 1) hm t36 rfl rfl rfl rfl, (Hp.dup hm (k := 2) rfl)⟩
      | 2, h958 => cases h958; exact ⟨(a91, l90.length), ldx (k := 1) (j := 2) hm t36 rfl rfl rfl rfl, (Hp.dup hm (k := 3) rfl)⟩
      | _ + 3, h958 => cases h958
     rintro ⟨a955, c956⟩
     refine Wo.x (o_al z36 rfl) gn rfl fun b959 => ?_
     refine Wo.o0 (o_st (k := 0) t36 rfl rfl rfl rfl rfl) <| Wo.nil <| At.tn <| Wk.seq <| Wk.region <| Wo.od (o_fa (r := ptr b959 0) rfl (fa36_0 _ _)) rfl <| Wo.od (o_ld (k := 0) t34 rfl rfl rfl) rfl <| Wo.od (o_fa (r := ptr b959 2) rfl (fa36_1 _ _)) rfl <| Wo.od (o_ld (k := 0) t26 rfl rfl rfl) rfl ?_
     obtain ⟨⟨r961, r962, r963, r964, r965, r966, r967, r968, r969⟩, h960, hF⟩ := ob_some hF
     refine Wo.x (o_cl rfl rfl (fun m hm => f11_ok n x953 l954 x957 a955 c956 _ h960 m (hm.rd (k := 1) rfl (.rd _ _ _ _ _))) fun _ => rfl) gn rfl ?_
     rintro ⟨⟩
     refine Wo.od (o_mv rfl) rfl <| Wo.od (o_ex rfl rfl) rfl <| Wo.od (o_ex rfl rfl) rfl <| Wo.x (o_al z38 rfl) gn rfl fun b970 => ?_
     refine Wo.o0 (o_st (k := 0) t38 rfl rfl rfl rfl rfl) <| Wo.od (o_as rfl) rfl <| Wo.nil <| At.tn <| Wk.seq <| Wk.region <| Wo.od (o_ld (k := 0) t38 rfl rfl rfl) rfl ?_
     obtain ⟨⟨r972, r973⟩, h971, hF⟩ := ob_some hF
     refine Wo.x (o_cl rfl rfl (fun m hm => f14_ok n r961 r962 r963 r964 r965 r966 r967 r968  _ h971 m ) fun _ => rfl) gn rfl ?_
     rintro ⟨⟩
     refine Wo.od (o_mv rfl) rfl <| Wo.od (o_ex rfl rfl) rfl <| Wo.od (o_ex rfl rfl) rfl <| Wo.od (o_as rfl) rfl <| Wo.od (o_as rfl) rfl <| Wo.nil <| At.tn <| Wk.seq <| Wk.drawc (prs := [(1, 9), (3, 9)]) (by kernel_rfl) <| Wn.od (o_fa (r := ptr b959 0) rfl (fa36_0 _ _)) rfl <| Wn.od (o_ld (k := 1) t34 rfl rfl rfl) rfl <| Wn.od (o_fa (r := ptr b959 2) rfl (fa36_1 _ _)) rfl <| Wn.od (o_ld (k := 1) t26 rfl rfl rfl) rfl ?_
     refine Wn.od (o_mv rfl) rfl <| Wn.od (o_cv rfl (cv_i (by rw [u22]; rfl) u3)) rfl <| Wn.od (o_mv rfl) rfl <| Wn.od (o_bu rfl rfl (bu_ma _ _)) rfl ?_
     obtain ⟨h974, hF⟩ := gd_some hF
     refine Wn.od (o_bi rfl rfl (ib_rem _ _ h974)) rfl ?_
     obtain ⟨⟨r976, r977, r978, r979, r980, r981, r982, r983⟩, h975, hF⟩ := ob_some hF
     refine Wn.c (o_ce rfl rfl (fun m hm => f16_ok n (Int.tmod (IntKind.wrap .i64 ((x12 : Nat) : Int)) (ma r972 (1 : Int)))  _ h975 m ) fun _ => rfl) gn rfl ?_
     rintro ⟨⟩
     obtain ⟨⟨l985, r989⟩, h984, hF⟩ := ob_some hF
     refine Wn.c (o_cev (N := (fun x : Option Addr × Nat × Nat => [.rd x.1 x.2.1 1 x.2.2 (l985.map (eI .i64))])) rfl rfl (fun m hm => f17_ok n x953 l954 x957 r976 r977 r978 r979 r980 r981 r982 r983 a955 c956 _ h984 m hm.owns_lt (hm.rd (k := 2) rfl (.rd _ _ _ _ _)) (hm.noOwn (k := 2) rfl)) fun _ => rfl) gn rfl ?_
     rintro ⟨a986, c987, n988⟩
     refine Wn.lenr (k := 0) (xs := l985) rfl ?_
     rintro rfl
     refine Wn.od (o_mv rfl) rfl <| Wn.od (o_ex rfl rfl) rfl <| Wn.od (o_ex rfl rfl) rfl <| Wn.od (o_as rfl) rfl <| Wn.od (o_as rfl) rfl <| Wn.nil (fun m hm => OkP.all rfl) <| At.tn <| Wk.seq <| Wk.region <| Wo.od (o_mv rfl) rfl <| Wo.od (o_mv rfl) rfl <| Wo.od (o_mv rfl) rfl <| Wo.od (o_ln (k := 4) u49 rfl rfl (.inl rfl)) rfl ?_
     refine Wo.od (o_bu rfl rfl (bu_mi _ _)) rfl ?_
     obtain ⟨h990, hF⟩ := gd_some hF
     refine Wo.x (o_srl (k := 4) (lo := 0) (hi := mi (l13.length : Int) (9 : Int)) s49 rfl rfl rfl rfl h990 (.inl ⟨rfl, rfl⟩) (.inr ⟨_, rfl⟩)) gn rfl ?_
     rintro ⟨a991, c992⟩
     refine Wo.od (o_bd rfl z62 rfl (bd_s bs62 rfl rfl rfl)) rfl <| Wo.od (o_mv rfl) rfl <| Wo.nil <| At.tn <| Wk.block ?_
     obtain ⟨r1343, h1342, hF⟩ := ob_some hF
     refine Wk.cut (G := (fun (r : (Unit) ⊕ (Unit)) (g : Unit) => match r, g with | .inl _, _ => ⟨.ret, [(16, .bool false)], []⟩ | .inr _, _ => ⟨(.exit 2), [(3, .int .u16 ((x12 : Nat) : Int)), (4, .slice a14 l13.length c15), (5, .int .i64 x17), (6, .int .i64 x18), (7, .int .i64 x19), (44, .slice (some ⟨b950, 0, none⟩) 3 3), (45, .int .i64 3), (46, .int .i64 v550)], [.rd a14 c15 1 l13.length (l13.map (eI .i64)), .arr b950 3 3 [[.int .i64 v83, .slice a85 l84.length l84.length, .int .u64 ((v86 : Nat) : Int)], [.int .i64 v87, .slice a85 l84.length l84.length, .int .u64 ((v88 : Nat) : Int)], [.int .i64 v89, .slice a91 l90.length l90.length, .int .u64 ((v92 : Nat) : Int)]] tg951, .rd a85 l84.length 2 l84.length (l84.map (eP (eI .i64) (eI .i64))), .rd a91 l90.length 2 l90.length (l90.map (eP (eI .i64) (eI .i64)))]⟩) r1343) ?_ ?_
     ·refine Wk.weak (fs' := [(3, .int .u16 ((x12 : Nat) : Int)), (4, .slice a14 l13.length c15), (5, .int .i64 x17), (6, .int .i64 x18), (7, .int .i64 x19), (18, ptr b959 0), (44, .slice (some ⟨b950, 0, none⟩) 3 3), (45, .int .i64 3), (46, .int .i64 v550), (83, .agg #[.slice a986 l985.length c987, .slice a991 (((l13.drop (0 : Int).toNat).take ((mi (l13.length : Int) (9 : Int) : Int).toNat - (0 : Int).toNat)).length) c992]), (84, .int .i64 0)]) (ps' := [.rd a14 c15 1 l13.length (l13.map (eI .i64)), .obj b959 (.cells [.int .i64 x953, .slice a955 l954.length c956, .int .u64 ((x957 : Nat) : Int)] .own), .rd a955 c956 2 l954.length (l954.map (eP (eI .i64) (eI .i64))), .arr b950 3 3 [[.int .i64 v83, .slice a85 l84.length l84.length, .int .u64 ((v86 : Nat) : Int)], [.int .i64 v87, .slice a85 l84.length l84.length, .int .u64 ((v88 : Nat) : Int)], [.int .i64 v89, .slice a91 l90.length l90.length, .int .u64 ((v92 : Nat) : Int)]] tg951, .rd a85 l84.length 2 l84.length (l84.map (eP (eI .i64) (eI .i64))), .rd a91 l90.length 2 l90.length (l90.map (eP (eI .i64) (eI .i64))), .rd a986 c987 1 l985.length (l985.map (eI .i64)), .rd a991 c992 1 (((l13.drop (0 : Int).toNat).take ((mi (l13.length : Int) (9 : Int) : Int).toNat - (0 : Int).toNat)).length) (((l13.drop (0 : Int).toNat).take ((mi (l13.length : Int) (9 : Int) : Int).toNat - (0 : Int).toNat)).map (eI .i64))]) (sc rfl (sc rfl (sc rfl (sc rfl (sc rfl (sc rfl (sc rfl (sc rfl (sc rfl (sc rfl (sc rfl sn))))))))))) (Turn.picks [5, 3, 4, 6, 7, 8, 1, 0] rfl rfl) ?_
      refine Wk.loop (σ := Int) (ρ := (Unit) ⊕ (Unit)) (γ := Unit) (δ := fun _ => Unit) _ (fun (s : Int) (g : Unit) => match s, g with | v994, _ => ⟨.normal, [(3, .int .u16 ((x12 : Nat) : Int)), (4, .slice a14 l13.length c15), (5, .int .i64 x17), (6, .int .i64 x18), (7, .int .i64 x19), (18, ptr b959 0), (44, .slice (some ⟨b950, 0, none⟩) 3 3), (45, .int .i64 3), (46, .int .i64 v550), (83, .agg #[.slice a986 l985.length c987, .slice a991 (((l13.drop (0 : Int).toNat).take ((mi (l13.length : Int) (9 : Int) : Int).toNat - (0 : Int).toNat)).length) c992]), (84, .int .i64 v994)], [.rd a14 c15 1 l13.length (l13.map (eI .i64)), .obj b959 (.cells [.int .i64 x953, .slice a955 l954.length c956, .int .u64 ((x957 : Nat) : Int)] .own), .rd a955 c956 2 l954.length (l954.map (eP (eI .i64) (eI .i64))), .arr b950 3 3 [[.int .i64 v83, .slice a85 l84.length l84.length, .int .u64 ((v86 : Nat) : Int)], [.int .i64 v87, .slice a85 l84.length l84.length, .int .u64 ((v88 : Nat) : Int)], [.int .i64 v89, .slice a91 l90.length l90.length, .int .u64 ((v92 : Nat) : Int)]] tg951, .rd a85 l84.length 2 l84.length (l84.map (eP (eI .i64) (eI .i64))), .rd a91 l90.length 2 l90.length (l90.map (eP (eI .i64) (eI .i64))), .rd a986 c987 1 l985.length (l985.map (eI .i64)), .rd a991 c992 1 (((l13.drop (0 : Int).toNat).take ((mi (l13.length : Int) (9 : Int) : Int).toNat - (0 : Int).toNat)).length) (((l13.drop (0 : Int).toNat).take ((mi (l13.length : Int) (9 : Int) : Int).toNat - (0 : Int).toNat)).map (eI .i64))]⟩) (fun (r : (Unit) ⊕ (Unit)) (g : Unit) => match r, g with | .inl _, _ => ⟨.ret, [(16, .bool false)], []⟩ | .inr _, _ => ⟨(.exit 2), [(3, .int .u16 ((x12 : Nat) : Int)), (4, .slice a14 l13.length c15), (5, .int .i64 x17), (6, .int .i64 x18), (7, .int .i64 x19), (44, .slice (some ⟨b950, 0, none⟩) 3 3), (45, .int .i64 3), (46, .int .i64 v550)], [.rd a14 c15 1 l13.length (l13.map (eI .i64)), .arr b950 3 3 [[.int .i64 v83, .slice a85 l84.length l84.length, .int .u64 ((v86 : Nat) : Int)], [.int .i64 v87, .slice a85 l84.length l84.length, .int .u64 ((v88 : Nat) : Int)], [.int .i64 v89, .slice a91 l90.length l90.length, .int .u64 ((v92 : Nat) : Int)]] tg951, .rd a85 l84.length 2 l84.length (l84.map (eP (eI .i64) (eI .i64))), .rd a91 l90.length 2 l90.length (l90.map (eP (eI .i64) (eI .i64)))]⟩) ?_ (fun _ _ => rfl) (fun r d => by rcases r with _ | _ <;> (intro e; cases e)) _ _ _ h1342 ()
      clear hF h1342
      rintro v994 ⟨⟩ r hF
      unfold L5_2 at hF
      refine Wk.seq <| Wk.region <| Wo.od (o_bi rfl rfl (bin_lss _ _ _)) rfl <| Wo.nil <| At.tn <| Wk.seq ?_
      rcases br_some hF with ⟨h1169, hF⟩ | ⟨h1169, hF⟩
      ·refine Wk.condT rfl h1169 <| Wk.skip <| At.tn <| Wk.seq <| Wk.block <| Wk.seq <| Wk.region ?_
       obtain ⟨h1173, hF⟩ := gd_some hF
       obtain ⟨l1170, h1174, hF⟩ := ob_some hF
       refine Wo.x (o_sel (α := Option Addr × Nat) (V := fun g => match g with | (a1171, c1172) => .slice a1171 l1170.length c1172) (N := fun g => match g with | (a1171, c1172) => [.rd a1171 c1172 1 l1170.length (l1170.map (eI .i64))] ++ [.rd a14 c15 1 l13.length (l13.map (eI .i64)), .obj b959 (.cells [.int .i64 x953, .slice a955 l954.length c956, .int .u64 ((x957 : Nat) : Int)] .own), .rd a955 c956 2 l954.length (l954.map (eP (eI .i64) (eI .i64))), .arr b950 3 3 [[.int .i64 v83, .slice a85 l84.length l84.length, .int .u64 ((v86 : Nat) : Int)], [.int .i64 v87, .slice a85 l84.length l84.length, .int .u64 ((v88 : Nat) : Int)], [.int .i64 v89, .slice a91 l90.length l90.length, .int .u64 ((v92 : Nat) : Int)]] tg951, .rd a85 l84.length 2 l84.length (l84.map (eP (eI .i64) (eI .i64))), .rd a91 l90.length 2 l90.length (l90.map (eP (eI .i64) (eI .i64))), .rd a986 c987 1 l985.length (l985.map (eI .i64)), .rd a991 c992 1 (((l13.drop (0 : Int).toNat).take ((mi (l13.length : Int) (9 : Int) : Int).toNat - (0 : Int).toNat)).length) (((l13.drop (0 : Int).toNat).take ((mi (l13.length : Int) (9 : Int) : Int).toNat - (0 : Int).toNat)).map (eI .i64))]) rfl rfl (fun m hm => ?_)) gn rfl ?_
       ·have hj := inB_some h1173
        obtain ⟨j, hj2⟩ : ∃ j : Nat, (v994 : Int) = j := ⟨_, (Int.toNat_of_nonneg hj.1).symm⟩
        rw [hj2] at h1174 hj ⊢
        rw [Int.toNat_natCast] at h1174 hj
        replace hj := hj.2
        clear hF hj2
        match j, hj, h1174 with
        | 0, _, h1174 => cases h1174; exact ⟨(a986, c987), ix_c ar62 (i := 0) (by decide) (part_o t49 rfl), (Hp.dup hm (k := 6) rfl)⟩
        | 1, _, h1174 => cases h1174; exact ⟨(a991, c992), ix_c ar62 (i := 1) (by decide) (part_o t49 rfl), (Hp.dup hm (k := 7) rfl)⟩
        | _ + 2, hj, _ => exact absurd hj (by omega)
       rintro ⟨a1171, c1172⟩
       refine Wo.od (o_as rfl) rfl <| Wo.nil <| At.tn <| Wk.seq <| Wk.region <| Wo.od (o_mv rfl) rfl <| Wo.od (o_mv rfl) rfl <| Wo.od (o_mv rfl) rfl <| Wo.od (o_bd rfl z53 rfl (bd_s bs53 rfl rfl rfl)) rfl <| Wo.od (o_mv rfl) rfl <| Wo.od (o_cv rfl (cv_u (by rw [u3]; rfl) u42 rfl)) rfl <| Wo.od (o_bi rfl rfl (ub_rem _ _ (by decide))) rfl <| Wo.od (o_cv rfl (cv_i (by rw [u42]; rfl) u3)) rfl <| Wo.od (o_mv rfl) rfl ?_
       refine Wo.od (o_cv rfl (cv_u (by rw [u3]; rfl) u42 rfl)) rfl <| Wo.od (o_bi rfl rfl (ub_rem _ _ (by decide))) rfl <| Wo.od (o_cv rfl (cv_i (by rw [u42]; rfl) u3)) rfl <| Wo.od (o_mv rfl) rfl <| Wo.od (o_cv rfl (cv_u (by rw [u3]; rfl) u42 rfl)) rfl <| Wo.od (o_bi rfl rfl (ub_rem _ _ (by decide))) rfl <| Wo.od (o_cv rfl (cv_i (by rw [u42]; rfl) u3)) rfl <| Wo.od (o_bd rfl z53 rfl (bd_s bs53 rfl rfl rfl)) rfl <| Wo.od (o_bd rfl z63 rfl (bd_s bs63 rfl rfl rfl)) rfl <| Wo.od (o_mv rfl) rfl ?_
       refine Wo.nil <| At.tn <| Wk.block ?_
       obtain ⟨r1341, h1340, hF⟩ := ob_some hF
       refine Wk.cut (G := (fun (r : (Unit) ⊕ (Unit)) (g : Unit) => match r, g with | .inl _, _ => ⟨.ret, [(16, .bool false)], []⟩ | .inr _, _ => ⟨(.exit 4), [(3, .int .u16 ((x12 : Nat) : Int)), (4, .slice a14 l13.length c15), (5, .int .i64 x17), (6, .int .i64 x18), (7, .int .i64 x19), (18, ptr b959 0), (44, .slice (some ⟨b950, 0, none⟩) 3 3), (45, .int .i64 3), (46, .int .i64 v550), (83, .agg #[.slice a986 l985.length c987, .slice a991 (((l13.drop (0 : Int).toNat).take ((mi (l13.length : Int) (9 : Int) : Int).toNat - (0 : Int).toNat)).length) c992]), (84, .int .i64 v994)], [.rd a14 c15 1 l13.length (l13.map (eI .i64)), .obj b959 (.cells [.int .i64 x953, .slice a955 l954.length c956, .int .u64 ((x957 : Nat) : Int)] .own), .rd a955 c956 2 l954.length (l954.map (eP (eI .i64) (eI .i64))), .arr b950 3 3 [[.int .i64 v83, .slice a85 l84.length l84.length, .int .u64 ((v86 : Nat) : Int)], [.int .i64 v87, .slice a85 l84.length l84.length, .int .u64 ((v88 : Nat) : Int)], [.int .i64 v89, .slice a91 l90.length l90.length, .int .u64 ((v92 : Nat) : Int)]] tg951, .rd a85 l84.length 2 l84.length (l84.map (eP (eI .i64) (eI .i64))), .rd a91 l90.length 2 l90.length (l90.map (eP (eI .i64) (eI .i64))), .rd a986 c987 1 l985.length (l985.map (eI .i64)), .rd a991 c992 1 (((l13.drop (0 : Int).toNat).take ((mi (l13.length : Int) (9 : Int) : Int).toNat - (0 : Int).toNat)).length) (((l13.drop (0 : Int).toNat).take ((mi (l13.length : Int) (9 : Int) : Int).toNat - (0 : Int).toNat)).map (eI .i64))]⟩) r1341) ?_ ?_
       ·refine Wk.weak (fs' := [(3, .int .u16 ((x12 : Nat) : Int)), (4, .slice a14 l13.length c15), (5, .int .i64 x17), (6, .int .i64 x18), (7, .int .i64 x19), (18, ptr b959 0), (26, .slice a1171 l1170.length c1172), (44, .slice (some ⟨b950, 0, none⟩) 3 3), (45, .int .i64 3), (46, .int .i64 v550), (83, .agg #[.slice a986 l985.length c987, .slice a991 (((l13.drop (0 : Int).toNat).take ((mi (l13.length : Int) (9 : Int) : Int).toNat - (0 : Int).toNat)).length) c992]), (84, .int .i64 v994), (104, .agg #[.int .i64 x17, .int .i64 x18, .int .i64 x19, .int .i64 (IntKind.wrap .i64 (((ui .u64 x17) % 20 : Nat) : Int)), .int .i64 (IntKind.wrap .i64 (((ui .u64 x18) % 12 : Nat) : Int)), .int .i64 (IntKind.wrap .i64 (((ui .u64 x19) % 12 : Nat) : Int))]), (105, .int .i64 0)]) (ps' := [.rd a14 c15 1 l13.length (l13.map (eI .i64)), .obj b959 (.cells [.int .i64 x953, .slice a955 l954.length c956, .int .u64 ((x957 : Nat) : Int)] .own), .rd a955 c956 2 l954.length (l954.map (eP (eI .i64) (eI .i64))), .rd a1171 c1172 1 l1170.length (l1170.map (eI .i64)), .arr b950 3 3 [[.int .i64 v83, .slice a85 l84.length l84.length, .int .u64 ((v86 : Nat) : Int)], [.int .i64 v87, .slice a85 l84.length l84.length, .int .u64 ((v88 : Nat) : Int)], [.int .i64 v89, .slice a91 l90.length l90.length, .int .u64 ((v92 : Nat) : Int)]] tg951, .rd a85 l84.length 2 l84.length (l84.map (eP (eI .i64) (eI .i64))), .rd a91 l90.length 2 l90.length (l90.map (eP (eI .i64) (eI .i64))), .rd a986 c987 1 l985.length (l985.map (eI .i64)), .rd a991 c992 1 (((l13.drop (0 : Int).toNat).take ((mi (l13.length : Int) (9 : Int) : Int).toNat - (0 : Int).toNat)).length) (((l13.drop (0 : Int).toNat).take ((mi (l13.length : Int) (9 : Int) : Int).toNat - (0 : Int).toNat)).map (eI .i64))]) (sc rfl (sc rfl (sc rfl (sc rfl (sc rfl (sc rfl (sc rfl (sc rfl (sc rfl (sc rfl (sc rfl (sc rfl (sc rfl (sc rfl sn)))))))))))))) (Turn.picks [1, 2, 3, 0, 4, 5, 6, 7, 8] rfl rfl) ?_
        refine Wk.loop (σ := Int) (ρ := (Unit) ⊕ (Unit)) (γ := Unit) (δ := fun _ => Unit) _ (fun (s : Int) (g : Unit) => match s, g with | v1176, _ => ⟨.normal, [(3, .int .u16 ((x12 : Nat) : Int)), (4, .slice a14 l13.length c15), (5, .int .i64 x17), (6, .int .i64 x18), (7, .int .i64 x19), (18, ptr b959 0), (26, .slice a1171 l1170.length c1172), (44, .slice (some ⟨b950, 0, none⟩) 3 3), (45, .int .i64 3), (46, .int .i64 v550), (83, .agg #[.slice a986 l985.length c987, .slice a991 (((l13.drop (0 : Int).toNat).take ((mi (l13.length : Int) (9 : Int) : Int).toNat - (0 : Int).toNat)).length) c992]), (84, .int .i64 v994), (104, .agg #[.int .i64 x17, .int .i64 x18, .int .i64 x19, .int .i64 (IntKind.wrap .i64 (((ui .u64 x17) % 20 : Nat) : Int)), .int .i64 (IntKind.wrap .i64 (((ui .u64 x18) % 12 : Nat) : Int)), .int .i64 (IntKind.wrap .i64 (((ui .u64 x19) % 12 : Nat) : Int))]), (105, .int .i64 v1176)], [.rd a14 c15 1 l13.length (l13.map (eI .i64)), .obj b959 (.cells [.int .i64 x953, .slice a955 l954.length c956, .int .u64 ((x957 : Nat) : Int)] .own), .rd a955 c956 2 l954.length (l954.map (eP (eI .i64) (eI .i64))), .rd a1171 c1172 1 l1170.length (l1170.map (eI .i64)), .arr b950 3 3 [[.int .i64 v83, .slice a85 l84.length l84.length, .int .u64 ((v86 : Nat) : Int)], [.int .i64 v87, .slice a85 l84.length l84.length, .int .u64 ((v88 : Nat) : Int)], [.int .i64 v89, .slice a91 l90.length l90.length, .int .u64 ((v92 : Nat) : Int)]] tg951, .rd a85 l84.length 2 l84.length (l84.map (eP (eI .i64) (eI .i64))), .rd a91 l90.length 2 l90.length (l90.map (eP (eI .i64) (eI .i64))), .rd a986 c987 1 l985.length (l985.map (eI .i64)), .rd a991 c992 1 (((l13.drop (0 : Int).toNat).take ((mi (l13.length : Int) (9 : Int) : Int).toNat - (0 : Int).toNat)).length) (((l13.drop (0 : Int).toNat).take ((mi (l13.length : Int) (9 : Int) : Int).toNat - (0 : Int).toNat)).map (eI .i64))]⟩) (fun (r : (Unit) ⊕ (Unit)) (g : Unit) => match r, g with | .inl _, _ => ⟨.ret, [(16, .bool false)], []⟩ | .inr _, _ => ⟨(.exit 4), [(3, .int .u16 ((x12 : Nat) : Int)), (4, .slice a14 l13.length c15), (5, .int .i64 x17), (6, .int .i64 x18), (7, .int .i64 x19), (18, ptr b959 0), (44, .slice (some ⟨b950, 0, none⟩) 3 3), (45, .int .i64 3), (46, .int .i64 v550), (83, .agg #[.slice a986 l985.length c987, .slice a991 (((l13.drop (0 : Int).toNat).take ((mi (l13.length : Int) (9 : Int) : Int).toNat - (0 : Int).toNat)).length) c992]), (84, .int .i64 v994)], [.rd a14 c15 1 l13.length (l13.map (eI .i64)), .obj b959 (.cells [.int .i64 x953, .slice a955 l954.length c956, .int .u64 ((x957 : Nat) : Int)] .own), .rd a955 c956 2 l954.length (l954.map (eP (eI .i64) (eI .i64))), .arr b950 3 3 [[.int .i64 v83, .slice a85 l84.length l84.length, .int .u64 ((v86 : Nat) : Int)], [.int .i64 v87, .slice a85 l84.length l84.length, .int .u64 ((v88 : Nat) : Int)], [.int .i64 v89, .slice a91 l90.length l90.length, .int .u64 ((v92 : Nat) : Int)]] tg951, .rd a85 l84.length 2 l84.length (l84.map (eP (eI .i64) (eI .i64))), .rd a91 l90.length 2 l90.length (l90.map (eP (eI .i64) (eI .i64))), .rd a986 c987 1 l985.length (l985.map (eI .i64)), .rd a991 c992 1 (((l13.drop (0 : Int).toNat).take ((mi (l13.length : Int) (9 : Int) : Int).toNat - (0 : Int).toNat)).length) (((l13.drop (0 : Int).toNat).take ((mi (l13.length : Int) (9 : Int) : Int).toNat - (0 : Int).toNat)).map (eI .i64))]⟩) ?_ (fun _ _ => rfl) (fun r d => by rcases r with _ | _ <;> (intro e; cases e)) _ _ _ h1340 ()
        clear hF h1340
        rintro v1176 ⟨⟩ r hF
        unfold L5_1 at hF
        refine Wk.seq <| Wk.region <| Wo.od (o_bi rfl rfl (bin_lss _ _ _)) rfl <| Wo.nil <| At.tn <| Wk.seq ?_
        rcases br_some hF with ⟨h1259, hF⟩ | ⟨h1259, hF⟩
        ·refine Wk.condT rfl h1259 <| Wk.skip <| At.tn <| Wk.seq <| Wk.block <| Wk.seq <| Wk.region ?_
         obtain ⟨h1303, hF⟩ := gd_some hF
         obtain ⟨⟨x1300, x1301, x1302⟩, h1304, hF⟩ := ob_some hF
         refine Wo.x (o_sel (α := Unit) (V := fun g => match g with | _ => .agg #[.int .i64 x1300, .int .i64 x1301, .int .i64 x1302]) (N := fun g => match g with | _ => [] ++ [.rd a14 c15 1 l13.length (l13.map (eI .i64)), .obj b959 (.cells [.int .i64 x953, .slice a955 l954.length c956, .int .u64 ((x957 : Nat) : Int)] .own), .rd a955 c956 2 l954.length (l954.map (eP (eI .i64) (eI .i64))), .rd a1171 c1172 1 l1170.length (l1170.map (eI .i64)), .arr b950 3 3 [[.int .i64 v83, .slice a85 l84.length l84.length, .int .u64 ((v86 : Nat) : Int)], [.int .i64 v87, .slice a85 l84.length l84.length, .int .u64 ((v88 : Nat) : Int)], [.int .i64 v89, .slice a91 l90.length l90.length, .int .u64 ((v92 : Nat) : Int)]] tg951, .rd a85 l84.length 2 l84.length (l84.map (eP (eI .i64) (eI .i64))), .rd a91 l90.length 2 l90.length (l90.map (eP (eI .i64) (eI .i64))), .rd a986 c987 1 l985.length (l985.map (eI .i64)), .rd a991 c992 1 (((l13.drop (0 : Int).toNat).take ((mi (l13.length : Int) (9 : Int) : Int).toNat - (0 : Int).toNat)).length) (((l13.drop (0 : Int).toNat).take ((mi (l13.length : Int) (9 : Int) : Int).toNat - (0 : Int).toNat)).map (eI .i64))]) rfl rfl (fun m hm => ?_)) gn rfl ?_
         ·have hj := inB_some h1303
          obtain ⟨j, hj2⟩ : ∃ j : Nat, (v1176 : Int) = j := ⟨_, (Int.toNat_of_nonneg hj.1).symm⟩
          rw [hj2] at h1304 hj ⊢
          rw [Int.toNat_natCast] at h1304 hj
          replace hj := hj.2
          clear hF hj2
          match j, hj, h1304 with
          | 0, _, h1304 => cases h1304; exact ⟨(), ix_c ar63 (i := 0) (by decide) (part_a t53 rfl), hm⟩
          | 1, _, h1304 => cases h1304; exact ⟨(), ix_c ar63 (i := 1) (by decide) (part_a t53 rfl), hm⟩
          | _ + 2, hj, _ => exact absurd hj (by omega)
         rintro ⟨⟩
         refine Wo.x (o_al z53 rfl) gn rfl fun b1305 => ?_
         refine Wo.o0 (o_st (k := 0) t53 rfl rfl rfl rfl rfl) <| Wo.nil <| At.tn <| Wk.seq <| Wk.region <| Wo.od (o_fa (r := ptr b959 0) rfl (fa36_0 _ _)) rfl <| Wo.od (o_ld (k := 2) t34 rfl rfl rfl) rfl <| Wo.od (o_fa (r := ptr b959 2) rfl (fa36_1 _ _)) rfl <| Wo.od (o_ld (k := 2) t26 rfl rfl rfl) rfl <| Wo.od (o_mv rfl) rfl <| Wo.od (o_ia (r := ptr b1305 0) rfl rfl (ia_c ar53 (i := 0) (by decide))) rfl <| Wo.od (o_ld (k := 0) t3 rfl rfl rfl) rfl ?_
         obtain ⟨⟨r1307, r1308, r1309⟩, h1306, hF⟩ := ob_some hF
         refine Wo.x (o_cl rfl rfl (fun m hm => f24_ok n x953 l954 x957 l1170 x1300 a955 c956 a1171 c1172 _ h1306 m (hG.ext hm.ext) (hm.rd (k := 3) rfl (.rd _ _ _ _ _)) (hm.rd (k := 4) rfl (.rd _ _ _ _ _))) fun _ => rfl) gn rfl ?_
         rintro ⟨⟩
         refine Wo.od (o_mv rfl) rfl <| Wo.od (o_ex rfl rfl) rfl <| Wo.od (o_ex rfl rfl) rfl <| Wo.od (o_ex rfl rfl) rfl <| Wo.od (o_as rfl) rfl <| Wo.od (o_as rfl) rfl <| Wo.od (o_as rfl) rfl <| Wo.nil <| At.tn <| Wk.seq <| Wk.region <| Wo.od (o_fa (r := ptr b959 0) rfl (fa36_0 _ _)) rfl <| Wo.od (o_ld (k := 2) t34 rfl rfl rfl) rfl <| Wo.od (o_fa (r := ptr b959 2) rfl (fa36_1 _ _)) rfl ?_
         refine Wo.od (o_ld (k := 2) t26 rfl rfl rfl) rfl <| Wo.od (o_mv rfl) rfl <| Wo.od (o_ia (r := ptr b1305 0) rfl rfl (ia_c ar53 (i := 0) (by decide))) rfl <| Wo.od (o_ld (k := 0) t3 rfl rfl rfl) rfl ?_
         obtain ⟨⟨r1311, r1312, r1313⟩, h1310, hF⟩ := ob_some hF
         refine Wo.x (o_cl rfl rfl (fun m hm => f25_ok n x953 l954 x957 l1170 x1300 a955 c956 a1171 c1172 _ h1310 m (hm.rd (k := 3) rfl (.rd _ _ _ _ _)) (hm.rd (k := 4) rfl (.rd _ _ _ _ _))) fun _ => rfl) gn rfl ?_
         rintro ⟨⟩
         refine Wo.od (o_mv rfl) rfl <| Wo.od (o_ex rfl rfl) rfl <| Wo.od (o_ex rfl rfl) rfl <| Wo.od (o_ex rfl rfl) rfl <| Wo.od (o_as rfl) rfl <| Wo.od (o_as rfl) rfl <| Wo.od (o_as rfl) rfl <| Wo.nil <| At.tn <| Wk.seq <| Wk.region <| Wo.od (o_fa (r := ptr b959 0) rfl (fa36_0 _ _)) rfl <| Wo.od (o_ld (k := 2) t34 rfl rfl rfl) rfl <| Wo.od (o_fa (r := ptr b959 2) rfl (fa36_1 _ _)) rfl ?_
         refine Wo.od (o_ld (k := 2) t26 rfl rfl rfl) rfl <| Wo.od (o_mv rfl) rfl <| Wo.od (o_ia (r := ptr b1305 1) rfl rfl (ia_c ar53 (i := 1) (by decide))) rfl <| Wo.od (o_ld (k := 0) t3 rfl rfl rfl) rfl <| Wo.od (o_ia (r := ptr b1305 2) rfl rfl (ia_c ar53 (i := 2) (by decide))) rfl <| Wo.od (o_ld (k := 0) t3 rfl rfl rfl) rfl ?_
         obtain ⟨⟨l1315, r1318⟩, h1314, hF⟩ := ob_some hF
         refine Wo.x (o_cl rfl rfl (fun m hm => f26_ok n x953 l954 x957 l1170 x1301 x1302 a955 c956 a1171 c1172 _ h1314 m (hm.rd (k := 3) rfl (.rd _ _ _ _ _)) (hm.rd (k := 4) rfl (.rd _ _ _ _ _))) fun _ => rfl) gn rfl ?_
         rintro ⟨a1316, n1317⟩
         refine Wo.len (k := 0) (xs := l1315) rfl ?_
         rintro rfl
         refine Wo.od (o_mv rfl) rfl <| Wo.od (o_ex rfl rfl) rfl <| Wo.od (o_ex rfl rfl) rfl <| Wo.od (o_as rfl) rfl <| Wo.od (o_as rfl) rfl <| Wo.nil <| At.tn <| Wk.seq <| Wk.region <| Wo.od (o_fa (r := ptr b959 0) rfl (fa36_0 _ _)) rfl <| Wo.od (o_ld (k := 3) t34 rfl rfl rfl) rfl <| Wo.od (o_fa (r := ptr b959 2) rfl (fa36_1 _ _)) rfl <| Wo.od (o_ld (k := 3) t26 rfl rfl rfl) rfl <| Wo.od (o_mv rfl) rfl ?_
         refine Wo.od (o_ia (r := ptr b1305 1) rfl rfl (ia_c ar53 (i := 1) (by decide))) rfl <| Wo.od (o_ld (k := 1) t3 rfl rfl rfl) rfl <| Wo.od (o_ia (r := ptr b1305 2) rfl rfl (ia_c ar53 (i := 2) (by decide))) rfl <| Wo.od (o_ld (k := 1) t3 rfl rfl rfl) rfl ?_
         obtain ⟨⟨l1320, r1323⟩, h1319, hF⟩ := ob_some hF
         refine Wo.x (o_cl rfl rfl (fun m hm => f27_ok n x953 l954 x957 l1170 x1301 x1302 a955 c956 a1171 c1172 _ h1319 m (hm.rd (k := 4) rfl (.rd _ _ _ _ _)) (hm.rd (k := 5) rfl (.rd _ _ _ _ _))) fun _ => rfl) gn rfl ?_
         rintro ⟨a1321, n1322⟩
         refine Wo.len (k := 0) (xs := l1320) rfl ?_
         rintro rfl
         refine Wo.od (o_mv rfl) rfl <| Wo.od (o_ex rfl rfl) rfl <| Wo.od (o_ex rfl rfl) rfl <| Wo.od (o_as rfl) rfl <| Wo.od (o_as rfl) rfl <| Wo.nil <| At.tn <| Wk.seq ?_
         obtain ⟨v1330, h1337, hF⟩ := ob_some hF
         refine Wk.cut (G := (fun (r : Bool) (g : Unit) => match r, g with | v1330, _ => ⟨.normal, [(3, .int .u16 ((x12 : Nat) : Int)), (4, .slice a14 l13.length c15), (5, .int .i64 x17), (6, .int .i64 x18), (7, .int .i64 x19), (18, ptr b959 0), (26, .slice a1171 l1170.length c1172), (44, .slice (some ⟨b950, 0, none⟩) 3 3), (45, .int .i64 3), (46, .int .i64 v550), (83, .agg #[.slice a986 l985.length c987, .slice a991 (((l13.drop (0 : Int).toNat).take ((mi (l13.length : Int) (9 : Int) : Int).toNat - (0 : Int).toNat)).length) c992]), (84, .int .i64 v994), (104, .agg #[.int .i64 x17, .int .i64 x18, .int .i64 x19, .int .i64 (IntKind.wrap .i64 (((ui .u64 x17) % 20 : Nat) : Int)), .int .i64 (IntKind.wrap .i64 (((ui .u64 x18) % 12 : Nat) : Int)), .int .i64 (IntKind.wrap .i64 (((ui .u64 x19) % 12 : Nat) : Int))]), (105, .int .i64 v1176), (181, .bool v1330)], [.rd a14 c15 1 l13.length (l13.map (eI .i64)), .obj b959 (.cells [.int .i64 x953, .slice a955 l954.length c956, .int .u64 ((x957 : Nat) : Int)] .own), .rd a955 c956 2 l954.length (l954.map (eP (eI .i64) (eI .i64))), .rd a1171 c1172 1 l1170.length (l1170.map (eI .i64)), .arr b950 3 3 [[.int .i64 v83, .slice a85 l84.length l84.length, .int .u64 ((v86 : Nat) : Int)], [.int .i64 v87, .slice a85 l84.length l84.length, .int .u64 ((v88 : Nat) : Int)], [.int .i64 v89, .slice a91 l90.length l90.length, .int .u64 ((v92 : Nat) : Int)]] tg951, .rd a85 l84.length 2 l84.length (l84.map (eP (eI .i64) (eI .i64))), .rd a91 l90.length 2 l90.length (l90.map (eP (eI .i64) (eI .i64))), .rd a986 c987 1 l985.length (l985.map (eI .i64)), .rd a991 c992 1 (((l13.drop (0 : Int).toNat).take ((mi (l13.length : Int) (9 : Int) : Int).toNat - (0 : Int).toNat)).length) (((l13.drop (0 : Int).toNat).take ((mi (l13.length : Int) (9 : Int) : Int).toNat - (0 : Int).toNat)).map (eI .i64))]⟩) v1330) ?_ ?_
         ·clear hF
          revert v1330
          intro r hF
          refine Wk.region <| Wo.od (o_mv rfl) rfl <| Wo.od (o_mv rfl) rfl <| Wo.od (o_bi rfl rfl (ub_neq _ _)) rfl <| Wo.od (o_mv rfl) rfl ?_
          rcases br_some hF with ⟨h1331, hF⟩ | ⟨h1331, hF⟩
          ·refine Wo.s (gg rfl rfl (eTF h1331)) rfl <| Wo.s (gg rfl rfl (eTF h1331)) rfl <| Wo.s (gg rfl rfl (eTF h1331)) rfl <| Wo.od (o_pt rfl h1331 rfl) rfl <| Wo.od (o_mv rfl) rfl <| Wo.s (gg rfl rfl rfl) rfl <| Wo.s (gg rfl rfl rfl) rfl <| Wo.s (gg rfl rfl rfl) rfl <| Wo.od (o_pT rfl rfl) rfl <| Wo.od (o_mv rfl) rfl ?_
           refine Wo.s (gg rfl rfl rfl) rfl <| Wo.s (gg rfl rfl rfl) rfl <| Wo.s (gg rfl rfl rfl) rfl <| Wo.s (gg rfl rfl rfl) rfl <| Wo.od (o_pT rfl rfl) rfl <| Wo.od (o_mv rfl) rfl <| Wo.s (gg rfl rfl rfl) rfl <| Wo.s (gg rfl rfl rfl) rfl <| Wo.s (gg rfl rfl rfl) rfl <| Wo.od (o_pT rfl rfl) rfl ?_
           refine Wo.nil ?_
           cases hF
           exact At.en () rfl (sc rfl (sc rfl (sc rfl (sc rfl (sc rfl (sc rfl (sc rfl (sc rfl (sc rfl (sc rfl (sc rfl (sc rfl (sc rfl (sc rfl (sc rfl sn))))))))))))))) (Turn.picks [3, 4, 5, 6, 7, 8, 9, 10, 11] rfl rfl)
          ·refine Wo.og (o_mv rfl) (gg rfl rfl (eFF h1331)) rfl <| Wo.og (o_mv rfl) (gg rfl rfl (eFF h1331)) rfl <| Wo.og (o_bi rfl rfl (ub_neq _ _)) (gg rfl rfl (eFF h1331)) rfl <| Wo.od (o_pf rfl h1331 rfl) rfl <| Wo.od (o_mv rfl) rfl ?_
           rcases br_some hF with ⟨h1332, hF⟩ | ⟨h1332, hF⟩
           ·refine Wo.s (gg rfl rfl (eTF h1332)) rfl <| Wo.s (gg rfl rfl (eTF h1332)) rfl <| Wo.s (gg rfl rfl (eTF h1332)) rfl <| Wo.od (o_pt rfl h1332 rfl) rfl <| Wo.od (o_mv rfl) rfl <| Wo.s (gg rfl rfl rfl) rfl <| Wo.s (gg rfl rfl rfl) rfl <| Wo.s (gg rfl rfl rfl) rfl <| Wo.s (gg rfl rfl rfl) rfl <| Wo.od (o_pT rfl rfl) rfl ?_
            refine Wo.od (o_mv rfl) rfl <| Wo.s (gg rfl rfl rfl) rfl <| Wo.s (gg rfl rfl rfl) rfl <| Wo.s (gg rfl rfl rfl) rfl <| Wo.od (o_pT rfl rfl) rfl <| Wo.nil ?_
            cases hF
            exact At.en () rfl (sc rfl (sc rfl (sc rfl (sc rfl (sc rfl (sc rfl (sc rfl (sc rfl (sc rfl (sc rfl (sc rfl (sc rfl (sc rfl (sc rfl (sc rfl sn))))))))))))))) (Turn.picks [3, 4, 5, 6, 7, 8, 9, 10, 11] rfl rfl)
           ·refine Wo.og (o_mv rfl) (gg rfl rfl (eFF h1332)) rfl <| Wo.og (o_mv rfl) (gg rfl rfl (eFF h1332)) rfl <| Wo.og (o_bi rfl rfl (ib_neq _ _)) (gg rfl rfl (eFF h1332)) rfl <| Wo.od (o_pf rfl h1332 rfl) rfl <| Wo.od (o_mv rfl) rfl ?_
            rcases br_some hF with ⟨h1333, hF⟩ | ⟨h1333, hF⟩
            ·refine Wo.s (gg rfl rfl (eTF h1333)) rfl <| Wo.s (gg rfl rfl (eTF h1333)) rfl <| Wo.s (gg rfl rfl (eTF h1333)) rfl <| Wo.s (gg rfl rfl (eTF h1333)) rfl <| Wo.od (o_pt rfl h1333 rfl) rfl <| Wo.od (o_mv rfl) rfl <| Wo.s (gg rfl rfl rfl) rfl <| Wo.s (gg rfl rfl rfl) rfl <| Wo.s (gg rfl rfl rfl) rfl <| Wo.od (o_pT rfl rfl) rfl ?_
             refine Wo.nil ?_
             cases hF
             exact At.en () rfl (sc rfl (sc rfl (sc rfl (sc rfl (sc rfl (sc rfl (sc rfl (sc rfl (sc rfl (sc rfl (sc rfl (sc rfl (sc rfl (sc rfl (sc rfl sn))))))))))))))) (Turn.picks [3, 4, 5, 6, 7, 8, 9, 10, 11] rfl rfl)
            ·refine Wo.og (o_mv rfl) (gg rfl rfl (eFF h1333)) rfl <| Wo.og (o_mv rfl) (gg rfl rfl (eFF h1333)) rfl ?_
             obtain ⟨r1335, h1334, hF⟩ := ob_some hF
             refine Wo.x (o_cl rfl rfl (fun m hm => f18_ok n l1315 l1320 a1316 l1315.length a1321 l1320.length _ h1334 m (hm.rd (k := 1) rfl (.sl _ _ _ _)) (hm.rd (k := 0) rfl (.sl _ _ _ _))) fun _ => rfl) (gg rfl rfl (eFF h1333)) rfl ?_
             rintro ⟨⟩
             refine Wo.og (o_un rfl rfl) (gg rfl rfl (eFF h1333)) rfl <| Wo.od (o_pf rfl h1333 rfl) rfl <| Wo.od (o_mv rfl) rfl ?_
             rcases br_some hF with ⟨h1336, hF⟩ | ⟨h1336, hF⟩
             ·refine Wo.s (gg rfl rfl (eTF h1336)) rfl <| Wo.s (gg rfl rfl (eTF h1336)) rfl <| Wo.s (gg rfl rfl (eTF h1336)) rfl <| Wo.od (o_pt rfl h1336 rfl) rfl <| Wo.nil ?_
              cases hF
              exact At.en () rfl (sc rfl (sc rfl (sc rfl (sc rfl (sc rfl (sc rfl (sc rfl (sc rfl (sc rfl (sc rfl (sc rfl (sc rfl (sc rfl (sc rfl (sc rfl sn))))))))))))))) (Turn.picks [3, 4, 5, 6, 7, 8, 9, 10, 11] rfl rfl)
             ·refine Wo.og (o_mv rfl) (gg rfl rfl (eFF h1336)) rfl <| Wo.og (o_mv rfl) (gg rfl rfl (eFF h1336)) rfl <| Wo.og (o_bi rfl rfl (ib_neq _ _)) (gg rfl rfl (eFF h1336)) rfl <| Wo.od (o_pf rfl h1336 rfl) rfl <| Wo.nil ?_
              cases hF
              exact At.en () rfl (sc rfl (sc rfl (sc rfl (sc rfl (sc rfl (sc rfl (sc rfl (sc rfl (sc rfl (sc rfl (sc rfl (sc rfl (sc rfl (sc rfl (sc rfl sn))))))))))))))) (Turn.picks [3, 4, 5, 6, 7, 8, 9, 10, 11] rfl rfl)
         ·clear h1337
          rintro ⟨⟩
          refine At.tn ?_
          rcases br_some hF with ⟨h1339, hF⟩ | ⟨h1339, hF⟩
          ·refine Wk.condT rfl h1339 <| Wk.seq <| Wk.region <| Wo.od (o_as rfl) rfl <| Wo.nil <| At.tn <| Wk.ret <| At.br <| At.tr ?_
           cases hF
           exact At.en () rfl (sc rfl sn) (Turn.picks [] rfl rfl)
          ·refine Wk.condF rfl h1339 <| Wk.skip <| At.bn <| At.tn <| Wk.region <| Wo.od (o_bi rfl rfl (bin_add _ _ _)) rfl <| Wo.od (o_mv rfl) rfl <| Wo.nil ?_
           cases hF
           exact At.en () rfl (sc rfl (sc rfl (sc rfl (sc rfl (sc rfl (sc rfl (sc rfl (sc rfl (sc rfl (sc rfl (sc rfl (sc rfl (sc rfl (sc rfl sn)))))))))))))) (Turn.picks [0, 1, 2, 3, 4, 5, 6, 7, 8] rfl rfl)
        ·refine Wk.condF rfl h1259 <| Wk.exit <| At.te ?_
         cases hF
         exact At.en () rfl (sc rfl (sc rfl (sc rfl (sc rfl (sc rfl (sc rfl (sc rfl (sc rfl (sc rfl (sc rfl (sc rfl sn))))))))))) (Turn.picks [0, 1, 2, 4, 5, 6, 7, 8] rfl rfl)
       ·clear h1340
        rcases r1341 with _ | _
        ·rintro ⟨⟩
         refine At.br <| At.br <| At.tr ?_
         cases hF
         exact At.en () rfl (sc rfl sn) (Turn.picks [] rfl rfl)
        ·rintro ⟨⟩
         refine At.be <| At.bn <| At.tn <| Wk.region <| Wo.od (o_bi rfl rfl (bin_add _ _ _)) rfl <| Wo.od (o_mv rfl) rfl <| Wo.nil ?_
         cases hF
         exact At.en () rfl (sc rfl (sc rfl (sc rfl (sc rfl (sc rfl (sc rfl (sc rfl (sc rfl (sc rfl (sc rfl (sc rfl sn))))))))))) (Turn.picks [0, 1, 2, 3, 4, 5, 6, 7] rfl rfl)
      ·refine Wk.condF rfl h1169 <| Wk.exit <| At.te ?_
       cases hF
       exact At.en () rfl (sc rfl (sc rfl (sc rfl (sc rfl (sc rfl (sc rfl (sc rfl (sc rfl sn)))))))) (Turn.picks [0, 3, 4, 5] rfl rfl)
     ·clear h1342
      rcases r1343 with _ | _
      ·rintro ⟨⟩
       refine At.br <| At.br <| At.tr ?_
       cases hF
       exact At.en () rfl (sc rfl sn) (Turn.picks [] rfl rfl)
      ·rintro ⟨⟩
       refine At.be <| At.bn <| At.tn <| Wk.region <| Wo.od (o_bi rfl rfl (bin_add _ _ _)) rfl <| Wo.od (o_mv rfl) rfl <| Wo.nil ?_
       cases hF
       exact At.en () rfl (sc rfl (sc rfl (sc rfl (sc rfl (sc rfl (sc rfl (sc rfl (sc rfl sn)))))))) (Turn.trans (Turn.close (k := 1) rfl) (Turn.picks [0, 1, 2, 3] rfl rfl))
    ·refine Wk.condF rfl h948 <| Wk.exit <| At.te ?_
     cases hF
     exact At.en () rfl sn (Turn.picks [] rfl rfl)
   ·clear h1344
    rcases r1345 with _ | _
    ·rintro ⟨⟩
     refine At.br <| At.tr ?_
     cases hF
     exact At.ret (.tmp rfl .nil) fun m' hm => ⟨(), rfl, (Turn.picks [] rfl rfl) m' hm⟩
    ·rintro ⟨⟩
     refine At.be <| At.tn <| Wk.seq <| Wk.region <| Wo.od (o_as rfl) rfl <| Wo.nil <| At.tn <| Wk.ret ?_
     cases hF
     exact At.ret (.tmp rfl .nil) fun m' hm => ⟨(), rfl, (Turn.picks [] rfl rfl) m' hm⟩
end Go.Proofs.YtookeaakpiefjaaGreatDoor
end

section
namespace Go.Ab.W
open Go Go.Ab
theorem uM64 : uM .u64 = 2 ^ 64 := rfl
theorem uw_id {a : Nat} (h : a < 2 ^ 64) : uw .u64 a = a := Nat.mod_eq_of_lt h
theorem tb_lt {a : Nat} (h : a < 2 ^ 64) {i : Nat} (hi : a.testBit i = true) : i < 64 := by
 rcases Nat.lt_or_ge i 64 with h1 | h1
 ·exact h1
 ·have : a < 2 ^ i := Nat.lt_of_lt_of_le h (Nat.pow_le_pow_right (by decide) h1)
  rw [Nat.testBit_lt_two_pow this] at hi; cases hi
theorem word_and {a b : Nat} (ha : a < 2 ^ 64) (hb : b < 2 ^ 64) : uw .u64 (uw .u64 a &&& uw .u64 b) = a &&& b := by
 rw [uw_id ha, uw_id hb, uw_id (Nat.lt_of_le_of_lt Nat.and_le_left ha)]
theorem word_or {a b : Nat} (ha : a < 2 ^ 64) (hb : b < 2 ^ 64) : uw .u64 (uw .u64 a ||| uw .u64 b) = a ||| b := by
 rw [uw_id ha, uw_id hb, uw_id (Nat.or_lt_two_pow ha hb)]
theorem and_lt' {a b : Nat} (ha : a < 2 ^ 64) : a &&& b < 2 ^ 64 := Nat.lt_of_le_of_lt Nat.and_le_left ha
theorem or_lt' {a b : Nat} (ha : a < 2 ^ 64) (hb : b < 2 ^ 64) : a ||| b < 2 ^ 64 := Nat.or_lt_two_pow ha hb
theorem word_andn {a b : Nat} (ha : a < 2 ^ 64) (hb : b < 2 ^ 64) : uandn .u64 a b = a ^^^ (a &&& b) := by
 unfold uandn
 rw [uw_id ha, uw_id hb, uw_id (Nat.xor_lt_two_pow ha (and_lt' ha))]
theorem word_one {k : Nat} (h : k < 64) : ushl .u64 1 k = 2 ^ k := by
 unfold ushl
 rw [Nat.min_eq_left (Nat.le_of_lt (show k < IntKind.bits .u64 from h)), Nat.one_mul]
 exact uw_id (Nat.pow_lt_pow_right (by decide) h)
theorem one_lt {k : Nat} (h : k < 64) : 2 ^ k < 2 ^ 64 := Nat.pow_lt_pow_right (by decide) h
theorem tb_one (k i : Nat) : (2 ^ k).testBit i = decide (i = k) := by
 rw [Nat.testBit_two_pow]
 by_cases h : k = i
 ·simp [h]
 ·simp [h, Ne.symm h]
theorem ui_nn {k : Int} (h0 : 0 ≤ k) (h1 : k < 64) : ui .u64 k = k.toNat := by
 unfold ui
 rw [Int.emod_eq_of_lt h0 (by rw [uM64]; omega)]
theorem word_shr {a k : Nat} (h : k ≤ 64) : ushr .u64 a k = a >>> k := by
 unfold ushr
 rw [Nat.min_eq_left (show k ≤ IntKind.bits .u64 from h), Nat.shiftRight_eq_div_pow]
theorem bit_at {a k : Nat} (ha : a < 2 ^ 64) (h : k ≤ 64) : decide (uw .u64 (uw .u64 (ushr .u64 a k) &&& uw .u64 1) = 1) = a.testBit k := by
 have hs : a >>> k < 2 ^ 64 := Nat.lt_of_le_of_lt (by rw [Nat.shiftRight_eq_div_pow]; exact Nat.div_le_self _ _) ha
 rw [word_shr h, word_and hs (by decide), Nat.testBit]
 rw [Nat.and_comm]
 have h2 : 1 &&& a >>> k = (a >>> k) % 2 := by rw [Nat.and_comm, Nat.and_one_is_mod]
 rw [h2]
 rcases Nat.mod_two_eq_zero_or_one (a >>> k) with h3 | h3 <;> rw [h3] <;> rfl
theorem word_ext {a b : Nat} (h : ∀ i, a.testBit i = true ↔ b.testBit i = true) : a = b := Nat.eq_of_testBit_eq fun i => by
 have := h i
 cases ha : a.testBit i <;> cases hb : b.testBit i <;> simp_all
theorem word_zero {a : Nat} : a = 0 ↔ ∀ i, a.testBit i = false := ⟨fun h => by subst h; exact fun i => Nat.zero_testBit i, fun h => Nat.eq_of_testBit_eq fun i => by rw [h, Nat.zero_testBit]⟩
theorem tz_bit {x : Nat} (h0 : 0 < x) (h1 : x < 2 ^ 64) : x.testBit (tz x) = true ∧ ∀ i, i < tz x → x.testBit i = false := by
 obtain ⟨h2, _, q, hq⟩ := tz_low h0 h1
 have key : ∀ i, x.testBit i = (decide (tz x ≤ i) && (2 * q + 1).testBit (i - tz x)) := fun i => by
  conv => lhs; rw [hq]
  rw [Nat.testBit_two_pow_mul]
 refine ⟨?_, fun i hi => ?_⟩
 ·rw [key, Nat.sub_self]
  simp [Nat.testBit_zero]
 ·rw [key, decide_eq_false (by omega)]; rfl
section
variable {σ ρ τ : Type}
theorem lp_list {α : Type} {body : τ → Option (τ ⊕ ρ)} (l : List α) (mk : σ → Int → τ) (step : σ → α → σ) (fin : σ → ρ) (I : Nat → σ → Prop)
  (hs : ∀ s i x, l[i]? = some x → I i s → body (mk s (i : Int)) = some (.inl (mk (step s x) ((i + 1 : Nat) : Int))) ∧ I (i + 1) (step s x)) (he : ∀ s, I l.length s → body (mk s (l.length : Int)) = some (.inr (fin s))) :
  ∀ (k i n : Nat) (s : σ), i + k = l.length → I i s → k < n → lpN body n (mk s (i : Int)) = some (fin ((l.drop i).foldl step s)) ∧ I l.length ((l.drop i).foldl step s) := by
 intro k
 induction k with
 | zero =>
  intro i n s hi hI hn
  obtain ⟨n, rfl⟩ : ∃ n', n = n' + 1 := ⟨n - 1, by omega⟩
  have : i = l.length := by omega
  subst this
  rw [List.drop_length]
  exact ⟨by simp only [lpN, he s hI, List.foldl_nil], hI⟩
 | succ k ih =>
  intro i n s hi hI hn
  obtain ⟨n, rfl⟩ : ∃ n', n = n' + 1 := ⟨n - 1, by omega⟩
  have hlt : i < l.length := by omega
  obtain ⟨h1, h2⟩ := hs s i l[i] (List.getElem?_eq_getElem hlt) hI
  rw [List.drop_eq_getElem_cons hlt, List.foldl_cons]
  simp only [lpN, h1]
  exact ih (i + 1) n _ (by omega) h2 (by omega)
theorem lp_list0 {α : Type} {body : τ → Option (τ ⊕ ρ)} (l : List α) (mk : σ → Int → τ) (step : σ → α → σ) (fin : σ → ρ) (I : Nat → σ → Prop)
  (hs : ∀ s i x, l[i]? = some x → I i s → body (mk s (i : Int)) = some (.inl (mk (step s x) ((i + 1 : Nat) : Int))) ∧ I (i + 1) (step s x)) (he : ∀ s, I l.length s → body (mk s (l.length : Int)) = some (.inr (fin s)))
  {n : Nat} {s : σ} (hI : I 0 s) (hn : l.length < n) : lpN body n (mk s 0) = some (fin (l.foldl step s)) ∧ I l.length (l.foldl step s) := by
 have := lp_list l mk step fin I hs he l.length 0 n s (by omega) hI hn
 simpa using this
theorem lp_upto {body : τ → Option (τ ⊕ ρ)} (N : Nat) (mk : σ → Int → τ) (step : σ → Nat → σ) (fin : σ → ρ) (I : Nat → σ → Prop)
  (hs : ∀ s i, i < N → I i s → body (mk s (i : Int)) = some (.inl (mk (step s i) ((i + 1 : Nat) : Int))) ∧ I (i + 1) (step s i)) (he : ∀ s, I N s → body (mk s (N : Int)) = some (.inr (fin s)))
  {n : Nat} {s : σ} (hI : I 0 s) (hn : N < n) : lpN body n (mk s 0) = some (fin ((List.range N).foldl step s)) ∧ I N ((List.range N).foldl step s) := by
 have := lp_list0 (List.range N) mk step fin I (fun s i x hx hI => by
  have hlt := (List.getElem?_eq_some_iff.1 hx).1
  have hx' : x = i := by rw [List.getElem?_eq_getElem hlt] at hx; simp at hx; exact hx.symm
  subst hx'
  exact hs s x (by simpa using hlt) hI) (by simpa using he) hI (by simpa using hn)
 simpa using this
end
end Go.Ab.W
end
