/- Texts of the abstract machine and of the walks, joined: S18W8 S18P S18P2 S18P3 AbsWord S18G S18M S18N S18O S18Q. -/
import Derived.Test.YtpclggcpobakhaaDoorGm5
section
namespace Go.Proofs.YtpclggcpobakhaaDoor.W8
open Go Go.Ab Go.Ab.W Go.Proofs.YtpclggcpobakhaaDoor Go.Proofs.YtpclggcpobakhaaDoor.W0
set_option maxRecDepth 10000
set_option maxHeartbeats 4000000
attribute [local irreducible] Tm.at Trie.set Trie.get AMem.get AMem.set AMem.alloc AMem.ww AMem.kill
theorem f47_ok (n : Nat) (x1 : Int) (l2 : List (Int × Int)) (l6 : List (Int)) (a3 : Option Addr) (c4 : Nat) (a7 : Option Addr) (c8 : Nat) (r : Int × List (Int × Int) × Int) (hF : F47 n x1 l2 l6 = some r) (m : AMem) (h5 : Rd m a3 c4 2 l2.length (l2.map (eP (eI .i64) (eI .i64)))) (h9 : Rd m a7 c8 1 l6.length (l6.map (eI .i64))) :
  CallA E18w 47 [.agg #[.int .i64 x1, .slice a3 l2.length c4], .slice a7 l6.length c8] m (fun v m' => ∃ x : Option Addr × Nat, v = .tuple #[.agg #[.int .i64 r.1, .slice x.1 x.2 x.2], .int .i64 r.2.2] ∧ Hp m m' [.sl x.1 2 x.2 (r.2.1.map (eP (eI .i64) (eI .i64)))]) := by
 unfold F47 at hF
 refine call_wk (m0 := m) (ps := [.rd a7 c8 1 l6.length (l6.map (eI .i64)), .rd a3 c4 2 l2.length (l2.map (eP (eI .i64) (eI .i64)))]) (N := 139) (rs := [.cell 4 25, .tmp 5]) rfl Tryd.func47 rfl rfl rfl (((Hp.start m).inn rfl h5).inn rfl h9) ?_
 refine Wk.seq <| Wk.region <| Wo.x (o_bx rfl) gn rfl fun b10 => ?_
 refine Wo.x (o_al z25 rfl) gn rfl fun b11 => ?_
 refine Wo.od (o_as rfl) rfl ?_
 refine Wo.nil <| At.tn <| Wk.seq <| Wk.seq <| Wk.region <| Wo.od (o_ld (k := 1) t25 rfl rfl rfl) rfl ?_
 obtain ⟨r13, h12, hF⟩ := ob_some hF
 refine Wo.x (o_cl rfl rfl (fun m hm => f43_ok n x1 l2 a3 c4 _ h12 m (hm.rd (k := 3) rfl (.rd _ _ _ _ _))) fun _ => rfl) gn rfl ?_
 rintro ⟨⟩
 refine Wo.od (o_as rfl) rfl ?_
 refine Wo.nil <| At.tn <| Wk.seq <| Wk.region <| Wo.od (o_mv rfl) rfl ?_
 refine Wo.od (o_bi rfl rfl (ib_neq _ _)) rfl ?_
 refine Wo.nil <| At.tn ?_
 rcases br_some hF with ⟨h14, hF⟩ | ⟨h14, hF⟩
 ·refine Wk.condT rfl h14 ?_
  refine Wk.seq <| Wk.region <| Wo.od (o_bd rfl z25 rfl (bd_s bs25 rfl rfl rfl)) rfl ?_
  refine Wo.od (o_mv rfl) rfl ?_
  refine Wo.o0 (o_st (k := 0) t25 rfl rfl rfl rfl rfl) ?_
  refine Wo.od (o_as rfl) rfl ?_
  refine Wo.nil <| At.tn <| Wk.ret <| At.tr ?_
  cases hF
  exact At.ret (.cell (k := 0) t25 rfl rfl rfl (.tmp rfl .nil)) fun m' hm => ⟨(none, 0), rfl, (Turn.trans (Turn.nil 2 rfl) (Turn.picks [0] rfl rfl)) m' hm⟩
 ·refine Wk.condF rfl h14 ?_
  refine Wk.skip <| At.tn <| Wk.seq <| Wk.seq <| Wk.region <| Wo.od (o_mv rfl) rfl ?_
  refine Wo.od (o_ln (k := 2) u39 rfl rfl (.inl rfl)) rfl ?_
  refine Wo.od (o_fa (r := ptr b10 0) rfl (fa25_0 _ _)) rfl ?_
  refine Wo.od (o_ld (k := 1) t3 rfl rfl rfl) rfl ?_
  refine Wo.od (o_bi rfl rfl (ib_neq _ _)) rfl ?_
  refine Wo.nil <| At.tn ?_
  rcases br_some hF with ⟨h15, hF⟩ | ⟨h15, hF⟩
  ·refine Wk.condT rfl h15 ?_
   refine Wk.seq <| Wk.region <| Wo.od (o_bd rfl z25 rfl (bd_s bs25 rfl rfl rfl)) rfl ?_
   refine Wo.o0 (o_st (k := 0) t25 rfl rfl rfl rfl rfl) ?_
   refine Wo.od (o_as rfl) rfl ?_
   refine Wo.nil <| At.tn <| Wk.ret <| At.tr ?_
   cases hF
   exact At.ret (.cell (k := 0) t25 rfl rfl rfl (.tmp rfl .nil)) fun m' hm => ⟨(none, 0), rfl, (Turn.trans (Turn.nil 2 rfl) (Turn.picks [0] rfl rfl)) m' hm⟩
  ·refine Wk.condF rfl h15 ?_
   refine Wk.skip <| At.tn <| Wk.seq <| Wk.region <| Wo.od (o_as rfl) rfl ?_
   refine Wo.nil <| At.tn <| Wk.seq <| Wk.region <| Wo.od (o_as rfl) rfl ?_
   refine Wo.nil <| At.tn <| Wk.seq <| Wk.seq <| Wk.region <| Wo.od (o_as rfl) rfl ?_
   refine Wo.nil <| At.tn <| Wk.block ?_
   obtain ⟨r206, h205, hF⟩ := ob_some hF
   refine Wk.cut (G := (fun (r : (Unit) ⊕ (Int × Nat)) (g : Unit) => match r, g with | .inl _, _ => ⟨.ret, [(4, ptr b11 0), (5, .int .i64 2)], [.obj b11 (.cells [.int .i64 0, .slice none 0 0] .own)]⟩ | .inr (v114, v115), _ => ⟨(.exit 0), [(1, .slice a7 l6.length c8), (2, ptr b10 0), (4, ptr b11 0), (7, .int .i64 v114), (8, .int .u64 ((v115 : Nat) : Int))], [.rd a7 c8 1 l6.length (l6.map (eI .i64)), .obj b10 (.cells [.int .i64 x1, .slice a3 l2.length c4] .own), .rd a3 c4 2 l2.length (l2.map (eP (eI .i64) (eI .i64))), .obj b11 (.cells [.int .i64 0, .slice none 0 0] .own)]⟩) r206) ?_ ?_
   ·refine Wk.weak (fs' := [(1, .slice a7 l6.length c8), (2, ptr b10 0), (4, ptr b11 0), (7, .int .i64 0), (8, .int .u64 ((0 : Nat) : Int)), (9, .int .i64 0)]) (ps' := [.rd a7 c8 1 l6.length (l6.map (eI .i64)), .obj b10 (.cells [.int .i64 x1, .slice a3 l2.length c4] .own), .rd a3 c4 2 l2.length (l2.map (eP (eI .i64) (eI .i64))), .obj b11 (.cells [.int .i64 0, .slice none 0 0] .own)]) (sc rfl (sc rfl (sc rfl (sc rfl (sc rfl (sc rfl sn)))))) (Turn.picks [2, 1, 3, 0] rfl rfl) ?_
    refine Wk.loop (σ := Int × Nat × Int) (ρ := (Unit) ⊕ (Int × Nat)) (γ := Unit) (δ := fun _ => Unit) _ (fun (s : Int × Nat × Int) (g : Unit) => match s, g with | (v19, v20, v21), _ => ⟨.normal, [(1, .slice a7 l6.length c8), (2, ptr b10 0), (4, ptr b11 0), (7, .int .i64 v19), (8, .int .u64 ((v20 : Nat) : Int)), (9, .int .i64 v21)], [.rd a7 c8 1 l6.length (l6.map (eI .i64)), .obj b10 (.cells [.int .i64 x1, .slice a3 l2.length c4] .own), .rd a3 c4 2 l2.length (l2.map (eP (eI .i64) (eI .i64))), .obj b11 (.cells [.int .i64 0, .slice none 0 0] .own)]⟩) (fun (r : (Unit) ⊕ (Int × Nat)) (g : Unit) => match r, g with | .inl _, _ => ⟨.ret, [(4, ptr b11 0), (5, .int .i64 2)], [.obj b11 (.cells [.int .i64 0, .slice none 0 0] .own)]⟩ | .inr (v114, v115), _ => ⟨(.exit 0), [(1, .slice a7 l6.length c8), (2, ptr b10 0), (4, ptr b11 0), (7, .int .i64 v114), (8, .int .u64 ((v115 : Nat) : Int))], [.rd a7 c8 1 l6.length (l6.map (eI .i64)), .obj b10 (.cells [.int .i64 x1, .slice a3 l2.length c4] .own), .rd a3 c4 2 l2.length (l2.map (eP (eI .i64) (eI .i64))), .obj b11 (.cells [.int .i64 0, .slice none 0 0] .own)]⟩) ?_ (fun _ _ => rfl) (fun r d => by rcases r with _ | _ <;> (intro e; cases e)) _ _ _ h205 ()
    clear hF h205
    rintro ⟨v19, v20, v21⟩ ⟨⟩ r hF
    unfold L47_1 at hF
    refine Wk.seq <| Wk.seq <| Wk.region <| Wo.od (o_mv rfl) rfl ?_
    refine Wo.od (o_fa (r := ptr b10 0) rfl (fa25_0 _ _)) rfl ?_
    refine Wo.od (o_ld (k := 1) t3 rfl rfl rfl) rfl ?_
    refine Wo.od (o_bi rfl rfl (bin_lss _ _ _)) rfl ?_
    refine Wo.nil <| At.tn ?_
    rcases br_some hF with ⟨h116, hF⟩ | ⟨h116, hF⟩
    ·refine Wk.condT rfl h116 ?_
     refine Wk.skip <| At.tn <| Wk.seq <| Wk.block <| Wk.seq <| Wk.seq ?_
     obtain ⟨v186, h194, hF⟩ := ob_some hF
     refine Wk.cut (G := (fun (r : Bool) (g : Unit) => match r, g with | v186, _ => ⟨.normal, [(1, .slice a7 l6.length c8), (2, ptr b10 0), (4, ptr b11 0), (7, .int .i64 v19), (8, .int .u64 ((v20 : Nat) : Int)), (9, .int .i64 v21), (48, .bool v186)], [.rd a7 c8 1 l6.length (l6.map (eI .i64)), .obj b10 (.cells [.int .i64 x1, .slice a3 l2.length c4] .own), .rd a3 c4 2 l2.length (l2.map (eP (eI .i64) (eI .i64))), .obj b11 (.cells [.int .i64 0, .slice none 0 0] .own)]⟩) v186) ?_ ?_
     ·clear hF
      revert v186
      intro r hF
      refine Wk.draw (by kernel_rfl) ?_
      refine Wo.od (o_mv rfl) rfl ?_
      refine Wo.od (o_mv rfl) rfl ?_
      obtain ⟨h187, hF⟩ := gd_some hF
      replace h187 := inB_some h187
      refine Wo.openr (k := 0) rfl (pos_of h187) ?_
      rintro b188 o189 rfl
      refine Wo.og (o_ixs s39 rfl rfl h187) gn rfl ?_
      obtain ⟨x190, h191, hF⟩ := ob_some hF
      refine Wo.od (o_ldr (k := 0) t3 rfl rfl (map_at h191) rfl rfl) rfl ?_
      refine Wo.od (o_bi rfl rfl (bin_lss _ _ _)) rfl ?_
      refine Wo.od (o_mv rfl) rfl ?_
      rcases br_some hF with ⟨h192, hF⟩ | ⟨h192, hF⟩
      ·refine Wo.s (gg rfl rfl (eTF h192)) rfl ?_
       refine Wo.s (gg rfl rfl (eTF h192)) rfl ?_
       refine Wo.s (gg rfl rfl (eTF h192)) rfl ?_
       refine Wo.s (gg rfl rfl (eTF h192)) rfl ?_
       refine Wo.s (gg rfl rfl (eTF h192)) rfl ?_
       refine Wo.s (gg rfl rfl (eTF h192)) rfl ?_
       refine Wo.s (gg rfl rfl (eTF h192)) rfl ?_
       refine Wo.od (o_pt rfl h192 rfl) rfl ?_
       refine Wo.nil ?_
       cases hF
       exact At.en () rfl (sc rfl (sc rfl (sc rfl (sc rfl (sc rfl (sc rfl (sc rfl sn))))))) (Turn.picks [1, 2, 3, 4] rfl rfl)
      ·refine Wo.og (o_mv rfl) (gg rfl rfl (eFF h192)) rfl ?_
       refine Wo.og (o_mv rfl) (gg rfl rfl (eFF h192)) rfl ?_
       obtain ⟨h193, hF⟩ := gd_some hF
       replace h193 := inB_some h193
       refine Wo.og (o_ixs s39 rfl rfl h193) (gg rfl rfl (eFF h192)) rfl ?_
       refine Wo.og (o_ldr (k := 0) t3 rfl rfl (map_at h191) rfl rfl) (gg rfl rfl (eFF h192)) rfl ?_
       refine Wo.og (o_fa (r := ptr b10 0) rfl (fa25_0 _ _)) (gg rfl rfl (eFF h192)) rfl ?_
       refine Wo.og (o_ld (k := 2) t3 rfl rfl rfl) (gg rfl rfl (eFF h192)) rfl ?_
       refine Wo.og (o_bi rfl rfl (bin_geq _ _ _)) (gg rfl rfl (eFF h192)) rfl ?_
       refine Wo.od (o_pf rfl h192 rfl) rfl ?_
       refine Wo.nil ?_
       cases hF
       exact At.en () rfl (sc rfl (sc rfl (sc rfl (sc rfl (sc rfl (sc rfl (sc rfl sn))))))) (Turn.picks [1, 2, 3, 4] rfl rfl)
     ·clear h194
      rintro ⟨⟩
      refine At.tn ?_
      rcases br_some hF with ⟨h196, hF⟩ | ⟨h196, hF⟩
      ·refine Wk.condT rfl h196 ?_
       refine Wk.seq <| Wk.region <| Wo.od (o_bd rfl z25 rfl (bd_s bs25 rfl rfl rfl)) rfl ?_
       refine Wo.o0 (o_st (k := 3) t25 rfl rfl rfl rfl rfl) ?_
       refine Wo.od (o_as rfl) rfl ?_
       refine Wo.nil <| At.tn <| Wk.ret <| At.tr <| At.br <| At.tr ?_
       cases hF
       exact At.en () rfl (sc rfl (sc rfl sn)) (Turn.picks [3] rfl rfl)
      ·refine Wk.condF rfl h196 ?_
       refine Wk.skip <| At.tn <| Wk.seq <| Wk.region <| Wo.od (o_mv rfl) rfl ?_
       refine Wo.od (o_mv rfl) rfl ?_
       refine Wo.od (o_mv rfl) rfl ?_
       obtain ⟨h197, hF⟩ := gd_some hF
       replace h197 := inB_some h197
       refine Wo.openr (k := 0) rfl (pos_of h197) ?_
       rintro b198 o199 rfl
       refine Wo.og (o_ixs s39 rfl rfl h197) gn rfl ?_
       obtain ⟨x200, h201, hF⟩ := ob_some hF
       refine Wo.od (o_ldr (k := 0) t3 rfl rfl (map_at h201) rfl rfl) rfl ?_
       refine Wo.od (o_bi rfl rfl (bin_add _ _ _)) rfl ?_
       refine Wo.od (o_bu rfl rfl (bu_ma _ _)) rfl ?_
       refine Wo.od (o_as rfl) rfl ?_
       refine Wo.nil <| At.tn <| Wk.region <| Wo.od (o_mv rfl) rfl ?_
       refine Wo.od (o_mv rfl) rfl ?_
       refine Wo.od (o_mv rfl) rfl ?_
       obtain ⟨h202, hF⟩ := gd_some hF
       replace h202 := inB_some h202
       refine Wo.og (o_ixs s39 rfl rfl h202) gn rfl ?_
       refine Wo.od (o_ldr (k := 0) t3 rfl rfl (map_at h201) rfl rfl) rfl ?_
       obtain ⟨r204, h203, hF⟩ := ob_some hF
       refine Wo.x (o_cl rfl rfl (fun m hm => f68_ok n x200  _ h203 m ) fun _ => rfl) gn rfl ?_
       rintro ⟨⟩
       refine Wo.od (o_bi rfl rfl (ub_or rfl _ _)) rfl ?_
       refine Wo.od (o_as rfl) rfl ?_
       refine Wo.nil <| At.bn <| At.tn <| Wk.region <| Wo.od (o_mv rfl) rfl ?_
       refine Wo.od (o_bi rfl rfl (bin_add _ _ _)) rfl ?_
       refine Wo.od (o_as rfl) rfl ?_
       refine Wo.nil ?_
       cases hF
       exact At.en () rfl (sc rfl (sc rfl (sc rfl (sc rfl (sc rfl (sc rfl sn)))))) (Turn.picks [1, 2, 3, 4] rfl rfl)
    ·refine Wk.condF rfl h116 ?_
     refine Wk.exit <| At.te ?_
     cases hF
     exact At.en () rfl (sc rfl (sc rfl (sc rfl (sc rfl (sc rfl sn))))) (Turn.picks [0, 1, 2, 3] rfl rfl)
   ·clear h205
    rcases r206 with _ | ⟨v114, v115⟩
    ·rintro ⟨⟩
     refine At.br <| At.tr ?_
     cases hF
     exact At.ret (.cell (k := 0) t25 rfl rfl rfl (.tmp rfl .nil)) fun m' hm => ⟨(none, 0), rfl, (Turn.trans (Turn.nil 2 rfl) (Turn.picks [0] rfl rfl)) m' hm⟩
    ·rintro ⟨⟩
     refine At.be <| At.tn <| Wk.seq <| Wk.seq <| Wk.region <| Wo.od (o_mv rfl) rfl ?_
     obtain ⟨r208, h207, hF⟩ := ob_some hF
     refine Wo.x (o_cl rfl rfl (fun m hm => f72_ok n v115  _ h207 m ) fun _ => rfl) gn rfl ?_
     rintro ⟨⟩
     refine Wo.od (o_mv rfl) rfl ?_
     refine Wo.od (o_bi rfl rfl (ib_neq _ _)) rfl ?_
     refine Wo.nil <| At.tn ?_
     rcases br_some hF with ⟨h209, hF⟩ | ⟨h209, hF⟩
     ·refine Wk.condT rfl h209 ?_
      refine Wk.seq <| Wk.region <| Wo.od (o_bd rfl z25 rfl (bd_s bs25 rfl rfl rfl)) rfl ?_
      refine Wo.o0 (o_st (k := 3) t25 rfl rfl rfl rfl rfl) ?_
      refine Wo.od (o_as rfl) rfl ?_
      refine Wo.nil <| At.tn <| Wk.ret <| At.tr ?_
      cases hF
      exact At.ret (.cell (k := 3) t25 rfl rfl rfl (.tmp rfl .nil)) fun m' hm => ⟨(none, 0), rfl, (Turn.trans (Turn.nil 2 rfl) (Turn.picks [0] rfl rfl)) m' hm⟩
     ·refine Wk.condF rfl h209 ?_
      refine Wk.skip <| At.tn <| Wk.seq <| Wk.region <| Wo.od (o_mv rfl) rfl ?_
      refine Wo.od (o_bd rfl z25 rfl (bd_s bs25 rfl rfl rfl)) rfl ?_
      refine Wo.x (o_al z25 rfl) gn rfl fun b210 => ?_
      refine Wo.o0 (o_st (k := 0) t25 rfl rfl rfl rfl rfl) ?_
      refine Wo.nil <| At.tn <| Wk.seq <| Wk.seq <| Wk.region <| Wo.od (o_as rfl) rfl ?_
      refine Wo.nil <| At.tn <| Wk.block ?_
      obtain ⟨l1487, h2123, hF⟩ := ob_some hF
      refine Wk.cut (G := (fun (r : List (Int × Int)) (g : Option Addr) => match r, g with | l1487, a1488 => ⟨(.exit 2), [(4, ptr b11 0), (10, ptr b210 0)], [.obj b11 (.cells [.int .i64 0, .slice none 0 0] .own), .obj b210 (.cells [.int .i64 v114, .slice a1488 l1487.length l1487.length] .own), .sl a1488 2 l1487.length (l1487.map (eP (eI .i64) (eI .i64)))]⟩) l1487) ?_ ?_
      ·refine Wk.weak (fs' := [(1, .slice a7 l6.length c8), (2, ptr b10 0), (4, ptr b11 0), (7, .int .i64 v114), (10, ptr b210 0), (11, .int .i64 0)]) (ps' := [.rd a7 c8 1 l6.length (l6.map (eI .i64)), .obj b10 (.cells [.int .i64 x1, .slice a3 l2.length c4] .own), .rd a3 c4 2 l2.length (l2.map (eP (eI .i64) (eI .i64))), .obj b11 (.cells [.int .i64 0, .slice none 0 0] .own), .obj b210 (.cells [.int .i64 v114, .slice none ([] : List (Int × Int)).length ([] : List (Int × Int)).length] .own), .sl none 2 ([] : List (Int × Int)).length (([] : List (Int × Int)).map (eP (eI .i64) (eI .i64)))]) (sc rfl (sc rfl (sc rfl (sc rfl (sc rfl (sc rfl sn)))))) (Turn.trans (Turn.nil 2 rfl) (Turn.picks [2, 3, 4, 5, 1, 0] rfl rfl)) ?_
       refine Wk.loop (σ := List (Int × Int) × Int) (ρ := List (Int × Int)) (γ := Option Addr) (δ := fun _ => Option Addr) _ (fun (s : List (Int × Int) × Int) (g : Option Addr) => match s, g with | (l847, v849), a848 => ⟨.normal, [(1, .slice a7 l6.length c8), (2, ptr b10 0), (4, ptr b11 0), (7, .int .i64 v114), (10, ptr b210 0), (11, .int .i64 v849)], [.rd a7 c8 1 l6.length (l6.map (eI .i64)), .obj b10 (.cells [.int .i64 x1, .slice a3 l2.length c4] .own), .rd a3 c4 2 l2.length (l2.map (eP (eI .i64) (eI .i64))), .obj b11 (.cells [.int .i64 0, .slice none 0 0] .own), .obj b210 (.cells [.int .i64 v114, .slice a848 l847.length l847.length] .own), .sl a848 2 l847.length (l847.map (eP (eI .i64) (eI .i64)))]⟩) (fun (r : List (Int × Int)) (g : Option Addr) => match r, g with | l1487, a1488 => ⟨(.exit 2), [(4, ptr b11 0), (10, ptr b210 0)], [.obj b11 (.cells [.int .i64 0, .slice none 0 0] .own), .obj b210 (.cells [.int .i64 v114, .slice a1488 l1487.length l1487.length] .own), .sl a1488 2 l1487.length (l1487.map (eP (eI .i64) (eI .i64)))]⟩) ?_ (fun _ _ => rfl) (fun r d => by intro e; cases e) _ _ _ h2123 none
       clear hF h2123
       rintro ⟨l847, v849⟩ a848 r hF
       unfold L47_4 at hF
       refine Wk.seq <| Wk.seq <| Wk.region <| Wo.od (o_mv rfl) rfl ?_
       refine Wo.od (o_mv rfl) rfl ?_
       refine Wo.od (o_bi rfl rfl (bin_lss _ _ _)) rfl ?_
       refine Wo.nil <| At.tn ?_
       rcases br_some hF with ⟨h1489, hF⟩ | ⟨h1489, hF⟩
       ·refine Wk.condT rfl h1489 ?_
        refine Wk.skip <| At.tn <| Wk.seq <| Wk.block <| Wk.seq <| Wk.region <| Wo.od (o_mv rfl) rfl ?_
        refine Wo.od (o_bi rfl rfl (bin_add _ _ _)) rfl ?_
        refine Wo.od (o_as rfl) rfl ?_
        refine Wo.nil <| At.tn <| Wk.block ?_
        obtain ⟨l1912, h2121, hF⟩ := ob_some hF
        refine Wk.cut (G := (fun (r : List (Int × Int)) (g : Option Addr) => match r, g with | l1912, a1913 => ⟨(.exit 4), [(1, .slice a7 l6.length c8), (2, ptr b10 0), (4, ptr b11 0), (7, .int .i64 v114), (10, ptr b210 0), (11, .int .i64 v849)], [.rd a7 c8 1 l6.length (l6.map (eI .i64)), .obj b10 (.cells [.int .i64 x1, .slice a3 l2.length c4] .own), .rd a3 c4 2 l2.length (l2.map (eP (eI .i64) (eI .i64))), .obj b11 (.cells [.int .i64 0, .slice none 0 0] .own), .obj b210 (.cells [.int .i64 v114, .slice a1913 l1912.length l1912.length] .own), .sl a1913 2 l1912.length (l1912.map (eP (eI .i64) (eI .i64)))]⟩) l1912) ?_ ?_
        ·refine Wk.weak (fs' := [(1, .slice a7 l6.length c8), (2, ptr b10 0), (4, ptr b11 0), (7, .int .i64 v114), (10, ptr b210 0), (11, .int .i64 v849), (12, .int .i64 (IntKind.wrap .i64 (v849 + 1)))]) (ps' := [.rd a7 c8 1 l6.length (l6.map (eI .i64)), .obj b10 (.cells [.int .i64 x1, .slice a3 l2.length c4] .own), .rd a3 c4 2 l2.length (l2.map (eP (eI .i64) (eI .i64))), .obj b11 (.cells [.int .i64 0, .slice none 0 0] .own), .obj b210 (.cells [.int .i64 v114, .slice a848 l847.length l847.length] .own), .sl a848 2 l847.length (l847.map (eP (eI .i64) (eI .i64)))]) (sc rfl (sc rfl (sc rfl (sc rfl (sc rfl (sc rfl (sc rfl sn))))))) (Turn.picks [0, 1, 2, 3, 4, 5] rfl rfl) ?_
         refine Wk.loop (σ := List (Int × Int) × Int) (ρ := List (Int × Int)) (γ := Option Addr) (δ := fun _ => Option Addr) _ (fun (s : List (Int × Int) × Int) (g : Option Addr) => match s, g with | (l1699, v1701), a1700 => ⟨.normal, [(1, .slice a7 l6.length c8), (2, ptr b10 0), (4, ptr b11 0), (7, .int .i64 v114), (10, ptr b210 0), (11, .int .i64 v849), (12, .int .i64 v1701)], [.rd a7 c8 1 l6.length (l6.map (eI .i64)), .obj b10 (.cells [.int .i64 x1, .slice a3 l2.length c4] .own), .rd a3 c4 2 l2.length (l2.map (eP (eI .i64) (eI .i64))), .obj b11 (.cells [.int .i64 0, .slice none 0 0] .own), .obj b210 (.cells [.int .i64 v114, .slice a1700 l1699.length l1699.length] .own), .sl a1700 2 l1699.length (l1699.map (eP (eI .i64) (eI .i64)))]⟩) (fun (r : List (Int × Int)) (g : Option Addr) => match r, g with | l1912, a1913 => ⟨(.exit 4), [(1, .slice a7 l6.length c8), (2, ptr b10 0), (4, ptr b11 0), (7, .int .i64 v114), (10, ptr b210 0), (11, .int .i64 v849)], [.rd a7 c8 1 l6.length (l6.map (eI .i64)), .obj b10 (.cells [.int .i64 x1, .slice a3 l2.length c4] .own), .rd a3 c4 2 l2.length (l2.map (eP (eI .i64) (eI .i64))), .obj b11 (.cells [.int .i64 0, .slice none 0 0] .own), .obj b210 (.cells [.int .i64 v114, .slice a1913 l1912.length l1912.length] .own), .sl a1913 2 l1912.length (l1912.map (eP (eI .i64) (eI .i64)))]⟩) ?_ (fun _ _ => rfl) (fun r d => by intro e; cases e) _ _ _ h2121 a848
         clear hF h2121
         rintro ⟨l1699, v1701⟩ a1700 r hF
         unfold L47_3 at hF
         refine Wk.seq <| Wk.seq <| Wk.region <| Wo.od (o_mv rfl) rfl ?_
         refine Wo.od (o_mv rfl) rfl ?_
         refine Wo.od (o_bi rfl rfl (bin_lss _ _ _)) rfl ?_
         refine Wo.nil <| At.tn ?_
         rcases br_some hF with ⟨h1914, hF⟩ | ⟨h1914, hF⟩
         ·refine Wk.condT rfl h1914 ?_
          refine Wk.skip <| At.tn <| Wk.seq ?_
          obtain ⟨l2016, h2119, hF⟩ := ob_some hF
          refine Wk.cut (G := (fun (r : List (Int × Int)) (g : Option Addr) => match r, g with | l2016, a2017 => ⟨.normal, [(1, .slice a7 l6.length c8), (2, ptr b10 0), (4, ptr b11 0), (7, .int .i64 v114), (10, ptr b210 0), (11, .int .i64 v849), (12, .int .i64 v1701)], [.rd a7 c8 1 l6.length (l6.map (eI .i64)), .obj b10 (.cells [.int .i64 x1, .slice a3 l2.length c4] .own), .rd a3 c4 2 l2.length (l2.map (eP (eI .i64) (eI .i64))), .obj b11 (.cells [.int .i64 0, .slice none 0 0] .own), .obj b210 (.cells [.int .i64 v114, .slice a2017 l2016.length l2016.length] .own), .sl a2017 2 l2016.length (l2016.map (eP (eI .i64) (eI .i64)))]⟩) l2016) ?_ ?_
          ·clear hF
           revert l2016
           intro r hF
           refine Wk.block <| Wk.seq <| Wk.region <| Wo.od (o_as rfl) rfl ?_
           refine Wo.nil <| At.tn <| Wk.seq <| Wk.seq <| Wk.region <| Wo.od (o_as rfl) rfl ?_
           refine Wo.nil <| At.tn <| Wk.block ?_
           obtain ⟨v2068, h2113, hF⟩ := ob_some hF
           refine Wk.cut (G := (fun (r : Bool) (g : Unit) => match r, g with | v2068, _ => ⟨(.exit 6), [(1, .slice a7 l6.length c8), (2, ptr b10 0), (4, ptr b11 0), (7, .int .i64 v114), (10, ptr b210 0), (11, .int .i64 v849), (12, .int .i64 v1701), (13, .bool v2068)], [.rd a7 c8 1 l6.length (l6.map (eI .i64)), .obj b10 (.cells [.int .i64 x1, .slice a3 l2.length c4] .own), .rd a3 c4 2 l2.length (l2.map (eP (eI .i64) (eI .i64))), .obj b11 (.cells [.int .i64 0, .slice none 0 0] .own), .obj b210 (.cells [.int .i64 v114, .slice a1700 l1699.length l1699.length] .own), .sl a1700 2 l1699.length (l1699.map (eP (eI .i64) (eI .i64)))]⟩) v2068) ?_ ?_
           ·refine Wk.weak (fs' := [(1, .slice a7 l6.length c8), (2, ptr b10 0), (4, ptr b11 0), (7, .int .i64 v114), (10, ptr b210 0), (11, .int .i64 v849), (12, .int .i64 v1701), (13, .bool false), (14, .int .i64 0)]) (ps' := [.rd a7 c8 1 l6.length (l6.map (eI .i64)), .obj b10 (.cells [.int .i64 x1, .slice a3 l2.length c4] .own), .rd a3 c4 2 l2.length (l2.map (eP (eI .i64) (eI .i64))), .obj b11 (.cells [.int .i64 0, .slice none 0 0] .own), .obj b210 (.cells [.int .i64 v114, .slice a1700 l1699.length l1699.length] .own), .sl a1700 2 l1699.length (l1699.map (eP (eI .i64) (eI .i64)))]) (sc rfl (sc rfl (sc rfl (sc rfl (sc rfl (sc rfl (sc rfl (sc rfl (sc rfl sn))))))))) (Turn.picks [0, 1, 2, 3, 4, 5] rfl rfl) ?_
            refine Wk.loop (σ := Bool × Int) (ρ := Bool) (γ := Unit) (δ := fun _ => Unit) _ (fun (s : Bool × Int) (g : Unit) => match s, g with | (v2020, v2021), _ => ⟨.normal, [(1, .slice a7 l6.length c8), (2, ptr b10 0), (4, ptr b11 0), (7, .int .i64 v114), (10, ptr b210 0), (11, .int .i64 v849), (12, .int .i64 v1701), (13, .bool v2020), (14, .int .i64 v2021)], [.rd a7 c8 1 l6.length (l6.map (eI .i64)), .obj b10 (.cells [.int .i64 x1, .slice a3 l2.length c4] .own), .rd a3 c4 2 l2.length (l2.map (eP (eI .i64) (eI .i64))), .obj b11 (.cells [.int .i64 0, .slice none 0 0] .own), .obj b210 (.cells [.int .i64 v114, .slice a1700 l1699.length l1699.length] .own), .sl a1700 2 l1699.length (l1699.map (eP (eI .i64) (eI .i64)))]⟩) (fun (r : Bool) (g : Unit) => match r, g with | v2068, _ => ⟨(.exit 6), [(1, .slice a7 l6.length c8), (2, ptr b10 0), (4, ptr b11 0), (7, .int .i64 v114), (10, ptr b210 0), (11, .int .i64 v849), (12, .int .i64 v1701), (13, .bool v2068)], [.rd a7 c8 1 l6.length (l6.map (eI .i64)), .obj b10 (.cells [.int .i64 x1, .slice a3 l2.length c4] .own), .rd a3 c4 2 l2.length (l2.map (eP (eI .i64) (eI .i64))), .obj b11 (.cells [.int .i64 0, .slice none 0 0] .own), .obj b210 (.cells [.int .i64 v114, .slice a1700 l1699.length l1699.length] .own), .sl a1700 2 l1699.length (l1699.map (eP (eI .i64) (eI .i64)))]⟩) ?_ (fun _ _ => rfl) (fun r d => by intro e; cases e) _ _ _ h2113 ()
            clear hF h2113
            rintro ⟨v2020, v2021⟩ ⟨⟩ r hF
            unfold L47_2 at hF
            refine Wk.seq <| Wk.seq <| Wk.region <| Wo.od (o_mv rfl) rfl ?_
            refine Wo.od (o_fa (r := ptr b10 1) rfl (fa25_1 _ _)) rfl ?_
            refine Wo.od (o_ld (k := 1) t23 rfl rfl rfl) rfl ?_
            refine Wo.od (o_ln (k := 2) u23 rfl rfl (.inl rfl)) rfl ?_
            refine Wo.od (o_bi rfl rfl (bin_lss _ _ _)) rfl ?_
            refine Wo.nil <| At.tn ?_
            rcases br_some hF with ⟨h2069, hF⟩ | ⟨h2069, hF⟩
            ·refine Wk.condT rfl h2069 ?_
             refine Wk.skip <| At.tn <| Wk.seq ?_
             obtain ⟨v2090, h2111, hF⟩ := ob_some hF
             refine Wk.cut (G := (fun (r : Bool) (g : Unit) => match r, g with | v2090, _ => ⟨.normal, [(1, .slice a7 l6.length c8), (2, ptr b10 0), (4, ptr b11 0), (7, .int .i64 v114), (10, ptr b210 0), (11, .int .i64 v849), (12, .int .i64 v1701), (13, .bool v2090), (14, .int .i64 v2021)], [.rd a7 c8 1 l6.length (l6.map (eI .i64)), .obj b10 (.cells [.int .i64 x1, .slice a3 l2.length c4] .own), .rd a3 c4 2 l2.length (l2.map (eP (eI .i64) (eI .i64))), .obj b11 (.cells [.int .i64 0, .slice none 0 0] .own), .obj b210 (.cells [.int .i64 v114, .slice a1700 l1699.length l1699.length] .own), .sl a1700 2 l1699.length (l1699.map (eP (eI .i64) (eI .i64)))]⟩) v2090) ?_ ?_
             ·clear hF
              revert v2090
              intro r hF
              refine Wk.block <| Wk.seq <| Wk.draw (by kernel_rfl) ?_
              refine Wo.od (o_mv rfl) rfl ?_
              refine Wo.od (o_fa (r := ptr b10 1) rfl (fa25_1 _ _)) rfl ?_
              refine Wo.od (o_ld (k := 1) t23 rfl rfl rfl) rfl ?_
              refine Wo.od (o_mv rfl) rfl ?_
              obtain ⟨h2091, hF⟩ := gd_some hF
              replace h2091 := inB_some h2091
              refine Wo.openr (k := 2) rfl (pos_of h2091) ?_
              rintro b2092 o2093 rfl
              refine Wo.og (o_ixs s23 rfl rfl h2091) gn rfl ?_
              refine Wo.od (o_ia (r := ptr b2092 (o2093 + v2021.toNat * 2 + 0)) rfl rfl (ia_c ar26 (i := 0) (by decide))) rfl ?_
              obtain ⟨⟨x2094, x2095⟩, h2096, hF⟩ := ob_some hF
              refine Wo.od (o_ldr (k := 0) t3 rfl rfl (map_at h2096) rfl rfl) rfl ?_
              obtain ⟨h2097, hF⟩ := gd_some hF
              replace h2097 := inB_some h2097
              refine Wo.openr (k := 1) rfl (pos_of h2097) ?_
              rintro b2098 o2099 rfl
              refine Wo.og (o_ixs s39 rfl rfl h2097) gn rfl ?_
              obtain ⟨x2100, h2101, hF⟩ := ob_some hF
              refine Wo.od (o_ldr (k := 0) t3 rfl rfl (map_at h2101) rfl rfl) rfl ?_
              refine Wo.od (o_mv rfl) rfl ?_
              refine Wo.od (o_fa (r := ptr b10 1) rfl (fa25_1 _ _)) rfl ?_
              refine Wo.od (o_ld (k := 3) t23 rfl rfl rfl) rfl ?_
              refine Wo.od (o_mv rfl) rfl ?_
              obtain ⟨h2102, hF⟩ := gd_some hF
              replace h2102 := inB_some h2102
              refine Wo.og (o_ixs s23 rfl rfl h2102) gn rfl ?_
              refine Wo.od (o_ia (r := ptr b2092 (o2093 + v2021.toNat * 2 + 1)) rfl rfl (ia_c ar26 (i := 1) (by decide))) rfl ?_
              refine Wo.od (o_ldr (k := 1) t3 rfl rfl (map_at h2096) rfl rfl) rfl ?_
              obtain ⟨h2103, hF⟩ := gd_some hF
              replace h2103 := inB_some h2103
              refine Wo.og (o_ixs s39 rfl rfl h2103) gn rfl ?_
              obtain ⟨x2104, h2105, hF⟩ := ob_some hF
              refine Wo.od (o_ldr (k := 0) t3 rfl rfl (map_at h2105) rfl rfl) rfl ?_
              refine Wo.od (o_as rfl) rfl ?_
              refine Wo.od (o_as rfl) rfl ?_
              refine Wo.nil <| At.tn <| Wk.region <| Wo.od (o_mv rfl) rfl ?_
              refine Wo.od (o_mv rfl) rfl ?_
              rcases br_some hF with ⟨h2106, hF⟩ | ⟨h2106, hF⟩
              ·refine Wo.s (gg rfl rfl (eTF h2106)) rfl ?_
               refine Wo.s (gg rfl rfl (eTF h2106)) rfl ?_
               refine Wo.s (gg rfl rfl (eTF h2106)) rfl ?_
               refine Wo.s (gg rfl rfl (eTF h2106)) rfl ?_
               refine Wo.s (gu rfl rfl) rfl ?_
               refine Wo.s (gu rfl rfl) rfl ?_
               refine Wo.s (gu rfl rfl) rfl ?_
               refine Wo.s (gg rfl rfl (eTF h2106)) rfl ?_
               refine Wo.od (o_pt rfl h2106 rfl) rfl ?_
               refine Wo.od (o_mv rfl) rfl ?_
               refine Wo.s (gg rfl rfl rfl) rfl ?_
               refine Wo.s (gg rfl rfl rfl) rfl ?_
               refine Wo.s (gg rfl rfl rfl) rfl ?_
               refine Wo.s (gg rfl rfl rfl) rfl ?_
               refine Wo.s (gu rfl rfl) rfl ?_
               refine Wo.s (gu rfl rfl) rfl ?_
               refine Wo.s (gu rfl rfl) rfl ?_
               refine Wo.s (gg rfl rfl rfl) rfl ?_
               refine Wo.od (o_pT rfl rfl) rfl ?_
               refine Wo.od (o_as rfl) rfl ?_
               refine Wo.nil <| At.bn ?_
               cases hF
               exact At.en () rfl (sc rfl (sc rfl (sc rfl (sc rfl (sc rfl (sc rfl (sc rfl (sc rfl (sc rfl sn))))))))) (Turn.picks [2, 3, 4, 5, 6, 7] rfl rfl)
              ·refine Wo.og (o_mv rfl) (gg rfl rfl (eFF h2106)) rfl ?_
               refine Wo.og (o_mv rfl) (gg rfl rfl (eFF h2106)) rfl ?_
               refine Wo.og (o_bi rfl rfl (bin_eql _ _ _)) (gg rfl rfl (eFF h2106)) rfl ?_
               refine Wo.og (o_mv rfl) (gg rfl rfl (eFF h2106)) rfl ?_
               rcases br_some hF with ⟨h2107, hF⟩ | ⟨h2107, hF⟩
               ·refine Wo.og (o_mv rfl) (gg rfl rfl (eTT h2107)) rfl ?_
                refine Wo.og (o_mv rfl) (gg rfl rfl (eTT h2107)) rfl ?_
                refine Wo.og (o_bi rfl rfl (bin_eql _ _ _)) (gg rfl rfl (eTT h2107)) rfl ?_
                refine Wo.og (o_pt rfl h2107 rfl) (gg rfl rfl (eFF h2106)) rfl ?_
                refine Wo.od (o_pf rfl h2106 rfl) rfl ?_
                refine Wo.od (o_mv rfl) rfl ?_
                rcases br_some hF with ⟨h2108, hF⟩ | ⟨h2108, hF⟩
                ·refine Wo.s (gg rfl rfl (eTF h2108)) rfl ?_
                 refine Wo.s (gg rfl rfl (eTF h2108)) rfl ?_
                 refine Wo.s (gg rfl rfl (eTF h2108)) rfl ?_
                 refine Wo.s (gg rfl rfl (eTF h2108)) rfl ?_
                 refine Wo.s (gu rfl rfl) rfl ?_
                 refine Wo.s (gu rfl rfl) rfl ?_
                 refine Wo.s (gu rfl rfl) rfl ?_
                 refine Wo.s (gg rfl rfl (eTF h2108)) rfl ?_
                 refine Wo.od (o_pt rfl h2108 rfl) rfl ?_
                 refine Wo.od (o_as rfl) rfl ?_
                 refine Wo.nil <| At.bn ?_
                 cases hF
                 exact At.en () rfl (sc rfl (sc rfl (sc rfl (sc rfl (sc rfl (sc rfl (sc rfl (sc rfl (sc rfl sn))))))))) (Turn.picks [2, 3, 4, 5, 6, 7] rfl rfl)
                ·refine Wo.og (o_mv rfl) (gg rfl rfl (eFF h2108)) rfl ?_
                 refine Wo.og (o_mv rfl) (gg rfl rfl (eFF h2108)) rfl ?_
                 refine Wo.og (o_bi rfl rfl (bin_eql _ _ _)) (gg rfl rfl (eFF h2108)) rfl ?_
                 refine Wo.og (o_mv rfl) (gg rfl rfl (eFF h2108)) rfl ?_
                 rcases br_some hF with ⟨h2109, hF⟩ | ⟨h2109, hF⟩
                 ·refine Wo.og (o_mv rfl) (gg rfl rfl (eTT h2109)) rfl ?_
                  refine Wo.og (o_mv rfl) (gg rfl rfl (eTT h2109)) rfl ?_
                  refine Wo.og (o_bi rfl rfl (bin_eql _ _ _)) (gg rfl rfl (eTT h2109)) rfl ?_
                  refine Wo.og (o_pt rfl h2109 rfl) (gg rfl rfl (eFF h2108)) rfl ?_
                  refine Wo.od (o_pf rfl h2108 rfl) rfl ?_
                  refine Wo.od (o_as rfl) rfl ?_
                  refine Wo.nil <| At.bn ?_
                  cases hF
                  exact At.en () rfl (sc rfl (sc rfl (sc rfl (sc rfl (sc rfl (sc rfl (sc rfl (sc rfl (sc rfl sn))))))))) (Turn.picks [2, 3, 4, 5, 6, 7] rfl rfl)
                 ·refine Wo.s (gg rfl rfl (eFT h2109)) rfl ?_
                  refine Wo.s (gg rfl rfl (eFT h2109)) rfl ?_
                  refine Wo.s (gg rfl rfl (eFT h2109)) rfl ?_
                  refine Wo.og (o_pf rfl h2109 rfl) (gg rfl rfl (eFF h2108)) rfl ?_
                  refine Wo.od (o_pf rfl h2108 rfl) rfl ?_
                  refine Wo.od (o_as rfl) rfl ?_
                  refine Wo.nil <| At.bn ?_
                  cases hF
                  exact At.en () rfl (sc rfl (sc rfl (sc rfl (sc rfl (sc rfl (sc rfl (sc rfl (sc rfl (sc rfl sn))))))))) (Turn.picks [2, 3, 4, 5, 6, 7] rfl rfl)
               ·refine Wo.s (gg rfl rfl (eFT h2107)) rfl ?_
                refine Wo.s (gg rfl rfl (eFT h2107)) rfl ?_
                refine Wo.s (gg rfl rfl (eFT h2107)) rfl ?_
                refine Wo.og (o_pf rfl h2107 rfl) (gg rfl rfl (eFF h2106)) rfl ?_
                refine Wo.od (o_pf rfl h2106 rfl) rfl ?_
                refine Wo.od (o_mv rfl) rfl ?_
                refine Wo.og (o_mv rfl) (gg rfl rfl rfl) rfl ?_
                refine Wo.og (o_mv rfl) (gg rfl rfl rfl) rfl ?_
                refine Wo.og (o_bi rfl rfl (bin_eql _ _ _)) (gg rfl rfl rfl) rfl ?_
                refine Wo.og (o_mv rfl) (gg rfl rfl rfl) rfl ?_
                rcases br_some hF with ⟨h2110, hF⟩ | ⟨h2110, hF⟩
                ·refine Wo.og (o_mv rfl) (gg rfl rfl (eTT h2110)) rfl ?_
                 refine Wo.og (o_mv rfl) (gg rfl rfl (eTT h2110)) rfl ?_
                 refine Wo.og (o_bi rfl rfl (bin_eql _ _ _)) (gg rfl rfl (eTT h2110)) rfl ?_
                 refine Wo.og (o_pt rfl h2110 rfl) (gg rfl rfl rfl) rfl ?_
                 refine Wo.od (o_pF rfl rfl) rfl ?_
                 refine Wo.od (o_as rfl) rfl ?_
                 refine Wo.nil <| At.bn ?_
                 cases hF
                 exact At.en () rfl (sc rfl (sc rfl (sc rfl (sc rfl (sc rfl (sc rfl (sc rfl (sc rfl (sc rfl sn))))))))) (Turn.picks [2, 3, 4, 5, 6, 7] rfl rfl)
                ·refine Wo.s (gg rfl rfl (eFT h2110)) rfl ?_
                 refine Wo.s (gg rfl rfl (eFT h2110)) rfl ?_
                 refine Wo.s (gg rfl rfl (eFT h2110)) rfl ?_
                 refine Wo.og (o_pf rfl h2110 rfl) (gg rfl rfl rfl) rfl ?_
                 refine Wo.od (o_pF rfl rfl) rfl ?_
                 refine Wo.od (o_as rfl) rfl ?_
                 refine Wo.nil <| At.bn ?_
                 cases hF
                 exact At.en () rfl (sc rfl (sc rfl (sc rfl (sc rfl (sc rfl (sc rfl (sc rfl (sc rfl (sc rfl sn))))))))) (Turn.picks [2, 3, 4, 5, 6, 7] rfl rfl)
             ·clear h2111
              rintro ⟨⟩
              refine At.tn <| Wk.region <| Wo.od (o_mv rfl) rfl ?_
              refine Wo.od (o_bi rfl rfl (bin_add _ _ _)) rfl ?_
              refine Wo.od (o_as rfl) rfl ?_
              refine Wo.nil ?_
              cases hF
              exact At.en () rfl (sc rfl (sc rfl (sc rfl (sc rfl (sc rfl (sc rfl (sc rfl (sc rfl (sc rfl sn))))))))) (Turn.picks [0, 1, 2, 3, 4, 5] rfl rfl)
            ·refine Wk.condF rfl h2069 ?_
             refine Wk.exit <| At.te ?_
             cases hF
             exact At.en () rfl (sc rfl (sc rfl (sc rfl (sc rfl (sc rfl (sc rfl (sc rfl (sc rfl sn)))))))) (Turn.picks [0, 1, 2, 3, 4, 5] rfl rfl)
           ·clear h2113
            rintro ⟨⟩
            refine At.be <| At.tn <| Wk.seq <| Wk.region <| Wo.od (o_mv rfl) rfl ?_
            refine Wo.nil <| At.tn ?_
            rcases br_some hF with ⟨h2115, hF⟩ | ⟨h2115, hF⟩
            ·refine Wk.condT rfl h2115 ?_
             refine Wk.region <| Wo.od (o_fa (r := ptr b210 1) rfl (fa25_1 _ _)) rfl ?_
             refine Wo.od (o_ld (k := 4) t23 rfl rfl rfl) rfl ?_
             refine Wo.od (o_mv rfl) rfl ?_
             refine Wo.od (o_mv rfl) rfl ?_
             refine Wo.od (o_bd rfl z26 rfl (bd_s bs26 rfl rfl rfl)) rfl ?_
             refine Wo.x (o_bs (es := ([(v849, v1701)] : List (Int × Int)).map (eP (eI .i64) (eI .i64))) s23 rfl (bs_c s23 z26 rfl rfl) rfl rfl) gn rfl fun b2116 => ?_
             obtain ⟨h2117, hF⟩ := gd_some hF
             refine Wo.x (o_apl (k := 6) (k2 := 0) (xs := (l1699 : List (Int × Int))) (ys := ([(v849, v1701)] : List (Int × Int))) (enP (enI .i64) (enI .i64)) s23 ⟨_, u23⟩ rfl rfl rfl (.arr _ _ _ _ _) h2117) gn rfl fun a2118 => ?_
             refine Wo.od (o_fa (r := ptr b210 1) rfl (fa25_1 _ _)) rfl ?_
             refine Wo.o0 (o_st (k := 5) t23 rfl rfl rfl rfl rfl) ?_
             refine Wo.nil <| At.bn ?_
             cases hF
             exact At.en a2118 rfl (sc rfl (sc rfl (sc rfl (sc rfl (sc rfl (sc rfl (sc rfl sn))))))) (Turn.picks [1, 2, 3, 4, 5, 6] rfl rfl)
            ·refine Wk.condF rfl h2115 ?_
             refine Wk.skip <| At.bn ?_
             have hr := Option.some.inj hF
             subst r
             exact At.en a1700 rfl (sc rfl (sc rfl (sc rfl (sc rfl (sc rfl (sc rfl (sc rfl sn))))))) (Turn.picks [0, 1, 2, 3, 4, 5] rfl rfl)
          ·clear h2119
           rintro a2017
           refine At.tn <| Wk.region <| Wo.od (o_mv rfl) rfl ?_
           refine Wo.od (o_bi rfl rfl (bin_add _ _ _)) rfl ?_
           refine Wo.od (o_as rfl) rfl ?_
           refine Wo.nil ?_
           cases hF
           exact At.en a2017 rfl (sc rfl (sc rfl (sc rfl (sc rfl (sc rfl (sc rfl (sc rfl sn))))))) (Turn.picks [0, 1, 2, 3, 4, 5] rfl rfl)
         ·refine Wk.condF rfl h1914 ?_
          refine Wk.exit <| At.te ?_
          cases hF
          exact At.en a1700 rfl (sc rfl (sc rfl (sc rfl (sc rfl (sc rfl (sc rfl sn)))))) (Turn.picks [0, 1, 2, 3, 4, 5] rfl rfl)
        ·clear h2121
         rintro a1913
         refine At.be <| At.bn <| At.tn <| Wk.region <| Wo.od (o_mv rfl) rfl ?_
         refine Wo.od (o_bi rfl rfl (bin_add _ _ _)) rfl ?_
         refine Wo.od (o_as rfl) rfl ?_
         refine Wo.nil ?_
         cases hF
         exact At.en a1913 rfl (sc rfl (sc rfl (sc rfl (sc rfl (sc rfl (sc rfl sn)))))) (Turn.picks [0, 1, 2, 3, 4, 5] rfl rfl)
       ·refine Wk.condF rfl h1489 ?_
        refine Wk.exit <| At.te ?_
        cases hF
        exact At.en a848 rfl (sc rfl (sc rfl sn)) (Turn.picks [3, 4, 5] rfl rfl)
      ·clear h2123
       rintro a1488
       refine At.be <| At.tn <| Wk.seq <| Wk.region <| Wo.od (o_ld (k := 1) t25 rfl rfl rfl) rfl ?_
       refine Wo.o0 (o_st (k := 0) t25 rfl rfl rfl rfl rfl) ?_
       refine Wo.od (o_as rfl) rfl ?_
       refine Wo.nil <| At.tn <| Wk.ret ?_
       cases hF
       exact At.ret (.cell (k := 0) t25 rfl rfl rfl (.tmp rfl .nil)) fun m' hm => ⟨(a1488, l1487.length), rfl, (Turn.picks [2] rfl rfl) m' hm⟩
theorem f8_ok (n : Nat) (x1 : Nat) (x2 : Nat) (x3 : Nat) (l4 : List (Nat × Nat)) (x8 : Nat) (x9 : Nat) (x10 : Int) (x11 : Int) (x12 : Int) (x13 : Nat) (x14 : Nat) (x15 : Int) (x16 : Int) (x17 : Int) (x18 : Nat) (l19 : List (Nat)) (l23 : List (Int)) (a5 : Option Addr) (c6 : Nat) (a20 : Option Addr) (c21 : Nat) (a24 : Option Addr) (c25 : Nat) (r : Bool) (hF : F8 n x1 x2 x3 l4 x8 x9 x10 x11 x12 x13 x14 x15 x16 x17 x18 l19 l23 = some r) (m : AMem) (hG : Gl m) (h7 : Rd m a5 c6 2 l4.length (l4.map (eP (eN .u8) (eN .u8)))) (h22 : Rd m a20 c21 1 l19.length (l19.map (eN .u8))) (h26 : Rd m a24 c25 1 l23.length (l23.map (eI .i64))) :
  CallA E18w 8 [.agg #[.int .u8 ((x1 : Nat) : Int), .int .u8 ((x2 : Nat) : Int), .int .u16 ((x3 : Nat) : Int), .slice a5 l4.length c6], .agg #[.int .u8 ((x8 : Nat) : Int), .int .u8 ((x9 : Nat) : Int), .int .i64 x10, .int .i64 x11, .int .i64 x12, .int .u8 ((x13 : Nat) : Int), .int .u8 ((x14 : Nat) : Int), .int .i64 x15, .int .i64 x16, .int .i64 x17], .int .u64 ((x18 : Nat) : Int), .slice a20 l19.length c21, .slice a24 l23.length c25] m (fun v m' => ∃ x : Unit, v = .bool r ∧ Hp m m' []) := by
 unfold F8 at hF
 refine call_wk (m0 := m) (ps := [.rd a24 c25 1 l23.length (l23.map (eI .i64)), .rd a20 c21 1 l19.length (l19.map (eN .u8)), .rd a5 c6 2 l4.length (l4.map (eP (eN .u8) (eN .u8)))]) (N := 159) (rs := [.tmp 10]) rfl Tryd.func8 rfl rfl rfl ((((Hp.start m).inn rfl h7).inn rfl h22).inn rfl h26) ?_
 refine Wk.seq <| Wk.region <| Wo.x (o_bx rfl) gn rfl fun b27 => ?_
 refine Wo.x (o_bx rfl) gn rfl fun b28 => ?_
 refine Wo.od (o_as rfl) rfl ?_
 refine Wo.nil <| At.tn <| Wk.seq <| Wk.region <| Wo.od (o_mv rfl) rfl ?_
 refine Wo.od (o_mv rfl) rfl ?_
 refine Wo.od (o_ln (k := 2) u39 rfl rfl (.inl rfl)) rfl ?_
 refine Wo.od (o_bu rfl rfl (bu_mi _ _)) rfl ?_
 obtain ⟨h29, hF⟩ := gd_some hF
 refine Wo.x (o_srl (k := 2) (lo := 0) (hi := mi (l23.length : Int) (66 : Int)) s39 rfl rfl rfl rfl h29 (.inl ⟨rfl, rfl⟩) (.inr ⟨_, rfl⟩)) gn rfl ?_
 rintro ⟨a30, c31⟩
 refine Wo.od (o_as rfl) rfl ?_
 refine Wo.nil <| At.tn <| Wk.seq <| Wk.seq <| Wk.region <| Wo.od (o_ld (k := 2) t55 rfl rfl rfl) rfl ?_
 refine Wo.od (o_ld (k := 1) t58 rfl rfl rfl) rfl ?_
 obtain ⟨⟨r33, l34, r37, l38, r41, l42⟩, h32, hF⟩ := ob_some hF
 refine Wo.x (o_cl rfl rfl (fun m hm => f28_ok n x1 x2 x3 l4 x8 x9 x10 x11 x12 x13 x14 x15 x16 x17 a5 c6 _ h32 m (hm.rd (k := 5) rfl (.rd _ _ _ _ _))) fun _ => rfl) gn rfl ?_
 rintro ⟨a35, n36, a39, n40, a43, n44⟩
 refine Wo.len (k := 0) (xs := l34) rfl ?_
 rintro rfl
 refine Wo.len (k := 1) (xs := l38) rfl ?_
 rintro rfl
 refine Wo.len (k := 2) (xs := l42) rfl ?_
 rintro rfl
 refine Wo.od (o_mv rfl) rfl ?_
 refine Wo.nil <| At.tn <| Wk.block ?_
 obtain ⟨r3413, h3412, hF⟩ := ob_some hF
 refine Wk.cut (G := (fun (r : (Unit) ⊕ (Unit)) (g : Unit) => match r, g with | .inl _, _ => ⟨.ret, [(10, .bool false)], []⟩ | .inr _, _ => ⟨(.exit 0), [], []⟩) r3413) ?_ ?_
 ·refine Wk.weak (fs' := [(2, .int .u64 ((x18 : Nat) : Int)), (3, .slice a20 l19.length c21), (4, .slice a30 (((l23.drop (0 : Int).toNat).take ((mi (l23.length : Int) (66 : Int) : Int).toNat - (0 : Int).toNat)).length) c31), (38, .agg #[.int .i64 r33, .slice a35 l34.length l34.length, .int .i64 r37, .slice a39 l38.length l38.length, .int .i64 r41, .slice a43 l42.length l42.length]), (39, .int .i64 0)]) (ps' := [.rd a20 c21 1 l19.length (l19.map (eN .u8)), .rd a30 c31 1 (((l23.drop (0 : Int).toNat).take ((mi (l23.length : Int) (66 : Int) : Int).toNat - (0 : Int).toNat)).length) (((l23.drop (0 : Int).toNat).take ((mi (l23.length : Int) (66 : Int) : Int).toNat - (0 : Int).toNat)).map (eI .i64)), .rd a35 l34.length 2 l34.length (l34.map (eP (eI .i64) (eI .i64))), .rd a39 l38.length 2 l38.length (l38.map (eP (eI .i64) (eI .i64))), .rd a43 l42.length 2 l42.length (l42.map (eP (eI .i64) (eI .i64)))]) (sc rfl (sc rfl (sc rfl (sc rfl (sc rfl sn))))) (Turn.trans (Turn.freeze (k := 0) rfl) (Turn.trans (Turn.freeze (k := 1) rfl) (Turn.trans (Turn.freeze (k := 2) rfl) (Turn.picks [7, 3, 0, 1, 2] rfl rfl)))) ?_
  refine Wk.loop (σ := Int) (ρ := (Unit) ⊕ (Unit)) (γ := Unit) (δ := fun _ => Unit) _ (fun (s : Int) (g : Unit) => match s, g with | v1168, _ => ⟨.normal, [(2, .int .u64 ((x18 : Nat) : Int)), (3, .slice a20 l19.length c21), (4, .slice a30 (((l23.drop (0 : Int).toNat).take ((mi (l23.length : Int) (66 : Int) : Int).toNat - (0 : Int).toNat)).length) c31), (38, .agg #[.int .i64 r33, .slice a35 l34.length l34.length, .int .i64 r37, .slice a39 l38.length l38.length, .int .i64 r41, .slice a43 l42.length l42.length]), (39, .int .i64 v1168)], [.rd a20 c21 1 l19.length (l19.map (eN .u8)), .rd a30 c31 1 (((l23.drop (0 : Int).toNat).take ((mi (l23.length : Int) (66 : Int) : Int).toNat - (0 : Int).toNat)).length) (((l23.drop (0 : Int).toNat).take ((mi (l23.length : Int) (66 : Int) : Int).toNat - (0 : Int).toNat)).map (eI .i64)), .rd a35 l34.length 2 l34.length (l34.map (eP (eI .i64) (eI .i64))), .rd a39 l38.length 2 l38.length (l38.map (eP (eI .i64) (eI .i64))), .rd a43 l42.length 2 l42.length (l42.map (eP (eI .i64) (eI .i64)))]⟩) (fun (r : (Unit) ⊕ (Unit)) (g : Unit) => match r, g with | .inl _, _ => ⟨.ret, [(10, .bool false)], []⟩ | .inr _, _ => ⟨(.exit 0), [], []⟩) ?_ (fun _ _ => rfl) (fun r d => by rcases r with _ | _ <;> (intro e; cases e)) _ _ _ h3412 ()
  clear hF h3412
  rintro v1168 ⟨⟩ r hF
  unfold L8_4 at hF
  refine Wk.seq <| Wk.region <| Wo.od (o_bi rfl rfl (bin_lss _ _ _)) rfl ?_
  refine Wo.nil <| At.tn <| Wk.seq ?_
  rcases br_some hF with ⟨h2291, hF⟩ | ⟨h2291, hF⟩
  ·refine Wk.condT rfl h2291 ?_
   refine Wk.skip <| At.tn <| Wk.seq <| Wk.block <| Wk.seq <| Wk.region ?_
   obtain ⟨h2856, hF⟩ := gd_some hF
   obtain ⟨⟨x2852, l2853⟩, h2857, hF⟩ := ob_some hF
   refine Wo.x (o_sel (α := Option Addr × Nat) (V := fun g => match g with | (a2854, c2855) => .agg #[.int .i64 x2852, .slice a2854 l2853.length c2855]) (N := fun g => match g with | (a2854, c2855) => [.rd a2854 c2855 2 l2853.length (l2853.map (eP (eI .i64) (eI .i64)))] ++ [.rd a20 c21 1 l19.length (l19.map (eN .u8)), .rd a30 c31 1 (((l23.drop (0 : Int).toNat).take ((mi (l23.length : Int) (66 : Int) : Int).toNat - (0 : Int).toNat)).length) (((l23.drop (0 : Int).toNat).take ((mi (l23.length : Int) (66 : Int) : Int).toNat - (0 : Int).toNat)).map (eI .i64)), .rd a35 l34.length 2 l34.length (l34.map (eP (eI .i64) (eI .i64))), .rd a39 l38.length 2 l38.length (l38.map (eP (eI .i64) (eI .i64))), .rd a43 l42.length 2 l42.length (l42.map (eP (eI .i64) (eI .i64)))]) rfl rfl (fun m hm => ?_)) gn rfl ?_
   ·have hj := inB_some h2856
    obtain ⟨j, hj2⟩ : ∃ j : Nat, (v1168 : Int) = j := ⟨_, (Int.toNat_of_nonneg hj.1).symm⟩
    rw [hj2] at h2857 hj ⊢
    rw [Int.toNat_natCast] at h2857 hj
    replace hj := hj.2
    clear hF hj2
    match j, hj, h2857 with
    | 0, _, h2857 => cases h2857; exact ⟨(a35, l34.length), ix_c ar59 (i := 0) (by decide) (part_a t25 rfl), (Hp.dup hm (k := 2) rfl)⟩
    | 1, _, h2857 => cases h2857; exact ⟨(a39, l38.length), ix_c ar59 (i := 1) (by decide) (part_a t25 rfl), (Hp.dup hm (k := 3) rfl)⟩
    | 2, _, h2857 => cases h2857; exact ⟨(a43, l42.length), ix_c ar59 (i := 2) (by decide) (part_a t25 rfl), (Hp.dup hm (k := 4) rfl)⟩
    | _ + 3, hj, _ => exact absurd hj (by omega)
   rintro ⟨a2854, c2855⟩
   refine Wo.x (o_al z25 rfl) gn rfl fun b2858 => ?_
   refine Wo.o0 (o_st (k := 0) t25 rfl rfl rfl rfl rfl) ?_
   refine Wo.nil <| At.tn <| Wk.seq <| Wk.seq <| Wk.region <| Wo.od (o_ld (k := 0) t25 rfl rfl rfl) rfl ?_
   refine Wo.od (o_mv rfl) rfl ?_
   obtain ⟨⟨r2860, r2861⟩, h2859, hF⟩ := ob_some hF
   refine Wo.x (o_cl rfl rfl (fun m hm => f29_ok n x2852 l2853 x18 a2854 c2855 _ h2859 m (hm.rd (k := 1) rfl (.rd _ _ _ _ _))) fun _ => rfl) gn rfl ?_
   rintro ⟨⟩
   refine Wo.od (o_mv rfl) rfl ?_
   refine Wo.nil <| At.tn <| Wk.block ?_
   obtain ⟨r3048, h3047, hF⟩ := ob_some hF
   refine Wk.cut (G := (fun (r : (Unit) ⊕ (Unit)) (g : Unit) => match r, g with | .inl _, _ => ⟨.ret, [(10, .bool false)], []⟩ | .inr _, _ => ⟨(.exit 2), [(2, .int .u64 ((x18 : Nat) : Int)), (3, .slice a20 l19.length c21), (4, .slice a30 (((l23.drop (0 : Int).toNat).take ((mi (l23.length : Int) (66 : Int) : Int).toNat - (0 : Int).toNat)).length) c31), (12, ptr b2858 0), (38, .agg #[.int .i64 r33, .slice a35 l34.length l34.length, .int .i64 r37, .slice a39 l38.length l38.length, .int .i64 r41, .slice a43 l42.length l42.length]), (39, .int .i64 v1168)], [.rd a20 c21 1 l19.length (l19.map (eN .u8)), .rd a30 c31 1 (((l23.drop (0 : Int).toNat).take ((mi (l23.length : Int) (66 : Int) : Int).toNat - (0 : Int).toNat)).length) (((l23.drop (0 : Int).toNat).take ((mi (l23.length : Int) (66 : Int) : Int).toNat - (0 : Int).toNat)).map (eI .i64)), .obj b2858 (.cells [.int .i64 x2852, .slice a2854 l2853.length c2855] .own), .rd a2854 c2855 2 l2853.length (l2853.map (eP (eI .i64) (eI .i64))), .rd a35 l34.length 2 l34.length (l34.map (eP (eI .i64) (eI .i64))), .rd a39 l38.length 2 l38.length (l38.map (eP (eI .i64) (eI .i64))), .rd a43 l42.length 2 l42.length (l42.map (eP (eI .i64) (eI .i64)))]⟩) r3048) ?_ ?_
   ·refine Wk.weak (fs' := [(2, .int .u64 ((x18 : Nat) : Int)), (3, .slice a20 l19.length c21), (4, .slice a30 (((l23.drop (0 : Int).toNat).take ((mi (l23.length : Int) (66 : Int) : Int).toNat - (0 : Int).toNat)).length) c31), (12, ptr b2858 0), (38, .agg #[.int .i64 r33, .slice a35 l34.length l34.length, .int .i64 r37, .slice a39 l38.length l38.length, .int .i64 r41, .slice a43 l42.length l42.length]), (39, .int .i64 v1168), (44, .agg #[.int .u64 ((r2860 : Nat) : Int), .int .u64 ((r2861 : Nat) : Int)]), (45, .int .i64 0)]) (ps' := [.rd a20 c21 1 l19.length (l19.map (eN .u8)), .rd a30 c31 1 (((l23.drop (0 : Int).toNat).take ((mi (l23.length : Int) (66 : Int) : Int).toNat - (0 : Int).toNat)).length) (((l23.drop (0 : Int).toNat).take ((mi (l23.length : Int) (66 : Int) : Int).toNat - (0 : Int).toNat)).map (eI .i64)), .obj b2858 (.cells [.int .i64 x2852, .slice a2854 l2853.length c2855] .own), .rd a2854 c2855 2 l2853.length (l2853.map (eP (eI .i64) (eI .i64))), .rd a35 l34.length 2 l34.length (l34.map (eP (eI .i64) (eI .i64))), .rd a39 l38.length 2 l38.length (l38.map (eP (eI .i64) (eI .i64))), .rd a43 l42.length 2 l42.length (l42.map (eP (eI .i64) (eI .i64)))]) (sc rfl (sc rfl (sc rfl (sc rfl (sc rfl (sc rfl (sc rfl (sc rfl sn)))))))) (Turn.picks [2, 3, 0, 1, 4, 5, 6] rfl rfl) ?_
    refine Wk.loop (σ := Int) (ρ := (Unit) ⊕ (Unit)) (γ := Unit) (δ := fun _ => Unit) _ (fun (s : Int) (g : Unit) => match s, g with | v2863, _ => ⟨.normal, [(2, .int .u64 ((x18 : Nat) : Int)), (3, .slice a20 l19.length c21), (4, .slice a30 (((l23.drop (0 : Int).toNat).take ((mi (l23.length : Int) (66 : Int) : Int).toNat - (0 : Int).toNat)).length) c31), (12, ptr b2858 0), (38, .agg #[.int .i64 r33, .slice a35 l34.length l34.length, .int .i64 r37, .slice a39 l38.length l38.length, .int .i64 r41, .slice a43 l42.length l42.length]), (39, .int .i64 v1168), (44, .agg #[.int .u64 ((r2860 : Nat) : Int), .int .u64 ((r2861 : Nat) : Int)]), (45, .int .i64 v2863)], [.rd a20 c21 1 l19.length (l19.map (eN .u8)), .rd a30 c31 1 (((l23.drop (0 : Int).toNat).take ((mi (l23.length : Int) (66 : Int) : Int).toNat - (0 : Int).toNat)).length) (((l23.drop (0 : Int).toNat).take ((mi (l23.length : Int) (66 : Int) : Int).toNat - (0 : Int).toNat)).map (eI .i64)), .obj b2858 (.cells [.int .i64 x2852, .slice a2854 l2853.length c2855] .own), .rd a2854 c2855 2 l2853.length (l2853.map (eP (eI .i64) (eI .i64))), .rd a35 l34.length 2 l34.length (l34.map (eP (eI .i64) (eI .i64))), .rd a39 l38.length 2 l38.length (l38.map (eP (eI .i64) (eI .i64))), .rd a43 l42.length 2 l42.length (l42.map (eP (eI .i64) (eI .i64)))]⟩) (fun (r : (Unit) ⊕ (Unit)) (g : Unit) => match r, g with | .inl _, _ => ⟨.ret, [(10, .bool false)], []⟩ | .inr _, _ => ⟨(.exit 2), [(2, .int .u64 ((x18 : Nat) : Int)), (3, .slice a20 l19.length c21), (4, .slice a30 (((l23.drop (0 : Int).toNat).take ((mi (l23.length : Int) (66 : Int) : Int).toNat - (0 : Int).toNat)).length) c31), (12, ptr b2858 0), (38, .agg #[.int .i64 r33, .slice a35 l34.length l34.length, .int .i64 r37, .slice a39 l38.length l38.length, .int .i64 r41, .slice a43 l42.length l42.length]), (39, .int .i64 v1168)], [.rd a20 c21 1 l19.length (l19.map (eN .u8)), .rd a30 c31 1 (((l23.drop (0 : Int).toNat).take ((mi (l23.length : Int) (66 : Int) : Int).toNat - (0 : Int).toNat)).length) (((l23.drop (0 : Int).toNat).take ((mi (l23.length : Int) (66 : Int) : Int).toNat - (0 : Int).toNat)).map (eI .i64)), .obj b2858 (.cells [.int .i64 x2852, .slice a2854 l2853.length c2855] .own), .rd a2854 c2855 2 l2853.length (l2853.map (eP (eI .i64) (eI .i64))), .rd a35 l34.length 2 l34.length (l34.map (eP (eI .i64) (eI .i64))), .rd a39 l38.length 2 l38.length (l38.map (eP (eI .i64) (eI .i64))), .rd a43 l42.length 2 l42.length (l42.map (eP (eI .i64) (eI .i64)))]⟩) ?_ (fun _ _ => rfl) (fun r d => by rcases r with _ | _ <;> (intro e; cases e)) _ _ _ h3047 ()
    clear hF h3047
    rintro v2863 ⟨⟩ r hF
    unfold L8_1 at hF
    refine Wk.seq <| Wk.region <| Wo.od (o_bi rfl rfl (bin_lss _ _ _)) rfl ?_
    refine Wo.nil <| At.tn <| Wk.seq ?_
    rcases br_some hF with ⟨h2956, hF⟩ | ⟨h2956, hF⟩
    ·refine Wk.condT rfl h2956 ?_
     refine Wk.skip <| At.tn <| Wk.seq <| Wk.block <| Wk.seq <| Wk.region ?_
     obtain ⟨h3003, hF⟩ := gd_some hF
     obtain ⟨x3002, h3004, hF⟩ := ob_some hF
     refine Wo.x (o_sel (α := Unit) (V := fun g => match g with | _ => .int .u64 ((x3002 : Nat) : Int)) (N := fun g => match g with | _ => [] ++ [.rd a20 c21 1 l19.length (l19.map (eN .u8)), .rd a30 c31 1 (((l23.drop (0 : Int).toNat).take ((mi (l23.length : Int) (66 : Int) : Int).toNat - (0 : Int).toNat)).length) (((l23.drop (0 : Int).toNat).take ((mi (l23.length : Int) (66 : Int) : Int).toNat - (0 : Int).toNat)).map (eI .i64)), .obj b2858 (.cells [.int .i64 x2852, .slice a2854 l2853.length c2855] .own), .rd a2854 c2855 2 l2853.length (l2853.map (eP (eI .i64) (eI .i64))), .rd a35 l34.length 2 l34.length (l34.map (eP (eI .i64) (eI .i64))), .rd a39 l38.length 2 l38.length (l38.map (eP (eI .i64) (eI .i64))), .rd a43 l42.length 2 l42.length (l42.map (eP (eI .i64) (eI .i64)))]) rfl rfl (fun m hm => ?_)) gn rfl ?_
     ·have hj := inB_some h3003
      obtain ⟨j, hj2⟩ : ∃ j : Nat, (v2863 : Int) = j := ⟨_, (Int.toNat_of_nonneg hj.1).symm⟩
      rw [hj2] at h3004 hj ⊢
      rw [Int.toNat_natCast] at h3004 hj
      replace hj := hj.2
      clear hF hj2
      match j, hj, h3004 with
      | 0, _, h3004 => cases h3004; exact ⟨(), ix_c ar61 (i := 0) (by decide) (part_o t28 rfl), hm⟩
      | 1, _, h3004 => cases h3004; exact ⟨(), ix_c ar61 (i := 1) (by decide) (part_o t28 rfl), hm⟩
      | _ + 2, hj, _ => exact absurd hj (by omega)
     rintro ⟨⟩
     refine Wo.od (o_as rfl) rfl ?_
     refine Wo.nil <| At.tn <| Wk.seq <| Wk.region <| Wo.od (o_ld (k := 2) t25 rfl rfl rfl) rfl ?_
     refine Wo.od (o_mv rfl) rfl ?_
     obtain ⟨⟨r3006, l3007, l3010, r3013⟩, h3005, hF⟩ := ob_some hF
     refine Wo.x (o_cl rfl rfl (fun m hm => f21_ok n x2852 l2853 x3002 a2854 c2855 _ h3005 m (hG.ext hm.ext) (hm.rd (k := 3) rfl (.rd _ _ _ _ _))) fun _ => rfl) gn rfl ?_
     rintro ⟨a3008, n3009, a3011, n3012⟩
     refine Wo.len (k := 0) (xs := l3007) rfl ?_
     rintro rfl
     refine Wo.len (k := 1) (xs := l3010) rfl ?_
     rintro rfl
     refine Wo.od (o_mv rfl) rfl ?_
     refine Wo.od (o_ex rfl rfl) rfl ?_
     refine Wo.od (o_ex rfl rfl) rfl ?_
     refine Wo.od (o_ex rfl rfl) rfl ?_
     refine Wo.x (o_al z25 rfl) gn rfl fun b3014 => ?_
     refine Wo.o0 (o_st (k := 0) t25 rfl rfl rfl rfl rfl) ?_
     refine Wo.od (o_as rfl) rfl ?_
     refine Wo.od (o_as rfl) rfl ?_
     refine Wo.nil <| At.tn <| Wk.seq <| Wk.region <| Wo.od (o_ld (k := 5) t25 rfl rfl rfl) rfl ?_
     refine Wo.od (o_mv rfl) rfl ?_
     obtain ⟨⟨r3016, l3017, l3020, r3023⟩, h3015, hF⟩ := ob_some hF
     refine Wo.x (o_cl rfl rfl (fun m hm => f45_ok n x2852 l2853 x3002 a2854 c2855 _ h3015 m (hm.rd (k := 6) rfl (.rd _ _ _ _ _))) fun _ => rfl) gn rfl ?_
     rintro ⟨a3018, n3019, a3021, n3022⟩
     refine Wo.len (k := 0) (xs := l3017) rfl ?_
     rintro rfl
     refine Wo.len (k := 1) (xs := l3020) rfl ?_
     rintro rfl
     refine Wo.od (o_mv rfl) rfl ?_
     refine Wo.od (o_ex rfl rfl) rfl ?_
     refine Wo.od (o_ex rfl rfl) rfl ?_
     refine Wo.od (o_ex rfl rfl) rfl ?_
     refine Wo.x (o_al z25 rfl) gn rfl fun b3024 => ?_
     refine Wo.o0 (o_st (k := 0) t25 rfl rfl rfl rfl rfl) ?_
     refine Wo.od (o_as rfl) rfl ?_
     refine Wo.od (o_as rfl) rfl ?_
     refine Wo.nil <| At.tn <| Wk.seq ?_
     obtain ⟨v3034, h3044, hF⟩ := ob_some hF
     refine Wk.cut (G := (fun (r : Bool) (g : Unit) => match r, g with | v3034, _ => ⟨.normal, [(2, .int .u64 ((x18 : Nat) : Int)), (3, .slice a20 l19.length c21), (4, .slice a30 (((l23.drop (0 : Int).toNat).take ((mi (l23.length : Int) (66 : Int) : Int).toNat - (0 : Int).toNat)).length) c31), (12, ptr b2858 0), (38, .agg #[.int .i64 r33, .slice a35 l34.length l34.length, .int .i64 r37, .slice a39 l38.length l38.length, .int .i64 r41, .slice a43 l42.length l42.length]), (39, .int .i64 v1168), (44, .agg #[.int .u64 ((r2860 : Nat) : Int), .int .u64 ((r2861 : Nat) : Int)]), (45, .int .i64 v2863), (82, .bool v3034)], [.rd a20 c21 1 l19.length (l19.map (eN .u8)), .rd a30 c31 1 (((l23.drop (0 : Int).toNat).take ((mi (l23.length : Int) (66 : Int) : Int).toNat - (0 : Int).toNat)).length) (((l23.drop (0 : Int).toNat).take ((mi (l23.length : Int) (66 : Int) : Int).toNat - (0 : Int).toNat)).map (eI .i64)), .obj b2858 (.cells [.int .i64 x2852, .slice a2854 l2853.length c2855] .own), .rd a2854 c2855 2 l2853.length (l2853.map (eP (eI .i64) (eI .i64))), .rd a35 l34.length 2 l34.length (l34.map (eP (eI .i64) (eI .i64))), .rd a39 l38.length 2 l38.length (l38.map (eP (eI .i64) (eI .i64))), .rd a43 l42.length 2 l42.length (l42.map (eP (eI .i64) (eI .i64)))]⟩) v3034) ?_ ?_
     ·clear hF
      revert v3034
      intro r hF
      refine Wk.region <| Wo.od (o_mv rfl) rfl ?_
      refine Wo.od (o_mv rfl) rfl ?_
      refine Wo.od (o_bi rfl rfl (ib_neq _ _)) rfl ?_
      refine Wo.od (o_mv rfl) rfl ?_
      rcases br_some hF with ⟨h3035, hF⟩ | ⟨h3035, hF⟩
      ·refine Wo.s (gg rfl rfl (eTF h3035)) rfl ?_
       refine Wo.s (gg rfl rfl (eTF h3035)) rfl ?_
       refine Wo.s (gg rfl rfl (eTF h3035)) rfl ?_
       refine Wo.s (gg rfl rfl (eTF h3035)) rfl ?_
       refine Wo.od (o_pt rfl h3035 rfl) rfl ?_
       refine Wo.od (o_mv rfl) rfl ?_
       refine Wo.s (gg rfl rfl rfl) rfl ?_
       refine Wo.s (gg rfl rfl rfl) rfl ?_
       refine Wo.s (gg rfl rfl rfl) rfl ?_
       refine Wo.s (gg rfl rfl rfl) rfl ?_
       refine Wo.od (o_pT rfl rfl) rfl ?_
       refine Wo.od (o_mv rfl) rfl ?_
       refine Wo.s (gg rfl rfl rfl) rfl ?_
       refine Wo.s (gg rfl rfl rfl) rfl ?_
       refine Wo.s (gg rfl rfl rfl) rfl ?_
       refine Wo.s (gg rfl rfl rfl) rfl ?_
       refine Wo.od (o_pT rfl rfl) rfl ?_
       refine Wo.nil ?_
       cases hF
       exact At.en () rfl (sc rfl (sc rfl (sc rfl (sc rfl (sc rfl (sc rfl (sc rfl (sc rfl (sc rfl sn))))))))) (Turn.picks [6, 7, 8, 9, 10, 11, 12] rfl rfl)
      ·refine Wo.og (o_ld (k := 3) t25 rfl rfl rfl) (gg rfl rfl (eFF h3035)) rfl ?_
       refine Wo.og (o_ld (k := 0) t25 rfl rfl rfl) (gg rfl rfl (eFF h3035)) rfl ?_
       obtain ⟨r3037, h3036, hF⟩ := ob_some hF
       refine Wo.x (o_cl rfl rfl (fun m hm => f27_ok n r3006 l3007 r3016 l3017 a3008 l3007.length a3018 l3017.length _ h3036 m (hm.rd (k := 4) rfl (.sl _ _ _ _)) (hm.rd (k := 1) rfl (.sl _ _ _ _))) fun _ => rfl) (gg rfl rfl (eFF h3035)) rfl ?_
       rintro ⟨⟩
       refine Wo.og (o_un rfl rfl) (gg rfl rfl (eFF h3035)) rfl ?_
       refine Wo.od (o_pf rfl h3035 rfl) rfl ?_
       refine Wo.od (o_mv rfl) rfl ?_
       rcases br_some hF with ⟨h3038, hF⟩ | ⟨h3038, hF⟩
       ·refine Wo.s (gg rfl rfl (eTF h3038)) rfl ?_
        refine Wo.s (gg rfl rfl (eTF h3038)) rfl ?_
        refine Wo.s (gg rfl rfl (eTF h3038)) rfl ?_
        refine Wo.s (gg rfl rfl (eTF h3038)) rfl ?_
        refine Wo.od (o_pt rfl h3038 rfl) rfl ?_
        refine Wo.od (o_mv rfl) rfl ?_
        refine Wo.s (gg rfl rfl rfl) rfl ?_
        refine Wo.s (gg rfl rfl rfl) rfl ?_
        refine Wo.s (gg rfl rfl rfl) rfl ?_
        refine Wo.s (gg rfl rfl rfl) rfl ?_
        refine Wo.od (o_pT rfl rfl) rfl ?_
        refine Wo.nil ?_
        cases hF
        exact At.en () rfl (sc rfl (sc rfl (sc rfl (sc rfl (sc rfl (sc rfl (sc rfl (sc rfl (sc rfl sn))))))))) (Turn.picks [6, 7, 8, 9, 10, 11, 12] rfl rfl)
       ·refine Wo.og (o_ld (k := 3) t25 rfl rfl rfl) (gg rfl rfl (eFF h3038)) rfl ?_
        refine Wo.og (o_ld (k := 0) t25 rfl rfl rfl) (gg rfl rfl (eFF h3038)) rfl ?_
        obtain ⟨r3040, h3039, hF⟩ := ob_some hF
        refine Wo.x (o_cl rfl rfl (fun m hm => f44_ok n r3006 l3007 r3016 l3017 a3008 l3007.length a3018 l3017.length _ h3039 m (hm.rd (k := 4) rfl (.sl _ _ _ _)) (hm.rd (k := 1) rfl (.sl _ _ _ _))) fun _ => rfl) (gg rfl rfl (eFF h3038)) rfl ?_
        rintro ⟨⟩
        refine Wo.og (o_un rfl rfl) (gg rfl rfl (eFF h3038)) rfl ?_
        refine Wo.od (o_pf rfl h3038 rfl) rfl ?_
        refine Wo.od (o_mv rfl) rfl ?_
        rcases br_some hF with ⟨h3041, hF⟩ | ⟨h3041, hF⟩
        ·refine Wo.s (gg rfl rfl (eTF h3041)) rfl ?_
         refine Wo.s (gg rfl rfl (eTF h3041)) rfl ?_
         refine Wo.s (gg rfl rfl (eTF h3041)) rfl ?_
         refine Wo.s (gg rfl rfl (eTF h3041)) rfl ?_
         refine Wo.od (o_pt rfl h3041 rfl) rfl ?_
         refine Wo.nil ?_
         cases hF
         exact At.en () rfl (sc rfl (sc rfl (sc rfl (sc rfl (sc rfl (sc rfl (sc rfl (sc rfl (sc rfl sn))))))))) (Turn.picks [6, 7, 8, 9, 10, 11, 12] rfl rfl)
        ·refine Wo.og (o_mv rfl) (gg rfl rfl (eFF h3041)) rfl ?_
         refine Wo.og (o_mv rfl) (gg rfl rfl (eFF h3041)) rfl ?_
         obtain ⟨r3043, h3042, hF⟩ := ob_some hF
         refine Wo.x (o_cl rfl rfl (fun m hm => f39_ok n l3010 l3020 a3011 l3010.length a3021 l3020.length _ h3042 m (hm.rd (k := 5) rfl (.sl _ _ _ _)) (hm.rd (k := 2) rfl (.sl _ _ _ _))) fun _ => rfl) (gg rfl rfl (eFF h3041)) rfl ?_
         rintro ⟨⟩
         refine Wo.og (o_un rfl rfl) (gg rfl rfl (eFF h3041)) rfl ?_
         refine Wo.od (o_pf rfl h3041 rfl) rfl ?_
         refine Wo.nil ?_
         cases hF
         exact At.en () rfl (sc rfl (sc rfl (sc rfl (sc rfl (sc rfl (sc rfl (sc rfl (sc rfl (sc rfl sn))))))))) (Turn.picks [6, 7, 8, 9, 10, 11, 12] rfl rfl)
     ·clear h3044
      rintro ⟨⟩
      refine At.tn ?_
      rcases br_some hF with ⟨h3046, hF⟩ | ⟨h3046, hF⟩
      ·refine Wk.condT rfl h3046 ?_
       refine Wk.seq <| Wk.region <| Wo.od (o_as rfl) rfl ?_
       refine Wo.nil <| At.tn <| Wk.ret <| At.br <| At.tr ?_
       cases hF
       exact At.en () rfl (sc rfl sn) (Turn.picks [] rfl rfl)
      ·refine Wk.condF rfl h3046 ?_
       refine Wk.skip <| At.bn <| At.tn <| Wk.region <| Wo.od (o_bi rfl rfl (bin_add _ _ _)) rfl ?_
       refine Wo.od (o_mv rfl) rfl ?_
       refine Wo.nil ?_
       cases hF
       exact At.en () rfl (sc rfl (sc rfl (sc rfl (sc rfl (sc rfl (sc rfl (sc rfl (sc rfl sn)))))))) (Turn.picks [0, 1, 2, 3, 4, 5, 6] rfl rfl)
    ·refine Wk.condF rfl h2956 ?_
     refine Wk.exit <| At.te ?_
     cases hF
     exact At.en () rfl (sc rfl (sc rfl (sc rfl (sc rfl (sc rfl (sc rfl sn)))))) (Turn.picks [0, 1, 2, 3, 4, 5, 6] rfl rfl)
   ·clear h3047
    rcases r3048 with _ | _
    ·rintro ⟨⟩
     refine At.br <| At.tr <| At.br <| At.tr ?_
     cases hF
     exact At.en () rfl (sc rfl sn) (Turn.picks [] rfl rfl)
    ·rintro ⟨⟩
     refine At.be <| At.tn <| Wk.seq <| Wk.region <| Wo.od (o_as rfl) rfl ?_
     refine Wo.nil <| At.tn <| Wk.seq <| Wk.seq <| Wk.region <| Wo.od (o_fa (r := ptr b2858 0) rfl (fa25_0 _ _)) rfl ?_
     refine Wo.od (o_ld (k := 2) t3 rfl rfl rfl) rfl ?_
     refine Wo.od (o_bu rfl rfl (bu_mi _ _)) rfl ?_
     refine Wo.od (o_bu rfl rfl (bu_ma _ _)) rfl ?_
     refine Wo.od (o_mv rfl) rfl ?_
     refine Wo.nil <| At.tn <| Wk.block ?_
     obtain ⟨l3139, h3182, hF⟩ := ob_some hF
     refine Wk.cut (G := (fun (r : List (Int)) (g : Option Addr) => match r, g with | l3139, a3140 => ⟨(.exit 4), [(2, .int .u64 ((x18 : Nat) : Int)), (3, .slice a20 l19.length c21), (4, .slice a30 (((l23.drop (0 : Int).toNat).take ((mi (l23.length : Int) (66 : Int) : Int).toNat - (0 : Int).toNat)).length) c31), (12, ptr b2858 0), (21, .slice a3140 l3139.length l3139.length), (38, .agg #[.int .i64 r33, .slice a35 l34.length l34.length, .int .i64 r37, .slice a39 l38.length l38.length, .int .i64 r41, .slice a43 l42.length l42.length]), (39, .int .i64 v1168)], [.rd a20 c21 1 l19.length (l19.map (eN .u8)), .rd a30 c31 1 (((l23.drop (0 : Int).toNat).take ((mi (l23.length : Int) (66 : Int) : Int).toNat - (0 : Int).toNat)).length) (((l23.drop (0 : Int).toNat).take ((mi (l23.length : Int) (66 : Int) : Int).toNat - (0 : Int).toNat)).map (eI .i64)), .obj b2858 (.cells [.int .i64 x2852, .slice a2854 l2853.length c2855] .own), .rd a2854 c2855 2 l2853.length (l2853.map (eP (eI .i64) (eI .i64))), .sl a3140 1 l3139.length (l3139.map (eI .i64)), .rd a35 l34.length 2 l34.length (l34.map (eP (eI .i64) (eI .i64))), .rd a39 l38.length 2 l38.length (l38.map (eP (eI .i64) (eI .i64))), .rd a43 l42.length 2 l42.length (l42.map (eP (eI .i64) (eI .i64)))]⟩) l3139) ?_ ?_
     ·refine Wk.weak (fs' := [(2, .int .u64 ((x18 : Nat) : Int)), (3, .slice a20 l19.length c21), (4, .slice a30 (((l23.drop (0 : Int).toNat).take ((mi (l23.length : Int) (66 : Int) : Int).toNat - (0 : Int).toNat)).length) c31), (12, ptr b2858 0), (21, .slice none ([] : List (Int)).length ([] : List (Int)).length), (38, .agg #[.int .i64 r33, .slice a35 l34.length l34.length, .int .i64 r37, .slice a39 l38.length l38.length, .int .i64 r41, .slice a43 l42.length l42.length]), (39, .int .i64 v1168), (87, .int .i64 (ma (mi x2852 (64 : Int)) (0 : Int))), (88, .int .i64 0)]) (ps' := [.rd a20 c21 1 l19.length (l19.map (eN .u8)), .rd a30 c31 1 (((l23.drop (0 : Int).toNat).take ((mi (l23.length : Int) (66 : Int) : Int).toNat - (0 : Int).toNat)).length) (((l23.drop (0 : Int).toNat).take ((mi (l23.length : Int) (66 : Int) : Int).toNat - (0 : Int).toNat)).map (eI .i64)), .obj b2858 (.cells [.int .i64 x2852, .slice a2854 l2853.length c2855] .own), .rd a2854 c2855 2 l2853.length (l2853.map (eP (eI .i64) (eI .i64))), .sl none 1 ([] : List (Int)).length (([] : List (Int)).map (eI .i64)), .rd a35 l34.length 2 l34.length (l34.map (eP (eI .i64) (eI .i64))), .rd a39 l38.length 2 l38.length (l38.map (eP (eI .i64) (eI .i64))), .rd a43 l42.length 2 l42.length (l42.map (eP (eI .i64) (eI .i64)))]) (sc rfl (sc rfl (sc rfl (sc rfl (sc rfl (sc rfl (sc rfl (sc rfl (sc rfl sn))))))))) (Turn.trans (Turn.nil 1 rfl) (Turn.picks [1, 2, 3, 4, 0, 5, 6, 7] rfl rfl)) ?_
      refine Wk.loop (σ := List (Int) × Int) (ρ := List (Int)) (γ := Option Addr) (δ := fun _ => Option Addr) _ (fun (s : List (Int) × Int) (g : Option Addr) => match s, g with | (l3092, v3094), a3093 => ⟨.normal, [(2, .int .u64 ((x18 : Nat) : Int)), (3, .slice a20 l19.length c21), (4, .slice a30 (((l23.drop (0 : Int).toNat).take ((mi (l23.length : Int) (66 : Int) : Int).toNat - (0 : Int).toNat)).length) c31), (12, ptr b2858 0), (21, .slice a3093 l3092.length l3092.length), (38, .agg #[.int .i64 r33, .slice a35 l34.length l34.length, .int .i64 r37, .slice a39 l38.length l38.length, .int .i64 r41, .slice a43 l42.length l42.length]), (39, .int .i64 v1168), (87, .int .i64 (ma (mi x2852 (64 : Int)) (0 : Int))), (88, .int .i64 v3094)], [.rd a20 c21 1 l19.length (l19.map (eN .u8)), .rd a30 c31 1 (((l23.drop (0 : Int).toNat).take ((mi (l23.length : Int) (66 : Int) : Int).toNat - (0 : Int).toNat)).length) (((l23.drop (0 : Int).toNat).take ((mi (l23.length : Int) (66 : Int) : Int).toNat - (0 : Int).toNat)).map (eI .i64)), .obj b2858 (.cells [.int .i64 x2852, .slice a2854 l2853.length c2855] .own), .rd a2854 c2855 2 l2853.length (l2853.map (eP (eI .i64) (eI .i64))), .sl a3093 1 l3092.length (l3092.map (eI .i64)), .rd a35 l34.length 2 l34.length (l34.map (eP (eI .i64) (eI .i64))), .rd a39 l38.length 2 l38.length (l38.map (eP (eI .i64) (eI .i64))), .rd a43 l42.length 2 l42.length (l42.map (eP (eI .i64) (eI .i64)))]⟩) (fun (r : List (Int)) (g : Option Addr) => match r, g with | l3139, a3140 => ⟨(.exit 4), [(2, .int .u64 ((x18 : Nat) : Int)), (3, .slice a20 l19.length c21), (4, .slice a30 (((l23.drop (0 : Int).toNat).take ((mi (l23.length : Int) (66 : Int) : Int).toNat - (0 : Int).toNat)).length) c31), (12, ptr b2858 0), (21, .slice a3140 l3139.length l3139.length), (38, .agg #[.int .i64 r33, .slice a35 l34.length l34.length, .int .i64 r37, .slice a39 l38.length l38.length, .int .i64 r41, .slice a43 l42.length l42.length]), (39, .int .i64 v1168)], [.rd a20 c21 1 l19.length (l19.map (eN .u8)), .rd a30 c31 1 (((l23.drop (0 : Int).toNat).take ((mi (l23.length : Int) (66 : Int) : Int).toNat - (0 : Int).toNat)).length) (((l23.drop (0 : Int).toNat).take ((mi (l23.length : Int) (66 : Int) : Int).toNat - (0 : Int).toNat)).map (eI .i64)), .obj b2858 (.cells [.int .i64 x2852, .slice a2854 l2853.length c2855] .own), .rd a2854 c2855 2 l2853.length (l2853.map (eP (eI .i64) (eI .i64))), .sl a3140 1 l3139.length (l3139.map (eI .i64)), .rd a35 l34.length 2 l34.length (l34.map (eP (eI .i64) (eI .i64))), .rd a39 l38.length 2 l38.length (l38.map (eP (eI .i64) (eI .i64))), .rd a43 l42.length 2 l42.length (l42.map (eP (eI .i64) (eI .i64)))]⟩) ?_ (fun _ _ => rfl) (fun r d => by intro e; cases e) _ _ _ h3182 none
      clear hF h3182
      rintro ⟨l3092, v3094⟩ a3093 r hF
      unfold L8_2 at hF
      refine Wk.seq <| Wk.region <| Wo.od (o_bi rfl rfl (bin_lss _ _ _)) rfl ?_
      refine Wo.nil <| At.tn <| Wk.seq ?_
      rcases br_some hF with ⟨h3141, hF⟩ | ⟨h3141, hF⟩
      ·refine Wk.condT rfl h3141 ?_
       refine Wk.skip <| At.tn <| Wk.seq <| Wk.block <| Wk.seq <| Wk.region <| Wo.od (o_mv rfl) rfl ?_
       refine Wo.od (o_as rfl) rfl ?_
       refine Wo.nil <| At.tn <| Wk.seq <| Wk.region <| Wo.od (o_as rfl) rfl ?_
       refine Wo.nil <| At.tn <| Wk.seq ?_
       obtain ⟨v3169, h3177, hF⟩ := ob_some hF
       refine Wk.cut (G := (fun (r : Int) (g : Unit) => match r, g with | v3169, _ => ⟨.normal, [(2, .int .u64 ((x18 : Nat) : Int)), (3, .slice a20 l19.length c21), (4, .slice a30 (((l23.drop (0 : Int).toNat).take ((mi (l23.length : Int) (66 : Int) : Int).toNat - (0 : Int).toNat)).length) c31), (12, ptr b2858 0), (21, .slice a3093 l3092.length l3092.length), (23, .int .i64 v3169), (38, .agg #[.int .i64 r33, .slice a35 l34.length l34.length, .int .i64 r37, .slice a39 l38.length l38.length, .int .i64 r41, .slice a43 l42.length l42.length]), (39, .int .i64 v1168), (87, .int .i64 (ma (mi x2852 (64 : Int)) (0 : Int))), (88, .int .i64 v3094)], [.rd a20 c21 1 l19.length (l19.map (eN .u8)), .rd a30 c31 1 (((l23.drop (0 : Int).toNat).take ((mi (l23.length : Int) (66 : Int) : Int).toNat - (0 : Int).toNat)).length) (((l23.drop (0 : Int).toNat).take ((mi (l23.length : Int) (66 : Int) : Int).toNat - (0 : Int).toNat)).map (eI .i64)), .obj b2858 (.cells [.int .i64 x2852, .slice a2854 l2853.length c2855] .own), .rd a2854 c2855 2 l2853.length (l2853.map (eP (eI .i64) (eI .i64))), .sl a3093 1 l3092.length (l3092.map (eI .i64)), .rd a35 l34.length 2 l34.length (l34.map (eP (eI .i64) (eI .i64))), .rd a39 l38.length 2 l38.length (l38.map (eP (eI .i64) (eI .i64))), .rd a43 l42.length 2 l42.length (l42.map (eP (eI .i64) (eI .i64)))]⟩) v3169) ?_ ?_
       ·clear hF
        revert v3169
        intro r hF
        refine Wk.seq <| Wk.region <| Wo.od (o_mv rfl) rfl ?_
        refine Wo.od (o_ln (k := 0) u72 rfl rfl (.inl rfl)) rfl ?_
        refine Wo.od (o_bi rfl rfl (bin_gtr _ _ _)) rfl ?_
        refine Wo.nil <| At.tn ?_
        rcases br_some hF with ⟨h3170, hF⟩ | ⟨h3170, hF⟩
        ·refine Wk.condT rfl h3170 ?_
         refine Wk.region <| Wo.od (o_mv rfl) rfl ?_
         refine Wo.od (o_mv rfl) rfl ?_
         refine Wo.od (o_mv rfl) rfl ?_
         refine Wo.od (o_ln (k := 0) u72 rfl rfl (.inl rfl)) rfl ?_
         obtain ⟨h3171, hF⟩ := gd_some hF
         refine Wo.od (o_bi rfl rfl (ib_rem _ _ h3171)) rfl ?_
         obtain ⟨h3172, hF⟩ := gd_some hF
         replace h3172 := inB_some h3172
         refine Wo.openr (k := 0) rfl (pos_of h3172) ?_
         rintro b3173 o3174 rfl
         refine Wo.og (o_ixs s72 rfl rfl h3172) gn rfl ?_
         obtain ⟨x3175, h3176, hF⟩ := ob_some hF
         refine Wo.od (o_ldr (k := 0) t5 rfl rfl (map_at h3176) rfl rfl) rfl ?_
         refine Wo.od (o_cv rfl (cv_i (by rw [u5]; rfl) u3)) rfl ?_
         refine Wo.od (o_bi rfl rfl (ib_rem _ _ (by decide))) rfl ?_
         refine Wo.od (o_as rfl) rfl ?_
         refine Wo.nil ?_
         cases hF
         exact At.en () rfl (sc rfl (sc rfl (sc rfl (sc rfl (sc rfl (sc rfl (sc rfl (sc rfl (sc rfl (sc rfl sn)))))))))) (Turn.picks [1, 2, 3, 4, 5, 6, 7, 8] rfl rfl)
        ·refine Wk.condF rfl h3170 ?_
         refine Wk.skip ?_
         cases hF
         exact At.en () rfl (sc rfl (sc rfl (sc rfl (sc rfl (sc rfl (sc rfl (sc rfl (sc rfl (sc rfl (sc rfl sn)))))))))) (Turn.picks [0, 1, 2, 3, 4, 5, 6, 7] rfl rfl)
       ·clear h3177
        rintro ⟨⟩
        refine At.tn <| Wk.region <| Wo.od (o_mv rfl) rfl ?_
        refine Wo.od (o_mv rfl) rfl ?_
        refine Wo.x (o_bs (es := ([v3169] : List (Int)).map (eI .i64)) s39 rfl (bs_c s39 z3 rfl rfl) rfl rfl) gn rfl fun b3179 => ?_
        obtain ⟨h3180, hF⟩ := gd_some hF
        refine Wo.x (o_apl (k := 5) (k2 := 0) (xs := (l3092 : List (Int))) (ys := ([v3169] : List (Int))) (enI .i64) s39 ⟨_, u39⟩ rfl rfl rfl (.arr _ _ _ _ _) h3180) gn rfl fun a3181 => ?_
        refine Wo.od (o_as rfl) rfl ?_
        refine Wo.nil <| At.bn <| At.tn <| Wk.region <| Wo.od (o_bi rfl rfl (bin_add _ _ _)) rfl ?_
        refine Wo.od (o_mv rfl) rfl ?_
        refine Wo.nil ?_
        cases hF
        exact At.en a3181 rfl (sc rfl (sc rfl (sc rfl (sc rfl (sc rfl (sc rfl (sc rfl (sc rfl (sc rfl sn))))))))) (Turn.picks [1, 2, 3, 4, 5, 6, 7, 8] rfl rfl)
      ·refine Wk.condF rfl h3141 ?_
       refine Wk.exit <| At.te ?_
       cases hF
       exact At.en a3093 rfl (sc rfl (sc rfl (sc rfl (sc rfl (sc rfl (sc rfl (sc rfl sn))))))) (Turn.picks [0, 1, 2, 3, 4, 5, 6, 7] rfl rfl)
     ·clear h3182
      rintro a3140
      refine At.be <| At.tn <| Wk.seq <| Wk.region <| Wo.od (o_mv rfl) rfl ?_
      obtain ⟨l3185, h3184, hF⟩ := ob_some hF
      refine Wo.x (o_cl rfl rfl (fun m hm => f46_ok n l3139 a3140 l3139.length _ h3184 m (hm.rd (k := 4) rfl (.sl _ _ _ _))) fun _ => rfl) gn rfl ?_
      rintro ⟨a3186, n3187⟩
      refine Wo.len (k := 0) (xs := l3185) rfl ?_
      rintro rfl
      refine Wo.od (o_as rfl) rfl ?_
      refine Wo.nil <| At.tn <| Wk.seq ?_
      obtain ⟨l3207, h3227, hF⟩ := ob_some hF
      refine Wk.cut (G := (fun (r : List (Int)) (g : Unit) => match r, g with | l3207, _ => ⟨.normal, [(2, .int .u64 ((x18 : Nat) : Int)), (3, .slice a20 l19.length c21), (4, .slice a30 (((l23.drop (0 : Int).toNat).take ((mi (l23.length : Int) (66 : Int) : Int).toNat - (0 : Int).toNat)).length) c31), (12, ptr b2858 0), (21, .slice a3140 l3139.length l3139.length), (24, .slice a3186 l3185.length l3185.length), (38, .agg #[.int .i64 r33, .slice a35 l34.length l34.length, .int .i64 r37, .slice a39 l38.length l38.length, .int .i64 r41, .slice a43 l42.length l42.length]), (39, .int .i64 v1168)], [.rd a20 c21 1 l19.length (l19.map (eN .u8)), .rd a30 c31 1 (((l23.drop (0 : Int).toNat).take ((mi (l23.length : Int) (66 : Int) : Int).toNat - (0 : Int).toNat)).length) (((l23.drop (0 : Int).toNat).take ((mi (l23.length : Int) (66 : Int) : Int).toNat - (0 : Int).toNat)).map (eI .i64)), .obj b2858 (.cells [.int .i64 x2852, .slice a2854 l2853.length c2855] .own), .rd a2854 c2855 2 l2853.length (l2853.map (eP (eI .i64) (eI .i64))), .sl a3140 1 l3139.length (l3139.map (eI .i64)), .sl a3186 1 l3185.length (l3207.map (eI .i64)), .rd a35 l34.length 2 l34.length (l34.map (eP (eI .i64) (eI .i64))), .rd a39 l38.length 2 l38.length (l38.map (eP (eI .i64) (eI .i64))), .rd a43 l42.length 2 l42.length (l42.map (eP (eI .i64) (eI .i64)))]⟩) l3207) ?_ ?_
      ·clear hF
       revert l3207
       intro r hF
       refine Wk.seq ?_
       obtain ⟨v3209, h3211, hF⟩ := ob_some hF
       refine Wk.cut (G := (fun (r : Bool) (g : Unit) => match r, g with | v3209, _ => ⟨.normal, [(2, .int .u64 ((x18 : Nat) : Int)), (3, .slice a20 l19.length c21), (4, .slice a30 (((l23.drop (0 : Int).toNat).take ((mi (l23.length : Int) (66 : Int) : Int).toNat - (0 : Int).toNat)).length) c31), (12, ptr b2858 0), (21, .slice a3140 l3139.length l3139.length), (24, .slice a3186 l3185.length l3185.length), (38, .agg #[.int .i64 r33, .slice a35 l34.length l34.length, .int .i64 r37, .slice a39 l38.length l38.length, .int .i64 r41, .slice a43 l42.length l42.length]), (39, .int .i64 v1168), (117, .bool v3209)], [.rd a20 c21 1 l19.length (l19.map (eN .u8)), .rd a30 c31 1 (((l23.drop (0 : Int).toNat).take ((mi (l23.length : Int) (66 : Int) : Int).toNat - (0 : Int).toNat)).length) (((l23.drop (0 : Int).toNat).take ((mi (l23.length : Int) (66 : Int) : Int).toNat - (0 : Int).toNat)).map (eI .i64)), .obj b2858 (.cells [.int .i64 x2852, .slice a2854 l2853.length c2855] .own), .rd a2854 c2855 2 l2853.length (l2853.map (eP (eI .i64) (eI .i64))), .sl a3140 1 l3139.length (l3139.map (eI .i64)), .sl a3186 1 l3185.length (l3185.map (eI .i64)), .rd a35 l34.length 2 l34.length (l34.map (eP (eI .i64) (eI .i64))), .rd a39 l38.length 2 l38.length (l38.map (eP (eI .i64) (eI .i64))), .rd a43 l42.length 2 l42.length (l42.map (eP (eI .i64) (eI .i64)))]⟩) v3209) ?_ ?_
       ·clear hF
        revert v3209
        intro r hF
        refine Wk.region <| Wo.od (o_mv rfl) rfl ?_
        refine Wo.od (o_ln (k := 0) u39 rfl rfl (.inl rfl)) rfl ?_
        refine Wo.od (o_bi rfl rfl (bin_gtr _ _ _)) rfl ?_
        refine Wo.od (o_mv rfl) rfl ?_
        rcases br_some hF with ⟨h3210, hF⟩ | ⟨h3210, hF⟩
        ·refine Wo.og (o_mv rfl) (gg rfl rfl (eTT h3210)) rfl ?_
         refine Wo.og (o_ln (k := 2) u39 rfl rfl (.inl rfl)) (gg rfl rfl (eTT h3210)) rfl ?_
         refine Wo.og (o_bi rfl rfl (bin_gtr _ _ _)) (gg rfl rfl (eTT h3210)) rfl ?_
         refine Wo.od (o_pt rfl h3210 rfl) rfl ?_
         refine Wo.nil ?_
         cases hF
         exact At.en () rfl (sc rfl (sc rfl (sc rfl (sc rfl (sc rfl (sc rfl (sc rfl (sc rfl (sc rfl sn))))))))) (Turn.picks [1, 2, 3, 4, 5, 0, 6, 7, 8] rfl rfl)
        ·refine Wo.s (gg rfl rfl (eFT h3210)) rfl ?_
         refine Wo.s (gg rfl rfl (eFT h3210)) rfl ?_
         refine Wo.s (gg rfl rfl (eFT h3210)) rfl ?_
         refine Wo.od (o_pf rfl h3210 rfl) rfl ?_
         refine Wo.nil ?_
         cases hF
         exact At.en () rfl (sc rfl (sc rfl (sc rfl (sc rfl (sc rfl (sc rfl (sc rfl (sc rfl (sc rfl sn))))))))) (Turn.picks [1, 2, 3, 4, 5, 0, 6, 7, 8] rfl rfl)
       ·clear h3211
        rintro ⟨⟩
        refine At.tn ?_
        rcases br_some hF with ⟨h3213, hF⟩ | ⟨h3213, hF⟩
        ·refine Wk.condT rfl h3213 ?_
         refine Wk.draw (by kernel_rfl) ?_
         refine Wo.od (o_mv rfl) rfl ?_
         refine Wo.od (o_mv rfl) rfl ?_
         refine Wo.od (o_ln (k := 0) u72 rfl rfl (.inl rfl)) rfl ?_
         refine Wo.od (o_mv rfl) rfl ?_
         refine Wo.od (o_ln (k := 5) u39 rfl rfl (.inl rfl)) rfl ?_
         obtain ⟨h3214, hF⟩ := gd_some hF
         refine Wo.od (o_bi rfl rfl (ib_rem _ _ h3214)) rfl ?_
         refine Wo.od (o_mv rfl) rfl ?_
         obtain ⟨h3215, hF⟩ := gd_some hF
         replace h3215 := inB_some h3215
         refine Wo.openr (k := 1) rfl (pos_of h3215) ?_
         rintro b3216 o3217 rfl
         refine Wo.og (o_ixs s39 rfl rfl h3215) gn rfl ?_
         obtain ⟨x3218, h3219, hF⟩ := ob_some hF
         refine Wo.od (o_ldr (k := 0) t3 rfl rfl (map_at h3219) rfl rfl) rfl ?_
         obtain ⟨h3220, hF⟩ := gd_some hF
         replace h3220 := inB_some h3220
         refine Wo.open (k := 6) rfl (pos_of h3220) ?_
         rintro b3221 tg3222 rfl h3223
         refine Wo.og (o_ixa s39 rfl rfl h3220) gn rfl ?_
         obtain ⟨x3224, h3225, hF⟩ := ob_some hF
         refine Wo.o0 (o_stl (k := 6) (x1 := x3224) (x2 := x3218) t3 rfl rfl rfl h3225 rfl) ?_
         refine Wo.nil ?_
         cases hF
         exact At.en () rfl (sc rfl (sc rfl (sc rfl (sc rfl (sc rfl (sc rfl (sc rfl (sc rfl sn)))))))) (Turn.trans (Turn.close (k := 6) rfl) (Turn.picks [1, 2, 3, 4, 5, 6, 7, 8, 9] rfl rfl))
        ·refine Wk.condF rfl h3213 ?_
         refine Wk.skip ?_
         have hr := Option.some.inj hF
         subst r
         exact At.en () rfl (sc rfl (sc rfl (sc rfl (sc rfl (sc rfl (sc rfl (sc rfl (sc rfl sn)))))))) (Turn.picks [0, 1, 2, 3, 4, 5, 6, 7, 8] rfl rfl)
      ·clear h3227
       rintro ⟨⟩
       refine At.tn <| Wk.seq <| Wk.region <| Wo.od (o_mv rfl) rfl ?_
       refine Wo.od (o_mv rfl) rfl ?_
       refine Wo.od (o_mv rfl) rfl ?_
       refine Wo.od (o_bd rfl z74 rfl (bd_s bs74 rfl rfl rfl)) rfl ?_
       refine Wo.od (o_mv rfl) rfl ?_
       refine Wo.nil <| At.tn <| Wk.block ?_
       obtain ⟨r3411, h3410, hF⟩ := ob_some hF
       refine Wk.cut (G := (fun (r : (Unit) ⊕ (Unit)) (g : Unit) => match r, g with | .inl _, _ => ⟨.ret, [(10, .bool false)], []⟩ | .inr _, _ => ⟨(.exit 6), [(2, .int .u64 ((x18 : Nat) : Int)), (3, .slice a20 l19.length c21), (4, .slice a30 (((l23.drop (0 : Int).toNat).take ((mi (l23.length : Int) (66 : Int) : Int).toNat - (0 : Int).toNat)).length) c31), (38, .agg #[.int .i64 r33, .slice a35 l34.length l34.length, .int .i64 r37, .slice a39 l38.length l38.length, .int .i64 r41, .slice a43 l42.length l42.length]), (39, .int .i64 v1168)], [.rd a20 c21 1 l19.length (l19.map (eN .u8)), .rd a30 c31 1 (((l23.drop (0 : Int).toNat).take ((mi (l23.length : Int) (66 : Int) : Int).toNat - (0 : Int).toNat)).length) (((l23.drop (0 : Int).toNat).take ((mi (l23.length : Int) (66 : Int) : Int).toNat - (0 : Int).toNat)).map (eI .i64)), .rd a35 l34.length 2 l34.length (l34.map (eP (eI .i64) (eI .i64))), .rd a39 l38.length 2 l38.length (l38.map (eP (eI .i64) (eI .i64))), .rd a43 l42.length 2 l42.length (l42.map (eP (eI .i64) (eI .i64)))]⟩) r3411) ?_ ?_
       ·refine Wk.weak (fs' := [(2, .int .u64 ((x18 : Nat) : Int)), (3, .slice a20 l19.length c21), (4, .slice a30 (((l23.drop (0 : Int).toNat).take ((mi (l23.length : Int) (66 : Int) : Int).toNat - (0 : Int).toNat)).length) c31), (12, ptr b2858 0), (38, .agg #[.int .i64 r33, .slice a35 l34.length l34.length, .int .i64 r37, .slice a39 l38.length l38.length, .int .i64 r41, .slice a43 l42.length l42.length]), (39, .int .i64 v1168), (131, .agg #[.slice a3140 l3139.length l3139.length, .slice a30 (((l23.drop (0 : Int).toNat).take ((mi (l23.length : Int) (66 : Int) : Int).toNat - (0 : Int).toNat)).length) c31, .slice a3186 l3185.length l3185.length]), (132, .int .i64 0)]) (ps' := [.rd a20 c21 1 l19.length (l19.map (eN .u8)), .rd a30 c31 1 (((l23.drop (0 : Int).toNat).take ((mi (l23.length : Int) (66 : Int) : Int).toNat - (0 : Int).toNat)).length) (((l23.drop (0 : Int).toNat).take ((mi (l23.length : Int) (66 : Int) : Int).toNat - (0 : Int).toNat)).map (eI .i64)), .obj b2858 (.cells [.int .i64 x2852, .slice a2854 l2853.length c2855] .own), .rd a2854 c2855 2 l2853.length (l2853.map (eP (eI .i64) (eI .i64))), .rd a35 l34.length 2 l34.length (l34.map (eP (eI .i64) (eI .i64))), .rd a39 l38.length 2 l38.length (l38.map (eP (eI .i64) (eI .i64))), .rd a43 l42.length 2 l42.length (l42.map (eP (eI .i64) (eI .i64))), .rd a3140 l3139.length 1 l3139.length (l3139.map (eI .i64)), .rd a3186 l3185.length 1 l3185.length (l3207.map (eI .i64))]) (sc rfl (sc rfl (sc rfl (sc rfl (sc rfl (sc rfl (sc rfl (sc rfl sn)))))))) (Turn.trans (Turn.freeze (k := 4) rfl) (Turn.trans (Turn.freeze (k := 5) rfl) (Turn.picks [0, 1, 2, 3, 6, 7, 8, 4, 5] rfl rfl))) ?_
        refine Wk.loop (σ := Int) (ρ := (Unit) ⊕ (Unit)) (γ := Unit) (δ := fun _ => Unit) _ (fun (s : Int) (g : Unit) => match s, g with | v3290, _ => ⟨.normal, [(2, .int .u64 ((x18 : Nat) : Int)), (3, .slice a20 l19.length c21), (4, .slice a30 (((l23.drop (0 : Int).toNat).take ((mi (l23.length : Int) (66 : Int) : Int).toNat - (0 : Int).toNat)).length) c31), (12, ptr b2858 0), (38, .agg #[.int .i64 r33, .slice a35 l34.length l34.length, .int .i64 r37, .slice a39 l38.length l38.length, .int .i64 r41, .slice a43 l42.length l42.length]), (39, .int .i64 v1168), (131, .agg #[.slice a3140 l3139.length l3139.length, .slice a30 (((l23.drop (0 : Int).toNat).take ((mi (l23.length : Int) (66 : Int) : Int).toNat - (0 : Int).toNat)).length) c31, .slice a3186 l3185.length l3185.length]), (132, .int .i64 v3290)], [.rd a20 c21 1 l19.length (l19.map (eN .u8)), .rd a30 c31 1 (((l23.drop (0 : Int).toNat).take ((mi (l23.length : Int) (66 : Int) : Int).toNat - (0 : Int).toNat)).length) (((l23.drop (0 : Int).toNat).take ((mi (l23.length : Int) (66 : Int) : Int).toNat - (0 : Int).toNat)).map (eI .i64)), .obj b2858 (.cells [.int .i64 x2852, .slice a2854 l2853.length c2855] .own), .rd a2854 c2855 2 l2853.length (l2853.map (eP (eI .i64) (eI .i64))), .rd a35 l34.length 2 l34.length (l34.map (eP (eI .i64) (eI .i64))), .rd a39 l38.length 2 l38.length (l38.map (eP (eI .i64) (eI .i64))), .rd a43 l42.length 2 l42.length (l42.map (eP (eI .i64) (eI .i64))), .rd a3140 l3139.length 1 l3139.length (l3139.map (eI .i64)), .rd a3186 l3185.length 1 l3185.length (l3207.map (eI .i64))]⟩) (fun (r : (Unit) ⊕ (Unit)) (g : Unit) => match r, g with | .inl _, _ => ⟨.ret, [(10, .bool false)], []⟩ | .inr _, _ => ⟨(.exit 6), [(2, .int .u64 ((x18 : Nat) : Int)), (3, .slice a20 l19.length c21), (4, .slice a30 (((l23.drop (0 : Int).toNat).take ((mi (l23.length : Int) (66 : Int) : Int).toNat - (0 : Int).toNat)).length) c31), (38, .agg #[.int .i64 r33, .slice a35 l34.length l34.length, .int .i64 r37, .slice a39 l38.length l38.length, .int .i64 r41, .slice a43 l42.length l42.length]), (39, .int .i64 v1168)], [.rd a20 c21 1 l19.length (l19.map (eN .u8)), .rd a30 c31 1 (((l23.drop (0 : Int).toNat).take ((mi (l23.length : Int) (66 : Int) : Int).toNat - (0 : Int).toNat)).length) (((l23.drop (0 : Int).toNat).take ((mi (l23.length : Int) (66 : Int) : Int).toNat - (0 : Int).toNat)).map (eI .i64)), .rd a35 l34.length 2 l34.length (l34.map (eP (eI .i64) (eI .i64))), .rd a39 l38.length 2 l38.length (l38.map (eP (eI .i64) (eI .i64))), .rd a43 l42.length 2 l42.length (l42.map (eP (eI .i64) (eI .i64)))]⟩) ?_ (fun _ _ => rfl) (fun r d => by rcases r with _ | _ <;> (intro e; cases e)) _ _ _ h3410 ()
        clear hF h3410
        rintro v3290 ⟨⟩ r hF
        unfold L8_3 at hF
        refine Wk.seq <| Wk.region <| Wo.od (o_bi rfl rfl (bin_lss _ _ _)) rfl ?_
        refine Wo.nil <| At.tn <| Wk.seq ?_
        rcases br_some hF with ⟨h3351, hF⟩ | ⟨h3351, hF⟩
        ·refine Wk.condT rfl h3351 ?_
         refine Wk.skip <| At.tn <| Wk.seq <| Wk.block <| Wk.seq <| Wk.region ?_
         obtain ⟨h3384, hF⟩ := gd_some hF
         obtain ⟨l3381, h3385, hF⟩ := ob_some hF
         refine Wo.x (o_sel (α := Option Addr × Nat) (V := fun g => match g with | (a3382, c3383) => .slice a3382 l3381.length c3383) (N := fun g => match g with | (a3382, c3383) => [.rd a3382 c3383 1 l3381.length (l3381.map (eI .i64))] ++ [.rd a20 c21 1 l19.length (l19.map (eN .u8)), .rd a30 c31 1 (((l23.drop (0 : Int).toNat).take ((mi (l23.length : Int) (66 : Int) : Int).toNat - (0 : Int).toNat)).length) (((l23.drop (0 : Int).toNat).take ((mi (l23.length : Int) (66 : Int) : Int).toNat - (0 : Int).toNat)).map (eI .i64)), .obj b2858 (.cells [.int .i64 x2852, .slice a2854 l2853.length c2855] .own), .rd a2854 c2855 2 l2853.length (l2853.map (eP (eI .i64) (eI .i64))), .rd a35 l34.length 2 l34.length (l34.map (eP (eI .i64) (eI .i64))), .rd a39 l38.length 2 l38.length (l38.map (eP (eI .i64) (eI .i64))), .rd a43 l42.length 2 l42.length (l42.map (eP (eI .i64) (eI .i64))), .rd a3140 l3139.length 1 l3139.length (l3139.map (eI .i64)), .rd a3186 l3185.length 1 l3185.length (l3207.map (eI .i64))]) rfl rfl (fun m hm => ?_)) gn rfl ?_
         ·have hj := inB_some h3384
          obtain ⟨j, hj2⟩ : ∃ j : Nat, (v3290 : Int) = j := ⟨_, (Int.toNat_of_nonneg hj.1).symm⟩
          rw [hj2] at h3385 hj ⊢
          rw [Int.toNat_natCast] at h3385 hj
          replace hj := hj.2
          clear hF hj2
          match j, hj, h3385 with
          | 0, _, h3385 => cases h3385; exact ⟨(a3140, l3139.length), ix_c ar74 (i := 0) (by decide) (part_o t39 rfl), (Hp.dup hm (k := 7) rfl)⟩
          | 1, _, h3385 => cases h3385; exact ⟨(a30, c31), ix_c ar74 (i := 1) (by decide) (part_o t39 rfl), (Hp.dup hm (k := 1) rfl)⟩
          | 2, _, h3385 => cases h3385; have e0 := rd_len (k := 8) (xs := l3207) hm rfl; exact ⟨(a3186, l3185.length), (by rw [← e0]; exact ix_c ar74 (i := 2) (by decide) (part_o t39 rfl)), (by rw [← e0]; exact (Hp.dup hm (k := 8) rfl))⟩
          | _ + 3, hj, _ => exact absurd hj (by omega)
         rintro ⟨a3382, c3383⟩
         refine Wo.od (o_as rfl) rfl ?_
         refine Wo.nil <| At.tn <| Wk.seq <| Wk.region <| Wo.od (o_ld (k := 3) t25 rfl rfl rfl) rfl ?_
         refine Wo.od (o_mv rfl) rfl ?_
         obtain ⟨⟨r3387, l3388, r3391⟩, h3386, hF⟩ := ob_some hF
         refine Wo.x (o_cl rfl rfl (fun m hm => f22_ok n x2852 l2853 l3381 a2854 c2855 a3382 c3383 _ h3386 m (hm.rd (k := 4) rfl (.rd _ _ _ _ _)) (hm.rd (k := 0) rfl (.rd _ _ _ _ _))) fun _ => rfl) gn rfl ?_
         rintro ⟨a3389, n3390⟩
         refine Wo.len (k := 0) (xs := l3388) rfl ?_
         rintro rfl
         refine Wo.od (o_mv rfl) rfl ?_
         refine Wo.od (o_ex rfl rfl) rfl ?_
         refine Wo.od (o_ex rfl rfl) rfl ?_
         refine Wo.x (o_al z25 rfl) gn rfl fun b3392 => ?_
         refine Wo.o0 (o_st (k := 0) t25 rfl rfl rfl rfl rfl) ?_
         refine Wo.od (o_as rfl) rfl ?_
         refine Wo.nil <| At.tn <| Wk.seq <| Wk.region <| Wo.od (o_ld (k := 5) t25 rfl rfl rfl) rfl ?_
         refine Wo.od (o_mv rfl) rfl ?_
         obtain ⟨⟨r3394, l3395, r3398⟩, h3393, hF⟩ := ob_some hF
         refine Wo.x (o_cl rfl rfl (fun m hm => f47_ok n x2852 l2853 l3381 a2854 c2855 a3382 c3383 _ h3393 m (hm.rd (k := 6) rfl (.rd _ _ _ _ _)) (hm.rd (k := 2) rfl (.rd _ _ _ _ _))) fun _ => rfl) gn rfl ?_
         rintro ⟨a3396, n3397⟩
         refine Wo.len (k := 0) (xs := l3395) rfl ?_
         rintro rfl
         refine Wo.od (o_mv rfl) rfl ?_
         refine Wo.od (o_ex rfl rfl) rfl ?_
         refine Wo.od (o_ex rfl rfl) rfl ?_
         refine Wo.x (o_al z25 rfl) gn rfl fun b3399 => ?_
         refine Wo.o0 (o_st (k := 0) t25 rfl rfl rfl rfl rfl) ?_
         refine Wo.od (o_as rfl) rfl ?_
         refine Wo.nil <| At.tn <| Wk.seq ?_
         obtain ⟨v3403, h3407, hF⟩ := ob_some hF
         refine Wk.cut (G := (fun (r : Bool) (g : Unit) => match r, g with | v3403, _ => ⟨.normal, [(2, .int .u64 ((x18 : Nat) : Int)), (3, .slice a20 l19.length c21), (4, .slice a30 (((l23.drop (0 : Int).toNat).take ((mi (l23.length : Int) (66 : Int) : Int).toNat - (0 : Int).toNat)).length) c31), (12, ptr b2858 0), (38, .agg #[.int .i64 r33, .slice a35 l34.length l34.length, .int .i64 r37, .slice a39 l38.length l38.length, .int .i64 r41, .slice a43 l42.length l42.length]), (39, .int .i64 v1168), (131, .agg #[.slice a3140 l3139.length l3139.length, .slice a30 (((l23.drop (0 : Int).toNat).take ((mi (l23.length : Int) (66 : Int) : Int).toNat - (0 : Int).toNat)).length) c31, .slice a3186 l3185.length l3185.length]), (132, .int .i64 v3290), (155, .bool v3403)], [.rd a20 c21 1 l19.length (l19.map (eN .u8)), .rd a30 c31 1 (((l23.drop (0 : Int).toNat).take ((mi (l23.length : Int) (66 : Int) : Int).toNat - (0 : Int).toNat)).length) (((l23.drop (0 : Int).toNat).take ((mi (l23.length : Int) (66 : Int) : Int).toNat - (0 : Int).toNat)).map (eI .i64)), .obj b2858 (.cells [.int .i64 x2852, .slice a2854 l2853.length c2855] .own), .rd a2854 c2855 2 l2853.length (l2853.map (eP (eI .i64) (eI .i64))), .rd a35 l34.length 2 l34.length (l34.map (eP (eI .i64) (eI .i64))), .rd a39 l38.length 2 l38.length (l38.map (eP (eI .i64) (eI .i64))), .rd a43 l42.length 2 l42.length (l42.map (eP (eI .i64) (eI .i64))), .rd a3140 l3139.length 1 l3139.length (l3139.map (eI .i64)), .rd a3186 l3185.length 1 l3185.length (l3207.map (eI .i64))]⟩) v3403) ?_ ?_
         ·clear hF
          revert v3403
          intro r hF
          refine Wk.region <| Wo.od (o_mv rfl) rfl ?_
          refine Wo.od (o_mv rfl) rfl ?_
          refine Wo.od (o_bi rfl rfl (ib_neq _ _)) rfl ?_
          refine Wo.od (o_mv rfl) rfl ?_
          rcases br_some hF with ⟨h3404, hF⟩ | ⟨h3404, hF⟩
          ·refine Wo.s (gg rfl rfl (eTF h3404)) rfl ?_
           refine Wo.s (gg rfl rfl (eTF h3404)) rfl ?_
           refine Wo.s (gg rfl rfl (eTF h3404)) rfl ?_
           refine Wo.s (gg rfl rfl (eTF h3404)) rfl ?_
           refine Wo.od (o_pt rfl h3404 rfl) rfl ?_
           refine Wo.nil ?_
           cases hF
           exact At.en () rfl (sc rfl (sc rfl (sc rfl (sc rfl (sc rfl (sc rfl (sc rfl (sc rfl (sc rfl sn))))))))) (Turn.picks [5, 6, 7, 8, 9, 10, 11, 12, 13] rfl rfl)
          ·refine Wo.og (o_ld (k := 2) t25 rfl rfl rfl) (gg rfl rfl (eFF h3404)) rfl ?_
           refine Wo.og (o_ld (k := 0) t25 rfl rfl rfl) (gg rfl rfl (eFF h3404)) rfl ?_
           obtain ⟨r3406, h3405, hF⟩ := ob_some hF
           refine Wo.x (o_cl rfl rfl (fun m hm => f44_ok n r3387 l3388 r3394 l3395 a3389 l3388.length a3396 l3395.length _ h3405 m (hm.rd (k := 3) rfl (.sl _ _ _ _)) (hm.rd (k := 1) rfl (.sl _ _ _ _))) fun _ => rfl) (gg rfl rfl (eFF h3404)) rfl ?_
           rintro ⟨⟩
           refine Wo.og (o_un rfl rfl) (gg rfl rfl (eFF h3404)) rfl ?_
           refine Wo.od (o_pf rfl h3404 rfl) rfl ?_
           refine Wo.nil ?_
           cases hF
           exact At.en () rfl (sc rfl (sc rfl (sc rfl (sc rfl (sc rfl (sc rfl (sc rfl (sc rfl (sc rfl sn))))))))) (Turn.picks [5, 6, 7, 8, 9, 10, 11, 12, 13] rfl rfl)
         ·clear h3407
          rintro ⟨⟩
          refine At.tn ?_
          rcases br_some hF with ⟨h3409, hF⟩ | ⟨h3409, hF⟩
          ·refine Wk.condT rfl h3409 ?_
           refine Wk.seq <| Wk.region <| Wo.od (o_as rfl) rfl ?_
           refine Wo.nil <| At.tn <| Wk.ret <| At.br <| At.tr ?_
           cases hF
           exact At.en () rfl (sc rfl sn) (Turn.picks [] rfl rfl)
          ·refine Wk.condF rfl h3409 ?_
           refine Wk.skip <| At.bn <| At.tn <| Wk.region <| Wo.od (o_bi rfl rfl (bin_add _ _ _)) rfl ?_
           refine Wo.od (o_mv rfl) rfl ?_
           refine Wo.nil ?_
           cases hF
           exact At.en () rfl (sc rfl (sc rfl (sc rfl (sc rfl (sc rfl (sc rfl (sc rfl (sc rfl sn)))))))) (Turn.picks [0, 1, 2, 3, 4, 5, 6, 7, 8] rfl rfl)
        ·refine Wk.condF rfl h3351 ?_
         refine Wk.exit <| At.te ?_
         cases hF
         exact At.en () rfl (sc rfl (sc rfl (sc rfl (sc rfl (sc rfl sn))))) (Turn.picks [0, 1, 4, 5, 6] rfl rfl)
       ·clear h3410
        rcases r3411 with _ | _
        ·rintro ⟨⟩
         refine At.br <| At.br <| At.tr ?_
         cases hF
         exact At.en () rfl (sc rfl sn) (Turn.picks [] rfl rfl)
        ·rintro ⟨⟩
         refine At.be <| At.bn <| At.tn <| Wk.region <| Wo.od (o_bi rfl rfl (bin_add _ _ _)) rfl ?_
         refine Wo.od (o_mv rfl) rfl ?_
         refine Wo.nil ?_
         cases hF
         exact At.en () rfl (sc rfl (sc rfl (sc rfl (sc rfl (sc rfl sn))))) (Turn.picks [0, 1, 2, 3, 4] rfl rfl)
  ·refine Wk.condF rfl h2291 ?_
   refine Wk.exit <| At.te ?_
   cases hF
   exact At.en () rfl sn (Turn.picks [] rfl rfl)
 ·clear h3412
  rcases r3413 with _ | _
  ·rintro ⟨⟩
   refine At.br <| At.tr ?_
   cases hF
   exact At.ret (.tmp rfl .nil) fun m' hm => ⟨(), rfl, (Turn.picks [] rfl rfl) m' hm⟩
  ·rintro ⟨⟩
   refine At.be <| At.tn <| Wk.seq <| Wk.region ?_
   obtain ⟨r3415, h3414, hF⟩ := ob_some hF
   refine Wo.x (o_cl rfl rfl (fun m hm => f13_ok n   _ h3414 m (hG.ext hm.ext) ) fun _ => rfl) gn rfl ?_
   rintro ⟨⟩
   refine Wo.od (o_as rfl) rfl ?_
   refine Wo.nil <| At.tn <| Wk.ret ?_
   have hr := Option.some.inj hF
   subst r
   exact At.ret (.tmp rfl .nil) fun m' hm => ⟨(), rfl, (Turn.picks [] rfl rfl) m' hm⟩
end Go.Proofs.YtpclggcpobakhaaDoor.W8
end

section
namespace Go.Proofs.YtpclggcpobakhaaDoor
open Go Go.Ab Go.Ab.W
section
variable {α β σ ρ : Type}
theorem br_t (a b : Option β) : br true a b = a := rfl
theorem br_f (a b : Option β) : br false a b = b := rfl
theorem gd_t (a : Option β) : gd true a = a := rfl
theorem ob_s (x : α) (f : α → Option β) : ob (some x) f = f x := rfl
theorem br_dt {p : Prop} [Decidable p] (h : p) (a b : Option β) : br (decide p) a b = a := by rw [decide_eq_true h]; rfl
theorem br_df {p : Prop} [Decidable p] (h : ¬ p) (a b : Option β) : br (decide p) a b = b := by rw [decide_eq_false h]; rfl
theorem br_ite (c : Bool) (a b : Option β) : br c a b = if c then a else b := by cases c <;> rfl
theorem gd_dt {p : Prop} [Decidable p] (h : p) (a : Option β) : gd (decide p) a = a := by rw [decide_eq_true h]; rfl
theorem inB_nat {i n : Nat} (h : i < n) : inB (i : Int) n = true := decide_eq_true ⟨Int.natCast_nonneg i, by simpa using h⟩
theorem wrap_in {x : Int} (h1 : -9223372036854775808 ≤ x) (h2 : x < 9223372036854775808) : IntKind.wrap .i64 x = x := wrap_i64 x h1 (by omega)
theorem wrap_succ {i : Nat} (h : i < 4611686018427387904) : IntKind.wrap .i64 ((i : Int) + 1) = ((i + 1 : Nat) : Int) := by rw [wrap_in (by omega) (by omega)]; rfl
theorem lp_next {body : σ → Option (σ ⊕ ρ)} {n : Nat} {s s' : σ} (h : body s = some (.inl s')) : lpN body (n + 1) s = lpN body n s' := by simp only [lpN, h]
theorem lp_end {body : σ → Option (σ ⊕ ρ)} {n : Nat} {s : σ} {r : ρ} (h : body s = some (.inr r)) : lpN body (n + 1) s = some r := by simp only [lpN, h]
end
theorem drop_len {α : Type} {l l' : List α} {i : Nat} (h : l.length = l'.length) (hi : l.length ≤ i) : l.drop i = l'.drop i := by
 rw [List.drop_of_length_le hi, List.drop_of_length_le (by omega)]
theorem L44_eq (n0 : Nat) {l2 l7 : List (Int × Int)} (h2 : l2.length = l7.length) (hl : l2.length < 4611686018427387904) : ∀ k i n, i + k = l2.length → k < n → lpN (L44_1 n0 l2 l7) n ((i : Nat) : Int) = some (if l2.drop i = l7.drop i then .inr () else .inl ()) := by
 intro k
 induction k with
 | zero =>
  intro i n hi hk
  obtain ⟨n, rfl⟩ : ∃ n', n = n' + 1 := ⟨n - 1, by omega⟩
  rw [if_pos (drop_len h2 (by omega))]
  exact lp_end (by unfold L44_1; rw [br_df (by omega)])
 | succ k ih =>
  intro i n hi hk
  obtain ⟨n, rfl⟩ : ∃ n', n = n' + 1 := ⟨n - 1, by omega⟩
  have a1 : i < l2.length := by omega
  have a2 : i < l7.length := by omega
  have e1 : l2[((i : Nat) : Int).toNat]? = some l2[i] := by simp [a1]
  have e2 : l7[((i : Nat) : Int).toNat]? = some l7[i] := by simp [a2]
  have c1 : decide (((i : Nat) : Int) < (l2.length : Int)) = true := decide_eq_true (by omega)
  have hb : i < 4611686018427387904 := by omega
  rw [List.drop_eq_getElem_cons a1, List.drop_eq_getElem_cons a2]
  generalize l2[i] = p at e1 ⊢
  generalize l7[i] = q at e2 ⊢
  obtain ⟨p1, p2⟩ := p
  obtain ⟨q1, q2⟩ := q
  by_cases hpq : p1 = q1 ∧ p2 = q2
  ·obtain ⟨rfl, rfl⟩ := hpq
   rw [lp_next (s' := ((i + 1 : Nat) : Int)) (by simp only [L44_1, c1, br_t, inB_nat a1, gd_t, e1, ob_s, inB_nat a2, e2, decide_true, Bool.and_self, Bool.not_true, br_f, wrap_succ hb])]
   rw [ih (i + 1) n (by omega) (by omega)]
   simp
  ·have hd : (!(decide (p1 = q1) && decide (p2 = q2))) = true := by
    by_cases h : p1 = q1 <;> simp_all
   rw [lp_end (r := .inl ()) (by simp only [L44_1, c1, br_t, inB_nat a1, gd_t, e1, ob_s, inB_nat a2, e2, hd])]
   rw [if_neg (by simp; intro h3 h4; exact absurd ⟨h3, h4⟩ hpq)]
theorem F44_eq (n : Nat) (x1 x6 : Int) (l2 l7 : List (Int × Int)) (hl : l2.length < 4611686018427387904) (hn : l2.length < n) : F44 n x1 l2 x6 l7 = some (decide (x1 = x6) && decide (l2 = l7)) := by
 unfold F44
 by_cases h1 : x1 = x6
 ·rw [show (!decide (x1 = x6)) = false by simp [h1], br_f, ob_s]
  by_cases h2 : l2.length = l7.length
  ·have h2' : ((l2.length : Int) = (l7.length : Int)) := by omega
   rw [show (!decide ((l2.length : Int) = (l7.length : Int))) = false by simp [h2'], br_f]
   have := L44_eq n h2 hl l2.length 0 n (by omega) hn
   simp only [List.drop_zero, Int.natCast_zero] at this
   rw [show lpN (L44_1 n l2 l7) n 0 = _ from this, ob_s]
   by_cases h3 : l2 = l7
   ·simp [h1, h3]
   ·simp [h1, h3]
  ·have h2' : ¬ ((l2.length : Int) = (l7.length : Int)) := by omega
   have h3 : ¬ l2 = l7 := fun e => h2 (by rw [e])
   rw [show (!decide ((l2.length : Int) = (l7.length : Int))) = true by simp [h2'], br_t]
   simp [h3]
 ·rw [show (!decide (x1 = x6)) = true by simp [h1], br_t, ob_s, br_t]
  simp [h1]
theorem L34_eq (n0 : Nat) {l2 l7 : List (Int × Int)} (h2 : l2.length = l7.length) (hl : l2.length < 4611686018427387904) : ∀ k i n, i + k = l2.length → k < n → lpN (L34_1 n0 l2 l7) n ((i : Nat) : Int) = some (if l2.drop i = l7.drop i then .inr () else .inl ()) := by
 intro k
 induction k with
 | zero =>
  intro i n hi hk
  obtain ⟨n, rfl⟩ : ∃ n', n = n' + 1 := ⟨n - 1, by omega⟩
  rw [if_pos (drop_len h2 (by omega))]
  exact lp_end (by unfold L34_1; rw [br_df (by omega)])
 | succ k ih =>
  intro i n hi hk
  obtain ⟨n, rfl⟩ : ∃ n', n = n' + 1 := ⟨n - 1, by omega⟩
  have a1 : i < l2.length := by omega
  have a2 : i < l7.length := by omega
  have e1 : l2[((i : Nat) : Int).toNat]? = some l2[i] := by simp [a1]
  have e2 : l7[((i : Nat) : Int).toNat]? = some l7[i] := by simp [a2]
  have c1 : decide (((i : Nat) : Int) < (l2.length : Int)) = true := decide_eq_true (by omega)
  have hb : i < 4611686018427387904 := by omega
  rw [List.drop_eq_getElem_cons a1, List.drop_eq_getElem_cons a2]
  generalize l2[i] = p at e1 ⊢
  generalize l7[i] = q at e2 ⊢
  obtain ⟨p1, p2⟩ := p
  obtain ⟨q1, q2⟩ := q
  by_cases hpq : p1 = q1 ∧ p2 = q2
  ·obtain ⟨rfl, rfl⟩ := hpq
   rw [lp_next (s' := ((i + 1 : Nat) : Int)) (by simp only [L34_1, c1, br_t, inB_nat a1, gd_t, e1, ob_s, inB_nat a2, e2, decide_true, Bool.and_self, Bool.not_true, br_f, wrap_succ hb])]
   rw [ih (i + 1) n (by omega) (by omega)]
   simp
  ·have hd : (!(decide (p1 = q1) && decide (p2 = q2))) = true := by
    by_cases h : p1 = q1 <;> simp_all
   rw [lp_end (r := .inl ()) (by simp only [L34_1, c1, br_t, inB_nat a1, gd_t, e1, ob_s, inB_nat a2, e2, hd])]
   rw [if_neg (by simp; intro h3 h4; exact absurd ⟨h3, h4⟩ hpq)]
theorem F34_eq (n : Nat) (l2 l7 : List (Int × Int)) (hl : l2.length < 4611686018427387904) (hn : l2.length < n) : F34 n l2 l7 = some (decide (l2 = l7)) := by
 unfold F34
 by_cases h2 : l2.length = l7.length
 ·have h2' : ((l2.length : Int) = (l7.length : Int)) := by omega
  rw [show (!decide ((l2.length : Int) = (l7.length : Int))) = false by simp [h2'], br_f]
  have := L34_eq n h2 hl l2.length 0 n (by omega) hn
  simp only [List.drop_zero] at this
  rw [show lpN (L34_1 n l2 l7) n 0 = _ from this, ob_s]
  by_cases h3 : l2 = l7
  ·simp [h3]
  ·simp [h3]
 ·have h2' : ¬ ((l2.length : Int) = (l7.length : Int)) := by omega
  have h3 : ¬ l2 = l7 := fun e => h2 (by rw [e])
  rw [show (!decide ((l2.length : Int) = (l7.length : Int))) = true by simp [h2'], br_t]
  simp [h3]
theorem F27_eq (n : Nat) (x1 x6 : Int) (l2 l7 : List (Int × Int)) (hl : l2.length < 4611686018427387904) (hn : l2.length < n) : F27 n x1 l2 x6 l7 = some (decide (x1 = x6) && decide (l2 = l7)) := by
 unfold F27
 by_cases h : x1 = x6
 ·rw [br_dt h, F34_eq n l2 l7 hl hn, ob_s]; simp [h]
 ·rw [br_df h]; simp [h]
def okEp (N : Int) : Int × Int → List (Int × Int) → Bool
 | _, [] => true
 | p, e :: es => decide (0 ≤ e.1 ∧ e.1 < e.2 ∧ e.2 < N) && decide (p.1 < e.1 ∨ p.1 = e.1 ∧ p.2 < e.2) && okEp N e es
def okG (N : Int) (es : List (Int × Int)) : Bool := decide (1 ≤ N ∧ N ≤ 64 ∧ es.length ≤ 200) && okEp N (-1, -1) es
def ckG (N : Int) (es : List (Int × Int)) : Int := if okG N es then 0 else 180
theorem F94_eq (n : Nat) (x : Int) : F94 n x = some false := by unfold F94; simp
theorem F81_eq (n : Nat) (x y : Int) : F81 n x y = some (if x < y then -1 else if y < x then 1 else 0) := by
 unfold F81
 simp only [F94_eq, ob_s, br_f]
 rw [br_ite, br_ite]
 by_cases h : x < y
 ·simp [h]
 ·by_cases h' : y < x <;> simp [h, h']
theorem F64_eq (n : Nat) (a b c d : Int) (hn : 2 < n) : F64 n [a, b] [c, d] = some (if a < c then -1 else if c < a then 1 else if b < d then -1 else if d < b then 1 else 0) := by
 obtain ⟨n, rfl⟩ : ∃ n', n = n' + 3 := ⟨n - 3, by omega⟩
 have L0 : L64_1 (n + 3) [a, b] [c, d] 0 = if a < c then some (.inr (.inl (-1))) else if c < a then some (.inr (.inl 1)) else some (.inl 1) := by
  unfold L64_1
  simp only [List.length_cons, List.length_nil]
  rw [br_dt (by decide), show inB 0 (0 + 1 + 1) = true by decide, gd_t]
  simp only [Int.toNat_zero, List.getElem?_cons_zero, ob_s]
  rw [br_df (by decide), gd_t]
  simp only [F81_eq, ob_s]
  by_cases h : a < c
  ·simp [h, br_t]
  ·by_cases h' : c < a
   ·simp [h, h', br_t]
   ·simp only [h, h', if_false, decide_true, Bool.not_true, br_f]
    rw [wrap_in (by decide) (by decide)]; rfl
 have L1 : L64_1 (n + 3) [a, b] [c, d] 1 = if b < d then some (.inr (.inl (-1))) else if d < b then some (.inr (.inl 1)) else some (.inl 2) := by
  unfold L64_1
  simp only [List.length_cons, List.length_nil]
  rw [br_dt (by decide), show inB 1 (0 + 1 + 1) = true by decide, gd_t]
  simp only [show (1 : Int).toNat = 1 from rfl, List.getElem?_cons_succ, List.getElem?_cons_zero, ob_s]
  rw [br_df (by decide), gd_t]
  simp only [F81_eq, ob_s]
  by_cases h : b < d
  ·simp [h, br_t]
  ·by_cases h' : d < b
   ·simp [h, h', br_t]
   ·simp only [h, h', if_false, decide_true, Bool.not_true, br_f]
    rw [wrap_in (by decide) (by decide)]; rfl
 have L2 : L64_1 (n + 3) [a, b] [c, d] 2 = some (.inr (.inr ())) := by
  unfold L64_1
  simp only [List.length_cons, List.length_nil]
  rw [br_df (by decide)]
 unfold F64
 by_cases h1 : a < c
 ·rw [if_pos h1] at L0 ⊢
  rw [lp_end L0]; rfl
 ·rw [if_neg h1] at L0 ⊢
  by_cases h2 : c < a
  ·rw [if_pos h2] at L0 ⊢
   rw [lp_end L0]; rfl
  ·rw [if_neg h2] at L0 ⊢
   rw [lp_next L0]
   by_cases h3 : b < d
   ·rw [if_pos h3] at L1 ⊢
    rw [lp_end L1]; rfl
   ·rw [if_neg h3] at L1 ⊢
    by_cases h4 : d < b
    ·rw [if_pos h4] at L1 ⊢
     rw [lp_end L1]; rfl
    ·rw [if_neg h4] at L1 ⊢
     rw [lp_next L1, lp_end L2, ob_s]
     simp only [List.length_cons, List.length_nil]
     rfl
def stepOk (N : Int) (p e : Int × Int) : Bool := decide (0 ≤ e.1 ∧ e.1 < e.2 ∧ e.2 < N) && decide (p.1 < e.1 ∨ p.1 = e.1 ∧ p.2 < e.2)
theorem okE_cons (N : Int) (p e : Int × Int) (es : List (Int × Int)) : okEp N p (e :: es) = (stepOk N p e && okEp N e es) := rfl
theorem L23_step (n : Nat) (l2 : List (Int × Int)) (N : Int) (p : Int × Int) (i : Nat) (e : Int × Int) (hn : 2 < n) (hi : l2[i]? = some e) (hb : i < 4611686018427387904) :
  L23_1 n l2 N (p.1, p.2, (i : Int)) = if stepOk N p e then some (.inl (e.1, e.2, ((i + 1 : Nat) : Int))) else some (.inr (.inl ())) := by
 obtain ⟨p1, p2⟩ := p
 obtain ⟨a, b⟩ := e
 have a1 : i < l2.length := (List.getElem?_eq_some_iff.1 hi).1
 have e1 : l2[((i : Nat) : Int).toNat]? = some (a, b) := by simpa using hi
 have c1 : decide (((i : Nat) : Int) < (l2.length : Int)) = true := decide_eq_true (by omega)
 simp only [L23_1, c1, br_t, inB_nat a1, gd_t, e1, ob_s, F64_eq n _ _ _ _ hn, wrap_succ hb]
 by_cases h1 : a < 0
 ·have : stepOk N (p1, p2) (a, b) = false := by simp [stepOk]; omega
  rw [this, br_dt h1, ob_s, br_t]; rfl
 ·rw [br_df h1]
  by_cases h2 : b ≤ a
  ·have : stepOk N (p1, p2) (a, b) = false := by simp [stepOk]; omega
   rw [this, br_dt h2, ob_s, br_t]; rfl
  ·rw [br_df h2]
   by_cases h3 : N ≤ b
   ·have : stepOk N (p1, p2) (a, b) = false := by simp [stepOk]; omega
    rw [this, br_dt h3, ob_s, br_t]; rfl
   ·rw [br_df h3, ob_s]
    by_cases h4 : p1 < a ∨ p1 = a ∧ p2 < b
    ·have : stepOk N (p1, p2) (a, b) = true := by simp [stepOk]; omega
     have h5 : ¬ (0 ≤ (if p1 < a then (-1 : Int) else if a < p1 then 1 else if p2 < b then -1 else if b < p2 then 1 else 0)) := by
      rcases h4 with h4 | ⟨h4, h5⟩
      ·rw [if_pos h4]; decide
      ·rw [if_neg (by omega), if_neg (by omega), if_pos h5]; decide
     rw [this, br_df h5]; rfl
    ·have : stepOk N (p1, p2) (a, b) = false := by simp [stepOk]; omega
     have h5 : 0 ≤ (if p1 < a then (-1 : Int) else if a < p1 then 1 else if p2 < b then -1 else if b < p2 then 1 else 0) := by
      rw [if_neg (by omega)]
      by_cases h6 : a < p1
      ·rw [if_pos h6]; decide
      ·rw [if_neg h6, if_neg (by omega)]; split <;> decide
     rw [this, br_dt h5]; rfl
theorem L23_eq (n0 : Nat) (l2 : List (Int × Int)) (N : Int) (hn : 2 < n0) (hl : l2.length < 4611686018427387904) : ∀ k i p n, i + k = l2.length → k < n → lpN (L23_1 n0 l2 N) n (p.1, p.2, (i : Int)) = some (if okEp N p (l2.drop i) then .inr () else .inl ()) := by
 intro k
 induction k with
 | zero =>
  intro i p n hi hk
  obtain ⟨n, rfl⟩ : ∃ n', n = n' + 1 := ⟨n - 1, by omega⟩
  rw [List.drop_of_length_le (by omega)]
  exact lp_end (by simp only [L23_1]; rw [br_df (by omega)]; rfl)
 | succ k ih =>
  intro i p n hi hk
  obtain ⟨n, rfl⟩ : ∃ n', n = n' + 1 := ⟨n - 1, by omega⟩
  have a1 : i < l2.length := by omega
  have hs := L23_step n0 l2 N p i l2[i] hn (by simp [a1]) (by omega)
  rw [List.drop_eq_getElem_cons a1, okE_cons]
  by_cases h : stepOk N p l2[i] = true
  ·rw [if_pos h] at hs
   rw [lp_next hs, ih (i + 1) l2[i] n (by omega) (by omega), h, Bool.true_and]
  ·rw [if_neg h] at hs
   rw [lp_end hs]
   simp only [Bool.not_eq_true] at h
   rw [h]; rfl
theorem head_eq (N : Int) (len : Nat) : (br (decide (N < 1)) (some true) (br (decide (64 < N)) (some true) (some (decide (200 < (len : Int)))))) = some (!decide (1 ≤ N ∧ N ≤ 64 ∧ len ≤ 200)) := by
 rw [br_ite, br_ite]
 by_cases h1 : N < 1
 ·have : ¬ (1 ≤ N ∧ N ≤ 64 ∧ len ≤ 200) := by omega
  simp [h1, this]
 ·by_cases h2 : 64 < N
  ·have : ¬ (1 ≤ N ∧ N ≤ 64 ∧ len ≤ 200) := by omega
   simp [h1, h2, this]
  ·by_cases h3 : 200 < (len : Int)
   ·have : ¬ (1 ≤ N ∧ N ≤ 64 ∧ len ≤ 200) := by omega
    simp only [h1, h2, h3, this, decide_true, decide_false, Bool.false_eq_true, if_false, Bool.not_false]
   ·have : (1 ≤ N ∧ N ≤ 64 ∧ len ≤ 200) := by omega
    simp only [h1, h2, h3, this, decide_true, decide_false, Bool.false_eq_true, if_false, Bool.not_true, and_self]
theorem F23_eq (n : Nat) (N : Int) (es : List (Int × Int)) (hn : 2 < n) (hl : es.length < 4611686018427387904) (hk : es.length < n) : F23 n N es = some (ckG N es) := by
 unfold F23
 rw [head_eq, ob_s]
 unfold ckG okG
 by_cases h : 1 ≤ N ∧ N ≤ 64 ∧ es.length ≤ 200
 ·rw [decide_eq_true h, Bool.not_true, br_f, Bool.true_and]
  have := L23_eq n es N hn hl es.length 0 (-1, -1) n (by omega) hk
  rw [List.drop_zero] at this
  rw [show lpN (L23_1 n es N) n (-1, -1, 0) = _ from this, ob_s]
  by_cases h2 : okEp N (-1, -1) es = true
  ·rw [if_pos h2, if_pos h2]
  ·rw [if_neg h2, if_neg h2]
 ·rw [decide_eq_false h, Bool.not_false, br_t, Bool.false_and]; rfl
def prevOf (l : List (Int × Int)) (i : Nat) (p : Int × Int) : Prop := (i = 0 ∧ p = (-1, -1)) ∨ (0 < i ∧ l[i - 1]? = some p)
theorem L43_step (n : Nat) (l2 : List (Int × Int)) (N : Int) (p : Int × Int) (i : Nat) (e : Int × Int) (hp : prevOf l2 i p) (hi : l2[i]? = some e) (hb : i < 4611686018427387904) :
  L43_1 n l2 N (i : Int) = if stepOk N p e then some (.inl ((i + 1 : Nat) : Int)) else some (.inr (.inl ())) := by
 obtain ⟨p1, p2⟩ := p
 obtain ⟨a, b⟩ := e
 have a1 : i < l2.length := (List.getElem?_eq_some_iff.1 hi).1
 have e1 : l2[((i : Nat) : Int).toNat]? = some (a, b) := by simpa using hi
 have c1 : decide (((i : Nat) : Int) < (l2.length : Int)) = true := decide_eq_true (by omega)
 simp only [L43_1, c1, br_t, inB_nat a1, gd_t, e1, ob_s, wrap_succ hb]
 by_cases h1 : a < 0
 ·have : stepOk N (p1, p2) (a, b) = false := by simp [stepOk]; omega
  rw [this, br_dt h1, ob_s, br_t]; rfl
 ·rw [br_df h1]
  by_cases h2 : b ≤ a
  ·have : stepOk N (p1, p2) (a, b) = false := by simp [stepOk]; omega
   rw [this, br_dt h2, ob_s, br_t]; rfl
  ·rw [br_df h2, ob_s]
   by_cases h3 : N ≤ b
   ·have : stepOk N (p1, p2) (a, b) = false := by simp [stepOk]; omega
    rw [this, br_dt h3]; rfl
   ·rw [br_df h3]
    rcases hp with ⟨rfl, h4⟩ | ⟨h0, h4⟩
    ·cases h4
     have : stepOk N (-1, -1) (a, b) = true := by simp [stepOk]; omega
     rw [this, br_df (by omega), ob_s, br_f]; rfl
    ·have w1 : IntKind.wrap .i64 ((i : Int) - 1) = ((i - 1 : Nat) : Int) := by rw [wrap_in (by omega) (by omega)]; omega
     have e2 : l2[((i - 1 : Nat) : Int).toNat]? = some (p1, p2) := by simpa using h4
     rw [br_dt (by omega), w1, inB_nat (by omega : i - 1 < l2.length), gd_t, e2, ob_s]
     simp only [gd_t]
     by_cases h5 : a < p1
     ·have : stepOk N (p1, p2) (a, b) = false := by simp [stepOk]; omega
      rw [this, br_dt h5, ob_s, br_t]; rfl
     ·rw [br_df h5]
      by_cases h6 : p1 = a
      ·rw [br_dt h6, ob_s]
       by_cases h7 : b ≤ p2
       ·have : stepOk N (p1, p2) (a, b) = false := by simp [stepOk]; omega
        rw [this, br_dt h7]; rfl
       ·have : stepOk N (p1, p2) (a, b) = true := by simp [stepOk]; omega
        rw [this, br_df h7]; rfl
      ·have : stepOk N (p1, p2) (a, b) = true := by simp [stepOk]; omega
       rw [this, br_df h6, ob_s, br_f]; rfl
theorem L43_eq (n0 : Nat) (l2 : List (Int × Int)) (N : Int) (hl : l2.length < 4611686018427387904) : ∀ k i p n, prevOf l2 i p → i + k = l2.length → k < n → lpN (L43_1 n0 l2 N) n (i : Int) = some (if okEp N p (l2.drop i) then .inr () else .inl ()) := by
 intro k
 induction k with
 | zero =>
  intro i p n hp hi hk
  obtain ⟨n, rfl⟩ : ∃ n', n = n' + 1 := ⟨n - 1, by omega⟩
  rw [List.drop_of_length_le (by omega)]
  exact lp_end (by simp only [L43_1]; rw [br_df (by omega)]; rfl)
 | succ k ih =>
  intro i p n hp hi hk
  obtain ⟨n, rfl⟩ : ∃ n', n = n' + 1 := ⟨n - 1, by omega⟩
  have a1 : i < l2.length := by omega
  have hs := L43_step n0 l2 N p i l2[i] hp (by simp [a1]) (by omega)
  rw [List.drop_eq_getElem_cons a1, okE_cons]
  by_cases h : stepOk N p l2[i] = true
  ·rw [if_pos h] at hs
   rw [lp_next hs, ih (i + 1) l2[i] n (.inr ⟨by omega, by simp [a1]⟩) (by omega) (by omega), h, Bool.true_and]
  ·rw [if_neg h] at hs
   rw [lp_end hs]
   simp only [Bool.not_eq_true] at h
   rw [h]; rfl
theorem F43_eq (n : Nat) (N : Int) (es : List (Int × Int)) (hl : es.length < 4611686018427387904) (hk : es.length < n) : F43 n N es = some (ckG N es) := by
 unfold F43
 rw [head_eq, ob_s]
 unfold ckG okG
 by_cases h : 1 ≤ N ∧ N ≤ 64 ∧ es.length ≤ 200
 ·rw [decide_eq_true h, Bool.not_true, br_f, Bool.true_and]
  have := L43_eq n es N hl es.length 0 (-1, -1) n (.inl ⟨rfl, rfl⟩) (by omega) hk
  rw [List.drop_zero] at this
  rw [show lpN (L43_1 n es N) n 0 = _ from this, ob_s]
  by_cases h2 : okEp N (-1, -1) es = true
  ·rw [if_pos h2, if_pos h2]
  ·rw [if_neg h2, if_neg h2]
 ·rw [decide_eq_false h, Bool.not_false, br_t, Bool.false_and]; rfl
end Go.Proofs.YtpclggcpobakhaaDoor
end

section
namespace Go.Proofs.YtpclggcpobakhaaDoor
open Go Go.Ab Go.Ab.W
theorem lp_tot {σ ρ : Type} {body : σ → Option (σ ⊕ ρ)} {R : ρ → Prop} (I : Nat → σ → Prop) (h : ∀ k s, I k s → (∃ s', body s = some (.inl s') ∧ ∃ k', k' < k ∧ I k' s') ∨ ∃ r, body s = some (.inr r) ∧ R r) : ∀ k s n, I k s → k < n → ∃ r, lpN body n s = some r ∧ R r := by
 intro k
 induction k using Nat.strongRecOn with
 | _ k ih =>
  intro s n hI hk
  obtain ⟨n, rfl⟩ : ∃ n', n = n' + 1 := ⟨n - 1, by omega⟩
  rcases h k s hI with ⟨s', h1, k', h2, h3⟩ | ⟨r, h1, h2⟩
  ·obtain ⟨r, h4, h5⟩ := ih k' h2 s' n h3 (by omega)
   exact ⟨r, by rw [lp_next h1]; exact h4, h5⟩
  ·exact ⟨r, lp_end h1, h2⟩
theorem br_bool {c : Bool} {a b : Option Bool} (ha : c = true → ∃ x, a = some x) (hb : c = false → ∃ x, b = some x) : ∃ x, br c a b = some x := by
 cases c with
 | true => exact ha rfl
 | false => exact hb rfl
theorem some_b (x : Bool) : ∃ y, some x = some y := ⟨x, rfl⟩
theorem lim_of {n : Nat} (h : n ≤ 1073741824) : lim n = true := Nat.ble_eq_true_of_le h
theorem L40_1_tot (n0 : Nat) (l4 : List (Nat × Nat)) (N a b : Int) (hN : N ≠ 0) (v : Bool) (n : Nat) (hn : 3 < n) : ∃ r, lpN (L40_1 n0 l4 N a b) n (v, 0) = some r := by
 obtain ⟨r, h, _⟩ := lp_tot (body := L40_1 n0 l4 N a b) (R := fun _ => True) (fun k s => 0 ≤ s.2 ∧ s.2 + k = 3) (fun k s hI => by
  obtain ⟨v, i⟩ := s
  obtain ⟨h1, h2⟩ := hI
  simp only at h1 h2
  simp only [L40_1]
  by_cases c1 : i < (l4.length : Int)
  ·rw [br_dt c1, ob_s]
   by_cases c2 : i < 3
   ·rw [decide_eq_true c2, br_t]
    have hb : inB i l4.length = true := decide_eq_true ⟨h1, by omega⟩
    have hlt : i.toNat < l4.length := by omega
    have he : l4[i.toNat]? = some l4[i.toNat] := by simp [hlt]
    rw [hb, gd_t, he, ob_s]
    generalize l4[i.toNat] = e
    obtain ⟨x, y⟩ := e
    simp only [gd_t]
    rw [gd_dt hN, gd_dt hN]
    have : ∃ z, br v (some true) (br (decide (Int.tmod (IntKind.wrap .i64 ((x : Nat) : Int)) N = a)) (br (decide (Int.tmod (IntKind.wrap .i64 ((y : Nat) : Int)) N = b)) (some true) (br (decide (Int.tmod (IntKind.wrap .i64 ((x : Nat) : Int)) N = b)) (some (decide (Int.tmod (IntKind.wrap .i64 ((y : Nat) : Int)) N = a))) (some false))) (br (decide (Int.tmod (IntKind.wrap .i64 ((x : Nat) : Int)) N = b)) (some (decide (Int.tmod (IntKind.wrap .i64 ((y : Nat) : Int)) N = a))) (some false))) = some z :=
     br_bool (fun _ => some_b _) fun _ => br_bool (fun _ => br_bool (fun _ => some_b _) fun _ => br_bool (fun _ => some_b _) fun _ => some_b _) fun _ => br_bool (fun _ => some_b _) fun _ => some_b _
    obtain ⟨z, hz⟩ := this
    refine .inl ⟨(z, i + 1), ?_, k - 1, by omega, by simp only; omega, by simp only; omega⟩
    rw [hz, ob_s, wrap_in (by omega) (by omega)]
   ·rw [decide_eq_false c2, br_f]; exact .inr ⟨v, rfl, trivial⟩
  ·rw [br_df c1, ob_s, br_f]; exact .inr ⟨v, rfl, trivial⟩) 3 (v, 0) n ⟨by simp, by simp⟩ hn
 exact ⟨r, h⟩
theorem L40_2_tot (n0 : Nat) (N a w : Int) (x3 : Nat) (l4 : List (Nat × Nat)) (hN : 1 ≤ N ∧ N ≤ 12) (hw : w ≠ 0) (l : List (Int × Int)) (c b : Int) (M : Nat) (hl : l.length ≤ M) (hM : M ≤ 1000) (hb : 0 ≤ b ∧ b ≤ N) (n : Nat) (hn : 12 < n) (hn0 : 3 < n0) :
  ∃ r, lpN (L40_2 n0 N a w x3 l4) n (l, c, b) = some r ∧ r.1.length ≤ M + 12 := by
 refine lp_tot (body := L40_2 n0 N a w x3 l4) (R := fun r => r.1.length ≤ M + 12) (fun k s => 0 ≤ s.2.2 ∧ s.2.2 + k = N ∧ s.1.length + k ≤ M + 12) (fun k s hI => ?_) (N - b).toNat (l, c, b) n ⟨hb.1, by simp only; omega, by simp only; omega⟩ (by omega)
 obtain ⟨l, c, b⟩ := s
 obtain ⟨h1, h2, h3⟩ := hI
 simp only at h1 h2 h3
 simp only [L40_2]
 by_cases c1 : b < N
 ·rw [br_dt c1]
  have e1 : ∃ z, br (decide (b = IntKind.wrap .i64 (a + w))) (some true) (br (decide (b = IntKind.wrap .i64 (a + 1))) (gd (decide (w ≠ 0)) (some (!decide (Int.tmod b w = 0)))) (some false)) = some z :=
   br_bool (fun _ => some_b _) fun _ => br_bool (fun _ => ⟨_, gd_dt hw _⟩) fun _ => some_b _
  obtain ⟨z, hz⟩ := e1
  rw [hz, ob_s]
  have e2 : ∃ c' z', br z (ob (ob (br (decide (Int.tmod c 2 = 1)) (ob (some (ushr .u16 x3 (ui .u64 (Int.tmod (IntKind.wrap .i64 (Int.tdiv c 2)) 16)))) fun y2906 => some (decide (uw .u16 (uw .u16 y2906 &&& uw .u16 1) = 1))) (some false)) fun v2904 => br v2904 (some false) (some z)) fun v2900 => some (IntKind.wrap .i64 (c + 1), v2900)) (some (c, z)) = some (c', z') := by
   cases z with
   | false => exact ⟨c, false, rfl⟩
   | true =>
    rw [br_t]
    have : ∃ q, (ob (br (decide (Int.tmod c 2 = 1)) (ob (some (ushr .u16 x3 (ui .u64 (Int.tmod (IntKind.wrap .i64 (Int.tdiv c 2)) 16)))) fun y2906 => some (decide (uw .u16 (uw .u16 y2906 &&& uw .u16 1) = 1))) (some false)) fun v2904 => br v2904 (some false) (some true)) = some q := by
     by_cases h : Int.tmod c 2 = 1
     ·rw [br_dt h, ob_s, ob_s]; exact br_bool (fun _ => some_b _) fun _ => some_b _
     ·rw [br_df h, ob_s]; exact br_bool (fun _ => some_b _) fun _ => some_b _
    obtain ⟨q, hq⟩ := this
    exact ⟨_, q, by rw [hq, ob_s]⟩
  obtain ⟨c', z', hz'⟩ := e2
  rw [hz', ob_s]
  obtain ⟨q, hq⟩ := L40_1_tot n0 l4 N a b (by omega) z' n0 hn0
  simp only [hq, ob_s]
  cases q with
  | false =>
   refine .inl ⟨(l, c', b + 1), ?_, k - 1, by omega, by simp only; omega, by simp only; omega, by simp only; omega⟩
   rw [br_f, ob_s, wrap_in (by omega) (by omega)]
  | true =>
   refine .inl ⟨(l ++ [(a, b)], c', b + 1), ?_, k - 1, by omega, by simp only; omega, by simp only; omega, by simp; omega⟩
   rw [br_t, lim_of (by simp; omega), gd_t, ob_s, wrap_in (by omega) (by omega)]
 ·rw [br_df c1]; exact .inr ⟨(l, c), rfl, by simp only; omega⟩
theorem L40_3_tot (n0 : Nat) (N w : Int) (x3 : Nat) (l4 : List (Nat × Nat)) (hN : 1 ≤ N ∧ N ≤ 12) (hw : w ≠ 0) (n : Nat) (hn : 12 < n) (hn0 : 12 < n0) :
  ∃ r, lpN (L40_3 n0 N x3 l4) n (w, [], 0, 0) = some r ∧ r.length ≤ 200 := by
 refine lp_tot (body := L40_3 n0 N x3 l4) (R := fun r => r.length ≤ 200) (fun k s => s.1 = w ∧ 0 ≤ s.2.2.2 ∧ s.2.2.2 + k = N ∧ s.2.1.length + 12 * k ≤ 144) (fun k s hI => ?_) N.toNat (w, [], 0, 0) n ⟨rfl, by simp, by simp only; omega, by simp; omega⟩ (by omega)
 obtain ⟨w', l, c, a⟩ := s
 obtain ⟨rfl, h1, h2, h3⟩ := hI
 simp only at h1 h2 h3 hw
 simp only [L40_3]
 by_cases c1 : a < N
 ·rw [br_dt c1]
  obtain ⟨r, hr, hrl⟩ := L40_2_tot n0 N a w' x3 l4 hN hw l c (IntKind.wrap .i64 (a + 1)) l.length (Nat.le_refl _) (by omega) (by rw [wrap_in (by omega) (by omega)]; omega) n0 hn0 (by omega)
  obtain ⟨l', c'⟩ := r
  simp only [hr, ob_s]
  exact .inl ⟨(w', l', c', a + 1), by rw [wrap_in (by omega) (by omega)], k - 1, by omega, rfl, by simp only; omega, by simp only; omega, by simp only at hrl ⊢; omega⟩
 ·rw [br_df c1]; exact .inr ⟨l, rfl, by omega⟩
theorem F40_tot (n x1 x2 x3 : Nat) (l4 : List (Nat × Nat)) (hn : 12 < n) : ∃ N es, F40 n x1 x2 x3 l4 = some (N, es) ∧ es.length ≤ 200 := by
 unfold F40
 have w1 : IntKind.wrap .i64 ((x1 % 4 : Nat) : Int) = ((x1 % 4 : Nat) : Int) := wrap_in (by omega) (by omega)
 have w2 : IntKind.wrap .i64 ((x2 % 3 : Nat) : Int) = ((x2 % 3 : Nat) : Int) := wrap_in (by omega) (by omega)
 have w3 : IntKind.wrap .i64 (1 + ((x1 % 4 : Nat) : Int)) = 1 + ((x1 % 4 : Nat) : Int) := wrap_in (by omega) (by omega)
 have w4 : IntKind.wrap .i64 (1 + ((x2 % 3 : Nat) : Int)) = 1 + ((x2 % 3 : Nat) : Int) := wrap_in (by omega) (by omega)
 rw [w1, w2, w3, w4, ob_s]
 have hN : ∀ a b : Nat, a < 4 → b < 3 → 1 ≤ (1 + (a : Int)) * (1 + (b : Int)) ∧ (1 + (a : Int)) * (1 + (b : Int)) ≤ 12 := by
  intro a b ha hb
  have h1 : a = 0 ∨ a = 1 ∨ a = 2 ∨ a = 3 := by omega
  have h2 : b = 0 ∨ b = 1 ∨ b = 2 := by omega
  rcases h1 with rfl | rfl | rfl | rfl <;> rcases h2 with rfl | rfl | rfl <;> decide
 have hN' := hN (x1 % 4) (x2 % 3) (Nat.mod_lt _ (by omega)) (Nat.mod_lt _ (by omega))
 rw [wrap_in (by omega) (by omega)]
 obtain ⟨r, hr, hl⟩ := L40_3_tot n ((1 + ((x1 % 4 : Nat) : Int)) * (1 + ((x2 % 3 : Nat) : Int))) (1 + ((x1 % 4 : Nat) : Int)) x3 l4 hN' (by omega) n hn hn
 exact ⟨_, r, by rw [hr, ob_s], hl⟩
end Go.Proofs.YtpclggcpobakhaaDoor
end

section
namespace Go.Proofs.YtpclggcpobakhaaDoor
open Go Go.Ab Go.Ab.W
theorem L65_1_tot (n0 : Nat) (a : Int) (x2 : Nat) (l : List (Int × Int)) (b : Int) (ha : 0 ≤ a ∧ a < 64) (hb : 0 ≤ b ∧ b ≤ 65) (hl : l.length ≤ 201) (n : Nat) (hn : 65 < n) : ∃ r, lpN (L65_1 n0 a x2) n (l, b) = some r ∧ r.length ≤ 201 := by
 refine lp_tot (body := L65_1 n0 a x2) (R := fun r => r.length ≤ 201) (fun k s => 0 ≤ s.2 ∧ s.2 + k = 65 ∧ s.1.length ≤ 201) (fun k s hI => ?_) (65 - b).toNat (l, b) n ⟨hb.1, by simp only; omega, hl⟩ (by omega)
 obtain ⟨l, b⟩ := s
 obtain ⟨h1, h2, h3⟩ := hI
 simp only at h1 h2 h3
 have hmi : mi (IntKind.wrap .i64 (a + 5)) (64 : Int) ≤ 64 := by unfold mi; split <;> omega
 have w2 : IntKind.wrap .i64 ((x2 % 3 : Nat) : Int) = ((x2 % 3 : Nat) : Int) := wrap_in (by omega) (by omega)
 have w3 : IntKind.wrap .i64 (199 + ((x2 % 3 : Nat) : Int)) = 199 + ((x2 % 3 : Nat) : Int) := wrap_in (by omega) (by omega)
 simp only [L65_1, w2, w3]
 by_cases c1 : b < mi (IntKind.wrap .i64 (a + 5)) (64 : Int)
 ·rw [br_dt c1, ob_s]
  by_cases c2 : (l.length : Int) < 199 + ((x2 % 3 : Nat) : Int)
  ·rw [decide_eq_true c2, br_t]
   have : x2 % 3 < 3 := Nat.mod_lt _ (by omega)
   rw [lim_of (by simp; omega), gd_t, wrap_in (by omega) (by omega)]
   exact .inl ⟨(l ++ [(a, b)], b + 1), rfl, k - 1, by omega, by simp only; omega, by simp only; omega, by simp; omega⟩
  ·rw [decide_eq_false c2, br_f]; exact .inr ⟨l, rfl, h3⟩
 ·rw [br_df c1, ob_s, br_f]; exact .inr ⟨l, rfl, h3⟩
theorem L65_2_tot (n0 : Nat) (x2 : Nat) (n : Nat) (hn : 65 < n) (hn0 : 65 < n0) : ∃ r, lpN (L65_2 n0 x2) n ([], 0) = some r ∧ r.length ≤ 201 := by
 refine lp_tot (body := L65_2 n0 x2) (R := fun r => r.length ≤ 201) (fun k s => 0 ≤ s.2 ∧ s.2 + k = 64 ∧ s.1.length ≤ 201) (fun k s hI => ?_) 64 ([], 0) n ⟨by simp, by simp, by simp⟩ (by omega)
 obtain ⟨l, a⟩ := s
 obtain ⟨h1, h2, h3⟩ := hI
 simp only at h1 h2 h3
 simp only [L65_2]
 by_cases c1 : a < 64
 ·rw [br_dt c1, wrap_in (by omega) (by omega)]
  obtain ⟨r, hr, hrl⟩ := L65_1_tot n0 a x2 l (a + 1) ⟨h1, c1⟩ ⟨by omega, by omega⟩ h3 n0 hn0
  rw [hr, ob_s]
  exact .inl ⟨(r, a + 1), rfl, k - 1, by omega, by simp only; omega, by simp only; omega, hrl⟩
 ·rw [br_df c1]; exact .inr ⟨l, rfl, h3⟩
theorem okB_of {lo hi : Int} {n : Nat} (h : 0 ≤ lo ∧ lo ≤ hi ∧ hi ≤ (n : Int)) : okB lo hi n = true := decide_eq_true h
theorem F65_tot (n x1 x2 : Nat) (x3 x4 x5 N : Int) (l7 : List (Int × Int)) (hx : x2 < 256) (hl : l7.length ≤ 1000000) (hn : 65 < n) : ∃ N' es, F65 n x1 x2 x3 x4 x5 N l7 = some (N', es) ∧ es.length ≤ 300 := by
 unfold F65
 have hmi : 0 ≤ mi (l7.length : Int) (210 : Int) ∧ mi (l7.length : Int) (210 : Int) ≤ (l7.length : Int) ∧ mi (l7.length : Int) (210 : Int) ≤ 210 := by unfold mi; split <;> omega
 rw [okB_of ⟨by omega, hmi.1, hmi.2.1⟩, gd_t]
 generalize hL : ((l7.drop (0 : Int).toNat).take ((mi (l7.length : Int) (210 : Int) : Int).toNat - (0 : Int).toNat)) = L
 have hLl : L.length ≤ 210 := by
  rw [← hL, List.length_take]
  have := hmi.2.2
  omega
 unfold F26
 rw [lim_of (by omega), gd_t, ob_s]
 have w1 : IntKind.wrap .i64 ((L.length : Int) + 1) = (L.length : Int) + 1 := wrap_in (by omega) (by omega)
 rw [w1, gd_dt (by omega)]
 have w2 : IntKind.wrap .i64 ((x2 : Nat) : Int) = ((x2 : Nat) : Int) := wrap_in (by omega) (by omega)
 rw [w2, ob_s]
 obtain ⟨y, hy⟩ : ∃ y, y = Int.tmod ((x2 : Nat) : Int) ((L.length : Int) + 1) := ⟨_, rfl⟩
 have hy1 : 0 ≤ y ∧ y ≤ L.length := by
  rw [hy, Int.tmod_eq_emod_of_nonneg (Int.natCast_nonneg _)]
  have h1 := Int.emod_nonneg ((x2 : Nat) : Int) (show ((L.length : Int) + 1) ≠ 0 by omega)
  have h2 := Int.emod_lt_of_pos ((x2 : Nat) : Int) (show 0 < ((L.length : Int) + 1) by omega)
  omega
 rw [← hy]
 have fin : ∀ (q : Option (Int × List (Int × Int) × Nat)), (∃ N' es k, q = some (N', es, k) ∧ es.length ≤ 300) → ∃ N' es, (ob q fun (v256, l257, n259) => some (v256, l257)) = some (N', es) ∧ es.length ≤ 300 := by
  rintro q ⟨N', es, k, rfl, h⟩
  exact ⟨N', es, rfl, h⟩
 have ins : ∀ p : Int × Int, F82 n L y [p] = some (L.take y.toNat ++ [p] ++ L.drop y.toNat) ∧ (L.take y.toNat ++ [p] ++ L.drop y.toNat).length ≤ 300 := by
  intro p
  refine ⟨?_, by simp; omega⟩
  unfold F82
  rw [okB_of ⟨hy1.1, hy1.2, Int.le_refl _⟩, gd_t, lim_of (by simp; omega), gd_t]
 refine fin _ ?_
 have case1 : ∀ {p : Prop} [Decidable p] {a b : Option (Int × List (Int × Int) × Nat)}, (p → ∃ N' es k, a = some (N', es, k) ∧ es.length ≤ 300) → (¬ p → ∃ N' es k, b = some (N', es, k) ∧ es.length ≤ 300) → ∃ N' es k, br (decide p) a b = some (N', es, k) ∧ es.length ≤ 300 := by
  intro p _ a b ha hb
  by_cases h : p
  ·rw [br_dt h]; exact ha h
  ·rw [br_df h]; exact hb h
 have base : ∀ (N' : Int) (k : Nat), ∃ N'' es k', (some (N', L, k) : Option (Int × List (Int × Int) × Nat)) = some (N'', es, k') ∧ es.length ≤ 300 := fun N' k => ⟨_, _, _, rfl, by omega⟩
 refine case1 (fun _ => base _ _) fun _ => case1 (fun _ => ?_) fun _ => case1 (fun _ => case1 (fun h => ?_) fun _ => base _ _) fun _ => case1 (fun _ => case1 (fun h => ?_) fun _ => base _ _) fun _ => case1 (fun _ => case1 (fun h => ?_) fun _ => base _ _) fun _ => case1 (fun _ => base _ _) fun _ => case1 (fun _ => ?_) fun _ => base _ _
 ·rw [(ins _).1, ob_s]; exact ⟨_, _, _, rfl, (ins _).2⟩
 ·unfold F49
  rw [wrap_in (by omega) (by omega), okB_of ⟨hy1.1, by omega, by omega⟩, gd_t, decide_eq_true (show y < y + 1 by omega), gd_t, lim_of (by omega), gd_t, ob_s]
  exact ⟨_, _, _, rfl, by simp; omega⟩
 ·have hb : inB y L.length = true := decide_eq_true ⟨hy1.1, by omega⟩
  have hlt : y.toNat < L.length := by omega
  have he : L[y.toNat]? = some L[y.toNat] := by simp [hlt]
  rw [hb, gd_t, he, ob_s]
  generalize L[y.toNat] = e
  obtain ⟨u, v⟩ := e
  have he2 : (L.set y.toNat (v, v))[y.toNat]? = some (v, v) := by simp [hlt]
  simp only [gd_t, he2, ob_s]
  exact ⟨_, _, _, rfl, by simp; omega⟩
 ·have hb : inB y L.length = true := decide_eq_true ⟨hy1.1, by omega⟩
  have hlt : y.toNat < L.length := by omega
  have he : L[y.toNat]? = some L[y.toNat] := by simp [hlt]
  rw [hb, gd_t, he, ob_s]
  generalize L[y.toNat] = e
  obtain ⟨u, v⟩ := e
  simp only [(ins _).1, ob_s]
  exact ⟨_, _, _, rfl, (ins _).2⟩
 ·obtain ⟨r, hr, hrl⟩ := L65_2_tot n x2 n hn hn
  rw [hr, ob_s]; exact ⟨_, _, _, rfl, by omega⟩
theorem F28_tot (n x1 x2 x3 : Nat) (l4 : List (Nat × Nat)) (x8 x9 : Nat) (x10 x11 x12 : Int) (x13 x14 : Nat) (x15 x16 x17 : Int) (h9 : x9 < 256) (h14 : x14 < 256) (hn : 65 < n) :
  ∃ N1 e1 N2 e2 N3 e3, F28 n x1 x2 x3 l4 x8 x9 x10 x11 x12 x13 x14 x15 x16 x17 = some (N1, e1, N2, e2, N3, e3) ∧ e1.length ≤ 300 ∧ e2.length ≤ 300 ∧ e3.length ≤ 300 ∧ F40 n x1 x2 x3 l4 = some (N1, e1) := by
 obtain ⟨N1, e1, h1, g1⟩ := F40_tot n x1 x2 x3 l4 (by omega)
 obtain ⟨N2, e2, h2, g2⟩ := F65_tot n x8 x9 x10 x11 x12 N1 e1 h9 (by omega) hn
 obtain ⟨N3, e3, h3, g3⟩ := F65_tot n x13 x14 x15 x16 x17 N2 e2 h14 (by omega) hn
 refine ⟨N1, e1, N2, e2, N3, e3, ?_, by omega, g2, g3, h1⟩
 unfold F28
 simp only [h1, ob_s, h2, h3]
end Go.Proofs.YtpclggcpobakhaaDoor
end

section
namespace Go.Ab.W
open Go Go.Ab
theorem uM64 : uM .u64 = 2 ^ 64 := rfl
theorem uw_id {a : Nat} (h : a < 2 ^ 64) : uw .u64 a = a := Nat.mod_eq_of_lt h
theorem tb_lt {a : Nat} (h : a < 2 ^ 64) {i : Nat} (hi : a.testBit i = true) : i < 64 := by
 rcases Nat.lt_or_ge i 64 with h1 | h1
 ·exact h1
 ·have : a < 2 ^ i := Nat.lt_of_lt_of_le h (Nat.pow_le_pow_right (by decide) h1)
  rw [Nat.testBit_lt_two_pow this] at hi; cases hi
theorem word_and {a b : Nat} (ha : a < 2 ^ 64) (hb : b < 2 ^ 64) : uw .u64 (uw .u64 a &&& uw .u64 b) = a &&& b := by
 rw [uw_id ha, uw_id hb, uw_id (Nat.lt_of_le_of_lt Nat.and_le_left ha)]
theorem word_or {a b : Nat} (ha : a < 2 ^ 64) (hb : b < 2 ^ 64) : uw .u64 (uw .u64 a ||| uw .u64 b) = a ||| b := by
 rw [uw_id ha, uw_id hb, uw_id (Nat.or_lt_two_pow ha hb)]
theorem and_lt' {a b : Nat} (ha : a < 2 ^ 64) : a &&& b < 2 ^ 64 := Nat.lt_of_le_of_lt Nat.and_le_left ha
theorem or_lt' {a b : Nat} (ha : a < 2 ^ 64) (hb : b < 2 ^ 64) : a ||| b < 2 ^ 64 := Nat.or_lt_two_pow ha hb
theorem word_one {k : Nat} (h : k < 64) : ushl .u64 1 k = 2 ^ k := by
 unfold ushl
 rw [Nat.min_eq_left (Nat.le_of_lt (show k < IntKind.bits .u64 from h)), Nat.one_mul]
 exact uw_id (Nat.pow_lt_pow_right (by decide) h)
theorem one_lt {k : Nat} (h : k < 64) : 2 ^ k < 2 ^ 64 := Nat.pow_lt_pow_right (by decide) h
theorem tb_one (k i : Nat) : (2 ^ k).testBit i = decide (i = k) := by
 rw [Nat.testBit_two_pow]
 by_cases h : k = i
 ·simp [h]
 ·simp [h, Ne.symm h]
theorem ui_nn {k : Int} (h0 : 0 ≤ k) (h1 : k < 64) : ui .u64 k = k.toNat := by
 unfold ui
 rw [Int.emod_eq_of_lt h0 (by rw [uM64]; omega)]
theorem word_shr {a k : Nat} (h : k ≤ 64) : ushr .u64 a k = a >>> k := by
 unfold ushr
 rw [Nat.min_eq_left (show k ≤ IntKind.bits .u64 from h), Nat.shiftRight_eq_div_pow]
theorem bit_at {a k : Nat} (ha : a < 2 ^ 64) (h : k ≤ 64) : decide (uw .u64 (uw .u64 (ushr .u64 a k) &&& uw .u64 1) = 1) = a.testBit k := by
 have hs : a >>> k < 2 ^ 64 := Nat.lt_of_le_of_lt (by rw [Nat.shiftRight_eq_div_pow]; exact Nat.div_le_self _ _) ha
 rw [word_shr h, word_and hs (by decide), Nat.testBit]
 rw [Nat.and_comm]
 have h2 : 1 &&& a >>> k = (a >>> k) % 2 := by rw [Nat.and_comm, Nat.and_one_is_mod]
 rw [h2]
 rcases Nat.mod_two_eq_zero_or_one (a >>> k) with h3 | h3 <;> rw [h3] <;> rfl
theorem tz_bit {x : Nat} (h0 : 0 < x) (h1 : x < 2 ^ 64) : x.testBit (tz x) = true ∧ ∀ i, i < tz x → x.testBit i = false := by
 obtain ⟨h2, _, q, hq⟩ := tz_low h0 h1
 have key : ∀ i, x.testBit i = (decide (tz x ≤ i) && (2 * q + 1).testBit (i - tz x)) := fun i => by
  conv => lhs; rw [hq]
  rw [Nat.testBit_two_pow_mul]
 refine ⟨?_, fun i hi => ?_⟩
 ·rw [key, Nat.sub_self]
  simp [Nat.testBit_zero]
 ·rw [key, decide_eq_false (by omega)]; rfl
def clr (x : Nat) : Nat := uw .u64 (uw .u64 x &&& uw .u64 (usub .u64 x 1))
theorem clr_eq {x : Nat} (h0 : 0 < x) (h1 : x < 2 ^ 64) : clr x = x &&& (x - 1) := by
 have : usub .u64 x 1 = x - 1 := by
  unfold usub
  rw [uM64, uw_id (show (1 : Nat) < 2 ^ 64 by decide)]
  show (x + (2 ^ 64 - 1)) % 2 ^ 64 = x - 1
  omega
 unfold clr
 rw [this, word_and h1 (by omega)]
theorem pred_bit (t q i : Nat) : (2 ^ t * (2 * q + 1) - 1).testBit i = if i < t then true else if i = t then false else (2 ^ t * (2 * q + 1)).testBit i := by
 have e : 2 ^ t * (2 * q + 1) - 1 = 2 ^ t * (2 * q) + (2 ^ t - 1) := by
  rw [Nat.mul_add, Nat.mul_one]
  have := Nat.two_pow_pos t
  omega
 rw [e, Nat.testBit_two_pow_mul_add _ (by have := Nat.two_pow_pos t; omega)]
 by_cases h : i < t
 ·rw [if_pos h, if_pos h, Nat.testBit_two_pow_sub_one]; simp [h]
 ·rw [if_neg h, if_neg h]
  by_cases h' : i = t
  ·subst h'; simp [Nat.testBit_zero]
  ·rw [if_neg h', Nat.testBit_two_pow_mul]
   obtain ⟨d, hd⟩ : ∃ d, i - t = d + 1 := ⟨i - t - 1, by omega⟩
   rw [hd, Nat.testBit_succ, Nat.testBit_succ]
   have : (2 * q + 1) / 2 = 2 * q / 2 := by omega
   rw [this]
   simp; omega
theorem clr_bit {x : Nat} (h0 : 0 < x) (h1 : x < 2 ^ 64) (i : Nat) : (clr x).testBit i = (x.testBit i && !decide (i = tz x)) := by
 rw [clr_eq h0 h1, Nat.testBit_and]
 obtain ⟨_, _, q, hq⟩ := tz_low h0 h1
 obtain ⟨hb, hl⟩ := tz_bit h0 h1
 have := pred_bit (tz x) q i
 rw [← hq] at this
 rw [this]
 by_cases h : i < tz x
 ·rw [hl i h]; rfl
 ·rw [if_neg h]
  by_cases h' : i = tz x
  ·simp [h']
  ·simp [h']
theorem clr_lt {x : Nat} (h0 : 0 < x) (h1 : x < 2 ^ 64) : clr x < 2 ^ 64 := by rw [clr_eq h0 h1]; exact and_lt' h1
def bitsOf (x : Nat) : List Nat := (List.range 64).filter fun i => x.testBit i
theorem bitsOf_len (x : Nat) : (bitsOf x).length ≤ 64 := by
 unfold bitsOf
 exact Nat.le_trans (List.length_filter_le _ _) (by simp)
theorem filter_range_cons (p q : Nat → Bool) (t : Nat) : ∀ (n s : Nat), s ≤ t → t < s + n → p t = true → (∀ i, s ≤ i → i < t → p i = false) → (∀ i, t < i → p i = q i) → (∀ i, s ≤ i → i ≤ t → q i = false) →
  (List.range' s n).filter p = t :: (List.range' s n).filter q
 | 0, s, h1, h2, _, _, _, _ => by omega
 | n + 1, s, h1, h2, hp, hl, hg, hq => by
  rw [List.range'_succ]
  by_cases h : s = t
  ·subst h
   rw [List.filter_cons_of_pos hp, List.filter_cons_of_neg (by rw [hq s (Nat.le_refl _) (Nat.le_refl _)]; decide)]
   congr 1
   apply List.filter_congr
   intro i hi
   rw [List.mem_range'_1] at hi
   exact hg i (by omega)
  ·rw [List.filter_cons_of_neg (by rw [hl s (Nat.le_refl _) (by omega)]; decide), List.filter_cons_of_neg (by rw [hq s (Nat.le_refl _) (by omega)]; decide)]
   exact filter_range_cons p q t n (s + 1) (by omega) (by omega) hp (fun i a b => hl i (by omega) b) hg (fun i a b => hq i (by omega) b)
theorem bitsOf_cons {x : Nat} (h0 : 0 < x) (h1 : x < 2 ^ 64) : bitsOf x = tz x :: bitsOf (clr x) := by
 obtain ⟨hb, hl⟩ := tz_bit h0 h1
 unfold bitsOf
 rw [List.range_eq_range']
 refine filter_range_cons _ _ (tz x) 64 0 (Nat.zero_le _) (by have := (tz_low h0 h1).1; omega) hb (fun i _ h => hl i h) (fun i h => ?_) (fun i _ h => ?_)
 ·show x.testBit i = (clr x).testBit i
  rw [clr_bit h0 h1]
  have : i ≠ tz x := by omega
  simp [this]
 ·show (clr x).testBit i = false
  rw [clr_bit h0 h1]
  by_cases e : i = tz x
  ·simp [e]
  ·rw [hl i (by omega)]; rfl
section
variable {σ ρ τ : Type}
theorem lp_list {α : Type} {body : τ → Option (τ ⊕ ρ)} (l : List α) (mk : σ → Int → τ) (step : σ → α → σ) (fin : σ → ρ) (I : Nat → σ → Prop)
  (hs : ∀ s i x, l[i]? = some x → I i s → body (mk s (i : Int)) = some (.inl (mk (step s x) ((i + 1 : Nat) : Int))) ∧ I (i + 1) (step s x)) (he : ∀ s, I l.length s → body (mk s (l.length : Int)) = some (.inr (fin s))) :
  ∀ (k i n : Nat) (s : σ), i + k = l.length → I i s → k < n → lpN body n (mk s (i : Int)) = some (fin ((l.drop i).foldl step s)) ∧ I l.length ((l.drop i).foldl step s) := by
 intro k
 induction k with
 | zero =>
  intro i n s hi hI hn
  obtain ⟨n, rfl⟩ : ∃ n', n = n' + 1 := ⟨n - 1, by omega⟩
  have : i = l.length := by omega
  subst this
  rw [List.drop_length]
  exact ⟨by simp only [lpN, he s hI, List.foldl_nil], hI⟩
 | succ k ih =>
  intro i n s hi hI hn
  obtain ⟨n, rfl⟩ : ∃ n', n = n' + 1 := ⟨n - 1, by omega⟩
  have hlt : i < l.length := by omega
  obtain ⟨h1, h2⟩ := hs s i l[i] (List.getElem?_eq_getElem hlt) hI
  rw [List.drop_eq_getElem_cons hlt, List.foldl_cons]
  simp only [lpN, h1]
  exact ih (i + 1) n _ (by omega) h2 (by omega)
theorem lp_list0 {α : Type} {body : τ → Option (τ ⊕ ρ)} (l : List α) (mk : σ → Int → τ) (step : σ → α → σ) (fin : σ → ρ) (I : Nat → σ → Prop)
  (hs : ∀ s i x, l[i]? = some x → I i s → body (mk s (i : Int)) = some (.inl (mk (step s x) ((i + 1 : Nat) : Int))) ∧ I (i + 1) (step s x)) (he : ∀ s, I l.length s → body (mk s (l.length : Int)) = some (.inr (fin s)))
  {n : Nat} {s : σ} (hI : I 0 s) (hn : l.length < n) : lpN body n (mk s 0) = some (fin (l.foldl step s)) ∧ I l.length (l.foldl step s) := by
 have := lp_list l mk step fin I hs he l.length 0 n s (by omega) hI hn
 simpa using this
end
end Go.Ab.W
end

section
namespace Go.Proofs.YtpclggcpobakhaaDoor
open Go Go.Ab Go.Ab.W
theorem okE_mem {N : Int} : ∀ {es : List (Int × Int)} {p : Int × Int}, okEp N p es = true → ∀ e ∈ es, 0 ≤ e.1 ∧ e.1 < e.2 ∧ e.2 < N
 | [], _, _, e, he => by cases he
 | x :: es, p, h, e, he => by
  rw [okE_cons, Bool.and_eq_true] at h
  rcases List.mem_cons.1 he with rfl | he
  ·simp only [stepOk, Bool.and_eq_true, decide_eq_true_eq] at h
   exact h.1.1
  ·exact okE_mem h.2 e he
structure Okay (N : Nat) (es : List (Int × Int)) : Prop where
 pos : 1 ≤ N
 le : N ≤ 64
 len : es.length ≤ 200
 mem : ∀ e ∈ es, ∃ a b : Nat, e = ((a : Int), (b : Int)) ∧ a < b ∧ b < N
theorem okay_of {N : Int} {es : List (Int × Int)} (h : okG N es = true) : ∃ M : Nat, N = (M : Int) ∧ Okay M es := by
 simp only [okG, Bool.and_eq_true, decide_eq_true_eq] at h
 obtain ⟨⟨h1, h2, h3⟩, h4⟩ := h
 obtain ⟨M, rfl⟩ := Int.eq_ofNat_of_zero_le (show 0 ≤ N by omega)
 refine ⟨M, rfl, by omega, by omega, h3, fun e he => ?_⟩
 obtain ⟨g1, g2, g3⟩ := okE_mem h4 e he
 obtain ⟨a, b⟩ := e
 obtain ⟨a, rfl⟩ := Int.eq_ofNat_of_zero_le (show 0 ≤ a from g1)
 obtain ⟨b, rfl⟩ := Int.eq_ofNat_of_zero_le (show 0 ≤ b by simp only at g1 g2; omega)
 exact ⟨a, b, rfl, by simp only at g2; omega, by simp only at g3; omega⟩
def bl (x : Nat) : Nat := if x = 0 then 0 else Nat.log2 x + 1
theorem lt_bl {x k : Nat} : k < bl x ↔ 2 ^ k ≤ x := by
 unfold bl
 by_cases h : x = 0
 ·subst h
  rw [if_pos rfl]
  have := Nat.two_pow_pos k
  omega
 ·rw [if_neg h, Nat.lt_succ_iff, Nat.le_log2 h]
theorem bl_unique {x m : Nat} (h : ∀ k, k < m ↔ 2 ^ k ≤ x) : m = bl x := by
 rcases Nat.lt_trichotomy m (bl x) with h1 | h1 | h1
 ·have := (h m).2 (lt_bl.1 h1); omega
 ·exact h1
 ·have := lt_bl.2 ((h (bl x)).1 h1); omega
theorem bl_shift {x s : Nat} (h : 2 ^ s ≤ x) : bl (x >>> s) + s = bl x := by
 refine bl_unique fun k => ?_
 rw [Nat.shiftRight_eq_div_pow]
 by_cases hk : k < s
 ·have : 2 ^ k ≤ 2 ^ s := Nat.pow_le_pow_right (by decide) (by omega)
  constructor
  ·intro _; omega
  ·intro _; omega
 ·obtain ⟨d, rfl⟩ : ∃ d, k = d + s := ⟨k - s, by omega⟩
  have h1 := lt_bl (x := x / 2 ^ s) (k := d)
  have h2 : 2 ^ (d + s) ≤ x ↔ 2 ^ d ≤ x / 2 ^ s := by rw [Nat.pow_add, Nat.le_div_iff_mul_le (Nat.two_pow_pos s)]
  rw [h2, ← h1]; omega
theorem tab_bl : ∀ y : Fin 256, tab256_482390[y.val]? = some (bl y.val) := by decide +kernel
theorem bl_le {x s : Nat} (h : x < 2 ^ s) : bl x ≤ s := by
 rcases Nat.lt_or_ge s (bl x) with h1 | h1
 ·have := lt_bl.1 h1; omega
 ·exact h1
theorem len_step (s y m : Nat) (hs : s ≤ 32) (hy : y < 2 ^ (2 * s)) (hm : m ≤ 64) : ∃ y' m' : Nat, br (decide (2 ^ s ≤ y)) (some (ushr .u64 y s, IntKind.wrap .i64 ((m : Int) + (s : Int)))) (some (y, (m : Int))) = some (y', (m' : Int)) ∧ y' < 2 ^ s ∧ bl y' + m' = bl y + m ∧ m' ≤ m + s := by
 by_cases h : 2 ^ s ≤ y
 ·refine ⟨y >>> s, m + s, ?_, ?_, ?_, Nat.le_refl _⟩
  ·rw [br_dt h, word_shr (by omega), wrap_in (by omega) (by omega)]; rfl
  ·rw [Nat.shiftRight_eq_div_pow, Nat.div_lt_iff_lt_mul (Nat.two_pow_pos s), ← Nat.pow_add]
   rw [Nat.two_mul] at hy; exact hy
  ·have := bl_shift h; omega
 ·exact ⟨y, m, br_df h _ _, by omega, rfl, by omega⟩
theorem F51_eq (n x : Nat) (hx : x < 2 ^ 64) : F51 n x = some ((bl x : Nat) : Int) := by
 unfold F51
 obtain ⟨y1, m1, e1, h1, b1, g1⟩ := len_step 32 x 0 (by omega) hx (by omega)
 have e1' : br (decide (4294967296 ≤ x)) (some (ushr .u64 x 32, (32 : Int))) (some (x, 0)) = some (y1, (m1 : Int)) := e1
 rw [e1', ob_s]
 obtain ⟨y2, m2, e2, h2, b2, g2⟩ := len_step 16 y1 m1 (by omega) h1 (by omega)
 have e2' : br (decide (65536 ≤ y1)) (some (ushr .u64 y1 16, IntKind.wrap .i64 ((m1 : Int) + 16))) (some (y1, (m1 : Int))) = some (y2, (m2 : Int)) := e2
 simp only [e2', ob_s]
 obtain ⟨y3, m3, e3, h3, b3, g3⟩ := len_step 8 y2 m2 (by omega) h2 (by omega)
 have e3' : br (decide (256 ≤ y2)) (some (ushr .u64 y2 8, IntKind.wrap .i64 ((m2 : Int) + 8))) (some (y2, (m2 : Int))) = some (y3, (m3 : Int)) := e3
 simp only [e3', ob_s]
 have h3 : y3 < 256 := h3
 have e : uw .u8 y3 = y3 := Nat.mod_eq_of_lt h3
 have h8 : bl y3 ≤ 8 := bl_le h3
 have ht : tab256_482390[y3]? = some (bl y3) := tab_bl ⟨y3, h3⟩
 have w1 : IntKind.wrap .i64 ((bl y3 : Nat) : Int) = ((bl y3 : Nat) : Int) := wrap_in (by omega) (by omega)
 rw [e, inB_nat h3, gd_t, Int.toNat_natCast, ht, ob_s, w1, wrap_in (by omega) (by omega)]
 simp only [Option.some.injEq]; omega
theorem F42_eq {n x : Nat} (h : x < 2 ^ 64) : F42 n x = some ((tz x : Nat) : Int) := by unfold F42; rw [decide_eq_true h, gd_t]
def ckF (N : Int) (es : List (Int × Int)) (x : Nat) : Int := if okG N es then (if 2 ^ N.toNat ≤ x then 2 else 0) else 180
theorem F55_eq (n : Nat) (N : Int) (es : List (Int × Int)) (x : Nat) (hx : x < 2 ^ 64) (hn : 2 < n) (hl : es.length < 4611686018427387904) (hk : es.length < n) : F55 n N es x = some (ckF N es x) := by
 unfold F55 ckF
 rw [F23_eq n N es hn hl hk, ob_s]
 unfold ckG
 by_cases h : okG N es = true
 ·obtain ⟨M, rfl, hM⟩ := okay_of h
  rw [if_pos h, if_pos h]
  simp only [decide_true, Bool.not_true, br_f, F51_eq n x hx, ob_s, Int.toNat_natCast]
  by_cases h2 : 2 ^ M ≤ x
  ·have := lt_bl.2 h2
   rw [if_pos h2, br_dt (by omega)]
  ·have : ¬ M < bl x := fun h => h2 (lt_bl.1 h)
   rw [if_neg h2, br_df (by omega)]
 ·rw [if_neg h, if_neg h]; rfl
theorem F66_eq (n : Nat) (N : Int) (es : List (Int × Int)) (x : Nat) (hx : x < 2 ^ 64) (hl : es.length < 4611686018427387904) (hk : es.length < n) : F66 n N es x = some (ckF N es x) := by
 unfold F66 ckF
 rw [F43_eq n N es hl hk, ob_s]
 unfold ckG
 by_cases h : okG N es = true
 ·obtain ⟨M, rfl, hM⟩ := okay_of h
  rw [if_pos h, if_pos h]
  simp only [decide_true, Bool.not_true, br_f, Int.toNat_natCast]
  by_cases h64 : M < 64
  ·have hu : ui .u64 (M : Int) = M := (ui_nn (by omega) (by omega)).trans (Int.toNat_natCast M)
   rw [br_dt (by omega), ob_s, hu, word_shr (by omega), Nat.shiftRight_eq_div_pow]
   by_cases h2 : 2 ^ M ≤ x
   ·have : 0 < x / 2 ^ M := Nat.div_pos h2 (Nat.two_pow_pos _)
    rw [if_pos h2, decide_eq_false (by omega)]; rfl
   ·have : x / 2 ^ M = 0 := Nat.div_eq_of_lt (by omega)
    rw [if_neg h2, decide_eq_true this]; rfl
  ·have hM64 : M = 64 := by have := hM.le; omega
   subst hM64
   rw [br_df (by omega), ob_s, if_neg (by omega)]; rfl
 ·rw [if_neg h, if_neg h]; rfl
theorem ckF_ok {N : Int} {es : List (Int × Int)} {x : Nat} (h : ckF N es x = 0) : ∃ M : Nat, N = (M : Int) ∧ Okay M es ∧ x < 2 ^ M := by
 unfold ckF at h
 split at h
 ·rename_i hk
  obtain ⟨M, rfl, hM⟩ := okay_of hk
  split at h
  ·cases h
  ·rename_i h2
   rw [Int.toNat_natCast] at h2
   exact ⟨M, rfl, hM, by omega⟩
 ·cases h
theorem F67_eq (n x i : Nat) (hx : x < 2 ^ 64) (hi : i < 64) : F67 n x ((i : Nat) : Int) = some (x.testBit i) := by
 unfold F67
 rw [ui_nn (by omega) (by omega), Int.toNat_natCast, bit_at hx (by omega)]
theorem F57_eq (n x i : Nat) (hx : x < 2 ^ 64) (hi : i < 64) : F57 n x ((i : Nat) : Int) = some (x.testBit i) := by
 unfold F57
 rw [decide_eq_true (show (0 : Int) ≤ (i : Int) by omega), gd_t, Int.toNat_natCast, bit_at hx (by omega)]
theorem F68_eq (n i : Nat) (hi : i < 64) : F68 n ((i : Nat) : Int) = some (2 ^ i) := by
 unfold F68
 rw [ui_nn (by omega) (by omega), Int.toNat_natCast, word_one hi]
end Go.Proofs.YtpclggcpobakhaaDoor
end

section
namespace Go.Proofs.YtpclggcpobakhaaDoor
open Go Go.Ab Go.Ab.W
theorem lp_bitsI {σ ρ τ : Type} {body : τ → Option (τ ⊕ ρ)} (mk : Nat → σ → τ) (fin : σ → ρ) (I : Nat → σ → Prop)
  (hs : ∀ r s, 0 < r → r < 2 ^ 64 → I r s → ∃ s', body (mk r s) = some (.inl (mk (clr r) s')) ∧ I (clr r) s') (he : ∀ s, I 0 s → body (mk 0 s) = some (.inr (fin s))) :
  ∀ (n : Nat) (r : Nat) (s : σ), r < 2 ^ 64 → I r s → (bitsOf r).length < n → ∃ s', lpN body n (mk r s) = some (fin s') ∧ I 0 s' := by
 intro n
 induction n with
 | zero => intro r s _ _ h; exact absurd h (Nat.not_lt_zero _)
 | succ n ih =>
  intro r s hr hI hn
  rcases Nat.eq_zero_or_pos r with h0 | h0
  ·subst h0
   exact ⟨s, by simp only [lpN, he s hI], hI⟩
  ·obtain ⟨s', h1, h2⟩ := hs r s h0 hr hI
   simp only [lpN, h1]
   exact ih _ _ (clr_lt h0 hr) h2 (by rw [bitsOf_cons h0 hr] at hn; simpa using hn)
theorem filter_gap {p : Nat → Bool} {t : Nat} : ∀ {k : Nat}, t ≤ k → (∀ i, t ≤ i → i < k → p i = false) → (List.range k).filter p = (List.range t).filter p := by
 intro k hk
 induction hk with
 | refl => intro _; rfl
 | @step k hk ih =>
  intro h
  rw [List.range_succ, List.filter_append, ih fun i h1 h2 => h i h1 (by omega)]
  simp [h k hk (by omega)]
def lowB (x t : Nat) : List Nat := (List.range t).filter fun i => x.testBit i
def rk (x v : Nat) : Nat := (lowB x v).length
theorem low_len (x t : Nat) : (lowB x t).length ≤ t := Nat.le_trans (List.length_filter_le _ _) (by simp)
theorem low_succ (x t : Nat) : lowB x (t + 1) = lowB x t ++ (if x.testBit t then [t] else []) := by
 unfold lowB
 rw [List.range_succ, List.filter_append]
 by_cases h : x.testBit t <;> simp [h]
theorem mget_put {β : Type} (xs : List (Int × β)) (k k' : Int) (v : β) : mget (mput xs k v) k' = if k' = k then some v else mget xs k' := by
 have key : ∀ (xs : List (Int × β)) (i : Nat), (mfind k xs i = none → ∀ j, (mfind k' (xs ++ [(k, v)]) j).map (·.2) = if k' = k then some v else (mfind k' xs j).map (·.2)) ∧
   (∀ p, mfind k xs i = some p → i ≤ p.1 ∧ ∀ j, (mfind k' (xs.set (p.1 - i) (k, v)) j).map (·.2) = if k' = k then some v else (mfind k' xs j).map (·.2)) := by
  intro xs
  induction xs with
  | nil =>
   intro i
   refine ⟨fun _ j => ?_, fun p h => by simp [mfind] at h⟩
   simp only [List.nil_append, mfind]
   by_cases h : k' = k <;> simp [h]
  | cons e xs ih =>
   intro i
   by_cases he : k = e.1
   ·refine ⟨fun h => by simp [mfind, he] at h, fun p h => ?_⟩
    have hp : p = (i, e.2) := by simp [mfind, he] at h; exact h.symm
    subst hp
    refine ⟨Nat.le_refl _, fun j => ?_⟩
    simp only [Nat.sub_self, List.set_cons_zero, mfind]
    by_cases h : k' = k
    ·simp [h]
    ·have : k' ≠ e.1 := fun c => h (c.trans he.symm)
     simp [h, this]
   ·refine ⟨fun h j => ?_, fun p h => ?_⟩
    ·have h' : mfind k xs (i + 1) = none := by simpa [mfind, he] using h
     simp only [List.cons_append, mfind]
     by_cases h2 : k' = e.1
     ·have : k' ≠ k := fun c => he (c.symm.trans h2)
      simp [h2, Ne.symm he]
     ·simp only [if_neg h2]
      exact (ih (i + 1)).1 h' (j + 1)
    ·have h' : mfind k xs (i + 1) = some p := by simpa [mfind, he] using h
     obtain ⟨g1, g2⟩ := (ih (i + 1)).2 p h'
     refine ⟨by omega, fun j => ?_⟩
     rw [show p.1 - i = (p.1 - (i + 1)) + 1 by omega, List.set_cons_succ]
     simp only [mfind]
     by_cases h2 : k' = e.1
     ·have : k' ≠ k := fun c => he (c.symm.trans h2)
      simp [h2, Ne.symm he]
     ·simp only [if_neg h2]
      exact g2 (j + 1)
 unfold mget mput
 cases h : mfind k xs 0 with
 | none => exact (key xs 0).1 h 0
 | some p => exact ((key xs 0).2 p h).2 0
theorem L21_1_eq (n0 x : Nat) (hx : x < 2 ^ 64) (M : Nat) (hM : M ≤ 64) (hxM : x < 2 ^ M) (n : Nat) (hn : 64 < n) :
  ∃ T, lpN (L21_1 n0) n (x, ([] : List Int), ([] : List (Int × Int))) = some ((lowB x M).map fun (k : Nat) => (k : Int), T) ∧ ∀ v : Nat, x.testBit v = true → mget T (v : Int) = some ((rk x v : Nat) : Int) := by
 have := lp_bitsI (body := L21_1 n0) (fun r (s : List Int × List (Int × Int)) => (r, s.1, s.2)) (fun s => s)
  (fun r s => ∃ t, t ≤ 64 ∧ (∀ i, r.testBit i = (x.testBit i && decide (t ≤ i))) ∧ s.1 = (lowB x t).map (fun (k : Nat) => (k : Int)) ∧ ∀ v : Nat, v < t → x.testBit v = true → mget s.2 (v : Int) = some ((rk x v : Nat) : Int))
  (fun r s h0 hr hI => ?_) (fun s hI => ?_) n x ([], []) hx ⟨0, by omega, fun i => by simp, rfl, fun v h => absurd h (Nat.not_lt_zero _)⟩ (Nat.lt_of_le_of_lt (bitsOf_len x) hn)
 ·obtain ⟨s, h1, t, h2, h3, h4, h5⟩ := this
  have hz : ∀ i, t ≤ i → x.testBit i = false := fun i hi => by
   have := h3 i
   rw [Nat.zero_testBit] at this
   simpa [hi] using this.symm
  have hz2 : ∀ i, M ≤ i → x.testBit i = false := fun i hi => Nat.testBit_lt_two_pow (Nat.lt_of_lt_of_le hxM (Nat.pow_le_pow_right (by decide) hi))
  have e : lowB x t = lowB x M := by
   unfold lowB
   rcases Nat.le_total t M with h | h
   ·exact (filter_gap h fun i hi _ => hz i hi).symm
   ·exact filter_gap h fun i hi _ => hz2 i hi
  refine ⟨s.2, ?_, fun v hv => h5 v (Nat.lt_of_not_le fun h => by rw [hz v h] at hv; cases hv) hv⟩
  rw [h1, ← e, ← h4]
 ·obtain ⟨t, h2, h3, h4, h5⟩ := hI
  obtain ⟨b1, b2⟩ := tz_bit h0 hr
  have hk := tb_lt hr b1
  have b3 := h3 (tz r)
  rw [b1] at b3
  have b4 := b3.symm
  simp only [Bool.and_eq_true, decide_eq_true_eq] at b4
  obtain ⟨b5, b6⟩ := b4
  have hgap : lowB x (tz r) = lowB x t := filter_gap b6 fun i hi hlt => by
   have := h3 i
   rw [b2 i hlt] at this
   simpa [hi] using this.symm
  have hlen : s.1.length = rk x (tz r) := by rw [h4, List.length_map]; unfold rk; rw [hgap]
  have hle : rk x (tz r) ≤ 64 := Nat.le_trans (low_len _ _) (by omega)
  refine ⟨(s.1 ++ [((tz r : Nat) : Int)], mput s.2 ((tz r : Nat) : Int) (s.1.length : Int)), ?_, tz r + 1, by omega, fun i => ?_, ?_, fun v hv hb => ?_⟩
  ·unfold L21_1
   simp only [decide_eq_false (show ¬ r = 0 by omega), Bool.not_false, br_t, F42_eq hr, ob_s]
   rw [lim_of (by simp; omega), gd_t, ob_s]
   rfl
  ·rw [clr_bit h0 hr, h3]
   by_cases hi : x.testBit i
   ·rcases Nat.lt_trichotomy i (tz r) with h | h | h
    ·have hh := h3 i
     rw [b2 i h, hi] at hh
     have ht : ¬ t ≤ i := by simpa using hh.symm
     simp [hi, show ¬ t ≤ i from ht, show ¬ tz r + 1 ≤ i by omega]
    ·subst h; simp
    ·simp [hi, show t ≤ i by omega, show tz r + 1 ≤ i by omega, show i ≠ tz r by omega]
   ·simp [hi]
  ·rw [low_succ, if_pos b5, List.map_append, hgap, ← h4]; rfl
  ·show mget (mput s.2 ((tz r : Nat) : Int) (s.1.length : Int)) (v : Int) = _
   rw [mget_put]
   by_cases e : v = tz r
   ·subst e; rw [if_pos rfl, hlen]
   ·rw [if_neg (by omega)]
    refine h5 v (Nat.lt_of_not_le fun ht => ?_) hb
    have hh := h3 v
    rw [b2 v (by omega), hb] at hh
    simp [ht] at hh
 ·show L21_1 n0 (0, s.1, s.2) = _
  unfold L21_1
  rfl
theorem lp_fromE {σ ρ τ : Type} {body : τ → Option (τ ⊕ ρ)} (N : Nat) (mk : σ → Int → τ) (fin : σ → ρ) (I : Nat → σ → Prop)
  (hs : ∀ s i, i < N → I i s → ∃ s', body (mk s (i : Int)) = some (.inl (mk s' ((i + 1 : Nat) : Int))) ∧ I (i + 1) s') (he : ∀ s, I N s → body (mk s (N : Int)) = some (.inr (fin s))) :
  ∀ (k i n : Nat) (s : σ), i + k = N → I i s → k < n → ∃ s', lpN body n (mk s (i : Int)) = some (fin s') ∧ I N s' := by
 intro k
 induction k with
 | zero =>
  intro i n s hi hI hn
  obtain ⟨n, rfl⟩ : ∃ n', n = n' + 1 := ⟨n - 1, by omega⟩
  have : i = N := by omega
  subst this
  exact ⟨s, by simp only [lpN, he s hI], hI⟩
 | succ k ih =>
  intro i n s hi hI hn
  obtain ⟨n, rfl⟩ : ∃ n', n = n' + 1 := ⟨n - 1, by omega⟩
  obtain ⟨s', h1, h2⟩ := hs s i (by omega) hI
  simp only [lpN, h1]
  exact ih (i + 1) n s' (by omega) h2 (by omega)
theorem lp_uptoE {σ ρ τ : Type} {body : τ → Option (τ ⊕ ρ)} (N : Nat) (mk : σ → Int → τ) (fin : σ → ρ) (I : Nat → σ → Prop)
  (hs : ∀ s i, i < N → I i s → ∃ s', body (mk s (i : Int)) = some (.inl (mk s' ((i + 1 : Nat) : Int))) ∧ I (i + 1) s') (he : ∀ s, I N s → body (mk s (N : Int)) = some (.inr (fin s)))
  {n : Nat} {s : σ} (hI : I 0 s) (hn : N < n) : ∃ s', lpN body n (mk s 0) = some (fin s') ∧ I N s' :=
 lp_fromE N mk fin I hs he N 0 n s (by omega) hI hn
theorem L45_1_eq (n0 x : Nat) (hx : x < 2 ^ 64) (M : Nat) (hM : M ≤ 64) (n : Nat) (hn : 64 < n) :
  ∃ L, lpN (L45_1 n0 (M : Int) x) n (([] : List Int), List.replicate M 0, 0) = some ((lowB x M).map fun (k : Nat) => (k : Int), L) ∧ L.length = M ∧ ∀ v : Nat, v < M → L[v]? = some ((rk x v : Nat) : Int) := by
 have := lp_uptoE (body := L45_1 n0 (M : Int) x) M (fun (s : List Int × List Int) (v : Int) => (s.1, s.2, v)) (fun s => s)
  (fun k s => s.1 = (lowB x k).map (fun (k : Nat) => (k : Int)) ∧ s.2.length = M ∧ ∀ v, v < k → s.2[v]? = some ((rk x v : Nat) : Int))
  (fun s k hk hI => ?_) (fun s hI => ?_) (n := n) (s := ([], List.replicate M 0)) ⟨rfl, by simp, fun v h => absurd h (Nat.not_lt_zero _)⟩ (by omega)
 ·obtain ⟨s, h1, h2, h3, h4⟩ := this
  exact ⟨s.2, by rw [← h2]; exact h1, h3, h4⟩
 ·obtain ⟨h2, h3, h4⟩ := hI
  have hl : s.1.length = rk x k := by rw [h2, List.length_map]; rfl
  have hle : rk x k ≤ k := low_len _ _
  refine ⟨(s.1 ++ (if x.testBit k then [(k : Int)] else []), s.2.set k (s.1.length : Int)), ?_, ?_, by simpa using h3, fun v hv => ?_⟩
  ·unfold L45_1
   have hg : s.2[k]? = some (s.2[k]'(by omega)) := List.getElem?_eq_getElem (by omega)
   simp only [decide_eq_true (show ((k : Nat) : Int) < (M : Int) by omega), br_t, Int.toNat_natCast, inB_nat hk, gd_t, hg, ob_s, F67_eq n0 x k hx (by omega), wrap_succ (show k < 4611686018427387904 by omega)]
   by_cases hb : x.testBit k
   ·rw [hb, br_t, lim_of (by simp; omega), gd_t, ob_s, if_pos rfl]
   ·rw [Bool.not_eq_true] at hb
    rw [hb, br_f, ob_s]; simp
  ·show s.1 ++ _ = _
   rw [low_succ, List.map_append, h2]
   by_cases hb : x.testBit k <;> simp [hb]
  ·show (s.2.set k (s.1.length : Int))[v]? = _
   rw [List.getElem?_set]
   by_cases e : k = v
   ·subst e; rw [if_pos rfl, if_pos (by omega), hl]
   ·rw [if_neg e]; exact h4 v (by omega)
 ·unfold L45_1
  simp [br]
def indS (x : Nat) (s : List (Int × Int)) (e : Int × Int) : List (Int × Int) :=
 if x.testBit e.1.toNat && x.testBit e.2.toNat then s ++ [((rk x e.1.toNat : Int), (rk x e.2.toNat : Int))] else s
theorem indS_len (x : Nat) (s : List (Int × Int)) (e : Int × Int) : (indS x s e).length ≤ s.length + 1 := by
 unfold indS; split <;> simp
theorem L21_2_eq (n0 x M : Nat) (es : List (Int × Int)) (T : List (Int × Int)) (hx : x < 2 ^ 64) (h : Okay M es) (hT : ∀ v : Nat, x.testBit v = true → mget T (v : Int) = some ((rk x v : Nat) : Int)) (n : Nat) (hn : 200 < n) :
  lpN (L21_2 n0 es x T) n (([] : List (Int × Int)), 0) = some (es.foldl (indS x) []) ∧ (es.foldl (indS x) []).length ≤ es.length := by
 have hl := h.len
 have := lp_list0 (body := L21_2 n0 es x T) es (fun (s : List (Int × Int)) (v : Int) => (s, v)) (indS x) id (fun k s => s.length ≤ k) (fun s k e hk hI => ?_) (fun s _ => ?_) (n := n) (s := []) (by simp) (by omega)
 ·exact this
 ·obtain ⟨a, b, rfl, hab, hb⟩ := h.mem e (List.mem_of_getElem? hk)
  have hM := h.le
  have hlt := (List.getElem?_eq_some_iff.1 hk).1
  refine ⟨?_, Nat.le_trans (indS_len _ _ _) (by omega)⟩
  unfold L21_2
  simp only [decide_eq_true (show ((k : Nat) : Int) < (es.length : Int) by omega), br_t, Int.toNat_natCast, inB_nat hlt, gd_t, hk, ob_s, F57_eq n0 x a hx (by omega), F57_eq n0 x b hx (by omega), wrap_succ (show k < 4611686018427387904 by omega), indS]
  by_cases ha : x.testBit a
  ·by_cases hb' : x.testBit b
   ·simp only [ha, hb', br_t, ob_s, hT a ha, hT b hb', Option.getD_some, Bool.and_self, if_true]
    rw [lim_of (by simp; omega), gd_t, ob_s]
   ·rw [Bool.not_eq_true] at hb'
    simp only [ha, hb', br_t, br_f, ob_s, Bool.and_false, Bool.false_eq_true, if_false]
  ·rw [Bool.not_eq_true] at ha
   simp only [ha, br_f, ob_s, Bool.false_and, Bool.false_eq_true, if_false]
 ·unfold L21_2
  simp [br]
theorem L45_2_eq (n0 x M : Nat) (es : List (Int × Int)) (L : List Int) (hx : x < 2 ^ 64) (h : Okay M es) (hL : L.length = M) (hg : ∀ v : Nat, v < M → L[v]? = some ((rk x v : Nat) : Int)) (n : Nat) (hn : 200 < n) :
  lpN (L45_2 n0 es x (M : Int) L) n (([] : List (Int × Int)), 0) = some (es.foldl (indS x) []) := by
 have hl := h.len
 have := lp_list0 (body := L45_2 n0 es x (M : Int) L) es (fun (s : List (Int × Int)) (v : Int) => (s, v)) (indS x) id (fun k s => s.length ≤ k) (fun s k e hk hI => ?_) (fun s _ => ?_) (n := n) (s := []) (by simp) (by omega)
 ·exact this.1
 ·obtain ⟨a, b, rfl, hab, hb⟩ := h.mem e (List.mem_of_getElem? hk)
  have hM := h.le
  have hlt := (List.getElem?_eq_some_iff.1 hk).1
  refine ⟨?_, Nat.le_trans (indS_len _ _ _) (by omega)⟩
  unfold L45_2
  simp only [decide_eq_true (show ((k : Nat) : Int) < (es.length : Int) by omega), br_t, Int.toNat_natCast, inB_nat hlt, gd_t, hk, ob_s, F67_eq n0 x a hx (by omega), F67_eq n0 x b hx (by omega), wrap_succ (show k < 4611686018427387904 by omega), indS]
  by_cases ha : x.testBit a
  ·by_cases hb' : x.testBit b
   ·simp only [ha, hb', br_t, ob_s, inB_nat (show a < M by omega), inB_nat hb, gd_t, hg a (by omega), hg b hb, Bool.and_self, if_true]
    rw [lim_of (by simp; omega), gd_t, ob_s]
   ·rw [Bool.not_eq_true] at hb'
    simp only [ha, hb', br_t, br_f, ob_s, Bool.and_false, Bool.false_eq_true, if_false]
  ·rw [Bool.not_eq_true] at ha
   simp only [ha, br_f, ob_s, Bool.false_and, Bool.false_eq_true, if_false]
 ·unfold L45_2
  simp [br]
theorem ind_both (n : Nat) (N : Int) (es : List (Int × Int)) (x : Nat) (hx : x < 2 ^ 64) (hn : 300 < n) (hl : es.length < 4611686018427387904) (hk : es.length < n) :
  ∃ k l o c, F21 n N es x = some (k, l, o, c) ∧ F45 n N es x = some (k, l, o, c) ∧ l.length ≤ es.length ∧ o.length ≤ 64 := by
 by_cases hc : ckF N es x = 0
 ·obtain ⟨M, rfl, h, hxM⟩ := ckF_ok hc
  have hM := h.le
  have hpos := h.pos
  by_cases h0 : x = 0
  ·refine ⟨0, [], [], 2, ?_, ?_, by simp, by simp⟩
   ·unfold F21; rw [F55_eq n _ es x hx (by omega) hl hk, ob_s, hc]; simp [h0, br]
   ·unfold F45; rw [F66_eq n _ es x hx hl hk, ob_s, hc]; simp [h0, br]
  ·obtain ⟨T, t1, t2⟩ := L21_1_eq n x hx M hM hxM n (by omega)
   obtain ⟨L, l1, l2, l3⟩ := L45_1_eq n x hx M hM n (by omega)
   obtain ⟨a1, a2⟩ := L21_2_eq n x M es T hx h t2 n (by omega)
   have b1 := L45_2_eq n x M es L hx h l2 l3 n (by omega)
   refine ⟨(((lowB x M).map fun (k : Nat) => (k : Int)).length : Int), es.foldl (indS x) [], (lowB x M).map fun (k : Nat) => (k : Int), 0, ?_, ?_, a2, ?_⟩
   ·unfold F21
    rw [F55_eq n _ es x hx (by omega) hl hk, ob_s, hc]
    simp only [decide_true, Bool.not_true, br_f, decide_eq_false h0, ob_s, t1, a1]
   ·unfold F45
    rw [F66_eq n _ es x hx hl hk, ob_s, hc]
    simp only [decide_true, Bool.not_true, br_f, decide_eq_false h0, Int.toNat_natCast, decide_eq_true (show (0 : Int) ≤ (M : Int) by omega), gd_t, lim_of (show M ≤ 1073741824 by omega), ob_s, l1, b1]
   ·have := low_len x M
    simp; omega
 ·refine ⟨0, [], [], ckF N es x, ?_, ?_, by simp, by simp⟩
  ·unfold F21; rw [F55_eq n _ es x hx (by omega) hl hk, ob_s]; simp [hc, br]
  ·unfold F45; rw [F66_eq n _ es x hx hl hk, ob_s]; simp [hc, br]
theorem F39_refl (n : Nat) (l : List Int) (hl : l.length ≤ 64) (hn : 64 < n) : F39 n l l = some true := by
 have := lp_uptoE (body := L39_1 n l l) l.length (fun (_ : Unit) (v : Int) => v) (fun _ => (Sum.inr () : Unit ⊕ Unit)) (fun _ _ => True) (fun s k hk _ => ⟨(), ?_, trivial⟩) (fun s _ => ?_) (n := n) (s := ()) trivial (by omega)
 ·obtain ⟨_, h1, _⟩ := this
  unfold F39
  simp only [decide_true, Bool.not_true, br_f, h1, ob_s]
 ·unfold L39_1
  simp only [decide_eq_true (show ((k : Nat) : Int) < (l.length : Int) by omega), br_t, Int.toNat_natCast, inB_nat hk, gd_t, List.getElem?_eq_getElem hk, ob_s, decide_true, Bool.not_true, br_f, wrap_succ (show k < 4611686018427387904 by omega)]
 ·unfold L39_1
  simp [br]
end Go.Proofs.YtpclggcpobakhaaDoor
end

section
namespace Go.Proofs.YtpclggcpobakhaaDoor
open Go Go.Ab Go.Ab.W
theorem lp_listX {α σ ρ τ : Type} {body : τ → Option (τ ⊕ ρ)} (l : List α) (mk : σ → Int → τ) (bad : α → Bool) (rb : ρ) (fin : σ → ρ) (I : Nat → σ → Prop)
  (hs : ∀ s i x, l[i]? = some x → I i s → bad x = false → ∃ s', body (mk s (i : Int)) = some (.inl (mk s' ((i + 1 : Nat) : Int))) ∧ I (i + 1) s')
  (hb : ∀ s i x, l[i]? = some x → I i s → bad x = true → body (mk s (i : Int)) = some (.inr rb)) (he : ∀ s, I l.length s → body (mk s (l.length : Int)) = some (.inr (fin s))) :
  ∀ (k i n : Nat) (s : σ), i + k = l.length → I i s → k < n → ((l.drop i).any bad = true ∧ lpN body n (mk s (i : Int)) = some rb) ∨ ((l.drop i).any bad = false ∧ ∃ s', lpN body n (mk s (i : Int)) = some (fin s') ∧ I l.length s') := by
 intro k
 induction k with
 | zero =>
  intro i n s hi hI hn
  obtain ⟨n, rfl⟩ : ∃ n', n = n' + 1 := ⟨n - 1, by omega⟩
  have : i = l.length := by omega
  subst this
  rw [List.drop_length]
  exact .inr ⟨rfl, s, by simp only [lpN, he s hI], hI⟩
 | succ k ih =>
  intro i n s hi hI hn
  obtain ⟨n, rfl⟩ : ∃ n', n = n' + 1 := ⟨n - 1, by omega⟩
  have hlt : i < l.length := by omega
  rw [List.drop_eq_getElem_cons hlt, List.any_cons]
  cases hbd : bad l[i] with
  | true => exact .inl ⟨rfl, by simp only [lpN, hb s i l[i] (List.getElem?_eq_getElem hlt) hI hbd]⟩
  | false =>
   obtain ⟨s', h1, h2⟩ := hs s i l[i] (List.getElem?_eq_getElem hlt) hI hbd
   simp only [lpN, h1, Bool.false_or]
   exact ih (i + 1) n s' (by omega) h2 (by omega)
theorem lp_listX0 {α σ ρ τ : Type} {body : τ → Option (τ ⊕ ρ)} (l : List α) (mk : σ → Int → τ) (bad : α → Bool) (rb : ρ) (fin : σ → ρ) (I : Nat → σ → Prop)
  (hs : ∀ s i x, l[i]? = some x → I i s → bad x = false → ∃ s', body (mk s (i : Int)) = some (.inl (mk s' ((i + 1 : Nat) : Int))) ∧ I (i + 1) s')
  (hb : ∀ s i x, l[i]? = some x → I i s → bad x = true → body (mk s (i : Int)) = some (.inr rb)) (he : ∀ s, I l.length s → body (mk s (l.length : Int)) = some (.inr (fin s)))
  {n : Nat} {s : σ} (hI : I 0 s) (hn : l.length < n) : (l.any bad = true ∧ lpN body n (mk s 0) = some rb) ∨ (l.any bad = false ∧ ∃ s', lpN body n (mk s 0) = some (fin s') ∧ I l.length s') := by
 have := lp_listX l mk bad rb fin I hs hb he l.length 0 n s (by omega) hI hn
 simpa using this
def badL (M : Nat) (x : Int) : Bool := decide (x < 0) || decide ((M : Int) ≤ x)
def maskOf (l : List Int) : Nat := l.foldl (fun s x => s ||| 2 ^ x.toNat) 0
theorem maskOf_take {l : List Int} {i : Nat} {x : Int} (h : l[i]? = some x) : maskOf (l.take (i + 1)) = maskOf (l.take i) ||| 2 ^ x.toNat := by
 unfold maskOf
 rw [List.take_add_one, h, List.foldl_append]; rfl
theorem mask_bit {l : List Int} {x : Int} (h : x ∈ l) : (maskOf l).testBit x.toNat = true := by
 have key : ∀ (l : List Int) (s : Nat), (s.testBit x.toNat = true ∨ x ∈ l) → (l.foldl (fun s x => s ||| 2 ^ x.toNat) s).testBit x.toNat = true := by
  intro l
  induction l with
  | nil => intro s hs; rcases hs with hs | hs
           ·exact hs
           ·cases hs
  | cons y l ih =>
   intro s hs
   rw [List.foldl_cons]
   refine ih _ ?_
   rcases hs with hs | hs
   ·left; rw [Nat.testBit_or, hs, Bool.true_or]
   ·rcases List.mem_cons.1 hs with rfl | hs
    ·left; rw [Nat.testBit_or, tb_one]; simp
    ·exact .inr hs
 exact key l 0 (.inr h)
theorem bl_or (s k : Nat) : bl (s ||| 2 ^ k) = max (bl s) (k + 1) := by
 refine (bl_unique fun j => ?_).symm
 have hj : j < k + 1 ↔ 2 ^ j ≤ 2 ^ k := by
  rw [Nat.lt_succ_iff]; exact (Nat.pow_le_pow_iff_right (by decide)).symm
 have hmx : j < max (bl s) (k + 1) ↔ j < bl s ∨ j < k + 1 := by omega
 rw [hmx, lt_bl, hj]
 constructor
 ·rintro (h | h)
  ·exact Nat.le_trans h Nat.left_le_or
  ·exact Nat.le_trans h Nat.right_le_or
 ·intro h
  apply Classical.byContradiction
  intro hno
  have h1 : s < 2 ^ j := by omega
  have h2 : 2 ^ k < 2 ^ j := by omega
  have := Nat.or_lt_two_pow h1 h2
  omega
theorem L22_1_eq (n0 M : Nat) (l6 : List Int) (hM : M ≤ 64) (hl : l6.length = M) (n : Nat) (hn : 64 < n) :
  (l6.any (badL M) = true ∧ lpN (L22_1 n0 l6 (M : Int)) n (0, 0) = some (.inl ())) ∨ (l6.any (badL M) = false ∧ lpN (L22_1 n0 l6 (M : Int)) n (0, 0) = some (.inr (maskOf l6)) ∧ maskOf l6 < 2 ^ 64) := by
 have := lp_listX0 (body := L22_1 n0 l6 (M : Int)) l6 (fun (s : Nat) (v : Int) => (s, v)) (badL M) (.inl ()) (fun s => .inr s) (fun i s => s = maskOf (l6.take i) ∧ s < 2 ^ 64) (fun s i x hi hI hb => ?_) (fun s i x hi hI hb => ?_) (fun s hI => ?_) (n := n) (s := 0) ⟨rfl, by decide⟩ (by omega)
 ·rcases this with h | ⟨h1, s, h2, h3, h4⟩
  ·exact .inl h
  ·rw [List.take_length] at h3
   subst h3
   exact .inr ⟨h1, h2, h4⟩
 ·obtain ⟨h1, h2⟩ := hI
  have hlt := (List.getElem?_eq_some_iff.1 hi).1
  simp only [badL, Bool.or_eq_false_iff, decide_eq_false_iff_not] at hb
  obtain ⟨b1, b2⟩ := hb
  have hx : x.toNat < 64 := by omega
  refine ⟨s ||| 2 ^ x.toNat, ?_, ?_, or_lt' h2 (one_lt hx)⟩
  ·unfold L22_1
   simp only [decide_eq_true (show ((i : Nat) : Int) < (l6.length : Int) by omega), br_t, Int.toNat_natCast, inB_nat hlt, gd_t, hi, ob_s, decide_eq_false b1, br_f, decide_eq_false b2, decide_eq_true (show (0 : Int) ≤ x by omega), word_one hx, word_or h2 (one_lt hx), wrap_succ (show i < 4611686018427387904 by omega)]
  ·rw [maskOf_take hi, h1]
 ·have hlt := (List.getElem?_eq_some_iff.1 hi).1
  simp only [badL, Bool.or_eq_true, decide_eq_true_eq] at hb
  unfold L22_1
  simp only [decide_eq_true (show ((i : Nat) : Int) < (l6.length : Int) by omega), br_t, Int.toNat_natCast, inB_nat hlt, gd_t, hi, ob_s]
  by_cases h : x < 0
  ·simp [h, br, ob]
  ·have h2 : (M : Int) ≤ x := by omega
   simp [h, h2, br, ob]
 ·unfold L22_1
  simp [br]
theorem L47_1_eq (n0 M : Nat) (l6 : List Int) (hM : M ≤ 64) (hl : l6.length = M) (n : Nat) (hn : 64 < n) :
  (l6.any (badL M) = true ∧ lpN (L47_1 n0 (M : Int) l6) n (0, 0, 0) = some (.inl ())) ∨ (l6.any (badL M) = false ∧ lpN (L47_1 n0 (M : Int) l6) n (0, 0, 0) = some (.inr ((bl (maskOf l6) : Int), maskOf l6))) := by
 have := lp_listX0 (body := L47_1 n0 (M : Int) l6) l6 (fun (s : Int × Nat) (v : Int) => (s.1, s.2, v)) (badL M) (.inl ()) (fun s => .inr s) (fun i s => s.2 = maskOf (l6.take i) ∧ s.2 < 2 ^ 64 ∧ s.1 = (bl s.2 : Int)) (fun s i x hi hI hb => ?_) (fun s i x hi hI hb => ?_) (fun s hI => ?_) (n := n) (s := (0, 0)) ⟨rfl, by decide, rfl⟩ (by omega)
 ·rcases this with h | ⟨h1, s, h2, h3, h4, h5⟩
  ·exact .inl h
  ·rw [List.take_length] at h3
   refine .inr ⟨h1, ?_⟩
   rw [← h3, ← h5]; exact h2
 ·obtain ⟨h1, h2, h3⟩ := hI
  have hlt := (List.getElem?_eq_some_iff.1 hi).1
  simp only [badL, Bool.or_eq_false_iff, decide_eq_false_iff_not] at hb
  obtain ⟨b1, b2⟩ := hb
  have hx : x.toNat < 64 := by omega
  obtain ⟨c, rfl⟩ := Int.eq_ofNat_of_zero_le (show 0 ≤ x by omega)
  simp only [Int.toNat_natCast] at hx
  refine ⟨(ma s.1 ((c + 1 : Nat) : Int), s.2 ||| 2 ^ c), ?_, ?_, or_lt' h2 (one_lt hx), ?_⟩
  ·unfold L47_1
   simp only [decide_eq_true (show ((i : Nat) : Int) < (M : Int) by omega), br_t, Int.toNat_natCast, inB_nat hlt, gd_t, hi, ob_s, decide_eq_false b1, br_f, decide_eq_false b2, F68_eq n0 c hx, word_or h2 (one_lt hx), wrap_succ (show i < 4611686018427387904 by omega), wrap_succ (show c < 4611686018427387904 by omega)]
  ·rw [maskOf_take hi, ← h1]; rfl
  ·show ma s.1 ((c + 1 : Nat) : Int) = _
   rw [bl_or, h3]
   unfold ma
   split <;> omega
 ·have hlt := (List.getElem?_eq_some_iff.1 hi).1
  simp only [badL, Bool.or_eq_true, decide_eq_true_eq] at hb
  unfold L47_1
  simp only [decide_eq_true (show ((i : Nat) : Int) < (M : Int) by omega), br_t, Int.toNat_natCast, inB_nat hlt, gd_t, hi, ob_s]
  by_cases h : x < 0
  ·simp [h, br, ob]
  ·have h2 : (M : Int) ≤ x := by omega
   simp [h, h2, br, ob]
 ·unfold L47_1
  simp [br, hl]
theorem F72_eq (n x : Nat) (hx : x < 2 ^ 64) (hn : 64 < n) : F72 n x = some ((rk x 64 : Nat) : Int) := by
 have := lp_uptoE (body := L72_1 n x) 64 (fun (s : Int) (v : Int) => (s, v)) id (fun i s => s = ((rk x i : Nat) : Int)) (fun s i hi hI => ?_) (fun s _ => ?_) (n := n) (s := 0) rfl hn
 ·obtain ⟨s, h1, h2⟩ := this
  unfold F72
  simp only [h1, ob_s, id, h2]
 ·subst hI
  have hle : rk x i ≤ i := low_len _ _
  refine ⟨((rk x (i + 1) : Nat) : Int), ?_, rfl⟩
  unfold L72_1
  simp only [decide_eq_true (show ((i : Nat) : Int) < 64 by omega), br_t, F67_eq n x i hx hi, ob_s, wrap_succ (show i < 4611686018427387904 by omega)]
  have e : rk x (i + 1) = rk x i + (if x.testBit i then 1 else 0) := by
   unfold rk; rw [low_succ, List.length_append]; split <;> simp
  rw [e]
  by_cases hb : x.testBit i
  ·rw [hb, br_t, wrap_succ (by omega), ob_s, if_pos rfl]
  ·rw [Bool.not_eq_true] at hb
   rw [hb, br_f, ob_s]; simp
 ·unfold L72_1
  simp [br]
def Full (x : Nat) : Prop := ∀ i, i < bl x → x.testBit i = true
theorem lt_two_bl (x : Nat) : x < 2 ^ bl x := Nat.lt_of_not_le fun h => absurd (lt_bl.2 h) (Nat.lt_irrefl _)
theorem above_bl {x i : Nat} (h : bl x ≤ i) : x.testBit i = false := Nat.testBit_lt_two_pow (Nat.lt_of_lt_of_le (lt_two_bl x) (Nat.pow_le_pow_right (by decide) h))
theorem full_rk {x : Nat} (hx : x < 2 ^ 64) : rk x 64 = bl x ↔ Full x := by
 have e : lowB x 64 = lowB x (bl x) := filter_gap (bl_le hx) fun i h _ => above_bl h
 unfold rk
 rw [e]
 unfold lowB Full
 have := List.length_filter_eq_length_iff (p := fun i => x.testBit i) (l := List.range (bl x))
 rw [List.length_range] at this
 rw [this]
 simp
theorem full_and {x : Nat} (hx : x < 2 ^ 64) : uw .u64 (uw .u64 x &&& uw .u64 (uw .u64 (x + 1))) = 0 ↔ Full x := by
 rw [uw_id hx]
 constructor
 ·intro h
  apply Classical.byContradiction
  intro hno
  unfold Full at hno
  simp only [Classical.not_forall] at hno
  obtain ⟨i, hi, hb⟩ := hno
  rw [Bool.not_eq_true] at hb
  have hx0 : x ≠ 0 := fun e => by subst e; simp [bl] at hi
  obtain ⟨t, ht, htb⟩ : ∃ t, bl x = t + 1 ∧ x.testBit t = true := by
   have h1 : 2 ^ Nat.log2 x ≤ x := ((Nat.log2_eq_iff hx0).1 rfl).1
   have hbl : bl x = Nat.log2 x + 1 := by unfold bl; rw [if_neg hx0]
   refine ⟨Nat.log2 x, hbl, ?_⟩
   apply Classical.byContradiction
   intro hno
   rw [Bool.not_eq_true] at hno
   have : x < 2 ^ Nat.log2 x := Nat.lt_pow_two_of_testBit x fun j hj => by
    by_cases e : j = Nat.log2 x
    ·rw [e]; exact hno
    ·exact above_bl (by omega)
   omega
  have hlt := lt_two_bl x
  rw [ht] at hlt hi
  have hge : 2 ^ t ≤ x := lt_bl.1 (by omega)
  have hne : x + 1 ≠ 2 ^ (t + 1) := fun e => by
   have : x = 2 ^ (t + 1) - 1 := by omega
   rw [this, Nat.testBit_two_pow_sub_one] at hb
   simp at hb; omega
  have hy : x + 1 < 2 ^ (t + 1) := by omega
  have ht64 : t + 1 ≤ 64 := by rw [← ht]; exact bl_le hx
  have hy64 : x + 1 < 2 ^ 64 := Nat.lt_of_lt_of_le hy (Nat.pow_le_pow_right (by decide) ht64)
  have hyb : (x + 1).testBit t = true := by
   apply Classical.byContradiction
   intro hno
   rw [Bool.not_eq_true] at hno
   have : x + 1 < 2 ^ t := Nat.lt_pow_two_of_testBit _ fun j hj => by
    by_cases e : j = t
    ·rw [e]; exact hno
    ·exact Nat.testBit_lt_two_pow (Nat.lt_of_lt_of_le hy (Nat.pow_le_pow_right (by decide) (by omega)))
   omega
  rw [uw_id hy64, uw_id hy64, uw_id (and_lt' hx)] at h
  have := congrArg (fun z => z.testBit t) h
  simp [Nat.testBit_and, htb, hyb] at this
 ·intro hF
  have hK := bl_le hx
  have e : x = 2 ^ bl x - 1 := Nat.eq_of_testBit_eq fun i => by
   rw [Nat.testBit_two_pow_sub_one]
   by_cases h : i < bl x
   ·rw [hF i h]; simp [h]
   ·rw [above_bl (by omega)]; simp [h]
  have hp := Nat.two_pow_pos (bl x)
  have e1 : x + 1 = 2 ^ bl x := by omega
  rw [e1]
  by_cases h64 : bl x = 64
  ·rw [h64]
   have : uw .u64 (uw .u64 (2 ^ 64)) = 0 := rfl
   rw [this, Nat.and_zero]; rfl
  ·have hb : 2 ^ bl x < 2 ^ 64 := one_lt (by omega)
   rw [uw_id hb, uw_id hb, uw_id (and_lt' hx)]
   refine Nat.eq_of_testBit_eq fun i => ?_
   rw [Nat.testBit_and, tb_one, Nat.zero_testBit]
   by_cases h : i = bl x
   ·rw [h, above_bl (Nat.le_refl _)]; rfl
   ·simp [h]
end Go.Proofs.YtpclggcpobakhaaDoor
end

section
namespace Go.Proofs.YtpclggcpobakhaaDoor
open Go Go.Ab Go.Ab.W
def lb (l : List Int) (a : Nat) : Nat := ((l[a]?).getD 0).toNat
def Jn (l : List Int) (es : List (Int × Int)) (i j : Nat) : Prop := ∃ a b : Nat, ((a : Int), (b : Int)) ∈ es ∧ ((lb l a = i ∧ lb l b = j) ∨ (lb l a = j ∧ lb l b = i))
def lexLt (p q : Int × Int) : Prop := p.1 < q.1 ∨ p.1 = q.1 ∧ p.2 < q.2
theorem asc_ext : ∀ {l m : List (Int × Int)}, l.Pairwise lexLt → m.Pairwise lexLt → (∀ p, p ∈ l ↔ p ∈ m) → l = m
 | [], [], _, _, _ => rfl
 | [], q :: m, _, _, h => absurd ((h q).2 (by simp)) (by simp)
 | p :: l, [], _, _, h => absurd ((h p).1 (by simp)) (by simp)
 | p :: l, q :: m, hl, hm, h => by
  obtain ⟨h1, h2⟩ := List.pairwise_cons.1 hl
  obtain ⟨h3, h4⟩ := List.pairwise_cons.1 hm
  have irr : ∀ x, ¬ lexLt x x := fun x hx => by unfold lexLt at hx; omega
  have asy : ∀ x y, lexLt x y → ¬ lexLt y x := fun x y a b => by unfold lexLt at *; omega
  have e : p = q := by
   have hp := (h p).1 (by simp)
   have hq := (h q).2 (by simp)
   rcases List.mem_cons.1 hp with e | hp
   ·exact e
   ·rcases List.mem_cons.1 hq with e | hq
    ·exact e.symm
    ·exact absurd (h3 p hp) (asy _ _ (h1 q hq))
  subst e
  have : l = m := asc_ext h2 h4 fun x => by
   constructor
   ·intro hx
    rcases List.mem_cons.1 ((h x).1 (by simp [hx])) with e | h'
    ·subst e; exact absurd (h1 x hx) (irr x)
    ·exact h'
   ·intro hx
    rcases List.mem_cons.1 ((h x).2 (by simp [hx])) with e | h'
    ·subst e; exact absurd (h3 x hx) (irr x)
    ·exact h'
  rw [this]
theorem sort_asc {l : List (Int × Int)} (h : l.Nodup) : (l.mergeSort lexLe).Pairwise lexLt ∧ ∀ p, p ∈ l.mergeSort lexLe ↔ p ∈ l := by
 have hp := List.mergeSort_perm l lexLe
 refine ⟨?_, fun p => hp.mem_iff⟩
 have h1 : (l.mergeSort lexLe).Pairwise (fun a b => lexLe a b = true) := List.pairwise_mergeSort (fun a b c h1 h2 => by
  unfold lexLe at *; simp only [decide_eq_true_eq] at *; omega) (fun a b => by
  unfold lexLe; simp only [Bool.or_eq_true, decide_eq_true_eq]; omega) l
 have h2 : (l.mergeSort lexLe).Nodup := hp.nodup_iff.2 h
 have := h1.and h2
 refine this.imp fun {a b} ⟨g1, g2⟩ => ?_
 unfold lexLe at g1
 simp only [decide_eq_true_eq] at g1
 unfold lexLt
 by_cases e : a.1 = b.1 ∧ a.2 = b.2
 ·exact absurd (Prod.ext e.1 e.2) g2
 ·omega
section
variable {n0 M : Nat} {l6 : List Int} {es : List (Int × Int)}
theorem lab_at (hl : l6.length = M) (hb : l6.any (badL M) = false) {a : Nat} (ha : a < M) : l6[a]? = some ((lb l6 a : Nat) : Int) ∧ lb l6 a < M ∧ lb l6 a < bl (maskOf l6) := by
 have hlt : a < l6.length := by omega
 have hg := List.getElem?_eq_getElem hlt
 have hm : l6[a] ∈ l6 := List.getElem_mem hlt
 have := List.any_eq_false.1 hb _ hm
 simp only [badL, Bool.or_eq_true, decide_eq_true_eq] at this
 have h0 : 0 ≤ l6[a] := by omega
 have e : lb l6 a = l6[a].toNat := by unfold lb; rw [hg]; rfl
 have hbit := mask_bit hm
 refine ⟨by rw [hg, e, Int.toNat_of_nonneg h0], by rw [e]; omega, ?_⟩
 rw [e]
 refine Nat.lt_of_not_le fun hle => ?_
 rw [above_bl hle] at hbit; cases hbit
theorem L22_2_eq (l : List (Int × Int)) (x y : Int) (hl : l.length ≤ 200) (n : Nat) (hn : 200 < n) :
  lpN (L22_2 n0 l x y) n 0 = some (if (mi x y, ma x y) ∈ l then .inl () else .inr ()) := by
 have := lp_listX0 (body := L22_2 n0 l x y) l (fun (_ : Unit) (v : Int) => v) (fun e => decide (e.1 = mi x y) && decide (e.2 = ma x y)) (.inl ()) (fun _ => (Sum.inr () : Unit ⊕ Unit)) (fun _ _ => True) (fun s i e hi _ hb => ⟨(), ?_, trivial⟩) (fun s i e hi _ hb => ?_) (fun s _ => ?_) (n := n) (s := ()) trivial (by omega)
 ·have key : l.any (fun e => decide (e.1 = mi x y) && decide (e.2 = ma x y)) = true ↔ (mi x y, ma x y) ∈ l := by
   rw [List.any_eq_true]
   constructor
   ·rintro ⟨e, he, h⟩
    simp only [Bool.and_eq_true, decide_eq_true_eq] at h
    rw [← h.1, ← h.2]; exact he
   ·intro h; exact ⟨_, h, by simp⟩
  rcases this with ⟨h1, h2⟩ | ⟨h1, _, h2, _⟩
  ·rw [if_pos (key.1 h1)]; exact h2
  ·rw [if_neg (fun h => by rw [key.2 h] at h1; cases h1)]; exact h2
 ·have hlt := (List.getElem?_eq_some_iff.1 hi).1
  unfold L22_2
  simp only [decide_eq_true (show ((i : Nat) : Int) < (l.length : Int) by omega), br_t, Int.toNat_natCast, inB_nat hlt, gd_t, hi, ob_s, hb, br_f, wrap_succ (show i < 4611686018427387904 by omega)]
 ·have hlt := (List.getElem?_eq_some_iff.1 hi).1
  unfold L22_2
  simp only [decide_eq_true (show ((i : Nat) : Int) < (l.length : Int) by omega), br_t, Int.toNat_natCast, inB_nat hlt, gd_t, hi, ob_s, hb]
 ·unfold L22_2
  simp [br]
def prL (l : List Int) (e : Int × Int) : Int × Int := (mi (lb l e.1.toNat : Int) (lb l e.2.toNat : Int), ma (lb l e.1.toNat : Int) (lb l e.2.toNat : Int))
theorem L22_3_eq (h : Okay M es) (hl : l6.length = M) (hb : l6.any (badL M) = false) (n : Nat) (hn : 200 < n) (hn0 : 200 < n0) :
  ∃ s, lpN (L22_3 n0 es l6) n (([] : List (Int × Int)), 0) = some s ∧ s.length ≤ 200 ∧ s.Nodup ∧ ∀ p, p ∈ s ↔ ∃ e ∈ es, lb l6 e.1.toNat ≠ lb l6 e.2.toNat ∧ p = prL l6 e := by
 have hlen := h.len
 have hM := h.le
 have := lp_uptoE (body := L22_3 n0 es l6) es.length (fun (s : List (Int × Int)) (v : Int) => (s, v)) id (fun i s => s.length ≤ i ∧ s.Nodup ∧ ∀ p, p ∈ s ↔ ∃ e ∈ es.take i, lb l6 e.1.toNat ≠ lb l6 e.2.toNat ∧ p = prL l6 e) (fun s i hi hI => ?_) (fun s _ => ?_) (n := n) (s := []) ⟨by simp, List.nodup_nil, fun p => by simp⟩ (by omega)
 ·obtain ⟨s, h1, h2, h3, h4⟩ := this
  rw [List.take_length] at h4
  exact ⟨s, h1, by omega, h3, h4⟩
 ·obtain ⟨h2, h3, h4⟩ := hI
  have hg := List.getElem?_eq_getElem hi
  obtain ⟨a, b, e, hab, hbM⟩ := h.mem _ (List.getElem_mem hi)
  rw [e] at hg
  obtain ⟨a1, a2, _⟩ := lab_at hl hb (show a < M by omega)
  obtain ⟨b1, b2, _⟩ := lab_at hl hb hbM
  have htk : es.take (i + 1) = es.take i ++ [((a : Int), (b : Int))] := by rw [List.take_add_one, hg]; rfl
  have hstart : L22_3 n0 es l6 (s, (i : Int)) = ob (br (decide (((lb l6 a : Nat) : Int) = ((lb l6 b : Nat) : Int))) (some s) (ob (α := (Unit) ⊕ (Unit)) (lpN (L22_2 n0 s ((lb l6 a : Nat) : Int) ((lb l6 b : Nat) : Int)) n0 0) fun r354 => match r354 with
    | .inl _ => some s
    | .inr _ => gd (lim (s ++ [prL l6 ((a : Int), (b : Int))]).length) (some (s ++ [prL l6 ((a : Int), (b : Int))])))) fun l311 => some (.inl (l311, ((i + 1 : Nat) : Int))) := by
   unfold L22_3
   simp only [decide_eq_true (show ((i : Nat) : Int) < (es.length : Int) by omega), br_t, Int.toNat_natCast, inB_nat hi, gd_t, hg, ob_s, inB_nat (show a < l6.length by omega), inB_nat (show b < l6.length by omega), a1, b1, wrap_succ (show i < 4611686018427387904 by omega), prL]
   rfl
  rw [hstart, L22_2_eq s _ _ (by omega) n0 hn0]
  by_cases heq : lb l6 a = lb l6 b
  ·refine ⟨s, by simp [heq, br, ob], by omega, h3, fun p => ?_⟩
   rw [h4, htk]
   simp only [List.mem_append, List.mem_singleton]
   constructor
   ·rintro ⟨e', he, h'⟩; exact ⟨e', .inl he, h'⟩
   ·rintro ⟨e', he | rfl, h1, h'⟩
    ·exact ⟨e', he, h1, h'⟩
    ·exact absurd heq h1
  ·have hne : ¬ (((lb l6 a : Nat) : Int) = ((lb l6 b : Nat) : Int)) := by omega
   by_cases hin : prL l6 ((a : Int), (b : Int)) ∈ s
   ·have hin' : (mi ((lb l6 a : Nat) : Int) ((lb l6 b : Nat) : Int), ma ((lb l6 a : Nat) : Int) ((lb l6 b : Nat) : Int)) ∈ s := hin
    refine ⟨s, by simp only [decide_eq_false hne, br_f, if_pos hin', ob_s], by omega, h3, fun p => ?_⟩
    rw [htk]
    simp only [List.mem_append, List.mem_singleton]
    constructor
    ·intro hp
     obtain ⟨e', he, h'⟩ := (h4 p).1 hp
     exact ⟨e', .inl he, h'⟩
    ·rintro ⟨e', he | rfl, h1, h'⟩
     ·exact (h4 p).2 ⟨e', he, h1, h'⟩
     ·rw [h']; exact hin
   ·have hin' : ¬ (mi ((lb l6 a : Nat) : Int) ((lb l6 b : Nat) : Int), ma ((lb l6 a : Nat) : Int) ((lb l6 b : Nat) : Int)) ∈ s := hin
    refine ⟨s ++ [prL l6 ((a : Int), (b : Int))], ?_, by simp; omega, ?_, fun p => ?_⟩
    ·simp only [decide_eq_false hne, br_f, if_neg hin', ob_s]
     rw [lim_of (by simp; omega), gd_t, ob_s]
    ·rw [List.nodup_append]
     exact ⟨h3, by simp, fun x hx y hy => by simp only [List.mem_singleton] at hy; subst hy; exact fun e => hin (e ▸ hx)⟩
    ·rw [htk]
     simp only [List.mem_append, List.mem_singleton]
     constructor
     ·rintro (hp | rfl)
      ·obtain ⟨e', he, h'⟩ := (h4 p).1 hp
       exact ⟨e', .inl he, h'⟩
      ·exact ⟨_, .inr rfl, heq, rfl⟩
     ·rintro ⟨e', he | rfl, h1, h'⟩
      ·exact .inl ((h4 p).2 ⟨e', he, h1, h'⟩)
      ·exact .inr h'
 ·unfold L22_3
  simp [br]
theorem dec_nat (p q : Nat) : decide ((p : Int) = (q : Int)) = decide (p = q) := by rw [decide_eq_decide]; omega
theorem L47_2_eq (h : Okay M es) (hl : l6.length = M) (hb : l6.any (badL M) = false) (i j : Nat) (n : Nat) (hn : 200 < n) :
  ∃ c : Bool, lpN (L47_2 n0 es l6 (i : Int) (j : Int)) n (false, 0) = some c ∧ (c = true ↔ Jn l6 es i j) := by
 have hlen := h.len
 have := lp_uptoE (body := L47_2 n0 es l6 (i : Int) (j : Int)) es.length (fun (s : Bool) (v : Int) => (s, v)) id (fun k s => s = true ↔ Jn l6 (es.take k) i j) (fun s k hk hI => ?_) (fun s _ => ?_) (n := n) (s := false) (by simp [Jn]) (by omega)
 ·obtain ⟨s, h1, h2⟩ := this
  rw [List.take_length] at h2
  exact ⟨s, h1, h2⟩
 ·have hg := List.getElem?_eq_getElem hk
  obtain ⟨a, b, e, hab, hbM⟩ := h.mem _ (List.getElem_mem hk)
  rw [e] at hg
  obtain ⟨a1, a2, _⟩ := lab_at hl hb (show a < M by omega)
  obtain ⟨b1, b2, _⟩ := lab_at hl hb hbM
  have htk : es.take (k + 1) = es.take k ++ [((a : Int), (b : Int))] := by rw [List.take_add_one, hg]; rfl
  refine ⟨s || (decide (lb l6 a = i) && decide (lb l6 b = j)) || (decide (lb l6 a = j) && decide (lb l6 b = i)), ?_, ?_⟩
  ·unfold L47_2
   simp only [decide_eq_true (show ((k : Nat) : Int) < (es.length : Int) by omega), br_t, Int.toNat_natCast, inB_nat hk, gd_t, hg, ob_s, inB_nat (show a < l6.length by omega), inB_nat (show b < l6.length by omega), a1, b1, wrap_succ (show k < 4611686018427387904 by omega), dec_nat]
   generalize decide (lb l6 a = i) = p1
   generalize decide (lb l6 b = j) = p2
   generalize decide (lb l6 a = j) = p3
   generalize decide (lb l6 b = i) = p4
   cases s <;> cases p1 <;> cases p2 <;> cases p3 <;> cases p4 <;> rfl
  ·rw [htk, Bool.or_eq_true, Bool.or_eq_true, hI]
   simp only [Bool.and_eq_true, decide_eq_true_eq]
   unfold Jn
   simp only [List.mem_append, List.mem_singleton, Prod.mk.injEq, Int.natCast_inj]
   constructor
   ·rintro ((⟨a', b', hm, hc⟩ | hc) | hc)
    ·exact ⟨a', b', .inl hm, hc⟩
    ·exact ⟨a, b, .inr ⟨rfl, rfl⟩, .inl hc⟩
    ·exact ⟨a, b, .inr ⟨rfl, rfl⟩, .inr hc⟩
   ·rintro ⟨a', b', hm | ⟨rfl, rfl⟩, hc⟩
    ·exact .inl (.inl ⟨a', b', hm, hc⟩)
    ·rcases hc with hc | hc
     ·exact .inl (.inr hc)
     ·exact .inr hc
 ·unfold L47_2
  simp [br]
def Laid (l : List Int) (es : List (Int × Int)) (K a b : Nat) (s : List (Int × Int)) : Prop :=
 s.Pairwise lexLt ∧ ∀ p, p ∈ s ↔ ∃ i j : Nat, p = ((i : Int), (j : Int)) ∧ i < j ∧ j < K ∧ Jn l es i j ∧ (i < a ∨ (i = a ∧ j < b))
theorem L47_3_eq (h : Okay M es) (hl : l6.length = M) (hb : l6.any (badL M) = false) (K a : Nat) (hK : K ≤ 64) (ha : a < K) (s0 : List (Int × Int)) (h0 : Laid l6 es K a (a + 1) s0) (hs0 : s0.length ≤ a * 64) (n : Nat) (hn : 200 < n) (hn0 : 200 < n0) :
  ∃ s, lpN (L47_3 n0 (K : Int) es l6 (a : Int)) n (s0, ((a + 1 : Nat) : Int)) = some s ∧ Laid l6 es K (a + 1) (a + 2) s ∧ s.length ≤ (a + 1) * 64 := by
 have := lp_fromE (body := L47_3 n0 (K : Int) es l6 (a : Int)) K (fun (s : List (Int × Int)) (v : Int) => (s, v)) id (fun b s => a < b ∧ Laid l6 es K a b s ∧ s.length ≤ a * 64 + b) (fun s b hbK hI => ?_) (fun s _ => ?_) (K - (a + 1)) (a + 1) n s0 (by omega) ⟨by omega, h0, by omega⟩ (by omega)
 ·obtain ⟨s, h1, _, ⟨h2, h3⟩, h4⟩ := this
  refine ⟨s, h1, ⟨h2, fun p => ?_⟩, by omega⟩
  rw [h3]
  constructor
  ·rintro ⟨i, j, rfl, g1, g2, g3, g4⟩
   exact ⟨i, j, rfl, g1, g2, g3, .inl (by omega)⟩
  ·rintro ⟨i, j, rfl, g1, g2, g3, g4⟩
   exact ⟨i, j, rfl, g1, g2, g3, by omega⟩
 ·obtain ⟨hab, ⟨h2, h3⟩, h4⟩ := hI
  obtain ⟨c, c1, c2⟩ := L47_2_eq (n0 := n0) h hl hb a b n0 hn0
  refine ⟨if c then s ++ [((a : Int), (b : Int))] else s, ?_, by omega, ⟨?_, fun p => ?_⟩, ?_⟩
  ·unfold L47_3
   simp only [decide_eq_true (show ((b : Nat) : Int) < (K : Int) by omega), br_t, c1, ob_s, wrap_succ (show b < 4611686018427387904 by omega)]
   cases c
   ·simp [br, ob]
   ·rw [br_t, lim_of (by simp; omega), gd_t, ob_s, if_pos rfl]
  ·cases c
   ·exact h2
   ·simp only [if_true]
    refine List.pairwise_append.2 ⟨h2, by simp, fun x hx y hy => ?_⟩
    simp only [List.mem_singleton] at hy
    subst hy
    obtain ⟨i, j, rfl, _, _, _, g4⟩ := (h3 x).1 hx
    unfold lexLt
    simp only
    omega
  ·cases c
   ·simp only [Bool.false_eq_true, if_false]
    rw [h3]
    constructor
    ·rintro ⟨i, j, rfl, g1, g2, g3, g4⟩
     exact ⟨i, j, rfl, g1, g2, g3, by omega⟩
    ·rintro ⟨i, j, rfl, g1, g2, g3, g4⟩
     refine ⟨i, j, rfl, g1, g2, g3, ?_⟩
     by_cases e : i = a ∧ j = b
     ·rw [e.1, e.2] at g3
      exact absurd (c2.2 g3) (by simp)
     ·omega
   ·simp only [if_true, List.mem_append, List.mem_singleton]
    rw [h3]
    constructor
    ·rintro (⟨i, j, rfl, g1, g2, g3, g4⟩ | rfl)
     ·exact ⟨i, j, rfl, g1, g2, g3, by omega⟩
     ·exact ⟨a, b, rfl, hab, hbK, c2.1 rfl, .inr ⟨rfl, by omega⟩⟩
    ·rintro ⟨i, j, rfl, g1, g2, g3, g4⟩
     by_cases e : i = a ∧ j = b
     ·right; rw [e.1, e.2]
     ·exact .inl ⟨i, j, rfl, g1, g2, g3, by omega⟩
  ·cases c <;> simp <;> omega
 ·unfold L47_3
  simp [br]
theorem L47_4_eq (h : Okay M es) (hl : l6.length = M) (hb : l6.any (badL M) = false) (K : Nat) (hK : K ≤ 64) (n : Nat) (hn : 200 < n) (hn0 : 200 < n0) :
  ∃ s, lpN (L47_4 n0 (K : Int) es l6) n (([] : List (Int × Int)), 0) = some s ∧ s.Pairwise lexLt ∧ ∀ p, p ∈ s ↔ ∃ i j : Nat, p = ((i : Int), (j : Int)) ∧ i < j ∧ j < K ∧ Jn l6 es i j := by
 have := lp_uptoE (body := L47_4 n0 (K : Int) es l6) K (fun (s : List (Int × Int)) (v : Int) => (s, v)) id (fun a s => Laid l6 es K a (a + 1) s ∧ s.length ≤ a * 64) (fun s a ha hI => ?_) (fun s _ => ?_) (n := n) (s := []) ⟨⟨List.Pairwise.nil, fun p => ?_⟩, by simp⟩ (by omega)
 ·obtain ⟨s, h1, ⟨h2, h3⟩, _⟩ := this
  refine ⟨s, h1, h2, fun p => ?_⟩
  rw [h3]
  constructor
  ·rintro ⟨i, j, rfl, g1, g2, g3, g4⟩
   exact ⟨i, j, rfl, g1, g2, g3⟩
  ·rintro ⟨i, j, rfl, g1, g2, g3⟩
   exact ⟨i, j, rfl, g1, g2, g3, by omega⟩
 ·obtain ⟨s', a1, a2, a3⟩ := L47_3_eq (n0 := n0) h hl hb K a hK ha s hI.1 hI.2 n0 hn0 hn0
  refine ⟨s', ?_, a2, a3⟩
  unfold L47_4
  simp only [decide_eq_true (show ((a : Nat) : Int) < (K : Int) by omega), br_t, wrap_succ (show a < 4611686018427387904 by omega), a1, ob_s]
 ·unfold L47_4
  simp [br]
 ·constructor
  ·intro hp; cases hp
  ·rintro ⟨i, j, rfl, g1, g2, g3, g4⟩; omega
end
theorem con_both (n : Nat) (N : Int) (es : List (Int × Int)) (ls : List Int) (hn : 300 < n) (hl : es.length < 4611686018427387904) (hk : es.length < n) :
  ∃ k l c, F22 n N es ls = some (k, l, c) ∧ F47 n N es ls = some (k, l, c) ∧ l.length ≤ 200 := by
 have e1 := F23_eq n N es (by omega) hl hk
 have e2 := F43_eq n N es hl hk
 unfold F22 F47
 rw [e1, e2, ob_s, ob_s]
 by_cases hok : okG N es = true
 ·have hc : ckG N es = 0 := by unfold ckG; rw [if_pos hok]
  obtain ⟨M, rfl, h⟩ := okay_of hok
  have hM := h.le
  have hpos := h.pos
  rw [hc]
  simp only [decide_true, Bool.not_true, br_f]
  by_cases hlen : (ls.length : Int) = (M : Int)
  ·have hlm : ls.length = M := by omega
   rw [decide_eq_true hlen]
   simp only [Bool.not_true, br_f]
   rcases L22_1_eq n M ls hM hlm n (by omega) with ⟨b1, b2⟩ | ⟨b1, b2, b3⟩
   ·rcases L47_1_eq n M ls hM hlm n (by omega) with ⟨d1, d2⟩ | ⟨d1, d2⟩
    ·rw [b2, d2, ob_s, ob_s]
     exact ⟨0, [], 2, rfl, rfl, by simp⟩
    ·rw [b1] at d1; cases d1
   ·rcases L47_1_eq n M ls hM hlm n (by omega) with ⟨d1, d2⟩ | ⟨d1, d2⟩
    ·rw [b1] at d1; cases d1
    ·rw [b2, d2, ob_s, ob_s]
     simp only [F72_eq n _ b3 (by omega), ob_s, Int.natCast_inj]
     by_cases hF : Full (maskOf ls)
     ·rw [decide_eq_true ((full_and b3).2 hF), decide_eq_true ((full_rk b3).2 hF)]
      simp only [Bool.not_true, br_f]
      obtain ⟨s, s1, s2, s3, s4⟩ := L22_3_eq (n0 := n) h hlm b1 n (by omega) (by omega)
      obtain ⟨r, r1, r2, r3⟩ := L47_4_eq (n0 := n) h hlm b1 (bl (maskOf ls)) (bl_le b3) n (by omega) (by omega)
      obtain ⟨q1, q2⟩ := sort_asc s3
      have heq : s.mergeSort lexLe = r := asc_ext q1 r2 fun p => by
       rw [q2, s4, r3]
       constructor
       ·rintro ⟨e, he, hne, rfl⟩
        obtain ⟨a, b, rfl, hab, hbM⟩ := h.mem e he
        simp only [Int.toNat_natCast] at hne
        obtain ⟨_, _, a3⟩ := lab_at hlm b1 (show a < M by omega)
        obtain ⟨_, _, b3'⟩ := lab_at hlm b1 hbM
        by_cases hlt : lb ls a < lb ls b
        ·refine ⟨lb ls a, lb ls b, ?_, hlt, b3', a, b, he, .inl ⟨rfl, rfl⟩⟩
         simp only [prL, Int.toNat_natCast, mi, ma]
         rw [if_neg (by omega), if_pos (by omega)]
        ·refine ⟨lb ls b, lb ls a, ?_, by omega, a3, a, b, he, .inr ⟨rfl, rfl⟩⟩
         simp only [prL, Int.toNat_natCast, mi, ma]
         rw [if_pos (by omega), if_neg (by omega)]
       ·rintro ⟨i, j, rfl, g1, g2, a, b, he, hc⟩
        refine ⟨_, he, ?_, ?_⟩
        ·simp only [Int.toNat_natCast]
         rcases hc with ⟨c1, c2⟩ | ⟨c1, c2⟩ <;> omega
        ·simp only [prL, Int.toNat_natCast, mi, ma]
         rcases hc with ⟨c1, c2⟩ | ⟨c1, c2⟩
         ·rw [c1, c2, if_neg (by omega), if_pos (by omega)]
         ·rw [c1, c2, if_pos (by omega), if_neg (by omega)]
      rw [F51_eq n _ b3, ob_s, s1, r1, ob_s, ob_s]
      refine ⟨(bl (maskOf ls) : Int), r, 0, ?_, rfl, ?_⟩
      ·unfold F62
       rw [lim_of (by omega), gd_t, ob_s, heq]
      ·rw [← heq, List.length_mergeSort]; exact s2
     ·rw [decide_eq_false (fun e => hF ((full_and b3).1 e)), decide_eq_false (fun e => hF ((full_rk b3).1 e))]
      exact ⟨0, [], 2, rfl, rfl, by simp⟩
  ·rw [decide_eq_false hlen]
   exact ⟨0, [], 2, rfl, rfl, by simp⟩
 ·have hc : ckG N es = 180 := by unfold ckG; rw [if_neg hok]
  rw [hc]
  exact ⟨0, [], 180, rfl, rfl, by simp⟩
end Go.Proofs.YtpclggcpobakhaaDoor
end

section
namespace Go.Proofs.YtpclggcpobakhaaDoor
open Go Go.Ab Go.Ab.W
theorem F29_sets (n : Nat) (N : Int) (es : List (Int × Int)) (x : Nat) (hx : x < 2 ^ 64) : ∃ y, F29 n N es x = some (x, y) ∧ y < 2 ^ 64 ∧ (1 ≤ N → N ≤ 63 → y = x % 2 ^ N.toNat) := by
 unfold F29
 by_cases h1 : N < 1
 ·rw [br_dt h1, ob_s, br_t]; exact ⟨x, rfl, hx, fun h => by omega⟩
 ·rw [br_df h1, ob_s]
  by_cases h2 : 63 < N
  ·rw [decide_eq_true h2, br_t]; exact ⟨x, rfl, hx, fun _ h => by omega⟩
  ·rw [decide_eq_false h2, br_f, decide_eq_true (show (0 : Int) ≤ N by omega), gd_t]
   obtain ⟨M, rfl⟩ := Int.eq_ofNat_of_zero_le (show 0 ≤ N by omega)
   have hM : M < 64 := by omega
   have hp := Nat.two_pow_pos M
   have hpl := one_lt hM
   have hs : usub .u64 (2 ^ M) 1 = 2 ^ M - 1 := by
    unfold usub
    rw [uM64, uw_id (show (1 : Nat) < 2 ^ 64 by decide)]
    show (2 ^ M + (2 ^ 64 - 1)) % 2 ^ 64 = 2 ^ M - 1
    omega
   rw [Int.toNat_natCast, word_one hM, hs, word_and hx (by omega), Nat.and_two_pow_sub_one_eq_mod]
   exact ⟨_, rfl, Nat.lt_of_le_of_lt (Nat.mod_le _ _) hx, fun _ _ => rfl⟩
theorem L8_1_eq (n r1 r2 : Nat) (N : Int) (es : List (Int × Int)) (h1 : r1 < 2 ^ 64) (h2 : r2 < 2 ^ 64) (hn : 300 < n) (hl : es.length ≤ 300) : lpN (L8_1 n r1 r2 N es) n 0 = some (.inr ()) := by
 have one : ∀ (i x : Nat), i < 2 → [r1, r2][i]? = some x → x < 2 ^ 64 → L8_1 n r1 r2 N es (i : Int) = some (.inl ((i + 1 : Nat) : Int)) := by
  intro i x hi hx hx64
  obtain ⟨k, l, o, c, a1, a2, a3, a4⟩ := ind_both n N es x hx64 hn (by omega) (by omega)
  unfold L8_1
  simp only [Int.toNat_natCast, hx, ob_s, inB_nat hi, gd_t, a1, a2, F27_eq n k k l l (by omega) (by omega), F44_eq n k k l l (by omega) (by omega), F39_refl n o a4 (by omega), decide_true, Bool.and_self, Bool.not_true, br_f, wrap_succ (show i < 4611686018427387904 by omega)]
  rw [br_dt (by omega)]
 obtain ⟨n', rfl⟩ : ∃ n', n = n' + 3 := ⟨n - 3, by omega⟩
 have s0 : L8_1 (n' + 3) r1 r2 N es 0 = some (.inl 1) := one 0 r1 (by omega) rfl h1
 have s1 : L8_1 (n' + 3) r1 r2 N es 1 = some (.inl 2) := one 1 r2 (by omega) rfl h2
 have s2 : L8_1 (n' + 3) r1 r2 N es 2 = some (.inr (.inr ())) := by unfold L8_1; rw [br_df (by decide)]
 rw [lp_next (s' := 1) s0, lp_next (s' := 2) s1, lp_end s2]
theorem tmod_in {v len : Nat} (h : len ≠ 0) : Int.tmod (v : Int) (len : Int) = ((v % len : Nat) : Int) ∧ v % len < len :=
 ⟨by rw [Int.tmod_eq_emod_of_nonneg (Int.natCast_nonneg _)]; rfl, Nat.mod_lt _ (by omega)⟩
theorem L8_2_eq (n0 : Nat) (N : Int) (l19 : List Nat) (n : Nat) (hn : 64 < n) : ∃ l, lpN (L8_2 n0 N l19) n (([] : List Int), 0) = some l ∧ l.length ≤ 64 := by
 obtain ⟨K, hK⟩ := Int.eq_ofNat_of_zero_le (show 0 ≤ ma (mi N (64 : Int)) (0 : Int) by unfold ma; split <;> omega)
 have hK64 : K ≤ 64 := by
  have : ma (mi N (64 : Int)) (0 : Int) ≤ 64 := by
   unfold ma mi; split <;> (try split) <;> omega
  omega
 have := lp_uptoE (body := L8_2 n0 N l19) K (fun (s : List Int) (v : Int) => (s, v)) id (fun i s => s.length ≤ i) (fun s i hi hI => ?_) (fun s _ => ?_) (n := n) (s := []) (by simp) (by omega)
 ·obtain ⟨s, h1, h2⟩ := this
  exact ⟨s, h1, by omega⟩
 ·unfold L8_2
  rw [hK]
  simp only [decide_eq_true (show ((i : Nat) : Int) < ((K : Nat) : Int) by omega), br_t, wrap_succ (show i < 4611686018427387904 by omega)]
  by_cases h0 : l19.length = 0
  ·rw [br_df (by omega), ob_s, lim_of (by simp; omega), gd_t]
   exact ⟨_, rfl, by simp; omega⟩
  ·obtain ⟨e1, e2⟩ := tmod_in (v := i) h0
   rw [br_dt (by omega), e1, gd_dt (by omega), inB_nat e2, gd_t, Int.toNat_natCast, List.getElem?_eq_getElem e2, ob_s, ob_s, lim_of (by simp; omega), gd_t]
   exact ⟨_, rfl, by simp; omega⟩
 ·unfold L8_2
  rw [hK]
  simp [br]
theorem L8_3_eq (n : Nat) (a b c : List Int) (l23 : List Int) (hb : b = ((l23.drop (0 : Int).toNat).take ((mi (l23.length : Int) (66 : Int) : Int).toNat - (0 : Int).toNat))) (N : Int) (es : List (Int × Int)) (hn : 300 < n) (hl : es.length ≤ 300) : lpN (L8_3 n a l23 c N es) n 0 = some (.inr ()) := by
 have one : ∀ (i : Nat) (ls : List Int), i < 3 → [a, b, c][i]? = some ls → L8_3 n a l23 c N es (i : Int) = some (.inl ((i + 1 : Nat) : Int)) := by
  intro i ls hi hx
  obtain ⟨k, l, e, a1, a2, a3⟩ := con_both n N es ls hn (by omega) (by omega)
  unfold L8_3
  rw [← hb]
  simp only [Int.toNat_natCast, hx, ob_s, inB_nat hi, gd_t, a1, a2, F44_eq n k k l l (by omega) (by omega), decide_true, Bool.and_self, Bool.not_true, br_f, wrap_succ (show i < 4611686018427387904 by omega)]
  rw [br_dt (by omega)]
 obtain ⟨n', rfl⟩ : ∃ n', n = n' + 4 := ⟨n - 4, by omega⟩
 have s0 : L8_3 (n' + 4) a l23 c N es 0 = some (.inl 1) := one 0 a (by omega) rfl
 have s1 : L8_3 (n' + 4) a l23 c N es 1 = some (.inl 2) := one 1 b (by omega) rfl
 have s2 : L8_3 (n' + 4) a l23 c N es 2 = some (.inl 3) := one 2 c (by omega) rfl
 have s3 : L8_3 (n' + 4) a l23 c N es 3 = some (.inr (.inr ())) := by unfold L8_3; rw [br_df (by decide)]
 rw [lp_next (s' := 1) s0, lp_next (s' := 2) s1, lp_next (s' := 3) s2, lp_end s3]
theorem L8_4_eq (n : Nat) (N1 N2 N3 : Int) (e1 e2 e3 : List (Int × Int)) (x : Nat) (l19 : List Nat) (l23 : List Int) (hx : x < 2 ^ 64) (hn : 300 < n) (h1 : e1.length ≤ 300) (h2 : e2.length ≤ 300) (h3 : e3.length ≤ 300) : lpN (L8_4 n N1 e1 N2 e2 N3 e3 x l19 l23) n 0 = some (.inr ()) := by
 have one : ∀ (i : Nat) (N : Int) (es : List (Int × Int)), i < 3 → [(N1, e1), (N2, e2), (N3, e3)][i]? = some (N, es) → es.length ≤ 300 → L8_4 n N1 e1 N2 e2 N3 e3 x l19 l23 (i : Int) = some (.inl ((i + 1 : Nat) : Int)) := by
  intro i N es hi hx' hl
  obtain ⟨y, f1, f2, _⟩ := F29_sets n N es x hx
  obtain ⟨l, l1, l2⟩ := L8_2_eq n N l19 n (by omega)
  unfold L8_4
  generalize hb : ((l23.drop (0 : Int).toNat).take ((mi (l23.length : Int) (66 : Int) : Int).toNat - (0 : Int).toNat)) = b
  have hF46 : F46 n l = some l := by unfold F46; rw [lim_of (by omega), gd_t]
  simp only [Int.toNat_natCast, hx', ob_s, inB_nat hi, gd_t, f1, L8_1_eq n x y N es hx f2 hn hl, l1, hF46, wrap_succ (show i < 4611686018427387904 by omega)]
  rw [br_dt (by omega)]
  by_cases hc : 0 < (l.length : Int)
  ·rw [br_dt hc, ob_s]
   by_cases hd : 0 < (b.length : Int)
   ·obtain ⟨t1, t2⟩ := tmod_in (v := l19.length) (show l.length ≠ 0 by omega)
    have hb0 : (0 : Int).toNat < b.length := by simp; omega
    rw [decide_eq_true hd, br_t, gd_dt (by omega), show inB 0 b.length = true from inB_nat (i := 0) (by omega), gd_t, List.getElem?_eq_getElem hb0, ob_s, t1, inB_nat t2, gd_t, Int.toNat_natCast, List.getElem?_eq_getElem t2, ob_s, ob_s, L8_3_eq n l b _ l23 hb.symm N es hn hl, ob_s]
   ·rw [decide_eq_false hd, br_f, ob_s, L8_3_eq n l b _ l23 hb.symm N es hn hl, ob_s]
  ·rw [br_df hc, ob_s, br_f, ob_s, L8_3_eq n l b _ l23 hb.symm N es hn hl, ob_s]
 obtain ⟨n', rfl⟩ : ∃ n', n = n' + 4 := ⟨n - 4, by omega⟩
 have s0 : L8_4 (n' + 4) N1 e1 N2 e2 N3 e3 x l19 l23 0 = some (.inl 1) := one 0 N1 e1 (by omega) rfl h1
 have s1 : L8_4 (n' + 4) N1 e1 N2 e2 N3 e3 x l19 l23 1 = some (.inl 2) := one 1 N2 e2 (by omega) rfl h2
 have s2 : L8_4 (n' + 4) N1 e1 N2 e2 N3 e3 x l19 l23 2 = some (.inl 3) := one 2 N3 e3 (by omega) rfl h3
 have s3 : L8_4 (n' + 4) N1 e1 N2 e2 N3 e3 x l19 l23 3 = some (.inr (.inr ())) := by unfold L8_4; rw [br_df (by decide)]
 rw [lp_next (s' := 1) s0, lp_next (s' := 2) s1, lp_next (s' := 3) s2, lp_end s3]
theorem F8_true (n x1 x2 x3 : Nat) (l4 : List (Nat × Nat)) (x8 x9 : Nat) (x10 x11 x12 : Int) (x13 x14 : Nat) (x15 x16 x17 : Int) (x18 : Nat) (l19 : List Nat) (l23 : List Int) (h9 : x9 < 256) (h14 : x14 < 256) (h18 : x18 < 2 ^ 64) (hn : 300 < n) :
  F8 n x1 x2 x3 l4 x8 x9 x10 x11 x12 x13 x14 x15 x16 x17 x18 l19 l23 = some true := by
 obtain ⟨N1, e1, N2, e2, N3, e3, h1, g1, g2, g3, _⟩ := F28_tot n x1 x2 x3 l4 x8 x9 x10 x11 x12 x13 x14 x15 x16 x17 h9 h14 (by omega)
 unfold F8 F13
 have hok : okB 0 (mi (l23.length : Int) (66 : Int)) l23.length = true := by
  unfold okB mi
  split <;> simp <;> omega
 rw [hok, gd_t, h1, ob_s]
 simp only [L8_4_eq n N1 N2 N3 e1 e2 e3 x18 l19 l23 h18 hn g1 g2 g3, ob_s]
end Go.Proofs.YtpclggcpobakhaaDoor
end
