/- Texts of the abstract machine and of the walks, joined: S18W10 S18P S18P2 S18P3 AbsWord S18G S18G2 S18G3 S18D1 S18M S18D2 S18B S18D3 S18D4 S18D5. -/
import Derived.Test.YtpclggcpobakhaaDoorGt5
section
namespace Go.Proofs.YtpclggcpobakhaaDoor.W10
open Go Go.Ab Go.Ab.W Go.Proofs.YtpclggcpobakhaaDoor Go.Proofs.YtpclggcpobakhaaDoor.W0 Go.Proofs.YtpclggcpobakhaaDoor.WT
set_option maxRecDepth 10000
set_option maxHeartbeats 4000000
attribute [local irreducible] Tm.at Trie.set Trie.get AMem.get AMem.set AMem.alloc AMem.ww AMem.kill
theorem t55 : TyI E18w.P 55 true 4 := ⟨by kernel_rfl, by kernel_rfl, by kernel_rfl⟩
theorem t58 : TyI E18w.P 58 true 10 := ⟨by kernel_rfl, by kernel_rfl, by kernel_rfl⟩
theorem u27 : E18w.P.underlying 27 = some (.slice 25) := by kernel_rfl
theorem z25 : zeroA E18w.P 25 = some (.agg #[.int .i64 0, .slice none 0 0]) := by kernel_rfl
theorem t25 : TyI E18w.P 25 true 2 := ⟨by kernel_rfl, by kernel_rfl, by kernel_rfl⟩
theorem fa25_0 : ∀ b o, fieldAddrA E18w.P 25 (ptr b o) 0 = some (ptr b (o + 0)) := fun _ _ => by kernel_rfl
theorem t3 : TyI E18w.P 3 false 1 := ⟨by kernel_rfl, by kernel_rfl, by kernel_rfl⟩
theorem z36 : zeroA E18w.P 36 = some (.slice none 0 0) := by kernel_rfl
theorem t36 : TyI E18w.P 36 false 1 := ⟨by kernel_rfl, by kernel_rfl, by kernel_rfl⟩
theorem t28 : TyI E18w.P 28 false 1 := ⟨by kernel_rfl, by kernel_rfl, by kernel_rfl⟩
theorem z28 : zeroA E18w.P 28 = some (.int .u64 ((0 : Nat) : Int)) := by kernel_rfl
theorem s36 : SlT E18w.P 36 28 1 := SlT.of (by kernel_rfl)
theorem u36 : E18w.P.underlying 36 = some (.slice 28) := by kernel_rfl
theorem fa25_1 : ∀ b o, fieldAddrA E18w.P 25 (ptr b o) 1 = some (ptr b (o + 1)) := fun _ _ => by kernel_rfl
theorem t23 : TyI E18w.P 23 false 1 := ⟨by kernel_rfl, by kernel_rfl, by kernel_rfl⟩
theorem u23 : E18w.P.underlying 23 = some (.slice 26) := by kernel_rfl
theorem s23 : SlT E18w.P 23 26 2 := SlT.of (by kernel_rfl)
theorem t26 : TyI E18w.P 26 true 2 := ⟨by kernel_rfl, by kernel_rfl, by kernel_rfl⟩
theorem z26 : zeroA E18w.P 26 = some (.agg #[.int .i64 0, .int .i64 0]) := by kernel_rfl
theorem bs25 : BdT E18w.P 25 (.agg #[.int .i64 0, .slice none 0 0]) [(0, 1), (1, 1)] := .mk' (by kernel_rfl) (by kernel_rfl)
theorem ar26 : ArT E18w.P 26 3 2 1 := ⟨by kernel_rfl, by kernel_rfl, by kernel_rfl⟩
theorem u26 : E18w.P.underlying 26 = some (.array 2 3) := by kernel_rfl
theorem u3 : E18w.P.underlying 3 = some (.int .i64) := by kernel_rfl
theorem eq26 : ∀ (x0 y0 : Int) (x1 y1 : Int), eqA E18w.P Op.maxDepth 26 (.agg #[.int .i64 x0, .int .i64 x1]) (.agg #[.int .i64 y0, .int .i64 y1]) = some (decide (x0 = y0) && decide (x1 = y1)) := fun x0 y0 x1 y1 => eq_i2 u26 t3.known t3.size t3.agg u3 x0 x1 y0 y1
theorem eg26 : E18w.P.eqGuardType E18w.P.depth 26 = false := by kernel_rfl
theorem u4 : E18w.P.underlying 4 = some (.bool) := by kernel_rfl
theorem s27 : SlT E18w.P 27 25 2 := SlT.of (by kernel_rfl)
theorem f58_ok (n : Nat) (x1 : Int) (l2 : List (Int × Int)) (x6 : Nat) (a3 : Option Addr) (c4 : Nat) (r : List Nat) (hF : F58 n x1 l2 x6 = some r) (m : AMem) (hG : Gl m) (h5 : Rd m a3 c4 2 l2.length (l2.map (eP (eI .i64) (eI .i64)))) :
  CallA E18w 58 [.agg #[.int .i64 x1, .slice a3 l2.length c4], .int .u64 ((x6 : Nat) : Int)] m (fun v m' => ∃ x : Option Addr × Nat, v = .slice x.1 x.2 x.2 ∧ Hp m m' [.sl x.1 1 x.2 (r.map (eN .u64))]) := by
 unfold F58 at hF
 refine call_wk (m0 := m) (ps := [.rd a3 c4 2 l2.length (l2.map (eP (eI .i64) (eI .i64)))]) (N := 44) (rs := [.tmp 4]) rfl Tryd.func58 rfl rfl rfl ((Hp.start m).inn rfl h5) ?_
 refine Wk.seq <| Wk.region <| Wo.x (o_bx rfl) gn rfl fun b7 => ?_
 refine Wo.x (o_bx rfl) gn rfl fun b8 => ?_
 refine Wo.od (o_as rfl) rfl ?_
 refine Wo.nil <| At.tn <| Wk.seq <| Wk.region <| Wo.od (o_ld (k := 1) t25 rfl rfl rfl) rfl ?_
 obtain ⟨l10, h9, hF⟩ := ob_some hF
 refine Wo.x (o_cl rfl rfl (fun m hm => f75_ok n x1 l2 a3 c4 _ h9 m (hm.rd (k := 2) rfl (.rd _ _ _ _ _))) fun _ => rfl) gn rfl ?_
 rintro ⟨a11, n12⟩
 refine Wo.len (k := 0) (xs := l10) rfl ?_
 rintro rfl
 refine Wo.x (o_al z36 rfl) gn rfl fun b13 => ?_
 refine Wo.o0 (o_st (k := 0) t36 rfl rfl rfl rfl rfl) ?_
 refine Wo.nil <| At.tn <| Wk.seq <| Wk.region <| Wo.od (o_as rfl) rfl ?_
 refine Wo.nil <| At.tn <| Wk.seq <| Wk.seq <| Wk.region <| Wo.od (o_ld (k := 2) t28 rfl rfl rfl) rfl ?_
 refine Wo.od (o_as rfl) rfl ?_
 refine Wo.nil <| At.tn <| Wk.block ?_
 obtain ⟨l686, h1020, hF⟩ := ob_some hF
 refine Wk.cut (G := (fun (r : List (Nat)) (g : Option Addr) => match r, g with | l686, a687 => ⟨(.exit 0), [(6, .slice a687 l686.length l686.length)], [.sl a687 1 l686.length (l686.map (eN .u64))]⟩) l686) ?_ ?_
 ·refine Wk.weak (fs' := [(3, ptr b8 0), (5, ptr b13 0), (6, .slice none ([] : List (Nat)).length ([] : List (Nat)).length), (7, .int .u64 ((x6 : Nat) : Int))]) (ps' := [.obj b8 (.cells [.int .u64 ((x6 : Nat) : Int)] .own), .obj b13 (.cells [.slice a11 l10.length l10.length] .own), .sl a11 1 l10.length (l10.map (eN .u64)), .sl none 1 ([] : List (Nat)).length (([] : List (Nat)).map (eN .u64))]) (sc rfl (sc rfl (sc rfl (sc rfl sn)))) (Turn.trans (Turn.nil 1 rfl) (Turn.picks [3, 1, 2, 0] rfl rfl)) ?_
  refine Wk.loop (σ := List (Nat) × Nat) (ρ := List (Nat)) (γ := Option Addr) (δ := fun _ => Option Addr) _ (fun (s : List (Nat) × Nat) (g : Option Addr) => match s, g with | (l348, v350), a349 => ⟨.normal, [(3, ptr b8 0), (5, ptr b13 0), (6, .slice a349 l348.length l348.length), (7, .int .u64 ((v350 : Nat) : Int))], [.obj b8 (.cells [.int .u64 ((x6 : Nat) : Int)] .own), .obj b13 (.cells [.slice a11 l10.length l10.length] .own), .sl a11 1 l10.length (l10.map (eN .u64)), .sl a349 1 l348.length (l348.map (eN .u64))]⟩) (fun (r : List (Nat)) (g : Option Addr) => match r, g with | l686, a687 => ⟨(.exit 0), [(6, .slice a687 l686.length l686.length)], [.sl a687 1 l686.length (l686.map (eN .u64))]⟩) ?_ (fun _ _ => rfl) (fun r d => by intro e; cases e) _ _ _ h1020 none
  clear hF h1020
  rintro ⟨l348, v350⟩ a349 r hF
  unfold L58_3 at hF
  refine Wk.seq <| Wk.seq <| Wk.region <| Wo.od (o_mv rfl) rfl ?_
  refine Wo.od (o_bi rfl rfl (ub_neq _ _)) rfl ?_
  refine Wo.nil <| At.tn ?_
  rcases br_some hF with ⟨h688, hF⟩ | ⟨h688, hF⟩
  ·refine Wk.condT rfl h688 ?_
   refine Wk.skip <| At.tn <| Wk.block <| Wk.seq <| Wk.region <| Wo.od (o_mv rfl) rfl ?_
   refine Wo.od (o_mv rfl) rfl ?_
   refine Wo.od (o_un rfl (uu_neg rfl _)) rfl ?_
   refine Wo.od (o_bi rfl rfl (ub_and rfl _ _)) rfl ?_
   refine Wo.od (o_as rfl) rfl ?_
   refine Wo.nil <| At.tn <| Wk.seq <| Wk.block ?_
   obtain ⟨v853, h1015, hF⟩ := ob_some hF
   refine Wk.cut (G := (fun (r : Nat) (g : Unit) => match r, g with | v853, _ => ⟨(.exit 2), [(3, ptr b8 0), (5, ptr b13 0), (6, .slice a349 l348.length l348.length), (7, .int .u64 ((v350 : Nat) : Int)), (8, .int .u64 ((v853 : Nat) : Int))], [.obj b8 (.cells [.int .u64 ((x6 : Nat) : Int)] .own), .obj b13 (.cells [.slice a11 l10.length l10.length] .own), .sl a11 1 l10.length (l10.map (eN .u64)), .sl a349 1 l348.length (l348.map (eN .u64))]⟩) v853) ?_ ?_
   ·refine Wk.weak (fs' := [(3, ptr b8 0), (5, ptr b13 0), (6, .slice a349 l348.length l348.length), (7, .int .u64 ((v350 : Nat) : Int)), (8, .int .u64 (((uw .u64 (uw .u64 v350 &&& uw .u64 (uneg .u64 v350))) : Nat) : Int))]) (ps' := [.obj b8 (.cells [.int .u64 ((x6 : Nat) : Int)] .own), .obj b13 (.cells [.slice a11 l10.length l10.length] .own), .sl a11 1 l10.length (l10.map (eN .u64)), .sl a349 1 l348.length (l348.map (eN .u64))]) (sc rfl (sc rfl (sc rfl (sc rfl (sc rfl sn))))) (Turn.picks [0, 1, 2, 3] rfl rfl) ?_
    refine Wk.loop (σ := Nat) (ρ := Nat) (γ := Unit) (δ := fun _ => Unit) _ (fun (s : Nat) (g : Unit) => match s, g with | v690, _ => ⟨.normal, [(3, ptr b8 0), (5, ptr b13 0), (6, .slice a349 l348.length l348.length), (7, .int .u64 ((v350 : Nat) : Int)), (8, .int .u64 ((v690 : Nat) : Int))], [.obj b8 (.cells [.int .u64 ((x6 : Nat) : Int)] .own), .obj b13 (.cells [.slice a11 l10.length l10.length] .own), .sl a11 1 l10.length (l10.map (eN .u64)), .sl a349 1 l348.length (l348.map (eN .u64))]⟩) (fun (r : Nat) (g : Unit) => match r, g with | v853, _ => ⟨(.exit 2), [(3, ptr b8 0), (5, ptr b13 0), (6, .slice a349 l348.length l348.length), (7, .int .u64 ((v350 : Nat) : Int)), (8, .int .u64 ((v853 : Nat) : Int))], [.obj b8 (.cells [.int .u64 ((x6 : Nat) : Int)] .own), .obj b13 (.cells [.slice a11 l10.length l10.length] .own), .sl a11 1 l10.length (l10.map (eN .u64)), .sl a349 1 l348.length (l348.map (eN .u64))]⟩) ?_ (fun _ _ => rfl) (fun r d => by intro e; cases e) _ _ _ h1015 ()
    clear hF h1015
    rintro v690 ⟨⟩ r hF
    unfold L58_2 at hF
    refine Wk.block <| Wk.seq <| Wk.region <| Wo.od (o_mv rfl) rfl ?_
    refine Wo.x (o_al z28 rfl) gn rfl fun b854 => ?_
    refine Wo.o0 (o_st (k := 0) t28 rfl rfl rfl rfl rfl) ?_
    refine Wo.nil <| At.tn <| Wk.seq <| Wk.seq <| Wk.region <| Wo.od (o_mv rfl) rfl ?_
    obtain ⟨r858, h859, hF⟩ := ob_some hF
    refine Wo.x (o_cs (α := Nat) (V := fun g => (fun (r : Unit) (g : Nat) => match r, g with | _, b856 => (.func (.func 78) #[] #[ptr b856 0] : Value)) r858 g) (N := fun g => (fun (r : Unit) (g : Nat) => match r, g with | _, b856 => ([.obj b856 (.cells [.int .u64 ((v690 : Nat) : Int)] .own), .obj b8 (.cells [.int .u64 ((x6 : Nat) : Int)] .own), .obj b13 (.cells [.slice a11 l10.length l10.length] .own), .sl a11 1 l10.length (l10.map (eN .u64)), .sl a349 1 l348.length (l348.map (eN .u64)), .obj b854 (.cells [.int .u64 ((v690 : Nat) : Int)] .own)] : List Pc)) r858 g) rfl rfl (fun m hm => ?_)) gn rfl ?_
    ·clear hF
     revert r858
     intro r hF
     refine call_wk (N := 4) (rs := [.tmp 2]) rfl Tryd.func61 rfl rfl rfl hm ?_
     refine Wk.seq <| Wk.region <| Wo.x (o_bx rfl) gn rfl fun b857 => ?_
     refine Wo.od (o_as rfl) rfl ?_
     refine Wo.nil <| At.tn <| Wk.seq <| Wk.region <| Wo.od (o_mf rfl rfl) rfl ?_
     refine Wo.od (o_as rfl) rfl ?_
     refine Wo.nil <| At.tn <| Wk.ret ?_
     cases hF
     exact At.ret (.tmp rfl .nil) fun m' hm => ⟨b857, rfl, (Turn.picks [0, 2, 3, 4, 5, 1] rfl rfl) m' hm⟩
    ·clear h859
     rintro b856
     refine Wo.nil <| At.tn <| Wk.block ?_
     obtain ⟨v938, h1013, hF⟩ := ob_some hF
     refine Wk.range (N := 14) (rs := []) (γ := Unit) (X := fun g => (fun (r : Nat) (g : Unit) => (match r, g with | v938, _ => ⟨.ready, none, [.obj b8 (.cells [.int .u64 ((x6 : Nat) : Int)] .own), .obj b13 (.cells [.slice a11 l10.length l10.length] .own), .sl a11 1 l10.length (l10.map (eN .u64)), .sl a349 1 l348.length (l348.map (eN .u64)), .obj b854 (.cells [.int .u64 ((v938 : Nat) : Int)] .own)]⟩ : Rn)) v938 g) rfl rfl Tryd.func78 rfl rfl rfl ?_ (fun y => by intro e; cases e) ?_
     ·clear hF
      revert v938
      intro r hF
      intro t862 l860 rc861 h863 h864
      refine Wk.block ?_
      obtain ⟨v987, h1010, hF⟩ := ob_some hF
      refine Wk.cut (G := (fun (r : Nat) (g : Unit) => match r, g with | v987, _ => ⟨(.exit 0), [], [.obj l860 (rc861 .ready none), .obj b8 (.cells [.int .u64 ((x6 : Nat) : Int)] .own), .obj b13 (.cells [.slice a11 l10.length l10.length] .own), .sl a11 1 l10.length (l10.map (eN .u64)), .sl a349 1 l348.length (l348.map (eN .u64)), .obj b854 (.cells [.int .u64 ((v987 : Nat) : Int)] .own)]⟩) v987) ?_ ?_
      ·refine Wk.weak (fs' := [(0, .func (.yield l860) #[] #[]), (1, ptr b856 0)]) (ps' := [.obj l860 (rc861 .ready none), .obj b856 (.cells [.int .u64 ((v690 : Nat) : Int)] .own), .obj b8 (.cells [.int .u64 ((x6 : Nat) : Int)] .own), .obj b13 (.cells [.slice a11 l10.length l10.length] .own), .sl a11 1 l10.length (l10.map (eN .u64)), .sl a349 1 l348.length (l348.map (eN .u64)), .obj b854 (.cells [.int .u64 ((v690 : Nat) : Int)] .own)]) (sc rfl (sc rfl sn)) (Turn.picks [0, 1, 2, 3, 4, 5, 6] rfl rfl) ?_
       refine Wk.loop (σ := Nat × Nat) (ρ := Nat) (γ := Unit) (δ := fun _ => Unit) _ (fun (s : Nat × Nat) (g : Unit) => match s, g with | (v961, v962), _ => ⟨.normal, [(0, .func (.yield l860) #[] #[]), (1, ptr b856 0)], [.obj l860 (rc861 .ready none), .obj b856 (.cells [.int .u64 ((v961 : Nat) : Int)] .own), .obj b8 (.cells [.int .u64 ((x6 : Nat) : Int)] .own), .obj b13 (.cells [.slice a11 l10.length l10.length] .own), .sl a11 1 l10.length (l10.map (eN .u64)), .sl a349 1 l348.length (l348.map (eN .u64)), .obj b854 (.cells [.int .u64 ((v962 : Nat) : Int)] .own)]⟩) (fun (r : Nat) (g : Unit) => match r, g with | v987, _ => ⟨(.exit 0), [], [.obj l860 (rc861 .ready none), .obj b8 (.cells [.int .u64 ((x6 : Nat) : Int)] .own), .obj b13 (.cells [.slice a11 l10.length l10.length] .own), .sl a11 1 l10.length (l10.map (eN .u64)), .sl a349 1 l348.length (l348.map (eN .u64)), .obj b854 (.cells [.int .u64 ((v987 : Nat) : Int)] .own)]⟩) ?_ (fun _ _ => rfl) (fun r d => by intro e; cases e) _ _ _ h1010 ()
       clear hF h1010
       rintro ⟨v961, v962⟩ ⟨⟩ r hF
       unfold L58_1 at hF
       refine Wk.seq <| Wk.seq <| Wk.region <| Wo.od (o_ld (k := 1) t28 rfl rfl rfl) rfl ?_
       refine Wo.od (o_bi rfl rfl (ub_neq _ _)) rfl ?_
       refine Wo.nil <| At.tn ?_
       rcases br_some hF with ⟨h988, hF⟩ | ⟨h988, hF⟩
       ·refine Wk.condT rfl h988 ?_
        refine Wk.skip <| At.tn <| Wk.seq <| Wk.block <| Wk.seq <| Wk.region <| Wo.od (o_mv rfl) rfl ?_
        refine Wo.od (o_ld (k := 1) t28 rfl rfl rfl) rfl ?_
        obtain ⟨r990, h989, hF⟩ := ob_some hF
        refine Wo.x (o_cl rfl rfl (fun m hm => f42_ok n v961  _ h989 m (hG.ext hm.ext) ) fun _ => rfl) gn rfl ?_
        rintro ⟨⟩
        obtain ⟨v999, h1009, hF⟩ := ob_some hF
        refine Wo.x (o_yd (k := 0) (k1 := 0) (γA := Unit) (GA := (fun g : Unit => (match g with | _ => ⟨.normal, [(3, ptr b8 0), (5, ptr b13 0), (9, ptr b854 0), (10, .int .i64 r990)], [.obj l860 (rc861 .ready none), .obj b8 (.cells [.int .u64 ((x6 : Nat) : Int)] .own), .obj b13 (.cells [.slice a11 l10.length l10.length] .own), .sl a11 1 l10.length (l10.map (eN .u64)), .obj b854 (.cells [.int .u64 ((v962 : Nat) : Int)] .own), .sl a349 1 l348.length (l348.map (eN .u64)), .obj b856 (.cells [.int .u64 ((v961 : Nat) : Int)] .own)]⟩ : En))) (γ := Unit) (G := fun g => (fun (r : Nat) (g : Unit) => (match r, g with | v999, _ => ⟨.normal, [], [.obj l860 (rc861 .busy none), .obj b8 (.cells [.int .u64 ((x6 : Nat) : Int)] .own), .obj b13 (.cells [.slice a11 l10.length l10.length] .own), .sl a11 1 l10.length (l10.map (eN .u64)), .sl a349 1 l348.length (l348.map (eN .u64)), .obj b854 (.cells [.int .u64 ((v999 : Nat) : Int)] .own), .obj b856 (.cells [.int .u64 ((v961 : Nat) : Int)] .own)]⟩ : En)) v999 g) rfl rfl rfl h864 h863 rfl ?_ (fun _ => rfl) (fun _ => rfl) ?_ (fun y => rfl)) gn rfl ?_
        ·clear hF h1009
         refine Wk.region <| Wo.od (o_as rfl) rfl ?_
         refine Wo.nil ?_
         exact At.en () rfl (sc rfl (sc rfl (sc rfl (sc rfl sn)))) (Turn.picks [0, 2, 3, 4, 6, 5, 1] rfl rfl)
        ·clear hF
         revert v999
         intro r hF
         rintro ⟨⟩
         refine Wk.block <| Wk.draw (by kernel_rfl) ?_
         refine Wo.od (o_ld (k := 4) t28 rfl rfl rfl) rfl ?_
         refine Wo.od (o_ld (k := 2) t36 rfl rfl rfl) rfl ?_
         refine Wo.od (o_mv rfl) rfl ?_
         obtain ⟨h1000, hF⟩ := gd_some hF
         replace h1000 := inB_some h1000
         refine Wo.open (k := 3) rfl (pos_of h1000) ?_
         rintro b1001 tg1002 rfl h1003
         refine Wo.og (o_ixa s36 rfl rfl h1000) gn rfl ?_
         obtain ⟨x1004, h1005, hF⟩ := ob_some hF
         refine Wo.od (o_lda (k := 3) t28 rfl rfl (map_at h1005) rfl rfl) rfl ?_
         refine Wo.od (o_ld (k := 1) t28 rfl rfl rfl) rfl ?_
         refine Wo.od (o_bi rfl rfl (ub_and rfl _ _)) rfl ?_
         obtain ⟨y1006, h1007, hF⟩ := ob_some hF
         refine Wo.od (o_bi rfl rfl ((ub_or rfl _ _).trans (cN h1007))) rfl ?_
         refine Wo.o0 (o_st (k := 4) t28 rfl rfl rfl rfl rfl) ?_
         refine Wo.nil <| At.bn ?_
         have hr := Option.some.inj hF
         subst r
         exact At.en () rfl sn (Turn.trans (Turn.close (k := 3) rfl) (Turn.picks [0, 1, 2, 3, 5, 4, 6] rfl rfl))
        ·clear h1009
         rintro ⟨⟩
         refine Wo.od (o_un rfl rfl) rfl ?_
         refine Wo.nil <| At.tn <| Wk.condF rfl rfl ?_
         refine Wk.skip <| At.bn <| At.tn <| Wk.region <| Wo.od (o_ld (k := 6) t28 rfl rfl rfl) rfl ?_
         refine Wo.od (o_ld (k := 6) t28 rfl rfl rfl) rfl ?_
         refine Wo.od (o_bi rfl rfl (ub_sub rfl _ _)) rfl ?_
         refine Wo.od (o_bi rfl rfl (ub_and rfl _ _)) rfl ?_
         refine Wo.o0 (o_st (k := 6) t28 rfl rfl rfl rfl rfl) ?_
         refine Wo.nil ?_
         cases hF
         exact At.en () rfl (sc rfl (sc rfl sn)) (Turn.picks [0, 6, 1, 2, 3, 4, 5] rfl rfl)
       ·refine Wk.condF rfl h988 ?_
        refine Wk.exit <| At.te ?_
        cases hF
        exact At.en () rfl sn (Turn.picks [0, 2, 3, 4, 5, 6] rfl rfl)
      ·clear h1010
       rintro ⟨⟩
       refine At.be ?_
       have hr := Option.some.inj hF
       subst r
       exact At.fin .nil fun m' hm => ⟨(), (Turn.picks [0, 1, 2, 3, 4, 5] rfl rfl) m' hm⟩
     ·clear h1013
      rintro ⟨⟩
      change At _ .normal _ _ _
      refine At.bn <| At.tn <| Wk.seq <| Wk.seq <| Wk.region <| Wo.od (o_ld (k := 4) t28 rfl rfl rfl) rfl ?_
      refine Wo.od (o_mv rfl) rfl ?_
      refine Wo.od (o_bi rfl rfl (ub_eql _ _)) rfl ?_
      refine Wo.nil <| At.tn ?_
      rcases br_some hF with ⟨h1014, hF⟩ | ⟨h1014, hF⟩
      ·refine Wk.condT rfl h1014 ?_
       refine Wk.exit <| At.te <| At.bx rfl ?_
       cases hF
       exact At.en () rfl (sc rfl (sc rfl (sc rfl (sc rfl (sc rfl sn))))) (Turn.picks [0, 1, 2, 3] rfl rfl)
      ·refine Wk.condF rfl h1014 ?_
       refine Wk.skip <| At.tn <| Wk.region <| Wo.od (o_ld (k := 4) t28 rfl rfl rfl) rfl ?_
       refine Wo.od (o_as rfl) rfl ?_
       refine Wo.nil <| At.bn ?_
       cases hF
       exact At.en () rfl (sc rfl (sc rfl (sc rfl (sc rfl (sc rfl sn))))) (Turn.picks [0, 1, 2, 3] rfl rfl)
   ·clear h1015
    rintro ⟨⟩
    refine At.be <| At.tn <| Wk.seq <| Wk.region <| Wo.od (o_mv rfl) rfl ?_
    refine Wo.od (o_mv rfl) rfl ?_
    refine Wo.x (o_bs (es := ([v853] : List (Nat)).map (eN .u64)) s36 rfl (bs_c s36 z28 rfl rfl) rfl rfl) gn rfl fun b1017 => ?_
    obtain ⟨h1018, hF⟩ := gd_some hF
    refine Wo.x (o_apl (k := 4) (k2 := 0) (xs := (l348 : List (Nat))) (ys := ([v853] : List (Nat))) (enN .u64) s36 ⟨_, u36⟩ rfl rfl rfl (.arr _ _ _ _ _) h1018) gn rfl fun a1019 => ?_
    refine Wo.od (o_as rfl) rfl ?_
    refine Wo.nil <| At.tn <| Wk.region <| Wo.od (o_mv rfl) rfl ?_
    refine Wo.od (o_mv rfl) rfl ?_
    refine Wo.od (o_bi rfl rfl (ub_andn rfl _ _)) rfl ?_
    refine Wo.od (o_as rfl) rfl ?_
    refine Wo.nil <| At.bn ?_
    cases hF
    exact At.en a1019 rfl (sc rfl (sc rfl (sc rfl (sc rfl sn)))) (Turn.picks [1, 2, 3, 4] rfl rfl)
  ·refine Wk.condF rfl h688 ?_
   refine Wk.exit <| At.te ?_
   cases hF
   exact At.en a349 rfl (sc rfl sn) (Turn.picks [3] rfl rfl)
 ·clear h1020
  rintro a687
  refine At.be <| At.tn <| Wk.seq <| Wk.region <| Wo.od (o_mv rfl) rfl ?_
  refine Wo.od (o_as rfl) rfl ?_
  refine Wo.nil <| At.tn <| Wk.ret ?_
  have hr := Option.some.inj hF
  subst r
  exact At.ret (.tmp rfl .nil) fun m' hm => ⟨(a687, l686.length), rfl, (Turn.picks [0] rfl rfl) m' hm⟩
theorem f17_ok (n : Nat) (x1 : Int) (l2 : List (Int × Int)) (x6 : Nat) (a3 : Option Addr) (c4 : Nat) (r : List Nat × Int) (hF : F17 n x1 l2 x6 = some r) (m : AMem) (hG : Gl m) (h5 : Rd m a3 c4 2 l2.length (l2.map (eP (eI .i64) (eI .i64)))) :
  CallA E18w 17 [.agg #[.int .i64 x1, .slice a3 l2.length c4], .int .u64 ((x6 : Nat) : Int)] m (fun v m' => ∃ x : Option Addr × Nat, v = .tuple #[.slice x.1 x.2 x.2, .int .i64 r.2] ∧ Hp m m' [.sl x.1 1 x.2 (r.1.map (eN .u64))]) := by
 unfold F17 at hF
 refine call_wk (m0 := m) (ps := [.rd a3 c4 2 l2.length (l2.map (eP (eI .i64) (eI .i64)))]) (N := 16) (rs := [.tmp 4, .tmp 5]) rfl Tryd.func17 rfl rfl rfl ((Hp.start m).inn rfl h5) ?_
 refine Wk.seq <| Wk.region <| Wo.x (o_bx rfl) gn rfl fun b7 => ?_
 refine Wo.od (o_as rfl) rfl ?_
 refine Wo.od (o_as rfl) rfl ?_
 refine Wo.nil <| At.tn <| Wk.seq <| Wk.seq <| Wk.region <| Wo.od (o_ld (k := 0) t25 rfl rfl rfl) rfl ?_
 refine Wo.od (o_mv rfl) rfl ?_
 obtain ⟨r9, h8, hF⟩ := ob_some hF
 refine Wo.x (o_cl rfl rfl (fun m hm => f55_ok n x1 l2 x6 a3 c4 _ h8 m (hm.rd (k := 1) rfl (.rd _ _ _ _ _))) fun _ => rfl) gn rfl ?_
 rintro ⟨⟩
 refine Wo.od (o_as rfl) rfl ?_
 refine Wo.nil <| At.tn <| Wk.seq <| Wk.region <| Wo.od (o_mv rfl) rfl ?_
 refine Wo.od (o_bi rfl rfl (ib_neq _ _)) rfl ?_
 refine Wo.nil <| At.tn ?_
 rcases br_some hF with ⟨h10, hF⟩ | ⟨h10, hF⟩
 ·refine Wk.condT rfl h10 ?_
  refine Wk.seq <| Wk.region <| Wo.od (o_mv rfl) rfl ?_
  refine Wo.od (o_as rfl) rfl ?_
  refine Wo.od (o_as rfl) rfl ?_
  refine Wo.nil <| At.tn <| Wk.ret <| At.tr ?_
  cases hF
  exact At.ret (.tmp rfl (.tmp rfl .nil)) fun m' hm => ⟨(none, 0), rfl, (Turn.trans (Turn.nil 1 rfl) (Turn.picks [0] rfl rfl)) m' hm⟩
 ·refine Wk.condF rfl h10 ?_
  refine Wk.skip <| At.tn <| Wk.seq <| Wk.region <| Wo.od (o_ld (k := 0) t25 rfl rfl rfl) rfl ?_
  refine Wo.od (o_mv rfl) rfl ?_
  obtain ⟨l12, h11, hF⟩ := ob_some hF
  refine Wo.x (o_cl rfl rfl (fun m hm => f58_ok n x1 l2 x6 a3 c4 _ h11 m (hG.ext hm.ext) (hm.rd (k := 1) rfl (.rd _ _ _ _ _))) fun _ => rfl) gn rfl ?_
  rintro ⟨a13, n14⟩
  refine Wo.len (k := 0) (xs := l12) rfl ?_
  rintro rfl
  refine Wo.od (o_as rfl) rfl ?_
  refine Wo.od (o_as rfl) rfl ?_
  refine Wo.nil <| At.tn <| Wk.ret ?_
  cases hF
  exact At.ret (.tmp rfl (.tmp rfl .nil)) fun m' hm => ⟨(a13, l12.length), rfl, (Turn.picks [0] rfl rfl) m' hm⟩
theorem f25_ok (n : Nat) (x1 : Int) (l2 : List (Int × Int)) (x6 : Nat) (a3 : Option Addr) (c4 : Nat) (r : Int) (hF : F25 n x1 l2 x6 = some r) (m : AMem) (hG : Gl m) (h5 : Rd m a3 c4 2 l2.length (l2.map (eP (eI .i64) (eI .i64)))) :
  CallA E18w 25 [.agg #[.int .i64 x1, .slice a3 l2.length c4], .int .u64 ((x6 : Nat) : Int)] m (fun v m' => ∃ x : Unit, v = .int .i64 r ∧ Hp m m' []) := by
 unfold F25 at hF
 refine call_wk (m0 := m) (ps := [.rd a3 c4 2 l2.length (l2.map (eP (eI .i64) (eI .i64)))]) (N := 17) (rs := [.tmp 4]) rfl Tryd.func25 rfl rfl rfl ((Hp.start m).inn rfl h5) ?_
 refine Wk.seq <| Wk.region <| Wo.x (o_bx rfl) gn rfl fun b7 => ?_
 refine Wo.od (o_as rfl) rfl ?_
 refine Wo.nil <| At.tn <| Wk.seq <| Wk.region <| Wo.od (o_ld (k := 0) t25 rfl rfl rfl) rfl ?_
 refine Wo.od (o_mv rfl) rfl ?_
 obtain ⟨⟨l9, r12⟩, h8, hF⟩ := ob_some hF
 refine Wo.x (o_cl rfl rfl (fun m hm => f17_ok n x1 l2 x6 a3 c4 _ h8 m (hG.ext hm.ext) (hm.rd (k := 1) rfl (.rd _ _ _ _ _))) fun _ => rfl) gn rfl ?_
 rintro ⟨a10, n11⟩
 refine Wo.len (k := 0) (xs := l9) rfl ?_
 rintro rfl
 refine Wo.od (o_mv rfl) rfl ?_
 refine Wo.od (o_ex rfl rfl) rfl ?_
 refine Wo.od (o_ex rfl rfl) rfl ?_
 refine Wo.od (o_as rfl) rfl ?_
 refine Wo.od (o_as rfl) rfl ?_
 refine Wo.nil <| At.tn <| Wk.seq <| Wk.seq <| Wk.region <| Wo.od (o_mv rfl) rfl ?_
 refine Wo.od (o_bi rfl rfl (ib_neq _ _)) rfl ?_
 refine Wo.nil <| At.tn ?_
 rcases br_some hF with ⟨h13, hF⟩ | ⟨h13, hF⟩
 ·refine Wk.condT rfl h13 ?_
  refine Wk.seq <| Wk.region <| Wo.od (o_as rfl) rfl ?_
  refine Wo.nil <| At.tn <| Wk.ret <| At.tr ?_
  cases hF
  exact At.ret (.tmp rfl .nil) fun m' hm => ⟨(), rfl, (Turn.picks [] rfl rfl) m' hm⟩
 ·refine Wk.condF rfl h13 ?_
  refine Wk.skip <| At.tn <| Wk.seq <| Wk.region <| Wo.od (o_mv rfl) rfl ?_
  refine Wo.od (o_ln (k := 0) u36 rfl rfl (.inl rfl)) rfl ?_
  refine Wo.od (o_as rfl) rfl ?_
  refine Wo.nil <| At.tn <| Wk.ret ?_
  cases hF
  exact At.ret (.tmp rfl .nil) fun m' hm => ⟨(), rfl, (Turn.picks [] rfl rfl) m' hm⟩
theorem f73_ok (n : Nat) (l1 : List (Int × Int)) (x5 : Int) (x6 : Int) (a2 : Option Addr) (c3 : Nat) (r : Int) (hF : F73 n l1 x5 x6 = some r) (m : AMem) (h4 : Rd m a2 c3 2 l1.length (l1.map (eP (eI .i64) (eI .i64)))) :
  CallA E18w 73 [.slice a2 l1.length c3, .agg #[.int .i64 x5, .int .i64 x6]] m (fun v m' => ∃ x : Unit, v = .int .i64 r ∧ Hp m m' []) := by
 unfold F73 at hF
 refine call_wk (m0 := m) (ps := [.rd a2 c3 2 l1.length (l1.map (eP (eI .i64) (eI .i64)))]) (N := 19) (rs := [.tmp 4]) rfl Tryd.func73 rfl rfl rfl ((Hp.start m).inn rfl h4) ?_
 refine Wk.seq <| Wk.region <| Wo.x (o_bx rfl) gn rfl fun b7 => ?_
 refine Wo.od (o_as rfl) rfl ?_
 refine Wo.nil <| At.tn <| Wk.seq <| Wk.seq <| Wk.region <| Wo.od (o_mv rfl) rfl ?_
 refine Wo.od (o_ln (k := 1) u23 rfl rfl (.inl rfl)) rfl ?_
 refine Wo.od (o_mv rfl) rfl ?_
 refine Wo.nil <| At.tn <| Wk.block ?_
 obtain ⟨r29, h28, hF⟩ := ob_some hF
 refine Wk.cut (G := (fun (r : (Int) ⊕ (Unit)) (g : Unit) => match r, g with | .inl v19, _ => ⟨.ret, [(4, .int .i64 v19)], []⟩ | .inr _, _ => ⟨(.exit 0), [], []⟩) r29) ?_ ?_
 ·refine Wk.weak (fs' := [(0, .slice a2 l1.length c3), (3, ptr b7 0), (7, .int .i64 (l1.length : Int)), (8, .int .i64 0)]) (ps' := [.rd a2 c3 2 l1.length (l1.map (eP (eI .i64) (eI .i64))), .obj b7 (.cells [.int .i64 x5, .int .i64 x6] .own)]) (sc rfl (sc rfl (sc rfl (sc rfl sn)))) (Turn.picks [1, 0] rfl rfl) ?_
  refine Wk.loop (σ := Int) (ρ := (Int) ⊕ (Unit)) (γ := Unit) (δ := fun _ => Unit) _ (fun (s : Int) (g : Unit) => match s, g with | v9, _ => ⟨.normal, [(0, .slice a2 l1.length c3), (3, ptr b7 0), (7, .int .i64 (l1.length : Int)), (8, .int .i64 v9)], [.rd a2 c3 2 l1.length (l1.map (eP (eI .i64) (eI .i64))), .obj b7 (.cells [.int .i64 x5, .int .i64 x6] .own)]⟩) (fun (r : (Int) ⊕ (Unit)) (g : Unit) => match r, g with | .inl v19, _ => ⟨.ret, [(4, .int .i64 v19)], []⟩ | .inr _, _ => ⟨(.exit 0), [], []⟩) ?_ (fun _ _ => rfl) (fun r d => by rcases r with _ | _ <;> (intro e; cases e)) _ _ _ h28 ()
  clear hF h28
  rintro v9 ⟨⟩ r hF
  unfold L73_1 at hF
  refine Wk.seq <| Wk.region <| Wo.od (o_bi rfl rfl (bin_lss _ _ _)) rfl ?_
  refine Wo.nil <| At.tn <| Wk.seq ?_
  rcases br_some hF with ⟨h20, hF⟩ | ⟨h20, hF⟩
  ·refine Wk.condT rfl h20 ?_
   refine Wk.skip <| At.tn <| Wk.seq <| Wk.block <| Wk.seq <| Wk.region <| Wo.od (o_mv rfl) rfl ?_
   refine Wo.od (o_as rfl) rfl ?_
   refine Wo.nil <| At.tn <| Wk.seq <| Wk.draw (by kernel_rfl) ?_
   refine Wo.od (o_ld (k := 1) t26 rfl rfl rfl) rfl ?_
   refine Wo.od (o_mv rfl) rfl ?_
   refine Wo.od (o_mv rfl) rfl ?_
   obtain ⟨h21, hF⟩ := gd_some hF
   replace h21 := inB_some h21
   refine Wo.openr (k := 0) rfl (pos_of h21) ?_
   rintro b22 o23 rfl
   refine Wo.og (o_ixs s23 rfl rfl h21) gn rfl ?_
   obtain ⟨⟨x24, x25⟩, h26, hF⟩ := ob_some hF
   refine Wo.od (o_ldr (k := 0) t26 rfl rfl (map_at h26) rfl rfl) rfl ?_
   refine Wo.od (o_bi rfl rfl (ag_eq eg26 (eq26 _ _ _ _))) rfl ?_
   refine Wo.nil <| At.tn ?_
   rcases br_some hF with ⟨h27, hF⟩ | ⟨h27, hF⟩
   ·refine Wk.condT rfl h27 ?_
    refine Wk.seq <| Wk.region <| Wo.od (o_mv rfl) rfl ?_
    refine Wo.od (o_as rfl) rfl ?_
    refine Wo.nil <| At.tn <| Wk.ret <| At.br <| At.tr ?_
    cases hF
    exact At.en () rfl (sc rfl sn) (Turn.picks [] rfl rfl)
   ·refine Wk.condF rfl h27 ?_
    refine Wk.skip <| At.bn <| At.tn <| Wk.region <| Wo.od (o_bi rfl rfl (bin_add _ _ _)) rfl ?_
    refine Wo.od (o_mv rfl) rfl ?_
    refine Wo.nil ?_
    cases hF
    exact At.en () rfl (sc rfl (sc rfl (sc rfl (sc rfl sn)))) (Turn.picks [1, 2] rfl rfl)
  ·refine Wk.condF rfl h20 ?_
   refine Wk.exit <| At.te ?_
   cases hF
   exact At.en () rfl sn (Turn.picks [] rfl rfl)
 ·clear h28
  rcases r29 with v19 | _
  ·rintro ⟨⟩
   refine At.br <| At.tr ?_
   have hr := Option.some.inj hF
   subst r
   exact At.ret (.tmp rfl .nil) fun m' hm => ⟨(), rfl, (Turn.picks [] rfl rfl) m' hm⟩
  ·rintro ⟨⟩
   refine At.be <| At.tn <| Wk.seq <| Wk.region <| Wo.od (o_as rfl) rfl ?_
   refine Wo.nil <| At.tn <| Wk.ret ?_
   cases hF
   exact At.ret (.tmp rfl .nil) fun m' hm => ⟨(), rfl, (Turn.picks [] rfl rfl) m' hm⟩
theorem f48_ok (n : Nat) (l1 : List (Int × Int)) (x5 : Int) (x6 : Int) (a2 : Option Addr) (c3 : Nat) (r : Bool) (hF : F48 n l1 x5 x6 = some r) (m : AMem) (h4 : Rd m a2 c3 2 l1.length (l1.map (eP (eI .i64) (eI .i64)))) :
  CallA E18w 48 [.slice a2 l1.length c3, .agg #[.int .i64 x5, .int .i64 x6]] m (fun v m' => ∃ x : Unit, v = .bool r ∧ Hp m m' []) := by
 unfold F48 at hF
 refine call_wk (m0 := m) (ps := [.rd a2 c3 2 l1.length (l1.map (eP (eI .i64) (eI .i64)))]) (N := 9) (rs := [.tmp 4]) rfl Tryd.func48 rfl rfl rfl ((Hp.start m).inn rfl h4) ?_
 refine Wk.seq <| Wk.region <| Wo.x (o_bx rfl) gn rfl fun b7 => ?_
 refine Wo.od (o_as rfl) rfl ?_
 refine Wo.nil <| At.tn <| Wk.seq <| Wk.region <| Wo.od (o_mv rfl) rfl ?_
 refine Wo.od (o_ld (k := 0) t26 rfl rfl rfl) rfl ?_
 obtain ⟨r9, h8, hF⟩ := ob_some hF
 refine Wo.x (o_cl rfl rfl (fun m hm => f73_ok n l1 x5 x6 a2 c3 _ h8 m (hm.rd (k := 1) rfl (.rd _ _ _ _ _))) fun _ => rfl) gn rfl ?_
 rintro ⟨⟩
 refine Wo.od (o_bi rfl rfl (bin_geq _ _ _)) rfl ?_
 refine Wo.od (o_as rfl) rfl ?_
 refine Wo.nil <| At.tn <| Wk.ret ?_
 cases hF
 exact At.ret (.tmp rfl .nil) fun m' hm => ⟨(), rfl, (Turn.picks [] rfl rfl) m' hm⟩
theorem f10_ok (n : Nat) (x1 : Nat) (x2 : Nat) (x3 : Nat) (l4 : List (Nat × Nat)) (x8 : Nat) (x9 : Nat) (x10 : Int) (x11 : Int) (x12 : Int) (x13 : Nat) (x14 : Nat) (x15 : Int) (x16 : Int) (x17 : Int) (x18 : Nat) (a5 : Option Addr) (c6 : Nat) (r : Bool) (hF : F10 n x1 x2 x3 l4 x8 x9 x10 x11 x12 x13 x14 x15 x16 x17 x18 = some r) (m : AMem) (hG : Gl m) (h7 : Rd m a5 c6 2 l4.length (l4.map (eP (eN .u8) (eN .u8)))) :
  CallA E18w 10 [.agg #[.int .u8 ((x1 : Nat) : Int), .int .u8 ((x2 : Nat) : Int), .int .u16 ((x3 : Nat) : Int), .slice a5 l4.length c6], .agg #[.int .u8 ((x8 : Nat) : Int), .int .u8 ((x9 : Nat) : Int), .int .i64 x10, .int .i64 x11, .int .i64 x12, .int .u8 ((x13 : Nat) : Int), .int .u8 ((x14 : Nat) : Int), .int .i64 x15, .int .i64 x16, .int .i64 x17], .int .u64 ((x18 : Nat) : Int)] m (fun v m' => ∃ x : Unit, v = .bool r ∧ Hp m m' []) := by
 unfold F10 at hF
 refine call_wk (m0 := m) (ps := [.rd a5 c6 2 l4.length (l4.map (eP (eN .u8) (eN .u8)))]) (N := 142) (rs := [.tmp 6]) rfl Tryd.func10 rfl rfl rfl ((Hp.start m).inn rfl h7) ?_
 refine Wk.seq <| Wk.region <| Wo.x (o_bx rfl) gn rfl fun b19 => ?_
 refine Wo.x (o_bx rfl) gn rfl fun b20 => ?_
 refine Wo.od (o_as rfl) rfl ?_
 refine Wo.nil <| At.tn <| Wk.seq <| Wk.seq <| Wk.region ?_
 obtain ⟨r22, h21, hF⟩ := ob_some hF
 refine Wo.x (o_cl rfl rfl (fun m hm => f13_ok n   _ h21 m (hG.ext hm.ext) ) fun _ => rfl) gn rfl ?_
 rintro ⟨⟩
 refine Wo.od (o_un rfl rfl) rfl ?_
 refine Wo.nil <| At.tn ?_
 rcases br_some hF with ⟨h23, hF⟩ | ⟨h23, hF⟩
 ·refine Wk.condT rfl h23 ?_
  refine Wk.seq <| Wk.region <| Wo.od (o_as rfl) rfl ?_
  refine Wo.nil <| At.tn <| Wk.ret <| At.tr ?_
  cases hF
  exact At.ret (.tmp rfl .nil) fun m' hm => ⟨(), rfl, (Turn.picks [] rfl rfl) m' hm⟩
 ·refine Wk.condF rfl h23 ?_
  refine Wk.skip <| At.tn <| Wk.seq <| Wk.seq <| Wk.region <| Wo.od (o_ld (k := 1) t55 rfl rfl rfl) rfl ?_
  refine Wo.od (o_ld (k := 0) t58 rfl rfl rfl) rfl ?_
  obtain ⟨l24, h25, hF⟩ := ob_some hF
  refine Wo.gs rfl rfl (fun m hm => f41_ok n x1 x2 x3 l4 x8 x9 x10 x11 x12 x13 x14 x15 x16 x17 a5 c6 _ h25 m (hm.rd (k := 2) rfl (.rd _ _ _ _ _))) rfl ?_
  intro m27 a26 h28 h29
  have hG := hG.ext h28
  refine Wo.od (o_lng u27 rfl h29) rfl ?_
  refine Wo.od (o_mv rfl) rfl ?_
  refine Wo.nil <| At.tn <| Wk.block ?_
  obtain ⟨r1128, h1127, hF⟩ := ob_some hF
  refine Wk.cut (G := (fun (r : (Unit) ⊕ (Unit)) (g : Unit) => match r, g with | .inl _, _ => ⟨.ret, [(6, .bool false)], []⟩ | .inr _, _ => ⟨(.exit 0), [], []⟩) r1128) ?_ ?_
  ·refine Wk.weak (fs' := [(2, .int .u64 ((x18 : Nat) : Int)), (24, .slice a26 l24.length l24.length), (25, .int .i64 (l24.length : Int)), (26, .int .i64 0)]) (ps' := []) (sc rfl (sc rfl (sc rfl (sc rfl sn)))) (Turn.picks [] rfl rfl) ?_
   refine Wk.loop (σ := Int) (ρ := (Unit) ⊕ (Unit)) (γ := Unit) (δ := fun _ => Unit) _ (fun (s : Int) (g : Unit) => match s, g with | v31, _ => ⟨.normal, [(2, .int .u64 ((x18 : Nat) : Int)), (24, .slice a26 l24.length l24.length), (25, .int .i64 (l24.length : Int)), (26, .int .i64 v31)], []⟩) (fun (r : (Unit) ⊕ (Unit)) (g : Unit) => match r, g with | .inl _, _ => ⟨.ret, [(6, .bool false)], []⟩ | .inr _, _ => ⟨(.exit 0), [], []⟩) ?_ (fun _ _ => rfl) (fun r d => by rcases r with _ | _ <;> (intro e; cases e)) _ _ _ h1127 ()
   clear hF h1127
   rintro v31 ⟨⟩ r hF
   unfold L10_3 at hF
   refine Wk.seq <| Wk.region <| Wo.od (o_bi rfl rfl (bin_lss _ _ _)) rfl ?_
   refine Wo.nil <| At.tn <| Wk.seq ?_
   rcases br_some hF with ⟨h580, hF⟩ | ⟨h580, hF⟩
   ·refine Wk.condT rfl h580 ?_
    refine Wk.skip <| At.tn <| Wk.seq <| Wk.block <| Wk.seq <| Wk.region ?_
    obtain ⟨h854, hF⟩ := gd_some hF
    replace h854 := inB_some h854
    refine Wo.og (o_ixg s27 rfl rfl h29 h854) gn rfl ?_
    obtain ⟨⟨x855, l856⟩, h857, hF⟩ := ob_some hF
    refine Wo.x (o_ldg t25 rfl h29 h857) gn rfl ?_
    rintro ⟨a858, c859⟩
    refine Wo.x (o_al z25 rfl) gn rfl fun b860 => ?_
    refine Wo.o0 (o_st (k := 0) t25 rfl rfl rfl rfl rfl) ?_
    refine Wo.nil <| At.tn <| Wk.seq <| Wk.region <| Wo.od (o_mv rfl) rfl ?_
    refine Wo.od (o_fa (r := ptr b860 0) rfl (fa25_0 _ _)) rfl ?_
    refine Wo.od (o_ld (k := 0) t3 rfl rfl rfl) rfl ?_
    obtain ⟨h861, hF⟩ := gd_some hF
    refine Wo.od (o_bi rfl rfl (ub_shl rfl _ _ h861)) rfl ?_
    refine Wo.od (o_bi rfl rfl (ub_sub rfl _ _)) rfl ?_
    obtain ⟨y862, h863, hF⟩ := ob_some hF
    refine Wo.od (o_bi rfl rfl ((ub_and rfl _ _).trans (cN h863))) rfl ?_
    refine Wo.od (o_as rfl) rfl ?_
    refine Wo.nil <| At.tn <| Wk.seq <| Wk.region <| Wo.od (o_ld (k := 0) t25 rfl rfl rfl) rfl ?_
    refine Wo.od (o_mv rfl) rfl ?_
    obtain ⟨⟨l865, r868⟩, h864, hF⟩ := ob_some hF
    refine Wo.x (o_cl rfl rfl (fun m hm => f18_ok n x855 l856 y862 a858 c859 _ h864 m (hG.ext hm.ext) (hm.rd (k := 1) rfl (.rd _ _ _ _ _))) fun _ => rfl) gn rfl ?_
    rintro ⟨a866, n867⟩
    refine Wo.len (k := 0) (xs := l865) rfl ?_
    rintro rfl
    refine Wo.od (o_mv rfl) rfl ?_
    refine Wo.od (o_ex rfl rfl) rfl ?_
    refine Wo.od (o_ex rfl rfl) rfl ?_
    refine Wo.od (o_as rfl) rfl ?_
    refine Wo.od (o_as rfl) rfl ?_
    refine Wo.nil <| At.tn <| Wk.seq <| Wk.region <| Wo.od (o_ld (k := 1) t25 rfl rfl rfl) rfl ?_
    refine Wo.od (o_mv rfl) rfl ?_
    obtain ⟨⟨r870, r871⟩, h869, hF⟩ := ob_some hF
    refine Wo.x (o_cl rfl rfl (fun m hm => f19_ok n x855 l856 y862 a858 c859 _ h869 m (hG.ext hm.ext) (hm.rd (k := 2) rfl (.rd _ _ _ _ _))) fun _ => rfl) gn rfl ?_
    rintro ⟨⟩
    refine Wo.od (o_mv rfl) rfl ?_
    refine Wo.od (o_ex rfl rfl) rfl ?_
    refine Wo.od (o_ex rfl rfl) rfl ?_
    refine Wo.od (o_as rfl) rfl ?_
    refine Wo.od (o_as rfl) rfl ?_
    refine Wo.nil <| At.tn <| Wk.seq <| Wk.seq ?_
    obtain ⟨v882, h885, hF⟩ := ob_some hF
    refine Wk.cut (G := (fun (r : Bool) (g : Unit) => match r, g with | v882, _ => ⟨.normal, [(2, .int .u64 ((x18 : Nat) : Int)), (8, ptr b860 0), (9, .int .u64 ((y862 : Nat) : Int)), (10, .slice a866 l865.length l865.length), (12, .int .u64 ((r870 : Nat) : Int)), (24, .slice a26 l24.length l24.length), (25, .int .i64 (l24.length : Int)), (26, .int .i64 v31), (59, .bool v882)], [.obj b860 (.cells [.int .i64 x855, .slice a858 l856.length c859] .own), .rd a858 c859 2 l856.length (l856.map (eP (eI .i64) (eI .i64))), .sl a866 2 l865.length (l865.map (eP (eI .i64) (eI .i64)))]⟩) v882) ?_ ?_
    ·clear hF
     revert v882
     intro r hF
     refine Wk.region <| Wo.od (o_mv rfl) rfl ?_
     refine Wo.od (o_bi rfl rfl (ib_neq _ _)) rfl ?_
     refine Wo.od (o_mv rfl) rfl ?_
     rcases br_some hF with ⟨h883, hF⟩ | ⟨h883, hF⟩
     ·refine Wo.s (gg rfl rfl (eTF h883)) rfl ?_
      refine Wo.s (gg rfl rfl (eTF h883)) rfl ?_
      refine Wo.od (o_pt rfl h883 rfl) rfl ?_
      refine Wo.od (o_mv rfl) rfl ?_
      refine Wo.s (gg rfl rfl rfl) rfl ?_
      refine Wo.s (gg rfl rfl rfl) rfl ?_
      refine Wo.s (gg rfl rfl rfl) rfl ?_
      refine Wo.s (gg rfl rfl rfl) rfl ?_
      refine Wo.od (o_pT rfl rfl) rfl ?_
      refine Wo.nil ?_
      cases hF
      exact At.en () rfl (sc rfl (sc rfl (sc rfl (sc rfl (sc rfl (sc rfl (sc rfl (sc rfl (sc rfl sn))))))))) (Turn.picks [1, 2, 0] rfl rfl)
     ·refine Wo.og (o_mv rfl) (gg rfl rfl (eFF h883)) rfl ?_
      refine Wo.og (o_bi rfl rfl (ib_neq _ _)) (gg rfl rfl (eFF h883)) rfl ?_
      refine Wo.od (o_pf rfl h883 rfl) rfl ?_
      refine Wo.od (o_mv rfl) rfl ?_
      rcases br_some hF with ⟨h884, hF⟩ | ⟨h884, hF⟩
      ·refine Wo.s (gg rfl rfl (eTF h884)) rfl ?_
       refine Wo.s (gg rfl rfl (eTF h884)) rfl ?_
       refine Wo.s (gg rfl rfl (eTF h884)) rfl ?_
       refine Wo.s (gg rfl rfl (eTF h884)) rfl ?_
       refine Wo.od (o_pt rfl h884 rfl) rfl ?_
       refine Wo.nil ?_
       cases hF
       exact At.en () rfl (sc rfl (sc rfl (sc rfl (sc rfl (sc rfl (sc rfl (sc rfl (sc rfl (sc rfl sn))))))))) (Turn.picks [1, 2, 0] rfl rfl)
      ·refine Wo.og (o_mv rfl) (gg rfl rfl (eFF h884)) rfl ?_
       refine Wo.og (o_mv rfl) (gg rfl rfl (eFF h884)) rfl ?_
       refine Wo.og (o_bi rfl rfl (ub_andn rfl _ _)) (gg rfl rfl (eFF h884)) rfl ?_
       refine Wo.og (o_bi rfl rfl (ub_neq _ _)) (gg rfl rfl (eFF h884)) rfl ?_
       refine Wo.od (o_pf rfl h884 rfl) rfl ?_
       refine Wo.nil ?_
       cases hF
       exact At.en () rfl (sc rfl (sc rfl (sc rfl (sc rfl (sc rfl (sc rfl (sc rfl (sc rfl (sc rfl sn))))))))) (Turn.picks [1, 2, 0] rfl rfl)
    ·clear h885
     rintro ⟨⟩
     refine At.tn ?_
     rcases br_some hF with ⟨h887, hF⟩ | ⟨h887, hF⟩
     ·refine Wk.condT rfl h887 ?_
      refine Wk.seq <| Wk.region <| Wo.od (o_as rfl) rfl ?_
      refine Wo.nil <| At.tn <| Wk.ret <| At.tr <| At.br <| At.tr ?_
      cases hF
      exact At.en () rfl (sc rfl sn) (Turn.picks [] rfl rfl)
     ·refine Wk.condF rfl h887 ?_
      refine Wk.skip <| At.tn <| Wk.seq <| Wk.region <| Wo.od (o_ld (k := 0) t25 rfl rfl rfl) rfl ?_
      refine Wo.od (o_mv rfl) rfl ?_
      obtain ⟨r889, h888, hF⟩ := ob_some hF
      refine Wo.x (o_cl rfl rfl (fun m hm => f25_ok n x855 l856 y862 a858 c859 _ h888 m (hG.ext hm.ext) (hm.rd (k := 1) rfl (.rd _ _ _ _ _))) fun _ => rfl) gn rfl ?_
      rintro ⟨⟩
      refine Wo.od (o_as rfl) rfl ?_
      refine Wo.nil <| At.tn <| Wk.seq <| Wk.seq <| Wk.region <| Wo.od (o_fa (r := ptr b860 1) rfl (fa25_1 _ _)) rfl ?_
      refine Wo.od (o_ld (k := 0) t23 rfl rfl rfl) rfl ?_
      refine Wo.od (o_fa (r := ptr b860 1) rfl (fa25_1 _ _)) rfl ?_
      refine Wo.od (o_ld (k := 0) t23 rfl rfl rfl) rfl ?_
      refine Wo.od (o_ln (k := 1) u23 rfl rfl (.inl rfl)) rfl ?_
      refine Wo.od (o_bu rfl rfl (bu_mi _ _)) rfl ?_
      obtain ⟨h890, hF⟩ := gd_some hF
      refine Wo.x (o_srl (k := 1) (lo := 0) (hi := mi (l856.length : Int) (40 : Int)) s23 rfl rfl rfl rfl h890 (.inl ⟨rfl, rfl⟩) (.inr ⟨_, rfl⟩)) gn rfl ?_
      rintro ⟨a891, c892⟩
      refine Wo.od (o_ln (k := 0) u23 rfl rfl (.inl rfl)) rfl ?_
      refine Wo.od (o_mv rfl) rfl ?_
      refine Wo.nil <| At.tn <| Wk.block ?_
      obtain ⟨r1055, h1054, hF⟩ := ob_some hF
      refine Wk.cut (G := (fun (r : (Unit) ⊕ (Unit)) (g : Unit) => match r, g with | .inl _, _ => ⟨.ret, [(6, .bool false)], []⟩ | .inr _, _ => ⟨(.exit 2), [(2, .int .u64 ((x18 : Nat) : Int)), (8, ptr b860 0), (9, .int .u64 ((y862 : Nat) : Int)), (12, .int .u64 ((r870 : Nat) : Int)), (14, .int .i64 r889), (24, .slice a26 l24.length l24.length), (25, .int .i64 (l24.length : Int)), (26, .int .i64 v31)], [.obj b860 (.cells [.int .i64 x855, .slice a858 l856.length c859] .own), .rd a858 c859 2 l856.length (l856.map (eP (eI .i64) (eI .i64)))]⟩) r1055) ?_ ?_
      ·refine Wk.weak (fs' := [(2, .int .u64 ((x18 : Nat) : Int)), (8, ptr b860 0), (9, .int .u64 ((y862 : Nat) : Int)), (10, .slice a866 l865.length l865.length), (12, .int .u64 ((r870 : Nat) : Int)), (14, .int .i64 r889), (24, .slice a26 l24.length l24.length), (25, .int .i64 (l24.length : Int)), (26, .int .i64 v31), (69, .slice a891 (((l856.drop (0 : Int).toNat).take ((mi (l856.length : Int) (40 : Int) : Int).toNat - (0 : Int).toNat)).length) c892), (70, .int .i64 (((l856.drop (0 : Int).toNat).take ((mi (l856.length : Int) (40 : Int) : Int).toNat - (0 : Int).toNat)).length : Int)), (71, .int .i64 0)]) (ps' := [.obj b860 (.cells [.int .i64 x855, .slice a858 l856.length c859] .own), .rd a858 c859 2 l856.length (l856.map (eP (eI .i64) (eI .i64))), .sl a866 2 l865.length (l865.map (eP (eI .i64) (eI .i64))), .rd a891 c892 2 (((l856.drop (0 : Int).toNat).take ((mi (l856.length : Int) (40 : Int) : Int).toNat - (0 : Int).toNat)).length) (((l856.drop (0 : Int).toNat).take ((mi (l856.length : Int) (40 : Int) : Int).toNat - (0 : Int).toNat)).map (eP (eI .i64) (eI .i64)))]) (sc rfl (sc rfl (sc rfl (sc rfl (sc rfl (sc rfl (sc rfl (sc rfl (sc rfl (sc rfl (sc rfl (sc rfl sn)))))))))))) (Turn.picks [1, 2, 3, 0] rfl rfl) ?_
       refine Wk.loop (σ := Int) (ρ := (Unit) ⊕ (Unit)) (γ := Unit) (δ := fun _ => Unit) _ (fun (s : Int) (g : Unit) => match s, g with | v894, _ => ⟨.normal, [(2, .int .u64 ((x18 : Nat) : Int)), (8, ptr b860 0), (9, .int .u64 ((y862 : Nat) : Int)), (10, .slice a866 l865.length l865.length), (12, .int .u64 ((r870 : Nat) : Int)), (14, .int .i64 r889), (24, .slice a26 l24.length l24.length), (25, .int .i64 (l24.length : Int)), (26, .int .i64 v31), (69, .slice a891 (((l856.drop (0 : Int).toNat).take ((mi (l856.length : Int) (40 : Int) : Int).toNat - (0 : Int).toNat)).length) c892), (70, .int .i64 (((l856.drop (0 : Int).toNat).take ((mi (l856.length : Int) (40 : Int) : Int).toNat - (0 : Int).toNat)).length : Int)), (71, .int .i64 v894)], [.obj b860 (.cells [.int .i64 x855, .slice a858 l856.length c859] .own), .rd a858 c859 2 l856.length (l856.map (eP (eI .i64) (eI .i64))), .sl a866 2 l865.length (l865.map (eP (eI .i64) (eI .i64))), .rd a891 c892 2 (((l856.drop (0 : Int).toNat).take ((mi (l856.length : Int) (40 : Int) : Int).toNat - (0 : Int).toNat)).length) (((l856.drop (0 : Int).toNat).take ((mi (l856.length : Int) (40 : Int) : Int).toNat - (0 : Int).toNat)).map (eP (eI .i64) (eI .i64)))]⟩) (fun (r : (Unit) ⊕ (Unit)) (g : Unit) => match r, g with | .inl _, _ => ⟨.ret, [(6, .bool false)], []⟩ | .inr _, _ => ⟨(.exit 2), [(2, .int .u64 ((x18 : Nat) : Int)), (8, ptr b860 0), (9, .int .u64 ((y862 : Nat) : Int)), (12, .int .u64 ((r870 : Nat) : Int)), (14, .int .i64 r889), (24, .slice a26 l24.length l24.length), (25, .int .i64 (l24.length : Int)), (26, .int .i64 v31)], [.obj b860 (.cells [.int .i64 x855, .slice a858 l856.length c859] .own), .rd a858 c859 2 l856.length (l856.map (eP (eI .i64) (eI .i64)))]⟩) ?_ (fun _ _ => rfl) (fun r d => by rcases r with _ | _ <;> (intro e; cases e)) _ _ _ h1054 ()
       clear hF h1054
       rintro v894 ⟨⟩ r hF
       unfold L10_1 at hF
       refine Wk.seq <| Wk.region <| Wo.od (o_bi rfl rfl (bin_lss _ _ _)) rfl ?_
       refine Wo.nil <| At.tn <| Wk.seq ?_
       rcases br_some hF with ⟨h975, hF⟩ | ⟨h975, hF⟩
       ·refine Wk.condT rfl h975 ?_
        refine Wk.skip <| At.tn <| Wk.seq <| Wk.block <| Wk.seq <| Wk.region <| Wo.od (o_mv rfl) rfl ?_
        obtain ⟨h1015, hF⟩ := gd_some hF
        replace h1015 := inB_some h1015
        refine Wo.openr (k := 3) rfl (pos_of h1015) ?_
        rintro b1016 o1017 rfl
        refine Wo.og (o_ixs s23 rfl rfl h1015) gn rfl ?_
        obtain ⟨⟨x1018, x1019⟩, h1020, hF⟩ := ob_some hF
        refine Wo.od (o_ldr (k := 0) t26 rfl rfl (map_at h1020) rfl rfl) rfl ?_
        refine Wo.x (o_al z26 rfl) gn rfl fun b1021 => ?_
        refine Wo.od (o_as rfl) rfl ?_
        refine Wo.o0 (o_st (k := 0) t26 rfl rfl rfl rfl rfl) ?_
        refine Wo.nil <| At.tn <| Wk.seq <| Wk.drawc (prs := [(1, 4), (1, 8)]) (by kernel_rfl) ?_
        refine Wn.od (o_fa (r := ptr b860 0) rfl (fa25_0 _ _)) rfl ?_
        refine Wn.odr rfl (o_ld (k := 2) t3 rfl rfl rfl) rfl ?_
        refine Wn.od (o_fa (r := ptr b860 1) rfl (fa25_1 _ _)) rfl ?_
        refine Wn.od (o_ld (k := 2) t23 rfl rfl rfl) rfl ?_
        obtain ⟨l1023, h1022, hF⟩ := ob_some hF
        refine Wn.c (o_cq (q := b860) (j := 2) rfl rfl rfl rfl (fun m hm => f26_ok n l856 a858 c859 _ h1022 m (hm.rd (k := 3) rfl (.rd _ _ _ _ _)))) gn rfl ?_
        rintro ⟨⟨a1024, n1025⟩, hlow⟩
        refine Wn.len (k := 0) (xs := l1023) rfl ?_
        rintro rfl
        refine Wn.od (o_mv rfl) rfl ?_
        refine Wn.od (o_mv rfl) rfl ?_
        refine Wn.od (o_bi rfl rfl (bin_add _ _ _)) rfl ?_
        obtain ⟨l1026, h1027, hF⟩ := ob_some hF
        refine Wn.ul (q := b860) (j := 3) (α := Option Addr × Nat) (V := fun y => .slice y.1 y.2 y.2) (N := fun y => pset [.sl a1024 2 l1023.length (l1023.map (eP (eI .i64) (eI .i64))), .obj b1021 (.cells [.int .i64 x1018, .int .i64 x1019] .own), .ro b1016 o1017 2 (((l856.drop (0 : Int).toNat).take ((mi (l856.length : Int) (40 : Int) : Int).toNat - (0 : Int).toNat)).length) (((l856.drop (0 : Int).toNat).take ((mi (l856.length : Int) (40 : Int) : Int).toNat - (0 : Int).toNat)).map (eP (eI .i64) (eI .i64))), .obj b860 (.cells [.int .i64 x855, .slice a858 l856.length c859] .own), .rd a858 c859 2 l856.length (l856.map (eP (eI .i64) (eI .i64))), .sl a866 2 l865.length (l865.map (eP (eI .i64) (eI .i64))), .rd (some ⟨b1016, o1017, none⟩) c892 2 (((l856.drop (0 : Int).toNat).take ((mi (l856.length : Int) (40 : Int) : Int).toNat - (0 : Int).toNat)).length) (((l856.drop (0 : Int).toNat).take ((mi (l856.length : Int) (40 : Int) : Int).toNat - (0 : Int).toNat)).map (eP (eI .i64) (eI .i64)))] 0 (.sl y.1 2 y.2 (l1026.map (eP (eI .i64) (eI .i64))))) rfl rfl rfl rfl (fun m hm => f49_low n hm (k := 0) rfl h1027 hlow) rfl ?_
        rintro ⟨a1028, n1029⟩
        refine Wn.len (k := 0) (xs := l1026) rfl ?_
        rintro rfl
        refine Wn.od (o_bd rfl z25 rfl (bd_s bs25 rfl rfl rfl)) rfl ?_
        refine Wn.x (o_al z25 rfl) gn rfl fun b1030 => ?_
        refine Wn.o0 (o_st (k := 0) t25 rfl rfl rfl rfl rfl) ?_
        refine Wn.nil (fun m hm => OkP.rc rfl rfl rfl (OkP.rl rfl rfl rfl (Nat.le_refl _) OkP.nil)) ?_
        refine At.tn <| Wk.seq ?_
        obtain ⟨v1034, h1038, hF⟩ := ob_some hF
        refine Wk.cut (G := (fun (r : Bool) (g : Unit) => match r, g with | v1034, _ => ⟨.normal, [(2, .int .u64 ((x18 : Nat) : Int)), (8, ptr b860 0), (9, .int .u64 ((y862 : Nat) : Int)), (10, .slice a866 l865.length l865.length), (12, .int .u64 ((r870 : Nat) : Int)), (14, .int .i64 r889), (16, ptr b1021 0), (17, ptr b1030 0), (18, .bool v1034), (24, .slice a26 l24.length l24.length), (25, .int .i64 (l24.length : Int)), (26, .int .i64 v31), (69, .slice (some ⟨b1016, o1017, none⟩) (((l856.drop (0 : Int).toNat).take ((mi (l856.length : Int) (40 : Int) : Int).toNat - (0 : Int).toNat)).length) c892), (70, .int .i64 (((l856.drop (0 : Int).toNat).take ((mi (l856.length : Int) (40 : Int) : Int).toNat - (0 : Int).toNat)).length : Int)), (71, .int .i64 v894)], [.obj b860 (.cells [.int .i64 x855, .slice a858 l856.length c859] .own), .rd a858 c859 2 l856.length (l856.map (eP (eI .i64) (eI .i64))), .sl a866 2 l865.length (l865.map (eP (eI .i64) (eI .i64))), .obj b1021 (.cells [.int .i64 x1018, .int .i64 x1019] .own), .obj b1030 (.cells [.int .i64 x855, .slice a1028 l1026.length l1026.length] .own), .sl a1028 2 l1026.length (l1026.map (eP (eI .i64) (eI .i64))), .ro b1016 o1017 2 (((l856.drop (0 : Int).toNat).take ((mi (l856.length : Int) (40 : Int) : Int).toNat - (0 : Int).toNat)).length) (((l856.drop (0 : Int).toNat).take ((mi (l856.length : Int) (40 : Int) : Int).toNat - (0 : Int).toNat)).map (eP (eI .i64) (eI .i64))), .rd (some ⟨b1016, o1017, none⟩) c892 2 (((l856.drop (0 : Int).toNat).take ((mi (l856.length : Int) (40 : Int) : Int).toNat - (0 : Int).toNat)).length) (((l856.drop (0 : Int).toNat).take ((mi (l856.length : Int) (40 : Int) : Int).toNat - (0 : Int).toNat)).map (eP (eI .i64) (eI .i64)))]⟩) v1034) ?_ ?_
        ·clear hF
         revert v1034
         intro r hF
         refine Wk.region <| Wo.od (o_mv rfl) rfl ?_
         refine Wo.od (o_ia (r := ptr b1021 0) rfl rfl (ia_c ar26 (i := 0) (by decide))) rfl ?_
         refine Wo.od (o_ld (k := 2) t3 rfl rfl rfl) rfl ?_
         obtain ⟨h1035, hF⟩ := gd_some hF
         refine Wo.od (o_bi rfl rfl (ub_shr _ _ h1035)) rfl ?_
         refine Wo.od (o_bi rfl rfl (ub_and rfl _ _)) rfl ?_
         refine Wo.od (o_bi rfl rfl (ub_eql _ _)) rfl ?_
         refine Wo.od (o_mv rfl) rfl ?_
         rcases br_some hF with ⟨h1036, hF⟩ | ⟨h1036, hF⟩
         ·refine Wo.og (o_mv rfl) (gg rfl rfl (eTT h1036)) rfl ?_
          refine Wo.og (o_ia (r := ptr b1021 1) rfl rfl (ia_c ar26 (i := 1) (by decide))) (gg rfl rfl (eTT h1036)) rfl ?_
          refine Wo.og (o_ld (k := 2) t3 rfl rfl rfl) (gg rfl rfl (eTT h1036)) rfl ?_
          obtain ⟨h1037, hF⟩ := gd_some hF
          refine Wo.og (o_bi rfl rfl (ub_shr _ _ h1037)) (gg rfl rfl (eTT h1036)) rfl ?_
          refine Wo.og (o_bi rfl rfl (ub_and rfl _ _)) (gg rfl rfl (eTT h1036)) rfl ?_
          refine Wo.og (o_bi rfl rfl (ub_eql _ _)) (gg rfl rfl (eTT h1036)) rfl ?_
          refine Wo.od (o_pt rfl h1036 rfl) rfl ?_
          refine Wo.od (o_as rfl) rfl ?_
          refine Wo.nil ?_
          cases hF
          exact At.en () rfl (sc rfl (sc rfl (sc rfl (sc rfl (sc rfl (sc rfl (sc rfl (sc rfl (sc rfl (sc rfl (sc rfl (sc rfl (sc rfl (sc rfl (sc rfl sn))))))))))))))) (Turn.picks [4, 5, 6, 2, 0, 1, 3, 7] rfl rfl)
         ·refine Wo.s (gg rfl rfl (eFT h1036)) rfl ?_
          refine Wo.s (gg rfl rfl (eFT h1036)) rfl ?_
          refine Wo.s (gg rfl rfl (eFT h1036)) rfl ?_
          refine Wo.s (gg rfl rfl (eFT h1036)) rfl ?_
          refine Wo.s (gg rfl rfl (eFT h1036)) rfl ?_
          refine Wo.s (gg rfl rfl (eFT h1036)) rfl ?_
          refine Wo.od (o_pf rfl h1036 rfl) rfl ?_
          refine Wo.od (o_as rfl) rfl ?_
          refine Wo.nil ?_
          cases hF
          exact At.en () rfl (sc rfl (sc rfl (sc rfl (sc rfl (sc rfl (sc rfl (sc rfl (sc rfl (sc rfl (sc rfl (sc rfl (sc rfl (sc rfl (sc rfl (sc rfl sn))))))))))))))) (Turn.picks [4, 5, 6, 2, 0, 1, 3, 7] rfl rfl)
        ·clear h1038
         rintro ⟨⟩
         refine At.tn <| Wk.seq ?_
         obtain ⟨v1045, h1051, hF⟩ := ob_some hF
         refine Wk.cut (G := (fun (r : Bool) (g : Unit) => match r, g with | v1045, _ => ⟨.normal, [(2, .int .u64 ((x18 : Nat) : Int)), (8, ptr b860 0), (9, .int .u64 ((y862 : Nat) : Int)), (10, .slice a866 l865.length l865.length), (12, .int .u64 ((r870 : Nat) : Int)), (14, .int .i64 r889), (24, .slice a26 l24.length l24.length), (25, .int .i64 (l24.length : Int)), (26, .int .i64 v31), (69, .slice (some ⟨b1016, o1017, none⟩) (((l856.drop (0 : Int).toNat).take ((mi (l856.length : Int) (40 : Int) : Int).toNat - (0 : Int).toNat)).length) c892), (70, .int .i64 (((l856.drop (0 : Int).toNat).take ((mi (l856.length : Int) (40 : Int) : Int).toNat - (0 : Int).toNat)).length : Int)), (71, .int .i64 v894), (111, .bool v1045)], [.obj b860 (.cells [.int .i64 x855, .slice a858 l856.length c859] .own), .rd a858 c859 2 l856.length (l856.map (eP (eI .i64) (eI .i64))), .sl a866 2 l865.length (l865.map (eP (eI .i64) (eI .i64))), .ro b1016 o1017 2 (((l856.drop (0 : Int).toNat).take ((mi (l856.length : Int) (40 : Int) : Int).toNat - (0 : Int).toNat)).length) (((l856.drop (0 : Int).toNat).take ((mi (l856.length : Int) (40 : Int) : Int).toNat - (0 : Int).toNat)).map (eP (eI .i64) (eI .i64))), .rd (some ⟨b1016, o1017, none⟩) c892 2 (((l856.drop (0 : Int).toNat).take ((mi (l856.length : Int) (40 : Int) : Int).toNat - (0 : Int).toNat)).length) (((l856.drop (0 : Int).toNat).take ((mi (l856.length : Int) (40 : Int) : Int).toNat - (0 : Int).toNat)).map (eP (eI .i64) (eI .i64)))]⟩) v1045) ?_ ?_
         ·clear hF
          revert v1045
          intro r hF
          refine Wk.region <| Wo.od (o_mv rfl) rfl ?_
          refine Wo.od (o_ld (k := 3) t26 rfl rfl rfl) rfl ?_
          obtain ⟨r1047, h1046, hF⟩ := ob_some hF
          refine Wo.x (o_cl rfl rfl (fun m hm => f48_ok n l865 x1018 x1019 a866 l865.length _ h1046 m (hm.rd (k := 2) rfl (.sl _ _ _ _))) fun _ => rfl) gn rfl ?_
          rintro ⟨⟩
          refine Wo.od (o_mv rfl) rfl ?_
          refine Wo.od (o_mv rfl) rfl ?_
          rcases br_some hF with ⟨h1048, hF⟩ | ⟨h1048, hF⟩
          ·refine Wo.og (o_ld (k := 4) t25 rfl rfl rfl) (gg rfl rfl (eTT h1048)) rfl ?_
           refine Wo.og (o_mv rfl) (gg rfl rfl (eTT h1048)) rfl ?_
           obtain ⟨r1050, h1049, hF⟩ := ob_some hF
           refine Wo.x (o_cl rfl rfl (fun m hm => f25_ok n x855 l1026 y862 a1028 l1026.length _ h1049 m (hG.ext hm.ext) (hm.rd (k := 5) rfl (.sl _ _ _ _))) fun _ => rfl) (gg rfl rfl (eTT h1048)) rfl ?_
           rintro ⟨⟩
           refine Wo.og (o_mv rfl) (gg rfl rfl (eTT h1048)) rfl ?_
           refine Wo.og (o_bi rfl rfl (bin_gtr _ _ _)) (gg rfl rfl (eTT h1048)) rfl ?_
           refine Wo.od (o_pt rfl h1048 rfl) rfl ?_
           refine Wo.od (o_bi rfl rfl (bb_ne u4)) rfl ?_
           refine Wo.nil ?_
           cases hF
           exact At.en () rfl (sc rfl (sc rfl (sc rfl (sc rfl (sc rfl (sc rfl (sc rfl (sc rfl (sc rfl (sc rfl (sc rfl (sc rfl (sc rfl sn))))))))))))) (Turn.picks [0, 1, 2, 6, 7] rfl rfl)
          ·refine Wo.s (gg rfl rfl (eFT h1048)) rfl ?_
           refine Wo.s (gg rfl rfl (eFT h1048)) rfl ?_
           refine Wo.s (gg rfl rfl (eFT h1048)) rfl ?_
           refine Wo.s (gg rfl rfl (eFT h1048)) rfl ?_
           refine Wo.s (gg rfl rfl (eFT h1048)) rfl ?_
           refine Wo.od (o_pf rfl h1048 rfl) rfl ?_
           refine Wo.od (o_bi rfl rfl (bb_ne u4)) rfl ?_
           refine Wo.nil ?_
           cases hF
           exact At.en () rfl (sc rfl (sc rfl (sc rfl (sc rfl (sc rfl (sc rfl (sc rfl (sc rfl (sc rfl (sc rfl (sc rfl (sc rfl (sc rfl sn))))))))))))) (Turn.picks [0, 1, 2, 6, 7] rfl rfl)
         ·clear h1051
          rintro ⟨⟩
          refine At.tn ?_
          rcases br_some hF with ⟨h1053, hF⟩ | ⟨h1053, hF⟩
          ·refine Wk.condT rfl h1053 ?_
           refine Wk.seq <| Wk.region <| Wo.od (o_as rfl) rfl ?_
           refine Wo.nil <| At.tn <| Wk.ret <| At.br <| At.tr ?_
           cases hF
           exact At.en () rfl (sc rfl sn) (Turn.picks [] rfl rfl)
          ·refine Wk.condF rfl h1053 ?_
           refine Wk.skip <| At.bn <| At.tn <| Wk.region <| Wo.od (o_bi rfl rfl (bin_add _ _ _)) rfl ?_
           refine Wo.od (o_mv rfl) rfl ?_
           refine Wo.nil ?_
           cases hF
           exact At.en () rfl (sc rfl (sc rfl (sc rfl (sc rfl (sc rfl (sc rfl (sc rfl (sc rfl (sc rfl (sc rfl (sc rfl (sc rfl sn)))))))))))) (Turn.picks [0, 1, 2, 4] rfl rfl)
       ·refine Wk.condF rfl h975 ?_
        refine Wk.exit <| At.te ?_
        cases hF
        exact At.en () rfl (sc rfl (sc rfl (sc rfl (sc rfl (sc rfl (sc rfl (sc rfl (sc rfl sn)))))))) (Turn.picks [0, 1] rfl rfl)
      ·clear h1054
       rcases r1055 with _ | _
       ·rintro ⟨⟩
        refine At.br <| At.tr <| At.br <| At.tr ?_
        cases hF
        exact At.en () rfl (sc rfl sn) (Turn.picks [] rfl rfl)
       ·rintro ⟨⟩
        refine At.be <| At.tn <| Wk.seq <| Wk.region <| Wo.od (o_fa (r := ptr b860 0) rfl (fa25_0 _ _)) rfl ?_
        refine Wo.od (o_ld (k := 0) t3 rfl rfl rfl) rfl ?_
        refine Wo.od (o_bu rfl rfl (bu_mi _ _)) rfl ?_
        refine Wo.od (o_mv rfl) rfl ?_
        refine Wo.nil <| At.tn <| Wk.block ?_
        obtain ⟨r1126, h1125, hF⟩ := ob_some hF
        refine Wk.cut (G := (fun (r : (Unit) ⊕ (Unit)) (g : Unit) => match r, g with | .inl _, _ => ⟨.ret, [(6, .bool false)], []⟩ | .inr _, _ => ⟨(.exit 4), [(2, .int .u64 ((x18 : Nat) : Int)), (24, .slice a26 l24.length l24.length), (25, .int .i64 (l24.length : Int)), (26, .int .i64 v31)], []⟩) r1126) ?_ ?_
        ·refine Wk.weak (fs' := [(2, .int .u64 ((x18 : Nat) : Int)), (8, ptr b860 0), (9, .int .u64 ((y862 : Nat) : Int)), (12, .int .u64 ((r870 : Nat) : Int)), (14, .int .i64 r889), (24, .slice a26 l24.length l24.length), (25, .int .i64 (l24.length : Int)), (26, .int .i64 v31), (115, .int .i64 (mi x855 (24 : Int))), (116, .int .i64 0)]) (ps' := [.obj b860 (.cells [.int .i64 x855, .slice a858 l856.length c859] .own), .rd a858 c859 2 l856.length (l856.map (eP (eI .i64) (eI .i64)))]) (sc rfl (sc rfl (sc rfl (sc rfl (sc rfl (sc rfl (sc rfl (sc rfl (sc rfl (sc rfl sn)))))))))) (Turn.picks [0, 1] rfl rfl) ?_
         refine Wk.loop (σ := Int) (ρ := (Unit) ⊕ (Unit)) (γ := Unit) (δ := fun _ => Unit) _ (fun (s : Int) (g : Unit) => match s, g with | v1057, _ => ⟨.normal, [(2, .int .u64 ((x18 : Nat) : Int)), (8, ptr b860 0), (9, .int .u64 ((y862 : Nat) : Int)), (12, .int .u64 ((r870 : Nat) : Int)), (14, .int .i64 r889), (24, .slice a26 l24.length l24.length), (25, .int .i64 (l24.length : Int)), (26, .int .i64 v31), (115, .int .i64 (mi x855 (24 : Int))), (116, .int .i64 v1057)], [.obj b860 (.cells [.int .i64 x855, .slice a858 l856.length c859] .own), .rd a858 c859 2 l856.length (l856.map (eP (eI .i64) (eI .i64)))]⟩) (fun (r : (Unit) ⊕ (Unit)) (g : Unit) => match r, g with | .inl _, _ => ⟨.ret, [(6, .bool false)], []⟩ | .inr _, _ => ⟨(.exit 4), [(2, .int .u64 ((x18 : Nat) : Int)), (24, .slice a26 l24.length l24.length), (25, .int .i64 (l24.length : Int)), (26, .int .i64 v31)], []⟩) ?_ (fun _ _ => rfl) (fun r d => by rcases r with _ | _ <;> (intro e; cases e)) _ _ _ h1125 ()
         clear hF h1125
         rintro v1057 ⟨⟩ r hF
         unfold L10_2 at hF
         refine Wk.seq <| Wk.region <| Wo.od (o_bi rfl rfl (bin_lss _ _ _)) rfl ?_
         refine Wo.nil <| At.tn <| Wk.seq ?_
         rcases br_some hF with ⟨h1092, hF⟩ | ⟨h1092, hF⟩
         ·refine Wk.condT rfl h1092 ?_
          refine Wk.skip <| At.tn <| Wk.seq <| Wk.block <| Wk.seq <| Wk.region <| Wo.od (o_mv rfl) rfl ?_
          refine Wo.od (o_as rfl) rfl ?_
          refine Wo.nil <| At.tn <| Wk.seq ?_
          obtain ⟨v1115, h1122, hF⟩ := ob_some hF
          refine Wk.cut (G := (fun (r : Bool) (g : Unit) => match r, g with | v1115, _ => ⟨.normal, [(2, .int .u64 ((x18 : Nat) : Int)), (8, ptr b860 0), (9, .int .u64 ((y862 : Nat) : Int)), (12, .int .u64 ((r870 : Nat) : Int)), (14, .int .i64 r889), (24, .slice a26 l24.length l24.length), (25, .int .i64 (l24.length : Int)), (26, .int .i64 v31), (115, .int .i64 (mi x855 (24 : Int))), (116, .int .i64 v1057), (139, .bool v1115)], [.obj b860 (.cells [.int .i64 x855, .slice a858 l856.length c859] .own), .rd a858 c859 2 l856.length (l856.map (eP (eI .i64) (eI .i64)))]⟩) v1115) ?_ ?_
          ·clear hF
           revert v1115
           intro r hF
           refine Wk.draw (by kernel_rfl) ?_
           refine Wo.od (o_mv rfl) rfl ?_
           refine Wo.od (o_mv rfl) rfl ?_
           obtain ⟨h1116, hF⟩ := gd_some hF
           refine Wo.od (o_bi rfl rfl (ub_shr _ _ h1116)) rfl ?_
           refine Wo.od (o_bi rfl rfl (ub_and rfl _ _)) rfl ?_
           refine Wo.od (o_bi rfl rfl (ub_eql _ _)) rfl ?_
           refine Wo.od (o_mv rfl) rfl ?_
           refine Wo.od (o_mv rfl) rfl ?_
           refine Wo.od (o_bi rfl rfl (ub_shr _ _ h1116)) rfl ?_
           refine Wo.od (o_bi rfl rfl (ub_and rfl _ _)) rfl ?_
           refine Wo.od (o_bi rfl rfl (ub_eql _ _)) rfl ?_
           refine Wo.od (o_mv rfl) rfl ?_
           rcases br_some hF with ⟨h1118, hF⟩ | ⟨h1118, hF⟩
           ·refine Wo.og (o_ld (k := 0) t25 rfl rfl rfl) (gg rfl rfl (eTT h1118)) rfl ?_
            refine Wo.og (o_mv rfl) (gg rfl rfl (eTT h1118)) rfl ?_
            refine Wo.og (o_mv rfl) (gg rfl rfl (eTT h1118)) rfl ?_
            refine Wo.og (o_bi rfl rfl (ub_shl rfl _ _ h1116)) (gg rfl rfl (eTT h1118)) rfl ?_
            refine Wo.og (o_bi rfl rfl (ub_andn rfl _ _)) (gg rfl rfl (eTT h1118)) rfl ?_
            obtain ⟨r1121, h1120, hF⟩ := ob_some hF
            refine Wo.x (o_cl rfl rfl (fun m hm => f25_ok n x855 l856 (uandn .u64 y862 (ushl .u64 1 v1057.toNat)) a858 c859 _ h1120 m (hG.ext hm.ext) (hm.rd (k := 1) rfl (.rd _ _ _ _ _))) fun _ => rfl) (gg rfl rfl (eTT h1118)) rfl ?_
            rintro ⟨⟩
            refine Wo.og (o_mv rfl) (gg rfl rfl (eTT h1118)) rfl ?_
            refine Wo.og (o_bi rfl rfl (bin_gtr _ _ _)) (gg rfl rfl (eTT h1118)) rfl ?_
            refine Wo.od (o_pt rfl h1118 rfl) rfl ?_
            refine Wo.od (o_bi rfl rfl (bb_ne u4)) rfl ?_
            refine Wo.nil ?_
            cases hF
            exact At.en () rfl (sc rfl (sc rfl (sc rfl (sc rfl (sc rfl (sc rfl (sc rfl (sc rfl (sc rfl (sc rfl (sc rfl sn))))))))))) (Turn.picks [0, 1] rfl rfl)
           ·refine Wo.s (gg rfl rfl (eFT h1118)) rfl ?_
            refine Wo.s (gg rfl rfl (eFT h1118)) rfl ?_
            refine Wo.s (gg rfl rfl (eFT h1118)) rfl ?_
            refine Wo.s (gg rfl rfl (eFT h1118)) rfl ?_
            refine Wo.s (gg rfl rfl (eFT h1118)) rfl ?_
            refine Wo.s (gg rfl rfl (eFT h1118)) rfl ?_
            refine Wo.s (gg rfl rfl (eFT h1118)) rfl ?_
            refine Wo.s (gg rfl rfl (eFT h1118)) rfl ?_
            refine Wo.od (o_pf rfl h1118 rfl) rfl ?_
            refine Wo.od (o_bi rfl rfl (bb_ne u4)) rfl ?_
            refine Wo.nil ?_
            cases hF
            exact At.en () rfl (sc rfl (sc rfl (sc rfl (sc rfl (sc rfl (sc rfl (sc rfl (sc rfl (sc rfl (sc rfl (sc rfl sn))))))))))) (Turn.picks [0, 1] rfl rfl)
          ·clear h1122
           rintro ⟨⟩
           refine At.tn ?_
           rcases br_some hF with ⟨h1124, hF⟩ | ⟨h1124, hF⟩
           ·refine Wk.condT rfl h1124 ?_
            refine Wk.seq <| Wk.region <| Wo.od (o_as rfl) rfl ?_
            refine Wo.nil <| At.tn <| Wk.ret <| At.br <| At.tr ?_
            cases hF
            exact At.en () rfl (sc rfl sn) (Turn.picks [] rfl rfl)
           ·refine Wk.condF rfl h1124 ?_
            refine Wk.skip <| At.bn <| At.tn <| Wk.region <| Wo.od (o_bi rfl rfl (bin_add _ _ _)) rfl ?_
            refine Wo.od (o_mv rfl) rfl ?_
            refine Wo.nil ?_
            cases hF
            exact At.en () rfl (sc rfl (sc rfl (sc rfl (sc rfl (sc rfl (sc rfl (sc rfl (sc rfl (sc rfl (sc rfl sn)))))))))) (Turn.picks [0, 1] rfl rfl)
         ·refine Wk.condF rfl h1092 ?_
          refine Wk.exit <| At.te ?_
          cases hF
          exact At.en () rfl (sc rfl (sc rfl (sc rfl (sc rfl sn)))) (Turn.picks [] rfl rfl)
        ·clear h1125
         rcases r1126 with _ | _
         ·rintro ⟨⟩
          refine At.br <| At.br <| At.tr ?_
          cases hF
          exact At.en () rfl (sc rfl sn) (Turn.picks [] rfl rfl)
         ·rintro ⟨⟩
          refine At.be <| At.bn <| At.tn <| Wk.region <| Wo.od (o_bi rfl rfl (bin_add _ _ _)) rfl ?_
          refine Wo.od (o_mv rfl) rfl ?_
          refine Wo.nil ?_
          cases hF
          exact At.en () rfl (sc rfl (sc rfl (sc rfl (sc rfl sn)))) (Turn.picks [] rfl rfl)
   ·refine Wk.condF rfl h580 ?_
    refine Wk.exit <| At.te ?_
    cases hF
    exact At.en () rfl sn (Turn.picks [] rfl rfl)
  ·clear h1127
   rcases r1128 with _ | _
   ·rintro ⟨⟩
    refine At.br <| At.tr ?_
    cases hF
    exact At.ret (.tmp rfl .nil) fun m' hm => ⟨(), rfl, (Hp.base h28 ((Turn.picks [] rfl rfl) m' hm))⟩
   ·rintro ⟨⟩
    refine At.be <| At.tn <| Wk.seq <| Wk.region <| Wo.od (o_as rfl) rfl ?_
    refine Wo.nil <| At.tn <| Wk.ret ?_
    cases hF
    exact At.ret (.tmp rfl .nil) fun m' hm => ⟨(), rfl, (Hp.base h28 ((Turn.picks [] rfl rfl) m' hm))⟩
end Go.Proofs.YtpclggcpobakhaaDoor.W10
end

section
namespace Go.Proofs.YtpclggcpobakhaaDoor
open Go Go.Ab Go.Ab.W
section
variable {α β σ ρ : Type}
theorem br_t (a b : Option β) : br true a b = a := rfl
theorem br_f (a b : Option β) : br false a b = b := rfl
theorem gd_t (a : Option β) : gd true a = a := rfl
theorem ob_s (x : α) (f : α → Option β) : ob (some x) f = f x := rfl
theorem br_dt {p : Prop} [Decidable p] (h : p) (a b : Option β) : br (decide p) a b = a := by rw [decide_eq_true h]; rfl
theorem br_df {p : Prop} [Decidable p] (h : ¬ p) (a b : Option β) : br (decide p) a b = b := by rw [decide_eq_false h]; rfl
theorem br_ite (c : Bool) (a b : Option β) : br c a b = if c then a else b := by cases c <;> rfl
theorem gd_dt {p : Prop} [Decidable p] (h : p) (a : Option β) : gd (decide p) a = a := by rw [decide_eq_true h]; rfl
theorem inB_nat {i n : Nat} (h : i < n) : inB (i : Int) n = true := decide_eq_true ⟨Int.natCast_nonneg i, by simpa using h⟩
theorem wrap_in {x : Int} (h1 : -9223372036854775808 ≤ x) (h2 : x < 9223372036854775808) : IntKind.wrap .i64 x = x := wrap_i64 x h1 (by omega)
theorem wrap_succ {i : Nat} (h : i < 4611686018427387904) : IntKind.wrap .i64 ((i : Int) + 1) = ((i + 1 : Nat) : Int) := by rw [wrap_in (by omega) (by omega)]; rfl
theorem lp_next {body : σ → Option (σ ⊕ ρ)} {n : Nat} {s s' : σ} (h : body s = some (.inl s')) : lpN body (n + 1) s = lpN body n s' := by simp only [lpN, h]
theorem lp_end {body : σ → Option (σ ⊕ ρ)} {n : Nat} {s : σ} {r : ρ} (h : body s = some (.inr r)) : lpN body (n + 1) s = some r := by simp only [lpN, h]
end
def okEp (N : Int) : Int × Int → List (Int × Int) → Bool
 | _, [] => true
 | p, e :: es => decide (0 ≤ e.1 ∧ e.1 < e.2 ∧ e.2 < N) && decide (p.1 < e.1 ∨ p.1 = e.1 ∧ p.2 < e.2) && okEp N e es
def okG (N : Int) (es : List (Int × Int)) : Bool := decide (1 ≤ N ∧ N ≤ 64 ∧ es.length ≤ 200) && okEp N (-1, -1) es
def ckG (N : Int) (es : List (Int × Int)) : Int := if okG N es then 0 else 180
theorem F94_eq (n : Nat) (x : Int) : F94 n x = some false := by unfold F94; simp
theorem F81_eq (n : Nat) (x y : Int) : F81 n x y = some (if x < y then -1 else if y < x then 1 else 0) := by
 unfold F81
 simp only [F94_eq, ob_s, br_f]
 rw [br_ite, br_ite]
 by_cases h : x < y
 ·simp [h]
 ·by_cases h' : y < x <;> simp [h, h']
theorem F64_eq (n : Nat) (a b c d : Int) (hn : 2 < n) : F64 n [a, b] [c, d] = some (if a < c then -1 else if c < a then 1 else if b < d then -1 else if d < b then 1 else 0) := by
 obtain ⟨n, rfl⟩ : ∃ n', n = n' + 3 := ⟨n - 3, by omega⟩
 have L0 : L64_1 (n + 3) [a, b] [c, d] 0 = if a < c then some (.inr (.inl (-1))) else if c < a then some (.inr (.inl 1)) else some (.inl 1) := by
  unfold L64_1
  simp only [List.length_cons, List.length_nil]
  rw [br_dt (by decide), show inB 0 (0 + 1 + 1) = true by decide, gd_t]
  simp only [Int.toNat_zero, List.getElem?_cons_zero, ob_s]
  rw [br_df (by decide), gd_t]
  simp only [F81_eq, ob_s]
  by_cases h : a < c
  ·simp [h, br_t]
  ·by_cases h' : c < a
   ·simp [h, h', br_t]
   ·simp only [h, h', if_false, decide_true, Bool.not_true, br_f]
    rw [wrap_in (by decide) (by decide)]; rfl
 have L1 : L64_1 (n + 3) [a, b] [c, d] 1 = if b < d then some (.inr (.inl (-1))) else if d < b then some (.inr (.inl 1)) else some (.inl 2) := by
  unfold L64_1
  simp only [List.length_cons, List.length_nil]
  rw [br_dt (by decide), show inB 1 (0 + 1 + 1) = true by decide, gd_t]
  simp only [show (1 : Int).toNat = 1 from rfl, List.getElem?_cons_succ, List.getElem?_cons_zero, ob_s]
  rw [br_df (by decide), gd_t]
  simp only [F81_eq, ob_s]
  by_cases h : b < d
  ·simp [h, br_t]
  ·by_cases h' : d < b
   ·simp [h, h', br_t]
   ·simp only [h, h', if_false, decide_true, Bool.not_true, br_f]
    rw [wrap_in (by decide) (by decide)]; rfl
 have L2 : L64_1 (n + 3) [a, b] [c, d] 2 = some (.inr (.inr ())) := by
  unfold L64_1
  simp only [List.length_cons, List.length_nil]
  rw [br_df (by decide)]
 unfold F64
 by_cases h1 : a < c
 ·rw [if_pos h1] at L0 ⊢
  rw [lp_end L0]; rfl
 ·rw [if_neg h1] at L0 ⊢
  by_cases h2 : c < a
  ·rw [if_pos h2] at L0 ⊢
   rw [lp_end L0]; rfl
  ·rw [if_neg h2] at L0 ⊢
   rw [lp_next L0]
   by_cases h3 : b < d
   ·rw [if_pos h3] at L1 ⊢
    rw [lp_end L1]; rfl
   ·rw [if_neg h3] at L1 ⊢
    by_cases h4 : d < b
    ·rw [if_pos h4] at L1 ⊢
     rw [lp_end L1]; rfl
    ·rw [if_neg h4] at L1 ⊢
     rw [lp_next L1, lp_end L2, ob_s]
     simp only [List.length_cons, List.length_nil]
     rfl
def stepOk (N : Int) (p e : Int × Int) : Bool := decide (0 ≤ e.1 ∧ e.1 < e.2 ∧ e.2 < N) && decide (p.1 < e.1 ∨ p.1 = e.1 ∧ p.2 < e.2)
theorem okE_cons (N : Int) (p e : Int × Int) (es : List (Int × Int)) : okEp N p (e :: es) = (stepOk N p e && okEp N e es) := rfl
theorem L23_step (n : Nat) (l2 : List (Int × Int)) (N : Int) (p : Int × Int) (i : Nat) (e : Int × Int) (hn : 2 < n) (hi : l2[i]? = some e) (hb : i < 4611686018427387904) :
  L23_1 n l2 N (p.1, p.2, (i : Int)) = if stepOk N p e then some (.inl (e.1, e.2, ((i + 1 : Nat) : Int))) else some (.inr (.inl ())) := by
 obtain ⟨p1, p2⟩ := p
 obtain ⟨a, b⟩ := e
 have a1 : i < l2.length := (List.getElem?_eq_some_iff.1 hi).1
 have e1 : l2[((i : Nat) : Int).toNat]? = some (a, b) := by simpa using hi
 have c1 : decide (((i : Nat) : Int) < (l2.length : Int)) = true := decide_eq_true (by omega)
 simp only [L23_1, c1, br_t, inB_nat a1, gd_t, e1, ob_s, F64_eq n _ _ _ _ hn, wrap_succ hb]
 by_cases h1 : a < 0
 ·have : stepOk N (p1, p2) (a, b) = false := by simp [stepOk]; omega
  rw [this, br_dt h1, ob_s, br_t]; rfl
 ·rw [br_df h1]
  by_cases h2 : b ≤ a
  ·have : stepOk N (p1, p2) (a, b) = false := by simp [stepOk]; omega
   rw [this, br_dt h2, ob_s, br_t]; rfl
  ·rw [br_df h2]
   by_cases h3 : N ≤ b
   ·have : stepOk N (p1, p2) (a, b) = false := by simp [stepOk]; omega
    rw [this, br_dt h3, ob_s, br_t]; rfl
   ·rw [br_df h3, ob_s]
    by_cases h4 : p1 < a ∨ p1 = a ∧ p2 < b
    ·have : stepOk N (p1, p2) (a, b) = true := by simp [stepOk]; omega
     have h5 : ¬ (0 ≤ (if p1 < a then (-1 : Int) else if a < p1 then 1 else if p2 < b then -1 else if b < p2 then 1 else 0)) := by
      rcases h4 with h4 | ⟨h4, h5⟩
      ·rw [if_pos h4]; decide
      ·rw [if_neg (by omega), if_neg (by omega), if_pos h5]; decide
     rw [this, br_df h5]; rfl
    ·have : stepOk N (p1, p2) (a, b) = false := by simp [stepOk]; omega
     have h5 : 0 ≤ (if p1 < a then (-1 : Int) else if a < p1 then 1 else if p2 < b then -1 else if b < p2 then 1 else 0) := by
      rw [if_neg (by omega)]
      by_cases h6 : a < p1
      ·rw [if_pos h6]; decide
      ·rw [if_neg h6, if_neg (by omega)]; split <;> decide
     rw [this, br_dt h5]; rfl
theorem L23_eq (n0 : Nat) (l2 : List (Int × Int)) (N : Int) (hn : 2 < n0) (hl : l2.length < 4611686018427387904) : ∀ k i p n, i + k = l2.length → k < n → lpN (L23_1 n0 l2 N) n (p.1, p.2, (i : Int)) = some (if okEp N p (l2.drop i) then .inr () else .inl ()) := by
 intro k
 induction k with
 | zero =>
  intro i p n hi hk
  obtain ⟨n, rfl⟩ : ∃ n', n = n' + 1 := ⟨n - 1, by omega⟩
  rw [List.drop_of_length_le (by omega)]
  exact lp_end (by simp only [L23_1]; rw [br_df (by omega)]; rfl)
 | succ k ih =>
  intro i p n hi hk
  obtain ⟨n, rfl⟩ : ∃ n', n = n' + 1 := ⟨n - 1, by omega⟩
  have a1 : i < l2.length := by omega
  have hs := L23_step n0 l2 N p i l2[i] hn (by simp [a1]) (by omega)
  rw [List.drop_eq_getElem_cons a1, okE_cons]
  by_cases h : stepOk N p l2[i] = true
  ·rw [if_pos h] at hs
   rw [lp_next hs, ih (i + 1) l2[i] n (by omega) (by omega), h, Bool.true_and]
  ·rw [if_neg h] at hs
   rw [lp_end hs]
   simp only [Bool.not_eq_true] at h
   rw [h]; rfl
theorem head_eq (N : Int) (len : Nat) : (br (decide (N < 1)) (some true) (br (decide (64 < N)) (some true) (some (decide (200 < (len : Int)))))) = some (!decide (1 ≤ N ∧ N ≤ 64 ∧ len ≤ 200)) := by
 rw [br_ite, br_ite]
 by_cases h1 : N < 1
 ·have : ¬ (1 ≤ N ∧ N ≤ 64 ∧ len ≤ 200) := by omega
  simp [h1, this]
 ·by_cases h2 : 64 < N
  ·have : ¬ (1 ≤ N ∧ N ≤ 64 ∧ len ≤ 200) := by omega
   simp [h1, h2, this]
  ·by_cases h3 : 200 < (len : Int)
   ·have : ¬ (1 ≤ N ∧ N ≤ 64 ∧ len ≤ 200) := by omega
    simp only [h1, h2, h3, this, decide_true, decide_false, Bool.false_eq_true, if_false, Bool.not_false]
   ·have : (1 ≤ N ∧ N ≤ 64 ∧ len ≤ 200) := by omega
    simp only [h1, h2, h3, this, decide_true, decide_false, Bool.false_eq_true, if_false, Bool.not_true, and_self]
theorem F23_eq (n : Nat) (N : Int) (es : List (Int × Int)) (hn : 2 < n) (hl : es.length < 4611686018427387904) (hk : es.length < n) : F23 n N es = some (ckG N es) := by
 unfold F23
 rw [head_eq, ob_s]
 unfold ckG okG
 by_cases h : 1 ≤ N ∧ N ≤ 64 ∧ es.length ≤ 200
 ·rw [decide_eq_true h, Bool.not_true, br_f, Bool.true_and]
  have := L23_eq n es N hn hl es.length 0 (-1, -1) n (by omega) hk
  rw [List.drop_zero] at this
  rw [show lpN (L23_1 n es N) n (-1, -1, 0) = _ from this, ob_s]
  by_cases h2 : okEp N (-1, -1) es = true
  ·rw [if_pos h2, if_pos h2]
  ·rw [if_neg h2, if_neg h2]
 ·rw [decide_eq_false h, Bool.not_false, br_t, Bool.false_and]; rfl
def prevOf (l : List (Int × Int)) (i : Nat) (p : Int × Int) : Prop := (i = 0 ∧ p = (-1, -1)) ∨ (0 < i ∧ l[i - 1]? = some p)
theorem L43_step (n : Nat) (l2 : List (Int × Int)) (N : Int) (p : Int × Int) (i : Nat) (e : Int × Int) (hp : prevOf l2 i p) (hi : l2[i]? = some e) (hb : i < 4611686018427387904) :
  L43_1 n l2 N (i : Int) = if stepOk N p e then some (.inl ((i + 1 : Nat) : Int)) else some (.inr (.inl ())) := by
 obtain ⟨p1, p2⟩ := p
 obtain ⟨a, b⟩ := e
 have a1 : i < l2.length := (List.getElem?_eq_some_iff.1 hi).1
 have e1 : l2[((i : Nat) : Int).toNat]? = some (a, b) := by simpa using hi
 have c1 : decide (((i : Nat) : Int) < (l2.length : Int)) = true := decide_eq_true (by omega)
 simp only [L43_1, c1, br_t, inB_nat a1, gd_t, e1, ob_s, wrap_succ hb]
 by_cases h1 : a < 0
 ·have : stepOk N (p1, p2) (a, b) = false := by simp [stepOk]; omega
  rw [this, br_dt h1, ob_s, br_t]; rfl
 ·rw [br_df h1]
  by_cases h2 : b ≤ a
  ·have : stepOk N (p1, p2) (a, b) = false := by simp [stepOk]; omega
   rw [this, br_dt h2, ob_s, br_t]; rfl
  ·rw [br_df h2, ob_s]
   by_cases h3 : N ≤ b
   ·have : stepOk N (p1, p2) (a, b) = false := by simp [stepOk]; omega
    rw [this, br_dt h3]; rfl
   ·rw [br_df h3]
    rcases hp with ⟨rfl, h4⟩ | ⟨h0, h4⟩
    ·cases h4
     have : stepOk N (-1, -1) (a, b) = true := by simp [stepOk]; omega
     rw [this, br_df (by omega), ob_s, br_f]; rfl
    ·have w1 : IntKind.wrap .i64 ((i : Int) - 1) = ((i - 1 : Nat) : Int) := by rw [wrap_in (by omega) (by omega)]; omega
     have e2 : l2[((i - 1 : Nat) : Int).toNat]? = some (p1, p2) := by simpa using h4
     rw [br_dt (by omega), w1, inB_nat (by omega : i - 1 < l2.length), gd_t, e2, ob_s]
     simp only [gd_t]
     by_cases h5 : a < p1
     ·have : stepOk N (p1, p2) (a, b) = false := by simp [stepOk]; omega
      rw [this, br_dt h5, ob_s, br_t]; rfl
     ·rw [br_df h5]
      by_cases h6 : p1 = a
      ·rw [br_dt h6, ob_s]
       by_cases h7 : b ≤ p2
       ·have : stepOk N (p1, p2) (a, b) = false := by simp [stepOk]; omega
        rw [this, br_dt h7]; rfl
       ·have : stepOk N (p1, p2) (a, b) = true := by simp [stepOk]; omega
        rw [this, br_df h7]; rfl
      ·have : stepOk N (p1, p2) (a, b) = true := by simp [stepOk]; omega
       rw [this, br_df h6, ob_s, br_f]; rfl
theorem L43_eq (n0 : Nat) (l2 : List (Int × Int)) (N : Int) (hl : l2.length < 4611686018427387904) : ∀ k i p n, prevOf l2 i p → i + k = l2.length → k < n → lpN (L43_1 n0 l2 N) n (i : Int) = some (if okEp N p (l2.drop i) then .inr () else .inl ()) := by
 intro k
 induction k with
 | zero =>
  intro i p n hp hi hk
  obtain ⟨n, rfl⟩ : ∃ n', n = n' + 1 := ⟨n - 1, by omega⟩
  rw [List.drop_of_length_le (by omega)]
  exact lp_end (by simp only [L43_1]; rw [br_df (by omega)]; rfl)
 | succ k ih =>
  intro i p n hp hi hk
  obtain ⟨n, rfl⟩ : ∃ n', n = n' + 1 := ⟨n - 1, by omega⟩
  have a1 : i < l2.length := by omega
  have hs := L43_step n0 l2 N p i l2[i] hp (by simp [a1]) (by omega)
  rw [List.drop_eq_getElem_cons a1, okE_cons]
  by_cases h : stepOk N p l2[i] = true
  ·rw [if_pos h] at hs
   rw [lp_next hs, ih (i + 1) l2[i] n (.inr ⟨by omega, by simp [a1]⟩) (by omega) (by omega), h, Bool.true_and]
  ·rw [if_neg h] at hs
   rw [lp_end hs]
   simp only [Bool.not_eq_true] at h
   rw [h]; rfl
theorem F43_eq (n : Nat) (N : Int) (es : List (Int × Int)) (hl : es.length < 4611686018427387904) (hk : es.length < n) : F43 n N es = some (ckG N es) := by
 unfold F43
 rw [head_eq, ob_s]
 unfold ckG okG
 by_cases h : 1 ≤ N ∧ N ≤ 64 ∧ es.length ≤ 200
 ·rw [decide_eq_true h, Bool.not_true, br_f, Bool.true_and]
  have := L43_eq n es N hl es.length 0 (-1, -1) n (.inl ⟨rfl, rfl⟩) (by omega) hk
  rw [List.drop_zero] at this
  rw [show lpN (L43_1 n es N) n 0 = _ from this, ob_s]
  by_cases h2 : okEp N (-1, -1) es = true
  ·rw [if_pos h2, if_pos h2]
  ·rw [if_neg h2, if_neg h2]
 ·rw [decide_eq_false h, Bool.not_false, br_t, Bool.false_and]; rfl
end Go.Proofs.YtpclggcpobakhaaDoor
end

section
namespace Go.Proofs.YtpclggcpobakhaaDoor
open Go Go.Ab Go.Ab.W
theorem lp_tot {σ ρ : Type} {body : σ → Option (σ ⊕ ρ)} {R : ρ → Prop} (I : Nat → σ → Prop) (h : ∀ k s, I k s → (∃ s', body s = some (.inl s') ∧ ∃ k', k' < k ∧ I k' s') ∨ ∃ r, body s = some (.inr r) ∧ R r) : ∀ k s n, I k s → k < n → ∃ r, lpN body n s = some r ∧ R r := by
 intro k
 induction k using Nat.strongRecOn with
 | _ k ih =>
  intro s n hI hk
  obtain ⟨n, rfl⟩ : ∃ n', n = n' + 1 := ⟨n - 1, by omega⟩
  rcases h k s hI with ⟨s', h1, k', h2, h3⟩ | ⟨r, h1, h2⟩
  ·obtain ⟨r, h4, h5⟩ := ih k' h2 s' n h3 (by omega)
   exact ⟨r, by rw [lp_next h1]; exact h4, h5⟩
  ·exact ⟨r, lp_end h1, h2⟩
theorem br_bool {c : Bool} {a b : Option Bool} (ha : c = true → ∃ x, a = some x) (hb : c = false → ∃ x, b = some x) : ∃ x, br c a b = some x := by
 cases c with
 | true => exact ha rfl
 | false => exact hb rfl
theorem some_b (x : Bool) : ∃ y, some x = some y := ⟨x, rfl⟩
theorem lim_of {n : Nat} (h : n ≤ 1073741824) : lim n = true := Nat.ble_eq_true_of_le h
theorem L40_1_tot (n0 : Nat) (l4 : List (Nat × Nat)) (N a b : Int) (hN : N ≠ 0) (v : Bool) (n : Nat) (hn : 3 < n) : ∃ r, lpN (L40_1 n0 l4 N a b) n (v, 0) = some r := by
 obtain ⟨r, h, _⟩ := lp_tot (body := L40_1 n0 l4 N a b) (R := fun _ => True) (fun k s => 0 ≤ s.2 ∧ s.2 + k = 3) (fun k s hI => by
  obtain ⟨v, i⟩ := s
  obtain ⟨h1, h2⟩ := hI
  simp only at h1 h2
  simp only [L40_1]
  by_cases c1 : i < (l4.length : Int)
  ·rw [br_dt c1, ob_s]
   by_cases c2 : i < 3
   ·rw [decide_eq_true c2, br_t]
    have hb : inB i l4.length = true := decide_eq_true ⟨h1, by omega⟩
    have hlt : i.toNat < l4.length := by omega
    have he : l4[i.toNat]? = some l4[i.toNat] := by simp [hlt]
    rw [hb, gd_t, he, ob_s]
    generalize l4[i.toNat] = e
    obtain ⟨x, y⟩ := e
    simp only [gd_t]
    rw [gd_dt hN, gd_dt hN]
    have : ∃ z, br v (some true) (br (decide (Int.tmod (IntKind.wrap .i64 ((x : Nat) : Int)) N = a)) (br (decide (Int.tmod (IntKind.wrap .i64 ((y : Nat) : Int)) N = b)) (some true) (br (decide (Int.tmod (IntKind.wrap .i64 ((x : Nat) : Int)) N = b)) (some (decide (Int.tmod (IntKind.wrap .i64 ((y : Nat) : Int)) N = a))) (some false))) (br (decide (Int.tmod (IntKind.wrap .i64 ((x : Nat) : Int)) N = b)) (some (decide (Int.tmod (IntKind.wrap .i64 ((y : Nat) : Int)) N = a))) (some false))) = some z :=
     br_bool (fun _ => some_b _) fun _ => br_bool (fun _ => br_bool (fun _ => some_b _) fun _ => br_bool (fun _ => some_b _) fun _ => some_b _) fun _ => br_bool (fun _ => some_b _) fun _ => some_b _
    obtain ⟨z, hz⟩ := this
    refine .inl ⟨(z, i + 1), ?_, k - 1, by omega, by simp only; omega, by simp only; omega⟩
    rw [hz, ob_s, wrap_in (by omega) (by omega)]
   ·rw [decide_eq_false c2, br_f]; exact .inr ⟨v, rfl, trivial⟩
  ·rw [br_df c1, ob_s, br_f]; exact .inr ⟨v, rfl, trivial⟩) 3 (v, 0) n ⟨by simp, by simp⟩ hn
 exact ⟨r, h⟩
theorem L40_2_tot (n0 : Nat) (N a w : Int) (x3 : Nat) (l4 : List (Nat × Nat)) (hN : 1 ≤ N ∧ N ≤ 12) (hw : w ≠ 0) (l : List (Int × Int)) (c b : Int) (M : Nat) (hl : l.length ≤ M) (hM : M ≤ 1000) (hb : 0 ≤ b ∧ b ≤ N) (n : Nat) (hn : 12 < n) (hn0 : 3 < n0) :
  ∃ r, lpN (L40_2 n0 N a w x3 l4) n (l, c, b) = some r ∧ r.1.length ≤ M + 12 := by
 refine lp_tot (body := L40_2 n0 N a w x3 l4) (R := fun r => r.1.length ≤ M + 12) (fun k s => 0 ≤ s.2.2 ∧ s.2.2 + k = N ∧ s.1.length + k ≤ M + 12) (fun k s hI => ?_) (N - b).toNat (l, c, b) n ⟨hb.1, by simp only; omega, by simp only; omega⟩ (by omega)
 obtain ⟨l, c, b⟩ := s
 obtain ⟨h1, h2, h3⟩ := hI
 simp only at h1 h2 h3
 simp only [L40_2]
 by_cases c1 : b < N
 ·rw [br_dt c1]
  have e1 : ∃ z, br (decide (b = IntKind.wrap .i64 (a + w))) (some true) (br (decide (b = IntKind.wrap .i64 (a + 1))) (gd (decide (w ≠ 0)) (some (!decide (Int.tmod b w = 0)))) (some false)) = some z :=
   br_bool (fun _ => some_b _) fun _ => br_bool (fun _ => ⟨_, gd_dt hw _⟩) fun _ => some_b _
  obtain ⟨z, hz⟩ := e1
  rw [hz, ob_s]
  have e2 : ∃ c' z', br z (ob (ob (br (decide (Int.tmod c 2 = 1)) (ob (some (ushr .u16 x3 (ui .u64 (Int.tmod (IntKind.wrap .i64 (Int.tdiv c 2)) 16)))) fun y2906 => some (decide (uw .u16 (uw .u16 y2906 &&& uw .u16 1) = 1))) (some false)) fun v2904 => br v2904 (some false) (some z)) fun v2900 => some (IntKind.wrap .i64 (c + 1), v2900)) (some (c, z)) = some (c', z') := by
   cases z with
   | false => exact ⟨c, false, rfl⟩
   | true =>
    rw [br_t]
    have : ∃ q, (ob (br (decide (Int.tmod c 2 = 1)) (ob (some (ushr .u16 x3 (ui .u64 (Int.tmod (IntKind.wrap .i64 (Int.tdiv c 2)) 16)))) fun y2906 => some (decide (uw .u16 (uw .u16 y2906 &&& uw .u16 1) = 1))) (some false)) fun v2904 => br v2904 (some false) (some true)) = some q := by
     by_cases h : Int.tmod c 2 = 1
     ·rw [br_dt h, ob_s, ob_s]; exact br_bool (fun _ => some_b _) fun _ => some_b _
     ·rw [br_df h, ob_s]; exact br_bool (fun _ => some_b _) fun _ => some_b _
    obtain ⟨q, hq⟩ := this
    exact ⟨_, q, by rw [hq, ob_s]⟩
  obtain ⟨c', z', hz'⟩ := e2
  rw [hz', ob_s]
  obtain ⟨q, hq⟩ := L40_1_tot n0 l4 N a b (by omega) z' n0 hn0
  simp only [hq, ob_s]
  cases q with
  | false =>
   refine .inl ⟨(l, c', b + 1), ?_, k - 1, by omega, by simp only; omega, by simp only; omega, by simp only; omega⟩
   rw [br_f, ob_s, wrap_in (by omega) (by omega)]
  | true =>
   refine .inl ⟨(l ++ [(a, b)], c', b + 1), ?_, k - 1, by omega, by simp only; omega, by simp only; omega, by simp; omega⟩
   rw [br_t, lim_of (by simp; omega), gd_t, ob_s, wrap_in (by omega) (by omega)]
 ·rw [br_df c1]; exact .inr ⟨(l, c), rfl, by simp only; omega⟩
theorem L40_3_tot (n0 : Nat) (N w : Int) (x3 : Nat) (l4 : List (Nat × Nat)) (hN : 1 ≤ N ∧ N ≤ 12) (hw : w ≠ 0) (n : Nat) (hn : 12 < n) (hn0 : 12 < n0) :
  ∃ r, lpN (L40_3 n0 N x3 l4) n (w, [], 0, 0) = some r ∧ r.length ≤ 200 := by
 refine lp_tot (body := L40_3 n0 N x3 l4) (R := fun r => r.length ≤ 200) (fun k s => s.1 = w ∧ 0 ≤ s.2.2.2 ∧ s.2.2.2 + k = N ∧ s.2.1.length + 12 * k ≤ 144) (fun k s hI => ?_) N.toNat (w, [], 0, 0) n ⟨rfl, by simp, by simp only; omega, by simp; omega⟩ (by omega)
 obtain ⟨w', l, c, a⟩ := s
 obtain ⟨rfl, h1, h2, h3⟩ := hI
 simp only at h1 h2 h3 hw
 simp only [L40_3]
 by_cases c1 : a < N
 ·rw [br_dt c1]
  obtain ⟨r, hr, hrl⟩ := L40_2_tot n0 N a w' x3 l4 hN hw l c (IntKind.wrap .i64 (a + 1)) l.length (Nat.le_refl _) (by omega) (by rw [wrap_in (by omega) (by omega)]; omega) n0 hn0 (by omega)
  obtain ⟨l', c'⟩ := r
  simp only [hr, ob_s]
  exact .inl ⟨(w', l', c', a + 1), by rw [wrap_in (by omega) (by omega)], k - 1, by omega, rfl, by simp only; omega, by simp only; omega, by simp only at hrl ⊢; omega⟩
 ·rw [br_df c1]; exact .inr ⟨l, rfl, by omega⟩
theorem F40_tot (n x1 x2 x3 : Nat) (l4 : List (Nat × Nat)) (hn : 12 < n) : ∃ N es, F40 n x1 x2 x3 l4 = some (N, es) ∧ es.length ≤ 200 := by
 unfold F40
 have w1 : IntKind.wrap .i64 ((x1 % 4 : Nat) : Int) = ((x1 % 4 : Nat) : Int) := wrap_in (by omega) (by omega)
 have w2 : IntKind.wrap .i64 ((x2 % 3 : Nat) : Int) = ((x2 % 3 : Nat) : Int) := wrap_in (by omega) (by omega)
 have w3 : IntKind.wrap .i64 (1 + ((x1 % 4 : Nat) : Int)) = 1 + ((x1 % 4 : Nat) : Int) := wrap_in (by omega) (by omega)
 have w4 : IntKind.wrap .i64 (1 + ((x2 % 3 : Nat) : Int)) = 1 + ((x2 % 3 : Nat) : Int) := wrap_in (by omega) (by omega)
 rw [w1, w2, w3, w4, ob_s]
 have hN : ∀ a b : Nat, a < 4 → b < 3 → 1 ≤ (1 + (a : Int)) * (1 + (b : Int)) ∧ (1 + (a : Int)) * (1 + (b : Int)) ≤ 12 := by
  intro a b ha hb
  have h1 : a = 0 ∨ a = 1 ∨ a = 2 ∨ a = 3 := by omega
  have h2 : b = 0 ∨ b = 1 ∨ b = 2 := by omega
  rcases h1 with rfl | rfl | rfl | rfl <;> rcases h2 with rfl | rfl | rfl <;> decide
 have hN' := hN (x1 % 4) (x2 % 3) (Nat.mod_lt _ (by omega)) (Nat.mod_lt _ (by omega))
 rw [wrap_in (by omega) (by omega)]
 obtain ⟨r, hr, hl⟩ := L40_3_tot n ((1 + ((x1 % 4 : Nat) : Int)) * (1 + ((x2 % 3 : Nat) : Int))) (1 + ((x1 % 4 : Nat) : Int)) x3 l4 hN' (by omega) n hn hn
 exact ⟨_, r, by rw [hr, ob_s], hl⟩
end Go.Proofs.YtpclggcpobakhaaDoor
end

section
namespace Go.Proofs.YtpclggcpobakhaaDoor
open Go Go.Ab Go.Ab.W
theorem L65_1_tot (n0 : Nat) (a : Int) (x2 : Nat) (l : List (Int × Int)) (b : Int) (ha : 0 ≤ a ∧ a < 64) (hb : 0 ≤ b ∧ b ≤ 65) (hl : l.length ≤ 201) (n : Nat) (hn : 65 < n) : ∃ r, lpN (L65_1 n0 a x2) n (l, b) = some r ∧ r.length ≤ 201 := by
 refine lp_tot (body := L65_1 n0 a x2) (R := fun r => r.length ≤ 201) (fun k s => 0 ≤ s.2 ∧ s.2 + k = 65 ∧ s.1.length ≤ 201) (fun k s hI => ?_) (65 - b).toNat (l, b) n ⟨hb.1, by simp only; omega, hl⟩ (by omega)
 obtain ⟨l, b⟩ := s
 obtain ⟨h1, h2, h3⟩ := hI
 simp only at h1 h2 h3
 have hmi : mi (IntKind.wrap .i64 (a + 5)) (64 : Int) ≤ 64 := by unfold mi; split <;> omega
 have w2 : IntKind.wrap .i64 ((x2 % 3 : Nat) : Int) = ((x2 % 3 : Nat) : Int) := wrap_in (by omega) (by omega)
 have w3 : IntKind.wrap .i64 (199 + ((x2 % 3 : Nat) : Int)) = 199 + ((x2 % 3 : Nat) : Int) := wrap_in (by omega) (by omega)
 simp only [L65_1, w2, w3]
 by_cases c1 : b < mi (IntKind.wrap .i64 (a + 5)) (64 : Int)
 ·rw [br_dt c1, ob_s]
  by_cases c2 : (l.length : Int) < 199 + ((x2 % 3 : Nat) : Int)
  ·rw [decide_eq_true c2, br_t]
   have : x2 % 3 < 3 := Nat.mod_lt _ (by omega)
   rw [lim_of (by simp; omega), gd_t, wrap_in (by omega) (by omega)]
   exact .inl ⟨(l ++ [(a, b)], b + 1), rfl, k - 1, by omega, by simp only; omega, by simp only; omega, by simp; omega⟩
  ·rw [decide_eq_false c2, br_f]; exact .inr ⟨l, rfl, h3⟩
 ·rw [br_df c1, ob_s, br_f]; exact .inr ⟨l, rfl, h3⟩
theorem L65_2_tot (n0 : Nat) (x2 : Nat) (n : Nat) (hn : 65 < n) (hn0 : 65 < n0) : ∃ r, lpN (L65_2 n0 x2) n ([], 0) = some r ∧ r.length ≤ 201 := by
 refine lp_tot (body := L65_2 n0 x2) (R := fun r => r.length ≤ 201) (fun k s => 0 ≤ s.2 ∧ s.2 + k = 64 ∧ s.1.length ≤ 201) (fun k s hI => ?_) 64 ([], 0) n ⟨by simp, by simp, by simp⟩ (by omega)
 obtain ⟨l, a⟩ := s
 obtain ⟨h1, h2, h3⟩ := hI
 simp only at h1 h2 h3
 simp only [L65_2]
 by_cases c1 : a < 64
 ·rw [br_dt c1, wrap_in (by omega) (by omega)]
  obtain ⟨r, hr, hrl⟩ := L65_1_tot n0 a x2 l (a + 1) ⟨h1, c1⟩ ⟨by omega, by omega⟩ h3 n0 hn0
  rw [hr, ob_s]
  exact .inl ⟨(r, a + 1), rfl, k - 1, by omega, by simp only; omega, by simp only; omega, hrl⟩
 ·rw [br_df c1]; exact .inr ⟨l, rfl, h3⟩
theorem okB_of {lo hi : Int} {n : Nat} (h : 0 ≤ lo ∧ lo ≤ hi ∧ hi ≤ (n : Int)) : okB lo hi n = true := decide_eq_true h
theorem F65_tot (n x1 x2 : Nat) (x3 x4 x5 N : Int) (l7 : List (Int × Int)) (hx : x2 < 256) (hl : l7.length ≤ 1000000) (hn : 65 < n) : ∃ N' es, F65 n x1 x2 x3 x4 x5 N l7 = some (N', es) ∧ es.length ≤ 300 := by
 unfold F65
 have hmi : 0 ≤ mi (l7.length : Int) (210 : Int) ∧ mi (l7.length : Int) (210 : Int) ≤ (l7.length : Int) ∧ mi (l7.length : Int) (210 : Int) ≤ 210 := by unfold mi; split <;> omega
 rw [okB_of ⟨by omega, hmi.1, hmi.2.1⟩, gd_t]
 generalize hL : ((l7.drop (0 : Int).toNat).take ((mi (l7.length : Int) (210 : Int) : Int).toNat - (0 : Int).toNat)) = L
 have hLl : L.length ≤ 210 := by
  rw [← hL, List.length_take]
  have := hmi.2.2
  omega
 unfold F26
 rw [lim_of (by omega), gd_t, ob_s]
 have w1 : IntKind.wrap .i64 ((L.length : Int) + 1) = (L.length : Int) + 1 := wrap_in (by omega) (by omega)
 rw [w1, gd_dt (by omega)]
 have w2 : IntKind.wrap .i64 ((x2 : Nat) : Int) = ((x2 : Nat) : Int) := wrap_in (by omega) (by omega)
 rw [w2, ob_s]
 obtain ⟨y, hy⟩ : ∃ y, y = Int.tmod ((x2 : Nat) : Int) ((L.length : Int) + 1) := ⟨_, rfl⟩
 have hy1 : 0 ≤ y ∧ y ≤ L.length := by
  rw [hy, Int.tmod_eq_emod_of_nonneg (Int.natCast_nonneg _)]
  have h1 := Int.emod_nonneg ((x2 : Nat) : Int) (show ((L.length : Int) + 1) ≠ 0 by omega)
  have h2 := Int.emod_lt_of_pos ((x2 : Nat) : Int) (show 0 < ((L.length : Int) + 1) by omega)
  omega
 rw [← hy]
 have fin : ∀ (q : Option (Int × List (Int × Int) × Nat)), (∃ N' es k, q = some (N', es, k) ∧ es.length ≤ 300) → ∃ N' es, (ob q fun (v256, l257, n259) => some (v256, l257)) = some (N', es) ∧ es.length ≤ 300 := by
  rintro q ⟨N', es, k, rfl, h⟩
  exact ⟨N', es, rfl, h⟩
 have ins : ∀ p : Int × Int, F82 n L y [p] = some (L.take y.toNat ++ [p] ++ L.drop y.toNat) ∧ (L.take y.toNat ++ [p] ++ L.drop y.toNat).length ≤ 300 := by
  intro p
  refine ⟨?_, by simp; omega⟩
  unfold F82
  rw [okB_of ⟨hy1.1, hy1.2, Int.le_refl _⟩, gd_t, lim_of (by simp; omega), gd_t]
 refine fin _ ?_
 have case1 : ∀ {p : Prop} [Decidable p] {a b : Option (Int × List (Int × Int) × Nat)}, (p → ∃ N' es k, a = some (N', es, k) ∧ es.length ≤ 300) → (¬ p → ∃ N' es k, b = some (N', es, k) ∧ es.length ≤ 300) → ∃ N' es k, br (decide p) a b = some (N', es, k) ∧ es.length ≤ 300 := by
  intro p _ a b ha hb
  by_cases h : p
  ·rw [br_dt h]; exact ha h
  ·rw [br_df h]; exact hb h
 have base : ∀ (N' : Int) (k : Nat), ∃ N'' es k', (some (N', L, k) : Option (Int × List (Int × Int) × Nat)) = some (N'', es, k') ∧ es.length ≤ 300 := fun N' k => ⟨_, _, _, rfl, by omega⟩
 refine case1 (fun _ => base _ _) fun _ => case1 (fun _ => ?_) fun _ => case1 (fun _ => case1 (fun h => ?_) fun _ => base _ _) fun _ => case1 (fun _ => case1 (fun h => ?_) fun _ => base _ _) fun _ => case1 (fun _ => case1 (fun h => ?_) fun _ => base _ _) fun _ => case1 (fun _ => base _ _) fun _ => case1 (fun _ => ?_) fun _ => base _ _
 ·rw [(ins _).1, ob_s]; exact ⟨_, _, _, rfl, (ins _).2⟩
 ·unfold F49
  rw [wrap_in (by omega) (by omega), okB_of ⟨hy1.1, by omega, by omega⟩, gd_t, decide_eq_true (show y < y + 1 by omega), gd_t, lim_of (by omega), gd_t, ob_s]
  exact ⟨_, _, _, rfl, by simp; omega⟩
 ·have hb : inB y L.length = true := decide_eq_true ⟨hy1.1, by omega⟩
  have hlt : y.toNat < L.length := by omega
  have he : L[y.toNat]? = some L[y.toNat] := by simp [hlt]
  rw [hb, gd_t, he, ob_s]
  generalize L[y.toNat] = e
  obtain ⟨u, v⟩ := e
  have he2 : (L.set y.toNat (v, v))[y.toNat]? = some (v, v) := by simp [hlt]
  simp only [gd_t, he2, ob_s]
  exact ⟨_, _, _, rfl, by simp; omega⟩
 ·have hb : inB y L.length = true := decide_eq_true ⟨hy1.1, by omega⟩
  have hlt : y.toNat < L.length := by omega
  have he : L[y.toNat]? = some L[y.toNat] := by simp [hlt]
  rw [hb, gd_t, he, ob_s]
  generalize L[y.toNat] = e
  obtain ⟨u, v⟩ := e
  simp only [(ins _).1, ob_s]
  exact ⟨_, _, _, rfl, (ins _).2⟩
 ·obtain ⟨r, hr, hrl⟩ := L65_2_tot n x2 n hn hn
  rw [hr, ob_s]; exact ⟨_, _, _, rfl, by omega⟩
theorem F28_tot (n x1 x2 x3 : Nat) (l4 : List (Nat × Nat)) (x8 x9 : Nat) (x10 x11 x12 : Int) (x13 x14 : Nat) (x15 x16 x17 : Int) (h9 : x9 < 256) (h14 : x14 < 256) (hn : 65 < n) :
  ∃ N1 e1 N2 e2 N3 e3, F28 n x1 x2 x3 l4 x8 x9 x10 x11 x12 x13 x14 x15 x16 x17 = some (N1, e1, N2, e2, N3, e3) ∧ e1.length ≤ 300 ∧ e2.length ≤ 300 ∧ e3.length ≤ 300 ∧ F40 n x1 x2 x3 l4 = some (N1, e1) := by
 obtain ⟨N1, e1, h1, g1⟩ := F40_tot n x1 x2 x3 l4 (by omega)
 obtain ⟨N2, e2, h2, g2⟩ := F65_tot n x8 x9 x10 x11 x12 N1 e1 h9 (by omega) hn
 obtain ⟨N3, e3, h3, g3⟩ := F65_tot n x13 x14 x15 x16 x17 N2 e2 h14 (by omega) hn
 refine ⟨N1, e1, N2, e2, N3, e3, ?_, by omega, g2, g3, h1⟩
 unfold F28
 simp only [h1, ob_s, h2, h3]
end Go.Proofs.YtpclggcpobakhaaDoor
end

section
namespace Go.Ab.W
open Go Go.Ab
theorem uM64 : uM .u64 = 2 ^ 64 := rfl
theorem uw_id {a : Nat} (h : a < 2 ^ 64) : uw .u64 a = a := Nat.mod_eq_of_lt h
theorem tb_lt {a : Nat} (h : a < 2 ^ 64) {i : Nat} (hi : a.testBit i = true) : i < 64 := by
 rcases Nat.lt_or_ge i 64 with h1 | h1
 ·exact h1
 ·have : a < 2 ^ i := Nat.lt_of_lt_of_le h (Nat.pow_le_pow_right (by decide) h1)
  rw [Nat.testBit_lt_two_pow this] at hi; cases hi
theorem word_and {a b : Nat} (ha : a < 2 ^ 64) (hb : b < 2 ^ 64) : uw .u64 (uw .u64 a &&& uw .u64 b) = a &&& b := by
 rw [uw_id ha, uw_id hb, uw_id (Nat.lt_of_le_of_lt Nat.and_le_left ha)]
theorem word_or {a b : Nat} (ha : a < 2 ^ 64) (hb : b < 2 ^ 64) : uw .u64 (uw .u64 a ||| uw .u64 b) = a ||| b := by
 rw [uw_id ha, uw_id hb, uw_id (Nat.or_lt_two_pow ha hb)]
theorem and_lt' {a b : Nat} (ha : a < 2 ^ 64) : a &&& b < 2 ^ 64 := Nat.lt_of_le_of_lt Nat.and_le_left ha
theorem or_lt' {a b : Nat} (ha : a < 2 ^ 64) (hb : b < 2 ^ 64) : a ||| b < 2 ^ 64 := Nat.or_lt_two_pow ha hb
theorem word_andn {a b : Nat} (ha : a < 2 ^ 64) (hb : b < 2 ^ 64) : uandn .u64 a b = a ^^^ (a &&& b) := by
 unfold uandn
 rw [uw_id ha, uw_id hb, uw_id (Nat.xor_lt_two_pow ha (and_lt' ha))]
theorem tb_andn {a b : Nat} (ha : a < 2 ^ 64) (hb : b < 2 ^ 64) (i : Nat) : (uandn .u64 a b).testBit i = (a.testBit i && !b.testBit i) := by
 rw [word_andn ha hb, Nat.testBit_xor, Nat.testBit_and]
 cases a.testBit i <;> cases b.testBit i <;> rfl
theorem andn_lt {a b : Nat} (ha : a < 2 ^ 64) (hb : b < 2 ^ 64) : uandn .u64 a b < 2 ^ 64 := by
 rw [word_andn ha hb]; exact Nat.xor_lt_two_pow ha (and_lt' ha)
theorem word_one {k : Nat} (h : k < 64) : ushl .u64 1 k = 2 ^ k := by
 unfold ushl
 rw [Nat.min_eq_left (Nat.le_of_lt (show k < IntKind.bits .u64 from h)), Nat.one_mul]
 exact uw_id (Nat.pow_lt_pow_right (by decide) h)
theorem one_lt {k : Nat} (h : k < 64) : 2 ^ k < 2 ^ 64 := Nat.pow_lt_pow_right (by decide) h
theorem tb_one (k i : Nat) : (2 ^ k).testBit i = decide (i = k) := by
 rw [Nat.testBit_two_pow]
 by_cases h : k = i
 ·simp [h]
 ·simp [h, Ne.symm h]
theorem ui_nn {k : Int} (h0 : 0 ≤ k) (h1 : k < 64) : ui .u64 k = k.toNat := by
 unfold ui
 rw [Int.emod_eq_of_lt h0 (by rw [uM64]; omega)]
theorem word_shr {a k : Nat} (h : k ≤ 64) : ushr .u64 a k = a >>> k := by
 unfold ushr
 rw [Nat.min_eq_left (show k ≤ IntKind.bits .u64 from h), Nat.shiftRight_eq_div_pow]
theorem bit_at {a k : Nat} (ha : a < 2 ^ 64) (h : k ≤ 64) : decide (uw .u64 (uw .u64 (ushr .u64 a k) &&& uw .u64 1) = 1) = a.testBit k := by
 have hs : a >>> k < 2 ^ 64 := Nat.lt_of_le_of_lt (by rw [Nat.shiftRight_eq_div_pow]; exact Nat.div_le_self _ _) ha
 rw [word_shr h, word_and hs (by decide), Nat.testBit]
 rw [Nat.and_comm]
 have h2 : 1 &&& a >>> k = (a >>> k) % 2 := by rw [Nat.and_comm, Nat.and_one_is_mod]
 rw [h2]
 rcases Nat.mod_two_eq_zero_or_one (a >>> k) with h3 | h3 <;> rw [h3] <;> rfl
theorem word_ext {a b : Nat} (h : ∀ i, a.testBit i = true ↔ b.testBit i = true) : a = b := Nat.eq_of_testBit_eq fun i => by
 have := h i
 cases ha : a.testBit i <;> cases hb : b.testBit i <;> simp_all
theorem word_zero {a : Nat} : a = 0 ↔ ∀ i, a.testBit i = false := ⟨fun h => by subst h; exact fun i => Nat.zero_testBit i, fun h => Nat.eq_of_testBit_eq fun i => by rw [h, Nat.zero_testBit]⟩
theorem tz_bit {x : Nat} (h0 : 0 < x) (h1 : x < 2 ^ 64) : x.testBit (tz x) = true ∧ ∀ i, i < tz x → x.testBit i = false := by
 obtain ⟨h2, _, q, hq⟩ := tz_low h0 h1
 have key : ∀ i, x.testBit i = (decide (tz x ≤ i) && (2 * q + 1).testBit (i - tz x)) := fun i => by
  conv => lhs; rw [hq]
  rw [Nat.testBit_two_pow_mul]
 refine ⟨?_, fun i hi => ?_⟩
 ·rw [key, Nat.sub_self]
  simp [Nat.testBit_zero]
 ·rw [key, decide_eq_false (by omega)]; rfl
theorem low_word {x : Nat} (h0 : 0 < x) (h1 : x < 2 ^ 64) : uw .u64 (uw .u64 x &&& uw .u64 (uneg .u64 x)) = 2 ^ tz x := by
 obtain ⟨h2, h3, _⟩ := tz_low h0 h1
 have hn : uneg .u64 x = 2 ^ 64 - x := by
  unfold uneg
  rw [uw_id h1, uM64, uw_id (by omega)]
 rw [hn, word_and h1 (by omega), h3]
def clr (x : Nat) : Nat := uw .u64 (uw .u64 x &&& uw .u64 (usub .u64 x 1))
theorem clr_eq {x : Nat} (h0 : 0 < x) (h1 : x < 2 ^ 64) : clr x = x &&& (x - 1) := by
 have : usub .u64 x 1 = x - 1 := by
  unfold usub
  rw [uM64, uw_id (show (1 : Nat) < 2 ^ 64 by decide)]
  show (x + (2 ^ 64 - 1)) % 2 ^ 64 = x - 1
  omega
 unfold clr
 rw [this, word_and h1 (by omega)]
theorem pred_bit (t q i : Nat) : (2 ^ t * (2 * q + 1) - 1).testBit i = if i < t then true else if i = t then false else (2 ^ t * (2 * q + 1)).testBit i := by
 have e : 2 ^ t * (2 * q + 1) - 1 = 2 ^ t * (2 * q) + (2 ^ t - 1) := by
  rw [Nat.mul_add, Nat.mul_one]
  have := Nat.two_pow_pos t
  omega
 rw [e, Nat.testBit_two_pow_mul_add _ (by have := Nat.two_pow_pos t; omega)]
 by_cases h : i < t
 ·rw [if_pos h, if_pos h, Nat.testBit_two_pow_sub_one]; simp [h]
 ·rw [if_neg h, if_neg h]
  by_cases h' : i = t
  ·subst h'; simp [Nat.testBit_zero]
  ·rw [if_neg h', Nat.testBit_two_pow_mul]
   obtain ⟨d, hd⟩ : ∃ d, i - t = d + 1 := ⟨i - t - 1, by omega⟩
   rw [hd, Nat.testBit_succ, Nat.testBit_succ]
   have : (2 * q + 1) / 2 = 2 * q / 2 := by omega
   rw [this]
   simp; omega
theorem clr_bit {x : Nat} (h0 : 0 < x) (h1 : x < 2 ^ 64) (i : Nat) : (clr x).testBit i = (x.testBit i && !decide (i = tz x)) := by
 rw [clr_eq h0 h1, Nat.testBit_and]
 obtain ⟨_, _, q, hq⟩ := tz_low h0 h1
 obtain ⟨hb, hl⟩ := tz_bit h0 h1
 have := pred_bit (tz x) q i
 rw [← hq] at this
 rw [this]
 by_cases h : i < tz x
 ·rw [hl i h]; rfl
 ·rw [if_neg h]
  by_cases h' : i = tz x
  ·simp [h']
  ·simp [h']
theorem clr_lt {x : Nat} (h0 : 0 < x) (h1 : x < 2 ^ 64) : clr x < 2 ^ 64 := by rw [clr_eq h0 h1]; exact and_lt' h1
def bitsOf (x : Nat) : List Nat := (List.range 64).filter fun i => x.testBit i
theorem mem_bitsOf {x i : Nat} (h : x < 2 ^ 64) : i ∈ bitsOf x ↔ x.testBit i = true := by
 unfold bitsOf
 rw [List.mem_filter, List.mem_range]
 exact ⟨fun h => h.2, fun hi => ⟨tb_lt h hi, hi⟩⟩
theorem bitsOf_len (x : Nat) : (bitsOf x).length ≤ 64 := by
 unfold bitsOf
 exact Nat.le_trans (List.length_filter_le _ _) (by simp)
theorem bitsOf_zero : bitsOf 0 = [] := by
 unfold bitsOf
 simp
theorem filter_range_cons (p q : Nat → Bool) (t : Nat) : ∀ (n s : Nat), s ≤ t → t < s + n → p t = true → (∀ i, s ≤ i → i < t → p i = false) → (∀ i, t < i → p i = q i) → (∀ i, s ≤ i → i ≤ t → q i = false) →
  (List.range' s n).filter p = t :: (List.range' s n).filter q
 | 0, s, h1, h2, _, _, _, _ => by omega
 | n + 1, s, h1, h2, hp, hl, hg, hq => by
  rw [List.range'_succ]
  by_cases h : s = t
  ·subst h
   rw [List.filter_cons_of_pos hp, List.filter_cons_of_neg (by rw [hq s (Nat.le_refl _) (Nat.le_refl _)]; decide)]
   congr 1
   apply List.filter_congr
   intro i hi
   rw [List.mem_range'_1] at hi
   exact hg i (by omega)
  ·rw [List.filter_cons_of_neg (by rw [hl s (Nat.le_refl _) (by omega)]; decide), List.filter_cons_of_neg (by rw [hq s (Nat.le_refl _) (by omega)]; decide)]
   exact filter_range_cons p q t n (s + 1) (by omega) (by omega) hp (fun i a b => hl i (by omega) b) hg (fun i a b => hq i (by omega) b)
theorem bitsOf_cons {x : Nat} (h0 : 0 < x) (h1 : x < 2 ^ 64) : bitsOf x = tz x :: bitsOf (clr x) := by
 obtain ⟨hb, hl⟩ := tz_bit h0 h1
 unfold bitsOf
 rw [List.range_eq_range']
 refine filter_range_cons _ _ (tz x) 64 0 (Nat.zero_le _) (by have := (tz_low h0 h1).1; omega) hb (fun i _ h => hl i h) (fun i h => ?_) (fun i _ h => ?_)
 ·show x.testBit i = (clr x).testBit i
  rw [clr_bit h0 h1]
  have : i ≠ tz x := by omega
  simp [this]
 ·show (clr x).testBit i = false
  rw [clr_bit h0 h1]
  by_cases e : i = tz x
  ·simp [e]
  ·rw [hl i (by omega)]; rfl
section
variable {σ ρ τ : Type}
theorem lp_bits {body : τ → Option (τ ⊕ ρ)} (mk : Nat → σ → τ) (step : σ → Nat → σ) (fin : σ → ρ) (I : σ → Prop) (x0 : Nat)
  (hs : ∀ r s, 0 < r → r < 2 ^ 64 → x0.testBit (tz r) = true → I s → body (mk r s) = some (.inl (mk (clr r) (step s (tz r)))) ∧ I (step s (tz r))) (he : ∀ s, I s → body (mk 0 s) = some (.inr (fin s))) :
  ∀ (n : Nat) (r : Nat) (s : σ), r < 2 ^ 64 → (∀ i, r.testBit i = true → x0.testBit i = true) → I s → (bitsOf r).length < n → lpN body n (mk r s) = some (fin ((bitsOf r).foldl step s)) := by
 intro n
 induction n with
 | zero => intro r s _ _ _ h; exact absurd h (Nat.not_lt_zero _)
 | succ n ih =>
  intro r s hr hx hI hn
  rcases Nat.eq_zero_or_pos r with h0 | h0
  ·subst h0
   rw [bitsOf_zero]
   simp only [lpN, he s hI, List.foldl_nil]
  ·obtain ⟨h1, h2⟩ := hs r s h0 hr (hx _ (tz_bit h0 hr).1) hI
   rw [bitsOf_cons h0 hr, List.foldl_cons]
   simp only [lpN, h1]
   refine ih _ _ (clr_lt h0 hr) (fun i hi => hx i ?_) h2 (by rw [bitsOf_cons h0 hr] at hn; simpa using hn)
   rw [clr_bit h0 hr] at hi
   simp only [Bool.and_eq_true] at hi
   exact hi.1
theorem lp_list {α : Type} {body : τ → Option (τ ⊕ ρ)} (l : List α) (mk : σ → Int → τ) (step : σ → α → σ) (fin : σ → ρ) (I : Nat → σ → Prop)
  (hs : ∀ s i x, l[i]? = some x → I i s → body (mk s (i : Int)) = some (.inl (mk (step s x) ((i + 1 : Nat) : Int))) ∧ I (i + 1) (step s x)) (he : ∀ s, I l.length s → body (mk s (l.length : Int)) = some (.inr (fin s))) :
  ∀ (k i n : Nat) (s : σ), i + k = l.length → I i s → k < n → lpN body n (mk s (i : Int)) = some (fin ((l.drop i).foldl step s)) ∧ I l.length ((l.drop i).foldl step s) := by
 intro k
 induction k with
 | zero =>
  intro i n s hi hI hn
  obtain ⟨n, rfl⟩ : ∃ n', n = n' + 1 := ⟨n - 1, by omega⟩
  have : i = l.length := by omega
  subst this
  rw [List.drop_length]
  exact ⟨by simp only [lpN, he s hI, List.foldl_nil], hI⟩
 | succ k ih =>
  intro i n s hi hI hn
  obtain ⟨n, rfl⟩ : ∃ n', n = n' + 1 := ⟨n - 1, by omega⟩
  have hlt : i < l.length := by omega
  obtain ⟨h1, h2⟩ := hs s i l[i] (List.getElem?_eq_getElem hlt) hI
  rw [List.drop_eq_getElem_cons hlt, List.foldl_cons]
  simp only [lpN, h1]
  exact ih (i + 1) n _ (by omega) h2 (by omega)
theorem lp_list0 {α : Type} {body : τ → Option (τ ⊕ ρ)} (l : List α) (mk : σ → Int → τ) (step : σ → α → σ) (fin : σ → ρ) (I : Nat → σ → Prop)
  (hs : ∀ s i x, l[i]? = some x → I i s → body (mk s (i : Int)) = some (.inl (mk (step s x) ((i + 1 : Nat) : Int))) ∧ I (i + 1) (step s x)) (he : ∀ s, I l.length s → body (mk s (l.length : Int)) = some (.inr (fin s)))
  {n : Nat} {s : σ} (hI : I 0 s) (hn : l.length < n) : lpN body n (mk s 0) = some (fin (l.foldl step s)) ∧ I l.length (l.foldl step s) := by
 have := lp_list l mk step fin I hs he l.length 0 n s (by omega) hI hn
 simpa using this
theorem lp_upto {body : τ → Option (τ ⊕ ρ)} (N : Nat) (mk : σ → Int → τ) (step : σ → Nat → σ) (fin : σ → ρ) (I : Nat → σ → Prop)
  (hs : ∀ s i, i < N → I i s → body (mk s (i : Int)) = some (.inl (mk (step s i) ((i + 1 : Nat) : Int))) ∧ I (i + 1) (step s i)) (he : ∀ s, I N s → body (mk s (N : Int)) = some (.inr (fin s)))
  {n : Nat} {s : σ} (hI : I 0 s) (hn : N < n) : lpN body n (mk s 0) = some (fin ((List.range N).foldl step s)) ∧ I N ((List.range N).foldl step s) := by
 have := lp_list0 (List.range N) mk step fin I (fun s i x hx hI => by
  have hlt := (List.getElem?_eq_some_iff.1 hx).1
  have hx' : x = i := by rw [List.getElem?_eq_getElem hlt] at hx; simp at hx; exact hx.symm
  subst hx'
  exact hs s x (by simpa using hlt) hI) (by simpa using he) hI (by simpa using hn)
 simpa using this
end
theorem foldl_or (f : Nat → Nat) : ∀ (l : List Nat) (s i : Nat), (l.foldl (fun s k => s ||| f k) s).testBit i = true ↔ s.testBit i = true ∨ ∃ k ∈ l, (f k).testBit i = true
 | [], s, i => by simp
 | x :: l, s, i => by
  rw [List.foldl_cons, foldl_or f l, Nat.testBit_or, Bool.or_eq_true]
  simp only [List.mem_cons]
  constructor
  ·rintro ((h | h) | ⟨k, hk, h⟩)
   ·exact .inl h
   ·exact .inr ⟨x, .inl rfl, h⟩
   ·exact .inr ⟨k, .inr hk, h⟩
  ·rintro (h | ⟨k, rfl | hk, h⟩)
   ·exact .inl (.inl h)
   ·exact .inl (.inr h)
   ·exact .inr ⟨k, hk, h⟩
theorem foldl_or_lt (f : Nat → Nat) : ∀ (l : List Nat) (s : Nat), s < 2 ^ 64 → (∀ k ∈ l, f k < 2 ^ 64) → l.foldl (fun s k => s ||| f k) s < 2 ^ 64
 | [], s, h, _ => h
 | x :: l, s, h, hf => foldl_or_lt f l _ (or_lt' h (hf x (by simp))) fun k hk => hf k (by simp [hk])
end Go.Ab.W
end

section
namespace Go.Proofs.YtpclggcpobakhaaDoor
open Go Go.Ab Go.Ab.W
def adj (es : List (Int × Int)) (i j : Nat) : Prop := ((i : Int), (j : Int)) ∈ es ∨ ((j : Int), (i : Int)) ∈ es
theorem adj_symm {es : List (Int × Int)} {i j : Nat} (h : adj es i j) : adj es j i := h.symm
theorem okE_mem {N : Int} : ∀ {es : List (Int × Int)} {p : Int × Int}, okEp N p es = true → ∀ e ∈ es, 0 ≤ e.1 ∧ e.1 < e.2 ∧ e.2 < N
 | [], _, _, e, he => by cases he
 | x :: es, p, h, e, he => by
  rw [okE_cons, Bool.and_eq_true] at h
  rcases List.mem_cons.1 he with rfl | he
  ·simp only [stepOk, Bool.and_eq_true, decide_eq_true_eq] at h
   exact h.1.1
  ·exact okE_mem h.2 e he
structure Okay (N : Nat) (es : List (Int × Int)) : Prop where
 pos : 1 ≤ N
 le : N ≤ 64
 len : es.length ≤ 200
 mem : ∀ e ∈ es, ∃ a b : Nat, e = ((a : Int), (b : Int)) ∧ a < b ∧ b < N
theorem okay_of {N : Int} {es : List (Int × Int)} (h : okG N es = true) : ∃ M : Nat, N = (M : Int) ∧ Okay M es := by
 simp only [okG, Bool.and_eq_true, decide_eq_true_eq] at h
 obtain ⟨⟨h1, h2, h3⟩, h4⟩ := h
 obtain ⟨M, rfl⟩ := Int.eq_ofNat_of_zero_le (show 0 ≤ N by omega)
 refine ⟨M, rfl, by omega, by omega, h3, fun e he => ?_⟩
 obtain ⟨g1, g2, g3⟩ := okE_mem h4 e he
 obtain ⟨a, b⟩ := e
 obtain ⟨a, rfl⟩ := Int.eq_ofNat_of_zero_le (show 0 ≤ a from g1)
 obtain ⟨b, rfl⟩ := Int.eq_ofNat_of_zero_le (show 0 ≤ b by simp only at g1 g2; omega)
 exact ⟨a, b, rfl, by simp only at g2; omega, by simp only at g3; omega⟩
theorem Okay.adj {N : Nat} {es : List (Int × Int)} (h : Okay N es) {i j : Nat} (ha : adj es i j) : i < N ∧ j < N ∧ i ≠ j := by
 rcases ha with ha | ha
 ·obtain ⟨a, b, e, h1, h2⟩ := h.mem _ ha
  simp only [Prod.mk.injEq, Int.natCast_inj] at e
  omega
 ·obtain ⟨a, b, e, h1, h2⟩ := h.mem _ ha
  simp only [Prod.mk.injEq, Int.natCast_inj] at e
  omega
def bl (x : Nat) : Nat := if x = 0 then 0 else Nat.log2 x + 1
theorem lt_bl {x k : Nat} : k < bl x ↔ 2 ^ k ≤ x := by
 unfold bl
 by_cases h : x = 0
 ·subst h
  rw [if_pos rfl]
  have := Nat.two_pow_pos k
  omega
 ·rw [if_neg h, Nat.lt_succ_iff, Nat.le_log2 h]
theorem bl_unique {x m : Nat} (h : ∀ k, k < m ↔ 2 ^ k ≤ x) : m = bl x := by
 rcases Nat.lt_trichotomy m (bl x) with h1 | h1 | h1
 ·have := (h m).2 (lt_bl.1 h1); omega
 ·exact h1
 ·have := lt_bl.2 ((h (bl x)).1 h1); omega
theorem bl_shift {x s : Nat} (h : 2 ^ s ≤ x) : bl (x >>> s) + s = bl x := by
 refine bl_unique fun k => ?_
 rw [Nat.shiftRight_eq_div_pow]
 by_cases hk : k < s
 ·have : 2 ^ k ≤ 2 ^ s := Nat.pow_le_pow_right (by decide) (by omega)
  constructor
  ·intro _; omega
  ·intro _; omega
 ·obtain ⟨d, rfl⟩ : ∃ d, k = d + s := ⟨k - s, by omega⟩
  have h1 := lt_bl (x := x / 2 ^ s) (k := d)
  have h2 : 2 ^ (d + s) ≤ x ↔ 2 ^ d ≤ x / 2 ^ s := by rw [Nat.pow_add, Nat.le_div_iff_mul_le (Nat.two_pow_pos s)]
  rw [h2, ← h1]; omega
theorem tab_bl : ∀ y : Fin 256, tab256_482390[y.val]? = some (bl y.val) := by decide +kernel
theorem bl_le {x s : Nat} (h : x < 2 ^ s) : bl x ≤ s := by
 rcases Nat.lt_or_ge s (bl x) with h1 | h1
 ·have := lt_bl.1 h1; omega
 ·exact h1
theorem len_step (s y m : Nat) (hs : s ≤ 32) (hy : y < 2 ^ (2 * s)) (hm : m ≤ 64) : ∃ y' m' : Nat, br (decide (2 ^ s ≤ y)) (some (ushr .u64 y s, IntKind.wrap .i64 ((m : Int) + (s : Int)))) (some (y, (m : Int))) = some (y', (m' : Int)) ∧ y' < 2 ^ s ∧ bl y' + m' = bl y + m ∧ m' ≤ m + s := by
 by_cases h : 2 ^ s ≤ y
 ·refine ⟨y >>> s, m + s, ?_, ?_, ?_, Nat.le_refl _⟩
  ·rw [br_dt h, word_shr (by omega), wrap_in (by omega) (by omega)]; rfl
  ·rw [Nat.shiftRight_eq_div_pow, Nat.div_lt_iff_lt_mul (Nat.two_pow_pos s), ← Nat.pow_add]
   rw [Nat.two_mul] at hy; exact hy
  ·have := bl_shift h; omega
 ·exact ⟨y, m, br_df h _ _, by omega, rfl, by omega⟩
theorem F51_eq (n x : Nat) (hx : x < 2 ^ 64) : F51 n x = some ((bl x : Nat) : Int) := by
 unfold F51
 obtain ⟨y1, m1, e1, h1, b1, g1⟩ := len_step 32 x 0 (by omega) hx (by omega)
 have e1' : br (decide (4294967296 ≤ x)) (some (ushr .u64 x 32, (32 : Int))) (some (x, 0)) = some (y1, (m1 : Int)) := e1
 rw [e1', ob_s]
 obtain ⟨y2, m2, e2, h2, b2, g2⟩ := len_step 16 y1 m1 (by omega) h1 (by omega)
 have e2' : br (decide (65536 ≤ y1)) (some (ushr .u64 y1 16, IntKind.wrap .i64 ((m1 : Int) + 16))) (some (y1, (m1 : Int))) = some (y2, (m2 : Int)) := e2
 simp only [e2', ob_s]
 obtain ⟨y3, m3, e3, h3, b3, g3⟩ := len_step 8 y2 m2 (by omega) h2 (by omega)
 have e3' : br (decide (256 ≤ y2)) (some (ushr .u64 y2 8, IntKind.wrap .i64 ((m2 : Int) + 8))) (some (y2, (m2 : Int))) = some (y3, (m3 : Int)) := e3
 simp only [e3', ob_s]
 have h3 : y3 < 256 := h3
 have e : uw .u8 y3 = y3 := Nat.mod_eq_of_lt h3
 have h8 : bl y3 ≤ 8 := bl_le h3
 have ht : tab256_482390[y3]? = some (bl y3) := tab_bl ⟨y3, h3⟩
 have w1 : IntKind.wrap .i64 ((bl y3 : Nat) : Int) = ((bl y3 : Nat) : Int) := wrap_in (by omega) (by omega)
 rw [e, inB_nat h3, gd_t, Int.toNat_natCast, ht, ob_s, w1, wrap_in (by omega) (by omega)]
 simp only [Option.some.injEq]; omega
theorem F42_eq {n x : Nat} (h : x < 2 ^ 64) : F42 n x = some ((tz x : Nat) : Int) := by unfold F42; rw [decide_eq_true h, gd_t]
def ckF (N : Int) (es : List (Int × Int)) (x : Nat) : Int := if okG N es then (if 2 ^ N.toNat ≤ x then 2 else 0) else 180
theorem F55_eq (n : Nat) (N : Int) (es : List (Int × Int)) (x : Nat) (hx : x < 2 ^ 64) (hn : 2 < n) (hl : es.length < 4611686018427387904) (hk : es.length < n) : F55 n N es x = some (ckF N es x) := by
 unfold F55 ckF
 rw [F23_eq n N es hn hl hk, ob_s]
 unfold ckG
 by_cases h : okG N es = true
 ·obtain ⟨M, rfl, hM⟩ := okay_of h
  rw [if_pos h, if_pos h]
  simp only [decide_true, Bool.not_true, br_f, F51_eq n x hx, ob_s, Int.toNat_natCast]
  by_cases h2 : 2 ^ M ≤ x
  ·have := lt_bl.2 h2
   rw [if_pos h2, br_dt (by omega)]
  ·have : ¬ M < bl x := fun h => h2 (lt_bl.1 h)
   rw [if_neg h2, br_df (by omega)]
 ·rw [if_neg h, if_neg h]; rfl
theorem F66_eq (n : Nat) (N : Int) (es : List (Int × Int)) (x : Nat) (hx : x < 2 ^ 64) (hl : es.length < 4611686018427387904) (hk : es.length < n) : F66 n N es x = some (ckF N es x) := by
 unfold F66 ckF
 rw [F43_eq n N es hl hk, ob_s]
 unfold ckG
 by_cases h : okG N es = true
 ·obtain ⟨M, rfl, hM⟩ := okay_of h
  rw [if_pos h, if_pos h]
  simp only [decide_true, Bool.not_true, br_f, Int.toNat_natCast]
  by_cases h64 : M < 64
  ·have hu : ui .u64 (M : Int) = M := (ui_nn (by omega) (by omega)).trans (Int.toNat_natCast M)
   rw [br_dt (by omega), ob_s, hu, word_shr (by omega), Nat.shiftRight_eq_div_pow]
   by_cases h2 : 2 ^ M ≤ x
   ·have : 0 < x / 2 ^ M := Nat.div_pos h2 (Nat.two_pow_pos _)
    rw [if_pos h2, decide_eq_false (by omega)]; rfl
   ·have : x / 2 ^ M = 0 := Nat.div_eq_of_lt (by omega)
    rw [if_neg h2, decide_eq_true this]; rfl
  ·have hM64 : M = 64 := by have := hM.le; omega
   subst hM64
   rw [br_df (by omega), ob_s, if_neg (by omega)]; rfl
 ·rw [if_neg h, if_neg h]; rfl
theorem ckF_ok {N : Int} {es : List (Int × Int)} {x : Nat} (h : ckF N es x = 0) : ∃ M : Nat, N = (M : Int) ∧ Okay M es ∧ x < 2 ^ M := by
 unfold ckF at h
 split at h
 ·rename_i hk
  obtain ⟨M, rfl, hM⟩ := okay_of hk
  split at h
  ·cases h
  ·rename_i h2
   rw [Int.toNat_natCast] at h2
   exact ⟨M, rfl, hM, by omega⟩
 ·cases h
theorem F67_eq (n x i : Nat) (hx : x < 2 ^ 64) (hi : i < 64) : F67 n x ((i : Nat) : Int) = some (x.testBit i) := by
 unfold F67
 rw [ui_nn (by omega) (by omega), Int.toNat_natCast, bit_at hx (by omega)]
theorem F68_eq (n i : Nat) (hi : i < 64) : F68 n ((i : Nat) : Int) = some (2 ^ i) := by
 unfold F68
 rw [ui_nn (by omega) (by omega), Int.toNat_natCast, word_one hi]
theorem lt64 {x N : Nat} (h : x < 2 ^ N) (hN : N ≤ 64) : x < 2 ^ 64 := Nat.lt_of_lt_of_le h (Nat.pow_le_pow_right (by decide) hN)
theorem tb_ltN {x N i : Nat} (h : x < 2 ^ N) (hi : x.testBit i = true) : i < N := by
 rcases Nat.lt_or_ge i N with h1 | h1
 ·exact h1
 ·rw [Nat.testBit_lt_two_pow (Nat.lt_of_lt_of_le h (Nat.pow_le_pow_right (by decide) h1))] at hi; cases hi
def addA (L : List Nat) (e : Int × Int) : List Nat :=
 let L1 := L.set e.1.toNat (L.getD e.1.toNat 0 ||| 2 ^ e.2.toNat)
 L1.set e.2.toNat (L1.getD e.2.toNat 0 ||| 2 ^ e.1.toNat)
def AroundOk (N : Nat) (es : List (Int × Int)) (L : List Nat) : Prop := L.length = N ∧ ∀ k, k < N → ∃ w, L[k]? = some w ∧ w < 2 ^ 64 ∧ ∀ i, w.testBit i = true ↔ adj es k i
theorem adj_snoc {es : List (Int × Int)} {a b k i : Nat} : adj (es ++ [((a : Int), (b : Int))]) k i ↔ adj es k i ∨ (k = a ∧ i = b) ∨ (k = b ∧ i = a) := by
 unfold adj
 simp only [List.mem_append, List.mem_singleton, Prod.mk.injEq, Int.natCast_inj]
 constructor
 ·rintro ((h | h) | (h | h))
  ·exact .inl (.inl h)
  ·exact .inr (.inl h)
  ·exact .inl (.inr h)
  ·exact .inr (.inr ⟨h.2, h.1⟩)
 ·rintro ((h | h) | (h | h))
  ·exact .inl (.inl h)
  ·exact .inr (.inl h)
  ·exact .inl (.inr h)
  ·exact .inr (.inr ⟨h.2, h.1⟩)
theorem around_step {N : Nat} {es : List (Int × Int)} {L : List Nat} (h : AroundOk N es L) {a b : Nat} (hab : a < b) (hb : b < N) (hN : N ≤ 64) : AroundOk N (es ++ [((a : Int), (b : Int))]) (addA L ((a : Int), (b : Int))) := by
 obtain ⟨hl, hw⟩ := h
 obtain ⟨wa, ha1, ha2, ha3⟩ := hw a (by omega)
 obtain ⟨wb, hb1, hb2, hb3⟩ := hw b hb
 have e1 : L.getD a 0 = wa := by simp [List.getD, ha1]
 have hset : (L.set a (wa ||| 2 ^ b))[b]? = some wb := by rw [List.getElem?_set_ne (by omega)]; exact hb1
 have e2 : (L.set a (wa ||| 2 ^ b)).getD b 0 = wb := by simp only [List.getD, hset]; rfl
 unfold addA
 simp only [Int.toNat_natCast, e1, e2]
 refine ⟨by simp [hl], fun k hk => ?_⟩
 by_cases hkb : k = b
 ·subst hkb
  refine ⟨wb ||| 2 ^ a, by rw [List.getElem?_set_self (by simp [hl]; exact hk)], or_lt' hb2 (one_lt (by omega)), fun i => ?_⟩
  rw [Nat.testBit_or, Bool.or_eq_true, hb3, tb_one, decide_eq_true_eq, adj_snoc]
  constructor
  ·rintro (h | h)
   ·exact .inl h
   ·exact .inr (.inr ⟨rfl, h⟩)
  ·rintro (h | ⟨h, _⟩ | ⟨_, h⟩)
   ·exact .inl h
   ·omega
   ·exact .inr h
 ·by_cases hka : k = a
  ·subst hka
   refine ⟨wa ||| 2 ^ b, by rw [List.getElem?_set_ne (by omega), List.getElem?_set_self (by simp [hl]; exact hk)], or_lt' ha2 (one_lt (by omega)), fun i => ?_⟩
   rw [Nat.testBit_or, Bool.or_eq_true, ha3, tb_one, decide_eq_true_eq, adj_snoc]
   constructor
   ·rintro (h | h)
    ·exact .inl h
    ·exact .inr (.inl ⟨rfl, h⟩)
   ·rintro (h | ⟨_, h⟩ | ⟨h, _⟩)
    ·exact .inl h
    ·exact .inr h
    ·omega
  ·obtain ⟨w, h1, h2, h3⟩ := hw k hk
   refine ⟨w, by rw [List.getElem?_set_ne (by omega), List.getElem?_set_ne (by omega)]; exact h1, h2, fun i => ?_⟩
   rw [h3, adj_snoc]
   constructor
   ·exact .inl
   ·rintro (h | ⟨h, _⟩ | ⟨h, _⟩)
    ·exact h
    ·omega
    ·omega
theorem F75_eq (n N : Nat) (es : List (Int × Int)) (h : Okay N es) (hn : 200 < n) : ∃ L, F75 n (N : Int) es = some L ∧ AroundOk N es L := by
 have hN := h.le
 have hlen := h.len
 unfold F75
 rw [decide_eq_true (show (0 : Int) ≤ (N : Int) by omega), gd_t, Int.toNat_natCast, lim_of (by omega), gd_t]
 have := lp_list0 (body := L75_1 n es (N : Int)) es (fun (L : List Nat) (v : Int) => (L, v)) addA id (fun i L => AroundOk N (es.take i) L) (fun L i x hx hI => ?_) (fun L _ => ?_) (n := n) (s := List.replicate N 0) ⟨by simp, fun k hk => ⟨0, by simp [hk], by decide, fun i => by simp [adj]⟩⟩ (by omega)
 ·obtain ⟨h1, h2⟩ := this
  rw [h1, ob_s]
  rw [List.take_length] at h2
  exact ⟨_, rfl, h2⟩
 ·have hi : i < es.length := (List.getElem?_eq_some_iff.1 hx).1
  obtain ⟨a, b, rfl, hab, hbN⟩ := h.mem x (List.mem_of_getElem? hx)
  have hstep := around_step hI hab hbN hN
  have htk : es.take (i + 1) = es.take i ++ [((a : Int), (b : Int))] := by rw [List.take_add_one, hx]; rfl
  obtain ⟨hl, hw⟩ := hI
  obtain ⟨wa, ha1, ha2, ha3⟩ := hw a (by omega)
  obtain ⟨wb, hb1, hb2, hb3⟩ := hw b hbN
  have e1 : L.getD a 0 = wa := by simp [List.getD, ha1]
  have hset : (L.set a (wa ||| 2 ^ b))[b]? = some wb := by rw [List.getElem?_set_ne (by omega)]; exact hb1
  have e2 : (L.set a (wa ||| 2 ^ b)).getD b 0 = wb := by simp only [List.getD, hset]; rfl
  refine ⟨?_, by rw [htk]; exact hstep⟩
  simp only [L75_1, Int.toNat_natCast, hx, ob_s, ha1, word_one (show b < 64 by omega), word_one (show a < 64 by omega), inB_nat hi, inB_nat (show a < N by omega), inB_nat hbN, gd_t, word_or ha2 (one_lt (show b < 64 by omega)), hset, word_or hb2 (one_lt (show a < 64 by omega)), wrap_succ (show i < 4611686018427387904 by omega), addA, e1, e2]
  rw [br_dt (by omega), decide_eq_true (show (0 : Int) ≤ (b : Int) by omega), gd_t, decide_eq_true (show (0 : Int) ≤ (a : Int) by omega), gd_t]
 ·simp only [L75_1]
  rw [br_df (by omega)]; rfl
end Go.Proofs.YtpclggcpobakhaaDoor
end

section
namespace Go.Proofs.YtpclggcpobakhaaDoor
open Go Go.Ab Go.Ab.W
inductive Rch (es : List (Int × Int)) (S : Nat) (i : Nat) : Nat → Prop
 | refl : Rch es S i i
 | step {j k : Nat} (h : Rch es S i j) (ha : adj es j k) (hk : S.testBit k = true) : Rch es S i k
theorem Rch.mem {es : List (Int × Int)} {S i j : Nat} (h : Rch es S i j) (hi : S.testBit i = true) : S.testBit j = true := by
 cases h with
 | refl => exact hi
 | step _ _ hk => exact hk
theorem Rch.trans {es : List (Int × Int)} {S i j k : Nat} (h : Rch es S i j) (h' : Rch es S j k) : Rch es S i k := by
 induction h' with
 | refl => exact h
 | step _ ha hk ih => exact .step ih ha hk
theorem Rch.symm {es : List (Int × Int)} {S i j : Nat} (h : Rch es S i j) (hi : S.testBit i = true) : Rch es S j i := by
 induction h with
 | refl => exact .refl
 | step h' ha _ ih => exact Rch.trans (.step .refl (adj_symm ha) (h'.mem hi)) ih
def IsCl (es : List (Int × Int)) (S i w : Nat) : Prop := w < 2 ^ 64 ∧ ∀ j, w.testBit j = true ↔ Rch es S i j
theorem IsCl.unique {es : List (Int × Int)} {S i w w' : Nat} (h : IsCl es S i w) (h' : IsCl es S i w') : w = w' := word_ext fun j => by rw [h.2, h'.2]
theorem IsCl.of {es : List (Int × Int)} {S i w : Nat} (hw : w < 2 ^ 64) (hi : w.testBit i = true) (hr : ∀ j, w.testBit j = true → Rch es S i j) (hc : ∀ j k, w.testBit j = true → adj es j k → S.testBit k = true → w.testBit k = true) : IsCl es S i w := by
 refine ⟨hw, fun j => ⟨hr j, fun h => ?_⟩⟩
 induction h with
 | refl => exact hi
 | step _ ha hk ih => exact hc _ _ ih ha hk
inductive Cs (es : List (Int × Int)) (S : Nat) : Nat → List Nat → Prop
 | nil : Cs es S 0 []
 | cons {r w : Nat} {L : List Nat} (h0 : 0 < r) (hr : r < 2 ^ 64) (hw : IsCl es S (tz r) w) (t : Cs es S (uandn .u64 r w) L) : Cs es S r (w :: L)
theorem Cs.unique {es : List (Int × Int)} {S : Nat} {L : List Nat} : ∀ {r : Nat} {L' : List Nat}, Cs es S r L → Cs es S r L' → L = L' := by
 intro r L' h
 induction h generalizing L' with
 | nil => intro h'; cases h' with
  | nil => rfl
  | cons h0 => exact absurd h0 (Nat.lt_irrefl 0)
 | cons h0 hr hw _ ih => intro h'; cases h' with
  | nil => exact absurd h0 (Nat.lt_irrefl 0)
  | cons _ _ hw' t' =>
   have := hw.unique hw'
   subst this
   rw [ih t']
def cnt (x : Nat) : Nat := (bitsOf x).length
theorem filter_le {p q : Nat → Bool} : ∀ {l : List Nat}, (∀ i ∈ l, p i = true → q i = true) → (l.filter p).length ≤ (l.filter q).length
 | [], _ => Nat.le_refl _
 | x :: l, h => by
  have ih := filter_le (p := p) (q := q) (l := l) fun i hi => h i (by simp [hi])
  by_cases hp : p x = true
  ·rw [List.filter_cons_of_pos hp, List.filter_cons_of_pos (h x (by simp) hp)]
   simp only [List.length_cons]; omega
  ·rw [List.filter_cons_of_neg hp]
   by_cases hq : q x = true
   ·rw [List.filter_cons_of_pos hq, List.length_cons]; omega
   ·rw [List.filter_cons_of_neg hq]; exact ih
theorem filter_lt {p q : Nat → Bool} {a : Nat} : ∀ {l : List Nat}, a ∈ l → (∀ i ∈ l, p i = true → q i = true) → p a = false → q a = true → (l.filter p).length < (l.filter q).length
 | x :: l, ha, h, h1, h2 => by
  by_cases hx : x = a
  ·subst hx
   rw [List.filter_cons_of_neg (by rw [h1]; decide), List.filter_cons_of_pos h2, List.length_cons]
   have := filter_le (p := p) (q := q) (l := l) fun i hi => h i (by simp [hi])
   omega
  ·have ha' : a ∈ l := by
    rcases List.mem_cons.1 ha with e | e
    ·exact absurd e.symm hx
    ·exact e
   have ih := filter_lt ha' (fun i hi => h i (by simp [hi])) h1 h2
   by_cases hp : p x = true
   ·rw [List.filter_cons_of_pos hp, List.filter_cons_of_pos (h x (by simp) hp)]
    simp only [List.length_cons]; omega
   ·rw [List.filter_cons_of_neg hp]
    by_cases hq : q x = true
    ·rw [List.filter_cons_of_pos hq, List.length_cons]; omega
    ·rw [List.filter_cons_of_neg hq]; exact ih
theorem cnt_lt {a b i : Nat} (hb : b < 2 ^ 64) (h : ∀ i, a.testBit i = true → b.testBit i = true) (h1 : a.testBit i = false) (h2 : b.testBit i = true) : cnt a < cnt b :=
 filter_lt (by have := tb_lt hb h2; simpa using this) (fun i _ h' => h i h') h1 h2
theorem L58_1_eq (n N : Nat) (es : List (Int × Int)) (L : List Nat) (S p : Nat) (hL : AroundOk N es L) (hS : S < 2 ^ 64) (hp : p < 2 ^ N) (hN : N ≤ 64) (hn : 64 < n) :
  ∃ q, lpN (L58_1 n L S) n (p, p) = some q ∧ q < 2 ^ 64 ∧ ∀ i, q.testBit i = true ↔ p.testBit i = true ∨ ∃ k, p.testBit k = true ∧ adj es k i ∧ S.testBit i = true := by
 have hp64 := lt64 hp hN
 have hat : ∀ k, p.testBit k = true → ∃ w, L[k]? = some w ∧ L.getD k 0 = w ∧ w < 2 ^ 64 ∧ ∀ i, w.testBit i = true ↔ adj es k i := fun k hk => by
  obtain ⟨w, h1, h2, h3⟩ := hL.2 k (tb_ltN hp hk)
  exact ⟨w, h1, by simp [List.getD, h1], h2, h3⟩
 have := lp_bits (body := L58_1 n L S) (fun (r s : Nat) => (r, s)) (fun s k => s ||| (L.getD k 0 &&& S)) id (fun s => s < 2 ^ 64) p (fun r s h0 hr hb hs => ?_) (fun s _ => ?_) n p p hp64 (fun i hi => hi) hp64 (by have := bitsOf_len p; omega)
 ·refine ⟨_, this, foldl_or_lt _ _ _ hp64 fun k hk => ?_, fun i => ?_⟩
  ·obtain ⟨w, _, h2, h3, _⟩ := hat k ((mem_bitsOf hp64).1 hk)
   rw [h2]; exact and_lt' h3
  ·rw [id_eq, foldl_or]
   simp only [mem_bitsOf hp64, Nat.testBit_and, Bool.and_eq_true]
   constructor
   ·rintro (h | ⟨k, hk, h1, h2⟩)
    ·exact .inl h
    ·obtain ⟨w, _, e, _, h3⟩ := hat k hk
     rw [e] at h1
     exact .inr ⟨k, hk, (h3 i).1 h1, h2⟩
   ·rintro (h | ⟨k, hk, h1, h2⟩)
    ·exact .inl h
    ·obtain ⟨w, _, e, _, h3⟩ := hat k hk
     exact .inr ⟨k, hk, by rw [e]; exact (h3 i).2 h1, h2⟩
 ·obtain ⟨w, h1, h2, h3, h4⟩ := hat _ hb
  have hkN := tb_ltN hp hb
  refine ⟨?_, by rw [h2]; exact or_lt' hs (and_lt' h3)⟩
  have hlen := hL.1
  simp only [L58_1, F42_eq hr, ob_s, Int.toNat_natCast, h1, h2, word_and h3 hS, word_or hs (and_lt' (b := S) h3)]
  rw [show (!decide (r = 0)) = true by simp; omega, br_t, inB_nat (by omega), gd_t]
  rfl
 ·simp only [L58_1]
  rfl
theorem L58_2_eq (n N : Nat) (es : List (Int × Int)) (L : List Nat) (S i : Nat) (hok : Okay N es) (hL : AroundOk N es L) (hS : S < 2 ^ N) (hi : S.testBit i = true) (hn : 64 < n) :
  ∀ (m p k : Nat), p < 2 ^ N → p.testBit i = true → (∀ j, p.testBit j = true → Rch es S i j) → 64 - cnt p < m → k = m → ∃ w, lpN (L58_2 n L S) k p = some w ∧ IsCl es S i w := by
 intro m
 have hN := hok.le
 have hS64 := lt64 hS hN
 induction m with
 | zero => intro p k _ _ _ h; exact absurd h (Nat.not_lt_zero _)
 | succ m ih =>
  rintro p k hp hpi hr hm rfl
  have hp64 := lt64 hp hN
  obtain ⟨q, h1, h2, h3⟩ := L58_1_eq n N es L S p hL hS64 hp hN hn
  have hbody : L58_2 n L S p = br (decide (q = p)) (some (.inr p)) (some (.inl q)) := by
   unfold L58_2
   rw [ob_s, h1, ob_s, ob_s]
  by_cases hq : q = p
  ·rw [hq, decide_eq_true rfl, br_t] at hbody
   rw [hq] at h3
   exact ⟨p, lp_end hbody, IsCl.of hp64 hpi hr fun j k hj ha hk => (h3 k).2 (.inr ⟨j, hj, ha, hk⟩)⟩
  ·rw [br_df hq] at hbody
   rw [lp_next hbody]
   have hsub : ∀ j, p.testBit j = true → q.testBit j = true := fun j hj => (h3 j).2 (.inl hj)
   have hqr : ∀ j, q.testBit j = true → Rch es S i j := fun j hj => by
    rcases (h3 j).1 hj with h | ⟨k, hk, ha, hs⟩
    ·exact hr j h
    ·exact .step (hr k hk) ha hs
   have hqN : q < 2 ^ N := by
    have : ∀ j, q.testBit j = true → S.testBit j = true := fun j hj => (hqr j hj).mem hi
    refine Nat.lt_pow_two_of_testBit q fun j hj => ?_
    cases e : q.testBit j with
    | false => rfl
    | true => have := tb_ltN hS (this j e); omega
   obtain ⟨j, hj1, hj2⟩ : ∃ j, p.testBit j = false ∧ q.testBit j = true := by
    apply Classical.byContradiction
    intro hno
    refine hq (word_ext fun j => ⟨fun hj => ?_, hsub j⟩)
    cases e : p.testBit j with
    | true => rfl
    | false => exact absurd ⟨j, e, hj⟩ hno
   have hc := cnt_lt h2 hsub hj1 hj2
   have hcl : cnt q ≤ 64 := bitsOf_len q
   exact ih q m hqN (hsub i hpi) hqr (by omega) rfl
theorem L58_3_eq (n N : Nat) (es : List (Int × Int)) (L : List Nat) (S : Nat) (hok : Okay N es) (hL : AroundOk N es L) (hS : S < 2 ^ N) (hn : 65 < n) :
  ∀ (m r k : Nat) (acc : List Nat), (∀ i, r.testBit i = true → S.testBit i = true) → r < 2 ^ 64 → cnt r < m → m ≤ k → acc.length + cnt r ≤ 64 → ∃ l, lpN (L58_3 n L S) k (acc, r) = some (acc ++ l) ∧ Cs es S r l ∧ l.length ≤ cnt r := by
 intro m
 have hN := hok.le
 induction m with
 | zero => intro r k acc _ _ h; exact absurd h (Nat.not_lt_zero _)
 | succ m ih =>
  intro r k acc hsub hr hm hk hacc
  obtain ⟨k, rfl⟩ : ∃ k', k = k' + 1 := ⟨k - 1, by omega⟩
  rcases Nat.eq_zero_or_pos r with h0 | h0
  ·subst h0
   refine ⟨[], ?_, .nil, Nat.zero_le _⟩
   rw [List.append_nil]
   exact lp_end (by simp only [L58_3]; rfl)
  ·obtain ⟨hb, _⟩ := tz_bit h0 hr
   have hSi := hsub _ hb
   have hiN := tb_ltN hS hSi
   obtain ⟨w, h1, hw⟩ := L58_2_eq n N es L S (tz r) hok hL hS hSi (by omega) n (2 ^ tz r) n (Nat.pow_lt_pow_right (by decide) hiN) (by rw [tb_one]; simp) (fun j hj => by
    rw [tb_one, decide_eq_true_eq] at hj; subst hj; exact .refl) (by omega) rfl
   have hwi : w.testBit (tz r) = true := (hw.2 _).2 .refl
   have hlt : cnt (uandn .u64 r w) < cnt r := cnt_lt (i := tz r) hr (fun i hi => by
    rw [tb_andn hr hw.1, Bool.and_eq_true] at hi; exact hi.1) (by rw [tb_andn hr hw.1, hwi]; simp) hb
   obtain ⟨l, h2, h3, h4⟩ := ih (uandn .u64 r w) k (acc ++ [w]) (fun i hi => by
    rw [tb_andn hr hw.1, Bool.and_eq_true] at hi; exact hsub i hi.1) (andn_lt hr hw.1) (by omega) (by omega) (by simp; omega)
   refine ⟨w :: l, ?_, .cons h0 hr hw h3, by simp; omega⟩
   rw [lp_next (s' := (acc ++ [w], uandn .u64 r w)) ?_, h2, List.append_assoc]; rfl
   simp only [L58_3]
   rw [show (!decide (r = 0)) = true by simp; omega, br_t, low_word h0 hr, h1, ob_s, lim_of (by simp; omega), gd_t]
theorem F58_eq (n N : Nat) (es : List (Int × Int)) (S : Nat) (hok : Okay N es) (hS : S < 2 ^ N) (hn : 200 < n) : ∃ l, F58 n (N : Int) es S = some l ∧ Cs es S S l ∧ l.length ≤ 64 := by
 obtain ⟨L, hL, hA⟩ := F75_eq n N es hok hn
 have hS64 := lt64 hS hok.le
 have hc : cnt S ≤ 64 := bitsOf_len S
 obtain ⟨l, h1, h2, h3⟩ := L58_3_eq n N es L S hok hA hS (by omega) (cnt S + 1) S n [] (fun i h => h) hS64 (by omega) (by omega) (by simpa using hc)
 refine ⟨l, ?_, h2, by omega⟩
 unfold F58
 rw [hL, ob_s, h1, ob_s]; rfl
def rnd1 (S : Nat) (v : Nat) (e : Int × Int) : Nat := if S.testBit e.1.toNat && S.testBit e.2.toNat && (v.testBit e.1.toNat || v.testBit e.2.toNat) then v ||| 2 ^ e.1.toNat ||| 2 ^ e.2.toNat else v
theorem L71_body (n : Nat) (es : List (Int × Int)) (S v k a b : Nat) (hS : S < 2 ^ 64) (hv : v < 2 ^ 64) (he : es[k]? = some ((a : Int), (b : Int))) (ha : a < 64) (hb : b < 64) (hk : k < 200) :
  L71_1 n es (-1) S (v, (k : Int)) = some (.inl (rnd1 S v ((a : Int), (b : Int)), ((k + 1 : Nat) : Int))) := by
 have hlt : k < es.length := (List.getElem?_eq_some_iff.1 he).1
 have h1 : uw .u64 (uw .u64 (uw .u64 (uw .u64 v ||| uw .u64 (2 ^ a))) ||| uw .u64 (2 ^ b)) = v ||| 2 ^ a ||| 2 ^ b := by rw [word_or hv (one_lt ha), word_or (or_lt' hv (one_lt ha)) (one_lt hb)]
 have hne : (!decide ((k : Int) = -1)) = true := by rw [decide_eq_false (by omega)]; rfl
 unfold L71_1
 simp only [Int.toNat_natCast, he, ob_s, F67_eq n S a hS ha, F67_eq n S b hS hb, F67_eq n v a hv ha, F67_eq n v b hv hb, F68_eq n a ha, F68_eq n b hb, inB_nat hlt, gd_t, wrap_succ (show k < 4611686018427387904 by omega), hne, br_t, h1]
 rw [br_dt (by omega)]
 unfold rnd1
 simp only [Int.toNat_natCast]
 rcases Bool.eq_false_or_eq_true (S.testBit a) with e1 | e1 <;> rcases Bool.eq_false_or_eq_true (S.testBit b) with e2 | e2 <;> rcases Bool.eq_false_or_eq_true (v.testBit a) with e3 | e3 <;> rcases Bool.eq_false_or_eq_true (v.testBit b) with e4 | e4 <;>
  simp only [e1, e2, e3, e4, br_t, br_f, ob_s, Bool.and_self, Bool.and_true, Bool.and_false, Bool.true_and, Bool.or_self, Bool.or_true, Bool.or_false, Bool.true_or, if_true, Bool.false_eq_true, if_false]
theorem rnd1_lt {S v : Nat} {a b : Nat} (hv : v < 2 ^ 64) (ha : a < 64) (hb : b < 64) : rnd1 S v ((a : Int), (b : Int)) < 2 ^ 64 := by
 unfold rnd1
 simp only [Int.toNat_natCast]
 split
 ·exact or_lt' (or_lt' hv (one_lt ha)) (one_lt hb)
 ·exact hv
theorem rnd1_bit {S v a b i : Nat} : (rnd1 S v ((a : Int), (b : Int))).testBit i = true ↔ v.testBit i = true ∨ ((S.testBit a = true ∧ S.testBit b = true ∧ (v.testBit a = true ∨ v.testBit b = true)) ∧ (i = a ∨ i = b)) := by
 unfold rnd1
 simp only [Int.toNat_natCast]
 split
 ·rename_i h
  simp only [Bool.and_eq_true, Bool.or_eq_true] at h
  rw [Nat.testBit_or, Nat.testBit_or, Bool.or_eq_true, Bool.or_eq_true, tb_one, tb_one, decide_eq_true_eq, decide_eq_true_eq]
  constructor
  ·rintro ((h1 | h1) | h1)
   ·exact .inl h1
   ·exact .inr ⟨⟨h.1.1, h.1.2, h.2⟩, .inl h1⟩
   ·exact .inr ⟨⟨h.1.1, h.1.2, h.2⟩, .inr h1⟩
  ·rintro (h1 | ⟨_, h1 | h1⟩)
   ·exact .inl (.inl h1)
   ·exact .inl (.inr h1)
   ·exact .inr h1
 ·rename_i h
  constructor
  ·exact .inl
  ·rintro (h1 | ⟨⟨h1, h2, h3⟩, _⟩)
   ·exact h1
   ·exact absurd (by simp [h1, h2, h3]) h
def rnd (es : List (Int × Int)) (S v : Nat) : Nat := es.foldl (rnd1 S) v
def inn (es : List (Int × Int)) (v : Nat) : Nat := (es.filter fun e => v.testBit e.1.toNat && v.testBit e.2.toNat).length
theorem rnd_sub {S : Nat} : ∀ {es : List (Int × Int)} {v i : Nat}, (∀ e ∈ es, ∃ a b : Nat, e = ((a : Int), (b : Int)) ∧ a < 64 ∧ b < 64) → v.testBit i = true → (es.foldl (rnd1 S) v).testBit i = true
 | [], _, _, _, h => h
 | e :: es, v, i, hm, h => by
  obtain ⟨a, b, rfl, _, _⟩ := hm e (by simp)
  rw [List.foldl_cons]
  exact rnd_sub (fun e he => hm e (by simp [he])) (rnd1_bit.2 (.inl h))
theorem rnd_lt {S : Nat} : ∀ {es : List (Int × Int)} {v : Nat}, (∀ e ∈ es, ∃ a b : Nat, e = ((a : Int), (b : Int)) ∧ a < 64 ∧ b < 64) → v < 2 ^ 64 → es.foldl (rnd1 S) v < 2 ^ 64
 | [], _, _, h => h
 | e :: es, v, hm, h => by
  obtain ⟨a, b, rfl, ha, hb⟩ := hm e (by simp)
  rw [List.foldl_cons]
  exact rnd_lt (fun e he => hm e (by simp [he])) (rnd1_lt h ha hb)
theorem rnd_rch {es0 : List (Int × Int)} {S i : Nat} : ∀ {es : List (Int × Int)} {v : Nat}, (∀ e ∈ es, e ∈ es0 ∧ ∃ a b : Nat, e = ((a : Int), (b : Int)) ∧ a < 64 ∧ b < 64) → (∀ j, v.testBit j = true → Rch es0 S i j) → ∀ j, (es.foldl (rnd1 S) v).testBit j = true → Rch es0 S i j
 | [], _, _, h, j, hj => h j hj
 | e :: es, v, hm, h, j, hj => by
  obtain ⟨hin, a, b, rfl, ha, hb⟩ := hm e (by simp)
  rw [List.foldl_cons] at hj
  refine rnd_rch (fun e he => hm e (by simp [he])) (fun k hk => ?_) j hj
  rcases rnd1_bit.1 hk with h1 | ⟨⟨s1, s2, h1 | h1⟩, rfl | rfl⟩
  ·exact h k h1
  ·exact h _ h1
  ·exact .step (h a h1) (.inl hin) s2
  ·exact .step (h b h1) (.inr hin) s1
  ·exact h _ h1
theorem rnd_grow {S : Nat} {es : List (Int × Int)} (hm : ∀ e ∈ es, ∃ a b : Nat, e = ((a : Int), (b : Int)) ∧ a < 64 ∧ b < 64) (v : Nat) :
  (∀ e ∈ es, S.testBit e.1.toNat = true → S.testBit e.2.toNat = true → (v.testBit e.1.toNat = true ∨ v.testBit e.2.toNat = true) → v.testBit e.1.toNat = true ∧ v.testBit e.2.toNat = true) ∨ inn es v < inn es (rnd es S v) := by
 by_cases h : ∀ e ∈ es, S.testBit e.1.toNat = true → S.testBit e.2.toNat = true → (v.testBit e.1.toNat = true ∨ v.testBit e.2.toNat = true) → v.testBit e.1.toNat = true ∧ v.testBit e.2.toNat = true
 ·exact .inl h
 ·right
  obtain ⟨e, he, s1, s2, h1, h2⟩ : ∃ e, e ∈ es ∧ S.testBit e.1.toNat = true ∧ S.testBit e.2.toNat = true ∧ (v.testBit e.1.toNat = true ∨ v.testBit e.2.toNat = true) ∧ ¬ (v.testBit e.1.toNat = true ∧ v.testBit e.2.toNat = true) := by
   apply Classical.byContradiction
   intro hno
   refine h fun e he s1 s2 h1 => ?_
   apply Classical.byContradiction
   intro h2
   exact hno ⟨e, he, s1, s2, h1, h2⟩
  obtain ⟨l1, l2, rfl⟩ := List.append_of_mem he
  obtain ⟨a, b, rfl, ha, hb⟩ := hm e he
  simp only [Int.toNat_natCast] at s1 s2 h1 h2
  have hboth : (rnd (l1 ++ ((a : Int), (b : Int)) :: l2) S v).testBit a = true ∧ (rnd (l1 ++ ((a : Int), (b : Int)) :: l2) S v).testBit b = true := by
   unfold rnd
   rw [List.foldl_append, List.foldl_cons]
   have hm1 : ∀ e ∈ l1, ∃ a b : Nat, e = ((a : Int), (b : Int)) ∧ a < 64 ∧ b < 64 := fun e he => hm e (by simp [he])
   have hm2 : ∀ e ∈ l2, ∃ a b : Nat, e = ((a : Int), (b : Int)) ∧ a < 64 ∧ b < 64 := fun e he => hm e (by simp [he])
   have hc : (l1.foldl (rnd1 S) v).testBit a = true ∨ (l1.foldl (rnd1 S) v).testBit b = true := h1.imp (rnd_sub hm1) (rnd_sub hm1)
   exact ⟨rnd_sub hm2 (rnd1_bit.2 (.inr ⟨⟨s1, s2, hc⟩, .inl rfl⟩)), rnd_sub hm2 (rnd1_bit.2 (.inr ⟨⟨s1, s2, hc⟩, .inr rfl⟩))⟩
  generalize hes : l1 ++ ((a : Int), (b : Int)) :: l2 = es at hm he hboth ⊢
  unfold inn
  have key : ∀ (l : List (Int × Int)) (p q : Int × Int → Bool), (∀ e ∈ l, p e = true → q e = true) → (l.filter p).length ≤ (l.filter q).length ∧ ((∃ e ∈ l, p e = false ∧ q e = true) → (l.filter p).length < (l.filter q).length) := by
   intro l p q
   induction l with
   | nil => intro _; exact ⟨Nat.le_refl _, fun ⟨e, h, _⟩ => by cases h⟩
   | cons x l ih =>
    intro hpq
    obtain ⟨ih1, ih2⟩ := ih fun e he => hpq e (by simp [he])
    have hx := hpq x (by simp)
    by_cases hp : p x = true
    ·rw [List.filter_cons_of_pos hp, List.filter_cons_of_pos (hx hp)]
     refine ⟨by simp only [List.length_cons]; omega, fun ⟨e, he, h1, h2⟩ => ?_⟩
     rcases List.mem_cons.1 he with rfl | he
     ·rw [h1] at hp; cases hp
     ·have := ih2 ⟨e, he, h1, h2⟩
      simp only [List.length_cons]; omega
    ·rw [List.filter_cons_of_neg hp]
     by_cases hq : q x = true
     ·rw [List.filter_cons_of_pos hq, List.length_cons]
      exact ⟨by omega, fun _ => by omega⟩
     ·rw [List.filter_cons_of_neg hq]
      refine ⟨ih1, fun ⟨e, he, h1, h2⟩ => ?_⟩
      rcases List.mem_cons.1 he with rfl | he
      ·exact absurd h2 hq
      ·exact ih2 ⟨e, he, h1, h2⟩
  refine (key es _ _ fun e he' h => ?_).2 ⟨_, he, ?_, ?_⟩
  ·simp only [Bool.and_eq_true] at h ⊢
   exact ⟨rnd_sub hm h.1, rnd_sub hm h.2⟩
  ·simp only [Int.toNat_natCast]
   cases e1 : v.testBit a <;> cases e2 : v.testBit b <;> simp_all
  ·simp only [Int.toNat_natCast, hboth.1, hboth.2, Bool.and_self]
end Go.Proofs.YtpclggcpobakhaaDoor
end

section
namespace Go.Proofs.YtpclggcpobakhaaDoor
open Go Go.Ab Go.Ab.W
theorem Okay.mem64 {N : Nat} {es : List (Int × Int)} (h : Okay N es) : ∀ e ∈ es, ∃ a b : Nat, e = ((a : Int), (b : Int)) ∧ a < 64 ∧ b < 64 := fun e he => by
 obtain ⟨a, b, e1, h1, h2⟩ := h.mem e he
 have := h.le
 exact ⟨a, b, e1, by omega, by omega⟩
def Closed (es : List (Int × Int)) (S v : Nat) : Prop := ∀ e ∈ es, S.testBit e.1.toNat = true → S.testBit e.2.toNat = true → (v.testBit e.1.toNat = true ∨ v.testBit e.2.toNat = true) → v.testBit e.1.toNat = true ∧ v.testBit e.2.toNat = true
theorem rnd_closed {S v : Nat} : ∀ {es es0 : List (Int × Int)}, (∀ e ∈ es, e ∈ es0 ∧ ∃ a b : Nat, e = ((a : Int), (b : Int)) ∧ a < 64 ∧ b < 64) → Closed es0 S v → es.foldl (rnd1 S) v = v
 | [], _, _, _ => rfl
 | e :: es, es0, hm, h => by
  obtain ⟨hin, a, b, rfl, ha, hb⟩ := hm e (by simp)
  have h1 : rnd1 S v ((a : Int), (b : Int)) = v := word_ext fun i => by
   rw [rnd1_bit]
   constructor
   ·rintro (h1 | ⟨⟨s1, s2, h1⟩, rfl | rfl⟩)
    ·exact h1
    ·have := h _ hin (by simpa using s1) (by simpa using s2) (by simpa using h1)
     simpa using this.1
    ·have := h _ hin (by simpa using s1) (by simpa using s2) (by simpa using h1)
     simpa using this.2
   ·exact .inl
  rw [List.foldl_cons, h1]
  exact rnd_closed (fun e he => hm e (by simp [he])) h
theorem F71_eq (n N : Nat) (es : List (Int × Int)) (S i : Nat) (hok : Okay N es) (hS : S < 2 ^ N) (hi : S.testBit i = true) (hn : 200 < n) : ∃ w, F71 n (N : Int) es S ((i : Nat) : Int) (-1) = some w ∧ IsCl es S i w := by
 have hN := hok.le
 have hlen := hok.len
 have hS64 := lt64 hS hN
 have hi64 := tb_lt hS64 hi
 have hm := hok.mem64
 have hinner : ∀ v, v < 2 ^ 64 → lpN (L71_1 n es (-1) S) n (v, 0) = some (rnd es S v) := fun v hv => by
  have := lp_list0 (body := L71_1 n es (-1) S) es (fun (s : Nat) (k : Int) => (s, k)) (rnd1 S) id (fun _ s => s < 2 ^ 64) (fun s k e he hI => ?_) (fun s _ => ?_) (n := n) (s := v) hv (by omega)
  ·exact this.1
  ·have hk : k < es.length := (List.getElem?_eq_some_iff.1 he).1
   obtain ⟨a, b, rfl, ha, hb⟩ := hm e (List.mem_of_getElem? he)
   exact ⟨L71_body n es S s k a b hS64 hI he ha hb (by omega), rnd1_lt hI ha hb⟩
  ·simp only [L71_1]
   rw [br_df (by omega)]; rfl
 have hout := lp_upto (body := L71_2 n es (-1) S) es.length (fun (s : Nat) (k : Int) => (s, k)) (fun s _ => rnd es S s) id
  (fun k s => s < 2 ^ 64 ∧ s.testBit i = true ∧ (∀ j, s.testBit j = true → Rch es S i j) ∧ (Closed es S s ∨ k ≤ inn es s)) (fun s k hk hI => ?_) (fun s _ => ?_) (n := n) (s := 2 ^ i) ⟨one_lt hi64, by rw [tb_one]; simp, fun j hj => by
   rw [tb_one, decide_eq_true_eq] at hj; subst hj; exact .refl, .inr (Nat.zero_le _)⟩ (by omega)
 ·obtain ⟨h1, h2, h3, h4, h5⟩ := hout
  refine ⟨_, by unfold F71; rw [F68_eq n i hi64, ob_s]; simp only [h1, ob_s, id_eq]; rfl, ?_⟩
  have hcl : Closed es S ((List.range es.length).foldl (fun s _ => rnd es S s) (2 ^ i)) := by
   rcases h5 with h5 | h5
   ·exact h5
   ·intro e he _ _ _
    have hall : (es.filter fun e => ((List.range es.length).foldl (fun s _ => rnd es S s) (2 ^ i)).testBit e.1.toNat && ((List.range es.length).foldl (fun s _ => rnd es S s) (2 ^ i)).testBit e.2.toNat).length = es.length := Nat.le_antisymm (List.length_filter_le _ _) h5
    have := List.length_filter_eq_length_iff.1 hall e he
    simpa using this
  refine IsCl.of h2 h3 h4 fun j k hj ha hk => ?_
  have hjS := (h4 j hj).mem hi
  rcases ha with ha | ha
  ·have := hcl _ ha (by simpa using hjS) (by simpa using hk) (.inl (by simpa using hj))
   simpa using this.2
  ·have := hcl _ ha (by simpa using hk) (by simpa using hjS) (.inr (by simpa using hj))
   simpa using this.1
 ·obtain ⟨g1, g2, g3, g4⟩ := hI
  refine ⟨?_, rnd_lt hm g1, rnd_sub hm g2, rnd_rch (fun e he => ⟨he, hm e he⟩) g3, ?_⟩
  ·simp only [L71_2]
   rw [br_dt (by omega), hinner s g1, ob_s, wrap_succ (by omega)]
  ·rcases g4 with g4 | g4
   ·have e : rnd es S s = s := rnd_closed (fun e he => ⟨he, hm e he⟩) g4
    rw [e]; exact .inl g4
   ·rcases rnd_grow hm s with h | h
    ·have e : rnd es S s = s := rnd_closed (fun e he => ⟨he, hm e he⟩) h
     rw [e]; exact .inl h
    ·exact .inr (by omega)
 ·simp only [L71_2]
  rw [br_df (by omega)]; rfl
theorem andn_or {a b c : Nat} (ha : a < 2 ^ 64) (hb : b < 2 ^ 64) (hc : c < 2 ^ 64) : uandn .u64 a (b ||| c) = uandn .u64 (uandn .u64 a b) c := word_ext fun i => by
 rw [tb_andn ha (or_lt' hb hc), tb_andn (andn_lt ha hb) hc, tb_andn ha hb, Nat.testBit_or]
 cases a.testBit i <;> cases b.testBit i <;> cases c.testBit i <;> decide
theorem tz_unique {x i : Nat} (hx : x < 2 ^ 64) (hi : x.testBit i = true) (hl : ∀ j, x.testBit j = true → i ≤ j) : 0 < x ∧ tz x = i := by
 have h0 : 0 < x := by
  rcases Nat.eq_zero_or_pos x with h | h
  ·subst h; rw [Nat.zero_testBit] at hi; cases hi
  ·exact h
 obtain ⟨h1, h2⟩ := tz_bit h0 hx
 refine ⟨h0, ?_⟩
 rcases Nat.lt_trichotomy (tz x) i with h | h | h
 ·have := hl _ h1; omega
 ·exact h
 ·have := h2 i h; rw [hi] at this; cases this
theorem L70_eq (n N : Nat) (es : List (Int × Int)) (S : Nat) (hok : Okay N es) (hS : S < 2 ^ N) (hn : 200 < n) :
  ∀ (k i m : Nat) (acc : List Nat) (done : Nat), i + k = N → done < 2 ^ 64 → (∀ j, (uandn .u64 S done).testBit j = true → i ≤ j) → acc.length ≤ i → k < m →
   ∃ l, lpN (L70_1 n (N : Int) S es) m (acc, done, (i : Int)) = some (acc ++ l) ∧ Cs es S (uandn .u64 S done) l := by
 intro k
 have hN := hok.le
 have hS64 := lt64 hS hN
 induction k with
 | zero =>
  intro i m acc done hi hd hl ha hm
  obtain ⟨m, rfl⟩ : ∃ m', m = m' + 1 := ⟨m - 1, by omega⟩
  have hz : uandn .u64 S done = 0 := word_zero.2 fun j => by
   cases e : (uandn .u64 S done).testBit j with
   | false => rfl
   | true =>
    have h1 := hl j e
    rw [tb_andn hS64 hd, Bool.and_eq_true] at e
    have := tb_ltN hS e.1
    omega
  rw [hz]
  refine ⟨[], ?_, .nil⟩
  rw [List.append_nil]
  exact lp_end (by simp only [L70_1]; rw [br_df (by omega)])
 | succ k ih =>
  intro i m acc done hi hd hl ha hm
  obtain ⟨m, rfl⟩ : ∃ m', m = m' + 1 := ⟨m - 1, by omega⟩
  have hi64 : i < 64 := by omega
  have hbit := tb_andn hS64 hd i
  have hcond : (ob (ob (F67 n S (i : Int)) fun r140 => br r140 (ob (F67 n done (i : Int)) fun r143 => some (!r143)) (some false)) fun v138 => br v138 (ob (F71 n (N : Int) es S (i : Int) (-1)) fun r148 => gd (lim (acc ++ [r148]).length) (some ((acc ++ [r148]), uw .u64 (uw .u64 done ||| uw .u64 r148)))) (some (acc, done)))
    = br (S.testBit i && !done.testBit i) (ob (F71 n (N : Int) es S (i : Int) (-1)) fun r148 => gd (lim (acc ++ [r148]).length) (some ((acc ++ [r148]), uw .u64 (uw .u64 done ||| uw .u64 r148)))) (some (acc, done)) := by
   rw [F67_eq n S i hS64 hi64, F67_eq n done i hd hi64, ob_s]
   rcases Bool.eq_false_or_eq_true (S.testBit i) with h | h <;> simp only [h, br_t, br_f, ob_s, Bool.true_and, Bool.false_and]
  have hbody : L70_1 n (N : Int) S es (acc, done, (i : Int)) = ob (br (S.testBit i && !done.testBit i) (ob (F71 n (N : Int) es S (i : Int) (-1)) fun r148 => gd (lim (acc ++ [r148]).length) (some ((acc ++ [r148]), uw .u64 (uw .u64 done ||| uw .u64 r148)))) (some (acc, done))) fun x => some (.inl (x.1, x.2, ((i + 1 : Nat) : Int))) := by
   simp only [L70_1]
   rw [br_dt (by omega), hcond, wrap_succ (by omega)]
  by_cases hc : (S.testBit i && !done.testBit i) = true
  ·rw [hc, br_t] at hbody
   have hSi : S.testBit i = true := by simp only [Bool.and_eq_true] at hc; exact hc.1
   obtain ⟨w, h1, hw⟩ := F71_eq n N es S i hok hS hSi hn
   rw [h1, ob_s, lim_of (by simp; omega), gd_t, ob_s, word_or hd hw.1] at hbody
   rw [hc] at hbit
   obtain ⟨h0, htz⟩ := tz_unique (andn_lt hS64 hd) hbit hl
   have hwi : w.testBit i = true := (hw.2 i).2 .refl
   obtain ⟨l, h2, h3⟩ := ih (i + 1) m (acc ++ [w]) (done ||| w) (by omega) (or_lt' hd hw.1) (fun j hj => by
    rw [andn_or hS64 hd hw.1, tb_andn (andn_lt hS64 hd) hw.1, Bool.and_eq_true] at hj
    have := hl j hj.1
    have : j ≠ i := fun e => by subst e; rw [hwi] at hj; cases hj.2
    omega) (by simp; omega) (by omega)
   refine ⟨w :: l, ?_, ?_⟩
   ·rw [lp_next hbody, h2, List.append_assoc]; rfl
   ·rw [andn_or hS64 hd hw.1] at h3
    exact .cons h0 (andn_lt hS64 hd) (by rw [htz]; exact hw) h3
  ·rw [Bool.not_eq_true] at hc
   rw [hc, br_f, ob_s] at hbody
   rw [hc] at hbit
   obtain ⟨l, h2, h3⟩ := ih (i + 1) m acc done (by omega) hd (fun j hj => by
    have := hl j hj
    have : j ≠ i := fun e => by subst e; rw [hbit] at hj; cases hj
    omega) (by omega) (by omega)
   exact ⟨l, by rw [lp_next hbody, h2], h3⟩
theorem F70_eq (n N : Nat) (es : List (Int × Int)) (S : Nat) (hok : Okay N es) (hS : S < 2 ^ N) (hn : 200 < n) : ∃ l, F70 n (N : Int) es S = some l ∧ Cs es S S l := by
 have hN := hok.le
 have hS64 := lt64 hS hN
 have e : uandn .u64 S 0 = S := word_ext fun i => by rw [tb_andn hS64 (by decide), Nat.zero_testBit]; simp
 obtain ⟨l, h1, h2⟩ := L70_eq n N es S hok hS hn N 0 n [] 0 (by omega) (by decide) (fun j _ => Nat.zero_le j) (by simp) (by omega)
 rw [e] at h2
 refine ⟨l, ?_, h2⟩
 unfold F70
 have h1' : lpN (L70_1 n (N : Int) S es) n ([], 0, 0) = some l := h1
 rw [h1', ob_s]
theorem comps_both (n : Nat) (N : Int) (es : List (Int × Int)) (x : Nat) (hx : x < 2 ^ 64) (hn : 200 < n) (hl : es.length < 4611686018427387904) (hk : es.length < n) :
  ∃ l, F17 n N es x = some (l, ckF N es x) ∧ F33 n N es x = some (l, ckF N es x) ∧ F16 n N es x = some (decide (ckF N es x = 0) && decide (l.length = 1), ckF N es x) ∧ F32 n N es x = some (decide (ckF N es x = 0) && decide (l.length = 1), ckF N es x) ∧ l.length ≤ 64 ∧ (ckF N es x = 0 → Cs es x x l) := by
 unfold F17 F33 F16 F32
 rw [F55_eq n N es x hx (by omega) hl hk, F66_eq n N es x hx hl hk, ob_s, ob_s, ob_s, ob_s]
 by_cases h : ckF N es x = 0
 ·obtain ⟨M, rfl, hM, hxM⟩ := ckF_ok h
  obtain ⟨l1, h1, c1, b1⟩ := F58_eq n M es x hM hxM hn
  obtain ⟨l2, h2, c2⟩ := F70_eq n M es x hM hxM hn
  have := c1.unique c2
  subst this
  have e : decide (((l1.length : Nat) : Int) = 1) = decide (l1.length = 1) := by
   by_cases h : l1.length = 1
   ·rw [decide_eq_true h, decide_eq_true (by omega)]
   ·rw [decide_eq_false h, decide_eq_false (by omega)]
  refine ⟨l1, ?_, ?_, ?_, ?_, b1, fun _ => c1⟩
  ·rw [h, decide_eq_true rfl, Bool.not_true, br_f, h1, ob_s]
  ·rw [h, decide_eq_true rfl, Bool.not_true, br_f, h2, ob_s]
  ·rw [h, decide_eq_true rfl, Bool.not_true, br_f, h1, ob_s, e]; rfl
  ·unfold F69
   rw [h, decide_eq_true rfl, Bool.not_true, br_f, h2, ob_s, ob_s, e]; rfl
 ·refine ⟨[], ?_, ?_, ?_, ?_, by simp, fun h' => absurd h' h⟩
  ·rw [decide_eq_false h, Bool.not_false, br_t]
  ·rw [decide_eq_false h, Bool.not_false, br_t]
  ·rw [decide_eq_false h, Bool.not_false, br_t, Bool.false_and]
  ·rw [decide_eq_false h, Bool.not_false, br_t, Bool.false_and]
end Go.Proofs.YtpclggcpobakhaaDoor
end

section
namespace Go.Proofs.YtpclggcpobakhaaDoor.Dfs
inductive RP (A : Nat → Nat → Prop) (P : Nat → Prop) (i : Nat) : Nat → Prop
 | refl : RP A P i i
 | step {j k : Nat} (h : RP A P i j) (ha : A j k) (hk : P k) : RP A P i k
section
variable {A A' : Nat → Nat → Prop} {P P' : Nat → Prop} {i j k : Nat}
theorem RP.trans (h : RP A P i j) (h' : RP A P j k) : RP A P i k := by
 induction h' with
 | refl => exact h
 | step _ ha hk ih => exact .step ih ha hk
theorem RP.one (ha : A i j) (hj : P j) : RP A P i j := .step .refl ha hj
theorem RP.mem (h : RP A P i j) (hi : P i) : P j := by
 cases h with
 | refl => exact hi
 | step _ _ hk => exact hk
theorem RP.symm (hs : ∀ x y, A x y → A y x) (h : RP A P i j) (hi : P i) : RP A P j i := by
 induction h with
 | refl => exact .refl
 | step h' ha _ ih => exact (RP.one (hs _ _ ha) (h'.mem hi)).trans ih
theorem RP.map (h : RP A P i j) (hi : P i) (hA : ∀ x y, P x → P y → A x y → A' x y) (hP : ∀ x, P x → P' x) : RP A' P' i j := by
 induction h with
 | refl => exact .refl
 | step h' ha hk ih => exact .step ih (hA _ _ (h'.mem hi) hk ha) (hP _ hk)
theorem RP.mono (h : RP A P i j) (hP : ∀ x, P x → P' x) : RP A P' i j := by
 induction h with
 | refl => exact .refl
 | step h' ha hk ih => exact .step ih ha (hP _ hk)
theorem RP.closed {Q : Nat → Prop} (h : RP A P i j) (hi : Q i) (hc : ∀ x y, Q x → A x y → P y → Q y) : Q j := by
 induction h with
 | refl => exact hi
 | step h' ha hk ih => exact hc _ _ ih ha hk
end
def cutE (A : Nat → Nat → Prop) (a b : Nat) (x y : Nat) : Prop := A x y ∧ ¬ (x = a ∧ y = b) ∧ ¬ (x = b ∧ y = a)
def Bridge (A : Nat → Nat → Prop) (a b : Nat) : Prop := ¬ RP (cutE A a b) (fun _ => True) a b
def Cut (A : Nat → Nat → Prop) (v : Nat) : Prop := ∃ a b, A v a ∧ A v b ∧ ¬ RP A (fun x => x ≠ v) a b
theorem cutE_symm {A : Nat → Nat → Prop} (hs : ∀ x y, A x y → A y x) {a b : Nat} : ∀ x y, cutE A a b x y → cutE A a b y x := fun x y h => ⟨hs _ _ h.1, fun e => h.2.2 ⟨e.2, e.1⟩, fun e => h.2.1 ⟨e.2, e.1⟩⟩
theorem cutE_comm {A : Nat → Nat → Prop} {a b : Nat} {x y : Nat} : cutE A a b x y ↔ cutE A b a x y := ⟨fun h => ⟨h.1, h.2.2, h.2.1⟩, fun h => ⟨h.1, h.2.2, h.2.1⟩⟩
theorem Bridge.comm {A : Nat → Nat → Prop} (hs : ∀ x y, A x y → A y x) {a b : Nat} : Bridge A a b ↔ Bridge A b a := by
 have key : ∀ {a b : Nat}, RP (cutE A a b) (fun _ => True) a b → RP (cutE A b a) (fun _ => True) b a := fun h => (h.symm (cutE_symm hs) trivial).map trivial (fun _ _ _ _ h => cutE_comm.1 h) fun _ h => h
 exact ⟨fun h h' => h (key h'), fun h h' => h (key h')⟩
structure Sg where
 m : Nat → Int
 lo : Nat → Int
 b : Nat → Nat → Prop
 cu : Nat → Prop
 c : Int
section
variable {A : Nat → Nat → Prop} {N S : Nat → Prop} {Act fr D : Nat → Prop} {n k : Nat} {s s0 s2 s3 : Sg} {kids : Int}
structure Inv (S : Nat → Prop) (s : Sg) : Prop where
 pos : ∀ x, 0 ≤ s.m x ∧ s.m x ≤ s.c
 inS : ∀ x, 0 < s.m x → S x
 bs : ∀ x y, s.b x y → s.b y x
 bv : ∀ x y, s.b x y → 0 < s.m x
 cv : ∀ x, s.cu x → 0 < s.m x
theorem Inv.c0 (h : Inv S s) : 0 ≤ s.c := by have := h.pos 0; omega
structure Pre (A : Nat → Nat → Prop) (S Act fr : Nat → Prop) (n : Nat) (s : Sg) : Prop extends Inv S s where
 act : ∀ w, Act w → 0 < s.m w
 conn : ∀ w w', Act w → Act w' → RP A Act w w'
 fin : ∀ w x, 0 < s.m w → ¬ Act w → A w x → 0 < s.m x
 new : s.m n = 0
 nS : S n
 frA : ∀ p, fr p → Act p ∧ A n p
 root : ∀ w, Act w → ∃ p, fr p
 fr1 : ∀ p q, fr p → fr q → p = q
def New (s s' : Sg) (x : Nat) : Prop := 0 < s'.m x ∧ ¬ 0 < s.m x
structure Post (A : Nat → Nat → Prop) (S fr : Nat → Prop) (n : Nat) (s s' : Sg) : Prop extends Inv S s' where
 ext : ∀ x, 0 < s.m x → s'.m x = s.m x
 newc : ∀ x, New s s' x → s.c < s'.m x
 nn : s'.m n = s.c + 1
 con : ∀ u, New s s' u → RP A (New s s') n u
 fin : ∀ u x, New s s' u → A u x → 0 < s'.m x
 low : ∀ t, t ≤ s.c → (s'.lo n ≤ t ↔ ∃ u w, New s s' u ∧ A u w ∧ 0 < s.m w ∧ s.m w ≤ t ∧ ¬ (u = n ∧ fr w))
 loo : ∀ x, 0 < s.m x → s'.lo x = s.lo x
 bj : ∀ u w, New s s' u → A u w → ¬ (u = n ∧ fr w) → (s'.b u w ↔ Bridge A u w)
 bo : ∀ x y, ¬ New s s' x → ¬ New s s' y → (s'.b x y ↔ s.b x y)
 bf : ∀ p, fr p → ¬ s'.b n p
 cj : ∀ u, New s s' u → (s'.cu u ↔ Cut A u)
 co : ∀ x, ¬ New s s' x → (s'.cu x ↔ s.cu x)
structure LI (A : Nat → Nat → Prop) (S Act fr : Nat → Prop) (n : Nat) (s0 : Sg) (D : Nat → Prop) (s : Sg) (kids : Int) : Prop extends Inv S s where
 ext : ∀ x, 0 < s0.m x → s.m x = s0.m x
 newc : ∀ x, New s0 s x → s0.c < s.m x
 nn : s.m n = s0.c + 1
 con : ∀ u, New s0 s u → RP A (New s0 s) n u
 fin : ∀ u x, New s0 s u → u ≠ n → A u x → 0 < s.m x
 dv : ∀ w, D w → 0 < s.m w
 lon : s.lo n ≤ s0.c + 1
 low : ∀ t, t ≤ s0.c → (s.lo n ≤ t ↔ ∃ u w, A u w ∧ 0 < s0.m w ∧ s0.m w ≤ t ∧ ((New s0 s u ∧ u ≠ n) ∨ (u = n ∧ D w ∧ ¬ fr w)))
 loo : ∀ x, 0 < s0.m x → s.lo x = s0.lo x
 bj : ∀ u w, A u w → ((New s0 s u ∧ u ≠ n) ∨ (u = n ∧ D w ∧ ¬ fr w)) → (s.b u w ↔ Bridge A u w)
 bo : ∀ x y, ¬ New s0 s x → ¬ New s0 s y → (s.b x y ↔ s0.b x y)
 bn : ∀ w, ¬ New s0 s w → ¬ (D w ∧ ¬ fr w) → ¬ s.b n w
 cj : ∀ u, New s0 s u → u ≠ n → (s.cu u ↔ Cut A u)
 co : ∀ x, ¬ New s0 s x → (s.cu x ↔ s0.cu x)
 cn : (∃ p, fr p) → (s.cu n ∧ Cut A n) ∨ (¬ s.cu n ∧ ∀ u, New s0 s u → u ≠ n → ∃ w, Act w ∧ RP A (fun x => x ≠ n) u w)
 cr : (¬ ∃ p, fr p) → ¬ s.cu n ∧ ((kids = 0 ∧ ∀ u, New s0 s u → u = n) ∨ (kids = 1 ∧ (∃ q, A n q ∧ New s0 s q) ∧ ∀ u u', New s0 s u → u ≠ n → New s0 s u' → u' ≠ n → RP A (fun x => x ≠ n) u u') ∨ (2 ≤ kids ∧ Cut A n))
 kid : 0 ≤ kids ∧ kids ≤ s.c
theorem LI.newn (hp : Pre A S Act fr n s0) (h : LI A S Act fr n s0 D s kids) : New s0 s n := ⟨by rw [h.nn]; have := hp.c0; omega, by rw [hp.new]; omega⟩
theorem LI.cle (h : LI A S Act fr n s0 D s kids) : s0.c + 1 ≤ s.c := by have := (h.pos n).2; rw [h.nn] at this; exact this
theorem LI.vis (h : LI A S Act fr n s0 D s kids) {x : Nat} (hx : 0 < s0.m x) : 0 < s.m x := by rw [h.ext x hx]; exact hx
theorem LI.start (hp : Pre A S Act fr n s0) (hs : ∀ x y, A x y → A y x) (h1 : ∀ x, s.m x = if x = n then s0.c + 1 else s0.m x) (h2 : ∀ x, s.lo x = if x = n then s0.c + 1 else s0.lo x) (h3 : s.b = s0.b) (h4 : s.cu = s0.cu) (h5 : s.c = s0.c + 1) : LI A S Act fr n s0 (fun _ => False) s 0 := by
 have hc := hp.c0
 have hne : ∀ x, 0 < s0.m x → x ≠ n := fun x hx e => by rw [e, hp.new] at hx; omega
 have hold : ∀ x, 0 < s0.m x → s.m x = s0.m x := fun x hx => by rw [h1, if_neg (hne x hx)]
 have hnew : ∀ x, New s0 s x → x = n := fun x hx => by
  by_cases e : x = n
  ·exact e
  ·have := hx.1; rw [h1, if_neg e] at this; exact absurd this hx.2
 have hmn : s.m n = s0.c + 1 := by rw [h1, if_pos rfl]
 refine { pos := fun x => ?_, inS := fun x hx => ?_, bs := by rw [h3]; exact hp.bs, bv := fun x y hb => ?_, cv := fun x hb => ?_, ext := hold, newc := fun x hx => ?_, nn := hmn, con := fun u hu => ?_, fin := fun u x hu he => absurd (hnew u hu) he, dv := fun w h => h.elim, lon := ?_, low := fun t ht => ⟨fun h => ?_, fun ⟨u, w, a, b, c, d⟩ => ?_⟩, loo := fun x hx => by rw [h2, if_neg (hne x hx)], bj := fun u w _ h => ?_, bo := fun x y _ _ => by rw [h3], bn := fun w _ _ hb => ?_, cj := fun u hu he => absurd (hnew u hu) he, co := fun x _ => by rw [h4], cn := fun _ => .inr ⟨fun hb => ?_, fun u hu he => absurd (hnew u hu) he⟩, cr := fun _ => ⟨fun hb => ?_, .inl ⟨rfl, hnew⟩⟩, kid := ⟨Int.le_refl _, by omega⟩ }
 ·rw [h1, h5]; have := hp.pos x; split <;> omega
 ·by_cases e : x = n
  ·rw [e]; exact hp.nS
  ·rw [h1, if_neg e] at hx; exact hp.inS x hx
 ·rw [h3] at hb; have := hp.bv x y hb; rw [hold x this]; exact this
 ·rw [h4] at hb; have := hp.cv x hb; rw [hold x this]; exact this
 ·rw [hnew x hx, hmn]; omega
 ·rw [hnew u hu]; exact .refl
 ·rw [h2, if_pos rfl]; omega
 ·rw [h2, if_pos rfl] at h; omega
 ·rcases d with ⟨d, e⟩ | ⟨_, d, _⟩
  ·exact absurd (hnew u d) e
  ·exact d.elim
 ·rcases h with ⟨d, e⟩ | ⟨_, d, _⟩
  ·exact absurd (hnew u d) e
  ·exact d.elim
 ·rw [h3] at hb; have := hp.bv n w hb; rw [hp.new] at this; omega
 ·rw [h4] at hb; have := hp.cv n hb; rw [hp.new] at this; omega
 ·rw [h4] at hb; have := hp.cv n hb; rw [hp.new] at this; omega
theorem LI.skip (hp : Pre A S Act fr n s0) (h : LI A S Act fr n s0 D s kids) (hk : fr k) : LI A S Act fr n s0 (fun x => D x ∨ x = k) s kids := by
 have e : ∀ w, (D w ∧ ¬ fr w) ↔ ((D w ∨ w = k) ∧ ¬ fr w) := fun w => ⟨fun a => ⟨.inl a.1, a.2⟩, fun a => ⟨a.1.elim id fun e => absurd (by rw [e]; exact hk) a.2, a.2⟩⟩
 exact { h with
  dv := fun w hw => hw.elim (h.dv w) fun e => by rw [e]; exact h.vis (hp.act k (hp.frA k hk).1)
  low := fun t ht => (h.low t ht).trans ⟨fun ⟨u, w, a, b, c, d⟩ => ⟨u, w, a, b, c, d.imp id fun d => ⟨d.1, (e w).1 d.2⟩⟩, fun ⟨u, w, a, b, c, d⟩ => ⟨u, w, a, b, c, d.imp id fun d => ⟨d.1, (e w).2 d.2⟩⟩⟩
  bj := fun u w ha hd => h.bj u w ha (hd.imp id fun d => ⟨d.1, (e w).2 d.2⟩)
  bn := fun w hw hd => h.bn w hw fun a => hd ((e w).1 a) }
theorem Pre.mustAct (hs : ∀ x y, A x y → A y x) (hp : Pre A S Act fr n s0) {w u : Nat} (hw : 0 < s0.m w) (ha : A u w) (hu : ¬ 0 < s0.m u) : Act w := by
 by_cases h : Act w
 ·exact h
 ·exact absurd (hp.fin w u hw h (hs _ _ ha)) hu
theorem ne_of (hi : ∀ x, ¬ A x x) {a b : Nat} (h : A a b) : a ≠ b := fun e => hi a (e ▸ h)
theorem LI.met (hs : ∀ x y, A x y → A y x) (hi : ∀ x, ¬ A x x) (hp : Pre A S Act fr n s0) (h : LI A S Act fr n s0 D s kids) (ha : A n k) (hk : 0 < s.m k) (hf : ¬ fr k) (hD : ¬ D k)
  (g1 : s3.m = s.m) (g2 : ∀ x, s3.lo x = if x = n then (if s.m k < s.lo n then s.m k else s.lo n) else s.lo x) (g3 : s3.b = s.b) (g4 : s3.cu = s.cu) (g5 : s3.c = s.c) : LI A S Act fr n s0 (fun x => D x ∨ x = k) s3 kids := by
 have hN : New s0 s3 = New s0 s := by funext x; unfold New; rw [g1]
 have hnk : n ≠ k := ne_of hi ha
 have hunn : ¬ 0 < s0.m n := by rw [hp.new]; omega
 have judge : s.b n k ↔ Bridge A n k := by
  by_cases hkn : 0 < s0.m k
  ·have hA := hp.mustAct hs hkn ha hunn
   obtain ⟨p, hfp⟩ := hp.root k hA
   obtain ⟨hpA, hnp⟩ := hp.frA p hfp
   have hpk : p ≠ k := fun e => hf (e ▸ hfp)
   have hb : ¬ s.b n k := h.bn k (fun hx => hx.2 hkn) fun a => hD a.1
   refine ⟨fun x => absurd x hb, fun hB => absurd ?_ hB⟩
   have r1 : RP (cutE A n k) (fun _ => True) n p := .one ⟨hnp, fun e => hpk e.2, fun e => hnk e.1⟩ trivial
   have r2 : RP (cutE A n k) (fun _ => True) p k := (hp.conn p k hpA hA).map hpA (fun x y hx hy hxy => ⟨hxy, fun e => hunn (by rw [← e.1]; exact hp.act x hx), fun e => hunn (by rw [← e.2]; exact hp.act y hy)⟩) fun _ _ => trivial
   exact r1.trans r2
  ·have := h.bj k n (hs _ _ ha) (.inl ⟨⟨hk, hkn⟩, hnk.symm⟩)
   rw [Bridge.comm hs, ← this]
   exact ⟨h.bs _ _, h.bs _ _⟩
 refine { pos := by rw [g1, g5]; exact h.pos, inS := by rw [g1]; exact h.inS, bs := by rw [g3]; exact h.bs, bv := by rw [g1, g3]; exact h.bv, cv := by rw [g1, g4]; exact h.cv, ext := by rw [g1]; exact h.ext, newc := by rw [hN, g1]; exact h.newc, nn := by rw [g1]; exact h.nn, con := by rw [hN]; exact h.con, fin := by rw [hN, g1]; exact h.fin, dv := fun w hw => ?_, lon := ?_, low := fun t ht => ?_, loo := fun x hx => ?_, bj := fun u w huw hd => ?_, bo := by rw [hN, g3]; exact h.bo, bn := fun w hw hd => ?_, cj := by rw [hN, g4]; exact h.cj, co := by rw [hN, g4]; exact h.co, cn := by rw [hN, g4]; exact h.cn, cr := by rw [hN, g4]; exact h.cr, kid := by rw [g5]; exact h.kid }
 ·rw [g1]; exact hw.elim (h.dv w) fun e => by rw [e]; exact hk
 ·rw [g2, if_pos rfl]; have := h.lon; split <;> omega
 ·have e1 : s3.lo n ≤ t ↔ s.m k ≤ t ∨ s.lo n ≤ t := by rw [g2, if_pos rfl]; split <;> omega
  rw [e1, h.low t ht, hN]
  constructor
  ·rintro (hkt | ⟨u, w, a, b, c, d⟩)
   ·have hkn : 0 < s0.m k := by
     by_cases hx : 0 < s0.m k
     ·exact hx
     ·have := h.newc k ⟨hk, hx⟩; omega
    exact ⟨n, k, ha, hkn, by rw [← h.ext k hkn]; exact hkt, .inr ⟨rfl, .inr rfl, hf⟩⟩
   ·exact ⟨u, w, a, b, c, d.imp id fun d => ⟨d.1, .inl d.2.1, d.2.2⟩⟩
  ·rintro ⟨u, w, a, b, c, d | ⟨d1, d2 | d2, d3⟩⟩
   ·exact .inr ⟨u, w, a, b, c, .inl d⟩
   ·exact .inr ⟨u, w, a, b, c, .inr ⟨d1, d2, d3⟩⟩
   ·subst d2; exact .inl (by rw [h.ext w b]; exact c)
 ·have hxn : x ≠ n := fun e => hunn (e ▸ hx)
  rw [g2, if_neg hxn]; exact h.loo x hx
 ·rw [hN] at hd
  rw [g3]
  rcases hd with d | ⟨d1, d2 | d2, d3⟩
  ·exact h.bj u w huw (.inl d)
  ·exact h.bj u w huw (.inr ⟨d1, d2, d3⟩)
  ·subst d1 d2; exact judge
 ·rw [hN] at hw
  rw [g3]
  exact h.bn w hw fun a => hd ⟨.inl a.1, a.2⟩
theorem LI.child_pre (hs : ∀ x y, A x y → A y x) (hi : ∀ x, ¬ A x x) (hp : Pre A S Act fr n s0) (h : LI A S Act fr n s0 D s kids) (ha : A n k) (hk : s.m k = 0) (hkS : S k) : Pre A S (fun x => Act x ∨ x = n) (fun x => x = n) k s := by
 have hc := hp.c0
 have hnA : ∀ w, Act w → RP A (fun x => Act x ∨ x = n) n w := fun w hw => by
  obtain ⟨p, hfp⟩ := hp.root w hw
  obtain ⟨hpA, hnp⟩ := hp.frA p hfp
  exact (RP.one hnp (.inl hpA)).trans ((hp.conn p w hpA hw).mono fun _ => .inl)
 refine { h.toInv with act := fun w hw => ?_, conn := fun w w' hw hw' => ?_, fin := fun w x hw hna hwx => ?_, new := hk, nS := hkS, frA := fun p e => ?_, root := fun _ _ => ⟨n, rfl⟩, fr1 := fun p q e f => e.trans f.symm }
 ·rcases hw with hw | rfl
  ·exact h.vis (hp.act w hw)
  ·rw [h.nn]; omega
 ·rcases hw with hw | rfl
  ·rcases hw' with hw' | rfl
   ·exact (hp.conn w w' hw hw').mono fun _ => .inl
   ·exact (hnA w hw).symm hs (.inr rfl)
  ·rcases hw' with hw' | rfl
   ·exact hnA w' hw'
   ·exact .refl
 ·by_cases h0 : 0 < s0.m w
  ·exact h.vis (hp.fin w x h0 (fun a => hna (.inl a)) hwx)
  ·exact h.fin w x ⟨hw, h0⟩ (fun e => hna (.inr e)) hwx
 ·subst e; exact ⟨.inr rfl, hs _ _ ha⟩
theorem LI.child (hs : ∀ x y, A x y → A y x) (hi : ∀ x, ¬ A x x) (hp : Pre A S Act fr n s0) (h : LI A S Act fr n s0 D s kids) (ha : A n k) (hk : s.m k = 0) (hkS : S k) (h2 : Post A S (fun x => x = n) k s s2)
  (g1 : s3.m = s2.m) (g2 : ∀ x, s3.lo x = if x = n then (if s2.lo k < s2.lo n then s2.lo k else s2.lo n) else s2.lo x) (g3 : ∀ x y, s3.b x y ↔ s2.b x y ∨ (s2.m n < s2.lo k ∧ ((x = n ∧ y = k) ∨ (x = k ∧ y = n)))) (g4 : ∀ x, s3.cu x ↔ s2.cu x ∨ (x = n ∧ (∃ p, fr p) ∧ s2.m n ≤ s2.lo k)) (g5 : s3.c = s2.c) : LI A S Act fr n s0 (fun x => D x ∨ x = k) s3 (kids + 1) := by
 have hc := hp.c0
 have hp2 := h.child_pre hs hi hp ha hk hkS
 have hnk : n ≠ k := ne_of hi ha
 have hun : ¬ 0 < s0.m n := by rw [hp.new]; omega
 have hvn : 0 < s.m n := by rw [h.nn]; omega
 have huk : ¬ 0 < s.m k := by omega
 have huk0 : ¬ 0 < s0.m k := fun hx => huk (h.vis hx)
 have v2 : ∀ x, 0 < s.m x → 0 < s2.m x := fun x hx => by rw [h2.ext x hx]; exact hx
 have hNk : New s s2 k := ⟨by rw [h2.nn]; have := h.c0; omega, huk⟩
 have hNn : ¬ New s s2 n := fun hx => hx.2 hvn
 have m2n : s2.m n = s0.c + 1 := by rw [h2.ext n hvn, h.nn]
 have hN : ∀ x, New s0 s3 x ↔ New s0 s x ∨ New s s2 x := fun x => by
  unfold New; rw [g1]
  constructor
  ·rintro ⟨a, b⟩
   by_cases hx : 0 < s.m x
   ·exact .inl ⟨hx, b⟩
   ·exact .inr ⟨a, hx⟩
  ·rintro (⟨a, b⟩ | ⟨a, b⟩)
   ·exact ⟨v2 x a, b⟩
   ·exact ⟨a, fun hx => b (h.vis hx)⟩
 have hNk3 : New s0 s3 k := (hN k).2 (.inr hNk)
 have hNn3 : New s0 s3 n := (hN n).2 (.inl (h.newn hp))
 have side : ∀ {u w : Nat}, New s s2 u → A u w → 0 < s.m w → Act w ∨ w = n := fun hu huw hw => hp2.mustAct (n := k) hs hw huw hu.2
 have side2 : ∀ {u w : Nat}, New s s2 u → A u w → New s s2 w ∨ (0 < s.m w ∧ (Act w ∨ w = n)) := fun {u w} hu huw => by
  by_cases hw : 0 < s.m w
  ·exact .inr ⟨hw, side hu huw hw⟩
  ·exact .inl ⟨h2.fin u w hu huw, hw⟩
 have actc : ∀ {w : Nat}, Act w → s.m w ≤ s0.c := fun {w} hw => by rw [h.ext w (hp.act w hw)]; exact (hp.pos w).2
 have l2n : s2.lo n = s.lo n := h2.loo n hvn
 have notfr : ¬ fr k := fun hf => huk0 (hp.act k (hp.frA k hf).1)
 have judge : s3.b n k ↔ Bridge A n k := by
  have e1 : s3.b n k ↔ s2.m n < s2.lo k := by
   rw [g3]
   constructor
   ·rintro (hb | hb)
    ·exact absurd (h2.bs _ _ hb) (h2.bf n rfl)
    ·exact hb.1
   ·exact fun hb => .inr ⟨hb, .inl ⟨rfl, rfl⟩⟩
  have e2 := h2.low (s0.c + 1) h.cle
  rw [e1, m2n]
  constructor
  ·intro hlt hr
   have hcl : ∀ x y, New s s2 x → cutE A n k y x ∨ cutE A n k x y → True → New s s2 y := by
    intro x y hx hxy _
    have hxy' : A x y ∧ ¬ (x = k ∧ y = n) := by
     rcases hxy with hxy | hxy
     ·exact ⟨hs _ _ hxy.1, fun e => hxy.2.1 ⟨e.2, e.1⟩⟩
     ·exact ⟨hxy.1, hxy.2.2⟩
    rcases side2 hx hxy'.1 with hy | ⟨hy, hy'⟩
    ·exact hy
    ·have hle : s.m y ≤ s0.c + 1 := by
      rcases hy' with hy' | rfl
      ·have := actc hy'; omega
      ·rw [h.nn]; omega
     have := e2.2 ⟨x, y, hx, hxy'.1, hy, hle, hxy'.2⟩
     omega
   have hr' : RP (cutE A n k) (fun _ => True) k n := hr.symm (cutE_symm hs) trivial
   exact hNn (hr'.closed hNk fun x y hx hxy ht => hcl x y hx (.inr hxy) ht)
  ·intro hB
   by_cases hle : s2.lo k ≤ s0.c + 1
   ·exfalso
    obtain ⟨u, w, hu, huw, hw, hwt, hex⟩ := e2.1 hle
    have hAw := side hu huw hw
    apply hB
    have r1 : RP (cutE A n k) (fun _ => True) k u := (h2.con u hu).map hNk (fun x y hx hy hxy => ⟨hxy, fun e => hNn (e.1 ▸ hx), fun e => hNn (e.2 ▸ hy)⟩) fun _ _ => trivial
    have r2 : RP (cutE A n k) (fun _ => True) u w := .one ⟨huw, fun e => hNn (e.1 ▸ hu), fun e => hex e⟩ trivial
    have hnotk : ∀ x, (Act x ∨ x = n) → x ≠ k := fun x hx e => huk (by rw [← e]; exact hp2.act x hx)
    have r3 : RP (cutE A n k) (fun _ => True) w n := (hp2.conn w n hAw (.inr rfl)).map hAw (fun x y hx hy hxy => ⟨hxy, fun e => hnotk y hy e.2, fun e => hnotk x hx e.1⟩) fun _ _ => trivial
    exact ((r1.trans r2).trans r3).symm (cutE_symm hs) trivial
   ·omega
 have b3 : ∀ {x y : Nat}, ¬ (x = n ∧ y = k) → ¬ (x = k ∧ y = n) → (s3.b x y ↔ s2.b x y) := fun {x y} e1 e2 => by
  rw [g3]; exact ⟨fun hx => hx.elim id fun hx => hx.2.elim (fun e => absurd e e1) (fun e => absurd e e2), .inl⟩
 have c3 : ∀ {x : Nat}, x ≠ n → (s3.cu x ↔ s2.cu x) := fun {x} e => by
  rw [g4]; exact ⟨fun hx => hx.elim id fun hx => absurd hx.1 e, .inl⟩
 have c3n : s3.cu n ↔ s.cu n ∨ ((∃ p, fr p) ∧ s2.m n ≤ s2.lo k) := by
  rw [g4, h2.co n hNn]
  exact ⟨fun hx => hx.imp id fun hx => hx.2, fun hx => hx.imp id fun hx => ⟨rfl, hx⟩⟩
 have hunNew : ∀ {u : Nat}, New s s2 u → u ≠ n := fun hu e => hNn (e ▸ hu)
 have join2 : ∀ u u', New s s2 u → New s s2 u' → RP A (fun x => x ≠ n) u u' := fun u u' hu hu' =>
  (((h2.con u hu).symm hs hNk).trans (h2.con u' hu')).mono fun x hx => hunNew hx
 refine { pos := by rw [g1, g5]; exact h2.pos, inS := by rw [g1]; exact h2.inS, bs := fun x y hb => ?_, bv := fun x y hb => ?_, cv := fun x hb => ?_, ext := fun x hx => ?_, newc := fun x hx => ?_, nn := by rw [g1]; exact m2n, con := fun u hu => ?_, fin := fun u x hu hun' hux => ?_, dv := fun w hw => ?_, lon := ?_, low := fun t ht => ?_, loo := fun x hx => ?_, bj := fun u w huw hd => ?_, bo := fun x y hx hy => ?_, bn := fun w hw hd => ?_, cj := fun u hu hun' => ?_, co := fun x hx => ?_, cn := fun hf => ?_, cr := fun hf => ?_, kid := ?_ }
 ·rw [g3] at hb ⊢
  exact hb.imp (h2.bs _ _) fun hb => ⟨hb.1, hb.2.symm.imp (fun e => ⟨e.2, e.1⟩) fun e => ⟨e.2, e.1⟩⟩
 ·rw [g3] at hb; rw [g1]
  rcases hb with hb | ⟨_, ⟨rfl, _⟩ | ⟨rfl, _⟩⟩
  ·exact h2.bv _ _ hb
  ·exact v2 _ hvn
  ·exact hNk.1
 ·rw [g4] at hb; rw [g1]
  rcases hb with hb | ⟨rfl, _⟩
  ·exact h2.cv _ hb
  ·exact v2 _ hvn
 ·rw [g1, h2.ext x (h.vis hx)]; exact h.ext x hx
 ·rw [g1]
  rcases (hN x).1 hx with hx | hx
  ·rw [h2.ext x hx.1]; exact h.newc x hx
  ·have := h2.newc x hx; have := h.cle; omega
 ·rcases (hN u).1 hu with hu | hu
  ·exact (h.con u hu).mono fun x hx => (hN x).2 (.inl hx)
  ·exact (RP.one ha hNk3).trans ((h2.con u hu).mono fun x hx => (hN x).2 (.inr hx))
 ·rw [g1]
  rcases (hN u).1 hu with hu | hu
  ·exact v2 x (h.fin u x hu hun' hux)
  ·exact h2.fin u x hu hux
 ·rw [g1]; exact hw.elim (fun hw => v2 w (h.dv w hw)) fun e => by rw [e]; exact hNk.1
 ·rw [g2, if_pos rfl, l2n]; have := h.lon; split <;> omega
 ·have e1 : s3.lo n ≤ t ↔ s2.lo k ≤ t ∨ s.lo n ≤ t := by rw [g2, if_pos rfl, l2n]; split <;> omega
  have hct : t ≤ s.c := by have := h.cle; omega
  rw [e1, h.low t ht, h2.low t hct]
  constructor
  ·rintro (⟨u, w, hu, huw, hw, hwt, hex⟩ | ⟨u, w, a, b, c, d⟩)
   ·have hw0 : 0 < s0.m w := by
     by_cases hx : 0 < s0.m w
     ·exact hx
     ·have := h.newc w ⟨hw, hx⟩; omega
    exact ⟨u, w, huw, hw0, by rw [← h.ext w hw0]; exact hwt, .inl ⟨(hN u).2 (.inr hu), hunNew hu⟩⟩
   ·refine ⟨u, w, a, b, c, d.imp (fun d => ⟨(hN u).2 (.inl d.1), d.2⟩) fun d => ⟨d.1, .inl d.2.1, d.2.2⟩⟩
  ·rintro ⟨u, w, a, b, c, ⟨d1, d2⟩ | ⟨d1, d2 | d2, d3⟩⟩
   ·rcases (hN u).1 d1 with d1 | d1
    ·exact .inr ⟨u, w, a, b, c, .inl ⟨d1, d2⟩⟩
    ·exact .inl ⟨u, w, d1, a, h.vis b, by rw [h.ext w b]; exact c, fun e => hun (e.2 ▸ b)⟩
   ·exact .inr ⟨u, w, a, b, c, .inr ⟨d1, d2, d3⟩⟩
   ·subst d2; exact absurd b huk0
 ·have hxn : x ≠ n := fun e => hun (e ▸ hx)
  rw [g2, if_neg hxn, h2.loo x (h.vis hx)]; exact h.loo x hx
 ·rcases hd with ⟨d1, d2⟩ | ⟨d1, d2 | d2, d3⟩
  ·rcases (hN u).1 d1 with d1 | d1
   ·have huk' : u ≠ k := fun e => huk (e ▸ d1.1)
    have hw := h.fin u w d1 d2 huw
    rw [b3 (fun e => d2 e.1) (fun e => huk' e.1), h2.bo u w (fun hx => hx.2 d1.1) (fun hx => hx.2 hw)]
    exact h.bj u w huw (.inl ⟨d1, d2⟩)
   ·by_cases e : u = k ∧ w = n
    ·obtain ⟨rfl, rfl⟩ := e
     rw [Bridge.comm hs, ← judge]
     rw [g3, g3]
     exact ⟨fun hb => hb.imp (h2.bs _ _) fun hb => ⟨hb.1, .inl ⟨rfl, rfl⟩⟩, fun hb => hb.imp (h2.bs _ _) fun hb => ⟨hb.1, .inr ⟨rfl, rfl⟩⟩⟩
    ·rw [b3 (fun e' => d2 e'.1) e]
     exact h2.bj u w d1 huw e
  ·subst d1
   have hwk : w ≠ k := fun e => huk (e ▸ h.dv w d2)
   rw [b3 (fun e => hwk e.2) (fun e => hnk e.1), h2.bo u w hNn (fun hx => hx.2 (h.dv w d2))]
   exact h.bj u w huw (.inr ⟨rfl, d2, d3⟩)
  ·subst d1 d2; exact judge
 ·have hxn : x ≠ n := fun e => hx (e ▸ hNn3)
  have hxk : x ≠ k := fun e => hx (e ▸ hNk3)
  rw [b3 (fun e => hxn e.1) (fun e => hxk e.1), h2.bo x y (fun a => hx ((hN x).2 (.inr a))) (fun a => hy ((hN y).2 (.inr a)))]
  exact h.bo x y (fun a => hx ((hN x).2 (.inl a))) (fun a => hy ((hN y).2 (.inl a)))
 ·have hwk : w ≠ k := fun e => hw (e ▸ hNk3)
  rw [b3 (fun e => hwk e.2) (fun e => hnk e.1), h2.bo n w hNn (fun a => hw ((hN w).2 (.inr a)))]
  exact h.bn w (fun a => hw ((hN w).2 (.inl a))) fun a => hd ⟨.inl a.1, a.2⟩
 ·rw [c3 hun']
  rcases (hN u).1 hu with hu | hu
  ·rw [h2.co u (fun a => a.2 hu.1)]; exact h.cj u hu hun'
  ·exact h2.cj u hu
 ·have hxn : x ≠ n := fun e => hx (e ▸ hNn3)
  rw [c3 hxn, h2.co x (fun a => hx ((hN x).2 (.inr a)))]
  exact h.co x (fun a => hx ((hN x).2 (.inl a)))
 ·rw [c3n]
  rcases h.cn hf with ⟨a, b⟩ | ⟨a, b⟩
  ·exact .inl ⟨.inl a, b⟩
  ·by_cases hle : s2.m n ≤ s2.lo k
   ·refine .inl ⟨.inr ⟨hf, hle⟩, ?_⟩
    obtain ⟨p, hfp⟩ := hf
    obtain ⟨hpA, hnp⟩ := hp.frA p hfp
    have hpn : p ≠ n := (ne_of hi hnp).symm
    refine ⟨k, p, ha, hnp, fun hr => ?_⟩
    have : New s s2 p := hr.closed hNk fun x y hx hxy hyn => by
     rcases side2 hx hxy with hy | ⟨hy, hy' | hy'⟩
     ·exact hy
     ·have := (h2.low s0.c (by have := h.cle; omega)).2 ⟨x, y, hx, hxy, hy, actc hy', fun e => hyn e.2⟩
      omega
     ·exact absurd hy' hyn
    exact this.2 (h.vis (hp.act p hpA))
   ·refine .inr ⟨fun hx => hx.elim a fun hx => hle hx.2, fun u hu hun' => ?_⟩
    rcases (hN u).1 hu with hu | hu
    ·exact b u hu hun'
    ·obtain ⟨u', w, hu', huw, hw, hwt, _⟩ := (h2.low s0.c (by have := h.cle; omega)).1 (by omega)
     have hwn : w ≠ n := fun e => by rw [e, h.nn] at hwt; omega
     have hAw : Act w := (side hu' huw hw).resolve_right hwn
     exact ⟨w, hAw, (join2 u u' hu hu').trans (.one huw hwn)⟩
 ·obtain ⟨a, b⟩ := h.cr hf
  refine ⟨fun hx => (c3n.1 hx).elim a fun hx => hf hx.1, ?_⟩
  have noact : ∀ w, ¬ Act w := fun w hw => hf (hp.root w hw)
  rcases b with ⟨b1, b2⟩ | ⟨b1, ⟨q, hq1, hq2⟩, b2⟩ | ⟨b1, b2⟩
  ·refine .inr (.inl ⟨by omega, ⟨k, ha, hNk3⟩, fun u u' hu hun' hu' hun2 => ?_⟩)
   rcases (hN u).1 hu with hu | hu
   ·exact absurd (b2 u hu) hun'
   ·rcases (hN u').1 hu' with hu' | hu'
    ·exact absurd (b2 u' hu') hun2
    ·exact join2 u u' hu hu'
  ·refine .inr (.inr ⟨by omega, k, q, ha, hq1, fun hr => ?_⟩)
   have : New s s2 q := hr.closed hNk fun x y hx hxy hyn => by
    rcases side2 hx hxy with hy | ⟨hy, hy' | hy'⟩
    ·exact hy
    ·exact absurd hy' (noact y)
    ·exact absurd hy' hyn
   exact this.2 hq2.1
  ·exact .inr (.inr ⟨by omega, b2⟩)
 ·rw [g5]
  have h1 := (h2.pos k).2
  rw [h2.nn] at h1
  have := h.kid
  omega
theorem LI.done (hs : ∀ x y, A x y → A y x) (hi : ∀ x, ¬ A x x) (hp : Pre A S Act fr n s0) (h : LI A S Act fr n s0 D s kids) (hD : ∀ w, A n w → D w)
  (g1 : s3.m = s.m) (g2 : s3.lo = s.lo) (g3 : s3.b = s.b) (g4 : ∀ x, s3.cu x ↔ s.cu x ∨ (x = n ∧ (¬ ∃ p, fr p) ∧ 1 < kids)) (g5 : s3.c = s.c) : Post A S fr n s0 s3 := by
 have hN : New s0 s3 = New s0 s := by funext x; unfold New; rw [g1]
 have hun : ¬ 0 < s0.m n := by rw [hp.new]; omega
 have hNn := h.newn hp
 have hvn : 0 < s.m n := hNn.1
 have c3 : ∀ {x : Nat}, x ≠ n → (s3.cu x ↔ s.cu x) := fun {x} e => by
  rw [g4]; exact ⟨fun hx => hx.elim id fun hx => absurd hx.1 e, .inl⟩
 have near : ∀ w, A n w → Act w ∨ (New s0 s w ∧ w ≠ n) := fun w hw => by
  by_cases h0 : 0 < s0.m w
  ·exact .inl (hp.mustAct hs h0 hw hun)
  ·exact .inr ⟨⟨h.dv w (hD w hw), h0⟩, (ne_of hi hw).symm⟩
 have actn : ∀ w, Act w → w ≠ n := fun w hw e => hun (e ▸ hp.act w hw)
 refine { pos := by rw [g1, g5]; exact h.pos, inS := by rw [g1]; exact h.inS, bs := by rw [g3]; exact h.bs, bv := by rw [g1, g3]; exact h.bv, cv := fun x hx => ?_, ext := by rw [g1]; exact h.ext, newc := by rw [hN, g1]; exact h.newc, nn := by rw [g1]; exact h.nn, con := by rw [hN]; exact h.con, fin := fun u x hu hux => ?_, low := fun t ht => ?_, loo := by rw [g2]; exact h.loo, bj := fun u w hu huw hex => ?_, bo := by rw [hN, g3]; exact h.bo, bf := fun p hfp => ?_, cj := fun u hu => ?_, co := fun x hx => ?_ }
 ·rw [g1]
  rcases (g4 x).1 hx with hx | ⟨rfl, _⟩
  ·exact h.cv x hx
  ·exact hvn
 ·rw [hN] at hu
  rw [g1]
  by_cases e : u = n
  ·subst e; exact h.dv x (hD x hux)
  ·exact h.fin u x hu e hux
 ·rw [g2, h.low t ht, hN]
  constructor
  ·rintro ⟨u, w, a, b, c, ⟨d1, d2⟩ | ⟨d1, d2, d3⟩⟩
   ·exact ⟨u, w, d1, a, b, c, fun e => d2 e.1⟩
   ·exact ⟨u, w, d1 ▸ hNn, a, b, c, fun e => d3 e.2⟩
  ·rintro ⟨u, w, d1, a, b, c, d2⟩
   by_cases e : u = n
   ·subst e; exact ⟨u, w, a, b, c, .inr ⟨rfl, hD w a, fun hf => d2 ⟨rfl, hf⟩⟩⟩
   ·exact ⟨u, w, a, b, c, .inl ⟨d1, e⟩⟩
 ·rw [hN] at hu
  rw [g3]
  by_cases e : u = n
  ·subst e; exact h.bj u w huw (.inr ⟨rfl, hD w huw, fun hf => hex ⟨rfl, hf⟩⟩)
  ·exact h.bj u w huw (.inl ⟨hu, e⟩)
 ·rw [g3]; exact h.bn p (fun hx => hx.2 (hp.act p (hp.frA p hfp).1)) fun a => a.2 hfp
 ·rw [hN] at hu
  by_cases e : u = n
  ·subst e
   by_cases hf : ∃ p, fr p
   ·have e1 : s3.cu u ↔ s.cu u := by rw [g4]; exact ⟨fun hx => hx.elim id fun hx => absurd hf hx.2.1, .inl⟩
    rw [e1]
    rcases h.cn hf with ⟨a, b⟩ | ⟨a, b⟩
    ·exact ⟨fun _ => b, fun _ => a⟩
    ·refine ⟨fun hx => absurd hx a, fun ⟨x, y, hx, hy, hr⟩ => absurd ?_ hr⟩
     have key : ∀ z, A u z → ∃ w, Act w ∧ RP A (fun x => x ≠ u) z w := fun z hz => by
      rcases near z hz with hz | ⟨hz1, hz2⟩
      ·exact ⟨z, hz, .refl⟩
      ·exact b z hz1 hz2
     obtain ⟨w1, hw1, r1⟩ := key x hx
     obtain ⟨w2, hw2, r2⟩ := key y hy
     exact (r1.trans ((hp.conn w1 w2 hw1 hw2).mono actn)).trans (r2.symm hs (ne_of hi hy).symm)
   ·obtain ⟨a, b⟩ := h.cr hf
    have noact : ∀ w, ¬ Act w := fun w hw => hf (hp.root w hw)
    have near' : ∀ w, A u w → New s0 s w ∧ w ≠ u := fun w hw => (near w hw).resolve_left (noact w)
    rw [g4]
    rcases b with ⟨b1, b2⟩ | ⟨b1, _, b2⟩ | ⟨b1, b2⟩
    ·refine ⟨fun hx => hx.elim (fun hx => absurd hx a) fun hx => by omega, fun ⟨x, y, hx, _⟩ => absurd (b2 x (near' x hx).1) (near' x hx).2⟩
    ·refine ⟨fun hx => hx.elim (fun hx => absurd hx a) fun hx => by omega, fun ⟨x, y, hx, hy, hr⟩ => absurd (b2 x y (near' x hx).1 (near' x hx).2 (near' y hy).1 (near' y hy).2) hr⟩
    ·exact ⟨fun _ => b2, fun _ => .inr ⟨rfl, hf, by omega⟩⟩
  ·rw [c3 e]; exact h.cj u hu e
 ·rw [hN] at hx
  have e : x ≠ n := fun e => hx (e ▸ hNn)
  rw [c3 e]; exact h.co x hx
end
end Go.Proofs.YtpclggcpobakhaaDoor.Dfs
end

section
namespace Go.Proofs.YtpclggcpobakhaaDoor
open Go Go.Ab Go.Ab.W
theorem lp_bitsI {σ ρ τ : Type} {body : τ → Option (τ ⊕ ρ)} (mk : Nat → σ → τ) (fin : σ → ρ) (I : Nat → σ → Prop)
  (hs : ∀ r s, 0 < r → r < 2 ^ 64 → I r s → ∃ s', body (mk r s) = some (.inl (mk (clr r) s')) ∧ I (clr r) s') (he : ∀ s, I 0 s → body (mk 0 s) = some (.inr (fin s))) :
  ∀ (n : Nat) (r : Nat) (s : σ), r < 2 ^ 64 → I r s → (bitsOf r).length < n → ∃ s', lpN body n (mk r s) = some (fin s') ∧ I 0 s' := by
 intro n
 induction n with
 | zero => intro r s _ _ h; exact absurd h (Nat.not_lt_zero _)
 | succ n ih =>
  intro r s hr hI hn
  rcases Nat.eq_zero_or_pos r with h0 | h0
  ·subst h0
   exact ⟨s, by simp only [lpN, he s hI], hI⟩
  ·obtain ⟨s', h1, h2⟩ := hs r s h0 hr hI
   simp only [lpN, h1]
   exact ih _ _ (clr_lt h0 hr) h2 (by rw [bitsOf_cons h0 hr] at hn; simpa using hn)
end Go.Proofs.YtpclggcpobakhaaDoor
end

section
namespace Go.Proofs.YtpclggcpobakhaaDoor
open Go Go.Ab Go.Ab.W Dfs
theorem mput_both {α β : Type} [DecidableEq α] (xs : List (α × β)) (k k' : α) (v : β) : mget (mput xs k v) k' = (if k' = k then some v else mget xs k') ∧ (mput xs k v).length = (if mget xs k = none then xs.length + 1 else xs.length) := by
 have key : ∀ (xs : List (α × β)) (i : Nat), (mfind k xs i = none → ∀ j, (mfind k' (xs ++ [(k, v)]) j).map (·.2) = if k' = k then some v else (mfind k' xs j).map (·.2)) ∧
   (∀ p, mfind k xs i = some p → i ≤ p.1 ∧ ∀ j, (mfind k' (xs.set (p.1 - i) (k, v)) j).map (·.2) = if k' = k then some v else (mfind k' xs j).map (·.2)) := by
  intro xs
  induction xs with
  | nil =>
   intro i
   refine ⟨fun _ j => ?_, fun p h => by simp [mfind] at h⟩
   simp only [List.nil_append, mfind]
   by_cases h : k' = k <;> simp [h]
  | cons e xs ih =>
   intro i
   by_cases he : k = e.1
   ·refine ⟨fun h => by simp [mfind, he] at h, fun p h => ?_⟩
    have hp : p = (i, e.2) := by simp [mfind, he] at h; exact h.symm
    subst hp
    refine ⟨Nat.le_refl _, fun j => ?_⟩
    simp only [Nat.sub_self, List.set_cons_zero, mfind]
    by_cases h : k' = k
    ·simp [h]
    ·have : k' ≠ e.1 := fun c => h (c.trans he.symm)
     simp [h, this]
   ·refine ⟨fun h j => ?_, fun p h => ?_⟩
    ·have h' : mfind k xs (i + 1) = none := by simpa [mfind, he] using h
     simp only [List.cons_append, mfind]
     by_cases h2 : k' = e.1
     ·have : k' ≠ k := fun c => he (c.symm.trans h2)
      simp [h2, Ne.symm he]
     ·simp only [if_neg h2]
      exact (ih (i + 1)).1 h' (j + 1)
    ·have h' : mfind k xs (i + 1) = some p := by simpa [mfind, he] using h
     obtain ⟨g1, g2⟩ := (ih (i + 1)).2 p h'
     refine ⟨by omega, fun j => ?_⟩
     rw [show p.1 - i = (p.1 - (i + 1)) + 1 by omega, List.set_cons_succ]
     simp only [mfind]
     by_cases h2 : k' = e.1
     ·have : k' ≠ k := fun c => he (c.symm.trans h2)
      simp [h2, Ne.symm he]
     ·simp only [if_neg h2]
      exact g2 (j + 1)
 unfold mget mput
 cases h : mfind k xs 0 with
 | none => exact ⟨(key xs 0).1 h 0, by simp⟩
 | some p => exact ⟨((key xs 0).2 p h).2 0, by simp⟩
theorem mget_mput {α β : Type} [DecidableEq α] (xs : List (α × β)) (k k' : α) (v : β) : mget (mput xs k v) k' = if k' = k then some v else mget xs k' := (mput_both xs k k' v).1
theorem len_mput {α β : Type} [DecidableEq α] (xs : List (α × β)) (k : α) (v : β) (h : mget xs k = none) : (mput xs k v).length = xs.length + 1 := by rw [(mput_both xs k k v).2, if_pos h]
theorem getD_put {α β : Type} [DecidableEq α] (xs : List (α × β)) (k k' : α) (v d : β) : (mget (mput xs k v) k').getD d = if k' = k then v else (mget xs k').getD d := by
 rw [mget_mput]; split <;> rfl
abbrev Q4 : Type := List (Int × Int) × List (Int × Int) × List ((Int × Int) × Bool) × Nat
def sg (s : Q4) : Sg where
 m x := (mget s.1 (x : Int)).getD 0
 lo x := (mget s.2.1 (x : Int)).getD 0
 b x y := (mget s.2.2.1 (mi (x : Int) (y : Int), ma (x : Int) (y : Int))).getD false = true
 cu x := s.2.2.2.testBit x = true
 c := (s.1.length : Int)
def un (l : List (Int × Int)) : Nat := ((List.range 64).filter fun x => (mget l ((x : Nat) : Int)).isNone).length
structure FI (s : Q4) : Prop where
 key : ∀ x : Nat, (sg s).m x = 0 → mget s.1 (x : Int) = none
 len : s.1.length + un s.1 = 64
 cu : s.2.2.2 < 2 ^ 64
theorem filter_less {p q : Nat → Bool} {a : Nat} : ∀ {l : List Nat}, l.Nodup → a ∈ l → p a = true → (∀ x, q x = (p x && !decide (x = a))) → (l.filter q).length + 1 = (l.filter p).length
 | [], _, h, _, _ => by cases h
 | x :: l, hd, ha, hp, hq => by
  rw [List.nodup_cons] at hd
  by_cases e : x = a
  ·subst e
   have hqa : q x = false := by rw [hq]; simp
   rw [List.filter_cons_of_pos hp, List.filter_cons_of_neg (by rw [hqa]; decide), List.length_cons]
   congr 1
   congr 1
   refine List.filter_congr fun y hy => ?_
   have : y ≠ x := fun e => hd.1 (e ▸ hy)
   rw [hq]; simp [this]
  ·have ha' : a ∈ l := by rcases List.mem_cons.1 ha with h | h; exact absurd h.symm e; exact h
   have ih := filter_less (p := p) (q := q) (a := a) hd.2 ha' hp hq
   have hqx : q x = p x := by rw [hq]; simp [e]
   by_cases hpx : p x = true
   ·rw [List.filter_cons_of_pos hpx, List.filter_cons_of_pos (hqx.trans hpx)]
    simp only [List.length_cons]; omega
   ·rw [List.filter_cons_of_neg hpx, List.filter_cons_of_neg (by rw [hqx]; exact hpx)]
    exact ih
theorem un_put {l : List (Int × Int)} {x : Nat} (hx : x < 64) (h : mget l (x : Int) = none) (v : Int) : un (mput l (x : Int) v) + 1 = un l := by
 refine filter_less (a := x) List.nodup_range (List.mem_range.2 hx) (by simp [h]) fun y => ?_
 rw [mget_mput]
 by_cases e : y = x
 ·simp [e]
 ·have : ¬ ((y : Int) = (x : Int)) := by omega
  simp [e, this]
theorem pair_eq {a b x y : Nat} : ((mi (a : Int) (b : Int), ma (a : Int) (b : Int)) : Int × Int) = (mi (x : Int) (y : Int), ma (x : Int) (y : Int)) ↔ (a = x ∧ b = y) ∨ (a = y ∧ b = x) := by
 rw [Prod.mk.injEq]
 unfold mi ma
 constructor
 ·rintro ⟨h1, h2⟩
  split at h1 <;> split at h1 <;> split at h2 <;> split at h2 <;> omega
 ·rintro (⟨rfl, rfl⟩ | ⟨rfl, rfl⟩)
  ·exact ⟨rfl, rfl⟩
  ·constructor
   ·split <;> split <;> omega
   ·split <;> split <;> omega
def Ad (es : List (Int × Int)) (S : Nat) (x y : Nat) : Prop := adj es x y ∧ S.testBit x = true ∧ S.testBit y = true
theorem Ad.symm {es : List (Int × Int)} {S : Nat} : ∀ x y, Ad es S x y → Ad es S y x := fun _ _ h => ⟨adj_symm h.1, h.2.2, h.2.1⟩
theorem Ad.irr {M : Nat} {es : List (Int × Int)} {S : Nat} (h : Okay M es) : ∀ x, ¬ Ad es S x x := fun x hx => (h.adj hx.1).2.2 rfl
abbrev InS (S : Nat) (x : Nat) : Prop := S.testBit x = true
abbrev Fr1 (f : Int) (p : Nat) : Prop := (p : Int) = f
section
variable {M S : Nat} {es : List (Int × Int)} {L : List Nat}
def VisitOk (es : List (Int × Int)) (S : Nat) (rec0 : Q4 → Int × Int → Option Q4) (k : Nat) : Prop :=
 ∀ (s : Q4) (Act : Nat → Prop) (x : Nat) (f : Int), (f = -1 ∨ ∃ p : Nat, f = (p : Int)) → FI s → Pre (Ad es S) (InS S) Act (Fr1 f) x (sg s) → un s.1 < k → ∃ s', rec0 s ((x : Int), f) = some s' ∧ FI s' ∧ un s'.1 ≤ un s.1 ∧ Post (Ad es S) (InS S) (Fr1 f) x (sg s) (sg s')
abbrev L5 : Type := List (Int × Int) × List (Int × Int) × List ((Int × Int) × Bool) × Nat × Int
def q4 (s : L5) : Q4 := (s.1, s.2.1, s.2.2.1, s.2.2.2.1)
theorem ob_step {α β : Type} {e : Option α} {F : α → Option β} {G : α → β} {P : α → Prop} (hF : ∀ a, F a = some (G a)) (h : ∃ a, e = some a ∧ P a) : ∃ a, ob e F = some (G a) ∧ P a := by
 obtain ⟨a, h1, h2⟩ := h
 exact ⟨a, by rw [h1]; exact hF a, h2⟩
theorem L76_step (n0 : Nat) (hok : Okay M es) (hS : S < 2 ^ M) {rec0 : Q4 → Int × Int → Option Q4} {k : Nat} (hrec : VisitOk es S rec0 k) {s0 : Sg} {Act : Nat → Prop} {x : Nat} {f : Int} (hp : Pre (Ad es S) (InS S) Act (Fr1 f) x s0)
  {D : Nat → Prop} {s : L5} {r : Nat} (h0 : 0 < r) (hr : r < 2 ^ 64) (ha : Ad es S x (tz r)) (hD : ¬ D (tz r)) (hI : LI (Ad es S) (InS S) Act (Fr1 f) x s0 D (sg (q4 s)) s.2.2.2.2) (hF : FI (q4 s)) (hu : un s.1 < k) (hf : f = -1 ∨ ∃ p : Nat, f = (p : Int)) :
  ∃ s' : L5, L76_1 n0 f (x : Int) rec0 (r, s) = some (.inl (clr r, s')) ∧ LI (Ad es S) (InS S) Act (Fr1 f) x s0 (fun w => D w ∨ w = tz r) (sg (q4 s')) s'.2.2.2.2 ∧ FI (q4 s') ∧ un s'.1 ≤ un s.1 := by
 obtain ⟨lm, ll, lb, C, kids⟩ := s
 have hs := @Ad.symm es S
 have hi := @Ad.irr M es S hok
 have hx64 : x < 64 := tb_lt (lt64 hS hok.le) ha.2.1
 have hk64 : tz r < 64 := tb_lt (lt64 hS hok.le) ha.2.2
 have hne : x ≠ tz r := ne_of hi ha
 have hnei : ¬ ((tz r : Nat) : Int) = (x : Int) := by omega
 have hnei' : ¬ ((x : Nat) : Int) = (tz r : Int) := by omega
 simp only [L76_1]
 rw [show (!decide (r = 0)) = true by simp; omega, br_t]
 simp only [F42_eq hr, ob_s]
 refine ob_step (α := L5) (G := fun s' : L5 => (Sum.inl (clr r, s') : (Nat × L5) ⊕ L5)) (fun a => rfl) ?_
 by_cases hfk : ((tz r : Nat) : Int) = f
 ·rw [br_dt hfk]
  exact ⟨_, rfl, hI.skip hp hfk, hF, Nat.le_refl _⟩
 rw [br_df hfk]
 by_cases hm : 0 < (mget lm ((tz r : Nat) : Int)).getD 0
 ·rw [br_dt hm]
  refine ⟨_, rfl, hI.met hs hi hp (k := tz r) ha hm hfk hD rfl (fun y => ?_) rfl rfl rfl, ⟨hF.key, hF.len, hF.cu⟩, Nat.le_refl _⟩
  show (mget (mput ll (x : Int) _) (y : Int)).getD 0 = _
  rw [getD_put]
  by_cases e : y = x
  ·subst e; rw [if_pos rfl, if_pos rfl]; rfl
  ·rw [if_neg (by omega), if_neg e]; rfl
 ·rw [br_df hm]
  have hm0 : (sg (q4 (lm, ll, lb, C, kids))).m (tz r) = 0 := by
   have := (hI.pos (tz r)).1
   have e : (sg (q4 (lm, ll, lb, C, kids))).m (tz r) = (mget lm ((tz r : Nat) : Int)).getD 0 := rfl
   omega
  obtain ⟨s2, h1, h2, h3, h4⟩ := hrec (lm, ll, lb, C) _ (tz r) (x : Int) (.inr ⟨x, rfl⟩) hF (by
   have := hI.child_pre hs hi hp ha hm0 ha.2.2
   have e : (fun y => y = x) = Fr1 (x : Int) := by funext y; unfold Fr1; exact propext ⟨fun h => by rw [h], fun h => by omega⟩
   rw [e] at this; exact this) hu
  have h4' : Post (Ad es S) (InS S) (fun y => y = x) (tz r) (sg (lm, ll, lb, C)) (sg s2) := by
   have e : (fun y => y = x) = Fr1 (x : Int) := by funext y; unfold Fr1; exact propext ⟨fun h => by rw [h], fun h => by omega⟩
   rw [e]; exact h4
  obtain ⟨lm2, ll2, lb2, C2⟩ := s2
  have hkid : IntKind.wrap .i64 (kids + 1) = kids + 1 := by
   have h5 := hI.kid
   have h6 : (sg (q4 (lm, ll, lb, C, kids))).c = (lm.length : Int) := rfl
   have h7 := hF.len
   have h8 : (q4 (lm, ll, lb, C, kids)).1 = lm := rfl
   rw [h8] at h7
   have h9 : (lm, ll, lb, C, kids).2.2.2.2 = kids := rfl
   rw [h9] at h5
   exact wrap_in (by omega) (by omega)
  simp only [h1, ob_s, getD_put, if_neg hnei, hkid]
  have C2lt : C2 < 2 ^ 64 := h2.cu
  have fin : ∀ (lb3 : List ((Int × Int) × Bool)) (C3 : Nat), C3 < 2 ^ 64 → (∀ a b : Nat, (sg (lm2, ll2, lb3, C3)).b a b ↔ (sg (lm2, ll2, lb2, C2)).b a b ∨ ((sg (lm2, ll2, lb2, C2)).m x < (sg (lm2, ll2, lb2, C2)).lo (tz r) ∧ ((a = x ∧ b = tz r) ∨ (a = tz r ∧ b = x)))) →
    (∀ a : Nat, C3.testBit a = true ↔ C2.testBit a = true ∨ (a = x ∧ (∃ p, Fr1 f p) ∧ (sg (lm2, ll2, lb2, C2)).m x ≤ (sg (lm2, ll2, lb2, C2)).lo (tz r))) →
    LI (Ad es S) (InS S) Act (Fr1 f) x s0 (fun w => D w ∨ w = tz r) (sg (lm2, mput ll2 (x : Int) (mi ((mget ll2 (x : Int)).getD 0) ((mget ll2 ((tz r : Nat) : Int)).getD 0)), lb3, C3)) (kids + 1) ∧ FI (lm2, mput ll2 (x : Int) (mi ((mget ll2 (x : Int)).getD 0) ((mget ll2 ((tz r : Nat) : Int)).getD 0)), lb3, C3) := by
   intro lb3 C3 hC hb hc
   refine ⟨hI.child hs hi hp ha hm0 ha.2.2 h4' rfl (fun y => ?_) hb hc rfl, ⟨h2.key, h2.len, hC⟩⟩
   show (mget (mput ll2 (x : Int) _) (y : Int)).getD 0 = _
   rw [getD_put]
   by_cases e : y = x
   ·subst e; rw [if_pos rfl, if_pos rfl]; rfl
   ·rw [if_neg (by omega), if_neg e]; rfl
  have hB : ∃ lb3, (br (decide ((mget lm2 (x : Int)).getD 0 < (mget ll2 ((tz r : Nat) : Int)).getD 0)) (some (mput lb2 (mi (x : Int) ((tz r : Nat) : Int), ma (x : Int) ((tz r : Nat) : Int)) true)) (some lb2)) = some lb3 ∧
    ∀ (C3 : Nat) (a b : Nat), (sg (lm2, ll2, lb3, C3)).b a b ↔ (sg (lm2, ll2, lb2, C2)).b a b ∨ ((sg (lm2, ll2, lb2, C2)).m x < (sg (lm2, ll2, lb2, C2)).lo (tz r) ∧ ((a = x ∧ b = tz r) ∨ (a = tz r ∧ b = x))) := by
   by_cases hl : (mget lm2 (x : Int)).getD 0 < (mget ll2 ((tz r : Nat) : Int)).getD 0
   ·refine ⟨_, br_dt hl _ _, fun C3 a b => ?_⟩
    show (mget (mput lb2 _ true) _).getD false = true ↔ _
    rw [getD_put]
    by_cases e : (mi (a : Int) (b : Int), ma (a : Int) (b : Int)) = (mi (x : Int) ((tz r : Nat) : Int), ma (x : Int) ((tz r : Nat) : Int))
    ·rw [if_pos e]
     exact ⟨fun _ => .inr ⟨hl, pair_eq.1 e⟩, fun _ => rfl⟩
    ·rw [if_neg e]
     exact ⟨.inl, fun h => h.elim id fun h => absurd (pair_eq.2 h.2) e⟩
   ·refine ⟨_, br_df hl _ _, fun C3 a b => ⟨.inl, fun h => h.elim id fun h => absurd h.1 hl⟩⟩
  obtain ⟨lb3, hb1, hb2⟩ := hB
  simp only [hb1, ob_s]
  have hfr : (∃ p, Fr1 f p) ↔ 0 ≤ f := by
   rcases hf with rfl | ⟨p, rfl⟩
   ·exact ⟨fun ⟨p, hp⟩ => by unfold Fr1 at hp; omega, fun h => by omega⟩
   ·exact ⟨fun _ => by omega, fun _ => ⟨p, rfl⟩⟩
  have hcond : br (decide (0 ≤ f)) (some (decide ((mget lm2 (x : Int)).getD 0 ≤ (mget ll2 ((tz r : Nat) : Int)).getD 0))) (some false) = some (decide (0 ≤ f ∧ (mget lm2 (x : Int)).getD 0 ≤ (mget ll2 ((tz r : Nat) : Int)).getD 0)) := by
   by_cases h : 0 ≤ f
   ·rw [br_dt h]; simp [h]
   ·rw [br_df h]; simp [h]
  simp only [hcond, ob_s]
  by_cases hcc : 0 ≤ f ∧ (mget lm2 (x : Int)).getD 0 ≤ (mget ll2 ((tz r : Nat) : Int)).getD 0
  ·rw [br_dt hcc, gd_dt (by omega)]
   rw [Int.toNat_natCast, word_one hx64, word_or C2lt (one_lt hx64)]
   have := fin lb3 (C2 ||| 2 ^ x) (or_lt' C2lt (one_lt hx64)) (hb2 _) fun a => by
    rw [Nat.testBit_or, Bool.or_eq_true, tb_one, decide_eq_true_eq]
    exact ⟨fun h => h.imp id fun h => ⟨h, hfr.2 hcc.1, hcc.2⟩, fun h => h.imp id fun h => h.1⟩
   exact ⟨_, rfl, this.1, this.2, h3⟩
  ·rw [br_df hcc]
   have := fin lb3 C2 C2lt (hb2 _) fun a => ⟨.inl, fun h => h.elim id fun h => absurd ⟨hfr.1 h.2.1, h.2.2⟩ hcc⟩
   exact ⟨_, rfl, this.1, this.2, h3⟩
theorem Dfs.LI.congr {A : Nat → Nat → Prop} {S' Act fr D D' : Nat → Prop} {n : Nat} {s0 s : Sg} {kids : Int} (h : LI A S' Act fr n s0 D s kids) (e : ∀ w, D w ↔ D' w) : LI A S' Act fr n s0 D' s kids := by
 have : D = D' := by funext w; exact propext (e w)
 rw [← this]; exact h
theorem R76_ok (n0 : Nat) (hok : Okay M es) (hL : AroundOk M es L) (hS : S < 2 ^ M) (hn0 : 64 < n0) : ∀ k, ∀ (s : Q4) (Act : Nat → Prop) (x : Nat) (f : Int), (f = -1 ∨ ∃ p : Nat, f = (p : Int)) → FI s → Pre (Ad es S) (InS S) Act (Fr1 f) x (sg s) → un s.1 < k →
  ∃ s', R76 n0 L S k s ((x : Int), f) = some s' ∧ FI s' ∧ un s'.1 ≤ un s.1 ∧ Post (Ad es S) (InS S) (Fr1 f) x (sg s) (sg s') := by
 intro k
 induction k with
 | zero => intro s Act x f _ _ _ h; exact absurd h (Nat.not_lt_zero _)
 | succ k ih =>
  intro s Act x f hf hF hp hu
  have hs := @Ad.symm es S
  have hi := @Ad.irr M es S hok
  have hxS : S.testBit x = true := hp.nS
  have hS64 := lt64 hS hok.le
  have hx64 : x < 64 := tb_lt hS64 hxS
  have hxM : x < M := tb_ltN hS hxS
  obtain ⟨w, hw1, hw2, hw3⟩ := hL.2 x hxM
  have hkey := hF.key x hp.new
  obtain ⟨lm, ll, lb, C⟩ := s
  have hun := un_put (l := lm) hx64 hkey ((lm.length : Int) + 1)
  have hlen := hF.len
  simp only at hlen hu hkey
  have hlm := len_mput lm (x : Int) ((lm.length : Int) + 1) hkey
  have hrec : VisitOk es S (R76 n0 L S k) k := ih
  show ∃ s', R76b n0 (R76 n0 L S k) L S (lm, ll, lb, C) ((x : Int), f) = some s' ∧ _
  have hwr : IntKind.wrap .i64 ((lm.length : Int) + 1) = (lm.length : Int) + 1 := wrap_in (by omega) (by omega)
  simp only [R76b, ob_s, hwr, getD_put, if_true]
  rw [inB_nat (by rw [hL.1]; exact hxM), gd_t]
  simp only [Int.toNat_natCast, hw1, ob_s, word_and hw2 hS64]
  have hstart := LI.start (s := sg (mput lm (x : Int) ((lm.length : Int) + 1), mput ll (x : Int) ((lm.length : Int) + 1), lb, C)) hp hs
   (fun y => by
    show (mget (mput lm (x : Int) _) (y : Int)).getD 0 = _
    rw [getD_put]
    by_cases e : y = x
    ·subst e; rw [if_pos rfl, if_pos rfl]; rfl
    ·rw [if_neg (by omega), if_neg e]; rfl)
   (fun y => by
    show (mget (mput ll (x : Int) _) (y : Int)).getD 0 = _
    rw [getD_put]
    by_cases e : y = x
    ·subst e; rw [if_pos rfl, if_pos rfl]; rfl
    ·rw [if_neg (by omega), if_neg e]; rfl) rfl rfl (by
    show ((mput lm (x : Int) ((lm.length : Int) + 1)).length : Int) = (lm.length : Int) + 1
    rw [hlm]; rfl)
  have hnb : ∀ i, (w &&& S).testBit i = true ↔ Ad es S x i := fun i => by
   rw [Nat.testBit_and, Bool.and_eq_true, hw3]
   exact ⟨fun h => ⟨h.1, hxS, h.2⟩, fun h => ⟨h.1, h.2.2⟩⟩
  have hlt : w &&& S < 2 ^ 64 := and_lt' hw2
  have hlp := lp_bitsI (body := L76_1 n0 f (x : Int) (R76 n0 L S k)) (fun (r : Nat) (s : L5) => (r, s)) id
   (fun r s => (∀ i, r.testBit i = true → (w &&& S).testBit i = true) ∧ LI (Ad es S) (InS S) Act (Fr1 f) x (sg (lm, ll, lb, C)) (fun y => Ad es S x y ∧ ¬ r.testBit y = true) (sg (q4 s)) s.2.2.2.2 ∧ FI (q4 s) ∧ un s.1 < un lm)
   (fun r s h0 hr hI => ?_) (fun s hI => ?_) n0 (w &&& S) (mput lm (x : Int) ((lm.length : Int) + 1), mput ll (x : Int) ((lm.length : Int) + 1), lb, C, (0 : Int)) hlt ?_ (by have := bitsOf_len (w &&& S); omega)
  ·obtain ⟨s', h1, h2⟩ := hlp
   obtain ⟨lm', ll', lb', C', kids⟩ := s'
   simp only [h1, ob_s, id_eq]
   obtain ⟨_, hI1, hI2, hI3⟩ := h2
   have hI1' := hI1.congr (D' := fun y => Ad es S x y) fun y => ⟨fun h => h.1, fun h => ⟨h, by rw [Nat.zero_testBit]; decide⟩⟩
   have C'lt : C' < 2 ^ 64 := hI2.cu
   have hfr : (¬ ∃ p, Fr1 f p) ↔ f < 0 := by
    rcases hf with rfl | ⟨p, rfl⟩
    ·exact ⟨fun _ => by decide, fun _ ⟨p, hp⟩ => by unfold Fr1 at hp; omega⟩
    ·exact ⟨fun h => absurd ⟨p, rfl⟩ h, fun h => by omega⟩
   have hcond : br (decide (f < 0)) (some (decide (1 < kids))) (some false) = some (decide (f < 0 ∧ 1 < kids)) := by
    by_cases h : f < 0
    ·rw [br_dt h]; simp [h]
    ·rw [br_df h]; simp [h]
   simp only [hcond, ob_s]
   by_cases hcc : f < 0 ∧ 1 < kids
   ·rw [br_dt hcc, gd_dt (by omega)]
    rw [word_one hx64, word_or C'lt (one_lt hx64)]
    refine ⟨_, rfl, ⟨hI2.key, hI2.len, or_lt' C'lt (one_lt hx64)⟩, ?_, hI1'.done hs hi hp (fun _ h => h) rfl rfl rfl (fun a => ?_) rfl⟩
    ·exact Nat.le_of_lt hI3
    ·show (C' ||| 2 ^ x).testBit a = true ↔ C'.testBit a = true ∨ _
     rw [Nat.testBit_or, Bool.or_eq_true, tb_one, decide_eq_true_eq]
     exact ⟨fun h => h.imp id fun h => ⟨h, hfr.2 hcc.1, hcc.2⟩, fun h => h.imp id fun h => h.1⟩
   ·rw [br_df hcc]
    refine ⟨_, rfl, ⟨hI2.key, hI2.len, C'lt⟩, ?_, hI1'.done hs hi hp (fun _ h => h) rfl rfl rfl (fun a => ⟨.inl, fun h => h.elim id fun h => absurd ⟨hfr.1 h.2.1, h.2.2⟩ hcc⟩) rfl⟩
    exact Nat.le_of_lt hI3
  ·obtain ⟨hsub, hI1, hI2, hI3⟩ := hI
   have ht := (tz_bit h0 hr).1
   have ha := (hnb _).1 (hsub _ ht)
   obtain ⟨s', g1, g2, g3, g4⟩ := L76_step n0 hok hS hrec hp h0 hr ha (fun h => h.2 ht) hI1 hI2 (by omega) hf
   refine ⟨s', g1, fun i hi => hsub i ?_, g2.congr fun y => ?_, g3, Nat.lt_of_le_of_lt g4 hI3⟩
   ·rw [clr_bit h0 hr] at hi; simp only [Bool.and_eq_true] at hi; exact hi.1
   ·rw [clr_bit h0 hr]
    constructor
    ·rintro (⟨h1, h2⟩ | rfl)
     ·exact ⟨h1, by simp [h2]⟩
     ·exact ⟨ha, by simp⟩
    ·rintro ⟨h1, h2⟩
     by_cases e : y = tz r
     ·exact .inr e
     ·refine .inl ⟨h1, fun h3 => h2 (by simp [h3, e])⟩
  ·simp only [L76_1]; rfl
  ·refine ⟨fun i hi => hi, hstart.congr fun y => ⟨fun h => h.elim, fun h => h.2 ((hnb y).2 h.1)⟩, ⟨fun y hy => ?_, ?_, hF.cu⟩, ?_⟩
   ·show mget (mput lm (x : Int) _) (y : Int) = none
    have hy' : (mget (mput lm (x : Int) ((lm.length : Int) + 1)) (y : Int)).getD 0 = 0 := hy
    rw [getD_put] at hy'
    rw [mget_mput]
    by_cases e : (y : Int) = (x : Int)
    ·rw [if_pos e] at hy'; omega
    ·rw [if_neg e] at hy' ⊢; exact hF.key y hy'
   ·show (mput lm (x : Int) _).length + un (mput lm (x : Int) _) = 64
    rw [hlm]; omega
   ·show un (mput lm (x : Int) _) < un lm
    omega
end
end Go.Proofs.YtpclggcpobakhaaDoor
end

section
namespace Go.Proofs.YtpclggcpobakhaaDoor
open Go Go.Ab Go.Ab.W
theorem L41_eq (n : Nat) (N1 N2 N3 : Int) (l1 l2 l3 : List (Int × Int)) (hn : 300 < n) (h1 : l1.length ≤ 300) (h2 : l2.length ≤ 300) (h3 : l3.length ≤ 300) :
  ∃ J, lpN (L41_1 n N1 l1 N2 l2 N3 l3) n ([], 0) = some J ∧ J.length ≤ 3 ∧ ∀ j ∈ J, okG (gOf N1 l1 N2 l2 N3 l3 j).1 (gOf N1 l1 N2 l2 N3 l3 j).2 = true := by
 have hl : ∀ j, (gOf N1 l1 N2 l2 N3 l3 j).2.length ≤ 300 := fun j => by
  match j with
  | 0 => exact h1
  | 1 => exact h2
  | _ + 2 => exact h3
 have := lp_upto (body := L41_1 n N1 l1 N2 l2 N3 l3) 3 (fun (J : List Nat) (v : Int) => (J, v)) (fun J i => if okG (gOf N1 l1 N2 l2 N3 l3 i).1 (gOf N1 l1 N2 l2 N3 l3 i).2 then J ++ [i] else J) id
  (fun i J => J.length ≤ i ∧ ∀ j ∈ J, okG (gOf N1 l1 N2 l2 N3 l3 j).1 (gOf N1 l1 N2 l2 N3 l3 j).2 = true) (fun J i hi hI => ?_) (fun J _ => ?_) (n := n) (s := []) ⟨Nat.le_refl _, fun j hj => by cases hj⟩ (by omega)
 ·exact ⟨_, this.1, this.2.1, this.2.2⟩
 ·have hg := hl i
  have hF := F23_eq n (gOf N1 l1 N2 l2 N3 l3 i).1 (gOf N1 l1 N2 l2 N3 l3 i).2 (by omega) (by omega) (by omega)
  have hlen := hI.1
  by_cases hk : okG (gOf N1 l1 N2 l2 N3 l3 i).1 (gOf N1 l1 N2 l2 N3 l3 i).2 = true
  ·rw [if_pos hk]
   refine ⟨?_, by simp; omega, fun j hj => ?_⟩
   ·have hc : ckG (gOf N1 l1 N2 l2 N3 l3 i).1 (gOf N1 l1 N2 l2 N3 l3 i).2 = 0 := by unfold ckG; rw [if_pos hk]
    unfold L41_1
    simp only [Int.toNat_natCast, inB_nat hi, gd_t, hF, ob_s, hc, decide_true, br_t, lim_of (show J.length + 1 ≤ 1073741824 by omega), wrap_succ (show i < 4611686018427387904 by omega)]
    rw [br_dt (by omega)]
   ·rcases List.mem_append.1 hj with hj | hj
    ·exact hI.2 j hj
    ·rw [List.mem_singleton.1 hj]; exact hk
  ·rw [if_neg hk]
   refine ⟨?_, by omega, hI.2⟩
   have hc : ckG (gOf N1 l1 N2 l2 N3 l3 i).1 (gOf N1 l1 N2 l2 N3 l3 i).2 = 180 := by unfold ckG; rw [if_neg hk]
   unfold L41_1
   simp only [Int.toNat_natCast, inB_nat hi, gd_t, hF, ob_s, hc, wrap_succ (show i < 4611686018427387904 by omega)]
   rw [br_dt (by omega), br_df (by decide)]
 ·simp only [L41_1]
  rw [br_df (by omega)]; rfl
theorem F41_eq (n x1 x2 x3 : Nat) (l4 : List (Nat × Nat)) (x8 x9 : Nat) (x10 x11 x12 : Int) (x13 x14 : Nat) (x15 x16 x17 : Int) (h9 : x9 < 256) (h14 : x14 < 256) (hn : 300 < n) :
  ∃ gs, F41 n x1 x2 x3 l4 x8 x9 x10 x11 x12 x13 x14 x15 x16 x17 = some gs ∧ gs.length ≤ 3 ∧ ∀ g ∈ gs, okG g.1 g.2 = true ∧ ∃ M : Nat, g.1 = (M : Int) ∧ Okay M g.2 := by
 obtain ⟨N1, e1, N2, e2, N3, e3, h1, g1, g2, g3, _⟩ := F28_tot n x1 x2 x3 l4 x8 x9 x10 x11 x12 x13 x14 x15 x16 x17 h9 h14 (by omega)
 obtain ⟨J, h2, hJ, h3⟩ := L41_eq n N1 N2 N3 e1 e2 e3 hn g1 g2 g3
 refine ⟨J.map (gOf N1 e1 N2 e2 N3 e3), ?_, by simpa using hJ, fun g hg => ?_⟩
 ·unfold F41
  rw [h1, ob_s]
  simp only [h2, ob_s]
 ·obtain ⟨j, hj, rfl⟩ := List.mem_map.1 hg
  exact ⟨h3 j hj, okay_of (h3 j hj)⟩
theorem mask_eq {M : Nat} (h : M ≤ 64) : usub .u64 (ushl .u64 1 M) 1 = 2 ^ M - 1 := by
 have hp := Nat.two_pow_pos M
 have hpl : 2 ^ M ≤ 2 ^ 64 := Nat.pow_le_pow_right (by decide) h
 unfold usub ushl
 rw [uw_id (show (1 : Nat) < 2 ^ 64 by decide), Nat.one_mul, Nat.min_eq_left (show M ≤ IntKind.bits .u64 from h)]
 show (uw .u64 (2 ^ M) + (2 ^ 64 - 1)) % 2 ^ 64 = 2 ^ M - 1
 rcases Nat.lt_or_ge M 64 with h1 | h1
 ·have := one_lt h1
  rw [uw_id this]; omega
 ·have : M = 64 := by omega
  subst this
  decide
theorem masked {M x : Nat} (h : M ≤ 64) (hx : x < 2 ^ 64) : uw .u64 (uw .u64 x &&& uw .u64 (usub .u64 (ushl .u64 1 M) 1)) = x % 2 ^ M ∧ x % 2 ^ M < 2 ^ M := by
 have hp := Nat.two_pow_pos M
 have hpl : 2 ^ M ≤ 2 ^ 64 := Nat.pow_le_pow_right (by decide) h
 rw [mask_eq h, word_and hx (by omega), Nat.and_two_pow_sub_one_eq_mod]
 exact ⟨rfl, Nat.mod_lt _ hp⟩
theorem ckF_fit {M : Nat} {es : List (Int × Int)} {x : Nat} (h : Okay M es) (hk : okG (M : Int) es = true) (hx : x < 2 ^ M) : ckF (M : Int) es x = 0 := by
 unfold ckF
 rw [if_pos hk, Int.toNat_natCast, if_neg (by omega)]
theorem L73_eq (n0 : Nat) (l : List (Int × Int)) (a b : Int) (hl : l.length < 4611686018427387904) : ∀ k i n, i + k = l.length → k < n → (∃ j, i ≤ j ∧ l[j]? = some (a, b)) → ∃ j : Nat, lpN (L73_1 n0 l a b) n ((i : Nat) : Int) = some (.inl (j : Int)) := by
 intro k
 induction k with
 | zero =>
  rintro i n hi hk ⟨j, hj, h⟩
  have := (List.getElem?_eq_some_iff.1 h).1
  omega
 | succ k ih =>
  rintro i n hi hk ⟨j, hj, h⟩
  obtain ⟨n, rfl⟩ : ∃ n', n = n' + 1 := ⟨n - 1, by omega⟩
  have a1 : i < l.length := by omega
  have e1 : l[((i : Nat) : Int).toNat]? = some l[i] := by simp [a1]
  have hbody : L73_1 n0 l a b (i : Int) = br (decide (a = l[i].1) && decide (b = l[i].2)) (some (.inr (.inl (i : Int)))) (some (.inl ((i + 1 : Nat) : Int))) := by
   simp only [L73_1, e1, inB_nat a1, gd_t, ob_s, wrap_succ (show i < 4611686018427387904 by omega)]
   rw [br_dt (by omega)]
  by_cases hc : (decide (a = l[i].1) && decide (b = l[i].2)) = true
  ·rw [hc, br_t] at hbody
   exact ⟨i, lp_end hbody⟩
  ·rw [Bool.not_eq_true] at hc
   rw [hc, br_f] at hbody
   rw [lp_next hbody]
   refine ih (i + 1) n (by omega) (by omega) ⟨j, ?_, h⟩
   rcases Nat.lt_or_ge i j with h1 | h1
   ·exact h1
   ·have : i = j := by omega
    subst this
    rw [List.getElem?_eq_getElem a1] at h
    have := Option.some.inj h
    rw [this] at hc
    simp at hc
theorem F48_mem (n : Nat) (l : List (Int × Int)) (a b : Int) (hl : l.length < 4611686018427387904) (hn : l.length < n) (h : (a, b) ∈ l) : F48 n l a b = some true := by
 obtain ⟨j, hj⟩ := List.mem_iff_getElem?.1 h
 obtain ⟨k, hk⟩ := L73_eq n l a b hl l.length 0 n (by omega) hn ⟨j, Nat.zero_le _, hj⟩
 unfold F48 F73
 rw [show lpN (L73_1 n l a b) n 0 = _ from hk, ob_s, ob_s, decide_eq_true (by omega)]
theorem okG_of {M : Nat} {es : List (Int × Int)} (h : ∃ M' : Nat, (M : Int) = (M' : Int) ∧ Okay M' es) : Okay M es := by
 obtain ⟨M', e, h⟩ := h
 have : M = M' := by omega
 subst this; exact h
end Go.Proofs.YtpclggcpobakhaaDoor
end

section
namespace Go.Proofs.YtpclggcpobakhaaDoor
open Go Go.Ab Go.Ab.W Dfs
section
variable {M S : Nat} {es : List (Int × Int)} {L : List Nat}
structure TI (A : Nat → Nat → Prop) (S' : Nat → Prop) (s : Sg) : Prop extends Inv S' s where
 fin : ∀ w x, 0 < s.m w → A w x → 0 < s.m x
 bj : ∀ u w, 0 < s.m u → A u w → (s.b u w ↔ Bridge A u w)
 cj : ∀ u, 0 < s.m u → (s.cu u ↔ Cut A u)
theorem TI.pre {A : Nat → Nat → Prop} {S' : Nat → Prop} {s : Sg} (h : TI A S' s) {x : Nat} (hx : S' x) (h0 : s.m x = 0) : Pre A S' (fun _ => False) (Fr1 (-1)) x s :=
 { h.toInv with
  act := fun _ h => h.elim, conn := fun _ _ h => h.elim, fin := fun w y hw _ hwy => h.fin w y hw hwy, new := h0, nS := hx
  frA := fun p hp => by unfold Fr1 at hp; omega
  root := fun _ h => h.elim
  fr1 := fun p q hp => by unfold Fr1 at hp; omega }
theorem TI.post {A : Nat → Nat → Prop} {S' : Nat → Prop} {s s' : Sg} (h : TI A S' s) {x : Nat} (hp : Post A S' (Fr1 (-1)) x s s') : TI A S' s' ∧ (∀ y, 0 < s.m y → 0 < s'.m y) ∧ 0 < s'.m x := by
 have nofr : ∀ p, ¬ Fr1 (-1) p := fun p hp => by unfold Fr1 at hp; omega
 have mono : ∀ y, 0 < s.m y → 0 < s'.m y := fun y hy => by rw [hp.ext y hy]; exact hy
 refine ⟨{ hp.toInv with fin := fun w y hw hwy => ?_, bj := fun u w hu huw => ?_, cj := fun u hu => ?_ }, mono, by rw [hp.nn]; have := h.c0; omega⟩
 ·by_cases h0 : 0 < s.m w
  ·exact mono y (h.fin w y h0 hwy)
  ·exact hp.fin w y ⟨hw, h0⟩ hwy
 ·by_cases h0 : 0 < s.m u
  ·rw [hp.bo u w (fun a => a.2 h0) (fun a => a.2 (h.fin u w h0 huw))]; exact h.bj u w h0 huw
  ·exact hp.bj u w ⟨hu, h0⟩ huw fun e => nofr _ e.2
 ·by_cases h0 : 0 < s.m u
  ·rw [hp.co u (fun a => a.2 h0)]; exact h.cj u h0
  ·exact hp.cj u ⟨hu, h0⟩
def q5 (t : List ((Int × Int) × Bool) × Nat × List (Int × Int) × List (Int × Int)) : Q4 := (t.2.2.1, t.2.2.2, t.1, t.2.1)
theorem un_nil : un [] = 64 := by decide
theorem tears_ok (n : Nat) (hok : Okay M es) (hL : AroundOk M es L) (hS : S < 2 ^ M) (hn : 64 < n) :
  ∃ lb C lm ll, lpN (L18_1 n L S) n (S, [], 0, [], []) = some (lb, C, lm, ll) ∧ C < 2 ^ 64 ∧ (∀ v, C.testBit v = true ↔ S.testBit v = true ∧ Cut (Ad es S) v) ∧
   (∀ a b : Nat, a < b → ((mget lb ((a : Int), (b : Int))).getD false = true → S.testBit a = true ∧ S.testBit b = true)) ∧
   ∀ a b : Nat, a < b → Ad es S a b → ((mget lb ((a : Int), (b : Int))).getD false = true ↔ Bridge (Ad es S) a b) := by
 have hS64 := lt64 hS hok.le
 have hlp := lp_bitsI (body := L18_1 n L S) (fun (r : Nat) (s : List ((Int × Int) × Bool) × Nat × List (Int × Int) × List (Int × Int)) => (r, s)) id
  (fun r s => (∀ i, r.testBit i = true → S.testBit i = true) ∧ TI (Ad es S) (InS S) (sg (q5 s)) ∧ FI (q5 s) ∧ ∀ i, S.testBit i = true → ¬ r.testBit i = true → 0 < (sg (q5 s)).m i)
  (fun r s h0 hr hI => ?_) (fun s hI => ?_) n S ([], 0, [], []) hS64 ?_ (by have := bitsOf_len S; omega)
 ·obtain ⟨⟨lb, C, lm, ll⟩, h1, _, h3, h4, h5⟩ := hlp
  have vis : ∀ i, S.testBit i = true → 0 < (sg (q5 (lb, C, lm, ll))).m i := fun i hi => h5 i hi (by rw [Nat.zero_testBit]; decide)
  have mii : ∀ a b : Nat, a < b → mi (a : Int) (b : Int) = a ∧ ma (a : Int) (b : Int) = b := fun a b h => by unfold mi ma; constructor <;> split <;> omega
  refine ⟨lb, C, lm, ll, h1, h4.cu, fun v => ⟨fun h => ?_, fun h => (h3.cj v (vis v h.1)).2 h.2⟩, fun a b hab h => ?_, fun a b hab hA => ?_⟩
  ·have hv := h3.cv v h
   exact ⟨h3.inS v hv, (h3.cj v hv).1 h⟩
  ·have hb : (sg (q5 (lb, C, lm, ll))).b a b := by
    show (mget lb (mi (a : Int) (b : Int), ma (a : Int) (b : Int))).getD false = true
    rw [(mii a b hab).1, (mii a b hab).2]; exact h
   exact ⟨h3.inS a (h3.bv a b hb), h3.inS b (h3.bv b a (h3.bs a b hb))⟩
  ·have := h3.bj a b (vis a hA.2.1) hA
   rw [← this]
   show _ ↔ (mget lb (mi (a : Int) (b : Int), ma (a : Int) (b : Int))).getD false = true
   rw [(mii a b hab).1, (mii a b hab).2]
 ·obtain ⟨hsub, hT, hF, hd⟩ := hI
  obtain ⟨lb, C, lm, ll⟩ := s
  have ht := (tz_bit h0 hr).1
  have htS := hsub _ ht
  simp only [L18_1]
  rw [show (!decide (r = 0)) = true by simp; omega, br_t]
  simp only [F42_eq hr, ob_s]
  refine ob_step (α := List ((Int × Int) × Bool) × Nat × List (Int × Int) × List (Int × Int)) (G := fun s' => (Sum.inl (clr r, s') : (Nat × List ((Int × Int) × Bool) × Nat × List (Int × Int) × List (Int × Int)) ⊕ (List ((Int × Int) × Bool) × Nat × List (Int × Int) × List (Int × Int)))) (fun a => rfl) ?_
  have hsub' : ∀ i, (clr r).testBit i = true → S.testBit i = true := fun i hi => hsub i (by rw [clr_bit h0 hr] at hi; simp only [Bool.and_eq_true] at hi; exact hi.1)
  have hrest : ∀ i, ¬ (clr r).testBit i = true → ¬ r.testBit i = true ∨ i = tz r := fun i hi => by
   rw [clr_bit h0 hr] at hi
   by_cases e : i = tz r
   ·exact .inr e
   ·exact .inl fun h => hi (by simp [h, e])
  have hpos := hT.pos (tz r)
  have hm : (sg (q5 (lb, C, lm, ll))).m (tz r) = (mget lm ((tz r : Nat) : Int)).getD 0 := rfl
  by_cases hz : (mget lm ((tz r : Nat) : Int)).getD 0 = 0
  ·rw [br_dt hz]
   obtain ⟨s', g1, g2, g3, g4⟩ := R76_ok n hok hL hS hn n (lm, ll, lb, C) _ (tz r) (-1) (.inl rfl) hF (hT.pre htS (hm.trans hz)) (by
    have := hF.len
    have e : (q5 (lb, C, lm, ll)).1 = lm := rfl
    rw [e] at this
    show un lm < n
    omega)
   obtain ⟨lm', ll', lb', C'⟩ := s'
   obtain ⟨k1, k2, k3⟩ := hT.post g4
   rw [g1]
   refine ⟨(lb', C', lm', ll'), rfl, hsub', k1, g2, fun i hi hni => ?_⟩
   rcases hrest i hni with h | rfl
   ·exact k2 i (hd i hi h)
   ·exact k3
  ·rw [br_df hz]
   refine ⟨(lb, C, lm, ll), rfl, hsub', hT, hF, fun i hi hni => ?_⟩
   rcases hrest i hni with h | rfl
   ·exact hd i hi h
   ·rw [hm]; rw [hm] at hpos; omega
 ·simp only [L18_1]; rfl
 ·have m0 : ∀ x, ¬ (0 : Int) < (sg (q5 ([], 0, [], []))).m x := fun x h => (by simp [sg, q5, mget, mfind] at h)
  refine ⟨fun i hi => hi, { pos := fun x => ?_, inS := fun x hx => absurd hx (m0 x), bs := fun x y hb => ?_, bv := fun x y hb => ?_, cv := fun x hb => ?_, fin := fun w x hw => absurd hw (m0 w), bj := fun u w hu => absurd hu (m0 u), cj := fun u hu => absurd hu (m0 u) }, ⟨fun x _ => rfl, ?_, by show (0 : Nat) < 2 ^ 64; decide⟩, fun i hi hni => absurd hi hni⟩
  ·simp [sg, q5, mget, mfind]
  ·simp [sg, q5, mget, mfind] at hb
  ·simp [sg, q5, mget, mfind] at hb
  ·simp [sg, q5] at hb
  ·show ([] : List (Int × Int)).length + un [] = 64
   rw [un_nil]; rfl
theorem filt_loop {n N : Nat} {es : List (Int × Int)} (h : Okay N es) (p : Int × Int → Bool) (body : (List (Int × Int) × Int) → Option ((List (Int × Int) × Int) ⊕ (List (Int × Int))))
  (hb : ∀ (s : List (Int × Int)) (k a b : Nat), es[k]? = some ((a : Int), (b : Int)) → a < b → b < N → s.length ≤ k → k < 200 → body (s, (k : Int)) = some (.inl ((if p ((a : Int), (b : Int)) then s ++ [((a : Int), (b : Int))] else s), ((k + 1 : Nat) : Int)))) (he : ∀ s, body (s, (es.length : Int)) = some (.inr s)) (hn : 200 < n) :
  lpN body n ([], 0) = some (es.filter p) := by
 have hN := h.le
 have hlen := h.len
 have := lp_list0 (body := body) es (fun (s : List (Int × Int)) (v : Int) => (s, v)) (fun s e => if p e then s ++ [e] else s) id (fun k s => s.length ≤ k ∧ s = (es.take k).filter p) (fun s k e he' hI => ?_) (fun s _ => he s) (n := n) (s := []) ⟨by simp, by simp⟩ (by omega)
 ·obtain ⟨h1, h2, h3⟩ := this
  rw [h1, h3, List.take_length]; rfl
 ·have hi : k < es.length := (List.getElem?_eq_some_iff.1 he').1
  obtain ⟨a, b, rfl, hab, hbN⟩ := h.mem e (List.mem_of_getElem? he')
  have htk : es.take (k + 1) = es.take k ++ [((a : Int), (b : Int))] := by rw [List.take_add_one, he']; rfl
  refine ⟨hb s k a b he' hab hbN hI.1 (by omega), ?_, ?_⟩
  ·split
   ·simp; have := hI.1; omega
   ·have := hI.1; omega
  ·rw [htk, List.filter_append, ← hI.2]
   by_cases hc : p ((a : Int), (b : Int)) = true
   ·rw [if_pos hc, List.filter_cons_of_pos hc]; rfl
   ·rw [if_neg hc, List.filter_cons_of_neg hc]; simp
def IsBr (es : List (Int × Int)) (S : Nat) (e : Int × Int) : Prop := S.testBit e.1.toNat = true ∧ S.testBit e.2.toNat = true ∧ Bridge (Ad es S) e.1.toNat e.2.toNat
theorem F18_ok (n : Nat) (hok : Okay M es) (hg : okG (M : Int) es = true) (hS : S < 2 ^ M) (hn : 200 < n) : ∃ p : Int × Int → Bool, F18 n (M : Int) es S = some (es.filter p, 0) ∧ ∀ e ∈ es, p e = true ↔ IsBr es S e := by
 have hlen := hok.len
 have hS64 := lt64 hS hok.le
 obtain ⟨L, hL1, hL2⟩ := F75_eq n M es hok hn
 obtain ⟨lb, C, lm, ll, h1, h2, h3, h4, h5⟩ := tears_ok n hok hL2 hS (by omega)
 refine ⟨fun e => (mget lb e).getD false, ?_, fun e he => ?_⟩
 ·unfold F18
  rw [F55_eq n _ _ _ hS64 (by omega) (by omega) (by omega), ob_s, ckF_fit hok hg hS]
  simp only [decide_true, Bool.not_true, br_f, hL1, ob_s, h1]
  rw [filt_loop hok (fun e => (mget lb e).getD false) (L18_2 n es lb) (fun s k a b he hab hb hs hk => ?_) (fun s => ?_) hn, ob_s]
  ·have hi : k < es.length := (List.getElem?_eq_some_iff.1 he).1
   simp only [L18_2, Int.toNat_natCast, he, ob_s, inB_nat hi, gd_t, wrap_succ (show k < 4611686018427387904 by omega)]
   rw [br_dt (by omega)]
   rcases Bool.eq_false_or_eq_true ((mget lb ((a : Int), (b : Int))).getD false) with hc | hc
   ·simp only [hc, br_t, if_true]
    rw [lim_of (by simp; omega), gd_t, ob_s]
   ·simp only [hc, br_f, ob_s, Bool.false_eq_true, if_false]
  ·simp only [L18_2]
   rw [br_df (by omega)]
 ·obtain ⟨a, b, rfl, hab, hb⟩ := hok.mem e he
  simp only [IsBr, Int.toNat_natCast]
  constructor
  ·intro hp
   obtain ⟨ha, hb'⟩ := h4 a b hab hp
   exact ⟨ha, hb', (h5 a b hab ⟨.inl he, ha, hb'⟩).1 hp⟩
  ·rintro ⟨ha, hb', hB⟩
   exact (h5 a b hab ⟨.inl he, ha, hb'⟩).2 hB
theorem F19_ok (n : Nat) (hok : Okay M es) (hg : okG (M : Int) es = true) (hS : S < 2 ^ M) (hn : 200 < n) : ∃ C, F19 n (M : Int) es S = some (C, 0) ∧ C < 2 ^ 64 ∧ ∀ v, C.testBit v = true ↔ S.testBit v = true ∧ Cut (Ad es S) v := by
 have hlen := hok.len
 have hS64 := lt64 hS hok.le
 obtain ⟨L, hL1, hL2⟩ := F75_eq n M es hok hn
 obtain ⟨lb, C, lm, ll, h1, h2, h3, h4, h5⟩ := tears_ok n hok hL2 hS (by omega)
 have h1' : lpN (L19_1 n L S) n (S, [], 0, [], []) = some (lb, C, lm, ll) := h1
 refine ⟨C, ?_, h2, h3⟩
 unfold F19
 rw [F55_eq n _ _ _ hS64 (by omega) (by omega) (by omega), ob_s, ckF_fit hok hg hS]
 simp only [decide_true, Bool.not_true, br_f, hL1, ob_s, h1']
end
end Go.Proofs.YtpclggcpobakhaaDoor
end

section
namespace Go.Proofs.YtpclggcpobakhaaDoor
open Go Go.Ab Go.Ab.W Dfs
section
variable {M S S' : Nat} {es es' : List (Int × Int)}
def Less (S S' v : Nat) : Prop := ∀ j, S'.testBit j = true ↔ S.testBit j = true ∧ j ≠ v
theorem rp_less {v i j : Nat} (hl : Less S S' v) (h : RP (Ad es S) (fun x => x ≠ v) i j) : Rch es S' i j := by
 induction h with
 | refl => exact .refl
 | step _ ha hk ih => exact .step ih ha.1 ((hl _).2 ⟨ha.2.2, hk⟩)
theorem less_rp {v i j : Nat} (hl : Less S S' v) (h : Rch es S' i j) (hi : S'.testBit i = true) : RP (Ad es S) (fun x => x ≠ v) i j := by
 induction h with
 | refl => exact .refl
 | step h' ha hk ih => exact .step ih ⟨ha, ((hl _).1 (h'.mem hi)).1, ((hl _).1 hk).1⟩ ((hl _).1 hk).2
def Lesse (es es' : List (Int × Int)) (a b : Nat) : Prop := ∀ x y, adj es' x y ↔ adj es x y ∧ ¬ (x = a ∧ y = b) ∧ ¬ (x = b ∧ y = a)
theorem bridge_rch {a b : Nat} (hl : Lesse es es' a b) (ha : S.testBit a = true) : Bridge (Ad es S) a b ↔ ¬ Rch es' S a b := by
 have k1 : ∀ j, RP (cutE (Ad es S) a b) (fun _ => True) a j → Rch es' S a j := fun j h => by
  induction h with
  | refl => exact .refl
  | step _ hx _ ih => exact .step ih ((hl _ _).2 ⟨hx.1.1, hx.2⟩) hx.1.2.2
 have k2 : ∀ j, Rch es' S a j → RP (cutE (Ad es S) a b) (fun _ => True) a j := fun j h => by
  induction h with
  | refl => exact .refl
  | step h' hx hk ih =>
   have := (hl _ _).1 hx
   exact .step ih ⟨⟨this.1, h'.mem ha, hk⟩, this.2⟩ trivial
 exact ⟨fun h h' => h (k2 b h'), fun h h' => h (k1 b h')⟩
theorem lesse_sub {a b i j : Nat} (hl : Lesse es es' a b) (h : Rch es' S i j) : Rch es S i j := by
 induction h with
 | refl => exact .refl
 | step _ hx hk ih => exact .step ih ((hl _ _).1 hx).1 hk
def Ldr (es : List (Int × Int)) (S j : Nat) : Prop := S.testBit j = true ∧ ∀ k, Rch es S j k → j ≤ k
noncomputable def ldB (es : List (Int × Int)) (S j : Nat) : Bool := @decide (Ldr es S j) (Classical.propDecidable _)
theorem ldB_t {j : Nat} : ldB es S j = true ↔ Ldr es S j := by
 unfold ldB
 exact @decide_eq_true_iff _ (Classical.propDecidable _)
theorem least (P : Nat → Prop) : ∀ n, P n → ∃ m, P m ∧ ∀ k, P k → m ≤ k := by
 intro n
 induction n using Nat.strongRecOn with
 | _ n ih =>
  intro h
  by_cases hx : ∃ k, P k ∧ k < n
  ·obtain ⟨k, h1, h2⟩ := hx
   exact ih k h2 h1
  ·exact ⟨n, h, fun k hk => Nat.le_of_not_lt fun hlt => hx ⟨k, hk, hlt⟩⟩
theorem ldr_of {i : Nat} (hi : S.testBit i = true) : ∃ j, Rch es S i j ∧ Ldr es S j := by
 obtain ⟨j, h1, h2⟩ := least (fun j => Rch es S i j) i .refl
 exact ⟨j, h1, h1.mem hi, fun k hk => h2 k (h1.trans hk)⟩
theorem ldr_one {i j : Nat} (hi : Ldr es S i) (hj : Ldr es S j) (h : Rch es S i j) : i = j := Nat.le_antisymm (hi.2 j h) (hj.2 i (h.symm hi.1))
theorem Cs.count : ∀ {r : Nat} {L : List Nat}, Cs es S r L → (∀ j, r.testBit j = true → S.testBit j = true) → (∀ j k, r.testBit j = true → Rch es S j k → r.testBit k = true) → L.length = ((List.range 64).filter fun j => r.testBit j && ldB es S j).length := by
 intro r L h
 induction h with
 | nil => intro _ _; rw [List.filter_eq_nil_iff.2 (fun j _ => by simp)]
 | @cons r u L h0 hr hu t ih =>
  intro hs hc
  have hb := (tz_bit h0 hr).1
  have hlow := (tz_bit h0 hr).2
  have hsub : ∀ j, u.testBit j = true → r.testBit j = true := fun j hj => hc _ _ hb ((hu.2 j).1 hj)
  have hrest : ∀ j, (uandn .u64 r u).testBit j = true ↔ r.testBit j = true ∧ u.testBit j = false := fun j => by
   rw [tb_andn hr hu.1, Bool.and_eq_true, Bool.not_eq_true']
  have := ih (fun j hj => hs j ((hrest j).1 hj).1) fun j k hj hjk => by
   obtain ⟨h1, h2⟩ := (hrest j).1 hj
   refine (hrest k).2 ⟨hc j k h1 hjk, ?_⟩
   cases e : u.testBit k with
   | false => rfl
   | true =>
    have := (hu.2 j).2 (((hu.2 k).1 e).trans (hjk.symm (hs j h1)))
    rw [h2] at this; cases this
  rw [List.length_cons, this]
  have lt : Ldr es S (tz r) := ⟨hs _ hb, fun k hk => Nat.le_of_not_lt fun hlt => by
   have := hlow k hlt
   rw [hc _ _ hb hk] at this; cases this⟩
  refine filter_less (a := tz r) List.nodup_range (List.mem_range.2 (tb_lt hr hb)) (by rw [hb, ldB_t.2 lt]; rfl) fun j => ?_
  have iff : ((uandn .u64 r u).testBit j && ldB es S j) = true ↔ ((r.testBit j && ldB es S j) && !decide (j = tz r)) = true := by
   simp only [Bool.and_eq_true, Bool.not_eq_true', decide_eq_false_iff_not, hrest, ldB_t]
   constructor
   ·rintro ⟨⟨h1, h2⟩, h3⟩
    refine ⟨⟨h1, h3⟩, fun e => ?_⟩
    rw [e, (hu.2 _).2 .refl] at h2; cases h2
   ·rintro ⟨⟨h1, h3⟩, h4⟩
    refine ⟨⟨h1, ?_⟩, h3⟩
    cases e : u.testBit j with
    | false => rfl
    | true => exact absurd (ldr_one lt h3 ((hu.2 j).1 e)).symm h4
  exact Bool.eq_iff_iff.2 iff
theorem Cs.count0 {L : List Nat} (h : Cs es S S L) : L.length = ((List.range 64).filter fun j => ldB es S j).length := by
 rw [h.count (fun _ h => h) fun j k hj h => h.mem hj]
 congr 1
 refine List.filter_congr fun j _ => ?_
 cases e : ldB es S j with
 | false => simp
 | true => rw [(ldB_t.1 e).1]; rfl
theorem edge_count {a b : Nat} {L L' : List Nat} (hS : S < 2 ^ 64) (hl : Lesse es es' a b) (hab : adj es a b) (ha : S.testBit a = true) (hb : S.testBit b = true) (h : Cs es S S L) (h' : Cs es' S S L') : L.length < L'.length ↔ Bridge (Ad es S) a b := by
 rw [bridge_rch hl ha, h.count0, h'.count0]
 have sub : ∀ j, Ldr es S j → Ldr es' S j := fun j hj => ⟨hj.1, fun k hk => hj.2 k (lesse_sub hl hk)⟩
 constructor
 ·intro hlt hr
  have up : ∀ i j, Rch es S i j → S.testBit i = true → Rch es' S i j := fun i j hij hi => by
   induction hij with
   | refl => exact .refl
   | @step j k h1 h2 h3 ih =>
    by_cases e : (j = a ∧ k = b) ∨ (j = b ∧ k = a)
    ·rcases e with ⟨rfl, rfl⟩ | ⟨rfl, rfl⟩
     ·exact ih.trans hr
     ·exact ih.trans (hr.symm ha)
    ·exact .step ih ((hl _ _).2 ⟨h2, fun e' => e (.inl e'), fun e' => e (.inr e')⟩) h3
  have : ((List.range 64).filter fun j => ldB es' S j).length ≤ ((List.range 64).filter fun j => ldB es S j).length := filter_le fun j _ hj => by
   rw [ldB_t] at hj ⊢
   exact ⟨hj.1, fun k hk => hj.2 k (up j k hk hj.1)⟩
  omega
 ·intro hr
  obtain ⟨ja, ra, la⟩ := ldr_of (es := es') ha
  obtain ⟨jb, rb, lb⟩ := ldr_of (es := es') hb
  have hne : ja ≠ jb := fun e => hr (ra.trans (by rw [e]; exact rb.symm hb))
  have conn : Rch es S ja jb := ((lesse_sub hl ra).symm ha).trans ((Rch.step .refl hab hb).trans (lesse_sub hl rb))
  have key : ∀ j, Ldr es' S j → ¬ Ldr es S j → ((List.range 64).filter fun j => ldB es S j).length < ((List.range 64).filter fun j => ldB es' S j).length := fun j h1 h2 =>
   filter_lt (a := j) (List.mem_range.2 (tb_lt hS h1.1)) (fun i _ hi => ldB_t.2 (sub i (ldB_t.1 hi))) (by
    cases e : ldB es S j with
    | false => rfl
    | true => exact absurd (ldB_t.1 e) h2) (ldB_t.2 h1)
  by_cases hA : Ldr es S ja
  ·exact key jb lb fun hB => hne (ldr_one hA hB conn)
  ·exact key ja la hA
theorem filter_split (p q : Nat → Bool) : ∀ l : List Nat, (l.filter p).length = (l.filter fun j => p j && q j).length + (l.filter fun j => p j && !q j).length
 | [] => rfl
 | x :: l => by
  have := filter_split p q l
  cases hp : p x <;> cases hq : q x <;> simp [List.filter_cons, hp, hq] <;> omega
theorem filter_one (p : Nat → Bool) : ∀ l : List Nat, l.Nodup → (∀ i j, p i = true → p j = true → i = j) → (l.filter p).length ≤ 1
 | [], _, _ => Nat.zero_le _
 | x :: l, hd, h => by
  rw [List.nodup_cons] at hd
  cases hp : p x with
  | false => rw [List.filter_cons_of_neg (by simp [hp])]; exact filter_one p l hd.2 h
  | true =>
   have : l.filter p = [] := List.filter_eq_nil_iff.2 fun y hy hpy => hd.1 (by rw [h x y hp hpy]; exact hy)
   rw [List.filter_cons_of_pos hp, this]; simp
theorem filter_two (p : Nat → Bool) {i j : Nat} (hne : i ≠ j) (hi : p i = true) (hj : p j = true) : ∀ l : List Nat, i ∈ l → j ∈ l → 2 ≤ (l.filter p).length
 | [], h, _ => by cases h
 | x :: l, h1, h2 => by
  have mem : ∀ {y : Nat}, y ∈ l → p y = true → 1 ≤ (l.filter p).length := fun hy hp => List.length_pos_of_mem (List.mem_filter.2 ⟨hy, hp⟩)
  rcases List.mem_cons.1 h1 with rfl | g1
  ·rcases List.mem_cons.1 h2 with e | g2
   ·exact absurd e.symm hne
   ·rw [List.filter_cons_of_pos hi, List.length_cons]; have := mem g2 hj; omega
  ·rcases List.mem_cons.1 h2 with rfl | g2
   ·rw [List.filter_cons_of_pos hj, List.length_cons]; have := mem g1 hi; omega
   ·have := filter_two p hne hi hj l g1 g2
    cases hp : p x with
    | false => rw [List.filter_cons_of_neg (by simp [hp])]; exact this
    | true => rw [List.filter_cons_of_pos hp, List.length_cons]; omega
noncomputable def inC (es : List (Int × Int)) (S v j : Nat) : Bool := @decide (Rch es S v j) (Classical.propDecidable _)
theorem inC_t {v j : Nat} : inC es S v j = true ↔ Rch es S v j := by
 unfold inC
 exact @decide_eq_true_iff _ (Classical.propDecidable _)
theorem less_sub {v i j : Nat} (hl : Less S S' v) (h : Rch es S' i j) : Rch es S i j := by
 induction h with
 | refl => exact .refl
 | step _ hx hk ih => exact .step ih hx ((hl _).1 hk).1
theorem last_leave {v j : Nat} (hl : Less S S' v) (hv : S.testBit v = true) (h : Rch es S v j) : j = v ∨ ∃ a, Ad es S v a ∧ (a ≠ v → Rch es S' a j) ∧ (a = v → j = v) := by
 induction h with
 | refl => exact .inl rfl
 | @step j k h' ha hk ih =>
  by_cases e : k = v
  ·exact .inl e
  ·rcases ih with rfl | ⟨a, h1, h2, h3⟩
   ·exact .inr ⟨k, ⟨ha, hv, hk⟩, fun _ => .refl, fun e' => absurd e' e⟩
   ·by_cases ea : a = v
    ·have ej := h3 ea
     subst ej
     exact .inr ⟨k, ⟨ha, hv, hk⟩, fun _ => .refl, fun e' => absurd e' e⟩
    ·exact .inr ⟨a, h1, fun _ => .step (h2 ea) ha ((hl k).2 ⟨hk, e⟩), fun e' => absurd e' ea⟩
theorem node_count {v : Nat} {L L' : List Nat} (hok : Okay M es) (hS : S < 2 ^ 64) (hl : Less S S' v) (hv : S.testBit v = true) (h : Cs es S S L) (h' : Cs es S' S' L') : L.length < L'.length ↔ Cut (Ad es S) v := by
 rw [h.count0, h'.count0, filter_split (fun j => ldB es S j) (inC es S v), filter_split (fun j => ldB es S' j) (inC es S v)]
 have hirr := @Ad.irr M es S hok
 have away : ∀ {i j : Nat}, Rch es S i j → S.testBit i = true → ¬ Rch es S v i → Rch es S' i j ∧ ¬ Rch es S v j := fun {i j} hij hi hn => by
  induction hij with
  | refl => exact ⟨.refl, hn⟩
  | @step j k h1 h2 h3 ih =>
   have hjS : S.testBit j = true := h1.mem hi
   have hk : ¬ Rch es S v k := fun hk => ih.2 (hk.trans (.step .refl (adj_symm h2) hjS))
   exact ⟨.step ih.1 h2 ((hl _).2 ⟨h3, fun e => hk (e ▸ .refl)⟩), hk⟩
 have e2 : ((List.range 64).filter fun j => ldB es S j && !inC es S v j) = ((List.range 64).filter fun j => ldB es S' j && !inC es S v j) := List.filter_congr fun j _ => by
  cases hc : inC es S v j with
  | true => simp
  | false =>
   have hn : ¬ Rch es S v j := fun h => by rw [inC_t.2 h] at hc; cases hc
   simp only [Bool.not_false, Bool.and_true]
   have : ldB es S j = true ↔ ldB es S' j = true := by
    rw [ldB_t, ldB_t]
    constructor
    ·rintro ⟨h1, h2⟩
     exact ⟨(hl j).2 ⟨h1, fun e => hn (e ▸ .refl)⟩, fun k hk => h2 k (less_sub hl hk)⟩
    ·rintro ⟨h1, h2⟩
     have h1' := ((hl j).1 h1).1
     exact ⟨h1', fun k hk => h2 k (away hk h1' hn).1⟩
   cases a : ldB es S j <;> cases b : ldB es S' j <;> simp_all
 rw [e2]
 obtain ⟨c, rc, lc⟩ := ldr_of (es := es) hv
 have one : ((List.range 64).filter fun j => ldB es S j && inC es S v j).length = 1 := by
  refine Nat.le_antisymm (filter_one _ _ List.nodup_range fun i j hi hj => ?_) (List.length_pos_of_mem (List.mem_filter.2 ⟨List.mem_range.2 (tb_lt hS lc.1), by rw [ldB_t.2 lc, inC_t.2 rc]; rfl⟩))
  simp only [Bool.and_eq_true, ldB_t, inC_t] at hi hj
  exact ldr_one hi.1 hj.1 ((hi.2.symm hv).trans hj.2)
 rw [one]
 constructor
 ·intro hlt
  apply Classical.byContradiction
  intro hcut
  have : ((List.range 64).filter fun j => ldB es S' j && inC es S v j).length ≤ 1 := filter_one _ _ List.nodup_range fun i j hi hj => by
   simp only [Bool.and_eq_true, ldB_t, inC_t] at hi hj
   have near : ∀ {i : Nat}, Ldr es S' i → Rch es S v i → ∃ a, Ad es S v a ∧ a ≠ v ∧ Rch es S' a i := fun {i} h1 h2 => by
    have hiv := ((hl i).1 h1.1).2
    rcases last_leave hl hv h2 with e | ⟨a, g1, g2, g3⟩
    ·exact absurd e hiv
    ·have ea : a ≠ v := (ne_of hirr g1).symm
     exact ⟨a, g1, ea, g2 ea⟩
   obtain ⟨a, a1, a2, a3⟩ := near hi.1 hi.2
   obtain ⟨b, b1, b2, b3⟩ := near hj.1 hj.2
   have hab : Rch es S' a b := by
    apply Classical.byContradiction
    intro hn
    exact hcut ⟨a, b, a1, b1, fun hr => hn (rp_less hl hr)⟩
   have haS : S'.testBit a = true := (hl a).2 ⟨a1.2.2, a2⟩
   exact ldr_one hi.1 hj.1 ((a3.symm haS).trans (hab.trans b3))
  omega
 ·rintro ⟨a, b, ha, hb, hn⟩
  have ea : a ≠ v := (ne_of hirr ha).symm
  have eb : b ≠ v := (ne_of hirr hb).symm
  have haS : S'.testBit a = true := (hl a).2 ⟨ha.2.2, ea⟩
  have hbS : S'.testBit b = true := (hl b).2 ⟨hb.2.2, eb⟩
  obtain ⟨ja, ra, la⟩ := ldr_of (es := es) haS
  obtain ⟨jb, rb, lb⟩ := ldr_of (es := es) hbS
  have hne : ja ≠ jb := fun e => hn (less_rp hl (ra.trans (by rw [e]; exact rb.symm hbS)) haS)
  have two := filter_two (fun j => ldB es S' j && inC es S v j) hne
   (by rw [ldB_t.2 la, inC_t.2 ((Rch.step .refl ha.1 ha.2.2).trans (less_sub hl ra))]; rfl)
   (by rw [ldB_t.2 lb, inC_t.2 ((Rch.step .refl hb.1 hb.2.2).trans (less_sub hl rb))]; rfl)
   (List.range 64) (List.mem_range.2 (tb_lt hS ((hl ja).1 la.1).1)) (List.mem_range.2 (tb_lt hS ((hl jb).1 lb.1).1))
  omega
end
end Go.Proofs.YtpclggcpobakhaaDoor
end

section
namespace Go.Proofs.YtpclggcpobakhaaDoor
open Go Go.Ab Go.Ab.W Dfs
section
variable {M S : Nat} {es : List (Int × Int)}
theorem okE_gt {N : Int} : ∀ {es : List (Int × Int)} {p : Int × Int}, okEp N p es = true → ∀ e ∈ es, p.1 < e.1 ∨ p.1 = e.1 ∧ p.2 < e.2
 | [], _, _, _, h => by cases h
 | f :: es, p, h, e, he => by
  rw [okE_cons, Bool.and_eq_true] at h
  unfold stepOk at h
  simp only [Bool.and_eq_true, decide_eq_true_eq] at h
  rcases List.mem_cons.1 he with rfl | he
  ·exact h.1.2
  ·have := okE_gt h.2 e he
   have := h.1.2
   omega
theorem okE_nodup {N : Int} : ∀ {es : List (Int × Int)} {p : Int × Int}, okEp N p es = true → es.Nodup
 | [], _, _ => .nil
 | f :: es, p, h => by
  rw [okE_cons, Bool.and_eq_true] at h
  exact List.nodup_cons.2 ⟨fun hf => by have := okE_gt h.2 f hf; omega, okE_nodup h.2⟩
theorem okE_less {N : Int} (f : Int × Int) : ∀ {l1 l2 : List (Int × Int)} {p : Int × Int}, okEp N p (l1 ++ f :: l2) = true → okEp N p (l1 ++ l2) = true
 | [], l2, p, h => by
  rw [List.nil_append, okE_cons, Bool.and_eq_true] at h
  rw [List.nil_append]
  cases l2 with
  | nil => rfl
  | cons g l2 =>
   rw [okE_cons, Bool.and_eq_true] at h ⊢
   refine ⟨?_, h.2.2⟩
   have h1 := h.1
   have h2 := h.2.1
   unfold stepOk at h1 h2 ⊢
   simp only [Bool.and_eq_true, decide_eq_true_eq] at h1 h2 ⊢
   omega
 | g :: l1, l2, p, h => by
  rw [List.cons_append, okE_cons, Bool.and_eq_true] at h
  rw [List.cons_append, okE_cons, Bool.and_eq_true]
  exact ⟨h.1, okE_less f h.2⟩
theorem split_at {k : Nat} {e : Int × Int} (h : es[k]? = some e) : es = es.take k ++ e :: es.drop (k + 1) := by
 obtain ⟨hk, he⟩ := List.getElem?_eq_some_iff.1 h
 have := List.take_append_drop k es
 rw [List.drop_eq_getElem_cons hk, he] at this
 exact this.symm
theorem okG_less {k : Nat} {e : Int × Int} (hg : okG (M : Int) es = true) (h : es[k]? = some e) : okG (M : Int) (es.take k ++ es.drop (k + 1)) = true := by
 have hs := split_at h
 unfold okG at hg ⊢
 rw [Bool.and_eq_true, decide_eq_true_eq] at hg ⊢
 have hl : (es.take k ++ es.drop (k + 1)).length ≤ es.length := by
  have := congrArg List.length hs
  simp only [List.length_append, List.length_cons] at this ⊢
  omega
 refine ⟨⟨hg.1.1, hg.1.2.1, by omega⟩, okE_less e (hs ▸ hg.2)⟩
theorem lesse_of {k a b : Nat} (hok : Okay M es) (hg : okG (M : Int) es = true) (h : es[k]? = some ((a : Int), (b : Int))) : Lesse es (es.take k ++ es.drop (k + 1)) a b := by
 have hs := split_at h
 have hnd : es.Nodup := by
  unfold okG at hg
  rw [Bool.and_eq_true] at hg
  exact okE_nodup hg.2
 have hmem : ∀ f, f ∈ es.take k ++ es.drop (k + 1) ↔ f ∈ es ∧ f ≠ ((a : Int), (b : Int)) := fun f => by
  have e1 : f ∈ es ↔ f ∈ es.take k ∨ f = ((a : Int), (b : Int)) ∨ f ∈ es.drop (k + 1) := by
   constructor
   ·intro hf
    rw [hs] at hf
    simpa using hf
   ·intro hf
    rw [hs]
    simpa using hf
  have hnd' : (es.take k ++ ((a : Int), (b : Int)) :: es.drop (k + 1)).Nodup := hs ▸ hnd
  rw [List.nodup_append] at hnd'
  obtain ⟨_, n2, n3⟩ := hnd'
  rw [List.nodup_cons] at n2
  rw [e1, List.mem_append]
  constructor
  ·rintro (hf | hf)
   ·exact ⟨.inl hf, fun e => n3 f hf _ (List.mem_cons_self ..) e⟩
   ·exact ⟨.inr (.inr hf), fun e => n2.1 (e ▸ hf)⟩
  ·rintro ⟨hf | hf | hf, hne⟩
   ·exact .inl hf
   ·exact absurd hf hne
   ·exact .inr hf
 have hab : a < b := by
  obtain ⟨a', b', e, h1, _⟩ := hok.mem _ (List.mem_of_getElem? h)
  simp only [Prod.mk.injEq] at e; omega
 intro x y
 unfold adj
 rw [hmem, hmem]
 constructor
 ·rintro (⟨h1, h2⟩ | ⟨h1, h2⟩)
  ·refine ⟨.inl h1, fun e => h2 (by rw [e.1, e.2]), fun e => ?_⟩
   obtain ⟨x', y', e', hxy, _⟩ := hok.mem _ h1
   simp only [Prod.mk.injEq] at e'; omega
  ·refine ⟨.inr h1, fun e => ?_, fun e => h2 (by rw [e.1, e.2])⟩
   obtain ⟨x', y', e', hxy, _⟩ := hok.mem _ h1
   simp only [Prod.mk.injEq] at e'; omega
 ·rintro ⟨h1 | h1, h2, h3⟩
  ·exact .inl ⟨h1, fun e => h2 (by simp only [Prod.mk.injEq] at e; omega)⟩
  ·exact .inr ⟨h1, fun e => h3 (by simp only [Prod.mk.injEq] at e; omega)⟩
theorem L73_not (n0 : Nat) (l : List (Int × Int)) (a b : Int) (hl : l.length < 4611686018427387904) (h : (a, b) ∉ l) : ∀ k i n, i + k = l.length → k < n → lpN (L73_1 n0 l a b) n ((i : Nat) : Int) = some (.inr ()) := by
 intro k
 induction k with
 | zero =>
  intro i n hi hk
  obtain ⟨n, rfl⟩ : ∃ n', n = n' + 1 := ⟨n - 1, by omega⟩
  refine lp_end ?_
  simp only [L73_1]
  rw [br_df (by omega)]
 | succ k ih =>
  intro i n hi hk
  obtain ⟨n, rfl⟩ : ∃ n', n = n' + 1 := ⟨n - 1, by omega⟩
  have a1 : i < l.length := by omega
  have e1 : l[((i : Nat) : Int).toNat]? = some l[i] := by simp [a1]
  have hc : (decide (a = l[i].1) && decide (b = l[i].2)) = false := by
   cases hb : (decide (a = l[i].1) && decide (b = l[i].2)) with
   | false => rfl
   | true =>
    simp only [Bool.and_eq_true, decide_eq_true_eq] at hb
    exact absurd (by rw [hb.1, hb.2]; exact List.getElem_mem a1) h
  have hbody : L73_1 n0 l a b (i : Int) = some (.inl ((i + 1 : Nat) : Int)) := by
   simp only [L73_1, e1, inB_nat a1, gd_t, ob_s, wrap_succ (show i < 4611686018427387904 by omega), hc, br_f]
   rw [br_dt (by omega)]
  rw [lp_next hbody]
  exact ih (i + 1) n (by omega) (by omega)
theorem F48_eq (n : Nat) (l : List (Int × Int)) (a b : Int) (hl : l.length < 4611686018427387904) (hn : l.length < n) : F48 n l a b = some (decide ((a, b) ∈ l)) := by
 by_cases h : (a, b) ∈ l
 ·rw [F48_mem n l a b hl hn h, decide_eq_true h]
 ·unfold F48 F73
  rw [show lpN (L73_1 n l a b) n 0 = _ from L73_not n l a b hl h l.length 0 n (by omega) hn, ob_s, ob_s, decide_eq_false h]
  rfl
theorem F25_ok (n : Nat) (hok : Okay M es) (hg : okG (M : Int) es = true) (hS : S < 2 ^ M) (hn : 300 < n) : ∃ L, F25 n (M : Int) es S = some (L.length : Int) ∧ Cs es S S L := by
 have hlen := hok.len
 have c1 := ckF_fit hok hg hS
 obtain ⟨l, a1, _, _, _, _, a2⟩ := comps_both n (M : Int) es S (lt64 hS hok.le) (by omega) (by omega) (by omega)
 refine ⟨l, ?_, a2 c1⟩
 unfold F25
 rw [a1, ob_s, c1]
 simp [br]
theorem less_andn (hS : S < 2 ^ 64) {v : Nat} (hv : v < 64) : Less S (uandn .u64 S (2 ^ v)) v := fun j => by
 rw [tb_andn hS (one_lt hv), tb_one]
 simp
theorem decide_lt (a b : Nat) : decide ((a : Int) < (b : Int)) = decide (a < b) := by
 by_cases h : a < b
 ·rw [decide_eq_true h, decide_eq_true (by omega)]
 ·rw [decide_eq_false h, decide_eq_false (by omega)]
theorem L10_1_eq (n : Nat) (hok : Okay M es) (hg : okG (M : Int) es = true) (hS : S < 2 ^ M) (hn : 300 < n) {p : Int × Int → Bool} (hp : ∀ e ∈ es, p e = true ↔ IsBr es S e) {L : List Nat} (hL : Cs es S S L) :
  lpN (L10_1 n es S (es.filter p) (M : Int) (L.length : Int)) n 0 = some (.inr ()) := by
 have hlen := hok.len
 have hM := hok.le
 have hS64 := lt64 hS hM
 have hpre : ((es.drop (0 : Int).toNat).take ((mi (es.length : Int) (40 : Int)).toNat - (0 : Int).toNat)) = es.take (mi (es.length : Int) (40 : Int)).toNat := by simp
 have hfl : (es.filter p).length ≤ 200 := Nat.le_trans (List.length_filter_le _ _) hlen
 have := lp_upto (body := L10_1 n es S (es.filter p) (M : Int) (L.length : Int)) (es.take (mi (es.length : Int) (40 : Int)).toNat).length (fun (_ : Unit) (v : Int) => v) (fun _ _ => ()) (fun _ => Sum.inr ()) (fun _ _ => True) (fun s k hk _ => ?_) (fun s _ => ?_) (n := n) (s := ()) trivial (by rw [List.length_take]; omega)
 ·exact this.1
 ·refine ⟨?_, trivial⟩
  have hkl : k < es.length := by rw [List.length_take] at hk; omega
  obtain ⟨a, b, he, hab, hb⟩ := hok.mem es[k] (List.getElem_mem hkl)
  have hek : es[k]? = some ((a : Int), (b : Int)) := by rw [List.getElem?_eq_getElem hkl, he]
  have hin : ((a : Int), (b : Int)) ∈ es := List.mem_of_getElem? hek
  have hprek : (es.take (mi (es.length : Int) (40 : Int)).toNat)[k]? = some ((a : Int), (b : Int)) := by
   rw [List.getElem?_take, if_pos (by rw [List.length_take] at hk; omega)]; exact hek
  have e26 : F26 n es = some es := by unfold F26; rw [lim_of (by omega), gd_t]
  have e49 : F49 n es (k : Int) ((k + 1 : Nat) : Int) = some (es.take k ++ es.drop (k + 1)) := by
   unfold F49
   rw [show okB (k : Int) ((k + 1 : Nat) : Int) es.length = true from okB_of ⟨by omega, by omega, by omega⟩, gd_t, decide_eq_true (by omega), gd_t, lim_of (by omega), gd_t]
   rfl
  have e48 := F48_eq n (es.filter p) (a : Int) (b : Int) (by omega) (by omega)
  have hg' := okG_less hg hek
  have hl := lesse_of hok hg hek
  have hok' : Okay M (es.take k ++ es.drop (k + 1)) := okG_of (okay_of hg')
  obtain ⟨L', e25, hL'⟩ := F25_ok n hok' hg' hS hn
  have hmem : decide (((a : Int), (b : Int)) ∈ es.filter p) = p ((a : Int), (b : Int)) := by
   cases hpe : p ((a : Int), (b : Int)) with
   | true => exact decide_eq_true (List.mem_filter.2 ⟨hin, hpe⟩)
   | false => exact decide_eq_false fun h => by rw [(List.mem_filter.1 h).2] at hpe; cases hpe
  have hbr := hp _ hin
  simp only [IsBr, Int.toNat_natCast] at hbr
  unfold L10_1
  simp only [hpre, Int.toNat_natCast, hprek, ob_s, inB_nat hk, gd_t, wrap_succ (show k < 4611686018427387904 by omega), e26, e49, e48, hmem, bit_at hS64 (show a ≤ 64 by omega), bit_at hS64 (show b ≤ 64 by omega), decide_eq_true (show (0 : Int) ≤ (a : Int) by omega), decide_eq_true (show (0 : Int) ≤ (b : Int) by omega), e25, decide_lt]
  rw [br_dt (by omega)]
  cases ha' : S.testBit a with
  | false =>
   have : p ((a : Int), (b : Int)) = false := by
    cases hpe : p ((a : Int), (b : Int)) with
    | false => rfl
    | true => have := (hbr.1 hpe).1; rw [ha'] at this; cases this
   simp only [br_f, ob_s, this, beq_self_eq_true, Bool.not_true]
  | true =>
   cases hb' : S.testBit b with
   | false =>
    have : p ((a : Int), (b : Int)) = false := by
     cases hpe : p ((a : Int), (b : Int)) with
     | false => rfl
     | true => have := (hbr.1 hpe).2.1; rw [hb'] at this; cases this
    simp only [br_t, br_f, ob_s, this, beq_self_eq_true, Bool.not_true]
   | true =>
    have hc := edge_count hS64 hl (.inl hin) ha' hb' hL hL'
    have : decide (L.length < L'.length) = p ((a : Int), (b : Int)) := by
     cases hpe : p ((a : Int), (b : Int)) with
     | false => exact decide_eq_false fun h => by rw [hbr.2 ⟨ha', hb', hc.1 h⟩] at hpe; cases hpe
     | true => exact decide_eq_true (hc.2 (hbr.1 hpe).2.2)
    simp only [br_t, br_f, ob_s, this, beq_self_eq_true, Bool.not_true]
 ·unfold L10_1
  rw [hpre, br_df (by omega)]
theorem L10_2_eq (n : Nat) (hok : Okay M es) (hg : okG (M : Int) es = true) (hS : S < 2 ^ M) (hn : 300 < n) {C : Nat} (hC : C < 2 ^ 64) (hcut : ∀ v, C.testBit v = true ↔ S.testBit v = true ∧ Cut (Ad es S) v) {L : List Nat} (hL : Cs es S S L) :
  lpN (L10_2 n (M : Int) S es C (L.length : Int)) n 0 = some (.inr ()) := by
 have hM := hok.le
 have hS64 := lt64 hS hM
 have hmi : mi (M : Int) (24 : Int) = ((min M 24 : Nat) : Int) := by unfold mi; split <;> omega
 have := lp_upto (body := L10_2 n (M : Int) S es C (L.length : Int)) (min M 24) (fun (_ : Unit) (v : Int) => v) (fun _ _ => ()) (fun _ => Sum.inr ()) (fun _ _ => True) (fun s k hk _ => ?_) (fun s _ => ?_) (n := n) (s := ()) trivial (by omega)
 ·exact this.1
 ·refine ⟨?_, trivial⟩
  have hk64 : k < 64 := by omega
  have hl := less_andn hS64 hk64
  have hS' : uandn .u64 S (2 ^ k) < 2 ^ M := Nat.lt_pow_two_of_testBit _ fun i hi => by
   cases e : (uandn .u64 S (2 ^ k)).testBit i with
   | false => rfl
   | true =>
    have := tb_ltN hS ((hl i).1 e).1
    omega
  obtain ⟨L', e25, hL'⟩ := F25_ok n hok hg hS' hn
  unfold L10_2
  simp only [hmi, Int.toNat_natCast, ob_s, gd_t, wrap_succ (show k < 4611686018427387904 by omega), bit_at hS64 (show k ≤ 64 by omega), bit_at hC (show k ≤ 64 by omega), decide_eq_true (show (0 : Int) ≤ (k : Int) by omega), word_one hk64, e25, decide_lt]
  rw [br_dt (by omega)]
  cases hk' : S.testBit k with
  | false =>
   have : C.testBit k = false := by
    cases e : C.testBit k with
    | false => rfl
    | true => have := ((hcut k).1 e).1; rw [hk'] at this; cases this
   simp only [br_f, ob_s, this, beq_self_eq_true, Bool.not_true]
  | true =>
   have hc := node_count hok hS64 hl hk' hL hL'
   have : decide (L.length < L'.length) = C.testBit k := by
    cases e : C.testBit k with
    | false => exact decide_eq_false fun h => by rw [(hcut k).2 ⟨hk', hc.1 h⟩] at e; cases e
    | true => exact decide_eq_true (hc.2 ((hcut k).1 e).2)
   simp only [br_t, br_f, ob_s, this, beq_self_eq_true, Bool.not_true]
 ·unfold L10_2
  rw [hmi, br_df (by omega)]
theorem L10_3_body (n x : Nat) (gs : List (Int × List (Int × Int))) (k M : Nat) (es : List (Int × Int)) (hx : x < 2 ^ 64) (hk : gs[k]? = some ((M : Int), es)) (hg : okG (M : Int) es = true) (h : Okay M es) (hn : 300 < n) (hk3 : k < 3) : L10_3 n gs x (k : Int) = some (.inl ((k + 1 : Nat) : Int)) := by
 have hM := h.le
 have hlen := h.len
 have hlt : k < gs.length := (List.getElem?_eq_some_iff.1 hk).1
 obtain ⟨e1, hy⟩ := masked hM hx
 have hy64 := lt64 hy hM
 obtain ⟨p, b1, b2⟩ := F18_ok n h hg hy (by omega)
 obtain ⟨C, c1, c2, c3⟩ := F19_ok n h hg hy (by omega)
 obtain ⟨L, d1, d2⟩ := F25_ok n h hg hy hn
 have f1 := L10_1_eq n h hg hy hn b2 d2
 have f2 := L10_2_eq n h hg hy hn c2 c3 d2
 have hz : uandn .u64 C (x % 2 ^ M) = 0 := word_zero.2 fun i => by
  rw [tb_andn c2 hy64]
  cases e : C.testBit i with
  | false => rfl
  | true => rw [((c3 i).1 e).1]; rfl
 have hok0 : okB 0 (mi (es.length : Int) (40 : Int)) es.length = true := okB_of (by unfold mi; split <;> omega)
 unfold L10_3
 simp only [Int.toNat_natCast, hk, ob_s, inB_nat hlt, gd_t, decide_eq_true (show (0 : Int) ≤ (M : Int) by omega), e1, b1, c1, d1, decide_true, Bool.not_true, br_f, hz, hok0, f1, f2, wrap_succ (show k < 4611686018427387904 by omega)]
 rw [br_dt (by omega)]
theorem F10_true (n x1 x2 x3 : Nat) (l4 : List (Nat × Nat)) (x8 x9 : Nat) (x10 x11 x12 : Int) (x13 x14 : Nat) (x15 x16 x17 : Int) (x18 : Nat) (h9 : x9 < 256) (h14 : x14 < 256) (h18 : x18 < 2 ^ 64) (hn : 300 < n) :
  F10 n x1 x2 x3 l4 x8 x9 x10 x11 x12 x13 x14 x15 x16 x17 x18 = some true := by
 obtain ⟨gs, h1, h2, h3⟩ := F41_eq n x1 x2 x3 l4 x8 x9 x10 x11 x12 x13 x14 x15 x16 x17 h9 h14 hn
 have hlp := lp_list0 (body := L10_3 n gs x18) gs (fun (_ : Unit) (v : Int) => v) (fun _ _ => ()) (fun _ => Sum.inr ()) (fun _ _ => True) (fun s k g hg _ => ?_) (fun s _ => ?_) (n := n) (s := ()) trivial (by omega)
 ·unfold F10 F13
  rw [ob_s, Bool.not_true, br_f, h1, ob_s]
  simp only [hlp.1, ob_s]
 ·have hk : k < gs.length := (List.getElem?_eq_some_iff.1 hg).1
  obtain ⟨hok, M, hM, h⟩ := h3 g (List.mem_of_getElem? hg)
  obtain ⟨N, es⟩ := g
  simp only at hok hM h
  subst hM
  exact ⟨L10_3_body n x18 gs k M es h18 hg hok h hn (by omega), trivial⟩
 ·unfold L10_3
  rw [br_df (by omega)]
end
end Go.Proofs.YtpclggcpobakhaaDoor
end
