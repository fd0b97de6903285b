/- Texts of the abstract machine and of the walks, joined: S18W12 S18P S18P2 S18P3 AbsWord S18G S18M S18N S18O S18R S18G2 S18G3 S18S S18Pop S18T S18U S18B S18V. -/
import Derived.Test.YtpclggcpobakhaaDoorGs5
section
namespace Go.Proofs.YtpclggcpobakhaaDoor.W12
open Go Go.Ab Go.Ab.W Go.Proofs.YtpclggcpobakhaaDoor Go.Proofs.YtpclggcpobakhaaDoor.W0
set_option maxRecDepth 10000
set_option maxHeartbeats 4000000
attribute [local irreducible] Tm.at Trie.set Trie.get AMem.get AMem.set AMem.alloc AMem.ww AMem.kill
theorem f12_ok (n : Nat) (x1 : Nat) (x2 : Nat) (x3 : Nat) (l4 : List (Nat × Nat)) (x8 : Nat) (x9 : Nat) (x10 : Int) (x11 : Int) (x12 : Int) (x13 : Nat) (x14 : Nat) (x15 : Int) (x16 : Int) (x17 : Int) (x18 : Nat) (a5 : Option Addr) (c6 : Nat) (r : Bool) (hF : F12 n x1 x2 x3 l4 x8 x9 x10 x11 x12 x13 x14 x15 x16 x17 x18 = some r) (m : AMem) (hG : Gl m) (h7 : Rd m a5 c6 2 l4.length (l4.map (eP (eN .u8) (eN .u8)))) :
  CallA E18w 12 [.agg #[.int .u8 ((x1 : Nat) : Int), .int .u8 ((x2 : Nat) : Int), .int .u16 ((x3 : Nat) : Int), .slice a5 l4.length c6], .agg #[.int .u8 ((x8 : Nat) : Int), .int .u8 ((x9 : Nat) : Int), .int .i64 x10, .int .i64 x11, .int .i64 x12, .int .u8 ((x13 : Nat) : Int), .int .u8 ((x14 : Nat) : Int), .int .i64 x15, .int .i64 x16, .int .i64 x17], .int .u64 ((x18 : Nat) : Int)] m (fun v m' => ∃ x : Unit, v = .bool r ∧ Hp m m' []) := by
 unfold F12 at hF
 refine call_wk (m0 := m) (ps := [.rd a5 c6 2 l4.length (l4.map (eP (eN .u8) (eN .u8)))]) (N := 258) (rs := [.tmp 6]) rfl Tryd.func12 rfl rfl rfl ((Hp.start m).inn rfl h7) ?_
 refine Wk.seq <| Wk.region <| Wo.x (o_bx rfl) gn rfl fun b19 => ?_
 refine Wo.x (o_bx rfl) gn rfl fun b20 => ?_
 refine Wo.od (o_as rfl) rfl ?_
 refine Wo.nil <| At.tn <| Wk.seq <| Wk.seq <| Wk.region ?_
 obtain ⟨r22, h21, hF⟩ := ob_some hF
 refine Wo.x (o_cl rfl rfl (fun m hm => f13_ok n   _ h21 m (hG.ext hm.ext) ) fun _ => rfl) gn rfl ?_
 rintro ⟨⟩
 refine Wo.od (o_un rfl rfl) rfl ?_
 refine Wo.nil <| At.tn ?_
 rcases br_some hF with ⟨h23, hF⟩ | ⟨h23, hF⟩
 ·refine Wk.condT rfl h23 ?_
  refine Wk.seq <| Wk.region <| Wo.od (o_as rfl) rfl ?_
  refine Wo.nil <| At.tn <| Wk.ret <| At.tr ?_
  cases hF
  exact At.ret (.tmp rfl .nil) fun m' hm => ⟨(), rfl, (Turn.picks [] rfl rfl) m' hm⟩
 ·refine Wk.condF rfl h23 ?_
  refine Wk.skip <| At.tn <| Wk.seq <| Wk.seq <| Wk.region <| Wo.od (o_ld (k := 1) t55 rfl rfl rfl) rfl ?_
  refine Wo.od (o_ld (k := 0) t58 rfl rfl rfl) rfl ?_
  obtain ⟨l24, h25, hF⟩ := ob_some hF
  refine Wo.gs rfl rfl (fun m hm => f41_ok n x1 x2 x3 l4 x8 x9 x10 x11 x12 x13 x14 x15 x16 x17 a5 c6 _ h25 m (hm.rd (k := 2) rfl (.rd _ _ _ _ _))) rfl ?_
  intro m27 a26 h28 h29
  have hG := hG.ext h28
  refine Wo.od (o_lng u27 rfl h29) rfl ?_
  refine Wo.od (o_mv rfl) rfl ?_
  refine Wo.nil <| At.tn <| Wk.block ?_
  obtain ⟨r2566, h2565, hF⟩ := ob_some hF
  refine Wk.cut (G := (fun (r : (Unit) ⊕ (Unit)) (g : Unit) => match r, g with | .inl _, _ => ⟨.ret, [(6, .bool false)], []⟩ | .inr _, _ => ⟨(.exit 0), [], []⟩) r2566) ?_ ?_
  ·refine Wk.weak (fs' := [(2, .int .u64 ((x18 : Nat) : Int)), (36, .slice a26 l24.length l24.length), (37, .int .i64 (l24.length : Int)), (38, .int .i64 0)]) (ps' := []) (sc rfl (sc rfl (sc rfl (sc rfl sn)))) (Turn.picks [] rfl rfl) ?_
   refine Wk.loop (σ := Int) (ρ := (Unit) ⊕ (Unit)) (γ := Unit) (δ := fun _ => Unit) _ (fun (s : Int) (g : Unit) => match s, g with | v31, _ => ⟨.normal, [(2, .int .u64 ((x18 : Nat) : Int)), (36, .slice a26 l24.length l24.length), (37, .int .i64 (l24.length : Int)), (38, .int .i64 v31)], []⟩) (fun (r : (Unit) ⊕ (Unit)) (g : Unit) => match r, g with | .inl _, _ => ⟨.ret, [(6, .bool false)], []⟩ | .inr _, _ => ⟨(.exit 0), [], []⟩) ?_ (fun _ _ => rfl) (fun r d => by rcases r with _ | _ <;> (intro e; cases e)) _ _ _ h2565 ()
   clear hF h2565
   rintro v31 ⟨⟩ r hF
   unfold L12_6 at hF
   refine Wk.seq <| Wk.region <| Wo.od (o_bi rfl rfl (bin_lss _ _ _)) rfl ?_
   refine Wo.nil <| At.tn <| Wk.seq ?_
   rcases br_some hF with ⟨h1324, hF⟩ | ⟨h1324, hF⟩
   ·refine Wk.condT rfl h1324 ?_
    refine Wk.skip <| At.tn <| Wk.seq ?_
    obtain ⟨r2564, h2563, hF⟩ := ob_some hF
    refine Wk.cut (G := (fun (r : (Unit) ⊕ (Unit)) (g : Unit) => match r, g with | .inl _, _ => ⟨.ret, [(6, .bool false)], []⟩ | .inr _, _ => ⟨.normal, [(2, .int .u64 ((x18 : Nat) : Int)), (36, .slice a26 l24.length l24.length), (37, .int .i64 (l24.length : Int)), (38, .int .i64 v31)], []⟩) r2564) ?_ ?_
    ·clear hF
     revert r2564
     intro r hF
     refine Wk.block <| Wk.seq <| Wk.region ?_
     obtain ⟨h1944, hF⟩ := gd_some hF
     replace h1944 := inB_some h1944
     refine Wo.og (o_ixg s27 rfl rfl h29 h1944) gn rfl ?_
     obtain ⟨⟨x1945, l1946⟩, h1947, hF⟩ := ob_some hF
     refine Wo.x (o_ldg t25 rfl h29 h1947) gn rfl ?_
     rintro ⟨a1948, c1949⟩
     refine Wo.x (o_al z25 rfl) gn rfl fun b1950 => ?_
     refine Wo.o0 (o_st (k := 0) t25 rfl rfl rfl rfl rfl) ?_
     refine Wo.nil <| At.tn <| Wk.seq <| Wk.region <| Wo.od (o_fa (r := ptr b1950 0) rfl (fa25_0 _ _)) rfl ?_
     refine Wo.od (o_ld (k := 0) t3 rfl rfl rfl) rfl ?_
     obtain ⟨h1951, hF⟩ := gd_some hF
     refine Wo.od (o_bi rfl rfl (ub_shl rfl _ _ h1951)) rfl ?_
     refine Wo.od (o_bi rfl rfl (ub_sub rfl _ _)) rfl ?_
     refine Wo.od (o_as rfl) rfl ?_
     refine Wo.nil <| At.tn <| Wk.seq <| Wk.draw (by kernel_rfl) ?_
     refine Wo.od (o_fa (r := ptr b1950 0) rfl (fa25_0 _ _)) rfl ?_
     refine Wo.od (o_ld (k := 0) t3 rfl rfl rfl) rfl ?_
     obtain ⟨h1952, hF⟩ := gd_some hF
     obtain ⟨h1953, hF⟩ := gd_some hF
     refine Wo.x (o_msl (f := eI .i64) (z0 := 0) s39 rfl h1952 h1953 z3 rfl rfl) gn rfl fun b1954 => ?_
     refine Wo.od (o_fa (r := ptr b1950 0) rfl (fa25_0 _ _)) rfl ?_
     refine Wo.od (o_ld (k := 1) t3 rfl rfl rfl) rfl ?_
     obtain ⟨h1955, hF⟩ := gd_some hF
     obtain ⟨h1956, hF⟩ := gd_some hF
     refine Wo.x (o_msl (f := eI .i64) (z0 := 0) s39 rfl h1955 h1956 z3 rfl rfl) gn rfl fun b1957 => ?_
     refine Wo.od (o_as rfl) rfl ?_
     refine Wo.od (o_as rfl) rfl ?_
     refine Wo.nil <| At.tn <| Wk.seq <| Wk.region <| Wo.od (o_ld (k := 2) t25 rfl rfl rfl) rfl ?_
     refine Wo.od (o_mv rfl) rfl ?_
     obtain ⟨⟨l1959, r1962⟩, h1958, hF⟩ := ob_some hF
     refine Wo.x (o_cl rfl rfl (fun m hm => f17_ok n x1945 l1946 (usub .u64 (ushl .u64 1 x1945.toNat) 1) a1948 c1949 _ h1958 m (hG.ext hm.ext) (hm.rd (k := 3) rfl (.rd _ _ _ _ _))) fun _ => rfl) gn rfl ?_
     rintro ⟨a1960, n1961⟩
     refine Wo.len (k := 0) (xs := l1959) rfl ?_
     rintro rfl
     refine Wo.od (o_mv rfl) rfl ?_
     refine Wo.od (o_ex rfl rfl) rfl ?_
     refine Wo.od (o_ex rfl rfl) rfl ?_
     refine Wo.od (o_as rfl) rfl ?_
     refine Wo.od (o_as rfl) rfl ?_
     refine Wo.nil <| At.tn <| Wk.seq <| Wk.seq <| Wk.region <| Wo.od (o_mv rfl) rfl ?_
     refine Wo.od (o_bi rfl rfl (ib_neq _ _)) rfl ?_
     refine Wo.nil <| At.tn ?_
     rcases br_some hF with ⟨h1963, hF⟩ | ⟨h1963, hF⟩
     ·refine Wk.condT rfl h1963 ?_
      refine Wk.seq <| Wk.region <| Wo.od (o_as rfl) rfl ?_
      refine Wo.nil <| At.tn <| Wk.ret <| At.tr <| At.br ?_
      cases hF
      exact At.en () rfl (sc rfl sn) (Turn.picks [] rfl rfl)
     ·refine Wk.condF rfl h1963 ?_
      refine Wk.skip <| At.tn <| Wk.seq <| Wk.seq <| Wk.region <| Wo.od (o_mv rfl) rfl ?_
      refine Wo.od (o_ln (k := 2) u39 rfl rfl (.inl rfl)) rfl ?_
      refine Wo.od (o_mv rfl) rfl ?_
      refine Wo.nil <| At.tn <| Wk.block ?_
      obtain ⟨r2194, h2193, hF⟩ := ob_some hF
      refine Wk.cut (G := (fun (r : List (Int) × List (Int)) (g : Unit) => match r, g with | (l2118, l2119), _ => ⟨(.exit 2), [(2, .int .u64 ((x18 : Nat) : Int)), (8, ptr b1950 0), (9, .int .u64 ((usub .u64 (ushl .u64 1 x1945.toNat) 1 : Nat) : Int)), (10, .slice (some ⟨b1954, 0, none⟩) x1945.toNat x1945.toNat), (11, .slice (some ⟨b1957, 0, none⟩) x1945.toNat x1945.toNat), (12, .slice a1960 l1959.length l1959.length), (36, .slice a26 l24.length l24.length), (37, .int .i64 (l24.length : Int)), (38, .int .i64 v31)], [.obj b1950 (.cells [.int .i64 x1945, .slice a1948 l1946.length c1949] .own), .rd a1948 c1949 2 l1946.length (l1946.map (eP (eI .i64) (eI .i64))), .arr b1954 1 x1945.toNat (l2118.map (eI .i64)) .own, .arr b1957 1 x1945.toNat (l2119.map (eI .i64)) .own, .sl a1960 1 l1959.length (l1959.map (eN .u64))]⟩) r2194) ?_ ?_
      ·refine Wk.weak (fs' := [(2, .int .u64 ((x18 : Nat) : Int)), (8, ptr b1950 0), (9, .int .u64 ((usub .u64 (ushl .u64 1 x1945.toNat) 1 : Nat) : Int)), (10, .slice (some ⟨b1954, 0, none⟩) x1945.toNat x1945.toNat), (11, .slice (some ⟨b1957, 0, none⟩) x1945.toNat x1945.toNat), (12, .slice a1960 l1959.length l1959.length), (36, .slice a26 l24.length l24.length), (37, .int .i64 (l24.length : Int)), (38, .int .i64 v31), (61, .int .i64 (x1945.toNat : Int)), (62, .int .i64 0)]) (ps' := [.obj b1950 (.cells [.int .i64 x1945, .slice a1948 l1946.length c1949] .own), .rd a1948 c1949 2 l1946.length (l1946.map (eP (eI .i64) (eI .i64))), .arr b1954 1 x1945.toNat ((List.replicate x1945.toNat 0).map (eI .i64)) .own, .arr b1957 1 x1945.toNat ((List.replicate x1945.toNat 0).map (eI .i64)) .own, .sl a1960 1 l1959.length (l1959.map (eN .u64))]) (sc rfl (sc rfl (sc rfl (sc rfl (sc rfl (sc rfl (sc rfl (sc rfl (sc rfl (sc rfl (sc rfl sn))))))))))) (Turn.picks [3, 4, 2, 1, 0] rfl rfl) ?_
       refine Wk.loop (σ := List (Int) × List (Int) × Int) (ρ := List (Int) × List (Int)) (γ := Unit) (δ := fun _ => Unit) _ (fun (s : List (Int) × List (Int) × Int) (g : Unit) => match s, g with | (l2039, l2040, v2041), _ => ⟨.normal, [(2, .int .u64 ((x18 : Nat) : Int)), (8, ptr b1950 0), (9, .int .u64 ((usub .u64 (ushl .u64 1 x1945.toNat) 1 : Nat) : Int)), (10, .slice (some ⟨b1954, 0, none⟩) x1945.toNat x1945.toNat), (11, .slice (some ⟨b1957, 0, none⟩) x1945.toNat x1945.toNat), (12, .slice a1960 l1959.length l1959.length), (36, .slice a26 l24.length l24.length), (37, .int .i64 (l24.length : Int)), (38, .int .i64 v31), (61, .int .i64 (x1945.toNat : Int)), (62, .int .i64 v2041)], [.obj b1950 (.cells [.int .i64 x1945, .slice a1948 l1946.length c1949] .own), .rd a1948 c1949 2 l1946.length (l1946.map (eP (eI .i64) (eI .i64))), .arr b1954 1 x1945.toNat (l2039.map (eI .i64)) .own, .arr b1957 1 x1945.toNat (l2040.map (eI .i64)) .own, .sl a1960 1 l1959.length (l1959.map (eN .u64))]⟩) (fun (r : List (Int) × List (Int)) (g : Unit) => match r, g with | (l2118, l2119), _ => ⟨(.exit 2), [(2, .int .u64 ((x18 : Nat) : Int)), (8, ptr b1950 0), (9, .int .u64 ((usub .u64 (ushl .u64 1 x1945.toNat) 1 : Nat) : Int)), (10, .slice (some ⟨b1954, 0, none⟩) x1945.toNat x1945.toNat), (11, .slice (some ⟨b1957, 0, none⟩) x1945.toNat x1945.toNat), (12, .slice a1960 l1959.length l1959.length), (36, .slice a26 l24.length l24.length), (37, .int .i64 (l24.length : Int)), (38, .int .i64 v31)], [.obj b1950 (.cells [.int .i64 x1945, .slice a1948 l1946.length c1949] .own), .rd a1948 c1949 2 l1946.length (l1946.map (eP (eI .i64) (eI .i64))), .arr b1954 1 x1945.toNat (l2118.map (eI .i64)) .own, .arr b1957 1 x1945.toNat (l2119.map (eI .i64)) .own, .sl a1960 1 l1959.length (l1959.map (eN .u64))]⟩) ?_ (fun _ _ => rfl) (fun r d => by intro e; cases e) _ _ _ h2193 ()
       clear hF h2193
       rintro ⟨l2039, l2040, v2041⟩ ⟨⟩ r hF
       unfold L12_2 at hF
       refine Wk.seq <| Wk.region <| Wo.od (o_bi rfl rfl (bin_lss _ _ _)) rfl ?_
       refine Wo.nil <| At.tn <| Wk.seq ?_
       rcases br_some hF with ⟨h2120, hF⟩ | ⟨h2120, hF⟩
       ·refine Wk.condT rfl h2120 ?_
        refine Wk.skip <| At.tn <| Wk.seq <| Wk.block <| Wk.seq <| Wk.region <| Wo.od (o_mv rfl) rfl ?_
        refine Wo.x (o_al z3 rfl) gn rfl fun b2121 => ?_
        refine Wo.o0 (o_st (k := 0) t3 rfl rfl rfl rfl rfl) ?_
        refine Wo.nil <| At.tn <| Wk.seq <| Wk.region <| Wo.od (o_mv rfl) rfl ?_
        refine Wo.od (o_ld (k := 0) t3 rfl rfl rfl) rfl ?_
        refine Wo.od (o_ld (k := 0) t3 rfl rfl rfl) rfl ?_
        obtain ⟨h2122, hF⟩ := gd_some hF
        replace h2122 := inB_some h2122
        refine Wo.og (o_ixa s39 rfl rfl h2122) gn rfl ?_
        obtain ⟨x2123, h2124, hF⟩ := ob_some hF
        refine Wo.o0 (o_stl (k := 3) (x1 := x2123) (x2 := v2041) t3 rfl rfl rfl h2124 rfl) ?_
        refine Wo.nil <| At.tn <| Wk.drawc (prs := [(1, 4)]) (by kernel_rfl) ?_
        refine Wn.od (o_mv rfl) rfl ?_
        refine Wn.od (o_ld (k := 0) t3 rfl rfl rfl) rfl ?_
        refine Wn.od (o_mv rfl) rfl ?_
        refine Wn.od (o_mf rfl rfl) rfl ?_
        obtain ⟨v2156, h2188, hF⟩ := ob_some hF
        refine Wn.c (o_ce rfl rfl (fun m hm => W52.f52_use n l1959 v2041 a1960 l1959.length b2121 _ h2188 m (hm.rd (k := 5) rfl (.sl _ _ _ _)) (hm.rdo (k := 0) (xs := [v2041]) (f := eI .i64) rfl rfl rfl rfl (enI .i64))) fun _ => rfl) gn rfl ?_
        clear h2188
        rintro ⟨⟩
        refine Wn.turn (Turn.picks [1, 2, 3, 4, 5] rfl rfl) ?_
        obtain ⟨h2189, hF⟩ := gd_some hF
        replace h2189 := inB_some h2189
        refine Wn.og (o_ixa s39 rfl rfl h2189) gn rfl ?_
        obtain ⟨x2190, h2191, hF⟩ := ob_some hF
        refine Wn.o0 (o_stl (k := 3) (x1 := x2190) (x2 := v2156) t3 rfl rfl rfl h2191 rfl) ?_
        refine Wn.nil (fun m hm => OkP.all rfl) ?_
        refine At.bn <| At.tn <| Wk.region <| Wo.od (o_bi rfl rfl (bin_add _ _ _)) rfl ?_
        refine Wo.od (o_mv rfl) rfl ?_
        refine Wo.nil ?_
        cases hF
        exact At.en () rfl (sc rfl (sc rfl (sc rfl (sc rfl (sc rfl (sc rfl (sc rfl (sc rfl (sc rfl (sc rfl (sc rfl sn))))))))))) (Turn.picks [0, 1, 2, 3, 4] rfl rfl)
       ·refine Wk.condF rfl h2120 ?_
        refine Wk.exit <| At.te ?_
        cases hF
        exact At.en () rfl (sc rfl (sc rfl (sc rfl (sc rfl (sc rfl (sc rfl (sc rfl (sc rfl (sc rfl sn))))))))) (Turn.picks [0, 1, 2, 3, 4] rfl rfl)
      ·clear h2193
       obtain ⟨l2118, l2119⟩ := r2194
       rintro ⟨⟩
       refine At.be <| At.tn <| Wk.seq <| Wk.region <| Wo.od (o_ld (k := 0) t25 rfl rfl rfl) rfl ?_
       refine Wo.od (o_mv rfl) rfl ?_
       obtain ⟨⟨r2196, l2197, r2200⟩, h2195, hF⟩ := ob_some hF
       refine Wo.lenA (k := 2) (xs := l2118) rfl ?_
       intro hll2118
       refine Wo.x (o_cl rfl rfl (fun m hm => f22_at n x1945 l1946 l2118 a1948 c1949 (some ⟨b1954, 0, none⟩) x1945.toNat _ hll2118 _ h2195 m (hm.rd (k := 1) rfl (.rd _ _ _ _ _)) (hm.rd (k := 2) rfl (.arr _ _ _ _ _))) fun _ => rfl) gn rfl ?_
       rintro ⟨a2198, n2199⟩
       refine Wo.len (k := 0) (xs := l2197) rfl ?_
       rintro rfl
       refine Wo.od (o_mv rfl) rfl ?_
       refine Wo.od (o_ex rfl rfl) rfl ?_
       refine Wo.od (o_ex rfl rfl) rfl ?_
       refine Wo.x (o_al z25 rfl) gn rfl fun b2201 => ?_
       refine Wo.o0 (o_st (k := 0) t25 rfl rfl rfl rfl rfl) ?_
       refine Wo.od (o_as rfl) rfl ?_
       refine Wo.nil <| At.tn <| Wk.seq <| Wk.region <| Wo.od (o_ld (k := 2) t25 rfl rfl rfl) rfl ?_
       refine Wo.od (o_mv rfl) rfl ?_
       obtain ⟨⟨r2203, l2204, r2207⟩, h2202, hF⟩ := ob_some hF
       refine Wo.lenA (k := 5) (xs := l2119) rfl ?_
       intro hll2119
       refine Wo.x (o_cl rfl rfl (fun m hm => f22_at n x1945 l1946 l2119 a1948 c1949 (some ⟨b1957, 0, none⟩) x1945.toNat _ hll2119 _ h2202 m (hm.rd (k := 3) rfl (.rd _ _ _ _ _)) (hm.rd (k := 5) rfl (.arr _ _ _ _ _))) fun _ => rfl) gn rfl ?_
       rintro ⟨a2205, n2206⟩
       refine Wo.len (k := 0) (xs := l2204) rfl ?_
       rintro rfl
       refine Wo.od (o_mv rfl) rfl ?_
       refine Wo.od (o_ex rfl rfl) rfl ?_
       refine Wo.od (o_ex rfl rfl) rfl ?_
       refine Wo.x (o_al z25 rfl) gn rfl fun b2208 => ?_
       refine Wo.o0 (o_st (k := 0) t25 rfl rfl rfl rfl rfl) ?_
       refine Wo.od (o_as rfl) rfl ?_
       refine Wo.nil <| At.tn <| Wk.seq <| Wk.seq ?_
       obtain ⟨v2231, h2238, hF⟩ := ob_some hF
       refine Wk.cut (G := (fun (r : Bool) (g : Unit) => match r, g with | v2231, _ => ⟨.normal, [(2, .int .u64 ((x18 : Nat) : Int)), (8, ptr b1950 0), (9, .int .u64 ((usub .u64 (ushl .u64 1 x1945.toNat) 1 : Nat) : Int)), (36, .slice a26 l24.length l24.length), (37, .int .i64 (l24.length : Int)), (38, .int .i64 v31), (112, .bool v2231)], [.obj b1950 (.cells [.int .i64 x1945, .slice a1948 l1946.length c1949] .own), .rd a1948 c1949 2 l1946.length (l1946.map (eP (eI .i64) (eI .i64)))]⟩) v2231) ?_ ?_
       ·clear hF
        revert v2231
        intro r hF
        refine Wk.region <| Wo.od (o_mv rfl) rfl ?_
        refine Wo.od (o_bi rfl rfl (ib_neq _ _)) rfl ?_
        refine Wo.od (o_mv rfl) rfl ?_
        rcases br_some hF with ⟨h2232, hF⟩ | ⟨h2232, hF⟩
        ·refine Wo.s (gg rfl rfl (eTF h2232)) rfl ?_
         refine Wo.s (gg rfl rfl (eTF h2232)) rfl ?_
         refine Wo.od (o_pt rfl h2232 rfl) rfl ?_
         refine Wo.od (o_mv rfl) rfl ?_
         refine Wo.s (gg rfl rfl rfl) rfl ?_
         refine Wo.s (gg rfl rfl rfl) rfl ?_
         refine Wo.s (gg rfl rfl rfl) rfl ?_
         refine Wo.s (gg rfl rfl rfl) rfl ?_
         refine Wo.od (o_pT rfl rfl) rfl ?_
         refine Wo.od (o_mv rfl) rfl ?_
         refine Wo.s (gg rfl rfl rfl) rfl ?_
         refine Wo.s (gg rfl rfl rfl) rfl ?_
         refine Wo.s (gg rfl rfl rfl) rfl ?_
         refine Wo.s (gg rfl rfl rfl) rfl ?_
         refine Wo.s (gg rfl rfl rfl) rfl ?_
         refine Wo.od (o_pT rfl rfl) rfl ?_
         refine Wo.od (o_mv rfl) rfl ?_
         refine Wo.s (gg rfl rfl rfl) rfl ?_
         refine Wo.s (gg rfl rfl rfl) rfl ?_
         refine Wo.s (gg rfl rfl rfl) rfl ?_
         refine Wo.s (gg rfl rfl rfl) rfl ?_
         refine Wo.od (o_pT rfl rfl) rfl ?_
         refine Wo.nil ?_
         cases hF
         exact At.en () rfl (sc rfl (sc rfl (sc rfl (sc rfl (sc rfl (sc rfl (sc rfl sn))))))) (Turn.picks [4, 5] rfl rfl)
        ·refine Wo.og (o_mv rfl) (gg rfl rfl (eFF h2232)) rfl ?_
         refine Wo.og (o_bi rfl rfl (ib_neq _ _)) (gg rfl rfl (eFF h2232)) rfl ?_
         refine Wo.od (o_pf rfl h2232 rfl) rfl ?_
         refine Wo.od (o_mv rfl) rfl ?_
         rcases br_some hF with ⟨h2233, hF⟩ | ⟨h2233, hF⟩
         ·refine Wo.s (gg rfl rfl (eTF h2233)) rfl ?_
          refine Wo.s (gg rfl rfl (eTF h2233)) rfl ?_
          refine Wo.s (gg rfl rfl (eTF h2233)) rfl ?_
          refine Wo.s (gg rfl rfl (eTF h2233)) rfl ?_
          refine Wo.od (o_pt rfl h2233 rfl) rfl ?_
          refine Wo.od (o_mv rfl) rfl ?_
          refine Wo.s (gg rfl rfl rfl) rfl ?_
          refine Wo.s (gg rfl rfl rfl) rfl ?_
          refine Wo.s (gg rfl rfl rfl) rfl ?_
          refine Wo.s (gg rfl rfl rfl) rfl ?_
          refine Wo.s (gg rfl rfl rfl) rfl ?_
          refine Wo.od (o_pT rfl rfl) rfl ?_
          refine Wo.od (o_mv rfl) rfl ?_
          refine Wo.s (gg rfl rfl rfl) rfl ?_
          refine Wo.s (gg rfl rfl rfl) rfl ?_
          refine Wo.s (gg rfl rfl rfl) rfl ?_
          refine Wo.s (gg rfl rfl rfl) rfl ?_
          refine Wo.od (o_pT rfl rfl) rfl ?_
          refine Wo.nil ?_
          cases hF
          exact At.en () rfl (sc rfl (sc rfl (sc rfl (sc rfl (sc rfl (sc rfl (sc rfl sn))))))) (Turn.picks [4, 5] rfl rfl)
         ·refine Wo.og (o_ld (k := 4) t25 rfl rfl rfl) (gg rfl rfl (eFF h2233)) rfl ?_
          refine Wo.og (o_ld (k := 2) t25 rfl rfl rfl) (gg rfl rfl (eFF h2233)) rfl ?_
          obtain ⟨r2235, h2234, hF⟩ := ob_some hF
          refine Wo.x (o_cl rfl rfl (fun m hm => f27_ok n x1945 l1946 r2196 l2197 a1948 c1949 a2198 l2197.length _ h2234 m (hm.rd (k := 5) rfl (.rd _ _ _ _ _)) (hm.rd (k := 3) rfl (.sl _ _ _ _))) fun _ => rfl) (gg rfl rfl (eFF h2233)) rfl ?_
          rintro ⟨⟩
          refine Wo.og (o_un rfl rfl) (gg rfl rfl (eFF h2233)) rfl ?_
          refine Wo.od (o_pf rfl h2233 rfl) rfl ?_
          refine Wo.od (o_mv rfl) rfl ?_
          rcases br_some hF with ⟨h2236, hF⟩ | ⟨h2236, hF⟩
          ·refine Wo.s (gg rfl rfl (eTF h2236)) rfl ?_
           refine Wo.s (gg rfl rfl (eTF h2236)) rfl ?_
           refine Wo.s (gg rfl rfl (eTF h2236)) rfl ?_
           refine Wo.s (gg rfl rfl (eTF h2236)) rfl ?_
           refine Wo.s (gg rfl rfl (eTF h2236)) rfl ?_
           refine Wo.od (o_pt rfl h2236 rfl) rfl ?_
           refine Wo.od (o_mv rfl) rfl ?_
           refine Wo.s (gg rfl rfl rfl) rfl ?_
           refine Wo.s (gg rfl rfl rfl) rfl ?_
           refine Wo.s (gg rfl rfl rfl) rfl ?_
           refine Wo.s (gg rfl rfl rfl) rfl ?_
           refine Wo.od (o_pT rfl rfl) rfl ?_
           refine Wo.nil ?_
           cases hF
           exact At.en () rfl (sc rfl (sc rfl (sc rfl (sc rfl (sc rfl (sc rfl (sc rfl sn))))))) (Turn.picks [4, 5] rfl rfl)
          ·refine Wo.og (o_fa (r := ptr b2208 0) rfl (fa25_0 _ _)) (gg rfl rfl (eFF h2236)) rfl ?_
           refine Wo.og (o_ld (k := 0) t3 rfl rfl rfl) (gg rfl rfl (eFF h2236)) rfl ?_
           refine Wo.og (o_mv rfl) (gg rfl rfl (eFF h2236)) rfl ?_
           refine Wo.og (o_ln (k := 8) u36 rfl rfl (.inl rfl)) (gg rfl rfl (eFF h2236)) rfl ?_
           refine Wo.og (o_bi rfl rfl (ib_neq _ _)) (gg rfl rfl (eFF h2236)) rfl ?_
           refine Wo.od (o_pf rfl h2236 rfl) rfl ?_
           refine Wo.od (o_mv rfl) rfl ?_
           rcases br_some hF with ⟨h2237, hF⟩ | ⟨h2237, hF⟩
           ·refine Wo.s (gg rfl rfl (eTF h2237)) rfl ?_
            refine Wo.s (gg rfl rfl (eTF h2237)) rfl ?_
            refine Wo.s (gg rfl rfl (eTF h2237)) rfl ?_
            refine Wo.s (gg rfl rfl (eTF h2237)) rfl ?_
            refine Wo.od (o_pt rfl h2237 rfl) rfl ?_
            refine Wo.nil ?_
            cases hF
            exact At.en () rfl (sc rfl (sc rfl (sc rfl (sc rfl (sc rfl (sc rfl (sc rfl sn))))))) (Turn.picks [4, 5] rfl rfl)
           ·refine Wo.og (o_fa (r := ptr b2208 1) rfl (fa25_1 _ _)) (gg rfl rfl (eFF h2237)) rfl ?_
            refine Wo.og (o_ld (k := 0) t23 rfl rfl rfl) (gg rfl rfl (eFF h2237)) rfl ?_
            refine Wo.og (o_ln (k := 1) u23 rfl rfl (.inl rfl)) (gg rfl rfl (eFF h2237)) rfl ?_
            refine Wo.og (o_bi rfl rfl (ib_neq _ _)) (gg rfl rfl (eFF h2237)) rfl ?_
            refine Wo.od (o_pf rfl h2237 rfl) rfl ?_
            refine Wo.nil ?_
            cases hF
            exact At.en () rfl (sc rfl (sc rfl (sc rfl (sc rfl (sc rfl (sc rfl (sc rfl sn))))))) (Turn.picks [4, 5] rfl rfl)
       ·clear h2238
        rintro ⟨⟩
        refine At.tn ?_
        rcases br_some hF with ⟨h2240, hF⟩ | ⟨h2240, hF⟩
        ·refine Wk.condT rfl h2240 ?_
         refine Wk.seq <| Wk.region <| Wo.od (o_as rfl) rfl ?_
         refine Wo.nil <| At.tn <| Wk.ret <| At.tr <| At.br ?_
         cases hF
         exact At.en () rfl (sc rfl sn) (Turn.picks [] rfl rfl)
        ·refine Wk.condF rfl h2240 ?_
         refine Wk.skip <| At.tn <| Wk.seq <| Wk.region <| Wo.od (o_mv rfl) rfl ?_
         refine Wo.od (o_mv rfl) rfl ?_
         obtain ⟨y2241, h2242, hF⟩ := ob_some hF
         refine Wo.od (o_bi rfl rfl ((ub_and rfl _ _).trans (cN h2242))) rfl ?_
         refine Wo.od (o_as rfl) rfl ?_
         refine Wo.nil <| At.tn <| Wk.seq <| Wk.region <| Wo.od (o_ld (k := 0) t25 rfl rfl rfl) rfl ?_
         refine Wo.od (o_mv rfl) rfl ?_
         obtain ⟨⟨r2244, l2245, l2248, r2251⟩, h2243, hF⟩ := ob_some hF
         refine Wo.x (o_cl rfl rfl (fun m hm => f21_ok n x1945 l1946 y2241 a1948 c1949 _ h2243 m (hG.ext hm.ext) (hm.rd (k := 1) rfl (.rd _ _ _ _ _))) fun _ => rfl) gn rfl ?_
         rintro ⟨a2246, n2247, a2249, n2250⟩
         refine Wo.len (k := 0) (xs := l2245) rfl ?_
         rintro rfl
         refine Wo.len (k := 1) (xs := l2248) rfl ?_
         rintro rfl
         refine Wo.od (o_mv rfl) rfl ?_
         refine Wo.od (o_ex rfl rfl) rfl ?_
         refine Wo.od (o_ex rfl rfl) rfl ?_
         refine Wo.od (o_ex rfl rfl) rfl ?_
         refine Wo.x (o_al z25 rfl) gn rfl fun b2252 => ?_
         refine Wo.o0 (o_st (k := 0) t25 rfl rfl rfl rfl rfl) ?_
         refine Wo.od (o_as rfl) rfl ?_
         refine Wo.od (o_as rfl) rfl ?_
         refine Wo.nil <| At.tn <| Wk.seq <| Wk.seq <| Wk.region <| Wo.od (o_mv rfl) rfl ?_
         refine Wo.od (o_bi rfl rfl (ub_eql _ _)) rfl ?_
         refine Wo.nil <| At.tn ?_
         rcases br_some hF with ⟨h2253, hF⟩ | ⟨h2253, hF⟩
         ·refine Wk.condT rfl h2253 ?_
          refine Wk.seq <| Wk.seq <| Wk.region <| Wo.od (o_mv rfl) rfl ?_
          refine Wo.od (o_bi rfl rfl (ib_neq _ _)) rfl ?_
          refine Wo.nil <| At.tn ?_
          rcases br_some hF with ⟨h2254, hF⟩ | ⟨h2254, hF⟩
          ·refine Wk.condT rfl h2254 ?_
           refine Wk.seq <| Wk.region <| Wo.od (o_as rfl) rfl ?_
           refine Wo.nil <| At.tn <| Wk.ret <| At.tr <| At.tr <| At.br ?_
           cases hF
           exact At.en () rfl (sc rfl sn) (Turn.picks [] rfl rfl)
          ·refine Wk.condF rfl h2254 ?_
           refine Wk.skip <| At.tn <| Wk.exit <| At.te <| At.be ?_
           cases hF
           exact At.en () rfl (sc rfl (sc rfl (sc rfl (sc rfl sn)))) (Turn.picks [] rfl rfl)
         ·refine Wk.condF rfl h2253 ?_
          refine Wk.skip <| At.tn <| Wk.seq <| Wk.region <| Wo.od (o_ld (k := 3) t25 rfl rfl rfl) rfl ?_
          refine Wo.od (o_mv rfl) rfl ?_
          obtain ⟨⟨l2256, r2259⟩, h2255, hF⟩ := ob_some hF
          refine Wo.x (o_cl rfl rfl (fun m hm => f15_ok n x1945 l1946 y2241 a1948 c1949 _ h2255 m (hm.rd (k := 4) rfl (.rd _ _ _ _ _))) fun _ => rfl) gn rfl ?_
          rintro ⟨a2257, n2258⟩
          refine Wo.len (k := 0) (xs := l2256) rfl ?_
          rintro rfl
          refine Wo.od (o_mv rfl) rfl ?_
          refine Wo.od (o_ex rfl rfl) rfl ?_
          refine Wo.od (o_ex rfl rfl) rfl ?_
          refine Wo.od (o_as rfl) rfl ?_
          refine Wo.od (o_as rfl) rfl ?_
          refine Wo.nil <| At.tn <| Wk.seq <| Wk.region <| Wo.od (o_as rfl) rfl ?_
          refine Wo.nil <| At.tn <| Wk.seq <| Wk.seq <| Wk.region <| Wo.od (o_fa (r := ptr b1950 1) rfl (fa25_1 _ _)) rfl ?_
          refine Wo.od (o_ld (k := 4) t23 rfl rfl rfl) rfl ?_
          refine Wo.od (o_ln (k := 5) u23 rfl rfl (.inl rfl)) rfl ?_
          refine Wo.od (o_mv rfl) rfl ?_
          refine Wo.nil <| At.tn <| Wk.block ?_
          obtain ⟨v2304, h2343, hF⟩ := ob_some hF
          refine Wk.cut (G := (fun (r : Int) (g : Unit) => match r, g with | v2304, _ => ⟨(.exit 4), [(2, .int .u64 ((x18 : Nat) : Int)), (8, ptr b1950 0), (19, .int .u64 ((y2241 : Nat) : Int)), (20, ptr b2252 0), (21, .slice a2249 l2248.length l2248.length), (22, .int .i64 r2251), (23, .slice a2257 l2256.length l2256.length), (24, .int .i64 r2259), (25, .int .i64 v2304), (36, .slice a26 l24.length l24.length), (37, .int .i64 (l24.length : Int)), (38, .int .i64 v31)], [.obj b1950 (.cells [.int .i64 x1945, .slice a1948 l1946.length c1949] .own), .rd a1948 c1949 2 l1946.length (l1946.map (eP (eI .i64) (eI .i64))), .obj b2252 (.cells [.int .i64 r2244, .slice a2246 l2245.length l2245.length] .own), .sl a2246 2 l2245.length (l2245.map (eP (eI .i64) (eI .i64))), .sl a2249 1 l2248.length (l2248.map (eI .i64)), .sl a2257 2 l2256.length (l2256.map (eP (eI .i64) (eI .i64)))]⟩) v2304) ?_ ?_
          ·refine Wk.weak (fs' := [(2, .int .u64 ((x18 : Nat) : Int)), (8, ptr b1950 0), (19, .int .u64 ((y2241 : Nat) : Int)), (20, ptr b2252 0), (21, .slice a2249 l2248.length l2248.length), (22, .int .i64 r2251), (23, .slice a2257 l2256.length l2256.length), (24, .int .i64 r2259), (25, .int .i64 0), (36, .slice a26 l24.length l24.length), (37, .int .i64 (l24.length : Int)), (38, .int .i64 v31), (134, .slice a1948 l1946.length c1949), (135, .int .i64 (l1946.length : Int)), (136, .int .i64 0)]) (ps' := [.obj b1950 (.cells [.int .i64 x1945, .slice a1948 l1946.length c1949] .own), .rd a1948 c1949 2 l1946.length (l1946.map (eP (eI .i64) (eI .i64))), .obj b2252 (.cells [.int .i64 r2244, .slice a2246 l2245.length l2245.length] .own), .sl a2246 2 l2245.length (l2245.map (eP (eI .i64) (eI .i64))), .sl a2249 1 l2248.length (l2248.map (eI .i64)), .sl a2257 2 l2256.length (l2256.map (eP (eI .i64) (eI .i64)))]) (sc rfl (sc rfl (sc rfl (sc rfl (sc rfl (sc rfl (sc rfl (sc rfl (sc rfl (sc rfl (sc rfl (sc rfl (sc rfl (sc rfl (sc rfl sn))))))))))))))) (Turn.picks [4, 5, 1, 2, 3, 0] rfl rfl) ?_
           refine Wk.loop (σ := Int × Int) (ρ := Int) (γ := Unit) (δ := fun _ => Unit) _ (fun (s : Int × Int) (g : Unit) => match s, g with | (v2262, v2263), _ => ⟨.normal, [(2, .int .u64 ((x18 : Nat) : Int)), (8, ptr b1950 0), (19, .int .u64 ((y2241 : Nat) : Int)), (20, ptr b2252 0), (21, .slice a2249 l2248.length l2248.length), (22, .int .i64 r2251), (23, .slice a2257 l2256.length l2256.length), (24, .int .i64 r2259), (25, .int .i64 v2262), (36, .slice a26 l24.length l24.length), (37, .int .i64 (l24.length : Int)), (38, .int .i64 v31), (134, .slice a1948 l1946.length c1949), (135, .int .i64 (l1946.length : Int)), (136, .int .i64 v2263)], [.obj b1950 (.cells [.int .i64 x1945, .slice a1948 l1946.length c1949] .own), .rd a1948 c1949 2 l1946.length (l1946.map (eP (eI .i64) (eI .i64))), .obj b2252 (.cells [.int .i64 r2244, .slice a2246 l2245.length l2245.length] .own), .sl a2246 2 l2245.length (l2245.map (eP (eI .i64) (eI .i64))), .sl a2249 1 l2248.length (l2248.map (eI .i64)), .sl a2257 2 l2256.length (l2256.map (eP (eI .i64) (eI .i64)))]⟩) (fun (r : Int) (g : Unit) => match r, g with | v2304, _ => ⟨(.exit 4), [(2, .int .u64 ((x18 : Nat) : Int)), (8, ptr b1950 0), (19, .int .u64 ((y2241 : Nat) : Int)), (20, ptr b2252 0), (21, .slice a2249 l2248.length l2248.length), (22, .int .i64 r2251), (23, .slice a2257 l2256.length l2256.length), (24, .int .i64 r2259), (25, .int .i64 v2304), (36, .slice a26 l24.length l24.length), (37, .int .i64 (l24.length : Int)), (38, .int .i64 v31)], [.obj b1950 (.cells [.int .i64 x1945, .slice a1948 l1946.length c1949] .own), .rd a1948 c1949 2 l1946.length (l1946.map (eP (eI .i64) (eI .i64))), .obj b2252 (.cells [.int .i64 r2244, .slice a2246 l2245.length l2245.length] .own), .sl a2246 2 l2245.length (l2245.map (eP (eI .i64) (eI .i64))), .sl a2249 1 l2248.length (l2248.map (eI .i64)), .sl a2257 2 l2256.length (l2256.map (eP (eI .i64) (eI .i64)))]⟩) ?_ (fun _ _ => rfl) (fun r d => by intro e; cases e) _ _ _ h2343 ()
           clear hF h2343
           rintro ⟨v2262, v2263⟩ ⟨⟩ r hF
           unfold L12_3 at hF
           refine Wk.seq <| Wk.region <| Wo.od (o_bi rfl rfl (bin_lss _ _ _)) rfl ?_
           refine Wo.nil <| At.tn <| Wk.seq ?_
           rcases br_some hF with ⟨h2305, hF⟩ | ⟨h2305, hF⟩
           ·refine Wk.condT rfl h2305 ?_
            refine Wk.skip <| At.tn <| Wk.seq ?_
            obtain ⟨v2323, h2341, hF⟩ := ob_some hF
            refine Wk.cut (G := (fun (r : Int) (g : Unit) => match r, g with | v2323, _ => ⟨.normal, [(2, .int .u64 ((x18 : Nat) : Int)), (8, ptr b1950 0), (19, .int .u64 ((y2241 : Nat) : Int)), (20, ptr b2252 0), (21, .slice a2249 l2248.length l2248.length), (22, .int .i64 r2251), (23, .slice a2257 l2256.length l2256.length), (24, .int .i64 r2259), (25, .int .i64 v2323), (36, .slice a26 l24.length l24.length), (37, .int .i64 (l24.length : Int)), (38, .int .i64 v31), (134, .slice a1948 l1946.length c1949), (135, .int .i64 (l1946.length : Int)), (136, .int .i64 v2263)], [.obj b1950 (.cells [.int .i64 x1945, .slice a1948 l1946.length c1949] .own), .rd a1948 c1949 2 l1946.length (l1946.map (eP (eI .i64) (eI .i64))), .obj b2252 (.cells [.int .i64 r2244, .slice a2246 l2245.length l2245.length] .own), .sl a2246 2 l2245.length (l2245.map (eP (eI .i64) (eI .i64))), .sl a2249 1 l2248.length (l2248.map (eI .i64)), .sl a2257 2 l2256.length (l2256.map (eP (eI .i64) (eI .i64)))]⟩) v2323) ?_ ?_
            ·clear hF
             revert v2323
             intro r hF
             refine Wk.block <| Wk.seq <| Wk.region ?_
             obtain ⟨h2324, hF⟩ := gd_some hF
             replace h2324 := inB_some h2324
             refine Wo.openr (k := 1) rfl (pos_of h2324) ?_
             rintro b2325 o2326 rfl
             refine Wo.og (o_ixs s23 rfl rfl h2324) gn rfl ?_
             obtain ⟨⟨x2327, x2328⟩, h2329, hF⟩ := ob_some hF
             refine Wo.od (o_ldr (k := 0) t26 rfl rfl (map_at h2329) rfl rfl) rfl ?_
             refine Wo.x (o_al z26 rfl) gn rfl fun b2330 => ?_
             refine Wo.o0 (o_st (k := 0) t26 rfl rfl rfl rfl rfl) ?_
             refine Wo.nil <| At.tn <| Wk.seq ?_
             obtain ⟨v2334, h2338, hF⟩ := ob_some hF
             refine Wk.cut (G := (fun (r : Bool) (g : Unit) => match r, g with | v2334, _ => ⟨.normal, [(2, .int .u64 ((x18 : Nat) : Int)), (8, ptr b1950 0), (19, .int .u64 ((y2241 : Nat) : Int)), (20, ptr b2252 0), (21, .slice a2249 l2248.length l2248.length), (22, .int .i64 r2251), (23, .slice a2257 l2256.length l2256.length), (24, .int .i64 r2259), (25, .int .i64 v2262), (36, .slice a26 l24.length l24.length), (37, .int .i64 (l24.length : Int)), (38, .int .i64 v31), (134, .slice (some ⟨b2325, o2326, none⟩) l1946.length c1949), (135, .int .i64 (l1946.length : Int)), (136, .int .i64 v2263), (153, .bool v2334)], [.obj b1950 (.cells [.int .i64 x1945, .slice (some ⟨b2325, o2326, none⟩) l1946.length c1949] .own), .ro b2325 o2326 2 l1946.length (l1946.map (eP (eI .i64) (eI .i64))), .rd (some ⟨b2325, o2326, none⟩) c1949 2 l1946.length (l1946.map (eP (eI .i64) (eI .i64))), .obj b2252 (.cells [.int .i64 r2244, .slice a2246 l2245.length l2245.length] .own), .sl a2246 2 l2245.length (l2245.map (eP (eI .i64) (eI .i64))), .sl a2249 1 l2248.length (l2248.map (eI .i64)), .sl a2257 2 l2256.length (l2256.map (eP (eI .i64) (eI .i64)))]⟩) v2334) ?_ ?_
             ·clear hF
              revert v2334
              intro r hF
              refine Wk.region <| Wo.od (o_mv rfl) rfl ?_
              refine Wo.od (o_ia (r := ptr b2330 0) rfl rfl (ia_c ar26 (i := 0) (by decide))) rfl ?_
              refine Wo.od (o_ld (k := 0) t3 rfl rfl rfl) rfl ?_
              obtain ⟨h2335, hF⟩ := gd_some hF
              refine Wo.od (o_bi rfl rfl (ub_shr _ _ h2335)) rfl ?_
              refine Wo.od (o_bi rfl rfl (ub_and rfl _ _)) rfl ?_
              refine Wo.od (o_bi rfl rfl (ub_eql _ _)) rfl ?_
              refine Wo.od (o_mv rfl) rfl ?_
              rcases br_some hF with ⟨h2336, hF⟩ | ⟨h2336, hF⟩
              ·refine Wo.og (o_mv rfl) (gg rfl rfl (eTT h2336)) rfl ?_
               refine Wo.og (o_ia (r := ptr b2330 1) rfl rfl (ia_c ar26 (i := 1) (by decide))) (gg rfl rfl (eTT h2336)) rfl ?_
               refine Wo.og (o_ld (k := 0) t3 rfl rfl rfl) (gg rfl rfl (eTT h2336)) rfl ?_
               obtain ⟨h2337, hF⟩ := gd_some hF
               refine Wo.og (o_bi rfl rfl (ub_shr _ _ h2337)) (gg rfl rfl (eTT h2336)) rfl ?_
               refine Wo.og (o_bi rfl rfl (ub_and rfl _ _)) (gg rfl rfl (eTT h2336)) rfl ?_
               refine Wo.og (o_bi rfl rfl (ub_eql _ _)) (gg rfl rfl (eTT h2336)) rfl ?_
               refine Wo.od (o_pt rfl h2336 rfl) rfl ?_
               refine Wo.nil ?_
               cases hF
               exact At.en () rfl (sc rfl (sc rfl (sc rfl (sc rfl (sc rfl (sc rfl (sc rfl (sc rfl (sc rfl (sc rfl (sc rfl (sc rfl (sc rfl (sc rfl (sc rfl (sc rfl sn)))))))))))))))) (Turn.picks [2, 1, 3, 4, 5, 6, 7] rfl rfl)
              ·refine Wo.s (gg rfl rfl (eFT h2336)) rfl ?_
               refine Wo.s (gg rfl rfl (eFT h2336)) rfl ?_
               refine Wo.s (gg rfl rfl (eFT h2336)) rfl ?_
               refine Wo.s (gg rfl rfl (eFT h2336)) rfl ?_
               refine Wo.s (gg rfl rfl (eFT h2336)) rfl ?_
               refine Wo.s (gg rfl rfl (eFT h2336)) rfl ?_
               refine Wo.od (o_pf rfl h2336 rfl) rfl ?_
               refine Wo.nil ?_
               cases hF
               exact At.en () rfl (sc rfl (sc rfl (sc rfl (sc rfl (sc rfl (sc rfl (sc rfl (sc rfl (sc rfl (sc rfl (sc rfl (sc rfl (sc rfl (sc rfl (sc rfl (sc rfl sn)))))))))))))))) (Turn.picks [2, 1, 3, 4, 5, 6, 7] rfl rfl)
             ·clear h2338
              rintro ⟨⟩
              refine At.tn ?_
              rcases br_some hF with ⟨h2340, hF⟩ | ⟨h2340, hF⟩
              ·refine Wk.condT rfl h2340 ?_
               refine Wk.region <| Wo.od (o_mv rfl) rfl ?_
               refine Wo.od (o_bi rfl rfl (bin_add _ _ _)) rfl ?_
               refine Wo.od (o_as rfl) rfl ?_
               refine Wo.nil <| At.bn ?_
               cases hF
               exact At.en () rfl (sc rfl (sc rfl (sc rfl (sc rfl (sc rfl (sc rfl (sc rfl (sc rfl (sc rfl (sc rfl (sc rfl (sc rfl (sc rfl (sc rfl (sc rfl sn))))))))))))))) (Turn.picks [0, 2, 3, 4, 5, 6] rfl rfl)
              ·refine Wk.condF rfl h2340 ?_
               refine Wk.skip <| At.bn ?_
               have hr := Option.some.inj hF
               subst r
               exact At.en () rfl (sc rfl (sc rfl (sc rfl (sc rfl (sc rfl (sc rfl (sc rfl (sc rfl (sc rfl (sc rfl (sc rfl (sc rfl (sc rfl (sc rfl (sc rfl sn))))))))))))))) (Turn.picks [0, 2, 3, 4, 5, 6] rfl rfl)
            ·clear h2341
             rintro ⟨⟩
             refine At.tn <| Wk.region <| Wo.od (o_bi rfl rfl (bin_add _ _ _)) rfl ?_
             refine Wo.od (o_mv rfl) rfl ?_
             refine Wo.nil ?_
             cases hF
             exact At.en () rfl (sc rfl (sc rfl (sc rfl (sc rfl (sc rfl (sc rfl (sc rfl (sc rfl (sc rfl (sc rfl (sc rfl (sc rfl (sc rfl (sc rfl (sc rfl sn))))))))))))))) (Turn.picks [0, 1, 2, 3, 4, 5] rfl rfl)
           ·refine Wk.condF rfl h2305 ?_
            refine Wk.exit <| At.te ?_
            cases hF
            exact At.en () rfl (sc rfl (sc rfl (sc rfl (sc rfl (sc rfl (sc rfl (sc rfl (sc rfl (sc rfl (sc rfl (sc rfl (sc rfl sn)))))))))))) (Turn.picks [0, 1, 2, 3, 4, 5] rfl rfl)
          ·clear h2343
           rintro ⟨⟩
           refine At.be <| At.tn <| Wk.seq <| Wk.seq ?_
           obtain ⟨v2400, h2418, hF⟩ := ob_some hF
           refine Wk.cut (G := (fun (r : Bool) (g : Unit) => match r, g with | v2400, _ => ⟨.normal, [(2, .int .u64 ((x18 : Nat) : Int)), (8, ptr b1950 0), (19, .int .u64 ((y2241 : Nat) : Int)), (20, ptr b2252 0), (21, .slice a2249 l2248.length l2248.length), (36, .slice a26 l24.length l24.length), (37, .int .i64 (l24.length : Int)), (38, .int .i64 v31), (207, .bool v2400)], [.obj b1950 (.cells [.int .i64 x1945, .slice a1948 l1946.length c1949] .own), .rd a1948 c1949 2 l1946.length (l1946.map (eP (eI .i64) (eI .i64))), .obj b2252 (.cells [.int .i64 r2244, .slice a2246 l2245.length l2245.length] .own), .sl a2246 2 l2245.length (l2245.map (eP (eI .i64) (eI .i64))), .sl a2249 1 l2248.length (l2248.map (eI .i64))]⟩) v2400) ?_ ?_
           ·clear hF
            revert v2400
            intro r hF
            refine Wk.drawc (prs := [(8, 10), (45, 46)]) (by kernel_rfl) ?_
            refine Wn.od (o_mv rfl) rfl ?_
            refine Wn.od (o_bi rfl rfl (ib_neq _ _)) rfl ?_
            refine Wn.od (o_mv rfl) rfl ?_
            rcases br_some hF with ⟨h2401, hF⟩ | ⟨h2401, hF⟩
            ·refine Wn.s (gg rfl rfl (eTF h2401)) rfl ?_
             refine Wn.s (gg rfl rfl (eTF h2401)) rfl ?_
             refine Wn.od (o_pt rfl h2401 rfl) rfl ?_
             refine Wn.od (o_mv rfl) rfl ?_
             refine Wn.s (gg rfl rfl rfl) rfl ?_
             refine Wn.s (gg rfl rfl rfl) rfl ?_
             refine Wn.s (gg rfl rfl rfl) rfl ?_
             refine Wn.s (gg rfl rfl rfl) rfl ?_
             refine Wn.s (gg rfl rfl rfl) rfl ?_
             refine Wn.od (o_pT rfl rfl) rfl ?_
             refine Wn.od (o_mv rfl) rfl ?_
             refine Wn.s (gg rfl rfl rfl) rfl ?_
             refine Wn.s (gg rfl rfl rfl) rfl ?_
             refine Wn.s (gg rfl rfl rfl) rfl ?_
             refine Wn.s (gg rfl rfl rfl) rfl ?_
             refine Wn.s (gg rfl rfl rfl) rfl ?_
             refine Wn.od (o_pT rfl rfl) rfl ?_
             refine Wn.od (o_mv rfl) rfl ?_
             refine Wn.s (gg rfl rfl rfl) rfl ?_
             refine Wn.s (gg rfl rfl rfl) rfl ?_
             refine Wn.s (gg rfl rfl rfl) rfl ?_
             refine Wn.s (gg rfl rfl rfl) rfl ?_
             refine Wn.s (gg rfl rfl rfl) rfl ?_
             refine Wn.s (gg rfl rfl rfl) rfl ?_
             refine Wn.s (gg rfl rfl rfl) rfl ?_
             refine Wn.s (gg rfl rfl rfl) rfl ?_
             refine Wn.s (gg rfl rfl rfl) rfl ?_
             refine Wn.s (gg rfl rfl rfl) rfl ?_
             refine Wn.s (gg rfl rfl rfl) rfl ?_
             refine Wn.s (gg rfl rfl rfl) rfl ?_
             refine Wn.od (o_pT rfl rfl) rfl ?_
             refine Wn.od (o_mv rfl) rfl ?_
             refine Wn.s (gg rfl rfl rfl) rfl ?_
             refine Wn.s (gg rfl rfl rfl) rfl ?_
             refine Wn.s (gg rfl rfl rfl) rfl ?_
             refine Wn.od (o_pT rfl rfl) rfl ?_
             refine Wn.od (o_mv rfl) rfl ?_
             refine Wn.s (gg rfl rfl rfl) rfl ?_
             refine Wn.s (gg rfl rfl rfl) rfl ?_
             refine Wn.s (gg rfl rfl rfl) rfl ?_
             refine Wn.s (gg rfl rfl rfl) rfl ?_
             refine Wn.s (gg rfl rfl rfl) rfl ?_
             refine Wn.s (gg rfl rfl rfl) rfl ?_
             refine Wn.s (gg rfl rfl rfl) rfl ?_
             refine Wn.s (gg rfl rfl rfl) rfl ?_
             refine Wn.s (gg rfl rfl rfl) rfl ?_
             refine Wn.s (gg rfl rfl rfl) rfl ?_
             refine Wn.od (o_pT rfl rfl) rfl ?_
             refine Wn.nil (fun m hm => OkP.all rfl) ?_
             cases hF
             exact At.en () rfl (sc rfl (sc rfl (sc rfl (sc rfl (sc rfl (sc rfl (sc rfl (sc rfl (sc rfl sn))))))))) (Turn.picks [0, 1, 2, 3, 4] rfl rfl)
            ·refine Wn.og (o_mv rfl) (gg rfl rfl (eFF h2401)) rfl ?_
             refine Wn.og (o_bi rfl rfl (ib_neq _ _)) (gg rfl rfl (eFF h2401)) rfl ?_
             refine Wn.od (o_pf rfl h2401 rfl) rfl ?_
             refine Wn.od (o_mv rfl) rfl ?_
             rcases br_some hF with ⟨h2402, hF⟩ | ⟨h2402, hF⟩
             ·refine Wn.s (gg rfl rfl (eTF h2402)) rfl ?_
              refine Wn.s (gg rfl rfl (eTF h2402)) rfl ?_
              refine Wn.s (gg rfl rfl (eTF h2402)) rfl ?_
              refine Wn.s (gg rfl rfl (eTF h2402)) rfl ?_
              refine Wn.s (gg rfl rfl (eTF h2402)) rfl ?_
              refine Wn.od (o_pt rfl h2402 rfl) rfl ?_
              refine Wn.od (o_mv rfl) rfl ?_
              refine Wn.s (gg rfl rfl rfl) rfl ?_
              refine Wn.s (gg rfl rfl rfl) rfl ?_
              refine Wn.s (gg rfl rfl rfl) rfl ?_
              refine Wn.s (gg rfl rfl rfl) rfl ?_
              refine Wn.s (gg rfl rfl rfl) rfl ?_
              refine Wn.od (o_pT rfl rfl) rfl ?_
              refine Wn.od (o_mv rfl) rfl ?_
              refine Wn.s (gg rfl rfl rfl) rfl ?_
              refine Wn.s (gg rfl rfl rfl) rfl ?_
              refine Wn.s (gg rfl rfl rfl) rfl ?_
              refine Wn.s (gg rfl rfl rfl) rfl ?_
              refine Wn.s (gg rfl rfl rfl) rfl ?_
              refine Wn.s (gg rfl rfl rfl) rfl ?_
              refine Wn.s (gg rfl rfl rfl) rfl ?_
              refine Wn.s (gg rfl rfl rfl) rfl ?_
              refine Wn.s (gg rfl rfl rfl) rfl ?_
              refine Wn.s (gg rfl rfl rfl) rfl ?_
              refine Wn.s (gg rfl rfl rfl) rfl ?_
              refine Wn.s (gg rfl rfl rfl) rfl ?_
              refine Wn.od (o_pT rfl rfl) rfl ?_
              refine Wn.od (o_mv rfl) rfl ?_
              refine Wn.s (gg rfl rfl rfl) rfl ?_
              refine Wn.s (gg rfl rfl rfl) rfl ?_
              refine Wn.s (gg rfl rfl rfl) rfl ?_
              refine Wn.od (o_pT rfl rfl) rfl ?_
              refine Wn.od (o_mv rfl) rfl ?_
              refine Wn.s (gg rfl rfl rfl) rfl ?_
              refine Wn.s (gg rfl rfl rfl) rfl ?_
              refine Wn.s (gg rfl rfl rfl) rfl ?_
              refine Wn.s (gg rfl rfl rfl) rfl ?_
              refine Wn.s (gg rfl rfl rfl) rfl ?_
              refine Wn.s (gg rfl rfl rfl) rfl ?_
              refine Wn.s (gg rfl rfl rfl) rfl ?_
              refine Wn.s (gg rfl rfl rfl) rfl ?_
              refine Wn.s (gg rfl rfl rfl) rfl ?_
              refine Wn.s (gg rfl rfl rfl) rfl ?_
              refine Wn.od (o_pT rfl rfl) rfl ?_
              refine Wn.nil (fun m hm => OkP.all rfl) ?_
              cases hF
              exact At.en () rfl (sc rfl (sc rfl (sc rfl (sc rfl (sc rfl (sc rfl (sc rfl (sc rfl (sc rfl sn))))))))) (Turn.picks [0, 1, 2, 3, 4] rfl rfl)
             ·refine Wn.og (o_fa (r := ptr b2252 0) rfl (fa25_0 _ _)) (gg rfl rfl (eFF h2402)) rfl ?_
              refine Wn.og (o_ld (k := 2) t3 rfl rfl rfl) (gg rfl rfl (eFF h2402)) rfl ?_
              refine Wn.og (o_mv rfl) (gg rfl rfl (eFF h2402)) rfl ?_
              obtain ⟨r2404, h2403, hF⟩ := ob_some hF
              refine Wn.c (o_ce rfl rfl (fun m hm => f54_ok n y2241  _ h2403 m ) fun _ => rfl) (gg rfl rfl (eFF h2402)) rfl ?_
              rintro ⟨⟩
              refine Wn.og (o_bi rfl rfl (ib_neq _ _)) (gg rfl rfl (eFF h2402)) rfl ?_
              refine Wn.od (o_pf rfl h2402 rfl) rfl ?_
              refine Wn.od (o_mv rfl) rfl ?_
              rcases br_some hF with ⟨h2405, hF⟩ | ⟨h2405, hF⟩
              ·refine Wn.s (gg rfl rfl (eTF h2405)) rfl ?_
               refine Wn.s (gg rfl rfl (eTF h2405)) rfl ?_
               refine Wn.s (gg rfl rfl (eTF h2405)) rfl ?_
               refine Wn.s (gg rfl rfl (eTF h2405)) rfl ?_
               refine Wn.s (gg rfl rfl (eTF h2405)) rfl ?_
               refine Wn.od (o_pt rfl h2405 rfl) rfl ?_
               refine Wn.od (o_mv rfl) rfl ?_
               refine Wn.s (gg rfl rfl rfl) rfl ?_
               refine Wn.s (gg rfl rfl rfl) rfl ?_
               refine Wn.s (gg rfl rfl rfl) rfl ?_
               refine Wn.s (gg rfl rfl rfl) rfl ?_
               refine Wn.s (gg rfl rfl rfl) rfl ?_
               refine Wn.s (gg rfl rfl rfl) rfl ?_
               refine Wn.s (gg rfl rfl rfl) rfl ?_
               refine Wn.s (gg rfl rfl rfl) rfl ?_
               refine Wn.s (gg rfl rfl rfl) rfl ?_
               refine Wn.s (gg rfl rfl rfl) rfl ?_
               refine Wn.s (gg rfl rfl rfl) rfl ?_
               refine Wn.s (gg rfl rfl rfl) rfl ?_
               refine Wn.od (o_pT rfl rfl) rfl ?_
               refine Wn.od (o_mv rfl) rfl ?_
               refine Wn.s (gg rfl rfl rfl) rfl ?_
               refine Wn.s (gg rfl rfl rfl) rfl ?_
               refine Wn.s (gg rfl rfl rfl) rfl ?_
               refine Wn.od (o_pT rfl rfl) rfl ?_
               refine Wn.od (o_mv rfl) rfl ?_
               refine Wn.s (gg rfl rfl rfl) rfl ?_
               refine Wn.s (gg rfl rfl rfl) rfl ?_
               refine Wn.s (gg rfl rfl rfl) rfl ?_
               refine Wn.s (gg rfl rfl rfl) rfl ?_
               refine Wn.s (gg rfl rfl rfl) rfl ?_
               refine Wn.s (gg rfl rfl rfl) rfl ?_
               refine Wn.s (gg rfl rfl rfl) rfl ?_
               refine Wn.s (gg rfl rfl rfl) rfl ?_
               refine Wn.s (gg rfl rfl rfl) rfl ?_
               refine Wn.s (gg rfl rfl rfl) rfl ?_
               refine Wn.od (o_pT rfl rfl) rfl ?_
               refine Wn.nil (fun m hm => OkP.all rfl) ?_
               cases hF
               exact At.en () rfl (sc rfl (sc rfl (sc rfl (sc rfl (sc rfl (sc rfl (sc rfl (sc rfl (sc rfl sn))))))))) (Turn.picks [0, 1, 2, 3, 4] rfl rfl)
              ·refine Wn.og (o_mv rfl) (gg rfl rfl (eFF h2405)) rfl ?_
               refine Wn.og (o_ln (k := 4) u39 rfl rfl (.inl rfl)) (gg rfl rfl (eFF h2405)) rfl ?_
               refine Wn.og (o_fa (r := ptr b2252 0) rfl (fa25_0 _ _)) (gg rfl rfl (eFF h2405)) rfl ?_
               refine Wn.og (o_ld (k := 2) t3 rfl rfl rfl) (gg rfl rfl (eFF h2405)) rfl ?_
               refine Wn.og (o_bi rfl rfl (ib_neq _ _)) (gg rfl rfl (eFF h2405)) rfl ?_
               refine Wn.od (o_pf rfl h2405 rfl) rfl ?_
               refine Wn.od (o_mv rfl) rfl ?_
               rcases br_some hF with ⟨h2406, hF⟩ | ⟨h2406, hF⟩
               ·refine Wn.s (gg rfl rfl (eTF h2406)) rfl ?_
                refine Wn.s (gg rfl rfl (eTF h2406)) rfl ?_
                refine Wn.s (gg rfl rfl (eTF h2406)) rfl ?_
                refine Wn.s (gg rfl rfl (eTF h2406)) rfl ?_
                refine Wn.s (gg rfl rfl (eTF h2406)) rfl ?_
                refine Wn.s (gg rfl rfl (eTF h2406)) rfl ?_
                refine Wn.s (gg rfl rfl (eTF h2406)) rfl ?_
                refine Wn.s (gg rfl rfl (eTF h2406)) rfl ?_
                refine Wn.s (gg rfl rfl (eTF h2406)) rfl ?_
                refine Wn.s (gg rfl rfl (eTF h2406)) rfl ?_
                refine Wn.s (gg rfl rfl (eTF h2406)) rfl ?_
                refine Wn.s (gg rfl rfl (eTF h2406)) rfl ?_
                refine Wn.od (o_pt rfl h2406 rfl) rfl ?_
                refine Wn.od (o_mv rfl) rfl ?_
                refine Wn.s (gg rfl rfl rfl) rfl ?_
                refine Wn.s (gg rfl rfl rfl) rfl ?_
                refine Wn.s (gg rfl rfl rfl) rfl ?_
                refine Wn.od (o_pT rfl rfl) rfl ?_
                refine Wn.od (o_mv rfl) rfl ?_
                refine Wn.s (gg rfl rfl rfl) rfl ?_
                refine Wn.s (gg rfl rfl rfl) rfl ?_
                refine Wn.s (gg rfl rfl rfl) rfl ?_
                refine Wn.s (gg rfl rfl rfl) rfl ?_
                refine Wn.s (gg rfl rfl rfl) rfl ?_
                refine Wn.s (gg rfl rfl rfl) rfl ?_
                refine Wn.s (gg rfl rfl rfl) rfl ?_
                refine Wn.s (gg rfl rfl rfl) rfl ?_
                refine Wn.s (gg rfl rfl rfl) rfl ?_
                refine Wn.s (gg rfl rfl rfl) rfl ?_
                refine Wn.od (o_pT rfl rfl) rfl ?_
                refine Wn.nil (fun m hm => OkP.all rfl) ?_
                cases hF
                exact At.en () rfl (sc rfl (sc rfl (sc rfl (sc rfl (sc rfl (sc rfl (sc rfl (sc rfl (sc rfl sn))))))))) (Turn.picks [0, 1, 2, 3, 4] rfl rfl)
               ·refine Wn.og (o_fa (r := ptr b2252 1) rfl (fa25_1 _ _)) (gg rfl rfl (eFF h2406)) rfl ?_
                refine Wn.og (o_ld (k := 2) t23 rfl rfl rfl) (gg rfl rfl (eFF h2406)) rfl ?_
                refine Wn.og (o_ln (k := 3) u23 rfl rfl (.inl rfl)) (gg rfl rfl (eFF h2406)) rfl ?_
                refine Wn.og (o_mv rfl) (gg rfl rfl (eFF h2406)) rfl ?_
                refine Wn.og (o_ln (k := 5) u23 rfl rfl (.inl rfl)) (gg rfl rfl (eFF h2406)) rfl ?_
                refine Wn.og (o_bi rfl rfl (bin_add _ _ _)) (gg rfl rfl (eFF h2406)) rfl ?_
                refine Wn.og (o_mv rfl) (gg rfl rfl (eFF h2406)) rfl ?_
                obtain ⟨y2407, h2408, hF⟩ := ob_some hF
                refine Wn.og (o_bi rfl rfl ((bin_add _ _ _).trans (cI h2408))) (gg rfl rfl (eFF h2406)) rfl ?_
                refine Wn.og (o_fa (r := ptr b1950 1) rfl (fa25_1 _ _)) (gg rfl rfl (eFF h2406)) rfl ?_
                refine Wn.og (o_ld (k := 0) t23 rfl rfl rfl) (gg rfl rfl (eFF h2406)) rfl ?_
                refine Wn.og (o_ln (k := 1) u23 rfl rfl (.inl rfl)) (gg rfl rfl (eFF h2406)) rfl ?_
                refine Wn.og (o_bi rfl rfl (ib_neq _ _)) (gg rfl rfl (eFF h2406)) rfl ?_
                refine Wn.od (o_pf rfl h2406 rfl) rfl ?_
                refine Wn.od (o_mv rfl) rfl ?_
                rcases br_some hF with ⟨h2409, hF⟩ | ⟨h2409, hF⟩
                ·refine Wn.s (gg rfl rfl (eTF h2409)) rfl ?_
                 refine Wn.s (gg rfl rfl (eTF h2409)) rfl ?_
                 refine Wn.s (gg rfl rfl (eTF h2409)) rfl ?_
                 refine Wn.od (o_pt rfl h2409 rfl) rfl ?_
                 refine Wn.od (o_mv rfl) rfl ?_
                 refine Wn.s (gg rfl rfl rfl) rfl ?_
                 refine Wn.s (gg rfl rfl rfl) rfl ?_
                 refine Wn.s (gg rfl rfl rfl) rfl ?_
                 refine Wn.s (gg rfl rfl rfl) rfl ?_
                 refine Wn.s (gg rfl rfl rfl) rfl ?_
                 refine Wn.s (gg rfl rfl rfl) rfl ?_
                 refine Wn.s (gg rfl rfl rfl) rfl ?_
                 refine Wn.s (gg rfl rfl rfl) rfl ?_
                 refine Wn.s (gg rfl rfl rfl) rfl ?_
                 refine Wn.s (gg rfl rfl rfl) rfl ?_
                 refine Wn.od (o_pT rfl rfl) rfl ?_
                 refine Wn.nil (fun m hm => OkP.all rfl) ?_
                 cases hF
                 exact At.en () rfl (sc rfl (sc rfl (sc rfl (sc rfl (sc rfl (sc rfl (sc rfl (sc rfl (sc rfl sn))))))))) (Turn.picks [0, 1, 2, 3, 4] rfl rfl)
                ·refine Wn.og (o_ld (k := 2) t25 rfl rfl rfl) (gg rfl rfl (eFF h2409)) rfl ?_
                 obtain ⟨r2411, h2410, hF⟩ := ob_some hF
                 refine Wn.c (o_ce rfl rfl (fun m hm => f23_ok n r2244 l2245 a2246 l2245.length _ h2410 m (hm.rd (k := 3) rfl (.sl _ _ _ _))) fun _ => rfl) (gg rfl rfl (eFF h2409)) rfl ?_
                 rintro ⟨⟩
                 refine Wn.og (o_bi rfl rfl (ib_neq _ _)) (gg rfl rfl (eFF h2409)) rfl ?_
                 refine Wn.od (o_pf rfl h2409 rfl) rfl ?_
                 refine Wn.od (o_mv rfl) rfl ?_
                 rcases br_some hF with ⟨h2412, hF⟩ | ⟨h2412, hF⟩
                 ·refine Wn.s (gg rfl rfl (eTF h2412)) rfl ?_
                  refine Wn.s (gg rfl rfl (eTF h2412)) rfl ?_
                  refine Wn.s (gg rfl rfl (eTF h2412)) rfl ?_
                  refine Wn.s (gg rfl rfl (eTF h2412)) rfl ?_
                  refine Wn.s (gg rfl rfl (eTF h2412)) rfl ?_
                  refine Wn.s (gg rfl rfl (eTF h2412)) rfl ?_
                  refine Wn.s (gg rfl rfl (eTF h2412)) rfl ?_
                  refine Wn.s (gg rfl rfl (eTF h2412)) rfl ?_
                  refine Wn.s (gg rfl rfl (eTF h2412)) rfl ?_
                  refine Wn.s (gg rfl rfl (eTF h2412)) rfl ?_
                  refine Wn.od (o_pt rfl h2412 rfl) rfl ?_
                  refine Wn.nil (fun m hm => OkP.all rfl) ?_
                  cases hF
                  exact At.en () rfl (sc rfl (sc rfl (sc rfl (sc rfl (sc rfl (sc rfl (sc rfl (sc rfl (sc rfl sn))))))))) (Turn.picks [0, 1, 2, 3, 4] rfl rfl)
                 ·refine Wn.og (o_ld (k := 2) t25 rfl rfl rfl) (gg rfl rfl (eFF h2412)) rfl ?_
                  refine Wn.og (o_fa (r := ptr b2252 0) rfl (fa25_0 _ _)) (gg rfl rfl (eFF h2412)) rfl ?_
                  refine Wn.og (o_ld (k := 2) t3 rfl rfl rfl) (gg rfl rfl (eFF h2412)) rfl ?_
                  obtain ⟨h2413, hF⟩ := gd_some hF
                  refine Wn.og (o_bi rfl rfl (ub_shl rfl _ _ h2413)) (gg rfl rfl (eFF h2412)) rfl ?_
                  refine Wn.og (o_bi rfl rfl (ub_sub rfl _ _)) (gg rfl rfl (eFF h2412)) rfl ?_
                  obtain ⟨r2415, h2414, hF⟩ := ob_some hF
                  refine Wn.c (o_ce rfl rfl (fun m hm => f25_ok n r2244 l2245 (usub .u64 (ushl .u64 1 r2244.toNat) 1) a2246 l2245.length _ h2414 m (hG.ext hm.ext) (hm.rd (k := 3) rfl (.sl _ _ _ _))) fun _ => rfl) (gg rfl rfl (eFF h2412)) rfl ?_
                  rintro ⟨⟩
                  refine Wn.og (o_ld (k := 0) t25 rfl rfl rfl) (gg rfl rfl (eFF h2412)) rfl ?_
                  refine Wn.og (o_mv rfl) (gg rfl rfl (eFF h2412)) rfl ?_
                  obtain ⟨r2417, h2416, hF⟩ := ob_some hF
                  refine Wn.c (o_ce rfl rfl (fun m hm => f25_ok n x1945 l1946 y2241 a1948 c1949 _ h2416 m (hG.ext hm.ext) (hm.rd (k := 1) rfl (.rd _ _ _ _ _))) fun _ => rfl) (gg rfl rfl (eFF h2412)) rfl ?_
                  rintro ⟨⟩
                  refine Wn.og (o_bi rfl rfl (ib_neq _ _)) (gg rfl rfl (eFF h2412)) rfl ?_
                  refine Wn.od (o_pf rfl h2412 rfl) rfl ?_
                  refine Wn.nil (fun m hm => OkP.all rfl) ?_
                  cases hF
                  exact At.en () rfl (sc rfl (sc rfl (sc rfl (sc rfl (sc rfl (sc rfl (sc rfl (sc rfl (sc rfl sn))))))))) (Turn.picks [0, 1, 2, 3, 4] rfl rfl)
           ·clear h2418
            rintro ⟨⟩
            refine At.tn ?_
            rcases br_some hF with ⟨h2420, hF⟩ | ⟨h2420, hF⟩
            ·refine Wk.condT rfl h2420 ?_
             refine Wk.seq <| Wk.region <| Wo.od (o_as rfl) rfl ?_
             refine Wo.nil <| At.tn <| Wk.ret <| At.tr <| At.br ?_
             cases hF
             exact At.en () rfl (sc rfl sn) (Turn.picks [] rfl rfl)
            ·refine Wk.condF rfl h2420 ?_
             refine Wk.skip <| At.tn <| Wk.seq <| Wk.seq <| Wk.region <| Wo.od (o_mv rfl) rfl ?_
             refine Wo.od (o_ln (k := 4) u39 rfl rfl (.inl rfl)) rfl ?_
             refine Wo.od (o_mv rfl) rfl ?_
             refine Wo.nil <| At.tn <| Wk.block ?_
             obtain ⟨r2515, h2514, hF⟩ := ob_some hF
             refine Wk.cut (G := (fun (r : (Unit) ⊕ (Unit)) (g : Unit) => match r, g with | .inl _, _ => ⟨.ret, [(6, .bool false)], []⟩ | .inr _, _ => ⟨(.exit 6), [(2, .int .u64 ((x18 : Nat) : Int)), (8, ptr b1950 0), (20, ptr b2252 0), (21, .slice a2249 l2248.length l2248.length), (36, .slice a26 l24.length l24.length), (37, .int .i64 (l24.length : Int)), (38, .int .i64 v31)], [.obj b1950 (.cells [.int .i64 x1945, .slice a1948 l1946.length c1949] .own), .rd a1948 c1949 2 l1946.length (l1946.map (eP (eI .i64) (eI .i64))), .obj b2252 (.cells [.int .i64 r2244, .slice a2246 l2245.length l2245.length] .own), .sl a2246 2 l2245.length (l2245.map (eP (eI .i64) (eI .i64))), .sl a2249 1 l2248.length (l2248.map (eI .i64))]⟩) r2515) ?_ ?_
             ·refine Wk.weak (fs' := [(2, .int .u64 ((x18 : Nat) : Int)), (8, ptr b1950 0), (19, .int .u64 ((y2241 : Nat) : Int)), (20, ptr b2252 0), (21, .slice a2249 l2248.length l2248.length), (36, .slice a26 l24.length l24.length), (37, .int .i64 (l24.length : Int)), (38, .int .i64 v31), (208, .slice a2249 l2248.length l2248.length), (209, .int .i64 (l2248.length : Int)), (210, .int .i64 0)]) (ps' := [.obj b1950 (.cells [.int .i64 x1945, .slice a1948 l1946.length c1949] .own), .rd a1948 c1949 2 l1946.length (l1946.map (eP (eI .i64) (eI .i64))), .obj b2252 (.cells [.int .i64 r2244, .slice a2246 l2245.length l2245.length] .own), .sl a2246 2 l2245.length (l2245.map (eP (eI .i64) (eI .i64))), .sl a2249 1 l2248.length (l2248.map (eI .i64))]) (sc rfl (sc rfl (sc rfl (sc rfl (sc rfl (sc rfl (sc rfl (sc rfl (sc rfl (sc rfl (sc rfl sn))))))))))) (Turn.picks [0, 1, 2, 3, 4] rfl rfl) ?_
              refine Wk.loop (σ := Int) (ρ := (Unit) ⊕ (Unit)) (γ := Unit) (δ := fun _ => Unit) _ (fun (s : Int) (g : Unit) => match s, g with | v2422, _ => ⟨.normal, [(2, .int .u64 ((x18 : Nat) : Int)), (8, ptr b1950 0), (19, .int .u64 ((y2241 : Nat) : Int)), (20, ptr b2252 0), (21, .slice a2249 l2248.length l2248.length), (36, .slice a26 l24.length l24.length), (37, .int .i64 (l24.length : Int)), (38, .int .i64 v31), (208, .slice a2249 l2248.length l2248.length), (209, .int .i64 (l2248.length : Int)), (210, .int .i64 v2422)], [.obj b1950 (.cells [.int .i64 x1945, .slice a1948 l1946.length c1949] .own), .rd a1948 c1949 2 l1946.length (l1946.map (eP (eI .i64) (eI .i64))), .obj b2252 (.cells [.int .i64 r2244, .slice a2246 l2245.length l2245.length] .own), .sl a2246 2 l2245.length (l2245.map (eP (eI .i64) (eI .i64))), .sl a2249 1 l2248.length (l2248.map (eI .i64))]⟩) (fun (r : (Unit) ⊕ (Unit)) (g : Unit) => match r, g with | .inl _, _ => ⟨.ret, [(6, .bool false)], []⟩ | .inr _, _ => ⟨(.exit 6), [(2, .int .u64 ((x18 : Nat) : Int)), (8, ptr b1950 0), (20, ptr b2252 0), (21, .slice a2249 l2248.length l2248.length), (36, .slice a26 l24.length l24.length), (37, .int .i64 (l24.length : Int)), (38, .int .i64 v31)], [.obj b1950 (.cells [.int .i64 x1945, .slice a1948 l1946.length c1949] .own), .rd a1948 c1949 2 l1946.length (l1946.map (eP (eI .i64) (eI .i64))), .obj b2252 (.cells [.int .i64 r2244, .slice a2246 l2245.length l2245.length] .own), .sl a2246 2 l2245.length (l2245.map (eP (eI .i64) (eI .i64))), .sl a2249 1 l2248.length (l2248.map (eI .i64))]⟩) ?_ (fun _ _ => rfl) (fun r d => by rcases r with _ | _ <;> (intro e; cases e)) _ _ _ h2514 ()
              clear hF h2514
              rintro v2422 ⟨⟩ r hF
              unfold L12_4 at hF
              refine Wk.seq <| Wk.region <| Wo.od (o_bi rfl rfl (bin_lss _ _ _)) rfl ?_
              refine Wo.nil <| At.tn <| Wk.seq ?_
              rcases br_some hF with ⟨h2469, hF⟩ | ⟨h2469, hF⟩
              ·refine Wk.condT rfl h2469 ?_
               refine Wk.skip <| At.tn <| Wk.seq <| Wk.block <| Wk.seq <| Wk.region <| Wo.od (o_mv rfl) rfl ?_
               obtain ⟨h2492, hF⟩ := gd_some hF
               replace h2492 := inB_some h2492
               refine Wo.open (k := 4) rfl (pos_of h2492) ?_
               rintro b2493 tg2494 rfl h2495
               refine Wo.og (o_ixa s39 rfl rfl h2492) gn rfl ?_
               obtain ⟨x2496, h2497, hF⟩ := ob_some hF
               refine Wo.od (o_lda (k := 4) t3 rfl rfl (map_at h2497) rfl rfl) rfl ?_
               refine Wo.od (o_as rfl) rfl ?_
               refine Wo.od (o_as rfl) rfl ?_
               refine Wo.nil <| At.tn <| Wk.seq ?_
               obtain ⟨v2504, h2511, hF⟩ := ob_some hF
               refine Wk.cut (G := (fun (r : Bool) (g : Unit) => match r, g with | v2504, _ => ⟨.normal, [(2, .int .u64 ((x18 : Nat) : Int)), (8, ptr b1950 0), (19, .int .u64 ((y2241 : Nat) : Int)), (20, ptr b2252 0), (21, .slice (some ⟨b2493, 0, none⟩) l2248.length l2248.length), (36, .slice a26 l24.length l24.length), (37, .int .i64 (l24.length : Int)), (38, .int .i64 v31), (208, .slice (some ⟨b2493, 0, none⟩) l2248.length l2248.length), (209, .int .i64 (l2248.length : Int)), (210, .int .i64 v2422), (232, .bool v2504)], [.obj b1950 (.cells [.int .i64 x1945, .slice a1948 l1946.length c1949] .own), .rd a1948 c1949 2 l1946.length (l1946.map (eP (eI .i64) (eI .i64))), .obj b2252 (.cells [.int .i64 r2244, .slice a2246 l2245.length l2245.length] .own), .sl a2246 2 l2245.length (l2245.map (eP (eI .i64) (eI .i64))), .arr b2493 1 l2248.length (l2248.map (eI .i64)) tg2494]⟩) v2504) ?_ ?_
               ·clear hF
                revert v2504
                intro r hF
                refine Wk.region <| Wo.od (o_mv rfl) rfl ?_
                refine Wo.od (o_mv rfl) rfl ?_
                obtain ⟨h2505, hF⟩ := gd_some hF
                refine Wo.od (o_bi rfl rfl (ub_shr _ _ h2505)) rfl ?_
                refine Wo.od (o_bi rfl rfl (ub_and rfl _ _)) rfl ?_
                refine Wo.od (o_bi rfl rfl (ub_eql _ _)) rfl ?_
                refine Wo.od (o_mv rfl) rfl ?_
                rcases br_some hF with ⟨h2506, hF⟩ | ⟨h2506, hF⟩
                ·refine Wo.s (gg rfl rfl (eTF h2506)) rfl ?_
                 refine Wo.s (gg rfl rfl (eTF h2506)) rfl ?_
                 refine Wo.s (gg rfl rfl (eTF h2506)) rfl ?_
                 refine Wo.s (gu rfl rfl) rfl ?_
                 refine Wo.s (gu rfl rfl) rfl ?_
                 refine Wo.s (gu rfl rfl) rfl ?_
                 refine Wo.s (gu rfl rfl) rfl ?_
                 refine Wo.s (gu rfl rfl) rfl ?_
                 refine Wo.s (gu rfl rfl) rfl ?_
                 refine Wo.s (gu rfl rfl) rfl ?_
                 refine Wo.s (gg rfl rfl (eTF h2506)) rfl ?_
                 refine Wo.od (o_pt rfl h2506 rfl) rfl ?_
                 refine Wo.nil ?_
                 cases hF
                 exact At.en () rfl (sc rfl (sc rfl (sc rfl (sc rfl (sc rfl (sc rfl (sc rfl (sc rfl (sc rfl (sc rfl (sc rfl (sc rfl sn)))))))))))) (Turn.picks [0, 1, 2, 3, 4] rfl rfl)
                ·refine Wo.og (o_mv rfl) (gg rfl rfl (eFF h2506)) rfl ?_
                 refine Wo.og (o_bi rfl rfl (bin_gtr _ _ _)) (gg rfl rfl (eFF h2506)) rfl ?_
                 refine Wo.og (o_mv rfl) (gg rfl rfl (eFF h2506)) rfl ?_
                 rcases br_some hF with ⟨h2507, hF⟩ | ⟨h2507, hF⟩
                 ·refine Wo.og (o_mv rfl) (gg rfl rfl (eTT h2507)) rfl ?_
                  refine Wo.og (o_mv rfl) (gg rfl rfl (eTT h2507)) rfl ?_
                  refine Wo.og (o_bi rfl rfl (bin_sub _ _ _)) (gg rfl rfl (eTT h2507)) rfl ?_
                  obtain ⟨h2508, hF⟩ := gd_some hF
                  replace h2508 := inB_some h2508
                  refine Wo.og (o_ixa s39 rfl rfl h2508) (gg rfl rfl (eTT h2507)) rfl ?_
                  obtain ⟨x2509, h2510, hF⟩ := ob_some hF
                  refine Wo.og (o_lda (k := 4) t3 rfl rfl (map_at h2510) rfl rfl) (gg rfl rfl (eTT h2507)) rfl ?_
                  refine Wo.og (o_mv rfl) (gg rfl rfl (eTT h2507)) rfl ?_
                  refine Wo.og (o_bi rfl rfl (bin_geq _ _ _)) (gg rfl rfl (eTT h2507)) rfl ?_
                  refine Wo.og (o_pt rfl h2507 rfl) (gg rfl rfl (eFF h2506)) rfl ?_
                  refine Wo.od (o_pf rfl h2506 rfl) rfl ?_
                  refine Wo.nil ?_
                  cases hF
                  exact At.en () rfl (sc rfl (sc rfl (sc rfl (sc rfl (sc rfl (sc rfl (sc rfl (sc rfl (sc rfl (sc rfl (sc rfl (sc rfl sn)))))))))))) (Turn.picks [0, 1, 2, 3, 4] rfl rfl)
                 ·refine Wo.s (gg rfl rfl (eFT h2507)) rfl ?_
                  refine Wo.s (gg rfl rfl (eFT h2507)) rfl ?_
                  refine Wo.s (gg rfl rfl (eFT h2507)) rfl ?_
                  refine Wo.s (gg rfl rfl (eFT h2507)) rfl ?_
                  refine Wo.s (gg rfl rfl (eFT h2507)) rfl ?_
                  refine Wo.s (gg rfl rfl (eFT h2507)) rfl ?_
                  refine Wo.s (gg rfl rfl (eFT h2507)) rfl ?_
                  refine Wo.og (o_pf rfl h2507 rfl) (gg rfl rfl (eFF h2506)) rfl ?_
                  refine Wo.od (o_pf rfl h2506 rfl) rfl ?_
                  refine Wo.nil ?_
                  cases hF
                  exact At.en () rfl (sc rfl (sc rfl (sc rfl (sc rfl (sc rfl (sc rfl (sc rfl (sc rfl (sc rfl (sc rfl (sc rfl (sc rfl sn)))))))))))) (Turn.picks [0, 1, 2, 3, 4] rfl rfl)
               ·clear h2511
                rintro ⟨⟩
                refine At.tn ?_
                rcases br_some hF with ⟨h2513, hF⟩ | ⟨h2513, hF⟩
                ·refine Wk.condT rfl h2513 ?_
                 refine Wk.seq <| Wk.region <| Wo.od (o_as rfl) rfl ?_
                 refine Wo.nil <| At.tn <| Wk.ret <| At.br <| At.tr ?_
                 cases hF
                 exact At.en () rfl (sc rfl sn) (Turn.picks [] rfl rfl)
                ·refine Wk.condF rfl h2513 ?_
                 refine Wk.skip <| At.bn <| At.tn <| Wk.region <| Wo.od (o_bi rfl rfl (bin_add _ _ _)) rfl ?_
                 refine Wo.od (o_mv rfl) rfl ?_
                 refine Wo.nil ?_
                 cases hF
                 exact At.en () rfl (sc rfl (sc rfl (sc rfl (sc rfl (sc rfl (sc rfl (sc rfl (sc rfl (sc rfl (sc rfl (sc rfl sn))))))))))) (Turn.trans (Turn.close (k := 4) rfl) (Turn.picks [0, 1, 2, 3, 4] rfl rfl))
              ·refine Wk.condF rfl h2469 ?_
               refine Wk.exit <| At.te ?_
               cases hF
               exact At.en () rfl (sc rfl (sc rfl (sc rfl (sc rfl (sc rfl (sc rfl (sc rfl sn))))))) (Turn.picks [0, 1, 2, 3, 4] rfl rfl)
             ·clear h2514
              rcases r2515 with _ | _
              ·rintro ⟨⟩
               refine At.br <| At.tr <| At.br ?_
               cases hF
               exact At.en () rfl (sc rfl sn) (Turn.picks [] rfl rfl)
              ·rintro ⟨⟩
               refine At.be <| At.tn <| Wk.seq <| Wk.region <| Wo.od (o_fa (r := ptr b2252 1) rfl (fa25_1 _ _)) rfl ?_
               refine Wo.od (o_ld (k := 2) t23 rfl rfl rfl) rfl ?_
               refine Wo.od (o_ln (k := 3) u23 rfl rfl (.inl rfl)) rfl ?_
               refine Wo.od (o_mv rfl) rfl ?_
               refine Wo.nil <| At.tn <| Wk.block ?_
               obtain ⟨r2562, h2561, hF⟩ := ob_some hF
               refine Wk.cut (G := (fun (r : (Unit) ⊕ (Unit)) (g : Unit) => match r, g with | .inl _, _ => ⟨.ret, [(6, .bool false)], []⟩ | .inr _, _ => ⟨(.exit 8), [(2, .int .u64 ((x18 : Nat) : Int)), (36, .slice a26 l24.length l24.length), (37, .int .i64 (l24.length : Int)), (38, .int .i64 v31)], []⟩) r2562) ?_ ?_
               ·refine Wk.weak (fs' := [(2, .int .u64 ((x18 : Nat) : Int)), (8, ptr b1950 0), (21, .slice a2249 l2248.length l2248.length), (36, .slice a26 l24.length l24.length), (37, .int .i64 (l24.length : Int)), (38, .int .i64 v31), (235, .slice a2246 l2245.length l2245.length), (236, .int .i64 (l2245.length : Int)), (237, .int .i64 0)]) (ps' := [.obj b1950 (.cells [.int .i64 x1945, .slice a1948 l1946.length c1949] .own), .rd a1948 c1949 2 l1946.length (l1946.map (eP (eI .i64) (eI .i64))), .sl a2249 1 l2248.length (l2248.map (eI .i64)), .sl a2246 2 l2245.length (l2245.map (eP (eI .i64) (eI .i64)))]) (sc rfl (sc rfl (sc rfl (sc rfl (sc rfl (sc rfl (sc rfl (sc rfl (sc rfl sn))))))))) (Turn.picks [0, 1, 4, 3] rfl rfl) ?_
                refine Wk.loop (σ := Int) (ρ := (Unit) ⊕ (Unit)) (γ := Unit) (δ := fun _ => Unit) _ (fun (s : Int) (g : Unit) => match s, g with | v2517, _ => ⟨.normal, [(2, .int .u64 ((x18 : Nat) : Int)), (8, ptr b1950 0), (21, .slice a2249 l2248.length l2248.length), (36, .slice a26 l24.length l24.length), (37, .int .i64 (l24.length : Int)), (38, .int .i64 v31), (235, .slice a2246 l2245.length l2245.length), (236, .int .i64 (l2245.length : Int)), (237, .int .i64 v2517)], [.obj b1950 (.cells [.int .i64 x1945, .slice a1948 l1946.length c1949] .own), .rd a1948 c1949 2 l1946.length (l1946.map (eP (eI .i64) (eI .i64))), .sl a2249 1 l2248.length (l2248.map (eI .i64)), .sl a2246 2 l2245.length (l2245.map (eP (eI .i64) (eI .i64)))]⟩) (fun (r : (Unit) ⊕ (Unit)) (g : Unit) => match r, g with | .inl _, _ => ⟨.ret, [(6, .bool false)], []⟩ | .inr _, _ => ⟨(.exit 8), [(2, .int .u64 ((x18 : Nat) : Int)), (36, .slice a26 l24.length l24.length), (37, .int .i64 (l24.length : Int)), (38, .int .i64 v31)], []⟩) ?_ (fun _ _ => rfl) (fun r d => by rcases r with _ | _ <;> (intro e; cases e)) _ _ _ h2561 ()
                clear hF h2561
                rintro v2517 ⟨⟩ r hF
                unfold L12_5 at hF
                refine Wk.seq <| Wk.region <| Wo.od (o_bi rfl rfl (bin_lss _ _ _)) rfl ?_
                refine Wo.nil <| At.tn <| Wk.seq ?_
                rcases br_some hF with ⟨h2540, hF⟩ | ⟨h2540, hF⟩
                ·refine Wk.condT rfl h2540 ?_
                 refine Wk.skip <| At.tn <| Wk.seq <| Wk.block <| Wk.seq <| Wk.region ?_
                 obtain ⟨h2541, hF⟩ := gd_some hF
                 replace h2541 := inB_some h2541
                 refine Wo.open (k := 3) rfl (pos_of h2541) ?_
                 rintro b2542 tg2543 rfl h2544
                 refine Wo.og (o_ixa s23 rfl rfl h2541) gn rfl ?_
                 obtain ⟨⟨x2545, x2546⟩, h2547, hF⟩ := ob_some hF
                 refine Wo.od (o_lda (k := 3) t26 rfl rfl (map_at h2547) rfl rfl) rfl ?_
                 refine Wo.x (o_al z26 rfl) gn rfl fun b2548 => ?_
                 refine Wo.o0 (o_st (k := 0) t26 rfl rfl rfl rfl rfl) ?_
                 refine Wo.nil <| At.tn <| Wk.seq <| Wk.draw (by kernel_rfl) ?_
                 refine Wo.od (o_fa (r := ptr b1950 1) rfl (fa25_1 _ _)) rfl ?_
                 refine Wo.od (o_ld (k := 1) t23 rfl rfl rfl) rfl ?_
                 refine Wo.od (o_mv rfl) rfl ?_
                 refine Wo.od (o_ia (r := ptr b2548 0) rfl rfl (ia_c ar26 (i := 0) (by decide))) rfl ?_
                 refine Wo.od (o_ld (k := 0) t3 rfl rfl rfl) rfl ?_
                 obtain ⟨h2549, hF⟩ := gd_some hF
                 replace h2549 := inB_some h2549
                 refine Wo.open (k := 3) rfl (pos_of h2549) ?_
                 rintro b2550 tg2551 rfl h2552
                 refine Wo.og (o_ixa s39 rfl rfl h2549) gn rfl ?_
                 obtain ⟨x2553, h2554, hF⟩ := ob_some hF
                 refine Wo.od (o_lda (k := 3) t3 rfl rfl (map_at h2554) rfl rfl) rfl ?_
                 refine Wo.od (o_mv rfl) rfl ?_
                 refine Wo.od (o_ia (r := ptr b2548 1) rfl rfl (ia_c ar26 (i := 1) (by decide))) rfl ?_
                 refine Wo.od (o_ld (k := 0) t3 rfl rfl rfl) rfl ?_
                 obtain ⟨h2555, hF⟩ := gd_some hF
                 replace h2555 := inB_some h2555
                 refine Wo.og (o_ixa s39 rfl rfl h2555) gn rfl ?_
                 obtain ⟨x2556, h2557, hF⟩ := ob_some hF
                 refine Wo.od (o_lda (k := 3) t3 rfl rfl (map_at h2557) rfl rfl) rfl ?_
                 refine Wo.od (o_bd rfl z26 rfl (bd_s bs26 rfl rfl rfl)) rfl ?_
                 obtain ⟨r2559, h2558, hF⟩ := ob_some hF
                 refine Wo.x (o_cl rfl rfl (fun m hm => f48_ok n l1946 x2553 x2556 a1948 c1949 _ h2558 m (hm.rd (k := 2) rfl (.rd _ _ _ _ _))) fun _ => rfl) gn rfl ?_
                 rintro ⟨⟩
                 refine Wo.od (o_un rfl rfl) rfl ?_
                 refine Wo.nil <| At.tn ?_
                 rcases br_some hF with ⟨h2560, hF⟩ | ⟨h2560, hF⟩
                 ·refine Wk.condT rfl h2560 ?_
                  refine Wk.seq <| Wk.region <| Wo.od (o_as rfl) rfl ?_
                  refine Wo.nil <| At.tn <| Wk.ret <| At.br <| At.tr ?_
                  cases hF
                  exact At.en () rfl (sc rfl sn) (Turn.picks [] rfl rfl)
                 ·refine Wk.condF rfl h2560 ?_
                  refine Wk.skip <| At.bn <| At.tn <| Wk.region <| Wo.od (o_bi rfl rfl (bin_add _ _ _)) rfl ?_
                  refine Wo.od (o_mv rfl) rfl ?_
                  refine Wo.nil ?_
                  cases hF
                  exact At.en () rfl (sc rfl (sc rfl (sc rfl (sc rfl (sc rfl (sc rfl (sc rfl (sc rfl (sc rfl sn))))))))) (Turn.trans (Turn.close (k := 3) rfl) (Turn.trans (Turn.close (k := 4) rfl) (Turn.picks [1, 2, 3, 4] rfl rfl)))
                ·refine Wk.condF rfl h2540 ?_
                 refine Wk.exit <| At.te ?_
                 cases hF
                 exact At.en () rfl (sc rfl (sc rfl (sc rfl (sc rfl sn)))) (Turn.picks [] rfl rfl)
               ·clear h2561
                rcases r2562 with _ | _
                ·rintro ⟨⟩
                 refine At.br <| At.br ?_
                 cases hF
                 exact At.en () rfl (sc rfl sn) (Turn.picks [] rfl rfl)
                ·rintro ⟨⟩
                 refine At.be <| At.bn ?_
                 cases hF
                 exact At.en () rfl (sc rfl (sc rfl (sc rfl (sc rfl sn)))) (Turn.picks [] rfl rfl)
    ·clear h2563
     rcases r2564 with _ | _
     ·rintro ⟨⟩
      refine At.tr ?_
      cases hF
      exact At.en () rfl (sc rfl sn) (Turn.picks [] rfl rfl)
     ·rintro ⟨⟩
      refine At.tn <| Wk.region <| Wo.od (o_bi rfl rfl (bin_add _ _ _)) rfl ?_
      refine Wo.od (o_mv rfl) rfl ?_
      refine Wo.nil ?_
      cases hF
      exact At.en () rfl (sc rfl (sc rfl (sc rfl (sc rfl sn)))) (Turn.picks [] rfl rfl)
   ·refine Wk.condF rfl h1324 ?_
    refine Wk.exit <| At.te ?_
    cases hF
    exact At.en () rfl sn (Turn.picks [] rfl rfl)
  ·clear h2565
   rcases r2566 with _ | _
   ·rintro ⟨⟩
    refine At.br <| At.tr ?_
    cases hF
    exact At.ret (.tmp rfl .nil) fun m' hm => ⟨(), rfl, (Hp.base h28 ((Turn.picks [] rfl rfl) m' hm))⟩
   ·rintro ⟨⟩
    refine At.be <| At.tn <| Wk.seq <| Wk.region <| Wo.od (o_as rfl) rfl ?_
    refine Wo.nil <| At.tn <| Wk.ret ?_
    cases hF
    exact At.ret (.tmp rfl .nil) fun m' hm => ⟨(), rfl, (Hp.base h28 ((Turn.picks [] rfl rfl) m' hm))⟩
end Go.Proofs.YtpclggcpobakhaaDoor.W12
end

section
namespace Go.Proofs.YtpclggcpobakhaaDoor
open Go Go.Ab Go.Ab.W
section
variable {α β σ ρ : Type}
theorem br_t (a b : Option β) : br true a b = a := rfl
theorem br_f (a b : Option β) : br false a b = b := rfl
theorem gd_t (a : Option β) : gd true a = a := rfl
theorem ob_s (x : α) (f : α → Option β) : ob (some x) f = f x := rfl
theorem br_dt {p : Prop} [Decidable p] (h : p) (a b : Option β) : br (decide p) a b = a := by rw [decide_eq_true h]; rfl
theorem br_df {p : Prop} [Decidable p] (h : ¬ p) (a b : Option β) : br (decide p) a b = b := by rw [decide_eq_false h]; rfl
theorem br_ite (c : Bool) (a b : Option β) : br c a b = if c then a else b := by cases c <;> rfl
theorem gd_dt {p : Prop} [Decidable p] (h : p) (a : Option β) : gd (decide p) a = a := by rw [decide_eq_true h]; rfl
theorem inB_nat {i n : Nat} (h : i < n) : inB (i : Int) n = true := decide_eq_true ⟨Int.natCast_nonneg i, by simpa using h⟩
theorem wrap_in {x : Int} (h1 : -9223372036854775808 ≤ x) (h2 : x < 9223372036854775808) : IntKind.wrap .i64 x = x := wrap_i64 x h1 (by omega)
theorem wrap_succ {i : Nat} (h : i < 4611686018427387904) : IntKind.wrap .i64 ((i : Int) + 1) = ((i + 1 : Nat) : Int) := by rw [wrap_in (by omega) (by omega)]; rfl
theorem lp_next {body : σ → Option (σ ⊕ ρ)} {n : Nat} {s s' : σ} (h : body s = some (.inl s')) : lpN body (n + 1) s = lpN body n s' := by simp only [lpN, h]
theorem lp_end {body : σ → Option (σ ⊕ ρ)} {n : Nat} {s : σ} {r : ρ} (h : body s = some (.inr r)) : lpN body (n + 1) s = some r := by simp only [lpN, h]
end
theorem drop_len {α : Type} {l l' : List α} {i : Nat} (h : l.length = l'.length) (hi : l.length ≤ i) : l.drop i = l'.drop i := by
 rw [List.drop_of_length_le hi, List.drop_of_length_le (by omega)]
theorem L34_eq (n0 : Nat) {l2 l7 : List (Int × Int)} (h2 : l2.length = l7.length) (hl : l2.length < 4611686018427387904) : ∀ k i n, i + k = l2.length → k < n → lpN (L34_1 n0 l2 l7) n ((i : Nat) : Int) = some (if l2.drop i = l7.drop i then .inr () else .inl ()) := by
 intro k
 induction k with
 | zero =>
  intro i n hi hk
  obtain ⟨n, rfl⟩ : ∃ n', n = n' + 1 := ⟨n - 1, by omega⟩
  rw [if_pos (drop_len h2 (by omega))]
  exact lp_end (by unfold L34_1; rw [br_df (by omega)])
 | succ k ih =>
  intro i n hi hk
  obtain ⟨n, rfl⟩ : ∃ n', n = n' + 1 := ⟨n - 1, by omega⟩
  have a1 : i < l2.length := by omega
  have a2 : i < l7.length := by omega
  have e1 : l2[((i : Nat) : Int).toNat]? = some l2[i] := by simp [a1]
  have e2 : l7[((i : Nat) : Int).toNat]? = some l7[i] := by simp [a2]
  have c1 : decide (((i : Nat) : Int) < (l2.length : Int)) = true := decide_eq_true (by omega)
  have hb : i < 4611686018427387904 := by omega
  rw [List.drop_eq_getElem_cons a1, List.drop_eq_getElem_cons a2]
  generalize l2[i] = p at e1 ⊢
  generalize l7[i] = q at e2 ⊢
  obtain ⟨p1, p2⟩ := p
  obtain ⟨q1, q2⟩ := q
  by_cases hpq : p1 = q1 ∧ p2 = q2
  ·obtain ⟨rfl, rfl⟩ := hpq
   rw [lp_next (s' := ((i + 1 : Nat) : Int)) (by simp only [L34_1, c1, br_t, inB_nat a1, gd_t, e1, ob_s, inB_nat a2, e2, decide_true, Bool.and_self, Bool.not_true, br_f, wrap_succ hb])]
   rw [ih (i + 1) n (by omega) (by omega)]
   simp
  ·have hd : (!(decide (p1 = q1) && decide (p2 = q2))) = true := by
    by_cases h : p1 = q1 <;> simp_all
   rw [lp_end (r := .inl ()) (by simp only [L34_1, c1, br_t, inB_nat a1, gd_t, e1, ob_s, inB_nat a2, e2, hd])]
   rw [if_neg (by simp; intro h3 h4; exact absurd ⟨h3, h4⟩ hpq)]
theorem F34_eq (n : Nat) (l2 l7 : List (Int × Int)) (hl : l2.length < 4611686018427387904) (hn : l2.length < n) : F34 n l2 l7 = some (decide (l2 = l7)) := by
 unfold F34
 by_cases h2 : l2.length = l7.length
 ·have h2' : ((l2.length : Int) = (l7.length : Int)) := by omega
  rw [show (!decide ((l2.length : Int) = (l7.length : Int))) = false by simp [h2'], br_f]
  have := L34_eq n h2 hl l2.length 0 n (by omega) hn
  simp only [List.drop_zero] at this
  rw [show lpN (L34_1 n l2 l7) n 0 = _ from this, ob_s]
  by_cases h3 : l2 = l7
  ·simp [h3]
  ·simp [h3]
 ·have h2' : ¬ ((l2.length : Int) = (l7.length : Int)) := by omega
  have h3 : ¬ l2 = l7 := fun e => h2 (by rw [e])
  rw [show (!decide ((l2.length : Int) = (l7.length : Int))) = true by simp [h2'], br_t]
  simp [h3]
theorem F27_eq (n : Nat) (x1 x6 : Int) (l2 l7 : List (Int × Int)) (hl : l2.length < 4611686018427387904) (hn : l2.length < n) : F27 n x1 l2 x6 l7 = some (decide (x1 = x6) && decide (l2 = l7)) := by
 unfold F27
 by_cases h : x1 = x6
 ·rw [br_dt h, F34_eq n l2 l7 hl hn, ob_s]; simp [h]
 ·rw [br_df h]; simp [h]
def okEp (N : Int) : Int × Int → List (Int × Int) → Bool
 | _, [] => true
 | p, e :: es => decide (0 ≤ e.1 ∧ e.1 < e.2 ∧ e.2 < N) && decide (p.1 < e.1 ∨ p.1 = e.1 ∧ p.2 < e.2) && okEp N e es
def okG (N : Int) (es : List (Int × Int)) : Bool := decide (1 ≤ N ∧ N ≤ 64 ∧ es.length ≤ 200) && okEp N (-1, -1) es
def ckG (N : Int) (es : List (Int × Int)) : Int := if okG N es then 0 else 180
theorem F94_eq (n : Nat) (x : Int) : F94 n x = some false := by unfold F94; simp
theorem F81_eq (n : Nat) (x y : Int) : F81 n x y = some (if x < y then -1 else if y < x then 1 else 0) := by
 unfold F81
 simp only [F94_eq, ob_s, br_f]
 rw [br_ite, br_ite]
 by_cases h : x < y
 ·simp [h]
 ·by_cases h' : y < x <;> simp [h, h']
theorem F64_eq (n : Nat) (a b c d : Int) (hn : 2 < n) : F64 n [a, b] [c, d] = some (if a < c then -1 else if c < a then 1 else if b < d then -1 else if d < b then 1 else 0) := by
 obtain ⟨n, rfl⟩ : ∃ n', n = n' + 3 := ⟨n - 3, by omega⟩
 have L0 : L64_1 (n + 3) [a, b] [c, d] 0 = if a < c then some (.inr (.inl (-1))) else if c < a then some (.inr (.inl 1)) else some (.inl 1) := by
  unfold L64_1
  simp only [List.length_cons, List.length_nil]
  rw [br_dt (by decide), show inB 0 (0 + 1 + 1) = true by decide, gd_t]
  simp only [Int.toNat_zero, List.getElem?_cons_zero, ob_s]
  rw [br_df (by decide), gd_t]
  simp only [F81_eq, ob_s]
  by_cases h : a < c
  ·simp [h, br_t]
  ·by_cases h' : c < a
   ·simp [h, h', br_t]
   ·simp only [h, h', if_false, decide_true, Bool.not_true, br_f]
    rw [wrap_in (by decide) (by decide)]; rfl
 have L1 : L64_1 (n + 3) [a, b] [c, d] 1 = if b < d then some (.inr (.inl (-1))) else if d < b then some (.inr (.inl 1)) else some (.inl 2) := by
  unfold L64_1
  simp only [List.length_cons, List.length_nil]
  rw [br_dt (by decide), show inB 1 (0 + 1 + 1) = true by decide, gd_t]
  simp only [show (1 : Int).toNat = 1 from rfl, List.getElem?_cons_succ, List.getElem?_cons_zero, ob_s]
  rw [br_df (by decide), gd_t]
  simp only [F81_eq, ob_s]
  by_cases h : b < d
  ·simp [h, br_t]
  ·by_cases h' : d < b
   ·simp [h, h', br_t]
   ·simp only [h, h', if_false, decide_true, Bool.not_true, br_f]
    rw [wrap_in (by decide) (by decide)]; rfl
 have L2 : L64_1 (n + 3) [a, b] [c, d] 2 = some (.inr (.inr ())) := by
  unfold L64_1
  simp only [List.length_cons, List.length_nil]
  rw [br_df (by decide)]
 unfold F64
 by_cases h1 : a < c
 ·rw [if_pos h1] at L0 ⊢
  rw [lp_end L0]; rfl
 ·rw [if_neg h1] at L0 ⊢
  by_cases h2 : c < a
  ·rw [if_pos h2] at L0 ⊢
   rw [lp_end L0]; rfl
  ·rw [if_neg h2] at L0 ⊢
   rw [lp_next L0]
   by_cases h3 : b < d
   ·rw [if_pos h3] at L1 ⊢
    rw [lp_end L1]; rfl
   ·rw [if_neg h3] at L1 ⊢
    by_cases h4 : d < b
    ·rw [if_pos h4] at L1 ⊢
     rw [lp_end L1]; rfl
    ·rw [if_neg h4] at L1 ⊢
     rw [lp_next L1, lp_end L2, ob_s]
     simp only [List.length_cons, List.length_nil]
     rfl
def stepOk (N : Int) (p e : Int × Int) : Bool := decide (0 ≤ e.1 ∧ e.1 < e.2 ∧ e.2 < N) && decide (p.1 < e.1 ∨ p.1 = e.1 ∧ p.2 < e.2)
theorem okE_cons (N : Int) (p e : Int × Int) (es : List (Int × Int)) : okEp N p (e :: es) = (stepOk N p e && okEp N e es) := rfl
theorem L23_step (n : Nat) (l2 : List (Int × Int)) (N : Int) (p : Int × Int) (i : Nat) (e : Int × Int) (hn : 2 < n) (hi : l2[i]? = some e) (hb : i < 4611686018427387904) :
  L23_1 n l2 N (p.1, p.2, (i : Int)) = if stepOk N p e then some (.inl (e.1, e.2, ((i + 1 : Nat) : Int))) else some (.inr (.inl ())) := by
 obtain ⟨p1, p2⟩ := p
 obtain ⟨a, b⟩ := e
 have a1 : i < l2.length := (List.getElem?_eq_some_iff.1 hi).1
 have e1 : l2[((i : Nat) : Int).toNat]? = some (a, b) := by simpa using hi
 have c1 : decide (((i : Nat) : Int) < (l2.length : Int)) = true := decide_eq_true (by omega)
 simp only [L23_1, c1, br_t, inB_nat a1, gd_t, e1, ob_s, F64_eq n _ _ _ _ hn, wrap_succ hb]
 by_cases h1 : a < 0
 ·have : stepOk N (p1, p2) (a, b) = false := by simp [stepOk]; omega
  rw [this, br_dt h1, ob_s, br_t]; rfl
 ·rw [br_df h1]
  by_cases h2 : b ≤ a
  ·have : stepOk N (p1, p2) (a, b) = false := by simp [stepOk]; omega
   rw [this, br_dt h2, ob_s, br_t]; rfl
  ·rw [br_df h2]
   by_cases h3 : N ≤ b
   ·have : stepOk N (p1, p2) (a, b) = false := by simp [stepOk]; omega
    rw [this, br_dt h3, ob_s, br_t]; rfl
   ·rw [br_df h3, ob_s]
    by_cases h4 : p1 < a ∨ p1 = a ∧ p2 < b
    ·have : stepOk N (p1, p2) (a, b) = true := by simp [stepOk]; omega
     have h5 : ¬ (0 ≤ (if p1 < a then (-1 : Int) else if a < p1 then 1 else if p2 < b then -1 else if b < p2 then 1 else 0)) := by
      rcases h4 with h4 | ⟨h4, h5⟩
      ·rw [if_pos h4]; decide
      ·rw [if_neg (by omega), if_neg (by omega), if_pos h5]; decide
     rw [this, br_df h5]; rfl
    ·have : stepOk N (p1, p2) (a, b) = false := by simp [stepOk]; omega
     have h5 : 0 ≤ (if p1 < a then (-1 : Int) else if a < p1 then 1 else if p2 < b then -1 else if b < p2 then 1 else 0) := by
      rw [if_neg (by omega)]
      by_cases h6 : a < p1
      ·rw [if_pos h6]; decide
      ·rw [if_neg h6, if_neg (by omega)]; split <;> decide
     rw [this, br_dt h5]; rfl
theorem L23_eq (n0 : Nat) (l2 : List (Int × Int)) (N : Int) (hn : 2 < n0) (hl : l2.length < 4611686018427387904) : ∀ k i p n, i + k = l2.length → k < n → lpN (L23_1 n0 l2 N) n (p.1, p.2, (i : Int)) = some (if okEp N p (l2.drop i) then .inr () else .inl ()) := by
 intro k
 induction k with
 | zero =>
  intro i p n hi hk
  obtain ⟨n, rfl⟩ : ∃ n', n = n' + 1 := ⟨n - 1, by omega⟩
  rw [List.drop_of_length_le (by omega)]
  exact lp_end (by simp only [L23_1]; rw [br_df (by omega)]; rfl)
 | succ k ih =>
  intro i p n hi hk
  obtain ⟨n, rfl⟩ : ∃ n', n = n' + 1 := ⟨n - 1, by omega⟩
  have a1 : i < l2.length := by omega
  have hs := L23_step n0 l2 N p i l2[i] hn (by simp [a1]) (by omega)
  rw [List.drop_eq_getElem_cons a1, okE_cons]
  by_cases h : stepOk N p l2[i] = true
  ·rw [if_pos h] at hs
   rw [lp_next hs, ih (i + 1) l2[i] n (by omega) (by omega), h, Bool.true_and]
  ·rw [if_neg h] at hs
   rw [lp_end hs]
   simp only [Bool.not_eq_true] at h
   rw [h]; rfl
theorem head_eq (N : Int) (len : Nat) : (br (decide (N < 1)) (some true) (br (decide (64 < N)) (some true) (some (decide (200 < (len : Int)))))) = some (!decide (1 ≤ N ∧ N ≤ 64 ∧ len ≤ 200)) := by
 rw [br_ite, br_ite]
 by_cases h1 : N < 1
 ·have : ¬ (1 ≤ N ∧ N ≤ 64 ∧ len ≤ 200) := by omega
  simp [h1, this]
 ·by_cases h2 : 64 < N
  ·have : ¬ (1 ≤ N ∧ N ≤ 64 ∧ len ≤ 200) := by omega
   simp [h1, h2, this]
  ·by_cases h3 : 200 < (len : Int)
   ·have : ¬ (1 ≤ N ∧ N ≤ 64 ∧ len ≤ 200) := by omega
    simp only [h1, h2, h3, this, decide_true, decide_false, Bool.false_eq_true, if_false, Bool.not_false]
   ·have : (1 ≤ N ∧ N ≤ 64 ∧ len ≤ 200) := by omega
    simp only [h1, h2, h3, this, decide_true, decide_false, Bool.false_eq_true, if_false, Bool.not_true, and_self]
theorem F23_eq (n : Nat) (N : Int) (es : List (Int × Int)) (hn : 2 < n) (hl : es.length < 4611686018427387904) (hk : es.length < n) : F23 n N es = some (ckG N es) := by
 unfold F23
 rw [head_eq, ob_s]
 unfold ckG okG
 by_cases h : 1 ≤ N ∧ N ≤ 64 ∧ es.length ≤ 200
 ·rw [decide_eq_true h, Bool.not_true, br_f, Bool.true_and]
  have := L23_eq n es N hn hl es.length 0 (-1, -1) n (by omega) hk
  rw [List.drop_zero] at this
  rw [show lpN (L23_1 n es N) n (-1, -1, 0) = _ from this, ob_s]
  by_cases h2 : okEp N (-1, -1) es = true
  ·rw [if_pos h2, if_pos h2]
  ·rw [if_neg h2, if_neg h2]
 ·rw [decide_eq_false h, Bool.not_false, br_t, Bool.false_and]; rfl
def prevOf (l : List (Int × Int)) (i : Nat) (p : Int × Int) : Prop := (i = 0 ∧ p = (-1, -1)) ∨ (0 < i ∧ l[i - 1]? = some p)
theorem L43_step (n : Nat) (l2 : List (Int × Int)) (N : Int) (p : Int × Int) (i : Nat) (e : Int × Int) (hp : prevOf l2 i p) (hi : l2[i]? = some e) (hb : i < 4611686018427387904) :
  L43_1 n l2 N (i : Int) = if stepOk N p e then some (.inl ((i + 1 : Nat) : Int)) else some (.inr (.inl ())) := by
 obtain ⟨p1, p2⟩ := p
 obtain ⟨a, b⟩ := e
 have a1 : i < l2.length := (List.getElem?_eq_some_iff.1 hi).1
 have e1 : l2[((i : Nat) : Int).toNat]? = some (a, b) := by simpa using hi
 have c1 : decide (((i : Nat) : Int) < (l2.length : Int)) = true := decide_eq_true (by omega)
 simp only [L43_1, c1, br_t, inB_nat a1, gd_t, e1, ob_s, wrap_succ hb]
 by_cases h1 : a < 0
 ·have : stepOk N (p1, p2) (a, b) = false := by simp [stepOk]; omega
  rw [this, br_dt h1, ob_s, br_t]; rfl
 ·rw [br_df h1]
  by_cases h2 : b ≤ a
  ·have : stepOk N (p1, p2) (a, b) = false := by simp [stepOk]; omega
   rw [this, br_dt h2, ob_s, br_t]; rfl
  ·rw [br_df h2, ob_s]
   by_cases h3 : N ≤ b
   ·have : stepOk N (p1, p2) (a, b) = false := by simp [stepOk]; omega
    rw [this, br_dt h3]; rfl
   ·rw [br_df h3]
    rcases hp with ⟨rfl, h4⟩ | ⟨h0, h4⟩
    ·cases h4
     have : stepOk N (-1, -1) (a, b) = true := by simp [stepOk]; omega
     rw [this, br_df (by omega), ob_s, br_f]; rfl
    ·have w1 : IntKind.wrap .i64 ((i : Int) - 1) = ((i - 1 : Nat) : Int) := by rw [wrap_in (by omega) (by omega)]; omega
     have e2 : l2[((i - 1 : Nat) : Int).toNat]? = some (p1, p2) := by simpa using h4
     rw [br_dt (by omega), w1, inB_nat (by omega : i - 1 < l2.length), gd_t, e2, ob_s]
     simp only [gd_t]
     by_cases h5 : a < p1
     ·have : stepOk N (p1, p2) (a, b) = false := by simp [stepOk]; omega
      rw [this, br_dt h5, ob_s, br_t]; rfl
     ·rw [br_df h5]
      by_cases h6 : p1 = a
      ·rw [br_dt h6, ob_s]
       by_cases h7 : b ≤ p2
       ·have : stepOk N (p1, p2) (a, b) = false := by simp [stepOk]; omega
        rw [this, br_dt h7]; rfl
       ·have : stepOk N (p1, p2) (a, b) = true := by simp [stepOk]; omega
        rw [this, br_df h7]; rfl
      ·have : stepOk N (p1, p2) (a, b) = true := by simp [stepOk]; omega
       rw [this, br_df h6, ob_s, br_f]; rfl
theorem L43_eq (n0 : Nat) (l2 : List (Int × Int)) (N : Int) (hl : l2.length < 4611686018427387904) : ∀ k i p n, prevOf l2 i p → i + k = l2.length → k < n → lpN (L43_1 n0 l2 N) n (i : Int) = some (if okEp N p (l2.drop i) then .inr () else .inl ()) := by
 intro k
 induction k with
 | zero =>
  intro i p n hp hi hk
  obtain ⟨n, rfl⟩ : ∃ n', n = n' + 1 := ⟨n - 1, by omega⟩
  rw [List.drop_of_length_le (by omega)]
  exact lp_end (by simp only [L43_1]; rw [br_df (by omega)]; rfl)
 | succ k ih =>
  intro i p n hp hi hk
  obtain ⟨n, rfl⟩ : ∃ n', n = n' + 1 := ⟨n - 1, by omega⟩
  have a1 : i < l2.length := by omega
  have hs := L43_step n0 l2 N p i l2[i] hp (by simp [a1]) (by omega)
  rw [List.drop_eq_getElem_cons a1, okE_cons]
  by_cases h : stepOk N p l2[i] = true
  ·rw [if_pos h] at hs
   rw [lp_next hs, ih (i + 1) l2[i] n (.inr ⟨by omega, by simp [a1]⟩) (by omega) (by omega), h, Bool.true_and]
  ·rw [if_neg h] at hs
   rw [lp_end hs]
   simp only [Bool.not_eq_true] at h
   rw [h]; rfl
theorem F43_eq (n : Nat) (N : Int) (es : List (Int × Int)) (hl : es.length < 4611686018427387904) (hk : es.length < n) : F43 n N es = some (ckG N es) := by
 unfold F43
 rw [head_eq, ob_s]
 unfold ckG okG
 by_cases h : 1 ≤ N ∧ N ≤ 64 ∧ es.length ≤ 200
 ·rw [decide_eq_true h, Bool.not_true, br_f, Bool.true_and]
  have := L43_eq n es N hl es.length 0 (-1, -1) n (.inl ⟨rfl, rfl⟩) (by omega) hk
  rw [List.drop_zero] at this
  rw [show lpN (L43_1 n es N) n 0 = _ from this, ob_s]
  by_cases h2 : okEp N (-1, -1) es = true
  ·rw [if_pos h2, if_pos h2]
  ·rw [if_neg h2, if_neg h2]
 ·rw [decide_eq_false h, Bool.not_false, br_t, Bool.false_and]; rfl
end Go.Proofs.YtpclggcpobakhaaDoor
end

section
namespace Go.Proofs.YtpclggcpobakhaaDoor
open Go Go.Ab Go.Ab.W
theorem lp_tot {σ ρ : Type} {body : σ → Option (σ ⊕ ρ)} {R : ρ → Prop} (I : Nat → σ → Prop) (h : ∀ k s, I k s → (∃ s', body s = some (.inl s') ∧ ∃ k', k' < k ∧ I k' s') ∨ ∃ r, body s = some (.inr r) ∧ R r) : ∀ k s n, I k s → k < n → ∃ r, lpN body n s = some r ∧ R r := by
 intro k
 induction k using Nat.strongRecOn with
 | _ k ih =>
  intro s n hI hk
  obtain ⟨n, rfl⟩ : ∃ n', n = n' + 1 := ⟨n - 1, by omega⟩
  rcases h k s hI with ⟨s', h1, k', h2, h3⟩ | ⟨r, h1, h2⟩
  ·obtain ⟨r, h4, h5⟩ := ih k' h2 s' n h3 (by omega)
   exact ⟨r, by rw [lp_next h1]; exact h4, h5⟩
  ·exact ⟨r, lp_end h1, h2⟩
theorem br_bool {c : Bool} {a b : Option Bool} (ha : c = true → ∃ x, a = some x) (hb : c = false → ∃ x, b = some x) : ∃ x, br c a b = some x := by
 cases c with
 | true => exact ha rfl
 | false => exact hb rfl
theorem some_b (x : Bool) : ∃ y, some x = some y := ⟨x, rfl⟩
theorem lim_of {n : Nat} (h : n ≤ 1073741824) : lim n = true := Nat.ble_eq_true_of_le h
theorem L40_1_tot (n0 : Nat) (l4 : List (Nat × Nat)) (N a b : Int) (hN : N ≠ 0) (v : Bool) (n : Nat) (hn : 3 < n) : ∃ r, lpN (L40_1 n0 l4 N a b) n (v, 0) = some r := by
 obtain ⟨r, h, _⟩ := lp_tot (body := L40_1 n0 l4 N a b) (R := fun _ => True) (fun k s => 0 ≤ s.2 ∧ s.2 + k = 3) (fun k s hI => by
  obtain ⟨v, i⟩ := s
  obtain ⟨h1, h2⟩ := hI
  simp only at h1 h2
  simp only [L40_1]
  by_cases c1 : i < (l4.length : Int)
  ·rw [br_dt c1, ob_s]
   by_cases c2 : i < 3
   ·rw [decide_eq_true c2, br_t]
    have hb : inB i l4.length = true := decide_eq_true ⟨h1, by omega⟩
    have hlt : i.toNat < l4.length := by omega
    have he : l4[i.toNat]? = some l4[i.toNat] := by simp [hlt]
    rw [hb, gd_t, he, ob_s]
    generalize l4[i.toNat] = e
    obtain ⟨x, y⟩ := e
    simp only [gd_t]
    rw [gd_dt hN, gd_dt hN]
    have : ∃ z, br v (some true) (br (decide (Int.tmod (IntKind.wrap .i64 ((x : Nat) : Int)) N = a)) (br (decide (Int.tmod (IntKind.wrap .i64 ((y : Nat) : Int)) N = b)) (some true) (br (decide (Int.tmod (IntKind.wrap .i64 ((x : Nat) : Int)) N = b)) (some (decide (Int.tmod (IntKind.wrap .i64 ((y : Nat) : Int)) N = a))) (some false))) (br (decide (Int.tmod (IntKind.wrap .i64 ((x : Nat) : Int)) N = b)) (some (decide (Int.tmod (IntKind.wrap .i64 ((y : Nat) : Int)) N = a))) (some false))) = some z :=
     br_bool (fun _ => some_b _) fun _ => br_bool (fun _ => br_bool (fun _ => some_b _) fun _ => br_bool (fun _ => some_b _) fun _ => some_b _) fun _ => br_bool (fun _ => some_b _) fun _ => some_b _
    obtain ⟨z, hz⟩ := this
    refine .inl ⟨(z, i + 1), ?_, k - 1, by omega, by simp only; omega, by simp only; omega⟩
    rw [hz, ob_s, wrap_in (by omega) (by omega)]
   ·rw [decide_eq_false c2, br_f]; exact .inr ⟨v, rfl, trivial⟩
  ·rw [br_df c1, ob_s, br_f]; exact .inr ⟨v, rfl, trivial⟩) 3 (v, 0) n ⟨by simp, by simp⟩ hn
 exact ⟨r, h⟩
theorem L40_2_tot (n0 : Nat) (N a w : Int) (x3 : Nat) (l4 : List (Nat × Nat)) (hN : 1 ≤ N ∧ N ≤ 12) (hw : w ≠ 0) (l : List (Int × Int)) (c b : Int) (M : Nat) (hl : l.length ≤ M) (hM : M ≤ 1000) (hb : 0 ≤ b ∧ b ≤ N) (n : Nat) (hn : 12 < n) (hn0 : 3 < n0) :
  ∃ r, lpN (L40_2 n0 N a w x3 l4) n (l, c, b) = some r ∧ r.1.length ≤ M + 12 := by
 refine lp_tot (body := L40_2 n0 N a w x3 l4) (R := fun r => r.1.length ≤ M + 12) (fun k s => 0 ≤ s.2.2 ∧ s.2.2 + k = N ∧ s.1.length + k ≤ M + 12) (fun k s hI => ?_) (N - b).toNat (l, c, b) n ⟨hb.1, by simp only; omega, by simp only; omega⟩ (by omega)
 obtain ⟨l, c, b⟩ := s
 obtain ⟨h1, h2, h3⟩ := hI
 simp only at h1 h2 h3
 simp only [L40_2]
 by_cases c1 : b < N
 ·rw [br_dt c1]
  have e1 : ∃ z, br (decide (b = IntKind.wrap .i64 (a + w))) (some true) (br (decide (b = IntKind.wrap .i64 (a + 1))) (gd (decide (w ≠ 0)) (some (!decide (Int.tmod b w = 0)))) (some false)) = some z :=
   br_bool (fun _ => some_b _) fun _ => br_bool (fun _ => ⟨_, gd_dt hw _⟩) fun _ => some_b _
  obtain ⟨z, hz⟩ := e1
  rw [hz, ob_s]
  have e2 : ∃ c' z', br z (ob (ob (br (decide (Int.tmod c 2 = 1)) (ob (some (ushr .u16 x3 (ui .u64 (Int.tmod (IntKind.wrap .i64 (Int.tdiv c 2)) 16)))) fun y2906 => some (decide (uw .u16 (uw .u16 y2906 &&& uw .u16 1) = 1))) (some false)) fun v2904 => br v2904 (some false) (some z)) fun v2900 => some (IntKind.wrap .i64 (c + 1), v2900)) (some (c, z)) = some (c', z') := by
   cases z with
   | false => exact ⟨c, false, rfl⟩
   | true =>
    rw [br_t]
    have : ∃ q, (ob (br (decide (Int.tmod c 2 = 1)) (ob (some (ushr .u16 x3 (ui .u64 (Int.tmod (IntKind.wrap .i64 (Int.tdiv c 2)) 16)))) fun y2906 => some (decide (uw .u16 (uw .u16 y2906 &&& uw .u16 1) = 1))) (some false)) fun v2904 => br v2904 (some false) (some true)) = some q := by
     by_cases h : Int.tmod c 2 = 1
     ·rw [br_dt h, ob_s, ob_s]; exact br_bool (fun _ => some_b _) fun _ => some_b _
     ·rw [br_df h, ob_s]; exact br_bool (fun _ => some_b _) fun _ => some_b _
    obtain ⟨q, hq⟩ := this
    exact ⟨_, q, by rw [hq, ob_s]⟩
  obtain ⟨c', z', hz'⟩ := e2
  rw [hz', ob_s]
  obtain ⟨q, hq⟩ := L40_1_tot n0 l4 N a b (by omega) z' n0 hn0
  simp only [hq, ob_s]
  cases q with
  | false =>
   refine .inl ⟨(l, c', b + 1), ?_, k - 1, by omega, by simp only; omega, by simp only; omega, by simp only; omega⟩
   rw [br_f, ob_s, wrap_in (by omega) (by omega)]
  | true =>
   refine .inl ⟨(l ++ [(a, b)], c', b + 1), ?_, k - 1, by omega, by simp only; omega, by simp only; omega, by simp; omega⟩
   rw [br_t, lim_of (by simp; omega), gd_t, ob_s, wrap_in (by omega) (by omega)]
 ·rw [br_df c1]; exact .inr ⟨(l, c), rfl, by simp only; omega⟩
theorem L40_3_tot (n0 : Nat) (N w : Int) (x3 : Nat) (l4 : List (Nat × Nat)) (hN : 1 ≤ N ∧ N ≤ 12) (hw : w ≠ 0) (n : Nat) (hn : 12 < n) (hn0 : 12 < n0) :
  ∃ r, lpN (L40_3 n0 N x3 l4) n (w, [], 0, 0) = some r ∧ r.length ≤ 200 := by
 refine lp_tot (body := L40_3 n0 N x3 l4) (R := fun r => r.length ≤ 200) (fun k s => s.1 = w ∧ 0 ≤ s.2.2.2 ∧ s.2.2.2 + k = N ∧ s.2.1.length + 12 * k ≤ 144) (fun k s hI => ?_) N.toNat (w, [], 0, 0) n ⟨rfl, by simp, by simp only; omega, by simp; omega⟩ (by omega)
 obtain ⟨w', l, c, a⟩ := s
 obtain ⟨rfl, h1, h2, h3⟩ := hI
 simp only at h1 h2 h3 hw
 simp only [L40_3]
 by_cases c1 : a < N
 ·rw [br_dt c1]
  obtain ⟨r, hr, hrl⟩ := L40_2_tot n0 N a w' x3 l4 hN hw l c (IntKind.wrap .i64 (a + 1)) l.length (Nat.le_refl _) (by omega) (by rw [wrap_in (by omega) (by omega)]; omega) n0 hn0 (by omega)
  obtain ⟨l', c'⟩ := r
  simp only [hr, ob_s]
  exact .inl ⟨(w', l', c', a + 1), by rw [wrap_in (by omega) (by omega)], k - 1, by omega, rfl, by simp only; omega, by simp only; omega, by simp only at hrl ⊢; omega⟩
 ·rw [br_df c1]; exact .inr ⟨l, rfl, by omega⟩
theorem F40_tot (n x1 x2 x3 : Nat) (l4 : List (Nat × Nat)) (hn : 12 < n) : ∃ N es, F40 n x1 x2 x3 l4 = some (N, es) ∧ es.length ≤ 200 := by
 unfold F40
 have w1 : IntKind.wrap .i64 ((x1 % 4 : Nat) : Int) = ((x1 % 4 : Nat) : Int) := wrap_in (by omega) (by omega)
 have w2 : IntKind.wrap .i64 ((x2 % 3 : Nat) : Int) = ((x2 % 3 : Nat) : Int) := wrap_in (by omega) (by omega)
 have w3 : IntKind.wrap .i64 (1 + ((x1 % 4 : Nat) : Int)) = 1 + ((x1 % 4 : Nat) : Int) := wrap_in (by omega) (by omega)
 have w4 : IntKind.wrap .i64 (1 + ((x2 % 3 : Nat) : Int)) = 1 + ((x2 % 3 : Nat) : Int) := wrap_in (by omega) (by omega)
 rw [w1, w2, w3, w4, ob_s]
 have hN : ∀ a b : Nat, a < 4 → b < 3 → 1 ≤ (1 + (a : Int)) * (1 + (b : Int)) ∧ (1 + (a : Int)) * (1 + (b : Int)) ≤ 12 := by
  intro a b ha hb
  have h1 : a = 0 ∨ a = 1 ∨ a = 2 ∨ a = 3 := by omega
  have h2 : b = 0 ∨ b = 1 ∨ b = 2 := by omega
  rcases h1 with rfl | rfl | rfl | rfl <;> rcases h2 with rfl | rfl | rfl <;> decide
 have hN' := hN (x1 % 4) (x2 % 3) (Nat.mod_lt _ (by omega)) (Nat.mod_lt _ (by omega))
 rw [wrap_in (by omega) (by omega)]
 obtain ⟨r, hr, hl⟩ := L40_3_tot n ((1 + ((x1 % 4 : Nat) : Int)) * (1 + ((x2 % 3 : Nat) : Int))) (1 + ((x1 % 4 : Nat) : Int)) x3 l4 hN' (by omega) n hn hn
 exact ⟨_, r, by rw [hr, ob_s], hl⟩
end Go.Proofs.YtpclggcpobakhaaDoor
end

section
namespace Go.Proofs.YtpclggcpobakhaaDoor
open Go Go.Ab Go.Ab.W
theorem L65_1_tot (n0 : Nat) (a : Int) (x2 : Nat) (l : List (Int × Int)) (b : Int) (ha : 0 ≤ a ∧ a < 64) (hb : 0 ≤ b ∧ b ≤ 65) (hl : l.length ≤ 201) (n : Nat) (hn : 65 < n) : ∃ r, lpN (L65_1 n0 a x2) n (l, b) = some r ∧ r.length ≤ 201 := by
 refine lp_tot (body := L65_1 n0 a x2) (R := fun r => r.length ≤ 201) (fun k s => 0 ≤ s.2 ∧ s.2 + k = 65 ∧ s.1.length ≤ 201) (fun k s hI => ?_) (65 - b).toNat (l, b) n ⟨hb.1, by simp only; omega, hl⟩ (by omega)
 obtain ⟨l, b⟩ := s
 obtain ⟨h1, h2, h3⟩ := hI
 simp only at h1 h2 h3
 have hmi : mi (IntKind.wrap .i64 (a + 5)) (64 : Int) ≤ 64 := by unfold mi; split <;> omega
 have w2 : IntKind.wrap .i64 ((x2 % 3 : Nat) : Int) = ((x2 % 3 : Nat) : Int) := wrap_in (by omega) (by omega)
 have w3 : IntKind.wrap .i64 (199 + ((x2 % 3 : Nat) : Int)) = 199 + ((x2 % 3 : Nat) : Int) := wrap_in (by omega) (by omega)
 simp only [L65_1, w2, w3]
 by_cases c1 : b < mi (IntKind.wrap .i64 (a + 5)) (64 : Int)
 ·rw [br_dt c1, ob_s]
  by_cases c2 : (l.length : Int) < 199 + ((x2 % 3 : Nat) : Int)
  ·rw [decide_eq_true c2, br_t]
   have : x2 % 3 < 3 := Nat.mod_lt _ (by omega)
   rw [lim_of (by simp; omega), gd_t, wrap_in (by omega) (by omega)]
   exact .inl ⟨(l ++ [(a, b)], b + 1), rfl, k - 1, by omega, by simp only; omega, by simp only; omega, by simp; omega⟩
  ·rw [decide_eq_false c2, br_f]; exact .inr ⟨l, rfl, h3⟩
 ·rw [br_df c1, ob_s, br_f]; exact .inr ⟨l, rfl, h3⟩
theorem L65_2_tot (n0 : Nat) (x2 : Nat) (n : Nat) (hn : 65 < n) (hn0 : 65 < n0) : ∃ r, lpN (L65_2 n0 x2) n ([], 0) = some r ∧ r.length ≤ 201 := by
 refine lp_tot (body := L65_2 n0 x2) (R := fun r => r.length ≤ 201) (fun k s => 0 ≤ s.2 ∧ s.2 + k = 64 ∧ s.1.length ≤ 201) (fun k s hI => ?_) 64 ([], 0) n ⟨by simp, by simp, by simp⟩ (by omega)
 obtain ⟨l, a⟩ := s
 obtain ⟨h1, h2, h3⟩ := hI
 simp only at h1 h2 h3
 simp only [L65_2]
 by_cases c1 : a < 64
 ·rw [br_dt c1, wrap_in (by omega) (by omega)]
  obtain ⟨r, hr, hrl⟩ := L65_1_tot n0 a x2 l (a + 1) ⟨h1, c1⟩ ⟨by omega, by omega⟩ h3 n0 hn0
  rw [hr, ob_s]
  exact .inl ⟨(r, a + 1), rfl, k - 1, by omega, by simp only; omega, by simp only; omega, hrl⟩
 ·rw [br_df c1]; exact .inr ⟨l, rfl, h3⟩
theorem okB_of {lo hi : Int} {n : Nat} (h : 0 ≤ lo ∧ lo ≤ hi ∧ hi ≤ (n : Int)) : okB lo hi n = true := decide_eq_true h
theorem F65_tot (n x1 x2 : Nat) (x3 x4 x5 N : Int) (l7 : List (Int × Int)) (hx : x2 < 256) (hl : l7.length ≤ 1000000) (hn : 65 < n) : ∃ N' es, F65 n x1 x2 x3 x4 x5 N l7 = some (N', es) ∧ es.length ≤ 300 := by
 unfold F65
 have hmi : 0 ≤ mi (l7.length : Int) (210 : Int) ∧ mi (l7.length : Int) (210 : Int) ≤ (l7.length : Int) ∧ mi (l7.length : Int) (210 : Int) ≤ 210 := by unfold mi; split <;> omega
 rw [okB_of ⟨by omega, hmi.1, hmi.2.1⟩, gd_t]
 generalize hL : ((l7.drop (0 : Int).toNat).take ((mi (l7.length : Int) (210 : Int) : Int).toNat - (0 : Int).toNat)) = L
 have hLl : L.length ≤ 210 := by
  rw [← hL, List.length_take]
  have := hmi.2.2
  omega
 unfold F26
 rw [lim_of (by omega), gd_t, ob_s]
 have w1 : IntKind.wrap .i64 ((L.length : Int) + 1) = (L.length : Int) + 1 := wrap_in (by omega) (by omega)
 rw [w1, gd_dt (by omega)]
 have w2 : IntKind.wrap .i64 ((x2 : Nat) : Int) = ((x2 : Nat) : Int) := wrap_in (by omega) (by omega)
 rw [w2, ob_s]
 obtain ⟨y, hy⟩ : ∃ y, y = Int.tmod ((x2 : Nat) : Int) ((L.length : Int) + 1) := ⟨_, rfl⟩
 have hy1 : 0 ≤ y ∧ y ≤ L.length := by
  rw [hy, Int.tmod_eq_emod_of_nonneg (Int.natCast_nonneg _)]
  have h1 := Int.emod_nonneg ((x2 : Nat) : Int) (show ((L.length : Int) + 1) ≠ 0 by omega)
  have h2 := Int.emod_lt_of_pos ((x2 : Nat) : Int) (show 0 < ((L.length : Int) + 1) by omega)
  omega
 rw [← hy]
 have fin : ∀ (q : Option (Int × List (Int × Int) × Nat)), (∃ N' es k, q = some (N', es, k) ∧ es.length ≤ 300) → ∃ N' es, (ob q fun (v256, l257, n259) => some (v256, l257)) = some (N', es) ∧ es.length ≤ 300 := by
  rintro q ⟨N', es, k, rfl, h⟩
  exact ⟨N', es, rfl, h⟩
 have ins : ∀ p : Int × Int, F82 n L y [p] = some (L.take y.toNat ++ [p] ++ L.drop y.toNat) ∧ (L.take y.toNat ++ [p] ++ L.drop y.toNat).length ≤ 300 := by
  intro p
  refine ⟨?_, by simp; omega⟩
  unfold F82
  rw [okB_of ⟨hy1.1, hy1.2, Int.le_refl _⟩, gd_t, lim_of (by simp; omega), gd_t]
 refine fin _ ?_
 have case1 : ∀ {p : Prop} [Decidable p] {a b : Option (Int × List (Int × Int) × Nat)}, (p → ∃ N' es k, a = some (N', es, k) ∧ es.length ≤ 300) → (¬ p → ∃ N' es k, b = some (N', es, k) ∧ es.length ≤ 300) → ∃ N' es k, br (decide p) a b = some (N', es, k) ∧ es.length ≤ 300 := by
  intro p _ a b ha hb
  by_cases h : p
  ·rw [br_dt h]; exact ha h
  ·rw [br_df h]; exact hb h
 have base : ∀ (N' : Int) (k : Nat), ∃ N'' es k', (some (N', L, k) : Option (Int × List (Int × Int) × Nat)) = some (N'', es, k') ∧ es.length ≤ 300 := fun N' k => ⟨_, _, _, rfl, by omega⟩
 refine case1 (fun _ => base _ _) fun _ => case1 (fun _ => ?_) fun _ => case1 (fun _ => case1 (fun h => ?_) fun _ => base _ _) fun _ => case1 (fun _ => case1 (fun h => ?_) fun _ => base _ _) fun _ => case1 (fun _ => case1 (fun h => ?_) fun _ => base _ _) fun _ => case1 (fun _ => base _ _) fun _ => case1 (fun _ => ?_) fun _ => base _ _
 ·rw [(ins _).1, ob_s]; exact ⟨_, _, _, rfl, (ins _).2⟩
 ·unfold F49
  rw [wrap_in (by omega) (by omega), okB_of ⟨hy1.1, by omega, by omega⟩, gd_t, decide_eq_true (show y < y + 1 by omega), gd_t, lim_of (by omega), gd_t, ob_s]
  exact ⟨_, _, _, rfl, by simp; omega⟩
 ·have hb : inB y L.length = true := decide_eq_true ⟨hy1.1, by omega⟩
  have hlt : y.toNat < L.length := by omega
  have he : L[y.toNat]? = some L[y.toNat] := by simp [hlt]
  rw [hb, gd_t, he, ob_s]
  generalize L[y.toNat] = e
  obtain ⟨u, v⟩ := e
  have he2 : (L.set y.toNat (v, v))[y.toNat]? = some (v, v) := by simp [hlt]
  simp only [gd_t, he2, ob_s]
  exact ⟨_, _, _, rfl, by simp; omega⟩
 ·have hb : inB y L.length = true := decide_eq_true ⟨hy1.1, by omega⟩
  have hlt : y.toNat < L.length := by omega
  have he : L[y.toNat]? = some L[y.toNat] := by simp [hlt]
  rw [hb, gd_t, he, ob_s]
  generalize L[y.toNat] = e
  obtain ⟨u, v⟩ := e
  simp only [(ins _).1, ob_s]
  exact ⟨_, _, _, rfl, (ins _).2⟩
 ·obtain ⟨r, hr, hrl⟩ := L65_2_tot n x2 n hn hn
  rw [hr, ob_s]; exact ⟨_, _, _, rfl, by omega⟩
theorem F28_tot (n x1 x2 x3 : Nat) (l4 : List (Nat × Nat)) (x8 x9 : Nat) (x10 x11 x12 : Int) (x13 x14 : Nat) (x15 x16 x17 : Int) (h9 : x9 < 256) (h14 : x14 < 256) (hn : 65 < n) :
  ∃ N1 e1 N2 e2 N3 e3, F28 n x1 x2 x3 l4 x8 x9 x10 x11 x12 x13 x14 x15 x16 x17 = some (N1, e1, N2, e2, N3, e3) ∧ e1.length ≤ 300 ∧ e2.length ≤ 300 ∧ e3.length ≤ 300 ∧ F40 n x1 x2 x3 l4 = some (N1, e1) := by
 obtain ⟨N1, e1, h1, g1⟩ := F40_tot n x1 x2 x3 l4 (by omega)
 obtain ⟨N2, e2, h2, g2⟩ := F65_tot n x8 x9 x10 x11 x12 N1 e1 h9 (by omega) hn
 obtain ⟨N3, e3, h3, g3⟩ := F65_tot n x13 x14 x15 x16 x17 N2 e2 h14 (by omega) hn
 refine ⟨N1, e1, N2, e2, N3, e3, ?_, by omega, g2, g3, h1⟩
 unfold F28
 simp only [h1, ob_s, h2, h3]
end Go.Proofs.YtpclggcpobakhaaDoor
end

section
namespace Go.Ab.W
open Go Go.Ab
theorem uM64 : uM .u64 = 2 ^ 64 := rfl
theorem uw_id {a : Nat} (h : a < 2 ^ 64) : uw .u64 a = a := Nat.mod_eq_of_lt h
theorem tb_lt {a : Nat} (h : a < 2 ^ 64) {i : Nat} (hi : a.testBit i = true) : i < 64 := by
 rcases Nat.lt_or_ge i 64 with h1 | h1
 ·exact h1
 ·have : a < 2 ^ i := Nat.lt_of_lt_of_le h (Nat.pow_le_pow_right (by decide) h1)
  rw [Nat.testBit_lt_two_pow this] at hi; cases hi
theorem word_and {a b : Nat} (ha : a < 2 ^ 64) (hb : b < 2 ^ 64) : uw .u64 (uw .u64 a &&& uw .u64 b) = a &&& b := by
 rw [uw_id ha, uw_id hb, uw_id (Nat.lt_of_le_of_lt Nat.and_le_left ha)]
theorem word_or {a b : Nat} (ha : a < 2 ^ 64) (hb : b < 2 ^ 64) : uw .u64 (uw .u64 a ||| uw .u64 b) = a ||| b := by
 rw [uw_id ha, uw_id hb, uw_id (Nat.or_lt_two_pow ha hb)]
theorem and_lt' {a b : Nat} (ha : a < 2 ^ 64) : a &&& b < 2 ^ 64 := Nat.lt_of_le_of_lt Nat.and_le_left ha
theorem or_lt' {a b : Nat} (ha : a < 2 ^ 64) (hb : b < 2 ^ 64) : a ||| b < 2 ^ 64 := Nat.or_lt_two_pow ha hb
theorem word_andn {a b : Nat} (ha : a < 2 ^ 64) (hb : b < 2 ^ 64) : uandn .u64 a b = a ^^^ (a &&& b) := by
 unfold uandn
 rw [uw_id ha, uw_id hb, uw_id (Nat.xor_lt_two_pow ha (and_lt' ha))]
theorem tb_andn {a b : Nat} (ha : a < 2 ^ 64) (hb : b < 2 ^ 64) (i : Nat) : (uandn .u64 a b).testBit i = (a.testBit i && !b.testBit i) := by
 rw [word_andn ha hb, Nat.testBit_xor, Nat.testBit_and]
 cases a.testBit i <;> cases b.testBit i <;> rfl
theorem andn_lt {a b : Nat} (ha : a < 2 ^ 64) (hb : b < 2 ^ 64) : uandn .u64 a b < 2 ^ 64 := by
 rw [word_andn ha hb]; exact Nat.xor_lt_two_pow ha (and_lt' ha)
theorem word_one {k : Nat} (h : k < 64) : ushl .u64 1 k = 2 ^ k := by
 unfold ushl
 rw [Nat.min_eq_left (Nat.le_of_lt (show k < IntKind.bits .u64 from h)), Nat.one_mul]
 exact uw_id (Nat.pow_lt_pow_right (by decide) h)
theorem one_lt {k : Nat} (h : k < 64) : 2 ^ k < 2 ^ 64 := Nat.pow_lt_pow_right (by decide) h
theorem tb_one (k i : Nat) : (2 ^ k).testBit i = decide (i = k) := by
 rw [Nat.testBit_two_pow]
 by_cases h : k = i
 ·simp [h]
 ·simp [h, Ne.symm h]
theorem ui_nn {k : Int} (h0 : 0 ≤ k) (h1 : k < 64) : ui .u64 k = k.toNat := by
 unfold ui
 rw [Int.emod_eq_of_lt h0 (by rw [uM64]; omega)]
theorem word_shr {a k : Nat} (h : k ≤ 64) : ushr .u64 a k = a >>> k := by
 unfold ushr
 rw [Nat.min_eq_left (show k ≤ IntKind.bits .u64 from h), Nat.shiftRight_eq_div_pow]
theorem bit_at {a k : Nat} (ha : a < 2 ^ 64) (h : k ≤ 64) : decide (uw .u64 (uw .u64 (ushr .u64 a k) &&& uw .u64 1) = 1) = a.testBit k := by
 have hs : a >>> k < 2 ^ 64 := Nat.lt_of_le_of_lt (by rw [Nat.shiftRight_eq_div_pow]; exact Nat.div_le_self _ _) ha
 rw [word_shr h, word_and hs (by decide), Nat.testBit]
 rw [Nat.and_comm]
 have h2 : 1 &&& a >>> k = (a >>> k) % 2 := by rw [Nat.and_comm, Nat.and_one_is_mod]
 rw [h2]
 rcases Nat.mod_two_eq_zero_or_one (a >>> k) with h3 | h3 <;> rw [h3] <;> rfl
theorem word_ext {a b : Nat} (h : ∀ i, a.testBit i = true ↔ b.testBit i = true) : a = b := Nat.eq_of_testBit_eq fun i => by
 have := h i
 cases ha : a.testBit i <;> cases hb : b.testBit i <;> simp_all
theorem word_zero {a : Nat} : a = 0 ↔ ∀ i, a.testBit i = false := ⟨fun h => by subst h; exact fun i => Nat.zero_testBit i, fun h => Nat.eq_of_testBit_eq fun i => by rw [h, Nat.zero_testBit]⟩
theorem tz_bit {x : Nat} (h0 : 0 < x) (h1 : x < 2 ^ 64) : x.testBit (tz x) = true ∧ ∀ i, i < tz x → x.testBit i = false := by
 obtain ⟨h2, _, q, hq⟩ := tz_low h0 h1
 have key : ∀ i, x.testBit i = (decide (tz x ≤ i) && (2 * q + 1).testBit (i - tz x)) := fun i => by
  conv => lhs; rw [hq]
  rw [Nat.testBit_two_pow_mul]
 refine ⟨?_, fun i hi => ?_⟩
 ·rw [key, Nat.sub_self]
  simp [Nat.testBit_zero]
 ·rw [key, decide_eq_false (by omega)]; rfl
theorem low_word {x : Nat} (h0 : 0 < x) (h1 : x < 2 ^ 64) : uw .u64 (uw .u64 x &&& uw .u64 (uneg .u64 x)) = 2 ^ tz x := by
 obtain ⟨h2, h3, _⟩ := tz_low h0 h1
 have hn : uneg .u64 x = 2 ^ 64 - x := by
  unfold uneg
  rw [uw_id h1, uM64, uw_id (by omega)]
 rw [hn, word_and h1 (by omega), h3]
def clr (x : Nat) : Nat := uw .u64 (uw .u64 x &&& uw .u64 (usub .u64 x 1))
theorem clr_eq {x : Nat} (h0 : 0 < x) (h1 : x < 2 ^ 64) : clr x = x &&& (x - 1) := by
 have : usub .u64 x 1 = x - 1 := by
  unfold usub
  rw [uM64, uw_id (show (1 : Nat) < 2 ^ 64 by decide)]
  show (x + (2 ^ 64 - 1)) % 2 ^ 64 = x - 1
  omega
 unfold clr
 rw [this, word_and h1 (by omega)]
theorem pred_bit (t q i : Nat) : (2 ^ t * (2 * q + 1) - 1).testBit i = if i < t then true else if i = t then false else (2 ^ t * (2 * q + 1)).testBit i := by
 have e : 2 ^ t * (2 * q + 1) - 1 = 2 ^ t * (2 * q) + (2 ^ t - 1) := by
  rw [Nat.mul_add, Nat.mul_one]
  have := Nat.two_pow_pos t
  omega
 rw [e, Nat.testBit_two_pow_mul_add _ (by have := Nat.two_pow_pos t; omega)]
 by_cases h : i < t
 ·rw [if_pos h, if_pos h, Nat.testBit_two_pow_sub_one]; simp [h]
 ·rw [if_neg h, if_neg h]
  by_cases h' : i = t
  ·subst h'; simp [Nat.testBit_zero]
  ·rw [if_neg h', Nat.testBit_two_pow_mul]
   obtain ⟨d, hd⟩ : ∃ d, i - t = d + 1 := ⟨i - t - 1, by omega⟩
   rw [hd, Nat.testBit_succ, Nat.testBit_succ]
   have : (2 * q + 1) / 2 = 2 * q / 2 := by omega
   rw [this]
   simp; omega
theorem clr_bit {x : Nat} (h0 : 0 < x) (h1 : x < 2 ^ 64) (i : Nat) : (clr x).testBit i = (x.testBit i && !decide (i = tz x)) := by
 rw [clr_eq h0 h1, Nat.testBit_and]
 obtain ⟨_, _, q, hq⟩ := tz_low h0 h1
 obtain ⟨hb, hl⟩ := tz_bit h0 h1
 have := pred_bit (tz x) q i
 rw [← hq] at this
 rw [this]
 by_cases h : i < tz x
 ·rw [hl i h]; rfl
 ·rw [if_neg h]
  by_cases h' : i = tz x
  ·simp [h']
  ·simp [h']
theorem clr_lt {x : Nat} (h0 : 0 < x) (h1 : x < 2 ^ 64) : clr x < 2 ^ 64 := by rw [clr_eq h0 h1]; exact and_lt' h1
def bitsOf (x : Nat) : List Nat := (List.range 64).filter fun i => x.testBit i
theorem mem_bitsOf {x i : Nat} (h : x < 2 ^ 64) : i ∈ bitsOf x ↔ x.testBit i = true := by
 unfold bitsOf
 rw [List.mem_filter, List.mem_range]
 exact ⟨fun h => h.2, fun hi => ⟨tb_lt h hi, hi⟩⟩
theorem bitsOf_len (x : Nat) : (bitsOf x).length ≤ 64 := by
 unfold bitsOf
 exact Nat.le_trans (List.length_filter_le _ _) (by simp)
theorem bitsOf_zero : bitsOf 0 = [] := by
 unfold bitsOf
 simp
theorem filter_range_cons (p q : Nat → Bool) (t : Nat) : ∀ (n s : Nat), s ≤ t → t < s + n → p t = true → (∀ i, s ≤ i → i < t → p i = false) → (∀ i, t < i → p i = q i) → (∀ i, s ≤ i → i ≤ t → q i = false) →
  (List.range' s n).filter p = t :: (List.range' s n).filter q
 | 0, s, h1, h2, _, _, _, _ => by omega
 | n + 1, s, h1, h2, hp, hl, hg, hq => by
  rw [List.range'_succ]
  by_cases h : s = t
  ·subst h
   rw [List.filter_cons_of_pos hp, List.filter_cons_of_neg (by rw [hq s (Nat.le_refl _) (Nat.le_refl _)]; decide)]
   congr 1
   apply List.filter_congr
   intro i hi
   rw [List.mem_range'_1] at hi
   exact hg i (by omega)
  ·rw [List.filter_cons_of_neg (by rw [hl s (Nat.le_refl _) (by omega)]; decide), List.filter_cons_of_neg (by rw [hq s (Nat.le_refl _) (by omega)]; decide)]
   exact filter_range_cons p q t n (s + 1) (by omega) (by omega) hp (fun i a b => hl i (by omega) b) hg (fun i a b => hq i (by omega) b)
theorem bitsOf_cons {x : Nat} (h0 : 0 < x) (h1 : x < 2 ^ 64) : bitsOf x = tz x :: bitsOf (clr x) := by
 obtain ⟨hb, hl⟩ := tz_bit h0 h1
 unfold bitsOf
 rw [List.range_eq_range']
 refine filter_range_cons _ _ (tz x) 64 0 (Nat.zero_le _) (by have := (tz_low h0 h1).1; omega) hb (fun i _ h => hl i h) (fun i h => ?_) (fun i _ h => ?_)
 ·show x.testBit i = (clr x).testBit i
  rw [clr_bit h0 h1]
  have : i ≠ tz x := by omega
  simp [this]
 ·show (clr x).testBit i = false
  rw [clr_bit h0 h1]
  by_cases e : i = tz x
  ·simp [e]
  ·rw [hl i (by omega)]; rfl
section
variable {σ ρ τ : Type}
theorem lp_bits {body : τ → Option (τ ⊕ ρ)} (mk : Nat → σ → τ) (step : σ → Nat → σ) (fin : σ → ρ) (I : σ → Prop) (x0 : Nat)
  (hs : ∀ r s, 0 < r → r < 2 ^ 64 → x0.testBit (tz r) = true → I s → body (mk r s) = some (.inl (mk (clr r) (step s (tz r)))) ∧ I (step s (tz r))) (he : ∀ s, I s → body (mk 0 s) = some (.inr (fin s))) :
  ∀ (n : Nat) (r : Nat) (s : σ), r < 2 ^ 64 → (∀ i, r.testBit i = true → x0.testBit i = true) → I s → (bitsOf r).length < n → lpN body n (mk r s) = some (fin ((bitsOf r).foldl step s)) := by
 intro n
 induction n with
 | zero => intro r s _ _ _ h; exact absurd h (Nat.not_lt_zero _)
 | succ n ih =>
  intro r s hr hx hI hn
  rcases Nat.eq_zero_or_pos r with h0 | h0
  ·subst h0
   rw [bitsOf_zero]
   simp only [lpN, he s hI, List.foldl_nil]
  ·obtain ⟨h1, h2⟩ := hs r s h0 hr (hx _ (tz_bit h0 hr).1) hI
   rw [bitsOf_cons h0 hr, List.foldl_cons]
   simp only [lpN, h1]
   refine ih _ _ (clr_lt h0 hr) (fun i hi => hx i ?_) h2 (by rw [bitsOf_cons h0 hr] at hn; simpa using hn)
   rw [clr_bit h0 hr] at hi
   simp only [Bool.and_eq_true] at hi
   exact hi.1
theorem lp_list {α : Type} {body : τ → Option (τ ⊕ ρ)} (l : List α) (mk : σ → Int → τ) (step : σ → α → σ) (fin : σ → ρ) (I : Nat → σ → Prop)
  (hs : ∀ s i x, l[i]? = some x → I i s → body (mk s (i : Int)) = some (.inl (mk (step s x) ((i + 1 : Nat) : Int))) ∧ I (i + 1) (step s x)) (he : ∀ s, I l.length s → body (mk s (l.length : Int)) = some (.inr (fin s))) :
  ∀ (k i n : Nat) (s : σ), i + k = l.length → I i s → k < n → lpN body n (mk s (i : Int)) = some (fin ((l.drop i).foldl step s)) ∧ I l.length ((l.drop i).foldl step s) := by
 intro k
 induction k with
 | zero =>
  intro i n s hi hI hn
  obtain ⟨n, rfl⟩ : ∃ n', n = n' + 1 := ⟨n - 1, by omega⟩
  have : i = l.length := by omega
  subst this
  rw [List.drop_length]
  exact ⟨by simp only [lpN, he s hI, List.foldl_nil], hI⟩
 | succ k ih =>
  intro i n s hi hI hn
  obtain ⟨n, rfl⟩ : ∃ n', n = n' + 1 := ⟨n - 1, by omega⟩
  have hlt : i < l.length := by omega
  obtain ⟨h1, h2⟩ := hs s i l[i] (List.getElem?_eq_getElem hlt) hI
  rw [List.drop_eq_getElem_cons hlt, List.foldl_cons]
  simp only [lpN, h1]
  exact ih (i + 1) n _ (by omega) h2 (by omega)
theorem lp_list0 {α : Type} {body : τ → Option (τ ⊕ ρ)} (l : List α) (mk : σ → Int → τ) (step : σ → α → σ) (fin : σ → ρ) (I : Nat → σ → Prop)
  (hs : ∀ s i x, l[i]? = some x → I i s → body (mk s (i : Int)) = some (.inl (mk (step s x) ((i + 1 : Nat) : Int))) ∧ I (i + 1) (step s x)) (he : ∀ s, I l.length s → body (mk s (l.length : Int)) = some (.inr (fin s)))
  {n : Nat} {s : σ} (hI : I 0 s) (hn : l.length < n) : lpN body n (mk s 0) = some (fin (l.foldl step s)) ∧ I l.length (l.foldl step s) := by
 have := lp_list l mk step fin I hs he l.length 0 n s (by omega) hI hn
 simpa using this
theorem lp_upto {body : τ → Option (τ ⊕ ρ)} (N : Nat) (mk : σ → Int → τ) (step : σ → Nat → σ) (fin : σ → ρ) (I : Nat → σ → Prop)
  (hs : ∀ s i, i < N → I i s → body (mk s (i : Int)) = some (.inl (mk (step s i) ((i + 1 : Nat) : Int))) ∧ I (i + 1) (step s i)) (he : ∀ s, I N s → body (mk s (N : Int)) = some (.inr (fin s)))
  {n : Nat} {s : σ} (hI : I 0 s) (hn : N < n) : lpN body n (mk s 0) = some (fin ((List.range N).foldl step s)) ∧ I N ((List.range N).foldl step s) := by
 have := lp_list0 (List.range N) mk step fin I (fun s i x hx hI => by
  have hlt := (List.getElem?_eq_some_iff.1 hx).1
  have hx' : x = i := by rw [List.getElem?_eq_getElem hlt] at hx; simp at hx; exact hx.symm
  subst hx'
  exact hs s x (by simpa using hlt) hI) (by simpa using he) hI (by simpa using hn)
 simpa using this
end
theorem foldl_or (f : Nat → Nat) : ∀ (l : List Nat) (s i : Nat), (l.foldl (fun s k => s ||| f k) s).testBit i = true ↔ s.testBit i = true ∨ ∃ k ∈ l, (f k).testBit i = true
 | [], s, i => by simp
 | x :: l, s, i => by
  rw [List.foldl_cons, foldl_or f l, Nat.testBit_or, Bool.or_eq_true]
  simp only [List.mem_cons]
  constructor
  ·rintro ((h | h) | ⟨k, hk, h⟩)
   ·exact .inl h
   ·exact .inr ⟨x, .inl rfl, h⟩
   ·exact .inr ⟨k, .inr hk, h⟩
  ·rintro (h | ⟨k, rfl | hk, h⟩)
   ·exact .inl (.inl h)
   ·exact .inl (.inr h)
   ·exact .inr ⟨k, hk, h⟩
theorem foldl_or_lt (f : Nat → Nat) : ∀ (l : List Nat) (s : Nat), s < 2 ^ 64 → (∀ k ∈ l, f k < 2 ^ 64) → l.foldl (fun s k => s ||| f k) s < 2 ^ 64
 | [], s, h, _ => h
 | x :: l, s, h, hf => foldl_or_lt f l _ (or_lt' h (hf x (by simp))) fun k hk => hf k (by simp [hk])
end Go.Ab.W
end

section
namespace Go.Proofs.YtpclggcpobakhaaDoor
open Go Go.Ab Go.Ab.W
def adj (es : List (Int × Int)) (i j : Nat) : Prop := ((i : Int), (j : Int)) ∈ es ∨ ((j : Int), (i : Int)) ∈ es
theorem adj_symm {es : List (Int × Int)} {i j : Nat} (h : adj es i j) : adj es j i := h.symm
theorem okE_mem {N : Int} : ∀ {es : List (Int × Int)} {p : Int × Int}, okEp N p es = true → ∀ e ∈ es, 0 ≤ e.1 ∧ e.1 < e.2 ∧ e.2 < N
 | [], _, _, e, he => by cases he
 | x :: es, p, h, e, he => by
  rw [okE_cons, Bool.and_eq_true] at h
  rcases List.mem_cons.1 he with rfl | he
  ·simp only [stepOk, Bool.and_eq_true, decide_eq_true_eq] at h
   exact h.1.1
  ·exact okE_mem h.2 e he
structure Okay (N : Nat) (es : List (Int × Int)) : Prop where
 pos : 1 ≤ N
 le : N ≤ 64
 len : es.length ≤ 200
 mem : ∀ e ∈ es, ∃ a b : Nat, e = ((a : Int), (b : Int)) ∧ a < b ∧ b < N
theorem okay_of {N : Int} {es : List (Int × Int)} (h : okG N es = true) : ∃ M : Nat, N = (M : Int) ∧ Okay M es := by
 simp only [okG, Bool.and_eq_true, decide_eq_true_eq] at h
 obtain ⟨⟨h1, h2, h3⟩, h4⟩ := h
 obtain ⟨M, rfl⟩ := Int.eq_ofNat_of_zero_le (show 0 ≤ N by omega)
 refine ⟨M, rfl, by omega, by omega, h3, fun e he => ?_⟩
 obtain ⟨g1, g2, g3⟩ := okE_mem h4 e he
 obtain ⟨a, b⟩ := e
 obtain ⟨a, rfl⟩ := Int.eq_ofNat_of_zero_le (show 0 ≤ a from g1)
 obtain ⟨b, rfl⟩ := Int.eq_ofNat_of_zero_le (show 0 ≤ b by simp only at g1 g2; omega)
 exact ⟨a, b, rfl, by simp only at g2; omega, by simp only at g3; omega⟩
theorem Okay.adj {N : Nat} {es : List (Int × Int)} (h : Okay N es) {i j : Nat} (ha : adj es i j) : i < N ∧ j < N ∧ i ≠ j := by
 rcases ha with ha | ha
 ·obtain ⟨a, b, e, h1, h2⟩ := h.mem _ ha
  simp only [Prod.mk.injEq, Int.natCast_inj] at e
  omega
 ·obtain ⟨a, b, e, h1, h2⟩ := h.mem _ ha
  simp only [Prod.mk.injEq, Int.natCast_inj] at e
  omega
def bl (x : Nat) : Nat := if x = 0 then 0 else Nat.log2 x + 1
theorem lt_bl {x k : Nat} : k < bl x ↔ 2 ^ k ≤ x := by
 unfold bl
 by_cases h : x = 0
 ·subst h
  rw [if_pos rfl]
  have := Nat.two_pow_pos k
  omega
 ·rw [if_neg h, Nat.lt_succ_iff, Nat.le_log2 h]
theorem bl_unique {x m : Nat} (h : ∀ k, k < m ↔ 2 ^ k ≤ x) : m = bl x := by
 rcases Nat.lt_trichotomy m (bl x) with h1 | h1 | h1
 ·have := (h m).2 (lt_bl.1 h1); omega
 ·exact h1
 ·have := lt_bl.2 ((h (bl x)).1 h1); omega
theorem bl_shift {x s : Nat} (h : 2 ^ s ≤ x) : bl (x >>> s) + s = bl x := by
 refine bl_unique fun k => ?_
 rw [Nat.shiftRight_eq_div_pow]
 by_cases hk : k < s
 ·have : 2 ^ k ≤ 2 ^ s := Nat.pow_le_pow_right (by decide) (by omega)
  constructor
  ·intro _; omega
  ·intro _; omega
 ·obtain ⟨d, rfl⟩ : ∃ d, k = d + s := ⟨k - s, by omega⟩
  have h1 := lt_bl (x := x / 2 ^ s) (k := d)
  have h2 : 2 ^ (d + s) ≤ x ↔ 2 ^ d ≤ x / 2 ^ s := by rw [Nat.pow_add, Nat.le_div_iff_mul_le (Nat.two_pow_pos s)]
  rw [h2, ← h1]; omega
theorem tab_bl : ∀ y : Fin 256, tab256_482390[y.val]? = some (bl y.val) := by decide +kernel
theorem bl_le {x s : Nat} (h : x < 2 ^ s) : bl x ≤ s := by
 rcases Nat.lt_or_ge s (bl x) with h1 | h1
 ·have := lt_bl.1 h1; omega
 ·exact h1
theorem len_step (s y m : Nat) (hs : s ≤ 32) (hy : y < 2 ^ (2 * s)) (hm : m ≤ 64) : ∃ y' m' : Nat, br (decide (2 ^ s ≤ y)) (some (ushr .u64 y s, IntKind.wrap .i64 ((m : Int) + (s : Int)))) (some (y, (m : Int))) = some (y', (m' : Int)) ∧ y' < 2 ^ s ∧ bl y' + m' = bl y + m ∧ m' ≤ m + s := by
 by_cases h : 2 ^ s ≤ y
 ·refine ⟨y >>> s, m + s, ?_, ?_, ?_, Nat.le_refl _⟩
  ·rw [br_dt h, word_shr (by omega), wrap_in (by omega) (by omega)]; rfl
  ·rw [Nat.shiftRight_eq_div_pow, Nat.div_lt_iff_lt_mul (Nat.two_pow_pos s), ← Nat.pow_add]
   rw [Nat.two_mul] at hy; exact hy
  ·have := bl_shift h; omega
 ·exact ⟨y, m, br_df h _ _, by omega, rfl, by omega⟩
theorem F51_eq (n x : Nat) (hx : x < 2 ^ 64) : F51 n x = some ((bl x : Nat) : Int) := by
 unfold F51
 obtain ⟨y1, m1, e1, h1, b1, g1⟩ := len_step 32 x 0 (by omega) hx (by omega)
 have e1' : br (decide (4294967296 ≤ x)) (some (ushr .u64 x 32, (32 : Int))) (some (x, 0)) = some (y1, (m1 : Int)) := e1
 rw [e1', ob_s]
 obtain ⟨y2, m2, e2, h2, b2, g2⟩ := len_step 16 y1 m1 (by omega) h1 (by omega)
 have e2' : br (decide (65536 ≤ y1)) (some (ushr .u64 y1 16, IntKind.wrap .i64 ((m1 : Int) + 16))) (some (y1, (m1 : Int))) = some (y2, (m2 : Int)) := e2
 simp only [e2', ob_s]
 obtain ⟨y3, m3, e3, h3, b3, g3⟩ := len_step 8 y2 m2 (by omega) h2 (by omega)
 have e3' : br (decide (256 ≤ y2)) (some (ushr .u64 y2 8, IntKind.wrap .i64 ((m2 : Int) + 8))) (some (y2, (m2 : Int))) = some (y3, (m3 : Int)) := e3
 simp only [e3', ob_s]
 have h3 : y3 < 256 := h3
 have e : uw .u8 y3 = y3 := Nat.mod_eq_of_lt h3
 have h8 : bl y3 ≤ 8 := bl_le h3
 have ht : tab256_482390[y3]? = some (bl y3) := tab_bl ⟨y3, h3⟩
 have w1 : IntKind.wrap .i64 ((bl y3 : Nat) : Int) = ((bl y3 : Nat) : Int) := wrap_in (by omega) (by omega)
 rw [e, inB_nat h3, gd_t, Int.toNat_natCast, ht, ob_s, w1, wrap_in (by omega) (by omega)]
 simp only [Option.some.injEq]; omega
theorem F42_eq {n x : Nat} (h : x < 2 ^ 64) : F42 n x = some ((tz x : Nat) : Int) := by unfold F42; rw [decide_eq_true h, gd_t]
def ckF (N : Int) (es : List (Int × Int)) (x : Nat) : Int := if okG N es then (if 2 ^ N.toNat ≤ x then 2 else 0) else 180
theorem F55_eq (n : Nat) (N : Int) (es : List (Int × Int)) (x : Nat) (hx : x < 2 ^ 64) (hn : 2 < n) (hl : es.length < 4611686018427387904) (hk : es.length < n) : F55 n N es x = some (ckF N es x) := by
 unfold F55 ckF
 rw [F23_eq n N es hn hl hk, ob_s]
 unfold ckG
 by_cases h : okG N es = true
 ·obtain ⟨M, rfl, hM⟩ := okay_of h
  rw [if_pos h, if_pos h]
  simp only [decide_true, Bool.not_true, br_f, F51_eq n x hx, ob_s, Int.toNat_natCast]
  by_cases h2 : 2 ^ M ≤ x
  ·have := lt_bl.2 h2
   rw [if_pos h2, br_dt (by omega)]
  ·have : ¬ M < bl x := fun h => h2 (lt_bl.1 h)
   rw [if_neg h2, br_df (by omega)]
 ·rw [if_neg h, if_neg h]; rfl
theorem F66_eq (n : Nat) (N : Int) (es : List (Int × Int)) (x : Nat) (hx : x < 2 ^ 64) (hl : es.length < 4611686018427387904) (hk : es.length < n) : F66 n N es x = some (ckF N es x) := by
 unfold F66 ckF
 rw [F43_eq n N es hl hk, ob_s]
 unfold ckG
 by_cases h : okG N es = true
 ·obtain ⟨M, rfl, hM⟩ := okay_of h
  rw [if_pos h, if_pos h]
  simp only [decide_true, Bool.not_true, br_f, Int.toNat_natCast]
  by_cases h64 : M < 64
  ·have hu : ui .u64 (M : Int) = M := (ui_nn (by omega) (by omega)).trans (Int.toNat_natCast M)
   rw [br_dt (by omega), ob_s, hu, word_shr (by omega), Nat.shiftRight_eq_div_pow]
   by_cases h2 : 2 ^ M ≤ x
   ·have : 0 < x / 2 ^ M := Nat.div_pos h2 (Nat.two_pow_pos _)
    rw [if_pos h2, decide_eq_false (by omega)]; rfl
   ·have : x / 2 ^ M = 0 := Nat.div_eq_of_lt (by omega)
    rw [if_neg h2, decide_eq_true this]; rfl
  ·have hM64 : M = 64 := by have := hM.le; omega
   subst hM64
   rw [br_df (by omega), ob_s, if_neg (by omega)]; rfl
 ·rw [if_neg h, if_neg h]; rfl
theorem ckF_ok {N : Int} {es : List (Int × Int)} {x : Nat} (h : ckF N es x = 0) : ∃ M : Nat, N = (M : Int) ∧ Okay M es ∧ x < 2 ^ M := by
 unfold ckF at h
 split at h
 ·rename_i hk
  obtain ⟨M, rfl, hM⟩ := okay_of hk
  split at h
  ·cases h
  ·rename_i h2
   rw [Int.toNat_natCast] at h2
   exact ⟨M, rfl, hM, by omega⟩
 ·cases h
theorem F67_eq (n x i : Nat) (hx : x < 2 ^ 64) (hi : i < 64) : F67 n x ((i : Nat) : Int) = some (x.testBit i) := by
 unfold F67
 rw [ui_nn (by omega) (by omega), Int.toNat_natCast, bit_at hx (by omega)]
theorem F57_eq (n x i : Nat) (hx : x < 2 ^ 64) (hi : i < 64) : F57 n x ((i : Nat) : Int) = some (x.testBit i) := by
 unfold F57
 rw [decide_eq_true (show (0 : Int) ≤ (i : Int) by omega), gd_t, Int.toNat_natCast, bit_at hx (by omega)]
theorem F68_eq (n i : Nat) (hi : i < 64) : F68 n ((i : Nat) : Int) = some (2 ^ i) := by
 unfold F68
 rw [ui_nn (by omega) (by omega), Int.toNat_natCast, word_one hi]
theorem lt64 {x N : Nat} (h : x < 2 ^ N) (hN : N ≤ 64) : x < 2 ^ 64 := Nat.lt_of_lt_of_le h (Nat.pow_le_pow_right (by decide) hN)
theorem tb_ltN {x N i : Nat} (h : x < 2 ^ N) (hi : x.testBit i = true) : i < N := by
 rcases Nat.lt_or_ge i N with h1 | h1
 ·exact h1
 ·rw [Nat.testBit_lt_two_pow (Nat.lt_of_lt_of_le h (Nat.pow_le_pow_right (by decide) h1))] at hi; cases hi
def addA (L : List Nat) (e : Int × Int) : List Nat :=
 let L1 := L.set e.1.toNat (L.getD e.1.toNat 0 ||| 2 ^ e.2.toNat)
 L1.set e.2.toNat (L1.getD e.2.toNat 0 ||| 2 ^ e.1.toNat)
def AroundOk (N : Nat) (es : List (Int × Int)) (L : List Nat) : Prop := L.length = N ∧ ∀ k, k < N → ∃ w, L[k]? = some w ∧ w < 2 ^ 64 ∧ ∀ i, w.testBit i = true ↔ adj es k i
theorem adj_snoc {es : List (Int × Int)} {a b k i : Nat} : adj (es ++ [((a : Int), (b : Int))]) k i ↔ adj es k i ∨ (k = a ∧ i = b) ∨ (k = b ∧ i = a) := by
 unfold adj
 simp only [List.mem_append, List.mem_singleton, Prod.mk.injEq, Int.natCast_inj]
 constructor
 ·rintro ((h | h) | (h | h))
  ·exact .inl (.inl h)
  ·exact .inr (.inl h)
  ·exact .inl (.inr h)
  ·exact .inr (.inr ⟨h.2, h.1⟩)
 ·rintro ((h | h) | (h | h))
  ·exact .inl (.inl h)
  ·exact .inr (.inl h)
  ·exact .inl (.inr h)
  ·exact .inr (.inr ⟨h.2, h.1⟩)
theorem around_step {N : Nat} {es : List (Int × Int)} {L : List Nat} (h : AroundOk N es L) {a b : Nat} (hab : a < b) (hb : b < N) (hN : N ≤ 64) : AroundOk N (es ++ [((a : Int), (b : Int))]) (addA L ((a : Int), (b : Int))) := by
 obtain ⟨hl, hw⟩ := h
 obtain ⟨wa, ha1, ha2, ha3⟩ := hw a (by omega)
 obtain ⟨wb, hb1, hb2, hb3⟩ := hw b hb
 have e1 : L.getD a 0 = wa := by simp [List.getD, ha1]
 have hset : (L.set a (wa ||| 2 ^ b))[b]? = some wb := by rw [List.getElem?_set_ne (by omega)]; exact hb1
 have e2 : (L.set a (wa ||| 2 ^ b)).getD b 0 = wb := by simp only [List.getD, hset]; rfl
 unfold addA
 simp only [Int.toNat_natCast, e1, e2]
 refine ⟨by simp [hl], fun k hk => ?_⟩
 by_cases hkb : k = b
 ·subst hkb
  refine ⟨wb ||| 2 ^ a, by rw [List.getElem?_set_self (by simp [hl]; exact hk)], or_lt' hb2 (one_lt (by omega)), fun i => ?_⟩
  rw [Nat.testBit_or, Bool.or_eq_true, hb3, tb_one, decide_eq_true_eq, adj_snoc]
  constructor
  ·rintro (h | h)
   ·exact .inl h
   ·exact .inr (.inr ⟨rfl, h⟩)
  ·rintro (h | ⟨h, _⟩ | ⟨_, h⟩)
   ·exact .inl h
   ·omega
   ·exact .inr h
 ·by_cases hka : k = a
  ·subst hka
   refine ⟨wa ||| 2 ^ b, by rw [List.getElem?_set_ne (by omega), List.getElem?_set_self (by simp [hl]; exact hk)], or_lt' ha2 (one_lt (by omega)), fun i => ?_⟩
   rw [Nat.testBit_or, Bool.or_eq_true, ha3, tb_one, decide_eq_true_eq, adj_snoc]
   constructor
   ·rintro (h | h)
    ·exact .inl h
    ·exact .inr (.inl ⟨rfl, h⟩)
   ·rintro (h | ⟨_, h⟩ | ⟨h, _⟩)
    ·exact .inl h
    ·exact .inr h
    ·omega
  ·obtain ⟨w, h1, h2, h3⟩ := hw k hk
   refine ⟨w, by rw [List.getElem?_set_ne (by omega), List.getElem?_set_ne (by omega)]; exact h1, h2, fun i => ?_⟩
   rw [h3, adj_snoc]
   constructor
   ·exact .inl
   ·rintro (h | ⟨h, _⟩ | ⟨h, _⟩)
    ·exact h
    ·omega
    ·omega
theorem F75_eq (n N : Nat) (es : List (Int × Int)) (h : Okay N es) (hn : 200 < n) : ∃ L, F75 n (N : Int) es = some L ∧ AroundOk N es L := by
 have hN := h.le
 have hlen := h.len
 unfold F75
 rw [decide_eq_true (show (0 : Int) ≤ (N : Int) by omega), gd_t, Int.toNat_natCast, lim_of (by omega), gd_t]
 have := lp_list0 (body := L75_1 n es (N : Int)) es (fun (L : List Nat) (v : Int) => (L, v)) addA id (fun i L => AroundOk N (es.take i) L) (fun L i x hx hI => ?_) (fun L _ => ?_) (n := n) (s := List.replicate N 0) ⟨by simp, fun k hk => ⟨0, by simp [hk], by decide, fun i => by simp [adj]⟩⟩ (by omega)
 ·obtain ⟨h1, h2⟩ := this
  rw [h1, ob_s]
  rw [List.take_length] at h2
  exact ⟨_, rfl, h2⟩
 ·have hi : i < es.length := (List.getElem?_eq_some_iff.1 hx).1
  obtain ⟨a, b, rfl, hab, hbN⟩ := h.mem x (List.mem_of_getElem? hx)
  have hstep := around_step hI hab hbN hN
  have htk : es.take (i + 1) = es.take i ++ [((a : Int), (b : Int))] := by rw [List.take_add_one, hx]; rfl
  obtain ⟨hl, hw⟩ := hI
  obtain ⟨wa, ha1, ha2, ha3⟩ := hw a (by omega)
  obtain ⟨wb, hb1, hb2, hb3⟩ := hw b hbN
  have e1 : L.getD a 0 = wa := by simp [List.getD, ha1]
  have hset : (L.set a (wa ||| 2 ^ b))[b]? = some wb := by rw [List.getElem?_set_ne (by omega)]; exact hb1
  have e2 : (L.set a (wa ||| 2 ^ b)).getD b 0 = wb := by simp only [List.getD, hset]; rfl
  refine ⟨?_, by rw [htk]; exact hstep⟩
  simp only [L75_1, Int.toNat_natCast, hx, ob_s, ha1, word_one (show b < 64 by omega), word_one (show a < 64 by omega), inB_nat hi, inB_nat (show a < N by omega), inB_nat hbN, gd_t, word_or ha2 (one_lt (show b < 64 by omega)), hset, word_or hb2 (one_lt (show a < 64 by omega)), wrap_succ (show i < 4611686018427387904 by omega), addA, e1, e2]
  rw [br_dt (by omega), decide_eq_true (show (0 : Int) ≤ (b : Int) by omega), gd_t, decide_eq_true (show (0 : Int) ≤ (a : Int) by omega), gd_t]
 ·simp only [L75_1]
  rw [br_df (by omega)]; rfl
def cross (x : Nat) (e : Int × Int) : Bool := !(x.testBit e.1.toNat == x.testBit e.2.toNat)
theorem border_loop {n N : Nat} {es : List (Int × Int)} {x : Nat} (h : Okay N es) (body : (List (Int × Int) × Int) → Option ((List (Int × Int) × Int) ⊕ (List (Int × Int))))
  (hb : ∀ (s : List (Int × Int)) (k a b : Nat), es[k]? = some ((a : Int), (b : Int)) → a < 64 → b < 64 → s.length ≤ k → k < 200 → body (s, (k : Int)) = some (.inl ((if cross x ((a : Int), (b : Int)) then s ++ [((a : Int), (b : Int))] else s), ((k + 1 : Nat) : Int)))) (he : ∀ s, body (s, (es.length : Int)) = some (.inr s)) (hn : 200 < n) :
  lpN body n ([], 0) = some (es.filter (cross x)) := by
 have hN := h.le
 have hlen := h.len
 have := lp_list0 (body := body) es (fun (s : List (Int × Int)) (v : Int) => (s, v)) (fun s e => if cross x e then s ++ [e] else s) id (fun k s => s.length ≤ k ∧ s = (es.take k).filter (cross x)) (fun s k e he' hI => ?_) (fun s _ => he s) (n := n) (s := []) ⟨by simp, by simp⟩ (by omega)
 ·obtain ⟨h1, h2, h3⟩ := this
  rw [h1, h3, List.take_length]; rfl
 ·have hi : k < es.length := (List.getElem?_eq_some_iff.1 he').1
  obtain ⟨a, b, rfl, hab, hbN⟩ := h.mem e (List.mem_of_getElem? he')
  have htk : es.take (k + 1) = es.take k ++ [((a : Int), (b : Int))] := by rw [List.take_add_one, he']; rfl
  refine ⟨hb s k a b he' (by omega) (by omega) hI.1 (by omega), ?_, ?_⟩
  ·split
   ·simp; have := hI.1; omega
   ·have := hI.1; omega
  ·rw [htk, List.filter_append, ← hI.2]
   by_cases hc : cross x ((a : Int), (b : Int)) = true
   ·rw [if_pos hc, List.filter_cons_of_pos hc]; rfl
   ·rw [if_neg hc, List.filter_cons_of_neg hc]; simp
theorem border_both (n : Nat) (N : Int) (es : List (Int × Int)) (x : Nat) (hx : x < 2 ^ 64) (hn : 200 < n) (hl : es.length < 4611686018427387904) (hk : es.length < n) :
  ∃ l, F15 n N es x = some (l, ckF N es x) ∧ F31 n N es x = some (l, ckF N es x) ∧ l.length ≤ 300 ∧ (ckF N es x = 0 → l = es.filter (cross x)) := by
 unfold F15 F31
 rw [F55_eq n N es x hx (by omega) hl hk, F66_eq n N es x hx hl hk, ob_s, ob_s]
 by_cases h : ckF N es x = 0
 ·obtain ⟨M, rfl, hM, hxM⟩ := ckF_ok h
  have hlen := hM.len
  have h1 : lpN (L15_1 n es x) n ([], 0) = some (es.filter (cross x)) := border_loop hM _ (fun s k a b he ha hb hs hk => by
   have hi : k < es.length := (List.getElem?_eq_some_iff.1 he).1
   unfold L15_1
   simp only [Int.toNat_natCast, he, ob_s, F57_eq n x a hx ha, F57_eq n x b hx hb, inB_nat hi, gd_t, wrap_succ (show k < 4611686018427387904 by omega), cross]
   rw [br_dt (by omega)]
   rcases Bool.eq_false_or_eq_true (x.testBit a == x.testBit b) with hc | hc
   ·simp only [hc, Bool.not_true, br_f, ob_s, Bool.false_eq_true, if_false]
   ·simp only [hc, Bool.not_false, br_t, ob_s, if_true]
    rw [lim_of (by simp; omega), gd_t, ob_s]) (fun s => by
   unfold L15_1
   simp only
   rw [br_df (by omega)]) hn
  have h2 : lpN (L31_1 n es x) n ([], 0) = some (es.filter (cross x)) := border_loop hM _ (fun s k a b he ha hb hs hk => by
   have hi : k < es.length := (List.getElem?_eq_some_iff.1 he).1
   unfold L31_1
   simp only [Int.toNat_natCast, he, ob_s, F67_eq n x a hx ha, F67_eq n x b hx hb, inB_nat hi, gd_t, wrap_succ (show k < 4611686018427387904 by omega), cross]
   rw [br_dt (by omega)]
   rcases Bool.eq_false_or_eq_true (x.testBit a == x.testBit b) with hc | hc
   ·simp only [hc, Bool.not_true, br_f, ob_s, Bool.false_eq_true, if_false]
   ·simp only [hc, Bool.not_false, br_t, ob_s, if_true]
    rw [lim_of (by simp; omega), gd_t, ob_s]) (fun s => by
   unfold L31_1
   simp only
   rw [br_df (by omega)]) hn
  refine ⟨es.filter (cross x), ?_, ?_, Nat.le_trans (List.length_filter_le _ _) (by omega), fun _ => rfl⟩
  ·rw [h, decide_eq_true rfl, Bool.not_true, br_f, h1, ob_s]
  ·rw [h, decide_eq_true rfl, Bool.not_true, br_f, h2, ob_s]
 ·refine ⟨[], ?_, ?_, by simp, fun h' => absurd h' h⟩
  ·rw [decide_eq_false h, Bool.not_false, br_t]
  ·rw [decide_eq_false h, Bool.not_false, br_t]
end Go.Proofs.YtpclggcpobakhaaDoor
end

section
namespace Go.Proofs.YtpclggcpobakhaaDoor
open Go Go.Ab Go.Ab.W
theorem lp_bitsI {σ ρ τ : Type} {body : τ → Option (τ ⊕ ρ)} (mk : Nat → σ → τ) (fin : σ → ρ) (I : Nat → σ → Prop)
  (hs : ∀ r s, 0 < r → r < 2 ^ 64 → I r s → ∃ s', body (mk r s) = some (.inl (mk (clr r) s')) ∧ I (clr r) s') (he : ∀ s, I 0 s → body (mk 0 s) = some (.inr (fin s))) :
  ∀ (n : Nat) (r : Nat) (s : σ), r < 2 ^ 64 → I r s → (bitsOf r).length < n → ∃ s', lpN body n (mk r s) = some (fin s') ∧ I 0 s' := by
 intro n
 induction n with
 | zero => intro r s _ _ h; exact absurd h (Nat.not_lt_zero _)
 | succ n ih =>
  intro r s hr hI hn
  rcases Nat.eq_zero_or_pos r with h0 | h0
  ·subst h0
   exact ⟨s, by simp only [lpN, he s hI], hI⟩
  ·obtain ⟨s', h1, h2⟩ := hs r s h0 hr hI
   simp only [lpN, h1]
   exact ih _ _ (clr_lt h0 hr) h2 (by rw [bitsOf_cons h0 hr] at hn; simpa using hn)
theorem filter_gap {p : Nat → Bool} {t : Nat} : ∀ {k : Nat}, t ≤ k → (∀ i, t ≤ i → i < k → p i = false) → (List.range k).filter p = (List.range t).filter p := by
 intro k hk
 induction hk with
 | refl => intro _; rfl
 | @step k hk ih =>
  intro h
  rw [List.range_succ, List.filter_append, ih fun i h1 h2 => h i h1 (by omega)]
  simp [h k hk (by omega)]
def lowB (x t : Nat) : List Nat := (List.range t).filter fun i => x.testBit i
def rk (x v : Nat) : Nat := (lowB x v).length
theorem low_len (x t : Nat) : (lowB x t).length ≤ t := Nat.le_trans (List.length_filter_le _ _) (by simp)
theorem low_succ (x t : Nat) : lowB x (t + 1) = lowB x t ++ (if x.testBit t then [t] else []) := by
 unfold lowB
 rw [List.range_succ, List.filter_append]
 by_cases h : x.testBit t <;> simp [h]
theorem low_mem {x t v : Nat} : v ∈ lowB x t ↔ v < t ∧ x.testBit v = true := by simp [lowB]
theorem mget_put {β : Type} (xs : List (Int × β)) (k k' : Int) (v : β) : mget (mput xs k v) k' = if k' = k then some v else mget xs k' := by
 have key : ∀ (xs : List (Int × β)) (i : Nat), (mfind k xs i = none → ∀ j, (mfind k' (xs ++ [(k, v)]) j).map (·.2) = if k' = k then some v else (mfind k' xs j).map (·.2)) ∧
   (∀ p, mfind k xs i = some p → i ≤ p.1 ∧ ∀ j, (mfind k' (xs.set (p.1 - i) (k, v)) j).map (·.2) = if k' = k then some v else (mfind k' xs j).map (·.2)) := by
  intro xs
  induction xs with
  | nil =>
   intro i
   refine ⟨fun _ j => ?_, fun p h => by simp [mfind] at h⟩
   simp only [List.nil_append, mfind]
   by_cases h : k' = k <;> simp [h]
  | cons e xs ih =>
   intro i
   by_cases he : k = e.1
   ·refine ⟨fun h => by simp [mfind, he] at h, fun p h => ?_⟩
    have hp : p = (i, e.2) := by simp [mfind, he] at h; exact h.symm
    subst hp
    refine ⟨Nat.le_refl _, fun j => ?_⟩
    simp only [Nat.sub_self, List.set_cons_zero, mfind]
    by_cases h : k' = k
    ·simp [h]
    ·have : k' ≠ e.1 := fun c => h (c.trans he.symm)
     simp [h, this]
   ·refine ⟨fun h j => ?_, fun p h => ?_⟩
    ·have h' : mfind k xs (i + 1) = none := by simpa [mfind, he] using h
     simp only [List.cons_append, mfind]
     by_cases h2 : k' = e.1
     ·have : k' ≠ k := fun c => he (c.symm.trans h2)
      simp [h2, Ne.symm he]
     ·simp only [if_neg h2]
      exact (ih (i + 1)).1 h' (j + 1)
    ·have h' : mfind k xs (i + 1) = some p := by simpa [mfind, he] using h
     obtain ⟨g1, g2⟩ := (ih (i + 1)).2 p h'
     refine ⟨by omega, fun j => ?_⟩
     rw [show p.1 - i = (p.1 - (i + 1)) + 1 by omega, List.set_cons_succ]
     simp only [mfind]
     by_cases h2 : k' = e.1
     ·have : k' ≠ k := fun c => he (c.symm.trans h2)
      simp [h2, Ne.symm he]
     ·simp only [if_neg h2]
      exact g2 (j + 1)
 unfold mget mput
 cases h : mfind k xs 0 with
 | none => exact (key xs 0).1 h 0
 | some p => exact ((key xs 0).2 p h).2 0
theorem L21_1_eq (n0 x : Nat) (hx : x < 2 ^ 64) (M : Nat) (hM : M ≤ 64) (hxM : x < 2 ^ M) (n : Nat) (hn : 64 < n) :
  ∃ T, lpN (L21_1 n0) n (x, ([] : List Int), ([] : List (Int × Int))) = some ((lowB x M).map fun (k : Nat) => (k : Int), T) ∧ ∀ v : Nat, x.testBit v = true → mget T (v : Int) = some ((rk x v : Nat) : Int) := by
 have := lp_bitsI (body := L21_1 n0) (fun r (s : List Int × List (Int × Int)) => (r, s.1, s.2)) (fun s => s)
  (fun r s => ∃ t, t ≤ 64 ∧ (∀ i, r.testBit i = (x.testBit i && decide (t ≤ i))) ∧ s.1 = (lowB x t).map (fun (k : Nat) => (k : Int)) ∧ ∀ v : Nat, v < t → x.testBit v = true → mget s.2 (v : Int) = some ((rk x v : Nat) : Int))
  (fun r s h0 hr hI => ?_) (fun s hI => ?_) n x ([], []) hx ⟨0, by omega, fun i => by simp, rfl, fun v h => absurd h (Nat.not_lt_zero _)⟩ (Nat.lt_of_le_of_lt (bitsOf_len x) hn)
 ·obtain ⟨s, h1, t, h2, h3, h4, h5⟩ := this
  have hz : ∀ i, t ≤ i → x.testBit i = false := fun i hi => by
   have := h3 i
   rw [Nat.zero_testBit] at this
   simpa [hi] using this.symm
  have hz2 : ∀ i, M ≤ i → x.testBit i = false := fun i hi => Nat.testBit_lt_two_pow (Nat.lt_of_lt_of_le hxM (Nat.pow_le_pow_right (by decide) hi))
  have e : lowB x t = lowB x M := by
   unfold lowB
   rcases Nat.le_total t M with h | h
   ·exact (filter_gap h fun i hi _ => hz i hi).symm
   ·exact filter_gap h fun i hi _ => hz2 i hi
  refine ⟨s.2, ?_, fun v hv => h5 v (Nat.lt_of_not_le fun h => by rw [hz v h] at hv; cases hv) hv⟩
  rw [h1, ← e, ← h4]
 ·obtain ⟨t, h2, h3, h4, h5⟩ := hI
  obtain ⟨b1, b2⟩ := tz_bit h0 hr
  have hk := tb_lt hr b1
  have b3 := h3 (tz r)
  rw [b1] at b3
  have b4 := b3.symm
  simp only [Bool.and_eq_true, decide_eq_true_eq] at b4
  obtain ⟨b5, b6⟩ := b4
  have hgap : lowB x (tz r) = lowB x t := filter_gap b6 fun i hi hlt => by
   have := h3 i
   rw [b2 i hlt] at this
   simpa [hi] using this.symm
  have hlen : s.1.length = rk x (tz r) := by rw [h4, List.length_map]; unfold rk; rw [hgap]
  have hle : rk x (tz r) ≤ 64 := Nat.le_trans (low_len _ _) (by omega)
  refine ⟨(s.1 ++ [((tz r : Nat) : Int)], mput s.2 ((tz r : Nat) : Int) (s.1.length : Int)), ?_, tz r + 1, by omega, fun i => ?_, ?_, fun v hv hb => ?_⟩
  ·unfold L21_1
   simp only [decide_eq_false (show ¬ r = 0 by omega), Bool.not_false, br_t, F42_eq hr, ob_s]
   rw [lim_of (by simp; omega), gd_t, ob_s]
   rfl
  ·rw [clr_bit h0 hr, h3]
   by_cases hi : x.testBit i
   ·rcases Nat.lt_trichotomy i (tz r) with h | h | h
    ·have hh := h3 i
     rw [b2 i h, hi] at hh
     have ht : ¬ t ≤ i := by simpa using hh.symm
     simp [hi, show ¬ t ≤ i from ht, show ¬ tz r + 1 ≤ i by omega]
    ·subst h; simp
    ·simp [hi, show t ≤ i by omega, show tz r + 1 ≤ i by omega, show i ≠ tz r by omega]
   ·simp [hi]
  ·rw [low_succ, if_pos b5, List.map_append, hgap, ← h4]; rfl
  ·show mget (mput s.2 ((tz r : Nat) : Int) (s.1.length : Int)) (v : Int) = _
   rw [mget_put]
   by_cases e : v = tz r
   ·subst e; rw [if_pos rfl, hlen]
   ·rw [if_neg (by omega)]
    refine h5 v (Nat.lt_of_not_le fun ht => ?_) hb
    have hh := h3 v
    rw [b2 v (by omega), hb] at hh
    simp [ht] at hh
 ·show L21_1 n0 (0, s.1, s.2) = _
  unfold L21_1
  rfl
theorem lp_fromE {σ ρ τ : Type} {body : τ → Option (τ ⊕ ρ)} (N : Nat) (mk : σ → Int → τ) (fin : σ → ρ) (I : Nat → σ → Prop)
  (hs : ∀ s i, i < N → I i s → ∃ s', body (mk s (i : Int)) = some (.inl (mk s' ((i + 1 : Nat) : Int))) ∧ I (i + 1) s') (he : ∀ s, I N s → body (mk s (N : Int)) = some (.inr (fin s))) :
  ∀ (k i n : Nat) (s : σ), i + k = N → I i s → k < n → ∃ s', lpN body n (mk s (i : Int)) = some (fin s') ∧ I N s' := by
 intro k
 induction k with
 | zero =>
  intro i n s hi hI hn
  obtain ⟨n, rfl⟩ : ∃ n', n = n' + 1 := ⟨n - 1, by omega⟩
  have : i = N := by omega
  subst this
  exact ⟨s, by simp only [lpN, he s hI], hI⟩
 | succ k ih =>
  intro i n s hi hI hn
  obtain ⟨n, rfl⟩ : ∃ n', n = n' + 1 := ⟨n - 1, by omega⟩
  obtain ⟨s', h1, h2⟩ := hs s i (by omega) hI
  simp only [lpN, h1]
  exact ih (i + 1) n s' (by omega) h2 (by omega)
theorem lp_uptoE {σ ρ τ : Type} {body : τ → Option (τ ⊕ ρ)} (N : Nat) (mk : σ → Int → τ) (fin : σ → ρ) (I : Nat → σ → Prop)
  (hs : ∀ s i, i < N → I i s → ∃ s', body (mk s (i : Int)) = some (.inl (mk s' ((i + 1 : Nat) : Int))) ∧ I (i + 1) s') (he : ∀ s, I N s → body (mk s (N : Int)) = some (.inr (fin s)))
  {n : Nat} {s : σ} (hI : I 0 s) (hn : N < n) : ∃ s', lpN body n (mk s 0) = some (fin s') ∧ I N s' :=
 lp_fromE N mk fin I hs he N 0 n s (by omega) hI hn
def indS (x : Nat) (s : List (Int × Int)) (e : Int × Int) : List (Int × Int) :=
 if x.testBit e.1.toNat && x.testBit e.2.toNat then s ++ [((rk x e.1.toNat : Int), (rk x e.2.toNat : Int))] else s
theorem indS_len (x : Nat) (s : List (Int × Int)) (e : Int × Int) : (indS x s e).length ≤ s.length + 1 := by
 unfold indS; split <;> simp
theorem L21_2_eq (n0 x M : Nat) (es : List (Int × Int)) (T : List (Int × Int)) (hx : x < 2 ^ 64) (h : Okay M es) (hT : ∀ v : Nat, x.testBit v = true → mget T (v : Int) = some ((rk x v : Nat) : Int)) (n : Nat) (hn : 200 < n) :
  lpN (L21_2 n0 es x T) n (([] : List (Int × Int)), 0) = some (es.foldl (indS x) []) ∧ (es.foldl (indS x) []).length ≤ es.length := by
 have hl := h.len
 have := lp_list0 (body := L21_2 n0 es x T) es (fun (s : List (Int × Int)) (v : Int) => (s, v)) (indS x) id (fun k s => s.length ≤ k) (fun s k e hk hI => ?_) (fun s _ => ?_) (n := n) (s := []) (by simp) (by omega)
 ·exact this
 ·obtain ⟨a, b, rfl, hab, hb⟩ := h.mem e (List.mem_of_getElem? hk)
  have hM := h.le
  have hlt := (List.getElem?_eq_some_iff.1 hk).1
  refine ⟨?_, Nat.le_trans (indS_len _ _ _) (by omega)⟩
  unfold L21_2
  simp only [decide_eq_true (show ((k : Nat) : Int) < (es.length : Int) by omega), br_t, Int.toNat_natCast, inB_nat hlt, gd_t, hk, ob_s, F57_eq n0 x a hx (by omega), F57_eq n0 x b hx (by omega), wrap_succ (show k < 4611686018427387904 by omega), indS]
  by_cases ha : x.testBit a
  ·by_cases hb' : x.testBit b
   ·simp only [ha, hb', br_t, ob_s, hT a ha, hT b hb', Option.getD_some, Bool.and_self, if_true]
    rw [lim_of (by simp; omega), gd_t, ob_s]
   ·rw [Bool.not_eq_true] at hb'
    simp only [ha, hb', br_t, br_f, ob_s, Bool.and_false, Bool.false_eq_true, if_false]
  ·rw [Bool.not_eq_true] at ha
   simp only [ha, br_f, ob_s, Bool.false_and, Bool.false_eq_true, if_false]
 ·unfold L21_2
  simp [br]
end Go.Proofs.YtpclggcpobakhaaDoor
end

section
namespace Go.Proofs.YtpclggcpobakhaaDoor
open Go Go.Ab Go.Ab.W
theorem lp_listX {α σ ρ τ : Type} {body : τ → Option (τ ⊕ ρ)} (l : List α) (mk : σ → Int → τ) (bad : α → Bool) (rb : ρ) (fin : σ → ρ) (I : Nat → σ → Prop)
  (hs : ∀ s i x, l[i]? = some x → I i s → bad x = false → ∃ s', body (mk s (i : Int)) = some (.inl (mk s' ((i + 1 : Nat) : Int))) ∧ I (i + 1) s')
  (hb : ∀ s i x, l[i]? = some x → I i s → bad x = true → body (mk s (i : Int)) = some (.inr rb)) (he : ∀ s, I l.length s → body (mk s (l.length : Int)) = some (.inr (fin s))) :
  ∀ (k i n : Nat) (s : σ), i + k = l.length → I i s → k < n → ((l.drop i).any bad = true ∧ lpN body n (mk s (i : Int)) = some rb) ∨ ((l.drop i).any bad = false ∧ ∃ s', lpN body n (mk s (i : Int)) = some (fin s') ∧ I l.length s') := by
 intro k
 induction k with
 | zero =>
  intro i n s hi hI hn
  obtain ⟨n, rfl⟩ : ∃ n', n = n' + 1 := ⟨n - 1, by omega⟩
  have : i = l.length := by omega
  subst this
  rw [List.drop_length]
  exact .inr ⟨rfl, s, by simp only [lpN, he s hI], hI⟩
 | succ k ih =>
  intro i n s hi hI hn
  obtain ⟨n, rfl⟩ : ∃ n', n = n' + 1 := ⟨n - 1, by omega⟩
  have hlt : i < l.length := by omega
  rw [List.drop_eq_getElem_cons hlt, List.any_cons]
  cases hbd : bad l[i] with
  | true => exact .inl ⟨rfl, by simp only [lpN, hb s i l[i] (List.getElem?_eq_getElem hlt) hI hbd]⟩
  | false =>
   obtain ⟨s', h1, h2⟩ := hs s i l[i] (List.getElem?_eq_getElem hlt) hI hbd
   simp only [lpN, h1, Bool.false_or]
   exact ih (i + 1) n s' (by omega) h2 (by omega)
theorem lp_listX0 {α σ ρ τ : Type} {body : τ → Option (τ ⊕ ρ)} (l : List α) (mk : σ → Int → τ) (bad : α → Bool) (rb : ρ) (fin : σ → ρ) (I : Nat → σ → Prop)
  (hs : ∀ s i x, l[i]? = some x → I i s → bad x = false → ∃ s', body (mk s (i : Int)) = some (.inl (mk s' ((i + 1 : Nat) : Int))) ∧ I (i + 1) s')
  (hb : ∀ s i x, l[i]? = some x → I i s → bad x = true → body (mk s (i : Int)) = some (.inr rb)) (he : ∀ s, I l.length s → body (mk s (l.length : Int)) = some (.inr (fin s)))
  {n : Nat} {s : σ} (hI : I 0 s) (hn : l.length < n) : (l.any bad = true ∧ lpN body n (mk s 0) = some rb) ∨ (l.any bad = false ∧ ∃ s', lpN body n (mk s 0) = some (fin s') ∧ I l.length s') := by
 have := lp_listX l mk bad rb fin I hs hb he l.length 0 n s (by omega) hI hn
 simpa using this
def badL (M : Nat) (x : Int) : Bool := decide (x < 0) || decide ((M : Int) ≤ x)
def maskOf (l : List Int) : Nat := l.foldl (fun s x => s ||| 2 ^ x.toNat) 0
theorem maskOf_take {l : List Int} {i : Nat} {x : Int} (h : l[i]? = some x) : maskOf (l.take (i + 1)) = maskOf (l.take i) ||| 2 ^ x.toNat := by
 unfold maskOf
 rw [List.take_add_one, h, List.foldl_append]; rfl
theorem mask_bit {l : List Int} {x : Int} (h : x ∈ l) : (maskOf l).testBit x.toNat = true := by
 have key : ∀ (l : List Int) (s : Nat), (s.testBit x.toNat = true ∨ x ∈ l) → (l.foldl (fun s x => s ||| 2 ^ x.toNat) s).testBit x.toNat = true := by
  intro l
  induction l with
  | nil => intro s hs; rcases hs with hs | hs
           ·exact hs
           ·cases hs
  | cons y l ih =>
   intro s hs
   rw [List.foldl_cons]
   refine ih _ ?_
   rcases hs with hs | hs
   ·left; rw [Nat.testBit_or, hs, Bool.true_or]
   ·rcases List.mem_cons.1 hs with rfl | hs
    ·left; rw [Nat.testBit_or, tb_one]; simp
    ·exact .inr hs
 exact key l 0 (.inr h)
theorem L22_1_eq (n0 M : Nat) (l6 : List Int) (hM : M ≤ 64) (hl : l6.length = M) (n : Nat) (hn : 64 < n) :
  (l6.any (badL M) = true ∧ lpN (L22_1 n0 l6 (M : Int)) n (0, 0) = some (.inl ())) ∨ (l6.any (badL M) = false ∧ lpN (L22_1 n0 l6 (M : Int)) n (0, 0) = some (.inr (maskOf l6)) ∧ maskOf l6 < 2 ^ 64) := by
 have := lp_listX0 (body := L22_1 n0 l6 (M : Int)) l6 (fun (s : Nat) (v : Int) => (s, v)) (badL M) (.inl ()) (fun s => .inr s) (fun i s => s = maskOf (l6.take i) ∧ s < 2 ^ 64) (fun s i x hi hI hb => ?_) (fun s i x hi hI hb => ?_) (fun s hI => ?_) (n := n) (s := 0) ⟨rfl, by decide⟩ (by omega)
 ·rcases this with h | ⟨h1, s, h2, h3, h4⟩
  ·exact .inl h
  ·rw [List.take_length] at h3
   subst h3
   exact .inr ⟨h1, h2, h4⟩
 ·obtain ⟨h1, h2⟩ := hI
  have hlt := (List.getElem?_eq_some_iff.1 hi).1
  simp only [badL, Bool.or_eq_false_iff, decide_eq_false_iff_not] at hb
  obtain ⟨b1, b2⟩ := hb
  have hx : x.toNat < 64 := by omega
  refine ⟨s ||| 2 ^ x.toNat, ?_, ?_, or_lt' h2 (one_lt hx)⟩
  ·unfold L22_1
   simp only [decide_eq_true (show ((i : Nat) : Int) < (l6.length : Int) by omega), br_t, Int.toNat_natCast, inB_nat hlt, gd_t, hi, ob_s, decide_eq_false b1, br_f, decide_eq_false b2, decide_eq_true (show (0 : Int) ≤ x by omega), word_one hx, word_or h2 (one_lt hx), wrap_succ (show i < 4611686018427387904 by omega)]
  ·rw [maskOf_take hi, h1]
 ·have hlt := (List.getElem?_eq_some_iff.1 hi).1
  simp only [badL, Bool.or_eq_true, decide_eq_true_eq] at hb
  unfold L22_1
  simp only [decide_eq_true (show ((i : Nat) : Int) < (l6.length : Int) by omega), br_t, Int.toNat_natCast, inB_nat hlt, gd_t, hi, ob_s]
  by_cases h : x < 0
  ·simp [h, br, ob]
  ·have h2 : (M : Int) ≤ x := by omega
   simp [h, h2, br, ob]
 ·unfold L22_1
  simp [br]
def Full (x : Nat) : Prop := ∀ i, i < bl x → x.testBit i = true
theorem lt_two_bl (x : Nat) : x < 2 ^ bl x := Nat.lt_of_not_le fun h => absurd (lt_bl.2 h) (Nat.lt_irrefl _)
theorem above_bl {x i : Nat} (h : bl x ≤ i) : x.testBit i = false := Nat.testBit_lt_two_pow (Nat.lt_of_lt_of_le (lt_two_bl x) (Nat.pow_le_pow_right (by decide) h))
theorem full_and {x : Nat} (hx : x < 2 ^ 64) : uw .u64 (uw .u64 x &&& uw .u64 (uw .u64 (x + 1))) = 0 ↔ Full x := by
 rw [uw_id hx]
 constructor
 ·intro h
  apply Classical.byContradiction
  intro hno
  unfold Full at hno
  simp only [Classical.not_forall] at hno
  obtain ⟨i, hi, hb⟩ := hno
  rw [Bool.not_eq_true] at hb
  have hx0 : x ≠ 0 := fun e => by subst e; simp [bl] at hi
  obtain ⟨t, ht, htb⟩ : ∃ t, bl x = t + 1 ∧ x.testBit t = true := by
   have h1 : 2 ^ Nat.log2 x ≤ x := ((Nat.log2_eq_iff hx0).1 rfl).1
   have hbl : bl x = Nat.log2 x + 1 := by unfold bl; rw [if_neg hx0]
   refine ⟨Nat.log2 x, hbl, ?_⟩
   apply Classical.byContradiction
   intro hno
   rw [Bool.not_eq_true] at hno
   have : x < 2 ^ Nat.log2 x := Nat.lt_pow_two_of_testBit x fun j hj => by
    by_cases e : j = Nat.log2 x
    ·rw [e]; exact hno
    ·exact above_bl (by omega)
   omega
  have hlt := lt_two_bl x
  rw [ht] at hlt hi
  have hge : 2 ^ t ≤ x := lt_bl.1 (by omega)
  have hne : x + 1 ≠ 2 ^ (t + 1) := fun e => by
   have : x = 2 ^ (t + 1) - 1 := by omega
   rw [this, Nat.testBit_two_pow_sub_one] at hb
   simp at hb; omega
  have hy : x + 1 < 2 ^ (t + 1) := by omega
  have ht64 : t + 1 ≤ 64 := by rw [← ht]; exact bl_le hx
  have hy64 : x + 1 < 2 ^ 64 := Nat.lt_of_lt_of_le hy (Nat.pow_le_pow_right (by decide) ht64)
  have hyb : (x + 1).testBit t = true := by
   apply Classical.byContradiction
   intro hno
   rw [Bool.not_eq_true] at hno
   have : x + 1 < 2 ^ t := Nat.lt_pow_two_of_testBit _ fun j hj => by
    by_cases e : j = t
    ·rw [e]; exact hno
    ·exact Nat.testBit_lt_two_pow (Nat.lt_of_lt_of_le hy (Nat.pow_le_pow_right (by decide) (by omega)))
   omega
  rw [uw_id hy64, uw_id hy64, uw_id (and_lt' hx)] at h
  have := congrArg (fun z => z.testBit t) h
  simp [Nat.testBit_and, htb, hyb] at this
 ·intro hF
  have hK := bl_le hx
  have e : x = 2 ^ bl x - 1 := Nat.eq_of_testBit_eq fun i => by
   rw [Nat.testBit_two_pow_sub_one]
   by_cases h : i < bl x
   ·rw [hF i h]; simp [h]
   ·rw [above_bl (by omega)]; simp [h]
  have hp := Nat.two_pow_pos (bl x)
  have e1 : x + 1 = 2 ^ bl x := by omega
  rw [e1]
  by_cases h64 : bl x = 64
  ·rw [h64]
   have : uw .u64 (uw .u64 (2 ^ 64)) = 0 := rfl
   rw [this, Nat.and_zero]; rfl
  ·have hb : 2 ^ bl x < 2 ^ 64 := one_lt (by omega)
   rw [uw_id hb, uw_id hb, uw_id (and_lt' hx)]
   refine Nat.eq_of_testBit_eq fun i => ?_
   rw [Nat.testBit_and, tb_one, Nat.zero_testBit]
   by_cases h : i = bl x
   ·rw [h, above_bl (Nat.le_refl _)]; rfl
   ·simp [h]
end Go.Proofs.YtpclggcpobakhaaDoor
end

section
namespace Go.Proofs.YtpclggcpobakhaaDoor
open Go Go.Ab Go.Ab.W
def lb (l : List Int) (a : Nat) : Nat := ((l[a]?).getD 0).toNat
def Jn (l : List Int) (es : List (Int × Int)) (i j : Nat) : Prop := ∃ a b : Nat, ((a : Int), (b : Int)) ∈ es ∧ ((lb l a = i ∧ lb l b = j) ∨ (lb l a = j ∧ lb l b = i))
def lexLt (p q : Int × Int) : Prop := p.1 < q.1 ∨ p.1 = q.1 ∧ p.2 < q.2
theorem asc_ext : ∀ {l m : List (Int × Int)}, l.Pairwise lexLt → m.Pairwise lexLt → (∀ p, p ∈ l ↔ p ∈ m) → l = m
 | [], [], _, _, _ => rfl
 | [], q :: m, _, _, h => absurd ((h q).2 (by simp)) (by simp)
 | p :: l, [], _, _, h => absurd ((h p).1 (by simp)) (by simp)
 | p :: l, q :: m, hl, hm, h => by
  obtain ⟨h1, h2⟩ := List.pairwise_cons.1 hl
  obtain ⟨h3, h4⟩ := List.pairwise_cons.1 hm
  have irr : ∀ x, ¬ lexLt x x := fun x hx => by unfold lexLt at hx; omega
  have asy : ∀ x y, lexLt x y → ¬ lexLt y x := fun x y a b => by unfold lexLt at *; omega
  have e : p = q := by
   have hp := (h p).1 (by simp)
   have hq := (h q).2 (by simp)
   rcases List.mem_cons.1 hp with e | hp
   ·exact e
   ·rcases List.mem_cons.1 hq with e | hq
    ·exact e.symm
    ·exact absurd (h3 p hp) (asy _ _ (h1 q hq))
  subst e
  have : l = m := asc_ext h2 h4 fun x => by
   constructor
   ·intro hx
    rcases List.mem_cons.1 ((h x).1 (by simp [hx])) with e | h'
    ·subst e; exact absurd (h1 x hx) (irr x)
    ·exact h'
   ·intro hx
    rcases List.mem_cons.1 ((h x).2 (by simp [hx])) with e | h'
    ·subst e; exact absurd (h3 x hx) (irr x)
    ·exact h'
  rw [this]
theorem sort_asc {l : List (Int × Int)} (h : l.Nodup) : (l.mergeSort lexLe).Pairwise lexLt ∧ ∀ p, p ∈ l.mergeSort lexLe ↔ p ∈ l := by
 have hp := List.mergeSort_perm l lexLe
 refine ⟨?_, fun p => hp.mem_iff⟩
 have h1 : (l.mergeSort lexLe).Pairwise (fun a b => lexLe a b = true) := List.pairwise_mergeSort (fun a b c h1 h2 => by
  unfold lexLe at *; simp only [decide_eq_true_eq] at *; omega) (fun a b => by
  unfold lexLe; simp only [Bool.or_eq_true, decide_eq_true_eq]; omega) l
 have h2 : (l.mergeSort lexLe).Nodup := hp.nodup_iff.2 h
 have := h1.and h2
 refine this.imp fun {a b} ⟨g1, g2⟩ => ?_
 unfold lexLe at g1
 simp only [decide_eq_true_eq] at g1
 unfold lexLt
 by_cases e : a.1 = b.1 ∧ a.2 = b.2
 ·exact absurd (Prod.ext e.1 e.2) g2
 ·omega
section
variable {n0 M : Nat} {l6 : List Int} {es : List (Int × Int)}
theorem lab_at (hl : l6.length = M) (hb : l6.any (badL M) = false) {a : Nat} (ha : a < M) : l6[a]? = some ((lb l6 a : Nat) : Int) ∧ lb l6 a < M ∧ lb l6 a < bl (maskOf l6) := by
 have hlt : a < l6.length := by omega
 have hg := List.getElem?_eq_getElem hlt
 have hm : l6[a] ∈ l6 := List.getElem_mem hlt
 have := List.any_eq_false.1 hb _ hm
 simp only [badL, Bool.or_eq_true, decide_eq_true_eq] at this
 have h0 : 0 ≤ l6[a] := by omega
 have e : lb l6 a = l6[a].toNat := by unfold lb; rw [hg]; rfl
 have hbit := mask_bit hm
 refine ⟨by rw [hg, e, Int.toNat_of_nonneg h0], by rw [e]; omega, ?_⟩
 rw [e]
 refine Nat.lt_of_not_le fun hle => ?_
 rw [above_bl hle] at hbit; cases hbit
theorem L22_2_eq (l : List (Int × Int)) (x y : Int) (hl : l.length ≤ 200) (n : Nat) (hn : 200 < n) :
  lpN (L22_2 n0 l x y) n 0 = some (if (mi x y, ma x y) ∈ l then .inl () else .inr ()) := by
 have := lp_listX0 (body := L22_2 n0 l x y) l (fun (_ : Unit) (v : Int) => v) (fun e => decide (e.1 = mi x y) && decide (e.2 = ma x y)) (.inl ()) (fun _ => (Sum.inr () : Unit ⊕ Unit)) (fun _ _ => True) (fun s i e hi _ hb => ⟨(), ?_, trivial⟩) (fun s i e hi _ hb => ?_) (fun s _ => ?_) (n := n) (s := ()) trivial (by omega)
 ·have key : l.any (fun e => decide (e.1 = mi x y) && decide (e.2 = ma x y)) = true ↔ (mi x y, ma x y) ∈ l := by
   rw [List.any_eq_true]
   constructor
   ·rintro ⟨e, he, h⟩
    simp only [Bool.and_eq_true, decide_eq_true_eq] at h
    rw [← h.1, ← h.2]; exact he
   ·intro h; exact ⟨_, h, by simp⟩
  rcases this with ⟨h1, h2⟩ | ⟨h1, _, h2, _⟩
  ·rw [if_pos (key.1 h1)]; exact h2
  ·rw [if_neg (fun h => by rw [key.2 h] at h1; cases h1)]; exact h2
 ·have hlt := (List.getElem?_eq_some_iff.1 hi).1
  unfold L22_2
  simp only [decide_eq_true (show ((i : Nat) : Int) < (l.length : Int) by omega), br_t, Int.toNat_natCast, inB_nat hlt, gd_t, hi, ob_s, hb, br_f, wrap_succ (show i < 4611686018427387904 by omega)]
 ·have hlt := (List.getElem?_eq_some_iff.1 hi).1
  unfold L22_2
  simp only [decide_eq_true (show ((i : Nat) : Int) < (l.length : Int) by omega), br_t, Int.toNat_natCast, inB_nat hlt, gd_t, hi, ob_s, hb]
 ·unfold L22_2
  simp [br]
def prL (l : List Int) (e : Int × Int) : Int × Int := (mi (lb l e.1.toNat : Int) (lb l e.2.toNat : Int), ma (lb l e.1.toNat : Int) (lb l e.2.toNat : Int))
theorem L22_3_eq (h : Okay M es) (hl : l6.length = M) (hb : l6.any (badL M) = false) (n : Nat) (hn : 200 < n) (hn0 : 200 < n0) :
  ∃ s, lpN (L22_3 n0 es l6) n (([] : List (Int × Int)), 0) = some s ∧ s.length ≤ 200 ∧ s.Nodup ∧ ∀ p, p ∈ s ↔ ∃ e ∈ es, lb l6 e.1.toNat ≠ lb l6 e.2.toNat ∧ p = prL l6 e := by
 have hlen := h.len
 have hM := h.le
 have := lp_uptoE (body := L22_3 n0 es l6) es.length (fun (s : List (Int × Int)) (v : Int) => (s, v)) id (fun i s => s.length ≤ i ∧ s.Nodup ∧ ∀ p, p ∈ s ↔ ∃ e ∈ es.take i, lb l6 e.1.toNat ≠ lb l6 e.2.toNat ∧ p = prL l6 e) (fun s i hi hI => ?_) (fun s _ => ?_) (n := n) (s := []) ⟨by simp, List.nodup_nil, fun p => by simp⟩ (by omega)
 ·obtain ⟨s, h1, h2, h3, h4⟩ := this
  rw [List.take_length] at h4
  exact ⟨s, h1, by omega, h3, h4⟩
 ·obtain ⟨h2, h3, h4⟩ := hI
  have hg := List.getElem?_eq_getElem hi
  obtain ⟨a, b, e, hab, hbM⟩ := h.mem _ (List.getElem_mem hi)
  rw [e] at hg
  obtain ⟨a1, a2, _⟩ := lab_at hl hb (show a < M by omega)
  obtain ⟨b1, b2, _⟩ := lab_at hl hb hbM
  have htk : es.take (i + 1) = es.take i ++ [((a : Int), (b : Int))] := by rw [List.take_add_one, hg]; rfl
  have hstart : L22_3 n0 es l6 (s, (i : Int)) = ob (br (decide (((lb l6 a : Nat) : Int) = ((lb l6 b : Nat) : Int))) (some s) (ob (α := (Unit) ⊕ (Unit)) (lpN (L22_2 n0 s ((lb l6 a : Nat) : Int) ((lb l6 b : Nat) : Int)) n0 0) fun r354 => match r354 with
    | .inl _ => some s
    | .inr _ => gd (lim (s ++ [prL l6 ((a : Int), (b : Int))]).length) (some (s ++ [prL l6 ((a : Int), (b : Int))])))) fun l311 => some (.inl (l311, ((i + 1 : Nat) : Int))) := by
   unfold L22_3
   simp only [decide_eq_true (show ((i : Nat) : Int) < (es.length : Int) by omega), br_t, Int.toNat_natCast, inB_nat hi, gd_t, hg, ob_s, inB_nat (show a < l6.length by omega), inB_nat (show b < l6.length by omega), a1, b1, wrap_succ (show i < 4611686018427387904 by omega), prL]
   rfl
  rw [hstart, L22_2_eq s _ _ (by omega) n0 hn0]
  by_cases heq : lb l6 a = lb l6 b
  ·refine ⟨s, by simp [heq, br, ob], by omega, h3, fun p => ?_⟩
   rw [h4, htk]
   simp only [List.mem_append, List.mem_singleton]
   constructor
   ·rintro ⟨e', he, h'⟩; exact ⟨e', .inl he, h'⟩
   ·rintro ⟨e', he | rfl, h1, h'⟩
    ·exact ⟨e', he, h1, h'⟩
    ·exact absurd heq h1
  ·have hne : ¬ (((lb l6 a : Nat) : Int) = ((lb l6 b : Nat) : Int)) := by omega
   by_cases hin : prL l6 ((a : Int), (b : Int)) ∈ s
   ·have hin' : (mi ((lb l6 a : Nat) : Int) ((lb l6 b : Nat) : Int), ma ((lb l6 a : Nat) : Int) ((lb l6 b : Nat) : Int)) ∈ s := hin
    refine ⟨s, by simp only [decide_eq_false hne, br_f, if_pos hin', ob_s], by omega, h3, fun p => ?_⟩
    rw [htk]
    simp only [List.mem_append, List.mem_singleton]
    constructor
    ·intro hp
     obtain ⟨e', he, h'⟩ := (h4 p).1 hp
     exact ⟨e', .inl he, h'⟩
    ·rintro ⟨e', he | rfl, h1, h'⟩
     ·exact (h4 p).2 ⟨e', he, h1, h'⟩
     ·rw [h']; exact hin
   ·have hin' : ¬ (mi ((lb l6 a : Nat) : Int) ((lb l6 b : Nat) : Int), ma ((lb l6 a : Nat) : Int) ((lb l6 b : Nat) : Int)) ∈ s := hin
    refine ⟨s ++ [prL l6 ((a : Int), (b : Int))], ?_, by simp; omega, ?_, fun p => ?_⟩
    ·simp only [decide_eq_false hne, br_f, if_neg hin', ob_s]
     rw [lim_of (by simp; omega), gd_t, ob_s]
    ·rw [List.nodup_append]
     exact ⟨h3, by simp, fun x hx y hy => by simp only [List.mem_singleton] at hy; subst hy; exact fun e => hin (e ▸ hx)⟩
    ·rw [htk]
     simp only [List.mem_append, List.mem_singleton]
     constructor
     ·rintro (hp | rfl)
      ·obtain ⟨e', he, h'⟩ := (h4 p).1 hp
       exact ⟨e', .inl he, h'⟩
      ·exact ⟨_, .inr rfl, heq, rfl⟩
     ·rintro ⟨e', he | rfl, h1, h'⟩
      ·exact .inl ((h4 p).2 ⟨e', he, h1, h'⟩)
      ·exact .inr h'
 ·unfold L22_3
  simp [br]
end
end Go.Proofs.YtpclggcpobakhaaDoor
end

section
namespace Go.Proofs.YtpclggcpobakhaaDoor
open Go Go.Ab Go.Ab.W
theorem con_val (n M : Nat) (es : List (Int × Int)) (ls : List Int) (hok : okG (M : Int) es = true) (h : Okay M es) (hlm : ls.length = M) (hb : ls.any (badL M) = false) (hF : Full (maskOf ls)) (hn : 300 < n) :
  ∃ r, F22 n (M : Int) es ls = some ((bl (maskOf ls) : Int), r, 0) ∧ r.Pairwise lexLt ∧ (∀ p, p ∈ r ↔ ∃ i j : Nat, p = ((i : Int), (j : Int)) ∧ i < j ∧ Jn ls es i j) ∧ r.length ≤ 200 := by
 have hM := h.le
 have hlen := h.len
 have hc : ckG (M : Int) es = 0 := by unfold ckG; rw [if_pos hok]
 rcases L22_1_eq n M ls hM hlm n (by omega) with ⟨b1, _⟩ | ⟨_, b2, b3⟩
 ·rw [hb] at b1; cases b1
 obtain ⟨s, s1, s2, s3, s4⟩ := L22_3_eq (n0 := n) h hlm hb n (by omega) (by omega)
 obtain ⟨q1, q2⟩ := sort_asc s3
 refine ⟨s.mergeSort lexLe, ?_, q1, fun p => ?_, by rw [List.length_mergeSort]; exact s2⟩
 ·unfold F22
  rw [F23_eq n _ es (by omega) (by omega) (by omega), ob_s, hc]
  simp only [decide_true, Bool.not_true, br_f]
  rw [decide_eq_true (show (ls.length : Int) = (M : Int) by omega)]
  simp only [Bool.not_true, br_f]
  rw [b2, ob_s]
  simp only
  rw [decide_eq_true ((full_and b3).2 hF)]
  simp only [Bool.not_true, br_f]
  rw [F51_eq n _ b3, ob_s, s1, ob_s]
  unfold F62
  rw [lim_of (by omega), gd_t, ob_s]
 ·rw [q2, s4]
  constructor
  ·rintro ⟨e, he, hne, rfl⟩
   obtain ⟨a, b, rfl, hab, hbM⟩ := h.mem e he
   simp only [Int.toNat_natCast] at hne
   by_cases hlt : lb ls a < lb ls b
   ·refine ⟨lb ls a, lb ls b, ?_, hlt, a, b, he, .inl ⟨rfl, rfl⟩⟩
    simp only [prL, Int.toNat_natCast, mi, ma]
    rw [if_neg (by omega), if_pos (by omega)]
   ·refine ⟨lb ls b, lb ls a, ?_, by omega, a, b, he, .inr ⟨rfl, rfl⟩⟩
    simp only [prL, Int.toNat_natCast, mi, ma]
    rw [if_pos (by omega), if_neg (by omega)]
  ·rintro ⟨i, j, rfl, g1, a, b, he, hc⟩
   refine ⟨_, he, ?_, ?_⟩
   ·simp only [Int.toNat_natCast]
    rcases hc with ⟨c1, c2⟩ | ⟨c1, c2⟩ <;> omega
   ·simp only [prL, Int.toNat_natCast, mi, ma]
    rcases hc with ⟨c1, c2⟩ | ⟨c1, c2⟩
    ·rw [c1, c2, if_neg (by omega), if_pos (by omega)]
    ·rw [c1, c2, if_pos (by omega), if_neg (by omega)]
theorem mask_only {l : List Int} {i : Nat} (h : (maskOf l).testBit i = true) : ∃ x ∈ l, x.toNat = i := by
 have key : ∀ (l : List Int) (s : Nat), (l.foldl (fun s x => s ||| 2 ^ x.toNat) s).testBit i = true → s.testBit i = true ∨ ∃ x ∈ l, x.toNat = i := by
  intro l
  induction l with
  | nil => intro s hs; exact .inl hs
  | cons y l ih =>
   intro s hs
   rw [List.foldl_cons] at hs
   rcases ih _ hs with h | ⟨x, hx, e⟩
   ·rw [Nat.testBit_or, Bool.or_eq_true] at h
    rcases h with h | h
    ·exact .inl h
    ·rw [tb_one, decide_eq_true_eq] at h
     exact .inr ⟨y, by simp, h.symm⟩
   ·exact .inr ⟨x, by simp [hx], e⟩
 rcases key l 0 h with h | h
 ·rw [Nat.zero_testBit] at h; cases h
 ·exact h
theorem mask_range {ls : List Int} {K : Nat} (h : ∀ i, (∃ x ∈ ls, x.toNat = i) ↔ i < K) : bl (maskOf ls) = K ∧ Full (maskOf ls) := by
 have hbit : ∀ i, (maskOf ls).testBit i = decide (i < K) := fun i => by
  by_cases hi : i < K
  ·obtain ⟨x, hx, e⟩ := (h i).2 hi
   rw [← e, mask_bit hx, e, decide_eq_true hi]
  ·cases hb : (maskOf ls).testBit i with
   | false => rw [decide_eq_false hi]
   | true => exact absurd ((h i).1 (mask_only hb)) hi
 have e : maskOf ls = 2 ^ K - 1 := Nat.eq_of_testBit_eq fun i => by rw [hbit, Nat.testBit_two_pow_sub_one]
 have hbl : bl (maskOf ls) = K := (bl_unique fun k => by
  rw [e]
  have hp := Nat.two_pow_pos K
  constructor
  ·intro hk
   have : 2 ^ k < 2 ^ K := Nat.pow_lt_pow_right (by decide) hk
   omega
  ·intro hk
   apply Classical.byContradiction
   intro hno
   have : 2 ^ K ≤ 2 ^ k := Nat.pow_le_pow_right (by decide) (by omega)
   omega).symm
 exact ⟨hbl, fun i hi => by rw [hbit, decide_eq_true]; omega⟩
theorem lexLt_trans {a b c : Int × Int} (h : lexLt a b) (g : lexLt b c) : lexLt a c := by unfold lexLt at *; omega
theorem okE_asc {N : Int} : ∀ {es : List (Int × Int)} {p : Int × Int}, okEp N p es = true → (p :: es).Pairwise lexLt
 | [], p, _ => by simp
 | e :: es, p, h => by
  rw [okE_cons, Bool.and_eq_true] at h
  have ih := okE_asc h.2
  have hpe : lexLt p e := by
   have := h.1
   simp only [stepOk, Bool.and_eq_true, decide_eq_true_eq] at this
   exact this.2
  refine List.pairwise_cons.2 ⟨fun q hq => ?_, ih⟩
  rcases List.mem_cons.1 hq with rfl | hq
  ·exact hpe
  ·exact lexLt_trans hpe ((List.pairwise_cons.1 ih).1 q hq)
theorem okG_asc {N : Int} {es : List (Int × Int)} (h : okG N es = true) : es.Pairwise lexLt := by
 simp only [okG, Bool.and_eq_true] at h
 exact (List.pairwise_cons.1 (okE_asc h.2)).2
theorem asc_okE {N : Int} : ∀ {es : List (Int × Int)} {p : Int × Int}, (p :: es).Pairwise lexLt → (∀ e ∈ es, 0 ≤ e.1 ∧ e.1 < e.2 ∧ e.2 < N) → okEp N p es = true
 | [], p, _, _ => rfl
 | e :: es, p, h, hm => by
  rw [okE_cons, Bool.and_eq_true]
  have h1 := (List.pairwise_cons.1 h).1 e (by simp)
  refine ⟨?_, asc_okE (List.pairwise_cons.1 h).2 fun q hq => hm q (by simp [hq])⟩
  simp only [stepOk, Bool.and_eq_true, decide_eq_true_eq]
  exact ⟨hm e (by simp), h1⟩
theorem con_alone (n M : Nat) (es : List (Int × Int)) (hok : okG (M : Int) es = true) (h : Okay M es) (hn : 300 < n) : F22 n (M : Int) es ((List.range M).map fun (i : Nat) => (i : Int)) = some ((M : Int), es, 0) := by
 have hlm : ((List.range M).map fun (i : Nat) => (i : Int)).length = M := by simp
 have hb : ((List.range M).map fun (i : Nat) => (i : Int)).any (badL M) = false := by
  rw [List.any_eq_false]
  intro x hx
  obtain ⟨i, hi, rfl⟩ := List.mem_map.1 hx
  have := List.mem_range.1 hi
  simp only [badL, Bool.or_eq_true, decide_eq_true_eq]
  omega
 obtain ⟨m1, m2⟩ := mask_range (ls := (List.range M).map fun (i : Nat) => (i : Int)) (K := M) fun i => by
  constructor
  ·rintro ⟨x, hx, rfl⟩
   obtain ⟨k, hk, rfl⟩ := List.mem_map.1 hx
   simpa using hk
  ·intro hi
   exact ⟨(i : Int), List.mem_map.2 ⟨i, by simpa using hi, rfl⟩, by simp⟩
 obtain ⟨r, r1, r2, r3, _⟩ := con_val n M es _ hok h hlm hb m2 hn
 have hlb : ∀ a, a < M → lb ((List.range M).map fun (i : Nat) => (i : Int)) a = a := fun a ha => by
  unfold lb
  rw [List.getElem?_map, List.getElem?_range ha]
  simp
 have : r = es := asc_ext r2 (okG_asc hok) fun p => by
  rw [r3]
  constructor
  ·rintro ⟨i, j, rfl, g1, a, b, he, hc⟩
   obtain ⟨a', b', e, hab, hbM⟩ := h.mem _ he
   simp only [Prod.mk.injEq, Int.natCast_inj] at e
   obtain ⟨rfl, rfl⟩ := e
   rw [hlb a (by omega), hlb b hbM] at hc
   rcases hc with ⟨rfl, rfl⟩ | ⟨rfl, rfl⟩
   ·exact he
   ·omega
  ·intro hp
   obtain ⟨a, b, rfl, hab, hbM⟩ := h.mem _ hp
   exact ⟨a, b, rfl, hab, a, b, hp, .inl ⟨hlb a (by omega), hlb b hbM⟩⟩
 rw [r1, m1, this]
end Go.Proofs.YtpclggcpobakhaaDoor
end

section
namespace Go.Proofs.YtpclggcpobakhaaDoor
open Go Go.Ab Go.Ab.W
inductive Rch (es : List (Int × Int)) (S : Nat) (i : Nat) : Nat → Prop
 | refl : Rch es S i i
 | step {j k : Nat} (h : Rch es S i j) (ha : adj es j k) (hk : S.testBit k = true) : Rch es S i k
theorem Rch.mem {es : List (Int × Int)} {S i j : Nat} (h : Rch es S i j) (hi : S.testBit i = true) : S.testBit j = true := by
 cases h with
 | refl => exact hi
 | step _ _ hk => exact hk
theorem Rch.trans {es : List (Int × Int)} {S i j k : Nat} (h : Rch es S i j) (h' : Rch es S j k) : Rch es S i k := by
 induction h' with
 | refl => exact h
 | step _ ha hk ih => exact .step ih ha hk
theorem Rch.symm {es : List (Int × Int)} {S i j : Nat} (h : Rch es S i j) (hi : S.testBit i = true) : Rch es S j i := by
 induction h with
 | refl => exact .refl
 | step h' ha _ ih => exact Rch.trans (.step .refl (adj_symm ha) (h'.mem hi)) ih
def IsCl (es : List (Int × Int)) (S i w : Nat) : Prop := w < 2 ^ 64 ∧ ∀ j, w.testBit j = true ↔ Rch es S i j
theorem IsCl.unique {es : List (Int × Int)} {S i w w' : Nat} (h : IsCl es S i w) (h' : IsCl es S i w') : w = w' := word_ext fun j => by rw [h.2, h'.2]
theorem IsCl.of {es : List (Int × Int)} {S i w : Nat} (hw : w < 2 ^ 64) (hi : w.testBit i = true) (hr : ∀ j, w.testBit j = true → Rch es S i j) (hc : ∀ j k, w.testBit j = true → adj es j k → S.testBit k = true → w.testBit k = true) : IsCl es S i w := by
 refine ⟨hw, fun j => ⟨hr j, fun h => ?_⟩⟩
 induction h with
 | refl => exact hi
 | step _ ha hk ih => exact hc _ _ ih ha hk
inductive Cs (es : List (Int × Int)) (S : Nat) : Nat → List Nat → Prop
 | nil : Cs es S 0 []
 | cons {r w : Nat} {L : List Nat} (h0 : 0 < r) (hr : r < 2 ^ 64) (hw : IsCl es S (tz r) w) (t : Cs es S (uandn .u64 r w) L) : Cs es S r (w :: L)
theorem Cs.unique {es : List (Int × Int)} {S : Nat} {L : List Nat} : ∀ {r : Nat} {L' : List Nat}, Cs es S r L → Cs es S r L' → L = L' := by
 intro r L' h
 induction h generalizing L' with
 | nil => intro h'; cases h' with
  | nil => rfl
  | cons h0 => exact absurd h0 (Nat.lt_irrefl 0)
 | cons h0 hr hw _ ih => intro h'; cases h' with
  | nil => exact absurd h0 (Nat.lt_irrefl 0)
  | cons _ _ hw' t' =>
   have := hw.unique hw'
   subst this
   rw [ih t']
def cnt (x : Nat) : Nat := (bitsOf x).length
theorem filter_le {p q : Nat → Bool} : ∀ {l : List Nat}, (∀ i ∈ l, p i = true → q i = true) → (l.filter p).length ≤ (l.filter q).length
 | [], _ => Nat.le_refl _
 | x :: l, h => by
  have ih := filter_le (p := p) (q := q) (l := l) fun i hi => h i (by simp [hi])
  by_cases hp : p x = true
  ·rw [List.filter_cons_of_pos hp, List.filter_cons_of_pos (h x (by simp) hp)]
   simp only [List.length_cons]; omega
  ·rw [List.filter_cons_of_neg hp]
   by_cases hq : q x = true
   ·rw [List.filter_cons_of_pos hq, List.length_cons]; omega
   ·rw [List.filter_cons_of_neg hq]; exact ih
theorem filter_lt {p q : Nat → Bool} {a : Nat} : ∀ {l : List Nat}, a ∈ l → (∀ i ∈ l, p i = true → q i = true) → p a = false → q a = true → (l.filter p).length < (l.filter q).length
 | x :: l, ha, h, h1, h2 => by
  by_cases hx : x = a
  ·subst hx
   rw [List.filter_cons_of_neg (by rw [h1]; decide), List.filter_cons_of_pos h2, List.length_cons]
   have := filter_le (p := p) (q := q) (l := l) fun i hi => h i (by simp [hi])
   omega
  ·have ha' : a ∈ l := by
    rcases List.mem_cons.1 ha with e | e
    ·exact absurd e.symm hx
    ·exact e
   have ih := filter_lt ha' (fun i hi => h i (by simp [hi])) h1 h2
   by_cases hp : p x = true
   ·rw [List.filter_cons_of_pos hp, List.filter_cons_of_pos (h x (by simp) hp)]
    simp only [List.length_cons]; omega
   ·rw [List.filter_cons_of_neg hp]
    by_cases hq : q x = true
    ·rw [List.filter_cons_of_pos hq, List.length_cons]; omega
    ·rw [List.filter_cons_of_neg hq]; exact ih
theorem cnt_lt {a b i : Nat} (hb : b < 2 ^ 64) (h : ∀ i, a.testBit i = true → b.testBit i = true) (h1 : a.testBit i = false) (h2 : b.testBit i = true) : cnt a < cnt b :=
 filter_lt (by have := tb_lt hb h2; simpa using this) (fun i _ h' => h i h') h1 h2
theorem L58_1_eq (n N : Nat) (es : List (Int × Int)) (L : List Nat) (S p : Nat) (hL : AroundOk N es L) (hS : S < 2 ^ 64) (hp : p < 2 ^ N) (hN : N ≤ 64) (hn : 64 < n) :
  ∃ q, lpN (L58_1 n L S) n (p, p) = some q ∧ q < 2 ^ 64 ∧ ∀ i, q.testBit i = true ↔ p.testBit i = true ∨ ∃ k, p.testBit k = true ∧ adj es k i ∧ S.testBit i = true := by
 have hp64 := lt64 hp hN
 have hat : ∀ k, p.testBit k = true → ∃ w, L[k]? = some w ∧ L.getD k 0 = w ∧ w < 2 ^ 64 ∧ ∀ i, w.testBit i = true ↔ adj es k i := fun k hk => by
  obtain ⟨w, h1, h2, h3⟩ := hL.2 k (tb_ltN hp hk)
  exact ⟨w, h1, by simp [List.getD, h1], h2, h3⟩
 have := lp_bits (body := L58_1 n L S) (fun (r s : Nat) => (r, s)) (fun s k => s ||| (L.getD k 0 &&& S)) id (fun s => s < 2 ^ 64) p (fun r s h0 hr hb hs => ?_) (fun s _ => ?_) n p p hp64 (fun i hi => hi) hp64 (by have := bitsOf_len p; omega)
 ·refine ⟨_, this, foldl_or_lt _ _ _ hp64 fun k hk => ?_, fun i => ?_⟩
  ·obtain ⟨w, _, h2, h3, _⟩ := hat k ((mem_bitsOf hp64).1 hk)
   rw [h2]; exact and_lt' h3
  ·rw [id_eq, foldl_or]
   simp only [mem_bitsOf hp64, Nat.testBit_and, Bool.and_eq_true]
   constructor
   ·rintro (h | ⟨k, hk, h1, h2⟩)
    ·exact .inl h
    ·obtain ⟨w, _, e, _, h3⟩ := hat k hk
     rw [e] at h1
     exact .inr ⟨k, hk, (h3 i).1 h1, h2⟩
   ·rintro (h | ⟨k, hk, h1, h2⟩)
    ·exact .inl h
    ·obtain ⟨w, _, e, _, h3⟩ := hat k hk
     exact .inr ⟨k, hk, by rw [e]; exact (h3 i).2 h1, h2⟩
 ·obtain ⟨w, h1, h2, h3, h4⟩ := hat _ hb
  have hkN := tb_ltN hp hb
  refine ⟨?_, by rw [h2]; exact or_lt' hs (and_lt' h3)⟩
  have hlen := hL.1
  simp only [L58_1, F42_eq hr, ob_s, Int.toNat_natCast, h1, h2, word_and h3 hS, word_or hs (and_lt' (b := S) h3)]
  rw [show (!decide (r = 0)) = true by simp; omega, br_t, inB_nat (by omega), gd_t]
  rfl
 ·simp only [L58_1]
  rfl
theorem L58_2_eq (n N : Nat) (es : List (Int × Int)) (L : List Nat) (S i : Nat) (hok : Okay N es) (hL : AroundOk N es L) (hS : S < 2 ^ N) (hi : S.testBit i = true) (hn : 64 < n) :
  ∀ (m p k : Nat), p < 2 ^ N → p.testBit i = true → (∀ j, p.testBit j = true → Rch es S i j) → 64 - cnt p < m → k = m → ∃ w, lpN (L58_2 n L S) k p = some w ∧ IsCl es S i w := by
 intro m
 have hN := hok.le
 have hS64 := lt64 hS hN
 induction m with
 | zero => intro p k _ _ _ h; exact absurd h (Nat.not_lt_zero _)
 | succ m ih =>
  rintro p k hp hpi hr hm rfl
  have hp64 := lt64 hp hN
  obtain ⟨q, h1, h2, h3⟩ := L58_1_eq n N es L S p hL hS64 hp hN hn
  have hbody : L58_2 n L S p = br (decide (q = p)) (some (.inr p)) (some (.inl q)) := by
   unfold L58_2
   rw [ob_s, h1, ob_s, ob_s]
  by_cases hq : q = p
  ·rw [hq, decide_eq_true rfl, br_t] at hbody
   rw [hq] at h3
   exact ⟨p, lp_end hbody, IsCl.of hp64 hpi hr fun j k hj ha hk => (h3 k).2 (.inr ⟨j, hj, ha, hk⟩)⟩
  ·rw [br_df hq] at hbody
   rw [lp_next hbody]
   have hsub : ∀ j, p.testBit j = true → q.testBit j = true := fun j hj => (h3 j).2 (.inl hj)
   have hqr : ∀ j, q.testBit j = true → Rch es S i j := fun j hj => by
    rcases (h3 j).1 hj with h | ⟨k, hk, ha, hs⟩
    ·exact hr j h
    ·exact .step (hr k hk) ha hs
   have hqN : q < 2 ^ N := by
    have : ∀ j, q.testBit j = true → S.testBit j = true := fun j hj => (hqr j hj).mem hi
    refine Nat.lt_pow_two_of_testBit q fun j hj => ?_
    cases e : q.testBit j with
    | false => rfl
    | true => have := tb_ltN hS (this j e); omega
   obtain ⟨j, hj1, hj2⟩ : ∃ j, p.testBit j = false ∧ q.testBit j = true := by
    apply Classical.byContradiction
    intro hno
    refine hq (word_ext fun j => ⟨fun hj => ?_, hsub j⟩)
    cases e : p.testBit j with
    | true => rfl
    | false => exact absurd ⟨j, e, hj⟩ hno
   have hc := cnt_lt h2 hsub hj1 hj2
   have hcl : cnt q ≤ 64 := bitsOf_len q
   exact ih q m hqN (hsub i hpi) hqr (by omega) rfl
theorem L58_3_eq (n N : Nat) (es : List (Int × Int)) (L : List Nat) (S : Nat) (hok : Okay N es) (hL : AroundOk N es L) (hS : S < 2 ^ N) (hn : 65 < n) :
  ∀ (m r k : Nat) (acc : List Nat), (∀ i, r.testBit i = true → S.testBit i = true) → r < 2 ^ 64 → cnt r < m → m ≤ k → acc.length + cnt r ≤ 64 → ∃ l, lpN (L58_3 n L S) k (acc, r) = some (acc ++ l) ∧ Cs es S r l ∧ l.length ≤ cnt r := by
 intro m
 have hN := hok.le
 induction m with
 | zero => intro r k acc _ _ h; exact absurd h (Nat.not_lt_zero _)
 | succ m ih =>
  intro r k acc hsub hr hm hk hacc
  obtain ⟨k, rfl⟩ : ∃ k', k = k' + 1 := ⟨k - 1, by omega⟩
  rcases Nat.eq_zero_or_pos r with h0 | h0
  ·subst h0
   refine ⟨[], ?_, .nil, Nat.zero_le _⟩
   rw [List.append_nil]
   exact lp_end (by simp only [L58_3]; rfl)
  ·obtain ⟨hb, _⟩ := tz_bit h0 hr
   have hSi := hsub _ hb
   have hiN := tb_ltN hS hSi
   obtain ⟨w, h1, hw⟩ := L58_2_eq n N es L S (tz r) hok hL hS hSi (by omega) n (2 ^ tz r) n (Nat.pow_lt_pow_right (by decide) hiN) (by rw [tb_one]; simp) (fun j hj => by
    rw [tb_one, decide_eq_true_eq] at hj; subst hj; exact .refl) (by omega) rfl
   have hwi : w.testBit (tz r) = true := (hw.2 _).2 .refl
   have hlt : cnt (uandn .u64 r w) < cnt r := cnt_lt (i := tz r) hr (fun i hi => by
    rw [tb_andn hr hw.1, Bool.and_eq_true] at hi; exact hi.1) (by rw [tb_andn hr hw.1, hwi]; simp) hb
   obtain ⟨l, h2, h3, h4⟩ := ih (uandn .u64 r w) k (acc ++ [w]) (fun i hi => by
    rw [tb_andn hr hw.1, Bool.and_eq_true] at hi; exact hsub i hi.1) (andn_lt hr hw.1) (by omega) (by omega) (by simp; omega)
   refine ⟨w :: l, ?_, .cons h0 hr hw h3, by simp; omega⟩
   rw [lp_next (s' := (acc ++ [w], uandn .u64 r w)) ?_, h2, List.append_assoc]; rfl
   simp only [L58_3]
   rw [show (!decide (r = 0)) = true by simp; omega, br_t, low_word h0 hr, h1, ob_s, lim_of (by simp; omega), gd_t]
theorem F58_eq (n N : Nat) (es : List (Int × Int)) (S : Nat) (hok : Okay N es) (hS : S < 2 ^ N) (hn : 200 < n) : ∃ l, F58 n (N : Int) es S = some l ∧ Cs es S S l ∧ l.length ≤ 64 := by
 obtain ⟨L, hL, hA⟩ := F75_eq n N es hok hn
 have hS64 := lt64 hS hok.le
 have hc : cnt S ≤ 64 := bitsOf_len S
 obtain ⟨l, h1, h2, h3⟩ := L58_3_eq n N es L S hok hA hS (by omega) (cnt S + 1) S n [] (fun i h => h) hS64 (by omega) (by omega) (by simpa using hc)
 refine ⟨l, ?_, h2, by omega⟩
 unfold F58
 rw [hL, ob_s, h1, ob_s]; rfl
def rnd1 (S : Nat) (v : Nat) (e : Int × Int) : Nat := if S.testBit e.1.toNat && S.testBit e.2.toNat && (v.testBit e.1.toNat || v.testBit e.2.toNat) then v ||| 2 ^ e.1.toNat ||| 2 ^ e.2.toNat else v
theorem L71_body (n : Nat) (es : List (Int × Int)) (S v k a b : Nat) (hS : S < 2 ^ 64) (hv : v < 2 ^ 64) (he : es[k]? = some ((a : Int), (b : Int))) (ha : a < 64) (hb : b < 64) (hk : k < 200) :
  L71_1 n es (-1) S (v, (k : Int)) = some (.inl (rnd1 S v ((a : Int), (b : Int)), ((k + 1 : Nat) : Int))) := by
 have hlt : k < es.length := (List.getElem?_eq_some_iff.1 he).1
 have h1 : uw .u64 (uw .u64 (uw .u64 (uw .u64 v ||| uw .u64 (2 ^ a))) ||| uw .u64 (2 ^ b)) = v ||| 2 ^ a ||| 2 ^ b := by rw [word_or hv (one_lt ha), word_or (or_lt' hv (one_lt ha)) (one_lt hb)]
 have hne : (!decide ((k : Int) = -1)) = true := by rw [decide_eq_false (by omega)]; rfl
 unfold L71_1
 simp only [Int.toNat_natCast, he, ob_s, F67_eq n S a hS ha, F67_eq n S b hS hb, F67_eq n v a hv ha, F67_eq n v b hv hb, F68_eq n a ha, F68_eq n b hb, inB_nat hlt, gd_t, wrap_succ (show k < 4611686018427387904 by omega), hne, br_t, h1]
 rw [br_dt (by omega)]
 unfold rnd1
 simp only [Int.toNat_natCast]
 rcases Bool.eq_false_or_eq_true (S.testBit a) with e1 | e1 <;> rcases Bool.eq_false_or_eq_true (S.testBit b) with e2 | e2 <;> rcases Bool.eq_false_or_eq_true (v.testBit a) with e3 | e3 <;> rcases Bool.eq_false_or_eq_true (v.testBit b) with e4 | e4 <;>
  simp only [e1, e2, e3, e4, br_t, br_f, ob_s, Bool.and_self, Bool.and_true, Bool.and_false, Bool.true_and, Bool.or_self, Bool.or_true, Bool.or_false, Bool.true_or, if_true, Bool.false_eq_true, if_false]
theorem rnd1_lt {S v : Nat} {a b : Nat} (hv : v < 2 ^ 64) (ha : a < 64) (hb : b < 64) : rnd1 S v ((a : Int), (b : Int)) < 2 ^ 64 := by
 unfold rnd1
 simp only [Int.toNat_natCast]
 split
 ·exact or_lt' (or_lt' hv (one_lt ha)) (one_lt hb)
 ·exact hv
theorem rnd1_bit {S v a b i : Nat} : (rnd1 S v ((a : Int), (b : Int))).testBit i = true ↔ v.testBit i = true ∨ ((S.testBit a = true ∧ S.testBit b = true ∧ (v.testBit a = true ∨ v.testBit b = true)) ∧ (i = a ∨ i = b)) := by
 unfold rnd1
 simp only [Int.toNat_natCast]
 split
 ·rename_i h
  simp only [Bool.and_eq_true, Bool.or_eq_true] at h
  rw [Nat.testBit_or, Nat.testBit_or, Bool.or_eq_true, Bool.or_eq_true, tb_one, tb_one, decide_eq_true_eq, decide_eq_true_eq]
  constructor
  ·rintro ((h1 | h1) | h1)
   ·exact .inl h1
   ·exact .inr ⟨⟨h.1.1, h.1.2, h.2⟩, .inl h1⟩
   ·exact .inr ⟨⟨h.1.1, h.1.2, h.2⟩, .inr h1⟩
  ·rintro (h1 | ⟨_, h1 | h1⟩)
   ·exact .inl (.inl h1)
   ·exact .inl (.inr h1)
   ·exact .inr h1
 ·rename_i h
  constructor
  ·exact .inl
  ·rintro (h1 | ⟨⟨h1, h2, h3⟩, _⟩)
   ·exact h1
   ·exact absurd (by simp [h1, h2, h3]) h
def rnd (es : List (Int × Int)) (S v : Nat) : Nat := es.foldl (rnd1 S) v
def inn (es : List (Int × Int)) (v : Nat) : Nat := (es.filter fun e => v.testBit e.1.toNat && v.testBit e.2.toNat).length
theorem rnd_sub {S : Nat} : ∀ {es : List (Int × Int)} {v i : Nat}, (∀ e ∈ es, ∃ a b : Nat, e = ((a : Int), (b : Int)) ∧ a < 64 ∧ b < 64) → v.testBit i = true → (es.foldl (rnd1 S) v).testBit i = true
 | [], _, _, _, h => h
 | e :: es, v, i, hm, h => by
  obtain ⟨a, b, rfl, _, _⟩ := hm e (by simp)
  rw [List.foldl_cons]
  exact rnd_sub (fun e he => hm e (by simp [he])) (rnd1_bit.2 (.inl h))
theorem rnd_lt {S : Nat} : ∀ {es : List (Int × Int)} {v : Nat}, (∀ e ∈ es, ∃ a b : Nat, e = ((a : Int), (b : Int)) ∧ a < 64 ∧ b < 64) → v < 2 ^ 64 → es.foldl (rnd1 S) v < 2 ^ 64
 | [], _, _, h => h
 | e :: es, v, hm, h => by
  obtain ⟨a, b, rfl, ha, hb⟩ := hm e (by simp)
  rw [List.foldl_cons]
  exact rnd_lt (fun e he => hm e (by simp [he])) (rnd1_lt h ha hb)
theorem rnd_rch {es0 : List (Int × Int)} {S i : Nat} : ∀ {es : List (Int × Int)} {v : Nat}, (∀ e ∈ es, e ∈ es0 ∧ ∃ a b : Nat, e = ((a : Int), (b : Int)) ∧ a < 64 ∧ b < 64) → (∀ j, v.testBit j = true → Rch es0 S i j) → ∀ j, (es.foldl (rnd1 S) v).testBit j = true → Rch es0 S i j
 | [], _, _, h, j, hj => h j hj
 | e :: es, v, hm, h, j, hj => by
  obtain ⟨hin, a, b, rfl, ha, hb⟩ := hm e (by simp)
  rw [List.foldl_cons] at hj
  refine rnd_rch (fun e he => hm e (by simp [he])) (fun k hk => ?_) j hj
  rcases rnd1_bit.1 hk with h1 | ⟨⟨s1, s2, h1 | h1⟩, rfl | rfl⟩
  ·exact h k h1
  ·exact h _ h1
  ·exact .step (h a h1) (.inl hin) s2
  ·exact .step (h b h1) (.inr hin) s1
  ·exact h _ h1
theorem rnd_grow {S : Nat} {es : List (Int × Int)} (hm : ∀ e ∈ es, ∃ a b : Nat, e = ((a : Int), (b : Int)) ∧ a < 64 ∧ b < 64) (v : Nat) :
  (∀ e ∈ es, S.testBit e.1.toNat = true → S.testBit e.2.toNat = true → (v.testBit e.1.toNat = true ∨ v.testBit e.2.toNat = true) → v.testBit e.1.toNat = true ∧ v.testBit e.2.toNat = true) ∨ inn es v < inn es (rnd es S v) := by
 by_cases h : ∀ e ∈ es, S.testBit e.1.toNat = true → S.testBit e.2.toNat = true → (v.testBit e.1.toNat = true ∨ v.testBit e.2.toNat = true) → v.testBit e.1.toNat = true ∧ v.testBit e.2.toNat = true
 ·exact .inl h
 ·right
  obtain ⟨e, he, s1, s2, h1, h2⟩ : ∃ e, e ∈ es ∧ S.testBit e.1.toNat = true ∧ S.testBit e.2.toNat = true ∧ (v.testBit e.1.toNat = true ∨ v.testBit e.2.toNat = true) ∧ ¬ (v.testBit e.1.toNat = true ∧ v.testBit e.2.toNat = true) := by
   apply Classical.byContradiction
   intro hno
   refine h fun e he s1 s2 h1 => ?_
   apply Classical.byContradiction
   intro h2
   exact hno ⟨e, he, s1, s2, h1, h2⟩
  obtain ⟨l1, l2, rfl⟩ := List.append_of_mem he
  obtain ⟨a, b, rfl, ha, hb⟩ := hm e he
  simp only [Int.toNat_natCast] at s1 s2 h1 h2
  have hboth : (rnd (l1 ++ ((a : Int), (b : Int)) :: l2) S v).testBit a = true ∧ (rnd (l1 ++ ((a : Int), (b : Int)) :: l2) S v).testBit b = true := by
   unfold rnd
   rw [List.foldl_append, List.foldl_cons]
   have hm1 : ∀ e ∈ l1, ∃ a b : Nat, e = ((a : Int), (b : Int)) ∧ a < 64 ∧ b < 64 := fun e he => hm e (by simp [he])
   have hm2 : ∀ e ∈ l2, ∃ a b : Nat, e = ((a : Int), (b : Int)) ∧ a < 64 ∧ b < 64 := fun e he => hm e (by simp [he])
   have hc : (l1.foldl (rnd1 S) v).testBit a = true ∨ (l1.foldl (rnd1 S) v).testBit b = true := h1.imp (rnd_sub hm1) (rnd_sub hm1)
   exact ⟨rnd_sub hm2 (rnd1_bit.2 (.inr ⟨⟨s1, s2, hc⟩, .inl rfl⟩)), rnd_sub hm2 (rnd1_bit.2 (.inr ⟨⟨s1, s2, hc⟩, .inr rfl⟩))⟩
  generalize hes : l1 ++ ((a : Int), (b : Int)) :: l2 = es at hm he hboth ⊢
  unfold inn
  have key : ∀ (l : List (Int × Int)) (p q : Int × Int → Bool), (∀ e ∈ l, p e = true → q e = true) → (l.filter p).length ≤ (l.filter q).length ∧ ((∃ e ∈ l, p e = false ∧ q e = true) → (l.filter p).length < (l.filter q).length) := by
   intro l p q
   induction l with
   | nil => intro _; exact ⟨Nat.le_refl _, fun ⟨e, h, _⟩ => by cases h⟩
   | cons x l ih =>
    intro hpq
    obtain ⟨ih1, ih2⟩ := ih fun e he => hpq e (by simp [he])
    have hx := hpq x (by simp)
    by_cases hp : p x = true
    ·rw [List.filter_cons_of_pos hp, List.filter_cons_of_pos (hx hp)]
     refine ⟨by simp only [List.length_cons]; omega, fun ⟨e, he, h1, h2⟩ => ?_⟩
     rcases List.mem_cons.1 he with rfl | he
     ·rw [h1] at hp; cases hp
     ·have := ih2 ⟨e, he, h1, h2⟩
      simp only [List.length_cons]; omega
    ·rw [List.filter_cons_of_neg hp]
     by_cases hq : q x = true
     ·rw [List.filter_cons_of_pos hq, List.length_cons]
      exact ⟨by omega, fun _ => by omega⟩
     ·rw [List.filter_cons_of_neg hq]
      refine ⟨ih1, fun ⟨e, he, h1, h2⟩ => ?_⟩
      rcases List.mem_cons.1 he with rfl | he
      ·exact absurd h2 hq
      ·exact ih2 ⟨e, he, h1, h2⟩
  refine (key es _ _ fun e he' h => ?_).2 ⟨_, he, ?_, ?_⟩
  ·simp only [Bool.and_eq_true] at h ⊢
   exact ⟨rnd_sub hm h.1, rnd_sub hm h.2⟩
  ·simp only [Int.toNat_natCast]
   cases e1 : v.testBit a <;> cases e2 : v.testBit b <;> simp_all
  ·simp only [Int.toNat_natCast, hboth.1, hboth.2, Bool.and_self]
end Go.Proofs.YtpclggcpobakhaaDoor
end

section
namespace Go.Proofs.YtpclggcpobakhaaDoor
open Go Go.Ab Go.Ab.W
theorem Okay.mem64 {N : Nat} {es : List (Int × Int)} (h : Okay N es) : ∀ e ∈ es, ∃ a b : Nat, e = ((a : Int), (b : Int)) ∧ a < 64 ∧ b < 64 := fun e he => by
 obtain ⟨a, b, e1, h1, h2⟩ := h.mem e he
 have := h.le
 exact ⟨a, b, e1, by omega, by omega⟩
def Closed (es : List (Int × Int)) (S v : Nat) : Prop := ∀ e ∈ es, S.testBit e.1.toNat = true → S.testBit e.2.toNat = true → (v.testBit e.1.toNat = true ∨ v.testBit e.2.toNat = true) → v.testBit e.1.toNat = true ∧ v.testBit e.2.toNat = true
theorem rnd_closed {S v : Nat} : ∀ {es es0 : List (Int × Int)}, (∀ e ∈ es, e ∈ es0 ∧ ∃ a b : Nat, e = ((a : Int), (b : Int)) ∧ a < 64 ∧ b < 64) → Closed es0 S v → es.foldl (rnd1 S) v = v
 | [], _, _, _ => rfl
 | e :: es, es0, hm, h => by
  obtain ⟨hin, a, b, rfl, ha, hb⟩ := hm e (by simp)
  have h1 : rnd1 S v ((a : Int), (b : Int)) = v := word_ext fun i => by
   rw [rnd1_bit]
   constructor
   ·rintro (h1 | ⟨⟨s1, s2, h1⟩, rfl | rfl⟩)
    ·exact h1
    ·have := h _ hin (by simpa using s1) (by simpa using s2) (by simpa using h1)
     simpa using this.1
    ·have := h _ hin (by simpa using s1) (by simpa using s2) (by simpa using h1)
     simpa using this.2
   ·exact .inl
  rw [List.foldl_cons, h1]
  exact rnd_closed (fun e he => hm e (by simp [he])) h
theorem F71_eq (n N : Nat) (es : List (Int × Int)) (S i : Nat) (hok : Okay N es) (hS : S < 2 ^ N) (hi : S.testBit i = true) (hn : 200 < n) : ∃ w, F71 n (N : Int) es S ((i : Nat) : Int) (-1) = some w ∧ IsCl es S i w := by
 have hN := hok.le
 have hlen := hok.len
 have hS64 := lt64 hS hN
 have hi64 := tb_lt hS64 hi
 have hm := hok.mem64
 have hinner : ∀ v, v < 2 ^ 64 → lpN (L71_1 n es (-1) S) n (v, 0) = some (rnd es S v) := fun v hv => by
  have := lp_list0 (body := L71_1 n es (-1) S) es (fun (s : Nat) (k : Int) => (s, k)) (rnd1 S) id (fun _ s => s < 2 ^ 64) (fun s k e he hI => ?_) (fun s _ => ?_) (n := n) (s := v) hv (by omega)
  ·exact this.1
  ·have hk : k < es.length := (List.getElem?_eq_some_iff.1 he).1
   obtain ⟨a, b, rfl, ha, hb⟩ := hm e (List.mem_of_getElem? he)
   exact ⟨L71_body n es S s k a b hS64 hI he ha hb (by omega), rnd1_lt hI ha hb⟩
  ·simp only [L71_1]
   rw [br_df (by omega)]; rfl
 have hout := lp_upto (body := L71_2 n es (-1) S) es.length (fun (s : Nat) (k : Int) => (s, k)) (fun s _ => rnd es S s) id
  (fun k s => s < 2 ^ 64 ∧ s.testBit i = true ∧ (∀ j, s.testBit j = true → Rch es S i j) ∧ (Closed es S s ∨ k ≤ inn es s)) (fun s k hk hI => ?_) (fun s _ => ?_) (n := n) (s := 2 ^ i) ⟨one_lt hi64, by rw [tb_one]; simp, fun j hj => by
   rw [tb_one, decide_eq_true_eq] at hj; subst hj; exact .refl, .inr (Nat.zero_le _)⟩ (by omega)
 ·obtain ⟨h1, h2, h3, h4, h5⟩ := hout
  refine ⟨_, by unfold F71; rw [F68_eq n i hi64, ob_s]; simp only [h1, ob_s, id_eq]; rfl, ?_⟩
  have hcl : Closed es S ((List.range es.length).foldl (fun s _ => rnd es S s) (2 ^ i)) := by
   rcases h5 with h5 | h5
   ·exact h5
   ·intro e he _ _ _
    have hall : (es.filter fun e => ((List.range es.length).foldl (fun s _ => rnd es S s) (2 ^ i)).testBit e.1.toNat && ((List.range es.length).foldl (fun s _ => rnd es S s) (2 ^ i)).testBit e.2.toNat).length = es.length := Nat.le_antisymm (List.length_filter_le _ _) h5
    have := List.length_filter_eq_length_iff.1 hall e he
    simpa using this
  refine IsCl.of h2 h3 h4 fun j k hj ha hk => ?_
  have hjS := (h4 j hj).mem hi
  rcases ha with ha | ha
  ·have := hcl _ ha (by simpa using hjS) (by simpa using hk) (.inl (by simpa using hj))
   simpa using this.2
  ·have := hcl _ ha (by simpa using hk) (by simpa using hjS) (.inr (by simpa using hj))
   simpa using this.1
 ·obtain ⟨g1, g2, g3, g4⟩ := hI
  refine ⟨?_, rnd_lt hm g1, rnd_sub hm g2, rnd_rch (fun e he => ⟨he, hm e he⟩) g3, ?_⟩
  ·simp only [L71_2]
   rw [br_dt (by omega), hinner s g1, ob_s, wrap_succ (by omega)]
  ·rcases g4 with g4 | g4
   ·have e : rnd es S s = s := rnd_closed (fun e he => ⟨he, hm e he⟩) g4
    rw [e]; exact .inl g4
   ·rcases rnd_grow hm s with h | h
    ·have e : rnd es S s = s := rnd_closed (fun e he => ⟨he, hm e he⟩) h
     rw [e]; exact .inl h
    ·exact .inr (by omega)
 ·simp only [L71_2]
  rw [br_df (by omega)]; rfl
theorem andn_or {a b c : Nat} (ha : a < 2 ^ 64) (hb : b < 2 ^ 64) (hc : c < 2 ^ 64) : uandn .u64 a (b ||| c) = uandn .u64 (uandn .u64 a b) c := word_ext fun i => by
 rw [tb_andn ha (or_lt' hb hc), tb_andn (andn_lt ha hb) hc, tb_andn ha hb, Nat.testBit_or]
 cases a.testBit i <;> cases b.testBit i <;> cases c.testBit i <;> decide
theorem tz_unique {x i : Nat} (hx : x < 2 ^ 64) (hi : x.testBit i = true) (hl : ∀ j, x.testBit j = true → i ≤ j) : 0 < x ∧ tz x = i := by
 have h0 : 0 < x := by
  rcases Nat.eq_zero_or_pos x with h | h
  ·subst h; rw [Nat.zero_testBit] at hi; cases hi
  ·exact h
 obtain ⟨h1, h2⟩ := tz_bit h0 hx
 refine ⟨h0, ?_⟩
 rcases Nat.lt_trichotomy (tz x) i with h | h | h
 ·have := hl _ h1; omega
 ·exact h
 ·have := h2 i h; rw [hi] at this; cases this
theorem L70_eq (n N : Nat) (es : List (Int × Int)) (S : Nat) (hok : Okay N es) (hS : S < 2 ^ N) (hn : 200 < n) :
  ∀ (k i m : Nat) (acc : List Nat) (done : Nat), i + k = N → done < 2 ^ 64 → (∀ j, (uandn .u64 S done).testBit j = true → i ≤ j) → acc.length ≤ i → k < m →
   ∃ l, lpN (L70_1 n (N : Int) S es) m (acc, done, (i : Int)) = some (acc ++ l) ∧ Cs es S (uandn .u64 S done) l := by
 intro k
 have hN := hok.le
 have hS64 := lt64 hS hN
 induction k with
 | zero =>
  intro i m acc done hi hd hl ha hm
  obtain ⟨m, rfl⟩ : ∃ m', m = m' + 1 := ⟨m - 1, by omega⟩
  have hz : uandn .u64 S done = 0 := word_zero.2 fun j => by
   cases e : (uandn .u64 S done).testBit j with
   | false => rfl
   | true =>
    have h1 := hl j e
    rw [tb_andn hS64 hd, Bool.and_eq_true] at e
    have := tb_ltN hS e.1
    omega
  rw [hz]
  refine ⟨[], ?_, .nil⟩
  rw [List.append_nil]
  exact lp_end (by simp only [L70_1]; rw [br_df (by omega)])
 | succ k ih =>
  intro i m acc done hi hd hl ha hm
  obtain ⟨m, rfl⟩ : ∃ m', m = m' + 1 := ⟨m - 1, by omega⟩
  have hi64 : i < 64 := by omega
  have hbit := tb_andn hS64 hd i
  have hcond : (ob (ob (F67 n S (i : Int)) fun r140 => br r140 (ob (F67 n done (i : Int)) fun r143 => some (!r143)) (some false)) fun v138 => br v138 (ob (F71 n (N : Int) es S (i : Int) (-1)) fun r148 => gd (lim (acc ++ [r148]).length) (some ((acc ++ [r148]), uw .u64 (uw .u64 done ||| uw .u64 r148)))) (some (acc, done)))
    = br (S.testBit i && !done.testBit i) (ob (F71 n (N : Int) es S (i : Int) (-1)) fun r148 => gd (lim (acc ++ [r148]).length) (some ((acc ++ [r148]), uw .u64 (uw .u64 done ||| uw .u64 r148)))) (some (acc, done)) := by
   rw [F67_eq n S i hS64 hi64, F67_eq n done i hd hi64, ob_s]
   rcases Bool.eq_false_or_eq_true (S.testBit i) with h | h <;> simp only [h, br_t, br_f, ob_s, Bool.true_and, Bool.false_and]
  have hbody : L70_1 n (N : Int) S es (acc, done, (i : Int)) = ob (br (S.testBit i && !done.testBit i) (ob (F71 n (N : Int) es S (i : Int) (-1)) fun r148 => gd (lim (acc ++ [r148]).length) (some ((acc ++ [r148]), uw .u64 (uw .u64 done ||| uw .u64 r148)))) (some (acc, done))) fun x => some (.inl (x.1, x.2, ((i + 1 : Nat) : Int))) := by
   simp only [L70_1]
   rw [br_dt (by omega), hcond, wrap_succ (by omega)]
  by_cases hc : (S.testBit i && !done.testBit i) = true
  ·rw [hc, br_t] at hbody
   have hSi : S.testBit i = true := by simp only [Bool.and_eq_true] at hc; exact hc.1
   obtain ⟨w, h1, hw⟩ := F71_eq n N es S i hok hS hSi hn
   rw [h1, ob_s, lim_of (by simp; omega), gd_t, ob_s, word_or hd hw.1] at hbody
   rw [hc] at hbit
   obtain ⟨h0, htz⟩ := tz_unique (andn_lt hS64 hd) hbit hl
   have hwi : w.testBit i = true := (hw.2 i).2 .refl
   obtain ⟨l, h2, h3⟩ := ih (i + 1) m (acc ++ [w]) (done ||| w) (by omega) (or_lt' hd hw.1) (fun j hj => by
    rw [andn_or hS64 hd hw.1, tb_andn (andn_lt hS64 hd) hw.1, Bool.and_eq_true] at hj
    have := hl j hj.1
    have : j ≠ i := fun e => by subst e; rw [hwi] at hj; cases hj.2
    omega) (by simp; omega) (by omega)
   refine ⟨w :: l, ?_, ?_⟩
   ·rw [lp_next hbody, h2, List.append_assoc]; rfl
   ·rw [andn_or hS64 hd hw.1] at h3
    exact .cons h0 (andn_lt hS64 hd) (by rw [htz]; exact hw) h3
  ·rw [Bool.not_eq_true] at hc
   rw [hc, br_f, ob_s] at hbody
   rw [hc] at hbit
   obtain ⟨l, h2, h3⟩ := ih (i + 1) m acc done (by omega) hd (fun j hj => by
    have := hl j hj
    have : j ≠ i := fun e => by subst e; rw [hbit] at hj; cases hj
    omega) (by omega) (by omega)
   exact ⟨l, by rw [lp_next hbody, h2], h3⟩
theorem F70_eq (n N : Nat) (es : List (Int × Int)) (S : Nat) (hok : Okay N es) (hS : S < 2 ^ N) (hn : 200 < n) : ∃ l, F70 n (N : Int) es S = some l ∧ Cs es S S l := by
 have hN := hok.le
 have hS64 := lt64 hS hN
 have e : uandn .u64 S 0 = S := word_ext fun i => by rw [tb_andn hS64 (by decide), Nat.zero_testBit]; simp
 obtain ⟨l, h1, h2⟩ := L70_eq n N es S hok hS hn N 0 n [] 0 (by omega) (by decide) (fun j _ => Nat.zero_le j) (by simp) (by omega)
 rw [e] at h2
 refine ⟨l, ?_, h2⟩
 unfold F70
 have h1' : lpN (L70_1 n (N : Int) S es) n ([], 0, 0) = some l := h1
 rw [h1', ob_s]
theorem comps_both (n : Nat) (N : Int) (es : List (Int × Int)) (x : Nat) (hx : x < 2 ^ 64) (hn : 200 < n) (hl : es.length < 4611686018427387904) (hk : es.length < n) :
  ∃ l, F17 n N es x = some (l, ckF N es x) ∧ F33 n N es x = some (l, ckF N es x) ∧ F16 n N es x = some (decide (ckF N es x = 0) && decide (l.length = 1), ckF N es x) ∧ F32 n N es x = some (decide (ckF N es x = 0) && decide (l.length = 1), ckF N es x) ∧ l.length ≤ 64 ∧ (ckF N es x = 0 → Cs es x x l) := by
 unfold F17 F33 F16 F32
 rw [F55_eq n N es x hx (by omega) hl hk, F66_eq n N es x hx hl hk, ob_s, ob_s, ob_s, ob_s]
 by_cases h : ckF N es x = 0
 ·obtain ⟨M, rfl, hM, hxM⟩ := ckF_ok h
  obtain ⟨l1, h1, c1, b1⟩ := F58_eq n M es x hM hxM hn
  obtain ⟨l2, h2, c2⟩ := F70_eq n M es x hM hxM hn
  have := c1.unique c2
  subst this
  have e : decide (((l1.length : Nat) : Int) = 1) = decide (l1.length = 1) := by
   by_cases h : l1.length = 1
   ·rw [decide_eq_true h, decide_eq_true (by omega)]
   ·rw [decide_eq_false h, decide_eq_false (by omega)]
  refine ⟨l1, ?_, ?_, ?_, ?_, b1, fun _ => c1⟩
  ·rw [h, decide_eq_true rfl, Bool.not_true, br_f, h1, ob_s]
  ·rw [h, decide_eq_true rfl, Bool.not_true, br_f, h2, ob_s]
  ·rw [h, decide_eq_true rfl, Bool.not_true, br_f, h1, ob_s, e]; rfl
  ·unfold F69
   rw [h, decide_eq_true rfl, Bool.not_true, br_f, h2, ob_s, ob_s, e]; rfl
 ·refine ⟨[], ?_, ?_, ?_, ?_, by simp, fun h' => absurd h' h⟩
  ·rw [decide_eq_false h, Bool.not_false, br_t]
  ·rw [decide_eq_false h, Bool.not_false, br_t]
  ·rw [decide_eq_false h, Bool.not_false, br_t, Bool.false_and]
  ·rw [decide_eq_false h, Bool.not_false, br_t, Bool.false_and]
end Go.Proofs.YtpclggcpobakhaaDoor
end

section
namespace Go.Proofs.YtpclggcpobakhaaDoor
open Go Go.Ab Go.Ab.W
theorem Cs.parts {es : List (Int × Int)} {S : Nat} : ∀ {r : Nat} {L : List Nat}, Cs es S r L → (∀ j, r.testBit j = true → S.testBit j = true) → (∀ j k, r.testBit j = true → Rch es S j k → r.testBit k = true) →
  (∀ w ∈ L, ∃ i, r.testBit i = true ∧ IsCl es S i w) ∧ L.Pairwise (fun w w' => ∀ v, w.testBit v = true → w'.testBit v = true → False) ∧ (∀ v, r.testBit v = true → ∃ w ∈ L, w.testBit v = true) ∧ L.length ≤ cnt r := by
 intro r L h
 induction h with
 | nil => intro _ _; exact ⟨fun w hw => (by cases hw), .nil, fun v hv => (by rw [Nat.zero_testBit] at hv; cases hv), Nat.zero_le _⟩
 | @cons r u L h0 hr hu t ih =>
  intro hs hc
  have hb := (tz_bit h0 hr).1
  have hsub : ∀ j, u.testBit j = true → r.testBit j = true := fun j hj => hc _ _ hb ((hu.2 j).1 hj)
  have hrest : ∀ j, (uandn .u64 r u).testBit j = true ↔ r.testBit j = true ∧ u.testBit j = false := fun j => by
   rw [tb_andn hr hu.1, Bool.and_eq_true, Bool.not_eq_true']
  obtain ⟨i1, i2, i3, i4⟩ := ih (fun j hj => hs j ((hrest j).1 hj).1) fun j k hj hjk => by
   obtain ⟨h1, h2⟩ := (hrest j).1 hj
   refine (hrest k).2 ⟨hc j k h1 hjk, ?_⟩
   cases e : u.testBit k with
   | false => rfl
   | true =>
    have := (hu.2 j).2 (((hu.2 k).1 e).trans (hjk.symm (hs j h1)))
    rw [h2] at this; cases this
  have hu1 : u.testBit (tz r) = true := (hu.2 _).2 .refl
  refine ⟨fun w hw => ?_, List.pairwise_cons.2 ⟨fun w hw v h1 h2 => ?_, i2⟩, fun v hv => ?_, ?_⟩
  ·rcases List.mem_cons.1 hw with rfl | hw
   ·exact ⟨_, hb, hu⟩
   ·obtain ⟨i, h1, h2⟩ := i1 w hw
    exact ⟨i, ((hrest i).1 h1).1, h2⟩
  ·obtain ⟨i, g1, g2⟩ := i1 w hw
   obtain ⟨g3, g4⟩ := (hrest i).1 g1
   have a1 := (g2.2 v).1 h2
   have a2 := (hu.2 v).1 h1
   have := (hu.2 i).2 (a2.trans (a1.symm (hs i g3)))
   rw [g4] at this; cases this
  ·cases e : u.testBit v with
   | true => exact ⟨u, by simp, e⟩
   | false =>
    obtain ⟨w, g1, g2⟩ := i3 v ((hrest v).2 ⟨hv, e⟩)
    exact ⟨w, by simp [g1], g2⟩
  ·have hlt : cnt (uandn .u64 r u) < cnt r := by
    have hclr := bitsOf_cons h0 hr
    unfold cnt
    rw [hclr, List.length_cons]
    refine Nat.lt_succ_of_le ?_
    unfold bitsOf
    refine filter_le fun i _ hi => ?_
    obtain ⟨g1, g2⟩ := (hrest i).1 hi
    rw [clr_bit h0 hr, g1]
    have : i ≠ tz r := fun e => by rw [e, hu1] at g2; cases g2
    simp [this]
   rw [List.length_cons]; omega
theorem pair_at {L : List Nat} (h : L.Pairwise (fun w w' => ∀ v, w.testBit v = true → w'.testBit v = true → False)) {i j v w w' : Nat} (hi : L[i]? = some w) (hj : L[j]? = some w') (h1 : w.testBit v = true) (h2 : w'.testBit v = true) : i = j := by
 obtain ⟨a1, rfl⟩ := List.getElem?_eq_some_iff.1 hi
 obtain ⟨a2, rfl⟩ := List.getElem?_eq_some_iff.1 hj
 rcases Nat.lt_trichotomy i j with h' | h' | h'
 ·exact (List.pairwise_iff_getElem.1 h i j a1 a2 h' v h1 h2).elim
 ·exact h'
 ·exact (List.pairwise_iff_getElem.1 h j i a2 a1 h' v h2 h1).elim
theorem L12_1_eq (n0 : Nat) (l : List Nat) (v : Nat) (hv : v < 64) (hw : ∀ w ∈ l, w < 2 ^ 64) (hl : l.length ≤ 64) : ∀ k i n, i + k = l.length → k < n → (∃ j w : Nat, i ≤ j ∧ l[j]? = some w ∧ w.testBit v = true) → ∃ p w : Nat, lpN (L12_1 n0 l (v : Int)) n (i : Int) = some (.inl (p : Int)) ∧ l[p]? = some w ∧ w.testBit v = true := by
 intro k
 induction k with
 | zero =>
  intro i n hi _ ⟨j, w, h1, h2, _⟩
  have := (List.getElem?_eq_some_iff.1 h2).1
  omega
 | succ k ih =>
  intro i n hi hn ⟨j, w, h1, h2, h3⟩
  obtain ⟨n, rfl⟩ : ∃ n', n = n' + 1 := ⟨n - 1, by omega⟩
  have hlt : i < l.length := by omega
  have hg := List.getElem?_eq_getElem hlt
  have h64 := hw _ (List.getElem_mem hlt)
  have hstep : L12_1 n0 l (v : Int) (i : Int) = if l[i].testBit v then some (.inr (.inl (i : Int))) else some (.inl ((i + 1 : Nat) : Int)) := by
   unfold L12_1
   simp only [decide_eq_true (show ((i : Nat) : Int) < (l.length : Int) by omega), br_t, Int.toNat_natCast, inB_nat hlt, gd_t, hg, ob_s, decide_eq_true (show (0 : Int) ≤ (v : Int) by omega), bit_at h64 (show v ≤ 64 by omega), wrap_succ (show i < 4611686018427387904 by omega)]
   by_cases hb : l[i].testBit v = true
   ·rw [hb, br_t, if_pos rfl]
   ·rw [Bool.not_eq_true] at hb
    rw [hb, br_f]; simp
  by_cases hb : l[i].testBit v = true
  ·rw [if_pos hb] at hstep
   exact ⟨i, l[i], by simp only [lpN, hstep], hg, hb⟩
  ·rw [if_neg hb] at hstep
   simp only [lpN, hstep]
   refine ih (i + 1) n (by omega) (by omega) ⟨j, w, ?_, h2, h3⟩
   rcases Nat.lt_or_ge i j with h' | h'
   ·exact h'
   ·have : i = j := by omega
    subst this
    rw [hg] at h2; cases h2
    exact absurd h3 hb
theorem L12_2_eq (n0 M : Nat) (l : List Nat) (hM : M ≤ 64) (hn0 : 64 < n0) (hw : ∀ w ∈ l, w < 2 ^ 64) (hl : l.length ≤ 64) (hall : ∀ v, v < M → ∃ j w : Nat, l[j]? = some w ∧ w.testBit v = true) (n : Nat) (hn : 64 < n) :
  ∃ P, lpN (L12_2 n0 (M : Int) l) n (List.replicate M 0, List.replicate M 0, 0) = some ((List.range M).map (fun (i : Nat) => (i : Int)), P) ∧ P.length = M ∧ ∀ v, v < M → ∃ p w : Nat, P[v]? = some (p : Int) ∧ l[p]? = some w ∧ w.testBit v = true := by
 have := lp_uptoE (body := L12_2 n0 (M : Int) l) M (fun (s : List Int × List Int) (v : Int) => (s.1, s.2, v)) (fun s => s)
  (fun k s => s.1.length = M ∧ (∀ v : Nat, v < k → s.1[v]? = some (v : Int)) ∧ s.2.length = M ∧ ∀ v, v < k → ∃ p w : Nat, s.2[v]? = some (p : Int) ∧ l[p]? = some w ∧ w.testBit v = true)
  (fun s k hk hI => ?_) (fun s hI => ?_) (n := n) (s := (List.replicate M 0, List.replicate M 0)) ⟨by simp, fun v h => absurd h (Nat.not_lt_zero _), by simp, fun v h => absurd h (Nat.not_lt_zero _)⟩ (by omega)
 ·obtain ⟨s, h1, h2, h3, h4, h5⟩ := this
  refine ⟨s.2, ?_, h4, h5⟩
  have : s.1 = (List.range M).map (fun (i : Nat) => (i : Int)) := by
   apply List.ext_getElem?
   intro i
   by_cases hi : i < M
   ·rw [h3 i hi, List.getElem?_map, List.getElem?_range hi]; rfl
   ·rw [List.getElem?_eq_none (by omega), List.getElem?_eq_none (by simp; omega)]
  rw [← this]; exact h1
 ·obtain ⟨h2, h3, h4, h5⟩ := hI
  obtain ⟨j, w, j1, j2⟩ := hall k hk
  obtain ⟨p, w, p1, p2, p3⟩ := L12_1_eq n0 l k (by omega) hw hl l.length 0 n0 (by omega) (by omega) ⟨j, w, by omega, j1, j2⟩
  refine ⟨(s.1.set k (k : Int), s.2.set k (p : Int)), ?_, by simpa using h2, fun v hv => ?_, by simpa using h4, fun v hv => ?_⟩
  ·unfold L12_2
   have p1' : lpN (L12_1 n0 l (k : Int)) n0 0 = some (.inl (p : Int)) := p1
   have g1 : s.1[k]? = some (s.1[k]'(by omega)) := List.getElem?_eq_getElem (by omega)
   have g2 : s.2[k]? = some (s.2[k]'(by omega)) := List.getElem?_eq_getElem (by omega)
   simp only [Int.toNat_natCast, decide_eq_true (show ((k : Nat) : Int) < (M : Int) by omega), br_t, inB_nat hk, gd_t, g1, g2, ob_s, p1', wrap_succ (show k < 4611686018427387904 by omega)]
  ·show (s.1.set k (k : Int))[v]? = _
   rw [List.getElem?_set]
   by_cases e : k = v
   ·subst e; rw [if_pos rfl, if_pos (by omega)]
   ·rw [if_neg e]; exact h3 v (by omega)
  ·show ∃ p' w', (s.2.set k (p : Int))[v]? = _ ∧ _
   rw [List.getElem?_set]
   by_cases e : k = v
   ·subst e; rw [if_pos rfl, if_pos (by omega)]; exact ⟨p, w, rfl, p2, p3⟩
   ·rw [if_neg e]; exact h5 v (by omega)
 ·unfold L12_2
  simp [br]
theorem con_parts (n M : Nat) (es : List (Int × Int)) (l : List Nat) (P : List Int) (hok : okG (M : Int) es = true) (h : Okay M es) (hn : 300 < n) (hC : Cs es (2 ^ M - 1) (2 ^ M - 1) l)
  (hP : P.length = M) (hv : ∀ v, v < M → ∃ p w : Nat, P[v]? = some (p : Int) ∧ l[p]? = some w ∧ w.testBit v = true) : F22 n (M : Int) es P = some ((l.length : Int), [], 0) := by
 have hM := h.le
 have hall : ∀ v, (2 ^ M - 1).testBit v = true ↔ v < M := fun v => by rw [Nat.testBit_two_pow_sub_one, decide_eq_true_eq]
 obtain ⟨c1, c2, c3, c4⟩ := hC.parts (fun j h => h) fun j k hj hr => hr.mem hj
 have hcnt : cnt (2 ^ M - 1) = M := by
  have hsub : bitsOf (2 ^ M - 1) = List.range M := by
   unfold bitsOf
   have := filter_gap (p := fun i => (2 ^ M - 1).testBit i) (t := M) (k := 64) hM fun i hi _ => by rw [Nat.testBit_two_pow_sub_one]; simp; omega
   rw [this]
   refine List.filter_eq_self.2 fun i hi => (hall i).2 (List.mem_range.1 hi)
  unfold cnt; rw [hsub, List.length_range]
 rw [hcnt] at c4
 have hb : P.any (badL M) = false := by
  rw [List.any_eq_false]
  intro x hx
  obtain ⟨v, hvl, rfl⟩ := List.mem_iff_getElem.1 hx
  obtain ⟨p, w, q1, q2, _⟩ := hv v (by omega)
  rw [List.getElem?_eq_getElem hvl] at q1
  have := (List.getElem?_eq_some_iff.1 q2).1
  simp only [Option.some.injEq] at q1
  simp only [badL, Bool.or_eq_true, decide_eq_true_eq, q1]
  omega
 have hlb : ∀ v, v < M → ∃ w, l[lb P v]? = some w ∧ w.testBit v = true := fun v hvM => by
  obtain ⟨p, w, q1, q2, q3⟩ := hv v hvM
  have : lb P v = p := by unfold lb; rw [q1]; simp
  rw [this]; exact ⟨w, q2, q3⟩
 obtain ⟨m1, m2⟩ := mask_range (ls := P) (K := l.length) fun i => by
  constructor
  ·rintro ⟨x, hx, rfl⟩
   obtain ⟨v, hvl, rfl⟩ := List.mem_iff_getElem.1 hx
   obtain ⟨p, w, q1, q2, _⟩ := hv v (by omega)
   rw [List.getElem?_eq_getElem hvl] at q1
   have := (List.getElem?_eq_some_iff.1 q2).1
   simp only [Option.some.injEq] at q1
   rw [q1]; simpa using this
  ·intro hi
   obtain ⟨v, hv1, hv2⟩ := c1 l[i] (List.getElem_mem hi)
   have hvM := (hall v).1 hv1
   have hbit : l[i].testBit v = true := (hv2.2 v).2 .refl
   obtain ⟨p, w, q1, q2, q3⟩ := hv v hvM
   have : p = i := pair_at c2 q2 (List.getElem?_eq_getElem hi) q3 hbit
   subst this
   exact ⟨(p : Int), List.mem_of_getElem? q1, by simp⟩
 obtain ⟨r, r1, r2, r3, _⟩ := con_val n M es P hok h hP hb m2 hn
 have : r = [] := by
  cases r with
  | nil => rfl
  | cons p r =>
   obtain ⟨i, j, _, hij, a, b, he, hc⟩ := (r3 p).1 (by simp)
   obtain ⟨a', b', e, hab, hbM⟩ := h.mem _ he
   simp only [Prod.mk.injEq, Int.natCast_inj] at e
   obtain ⟨rfl, rfl⟩ := e
   obtain ⟨w, w1, w2⟩ := hlb a (by omega)
   obtain ⟨w', w3, w4⟩ := hlb b hbM
   obtain ⟨k, k1, k2⟩ := c1 w (List.mem_of_getElem? w1)
   have hwb : w.testBit b = true := (k2.2 b).2 (.step ((k2.2 a).1 w2) (.inl he) ((hall b).2 hbM))
   have := pair_at c2 w1 w3 hwb w4
   rcases hc with ⟨c5, c6⟩ | ⟨c5, c6⟩ <;> omega
 rw [r1, m1, this]
end Go.Proofs.YtpclggcpobakhaaDoor
end

section
namespace Go.Proofs.YtpclggcpobakhaaDoor
open Go Go.Ab Go.Ab.W
def val (w : Nat) : List Nat → Nat
 | [] => 0
 | d :: ds => d + 2 ^ w * val w ds
theorem and_split {k a b c d : Nat} (ha : a < 2 ^ k) (hc : c < 2 ^ k) : (a + 2 ^ k * b) &&& (c + 2 ^ k * d) = (a &&& c) + 2 ^ k * (b &&& d) := by
 have hac : a &&& c < 2 ^ k := Nat.lt_of_le_of_lt Nat.and_le_left ha
 refine Nat.eq_of_testBit_eq fun i => ?_
 rw [Nat.testBit_and, Nat.add_comm a, Nat.add_comm c, Nat.add_comm (a &&& c), Nat.testBit_two_pow_mul_add _ ha, Nat.testBit_two_pow_mul_add _ hc, Nat.testBit_two_pow_mul_add _ hac]
 split <;> rw [Nat.testBit_and]
def msk (w : Nat) : Nat → Nat
 | 0 => 0
 | n + 1 => (2 ^ w - 1) + 2 ^ (2 * w) * msk w n
def pairUp : List Nat → List Nat
 | a :: b :: r => (a + b) :: pairUp r
 | [a] => [a]
 | [] => []
theorem pow2 (w : Nat) : 2 ^ (2 * w) = 2 ^ w * 2 ^ w := by rw [← Nat.pow_add]; congr 1; omega
theorem val_split (w a b : Nat) (r : List Nat) : val w (a :: b :: r) = (a + 2 ^ w * b) + 2 ^ (2 * w) * val w r := by
 simp only [val, pow2, Nat.mul_add, Nat.mul_assoc]; omega
theorem ab_lt {w a b : Nat} (ha : a < 2 ^ w) (hb : b < 2 ^ w) : a + 2 ^ w * b < 2 ^ (2 * w) := by
 have h2 : 2 ^ w * (b + 1) ≤ 2 ^ w * 2 ^ w := Nat.mul_le_mul_left _ hb
 rw [pow2]
 rw [Nat.mul_add, Nat.mul_one] at h2
 omega
theorem low_and {w a b : Nat} (ha : a < 2 ^ w) : (a + 2 ^ w * b) &&& (2 ^ w - 1) = a := by
 rw [Nat.and_two_pow_sub_one_eq_mod, Nat.add_mul_mod_self_left, Nat.mod_eq_of_lt ha]
theorem mskd_lt (w : Nat) : 2 ^ w - 1 < 2 ^ (2 * w) := by
 have := Nat.two_pow_pos w
 have : 2 ^ w ≤ 2 ^ (2 * w) := Nat.pow_le_pow_right (by decide) (by omega)
 omega
theorem shift_split (w a b V : Nat) (ha : a < 2 ^ w) : ((a + 2 ^ w * b) + 2 ^ (2 * w) * V) >>> w = (b + 2 ^ w * (V % 2 ^ w)) + 2 ^ (2 * w) * (V >>> w) := by
 have h1 : (a + 2 ^ w * b) + 2 ^ (2 * w) * V = a + 2 ^ w * (b + 2 ^ w * V) := by
  rw [pow2, Nat.mul_add, Nat.mul_assoc]; omega
 rw [h1, Nat.shiftRight_eq_div_pow, Nat.add_mul_div_left _ _ (Nat.two_pow_pos w), Nat.div_eq_of_lt ha, Nat.zero_add, Nat.shiftRight_eq_div_pow, pow2]
 have h2 := Nat.mod_add_div V (2 ^ w)
 rw [Nat.mul_assoc, Nat.add_assoc, ← Nat.mul_add, h2]
theorem step_sum (w : Nat) : ∀ (n : Nat) (ds : List Nat), ds.length = 2 * n → (∀ d ∈ ds, d < 2 ^ w) → ((val w ds >>> w) &&& msk w n) + (val w ds &&& msk w n) = val (2 * w) (pairUp ds)
 | 0, ds, h, _ => by
  have : ds = [] := List.eq_nil_of_length_eq_zero (by omega)
  subst this
  simp [val, msk, pairUp]
 | n + 1, a :: b :: r, h, hd => by
  have ha := hd a (by simp)
  have hb := hd b (by simp)
  have ih := step_sum w n r (by simp at h; omega) fun d hd' => hd d (by simp [hd'])
  have hm : val w r % 2 ^ w < 2 ^ w := Nat.mod_lt _ (Nat.two_pow_pos w)
  rw [val_split, shift_split w a b _ ha]
  simp only [msk, pairUp]
  rw [and_split (ab_lt hb hm) (mskd_lt w), and_split (ab_lt ha hb) (mskd_lt w), low_and hb, low_and ha]
  show _ = (a + b) + 2 ^ (2 * w) * val (2 * w) (pairUp r)
  rw [← ih, Nat.mul_add]
  omega
 | n + 1, [], h, _ => by simp at h
 | n + 1, [_], h, _ => by simp at h; omega
theorem val_mod {w B : Nat} (hB : B ≤ 2 ^ w) (h0 : 0 < B) : ∀ (ds : List Nat), (∀ d ∈ ds, d < B) → val w ds % 2 ^ w < B
 | [], _ => by simpa [val] using h0
 | d :: ds, h => by
  have := h d (by simp)
  simp only [val]
  rw [Nat.add_mul_mod_self_left, Nat.mod_eq_of_lt (by omega)]; exact this
theorem step_sum2 (w B : Nat) (hB : 2 * B ≤ 2 ^ w) (h0 : 0 < B) : ∀ (n : Nat) (ds : List Nat), ds.length = 2 * n → (∀ d ∈ ds, d < B) → ((val w ds >>> w) + val w ds) &&& msk w n = val (2 * w) (pairUp ds)
 | 0, ds, h, _ => by
  have : ds = [] := List.eq_nil_of_length_eq_zero (by omega)
  subst this
  simp [val, msk, pairUp]
 | n + 1, a :: b :: r, h, hd => by
  have ha := hd a (by simp)
  have hb := hd b (by simp)
  have ih := step_sum2 w B hB h0 n r (by simp at h; omega) fun d hd' => hd d (by simp [hd'])
  have hm : val w r % 2 ^ w < B := val_mod (by omega) h0 r fun d hd' => hd d (by simp [hd'])
  rw [val_split, shift_split w a b _ (by omega)]
  have e : (b + 2 ^ w * (val w r % 2 ^ w)) + 2 ^ (2 * w) * (val w r >>> w) + ((a + 2 ^ w * b) + 2 ^ (2 * w) * val w r) = ((a + b) + 2 ^ w * (val w r % 2 ^ w + b)) + 2 ^ (2 * w) * ((val w r >>> w) + val w r) := by
   simp only [Nat.mul_add]; omega
  rw [e]
  simp only [msk, pairUp]
  rw [and_split (ab_lt (by omega) (by omega)) (mskd_lt w), low_and (by omega), ih]
  rfl
 | n + 1, [], h, _ => by simp at h
 | n + 1, [_], h, _ => by simp at h; omega
theorem pairUp_sum : ∀ ds : List Nat, (pairUp ds).sum = ds.sum
 | [] => rfl
 | [_] => rfl
 | a :: b :: r => by simp only [pairUp, List.sum_cons, pairUp_sum r]; omega
theorem pairUp_len : ∀ (n : Nat) (ds : List Nat), ds.length = 2 * n → (pairUp ds).length = n
 | 0, ds, h => by
  have : ds = [] := List.eq_nil_of_length_eq_zero (by omega)
  subst this; rfl
 | n + 1, a :: b :: r, h => by simp only [pairUp, List.length_cons]; rw [pairUp_len n r (by simp at h; omega)]
 | n + 1, [], h => by simp at h
 | n + 1, [_], h => by simp at h; omega
theorem pairUp_le {B : Nat} : ∀ (ds : List Nat), (∀ d ∈ ds, d ≤ B) → ∀ d ∈ pairUp ds, d ≤ 2 * B
 | [], _, d, hd => by simp [pairUp] at hd
 | [a], h, d, hd => by simp [pairUp] at hd; subst hd; have := h d (by simp); omega
 | a :: b :: r, h, d, hd => by
  simp only [pairUp, List.mem_cons] at hd
  have h1 := h a (by simp)
  have h2 := h b (by simp)
  rcases hd with rfl | hd
  ·omega
  ·exact pairUp_le r (fun x hx => h x (by simp [hx])) d hd
theorem val_lt {w : Nat} : ∀ (ds : List Nat), (∀ d ∈ ds, d < 2 ^ w) → val w ds < 2 ^ (w * ds.length)
 | [], _ => by simp [val]
 | d :: ds, h => by
  have h1 := h d (by simp)
  have ih := val_lt ds fun x hx => h x (by simp [hx])
  simp only [val, List.length_cons]
  rw [Nat.mul_add, Nat.mul_one, Nat.add_comm (w * ds.length) w, Nat.pow_add]
  have h2 : 2 ^ w * (val w ds + 1) ≤ 2 ^ w * 2 ^ (w * ds.length) := Nat.mul_le_mul_left _ ih
  rw [Nat.mul_add, Nat.mul_one] at h2
  omega
def bitL (x : Nat) : Nat → List Nat
 | 0 => []
 | n + 1 => x % 2 :: bitL (x / 2) n
theorem bitL_val : ∀ (n x : Nat), x < 2 ^ n → val 1 (bitL x n) = x
 | 0, x, h => by simp at h; subst h; rfl
 | n + 1, x, h => by
  simp only [bitL, val, Nat.pow_one]
  rw [bitL_val n (x / 2) (by rw [Nat.pow_succ] at h; omega)]
  omega
theorem bitL_len : ∀ (n x : Nat), (bitL x n).length = n
 | 0, _ => rfl
 | n + 1, x => by simp only [bitL, List.length_cons, bitL_len n]
theorem bitL_le : ∀ (n x : Nat), ∀ d ∈ bitL x n, d ≤ 1
 | 0, _, d, h => by simp [bitL] at h
 | n + 1, x, d, h => by
  simp only [bitL, List.mem_cons] at h
  rcases h with rfl | h
  ·omega
  ·exact bitL_le n _ d h
theorem lowB_half (x : Nat) : ∀ n, (lowB x (n + 1)).length = x % 2 + (lowB (x / 2) n).length
 | 0 => by
  rw [low_succ]
  have : x.testBit 0 = decide (x % 2 = 1) := Nat.testBit_zero x
  rw [this]
  by_cases h : x % 2 = 1
  ·simp [h, lowB]
  ·have : x % 2 = 0 := by omega
   simp [this, lowB]
 | n + 1 => by
  rw [low_succ, List.length_append, lowB_half x n, low_succ (x / 2) n, List.length_append]
  have : x.testBit (n + 1) = (x / 2).testBit n := Nat.testBit_succ x n
  rw [this]
  split <;> simp <;> omega
theorem bitL_sum : ∀ (n x : Nat), (bitL x n).sum = (lowB x n).length
 | 0, x => rfl
 | n + 1, x => by simp only [bitL, List.sum_cons, bitL_sum n, lowB_half]
theorem val_le {w B : Nat} : ∀ (ds : List Nat), (∀ d ∈ ds, d ≤ B) → val w ds * (2 ^ w - 1) + B ≤ B * 2 ^ (w * ds.length)
 | [], _ => by simp [val]
 | d :: ds, h => by
  have h1 := h d (by simp)
  have ih := val_le (w := w) ds fun x hx => h x (by simp [hx])
  have hp := Nat.two_pow_pos w
  simp only [val, List.length_cons]
  rw [Nat.mul_add, Nat.mul_one, Nat.add_comm (w * ds.length) w, Nat.pow_add]
  have h2 : 2 ^ w * (val w ds * (2 ^ w - 1) + B) ≤ 2 ^ w * (B * 2 ^ (w * ds.length)) := Nat.mul_le_mul_left _ ih
  have h3 : d * (2 ^ w - 1) ≤ B * (2 ^ w - 1) := Nat.mul_le_mul_right _ h1
  have h4 : B * (2 ^ w - 1) + B = 2 ^ w * B := by
   rw [Nat.mul_sub, Nat.mul_one, Nat.sub_add_cancel (Nat.le_mul_of_pos_right _ hp), Nat.mul_comm]
  have h5 : B * (2 ^ w * 2 ^ (w * ds.length)) = 2 ^ w * (B * 2 ^ (w * ds.length)) := by rw [Nat.mul_left_comm]
  rw [Nat.mul_add, ← Nat.mul_assoc] at h2
  rw [Nat.add_mul, h5]
  omega
theorem sh_eq {a k b : Nat} (hk : k ≤ 64) (h : a / 2 ^ k = b) : ushr .u64 a k = b := by rw [word_shr hk, Nat.shiftRight_eq_div_pow, h]
theorem swar_tail (c0 c1 c2 c3 c4 c5 c6 c7 : Nat) (g0 : c0 ≤ 8) (g1 : c1 ≤ 8) (g2 : c2 ≤ 8) (g3 : c3 ≤ 8) (g4 : c4 ≤ 8) (g5 : c5 ≤ 8) (g6 : c6 ≤ 8) (g7 : c7 ≤ 8) (y : Nat) (hy : y = c0 + 256 * (c1 + 256 * (c2 + 256 * (c3 + 256 * (c4 + 256 * (c5 + 256 * (c6 + 256 * c7))))))) :
  ∃ z u K, uw .u64 (y + ushr .u64 y 8) = z ∧ uw .u64 (z + ushr .u64 z 16) = u ∧ uw .u64 (u + ushr .u64 u 32) = (c0 + c1 + c2 + c3 + c4 + c5 + c6 + c7) + 256 * K ∧ K < 2 ^ 54 := by
 obtain ⟨a1, ha1⟩ : ∃ a, a = c1 + 256 * (c2 + 256 * (c3 + 256 * (c4 + 256 * (c5 + 256 * (c6 + 256 * c7))))) := ⟨_, rfl⟩
 have e1 : ushr .u64 y 8 = a1 := sh_eq (by decide) (by rw [hy, ← ha1]; omega)
 have hz : uw .u64 (y + ushr .u64 y 8) = y + a1 := by rw [e1]; exact uw_id (by omega)
 obtain ⟨b, hb⟩ : ∃ b, b = (c2 + c3) + 256 * ((c3 + c4) + 256 * ((c4 + c5) + 256 * ((c5 + c6) + 256 * ((c6 + c7) + 256 * c7)))) := ⟨_, rfl⟩
 have hzb : y + a1 = ((c0 + c1) + 256 * (c1 + c2)) + 65536 * b := by omega
 have e2 : ushr .u64 (y + a1) 16 = b := sh_eq (by decide) (by rw [hzb]; omega)
 have hu : uw .u64 ((y + a1) + ushr .u64 (y + a1) 16) = (y + a1) + b := by rw [e2]; exact uw_id (by omega)
 obtain ⟨d, hd⟩ : ∃ d, d = (c4 + c5 + c6 + c7) + 256 * ((c5 + c6 + c7) + 256 * ((c6 + c7) + 256 * c7)) := ⟨_, rfl⟩
 have hud : (y + a1) + b = ((c0 + c1 + c2 + c3) + 256 * ((c1 + c2 + c3 + c4) + 256 * ((c2 + c3 + c4 + c5) + 256 * (c3 + c4 + c5 + c6)))) + 4294967296 * d := by omega
 have e3 : ushr .u64 ((y + a1) + b) 32 = d := sh_eq (by decide) (by rw [hud]; omega)
 have hw : uw .u64 (((y + a1) + b) + ushr .u64 ((y + a1) + b) 32) = ((y + a1) + b) + d := by rw [e3]; exact uw_id (by omega)
 refine ⟨_, _, ((c1 + c2 + c3 + c4) + 256 * ((c2 + c3 + c4 + c5) + 256 * (c3 + c4 + c5 + c6))) + 16777216 * d + ((c5 + c6 + c7) + 256 * ((c6 + c7) + 256 * c7)), hz, hu, ?_, ?_⟩
 ·rw [hw]; omega
 ·omega
theorem F54_eq (n x : Nat) (hx : x < 2 ^ 64) : F54 n x = some ((rk x 64 : Nat) : Int) := by
 obtain ⟨d0, hd0⟩ : ∃ d, d = bitL x 64 := ⟨_, rfl⟩
 have l0 : d0.length = 64 := by rw [hd0]; exact bitL_len 64 x
 have b0 : ∀ d ∈ d0, d ≤ 1 := by rw [hd0]; exact bitL_le 64 x
 have v0 : val 1 d0 = x := by rw [hd0]; exact bitL_val 64 x hx
 have s0 : d0.sum = rk x 64 := by rw [hd0]; exact bitL_sum 64 x
 have e1 := step_sum 1 32 d0 (by omega) fun d hd => by have := b0 d hd; omega
 have l1 := pairUp_len 32 d0 (by omega)
 have b1 := pairUp_le d0 b0
 have e2 := step_sum 2 16 (pairUp d0) (by omega) fun d hd => by have := b1 d hd; omega
 have l2 := pairUp_len 16 (pairUp d0) (by omega)
 have b2 := pairUp_le _ b1
 have e3 := step_sum2 4 5 (by decide) (by decide) 8 (pairUp (pairUp d0)) (by omega) fun d hd => by have := b2 d hd; omega
 have l3 := pairUp_len 8 (pairUp (pairUp d0)) (by omega)
 have b3 := pairUp_le _ b2
 have s3 : (pairUp (pairUp (pairUp d0))).sum = rk x 64 := by rw [pairUp_sum, pairUp_sum, pairUp_sum, s0]
 have m1 : msk 1 32 = 6148914691236517205 := by decide
 have m2 : msk 2 16 = 3689348814741910323 := by decide
 have m3 : msk 4 8 = 1085102592571150095 := by decide
 rw [v0, m1] at e1
 rw [m2] at e2
 rw [m3] at e3
 have q1 : val 2 (pairUp d0) < 2 ^ 64 := by
  have := val_lt (w := 2) (pairUp d0) fun d hd => by have := b1 d hd; omega
  rwa [l1] at this
 have q2 : val 4 (pairUp (pairUp d0)) < 2 ^ 64 := by
  have := val_lt (w := 4) (pairUp (pairUp d0)) fun d hd => by have := b2 d hd; omega
  rwa [l2] at this
 have hS : ∀ a b : Nat, a < 2 ^ 64 → uw .u64 (uw .u64 a &&& uw .u64 b) = a &&& uw .u64 b := fun a b ha => by
  rw [uw_id ha, uw_id (and_lt' ha)]
 have sh : ∀ k : Nat, k ≤ 64 → ∀ a : Nat, a < 2 ^ 64 → ushr .u64 a k < 2 ^ 64 := fun k hk a ha => by
  rw [word_shr hk, Nat.shiftRight_eq_div_pow]; exact Nat.lt_of_le_of_lt (Nat.div_le_self _ _) ha
 have i1 : uw .u64 6148914691236517205 = 6148914691236517205 := by decide
 have i2 : uw .u64 3689348814741910323 = 3689348814741910323 := by decide
 have i3 : uw .u64 1085102592571150095 = 1085102592571150095 := by decide
 have y2 : uw .u64 ((uw .u64 (uw .u64 (ushr .u64 x 1) &&& uw .u64 6148914691236517205)) + (uw .u64 (uw .u64 x &&& uw .u64 6148914691236517205))) = val 2 (pairUp d0) := by
  rw [hS _ _ (sh 1 (by decide) x hx), hS _ _ hx, i1, word_shr (by decide), e1, uw_id q1]
 have y4 : uw .u64 ((uw .u64 (uw .u64 (ushr .u64 (val 2 (pairUp d0)) 2) &&& uw .u64 3689348814741910323)) + (uw .u64 (uw .u64 (val 2 (pairUp d0)) &&& uw .u64 3689348814741910323))) = val 4 (pairUp (pairUp d0)) := by
  rw [hS _ _ (sh 2 (by decide) _ q1), hS _ _ q1, i2, word_shr (by decide), e2, uw_id q2]
 obtain ⟨d3, hd3⟩ : ∃ d, d = pairUp (pairUp (pairUp d0)) := ⟨_, rfl⟩
 rw [← hd3] at e3 l3 b3 s3
 have q3 : val 4 (pairUp (pairUp d0)) < 6 * 2 ^ 60 := by
  have := val_le (w := 4) (B := 4) (pairUp (pairUp d0)) b2
  rw [l2] at this
  omega
 have y6 : uw .u64 (uw .u64 (uw .u64 ((ushr .u64 (val 4 (pairUp (pairUp d0))) 4) + val 4 (pairUp (pairUp d0)))) &&& uw .u64 1085102592571150095) = val 8 d3 := by
  have hle : ushr .u64 (val 4 (pairUp (pairUp d0))) 4 + val 4 (pairUp (pairUp d0)) < 2 ^ 64 := by
   rw [word_shr (by decide), Nat.shiftRight_eq_div_pow]; omega
  rw [uw_id hle, hS _ _ hle, i3, word_shr (by decide), e3]
 unfold F54
 rw [y2, ob_s, y4, ob_s, y6, ob_s]
 match d3, l3, b3, s3 with
 | [c0, c1, c2, c3, c4, c5, c6, c7], _, b3, s3 =>
  have hv : val 8 [c0, c1, c2, c3, c4, c5, c6, c7] = c0 + 256 * (c1 + 256 * (c2 + 256 * (c3 + 256 * (c4 + 256 * (c5 + 256 * (c6 + 256 * c7)))))) := by simp [val]
  obtain ⟨z, u, K, t1, t2, t3, hK⟩ := swar_tail c0 c1 c2 c3 c4 c5 c6 c7 (b3 c0 (by simp)) (b3 c1 (by simp)) (b3 c2 (by simp)) (b3 c3 (by simp)) (b3 c4 (by simp)) (b3 c5 (by simp)) (b3 c6 (by simp)) (b3 c7 (by simp)) _ hv
  have hs : c0 + c1 + c2 + c3 + c4 + c5 + c6 + c7 = rk x 64 := by
   rw [← s3]; simp only [List.sum_cons, List.sum_nil]; omega
  rw [t1, t2, ob_s, t3, hs]
  have hr : rk x 64 ≤ 64 := low_len _ _
  rw [wrap_in (by omega) (by omega)]
  have hand : iand .i64 ((rk x 64 + 256 * K : Nat) : Int) 127 = ((rk x 64 : Nat) : Int) := by
   unfold iand
   have h1 : (BitVec.ofInt IntKind.i64.bits ((rk x 64 + 256 * K : Nat) : Int) &&& BitVec.ofInt IntKind.i64.bits 127).toNat = rk x 64 := by
    rw [BitVec.toNat_and, BitVec.toNat_ofInt, BitVec.toNat_ofInt]
    have a1 : (((rk x 64 + 256 * K : Nat) : Int) % ((2 ^ IntKind.i64.bits : Nat) : Int)).toNat = rk x 64 + 256 * K := by
     show (((rk x 64 + 256 * K : Nat) : Int) % (18446744073709551616 : Int)).toNat = _
     omega
    have a2 : ((127 : Int) % ((2 ^ IntKind.i64.bits : Nat) : Int)).toNat = 2 ^ 7 - 1 := by decide
    rw [a1, a2, Nat.and_two_pow_sub_one_eq_mod]
    omega
   rw [h1, wrap_in (by omega) (by omega)]
  rw [hand, ob_s]
end Go.Proofs.YtpclggcpobakhaaDoor
end

section
namespace Go.Proofs.YtpclggcpobakhaaDoor
open Go Go.Ab Go.Ab.W
theorem rk_succ (S v : Nat) : rk S (v + 1) = rk S v + (if S.testBit v then 1 else 0) := by
 unfold rk; rw [low_succ, List.length_append]; split <;> simp
theorem rk_mono (S : Nat) {a b : Nat} (h : a ≤ b) : rk S a ≤ rk S b := by
 induction h with
 | refl => exact Nat.le_refl _
 | step _ ih => rw [rk_succ]; omega
theorem rk_lt {S a b : Nat} (h : a < b) (ha : S.testBit a = true) : rk S a < rk S b := by
 have := rk_mono S (show a + 1 ≤ b from h)
 rw [rk_succ, if_pos ha] at this; omega
theorem rk_inj {S a b : Nat} (ha : S.testBit a = true) (hb : S.testBit b = true) (h : rk S a = rk S b) : a = b := by
 rcases Nat.lt_trichotomy a b with h' | h' | h'
 ·have := rk_lt h' ha; omega
 ·exact h'
 ·have := rk_lt h' hb; omega
theorem rk_at (S : Nat) : ∀ (M i : Nat), i < rk S M → ∃ v, v < M ∧ S.testBit v = true ∧ rk S v = i
 | 0, i, h => absurd h (Nat.not_lt_zero _)
 | M + 1, i, h => by
  rw [rk_succ] at h
  by_cases hi : i < rk S M
  ·obtain ⟨v, h1, h2, h3⟩ := rk_at S M i hi
   exact ⟨v, by omega, h2, h3⟩
  ·by_cases hb : S.testBit M = true
   ·rw [if_pos hb] at h
    exact ⟨M, by omega, hb, by omega⟩
   ·rw [if_neg hb] at h; omega
theorem rk_all {S M : Nat} (hS : S < 2 ^ M) (hM : M ≤ 64) : rk S 64 = rk S M := by
 unfold rk lowB
 rw [filter_gap hM fun i hi _ => Nat.testBit_lt_two_pow (Nat.lt_of_lt_of_le hS (Nat.pow_le_pow_right (by decide) hi))]
def inS (S : Nat) (e : Int × Int) : Bool := S.testBit e.1.toNat && S.testBit e.2.toNat
def outS (S : Nat) (e : Int × Int) : Bool := !S.testBit e.1.toNat && !S.testBit e.2.toNat
def rkP (S : Nat) (e : Int × Int) : Int × Int := ((rk S e.1.toNat : Int), (rk S e.2.toNat : Int))
theorem fold_ind (S : Nat) : ∀ (es : List (Int × Int)) (acc : List (Int × Int)), es.foldl (indS S) acc = acc ++ (es.filter (inS S)).map (rkP S)
 | [], acc => by simp
 | e :: es, acc => by
  rw [List.foldl_cons, fold_ind S es]
  by_cases h : inS S e = true
  ·have h' : (S.testBit e.1.toNat && S.testBit e.2.toNat) = true := h
   rw [List.filter_cons_of_pos h]
   unfold indS
   rw [if_pos h']
   simp [rkP]
  ·have h' : ¬ (S.testBit e.1.toNat && S.testBit e.2.toNat) = true := h
   rw [List.filter_cons_of_neg h]
   unfold indS
   rw [if_neg h']
theorem three (S : Nat) : ∀ es : List (Int × Int), (es.filter (inS S)).length + (es.filter (cross S)).length + (es.filter (outS S)).length = es.length
 | [] => rfl
 | e :: es => by
  have ih := three S es
  have hi : inS S e = (S.testBit e.1.toNat && S.testBit e.2.toNat) := rfl
  have hc : cross S e = !(S.testBit e.1.toNat == S.testBit e.2.toNat) := rfl
  have ho : outS S e = (!S.testBit e.1.toNat && !S.testBit e.2.toNat) := rfl
  rw [List.filter_cons, List.filter_cons, List.filter_cons, hi, hc, ho]
  cases ha : S.testBit e.1.toNat <;> cases hb : S.testBit e.2.toNat <;> simp <;> omega
def prt (S : Nat) (es : List (Int × Int)) : List (Int × Int) := (es.filter (inS S)).map (rkP S)
theorem prt_mem {M S : Nat} {es : List (Int × Int)} (h : Okay M es) {p : Int × Int} : p ∈ prt S es ↔ ∃ a b : Nat, ((a : Int), (b : Int)) ∈ es ∧ S.testBit a = true ∧ S.testBit b = true ∧ p = ((rk S a : Int), (rk S b : Int)) := by
 unfold prt
 rw [List.mem_map]
 constructor
 ·rintro ⟨e, he, rfl⟩
  obtain ⟨h1, h2⟩ := List.mem_filter.1 he
  obtain ⟨a, b, rfl, _, _⟩ := h.mem e h1
  simp only [inS, Bool.and_eq_true, Int.toNat_natCast] at h2
  exact ⟨a, b, h1, h2.1, h2.2, rfl⟩
 ·rintro ⟨a, b, h1, h2, h3, rfl⟩
  exact ⟨_, List.mem_filter.2 ⟨h1, by simp [inS, h2, h3]⟩, rfl⟩
theorem prt_adj {M S : Nat} {es : List (Int × Int)} (h : Okay M es) {i j : Nat} : adj (prt S es) i j ↔ ∃ a b, S.testBit a = true ∧ S.testBit b = true ∧ rk S a = i ∧ rk S b = j ∧ adj es a b := by
 unfold adj
 rw [prt_mem h, prt_mem h]
 constructor
 ·rintro (⟨a, b, h1, h2, h3, e⟩ | ⟨a, b, h1, h2, h3, e⟩)
  ·simp only [Prod.mk.injEq, Int.natCast_inj] at e
   exact ⟨a, b, h2, h3, e.1.symm, e.2.symm, .inl h1⟩
  ·simp only [Prod.mk.injEq, Int.natCast_inj] at e
   exact ⟨b, a, h3, h2, e.2.symm, e.1.symm, .inr h1⟩
 ·rintro ⟨a, b, h1, h2, rfl, rfl, h3 | h3⟩
  ·exact .inl ⟨a, b, h3, h1, h2, rfl⟩
  ·exact .inr ⟨b, a, h3, h2, h1, rfl⟩
theorem prt_ok {M S : Nat} {es : List (Int × Int)} (hok : okG (M : Int) es = true) (h : Okay M es) (hS : S < 2 ^ M) (h0 : S ≠ 0) : okG ((rk S M : Nat) : Int) (prt S es) = true := by
 have hM := h.le
 have hlen := h.len
 have hle : rk S M ≤ M := low_len _ _
 have hpos : 1 ≤ rk S M := by
  obtain ⟨i, hi⟩ : ∃ i, S.testBit i = true := Classical.byContradiction fun hno => h0 (Nat.eq_of_testBit_eq fun i => by
   rw [Nat.zero_testBit]
   cases e : S.testBit i with
   | false => rfl
   | true => exact absurd ⟨i, e⟩ hno)
  have := rk_lt (tb_ltN hS hi) hi
  omega
 have hlp : (prt S es).length ≤ es.length := by unfold prt; rw [List.length_map]; exact List.length_filter_le _ _
 have hm : ∀ p ∈ prt S es, 0 ≤ p.1 ∧ p.1 < p.2 ∧ p.2 < ((rk S M : Nat) : Int) := fun p hp => by
  obtain ⟨a, b, h1, h2, h3, rfl⟩ := (prt_mem h).1 hp
  obtain ⟨a', b', e, hab, hbM⟩ := h.mem _ h1
  simp only [Prod.mk.injEq, Int.natCast_inj] at e
  obtain ⟨rfl, rfl⟩ := e
  have g1 := rk_lt hab h2
  have g2 := rk_lt hbM h3
  simp only
  omega
 have hasc : (prt S es).Pairwise lexLt := by
  unfold prt
  refine List.pairwise_map.2 ?_
  have h1 := List.Pairwise.filter (inS S) (okG_asc hok)
  refine (List.pairwise_iff_forall_sublist.2 fun {x y} hxy => ?_)
  have h2 := List.pairwise_iff_forall_sublist.1 h1 hxy
  have hx := hxy.subset (show x ∈ [x, y] by simp)
  have hy := hxy.subset (show y ∈ [x, y] by simp)
  obtain ⟨x1, x2⟩ := List.mem_filter.1 hx
  obtain ⟨y1, y2⟩ := List.mem_filter.1 hy
  obtain ⟨a, b, rfl, hab, _⟩ := h.mem _ x1
  obtain ⟨c, d, rfl, hcd, _⟩ := h.mem _ y1
  simp only [inS, Bool.and_eq_true, Int.toNat_natCast] at x2 y2
  simp only [rkP, Int.toNat_natCast]
  unfold lexLt at *
  simp only at *
  rcases h2 with h2 | ⟨h2, h3⟩
  ·have := rk_lt (show a < c by omega) x2.1
   omega
  ·have := rk_lt (show b < d by omega) x2.2
   have : a = c := by omega
   subst this
   omega
 simp only [okG, Bool.and_eq_true, decide_eq_true_eq]
 refine ⟨⟨by omega, by omega, by omega⟩, asc_okE (List.pairwise_cons.2 ⟨fun p hp => ?_, hasc⟩) hm⟩
 have := hm p hp
 unfold lexLt
 simp only
 omega
theorem ind_val (n M : Nat) (es : List (Int × Int)) (S : Nat) (hok : okG (M : Int) es = true) (h : Okay M es) (hS : S < 2 ^ M) (h0 : S ≠ 0) (hn : 300 < n) :
  F21 n (M : Int) es S = some (((rk S M : Nat) : Int), prt S es, (lowB S M).map (fun (k : Nat) => (k : Int)), 0) := by
 have hM := h.le
 have hlen := h.len
 have hx := lt64 hS hM
 obtain ⟨T, t1, t2⟩ := L21_1_eq n S hx M hM hS n (by omega)
 obtain ⟨a1, _⟩ := L21_2_eq n S M es T hx h t2 n (by omega)
 have hc : ckF (M : Int) es S = 0 := by
  unfold ckF
  rw [if_pos hok, Int.toNat_natCast, if_neg (by omega)]
 unfold F21
 rw [F55_eq n _ es S hx (by omega) (by omega) (by omega), ob_s, hc]
 simp only [decide_true, Bool.not_true, br_f, decide_eq_false h0, ob_s, t1, a1]
 rw [fold_ind]
 simp [prt, rk]
theorem L12_3_eq (n0 M : Nat) (es : List (Int × Int)) (S : Nat) (h : Okay M es) (hS : S < 2 ^ 64) (n : Nat) (hn : 200 < n) : lpN (L12_3 n0 es S) n (0, 0) = some (((es.filter (outS S)).length : Nat) : Int) := by
 have hlen := h.len
 have hM := h.le
 have := lp_uptoE (body := L12_3 n0 es S) es.length (fun (s : Int) (v : Int) => (s, v)) id (fun k s => s = ((((es.take k).filter (outS S)).length : Nat) : Int)) (fun s k hk hI => ?_) (fun s _ => ?_) (n := n) (s := 0) rfl (by omega)
 ·obtain ⟨s, h1, h2⟩ := this
  rw [List.take_length] at h2
  rw [h1, h2]; rfl
 ·subst hI
  have hg := List.getElem?_eq_getElem hk
  obtain ⟨a, b, e, hab, hbM⟩ := h.mem _ (List.getElem_mem hk)
  rw [e] at hg
  have htk : es.take (k + 1) = es.take k ++ [((a : Int), (b : Int))] := by rw [List.take_add_one, hg]; rfl
  have hle : ((es.take k).filter (outS S)).length ≤ k := Nat.le_trans (List.length_filter_le _ _) (by simp; omega)
  have z : ∀ v, v ≤ 64 → decide (uw .u64 (uw .u64 (ushr .u64 S v) &&& uw .u64 1) = 0) = !S.testBit v := fun v hv => by
   have h1 := bit_at hS hv
   have h2 : uw .u64 (uw .u64 (ushr .u64 S v) &&& uw .u64 1) ≤ 1 := by
    have : uw .u64 1 = 1 := rfl
    rw [this]
    exact Nat.le_trans (Nat.mod_le _ _) Nat.and_le_right
   cases hb : S.testBit v with
   | true =>
    rw [hb, decide_eq_true_eq] at h1
    rw [h1]; rfl
   | false =>
    rw [hb, decide_eq_false_iff_not] at h1
    rw [decide_eq_true]; rfl
    omega
  refine ⟨_, ?_, rfl⟩
  unfold L12_3
  simp only [decide_eq_true (show ((k : Nat) : Int) < (es.length : Int) by omega), br_t, Int.toNat_natCast, inB_nat hk, gd_t, hg, ob_s, decide_eq_true (show (0 : Int) ≤ (a : Int) by omega), decide_eq_true (show (0 : Int) ≤ (b : Int) by omega), z a (by omega), z b (by omega), wrap_succ (show k < 4611686018427387904 by omega)]
  rw [htk, List.filter_append]
  cases ha : S.testBit a <;> cases hb : S.testBit b
  ·simp only [Bool.not_false, br_t, ob_s]
   rw [wrap_succ (by omega)]
   simp [outS, ha, hb]
  ·simp [br, ob, outS, ha, hb]
  ·simp [br, ob, outS, ha, hb]
  ·simp [br, ob, outS, ha, hb]
 ·unfold L12_3
  simp [br]
end Go.Proofs.YtpclggcpobakhaaDoor
end

section
namespace Go.Proofs.YtpclggcpobakhaaDoor
open Go Go.Ab Go.Ab.W
def img (S w : Nat) : Nat := (lowB w 64).foldl (fun s v => s ||| 2 ^ rk S v) 0
theorem img_bit {S w : Nat} (hw : w < 2 ^ 64) (i : Nat) : (img S w).testBit i = true ↔ ∃ v, w.testBit v = true ∧ rk S v = i := by
 unfold img
 rw [foldl_or (fun v => 2 ^ rk S v)]
 constructor
 ·rintro (h | ⟨v, h1, h2⟩)
  ·rw [Nat.zero_testBit] at h; cases h
  ·rw [tb_one, decide_eq_true_eq] at h2
   exact ⟨v, (low_mem.1 h1).2, h2.symm⟩
 ·rintro ⟨v, h1, rfl⟩
  exact .inr ⟨v, low_mem.2 ⟨tb_lt hw h1, h1⟩, by rw [tb_one]; simp⟩
section
variable {M S : Nat} {es : List (Int × Int)}
theorem img_lt (hS : S < 2 ^ M) (hM : M ≤ 64) {w : Nat} (hw : w < 2 ^ 64) (hs : ∀ j, w.testBit j = true → S.testBit j = true) : img S w < 2 ^ rk S M := Nat.lt_pow_two_of_testBit _ fun i hi => by
 cases e : (img S w).testBit i with
 | false => rfl
 | true =>
  obtain ⟨v, h1, h2⟩ := (img_bit hw i).1 e
  have := rk_lt (tb_ltN hS (hs v h1)) (hs v h1)
  omega
theorem rch_to (h : Okay M es) (hS : S < 2 ^ M) {i j : Nat} (hi : S.testBit i = true) (hr : Rch es S i j) : Rch (prt S es) (2 ^ rk S M - 1) (rk S i) (rk S j) := by
 induction hr with
 | refl => exact .refl
 | @step j k hr ha hk ih =>
  refine .step ih ((prt_adj h).2 ⟨j, k, hr.mem hi, hk, rfl, rfl, ha⟩) ?_
  rw [Nat.testBit_two_pow_sub_one, decide_eq_true_eq]
  exact rk_lt (tb_ltN hS hk) hk
theorem rch_from (h : Okay M es) {i y : Nat} (hi : S.testBit i = true) (hr : Rch (prt S es) (2 ^ rk S M - 1) (rk S i) y) : ∃ v, S.testBit v = true ∧ rk S v = y ∧ Rch es S i v := by
 induction hr with
 | refl => exact ⟨i, hi, rfl, .refl⟩
 | @step y z _ ha hk ih =>
  obtain ⟨v, h1, h2, h3⟩ := ih
  obtain ⟨a, b, g1, g2, g3, g4, g5⟩ := (prt_adj h).1 ha
  have := rk_inj g1 h1 (g3.trans h2.symm)
  subst this
  exact ⟨b, g2, g4, .step h3 g5 g2⟩
theorem img_cl (h : Okay M es) (hS : S < 2 ^ M) {i w : Nat} (hi : S.testBit i = true) (hw : IsCl es S i w) : IsCl (prt S es) (2 ^ rk S M - 1) (rk S i) (img S w) := by
 have hM := h.le
 have hsub : ∀ j, w.testBit j = true → S.testBit j = true := fun j hj => ((hw.2 j).1 hj).mem hi
 refine ⟨Nat.lt_of_lt_of_le (img_lt hS hM hw.1 hsub) (Nat.pow_le_pow_right (by decide) (Nat.le_trans (low_len _ _) hM)), fun j => ?_⟩
 rw [img_bit hw.1]
 constructor
 ·rintro ⟨v, h1, rfl⟩
  exact rch_to h hS hi ((hw.2 v).1 h1)
 ·intro hr
  obtain ⟨v, _, h2, h3⟩ := rch_from h hi hr
  exact ⟨v, (hw.2 v).2 h3, h2⟩
theorem tz_eq {x t : Nat} (hx : x < 2 ^ 64) (h1 : x.testBit t = true) (h2 : ∀ i, i < t → x.testBit i = false) : tz x = t := by
 have h0 : 0 < x := Nat.pos_of_ne_zero fun e => by rw [e, Nat.zero_testBit] at h1; cases h1
 obtain ⟨b1, b2⟩ := tz_bit h0 hx
 rcases Nat.lt_trichotomy (tz x) t with h | h | h
 ·rw [h2 _ h] at b1; cases b1
 ·exact h
 ·rw [b2 _ h] at h1; cases h1
theorem Cs.image (h : Okay M es) (hS : S < 2 ^ M) {r : Nat} {L : List Nat} (hC : Cs es S r L) (hs : ∀ j, r.testBit j = true → S.testBit j = true) : Cs (prt S es) (2 ^ rk S M - 1) (img S r) (L.map (img S)) := by
 have hM := h.le
 have hK : rk S M ≤ 64 := Nat.le_trans (low_len _ _) hM
 induction hC with
 | nil =>
  have : img S 0 = 0 := word_ext fun i => by rw [img_bit (by decide)]; simp [Nat.zero_testBit]
  rw [this]; exact .nil
 | @cons r u L h0 hr hu t ih =>
  obtain ⟨b1, b2⟩ := tz_bit h0 hr
  have hi := hs _ b1
  have hsub : ∀ j, u.testBit j = true → S.testBit j = true := fun j hj => ((hu.2 j).1 hj).mem hi
  have hr64 : img S r < 2 ^ 64 := Nat.lt_of_lt_of_le (img_lt hS hM hr hs) (Nat.pow_le_pow_right (by decide) hK)
  have hbit : (img S r).testBit (rk S (tz r)) = true := (img_bit hr _).2 ⟨_, b1, rfl⟩
  have htz : tz (img S r) = rk S (tz r) := tz_eq hr64 hbit fun i hi' => by
   cases e : (img S r).testBit i with
   | false => rfl
   | true =>
    obtain ⟨v, h1, h2⟩ := (img_bit hr i).1 e
    have : ¬ v < tz r := fun hlt => by rw [b2 v hlt] at h1; cases h1
    have := rk_mono S (show tz r ≤ v by omega)
    omega
  have hcl := img_cl h hS hi hu
  have hand : uandn .u64 (img S r) (img S u) = img S (uandn .u64 r u) := word_ext fun i => by
   rw [tb_andn hr64 hcl.1, Bool.and_eq_true, Bool.not_eq_true', img_bit hr, img_bit (andn_lt hr hu.1)]
   constructor
   ·rintro ⟨⟨v, h1, rfl⟩, h2⟩
    refine ⟨v, ?_, rfl⟩
    rw [tb_andn hr hu.1, h1]
    cases e : u.testBit v with
    | false => rfl
    | true => rw [(img_bit hu.1 _).2 ⟨v, e, rfl⟩] at h2; cases h2
   ·rintro ⟨v, h1, rfl⟩
    rw [tb_andn hr hu.1, Bool.and_eq_true, Bool.not_eq_true'] at h1
    refine ⟨⟨v, h1.1, rfl⟩, ?_⟩
    cases e : (img S u).testBit (rk S v) with
    | false => rfl
    | true =>
     obtain ⟨v', g1, g2⟩ := (img_bit hu.1 _).1 e
     have := rk_inj (hsub v' g1) (hs v h1.1) g2
     subst this
     rw [h1.2] at g1; cases g1
  rw [List.map_cons]
  refine .cons (Nat.pos_of_ne_zero fun e => by rw [e, Nat.zero_testBit] at hbit; cases hbit) hr64 (by rw [htz]; exact hcl) ?_
  rw [hand]
  exact ih fun j hj => by
   rw [tb_andn hr hu.1, Bool.and_eq_true] at hj
   exact hs j hj.1
theorem img_all (hS : S < 2 ^ M) (hM : M ≤ 64) : img S S = 2 ^ rk S M - 1 := word_ext fun i => by
 rw [img_bit (lt64 hS hM), Nat.testBit_two_pow_sub_one, decide_eq_true_eq]
 constructor
 ·rintro ⟨v, h1, rfl⟩; exact rk_lt (tb_ltN hS h1) h1
 ·intro hi
  obtain ⟨v, _, h2, h3⟩ := rk_at S M i hi
  exact ⟨v, h2, h3⟩
theorem count_both (n : Nat) (hok : okG (M : Int) es = true) (h : Okay M es) (hS : S < 2 ^ M) (h0 : S ≠ 0) (hn : 300 < n) :
  ∃ c, F25 n ((rk S M : Nat) : Int) (prt S es) (2 ^ rk S M - 1) = some c ∧ F25 n (M : Int) es S = some c := by
 have hM := h.le
 have hlen := h.len
 have hok2 := prt_ok hok h hS h0
 obtain ⟨K, hK, h2⟩ := okay_of hok2
 have hK' : K = rk S M := by omega
 subst hK'
 have hKle := h2.le
 have hlen2 := h2.len
 have hp := Nat.two_pow_pos (rk S M)
 have hfull : 2 ^ rk S M - 1 < 2 ^ rk S M := by omega
 have cc1 : ckF ((rk S M : Nat) : Int) (prt S es) (2 ^ rk S M - 1) = 0 := by unfold ckF; rw [if_pos hok2, Int.toNat_natCast, if_neg (by omega)]
 have cc2 : ckF (M : Int) es S = 0 := by unfold ckF; rw [if_pos hok, Int.toNat_natCast, if_neg (by omega)]
 obtain ⟨l1, a1, _, _, _, _, a2⟩ := comps_both n ((rk S M : Nat) : Int) (prt S es) (2 ^ rk S M - 1) (lt64 hfull hKle) (by omega) (by omega) (by omega)
 obtain ⟨l2, b1, _, _, _, _, b2⟩ := comps_both n (M : Int) es S (lt64 hS hM) (by omega) (by omega) (by omega)
 have hi := Cs.image h hS (b2 cc2) fun j hj => hj
 rw [img_all hS hM] at hi
 have := (a2 cc1).unique hi
 subst this
 refine ⟨(l2.length : Int), ?_, ?_⟩
 ·unfold F25
  rw [a1, ob_s, cc1]
  simp [br]
 ·unfold F25
  rw [b1, ob_s, cc2]
  simp [br]
end
end Go.Proofs.YtpclggcpobakhaaDoor
end

section
namespace Go.Proofs.YtpclggcpobakhaaDoor
open Go Go.Ab Go.Ab.W
theorem L41_eq (n : Nat) (N1 N2 N3 : Int) (l1 l2 l3 : List (Int × Int)) (hn : 300 < n) (h1 : l1.length ≤ 300) (h2 : l2.length ≤ 300) (h3 : l3.length ≤ 300) :
  ∃ J, lpN (L41_1 n N1 l1 N2 l2 N3 l3) n ([], 0) = some J ∧ J.length ≤ 3 ∧ ∀ j ∈ J, okG (gOf N1 l1 N2 l2 N3 l3 j).1 (gOf N1 l1 N2 l2 N3 l3 j).2 = true := by
 have hl : ∀ j, (gOf N1 l1 N2 l2 N3 l3 j).2.length ≤ 300 := fun j => by
  match j with
  | 0 => exact h1
  | 1 => exact h2
  | _ + 2 => exact h3
 have := lp_upto (body := L41_1 n N1 l1 N2 l2 N3 l3) 3 (fun (J : List Nat) (v : Int) => (J, v)) (fun J i => if okG (gOf N1 l1 N2 l2 N3 l3 i).1 (gOf N1 l1 N2 l2 N3 l3 i).2 then J ++ [i] else J) id
  (fun i J => J.length ≤ i ∧ ∀ j ∈ J, okG (gOf N1 l1 N2 l2 N3 l3 j).1 (gOf N1 l1 N2 l2 N3 l3 j).2 = true) (fun J i hi hI => ?_) (fun J _ => ?_) (n := n) (s := []) ⟨Nat.le_refl _, fun j hj => by cases hj⟩ (by omega)
 ·exact ⟨_, this.1, this.2.1, this.2.2⟩
 ·have hg := hl i
  have hF := F23_eq n (gOf N1 l1 N2 l2 N3 l3 i).1 (gOf N1 l1 N2 l2 N3 l3 i).2 (by omega) (by omega) (by omega)
  have hlen := hI.1
  by_cases hk : okG (gOf N1 l1 N2 l2 N3 l3 i).1 (gOf N1 l1 N2 l2 N3 l3 i).2 = true
  ·rw [if_pos hk]
   refine ⟨?_, by simp; omega, fun j hj => ?_⟩
   ·have hc : ckG (gOf N1 l1 N2 l2 N3 l3 i).1 (gOf N1 l1 N2 l2 N3 l3 i).2 = 0 := by unfold ckG; rw [if_pos hk]
    unfold L41_1
    simp only [Int.toNat_natCast, inB_nat hi, gd_t, hF, ob_s, hc, decide_true, br_t, lim_of (show J.length + 1 ≤ 1073741824 by omega), wrap_succ (show i < 4611686018427387904 by omega)]
    rw [br_dt (by omega)]
   ·rcases List.mem_append.1 hj with hj | hj
    ·exact hI.2 j hj
    ·rw [List.mem_singleton.1 hj]; exact hk
  ·rw [if_neg hk]
   refine ⟨?_, by omega, hI.2⟩
   have hc : ckG (gOf N1 l1 N2 l2 N3 l3 i).1 (gOf N1 l1 N2 l2 N3 l3 i).2 = 180 := by unfold ckG; rw [if_neg hk]
   unfold L41_1
   simp only [Int.toNat_natCast, inB_nat hi, gd_t, hF, ob_s, hc, wrap_succ (show i < 4611686018427387904 by omega)]
   rw [br_dt (by omega), br_df (by decide)]
 ·simp only [L41_1]
  rw [br_df (by omega)]; rfl
theorem F41_eq (n x1 x2 x3 : Nat) (l4 : List (Nat × Nat)) (x8 x9 : Nat) (x10 x11 x12 : Int) (x13 x14 : Nat) (x15 x16 x17 : Int) (h9 : x9 < 256) (h14 : x14 < 256) (hn : 300 < n) :
  ∃ gs, F41 n x1 x2 x3 l4 x8 x9 x10 x11 x12 x13 x14 x15 x16 x17 = some gs ∧ gs.length ≤ 3 ∧ ∀ g ∈ gs, okG g.1 g.2 = true ∧ ∃ M : Nat, g.1 = (M : Int) ∧ Okay M g.2 := by
 obtain ⟨N1, e1, N2, e2, N3, e3, h1, g1, g2, g3, _⟩ := F28_tot n x1 x2 x3 l4 x8 x9 x10 x11 x12 x13 x14 x15 x16 x17 h9 h14 (by omega)
 obtain ⟨J, h2, hJ, h3⟩ := L41_eq n N1 N2 N3 e1 e2 e3 hn g1 g2 g3
 refine ⟨J.map (gOf N1 e1 N2 e2 N3 e3), ?_, by simpa using hJ, fun g hg => ?_⟩
 ·unfold F41
  rw [h1, ob_s]
  simp only [h2, ob_s]
 ·obtain ⟨j, hj, rfl⟩ := List.mem_map.1 hg
  exact ⟨h3 j hj, okay_of (h3 j hj)⟩
theorem mask_eq {M : Nat} (h : M ≤ 64) : usub .u64 (ushl .u64 1 M) 1 = 2 ^ M - 1 := by
 have hp := Nat.two_pow_pos M
 have hpl : 2 ^ M ≤ 2 ^ 64 := Nat.pow_le_pow_right (by decide) h
 unfold usub ushl
 rw [uw_id (show (1 : Nat) < 2 ^ 64 by decide), Nat.one_mul, Nat.min_eq_left (show M ≤ IntKind.bits .u64 from h)]
 show (uw .u64 (2 ^ M) + (2 ^ 64 - 1)) % 2 ^ 64 = 2 ^ M - 1
 rcases Nat.lt_or_ge M 64 with h1 | h1
 ·have := one_lt h1
  rw [uw_id this]; omega
 ·have : M = 64 := by omega
  subst this
  decide
theorem masked {M x : Nat} (h : M ≤ 64) (hx : x < 2 ^ 64) : uw .u64 (uw .u64 x &&& uw .u64 (usub .u64 (ushl .u64 1 M) 1)) = x % 2 ^ M ∧ x % 2 ^ M < 2 ^ M := by
 have hp := Nat.two_pow_pos M
 have hpl : 2 ^ M ≤ 2 ^ 64 := Nat.pow_le_pow_right (by decide) h
 rw [mask_eq h, word_and hx (by omega), Nat.and_two_pow_sub_one_eq_mod]
 exact ⟨rfl, Nat.mod_lt _ hp⟩
theorem ckF_fit {M : Nat} {es : List (Int × Int)} {x : Nat} (h : Okay M es) (hk : okG (M : Int) es = true) (hx : x < 2 ^ M) : ckF (M : Int) es x = 0 := by
 unfold ckF
 rw [if_pos hk, Int.toNat_natCast, if_neg (by omega)]
theorem L73_eq (n0 : Nat) (l : List (Int × Int)) (a b : Int) (hl : l.length < 4611686018427387904) : ∀ k i n, i + k = l.length → k < n → (∃ j, i ≤ j ∧ l[j]? = some (a, b)) → ∃ j : Nat, lpN (L73_1 n0 l a b) n ((i : Nat) : Int) = some (.inl (j : Int)) := by
 intro k
 induction k with
 | zero =>
  rintro i n hi hk ⟨j, hj, h⟩
  have := (List.getElem?_eq_some_iff.1 h).1
  omega
 | succ k ih =>
  rintro i n hi hk ⟨j, hj, h⟩
  obtain ⟨n, rfl⟩ : ∃ n', n = n' + 1 := ⟨n - 1, by omega⟩
  have a1 : i < l.length := by omega
  have e1 : l[((i : Nat) : Int).toNat]? = some l[i] := by simp [a1]
  have hbody : L73_1 n0 l a b (i : Int) = br (decide (a = l[i].1) && decide (b = l[i].2)) (some (.inr (.inl (i : Int)))) (some (.inl ((i + 1 : Nat) : Int))) := by
   simp only [L73_1, e1, inB_nat a1, gd_t, ob_s, wrap_succ (show i < 4611686018427387904 by omega)]
   rw [br_dt (by omega)]
  by_cases hc : (decide (a = l[i].1) && decide (b = l[i].2)) = true
  ·rw [hc, br_t] at hbody
   exact ⟨i, lp_end hbody⟩
  ·rw [Bool.not_eq_true] at hc
   rw [hc, br_f] at hbody
   rw [lp_next hbody]
   refine ih (i + 1) n (by omega) (by omega) ⟨j, ?_, h⟩
   rcases Nat.lt_or_ge i j with h1 | h1
   ·exact h1
   ·have : i = j := by omega
    subst this
    rw [List.getElem?_eq_getElem a1] at h
    have := Option.some.inj h
    rw [this] at hc
    simp at hc
theorem F48_mem (n : Nat) (l : List (Int × Int)) (a b : Int) (hl : l.length < 4611686018427387904) (hn : l.length < n) (h : (a, b) ∈ l) : F48 n l a b = some true := by
 obtain ⟨j, hj⟩ := List.mem_iff_getElem?.1 h
 obtain ⟨k, hk⟩ := L73_eq n l a b hl l.length 0 n (by omega) hn ⟨j, Nat.zero_le _, hj⟩
 unfold F48 F73
 rw [show lpN (L73_1 n l a b) n 0 = _ from hk, ob_s, ob_s, decide_eq_true (by omega)]
end Go.Proofs.YtpclggcpobakhaaDoor
end

section
namespace Go.Proofs.YtpclggcpobakhaaDoor
open Go Go.Ab Go.Ab.W
theorem bit_zero {S v : Nat} (hS : S < 2 ^ 64) (hv : v ≤ 64) : decide (uw .u64 (uw .u64 (ushr .u64 S v) &&& uw .u64 1) = 0) = !S.testBit v := by
 have h1 := bit_at hS hv
 have h2 : uw .u64 (uw .u64 (ushr .u64 S v) &&& uw .u64 1) ≤ 1 := by
  have : uw .u64 1 = 1 := rfl
  rw [this]
  exact Nat.le_trans (Nat.mod_le _ _) Nat.and_le_right
 cases hb : S.testBit v with
 | true =>
  rw [hb, decide_eq_true_eq] at h1
  rw [h1]; rfl
 | false =>
  rw [hb, decide_eq_false_iff_not] at h1
  rw [decide_eq_true]; rfl
  omega
theorem low_pre (S k : Nat) : ∀ {M : Nat}, k ≤ M → ∃ t, lowB S M = lowB S k ++ t := by
 intro M h
 induction h with
 | refl => exact ⟨[], by simp⟩
 | step _ ih =>
  obtain ⟨t, ht⟩ := ih
  rw [low_succ, ht, List.append_assoc]
  exact ⟨_, rfl⟩
theorem node_at {S M a : Nat} (ha : a < M) (hb : S.testBit a = true) : ((lowB S M).map fun (k : Nat) => (k : Int))[rk S a]? = some (a : Int) := by
 obtain ⟨t, ht⟩ := low_pre S (a + 1) (show a + 1 ≤ M from ha)
 rw [low_succ, if_pos hb] at ht
 have e : rk S a = (lowB S a).length := rfl
 rw [ht, e, List.getElem?_map, List.append_assoc, List.getElem?_append_right (Nat.le_refl _)]
 simp
theorem low_asc (S M : Nat) : (lowB S M).Pairwise (· < ·) := List.Pairwise.filter _ List.pairwise_lt_range
theorem L12_4_eq (n0 S M : Nat) (hS : S < 2 ^ 64) (hM : M ≤ 64) (n : Nat) (hn : 64 < n) : lpN (L12_4 n0 ((lowB S M).map fun (k : Nat) => (k : Int)) S) n 0 = some (.inr ()) := by
 have hle := low_len S M
 have hlen : ((lowB S M).map fun (k : Nat) => (k : Int)).length = (lowB S M).length := by simp
 have := lp_uptoE (body := L12_4 n0 ((lowB S M).map fun (k : Nat) => (k : Int)) S) (lowB S M).length (fun (_ : Unit) (v : Int) => v) (fun _ => (Sum.inr () : Unit ⊕ Unit)) (fun _ _ => True) (fun s k hk _ => ⟨(), ?_, trivial⟩) (fun s _ => ?_) (n := n) (s := ()) trivial (by omega)
 ·obtain ⟨_, h1, _⟩ := this
  exact h1
 ·have hg : ((lowB S M).map fun (k : Nat) => (k : Int))[k]? = some (((lowB S M)[k] : Nat) : Int) := by rw [List.getElem?_map, List.getElem?_eq_getElem hk]; rfl
  obtain ⟨g1, g2⟩ := low_mem.1 (List.getElem_mem hk)
  unfold L12_4
  simp only [hlen, decide_eq_true (show ((k : Nat) : Int) < ((lowB S M).length : Int) by omega), br_t, Int.toNat_natCast, inB_nat hk, gd_t, hg, ob_s, decide_eq_true (show (0 : Int) ≤ (((lowB S M)[k] : Nat) : Int) by omega), bit_zero hS (show (lowB S M)[k] ≤ 64 by omega), g2, Bool.not_true, br_f, wrap_succ (show k < 4611686018427387904 by omega)]
  by_cases h0 : k = 0
  ·subst h0; simp [br, ob]
  ·have hw : IntKind.wrap .i64 ((k : Int) - 1) = ((k - 1 : Nat) : Int) := by rw [wrap_in (by omega) (by omega)]; omega
   have hk1 : k - 1 < (lowB S M).length := by omega
   have hg1 : ((lowB S M).map fun (k : Nat) => (k : Int))[k - 1]? = some (((lowB S M)[k - 1] : Nat) : Int) := by rw [List.getElem?_map, List.getElem?_eq_getElem hk1]; rfl
   have hlt := List.pairwise_iff_getElem.1 (low_asc S M) (k - 1) k hk1 hk (by omega)
   rw [br_dt (by omega), hw, inB_nat hk1, gd_t, Int.toNat_natCast, hg1, ob_s, ob_s, br_df (by omega)]
 ·unfold L12_4
  simp [br]
theorem L12_5_eq (n0 S M : Nat) (es : List (Int × Int)) (h : Okay M es) (hS : S < 2 ^ M) (hn0 : 300 < n0) (n : Nat) (hn : 300 < n) : lpN (L12_5 n0 (prt S es) ((lowB S M).map fun (k : Nat) => (k : Int)) es) n 0 = some (.inr ()) := by
 have hM := h.le
 have hlen := h.len
 have hlp : (prt S es).length ≤ es.length := by unfold prt; rw [List.length_map]; exact List.length_filter_le _ _
 have hlen2 : ((lowB S M).map fun (k : Nat) => (k : Int)).length = rk S M := by simp [rk]
 have := lp_uptoE (body := L12_5 n0 (prt S es) ((lowB S M).map fun (k : Nat) => (k : Int)) es) (prt S es).length (fun (_ : Unit) (v : Int) => v) (fun _ => (Sum.inr () : Unit ⊕ Unit)) (fun _ _ => True) (fun s k hk _ => ⟨(), ?_, trivial⟩) (fun s _ => ?_) (n := n) (s := ()) trivial (by omega)
 ·obtain ⟨_, h1, _⟩ := this
  exact h1
 ·have hg := List.getElem?_eq_getElem hk
  obtain ⟨a, b, h1, h2, h3, e⟩ := (prt_mem h).1 (List.getElem_mem hk)
  rw [e] at hg
  obtain ⟨a', b', e', hab, hbM⟩ := h.mem _ h1
  simp only [Prod.mk.injEq, Int.natCast_inj] at e'
  obtain ⟨rfl, rfl⟩ := e'
  have ra : rk S a < rk S M := rk_lt (by omega) h2
  have rb : rk S b < rk S M := rk_lt hbM h3
  unfold L12_5
  simp only [hlen2, decide_eq_true (show ((k : Nat) : Int) < ((prt S es).length : Int) by omega), br_t, Int.toNat_natCast, inB_nat hk, gd_t, hg, ob_s, inB_nat ra, inB_nat rb, node_at (show a < M by omega) h2, node_at hbM h3, F48_mem n0 es (a : Int) (b : Int) (by omega) (by omega) h1, Bool.not_true, br_f, wrap_succ (show k < 4611686018427387904 by omega)]
 ·unfold L12_5
  simp [br]
theorem L12_6_body (n x : Nat) (gs : List (Int × List (Int × Int))) (k M : Nat) (es : List (Int × Int)) (hx : x < 2 ^ 64) (hk : gs[k]? = some ((M : Int), es)) (hok : okG (M : Int) es = true) (h : Okay M es) (hn : 300 < n) (hk3 : k < 3) : L12_6 n gs x (k : Int) = some (.inl ((k + 1 : Nat) : Int)) := by
 have hM := h.le
 have hlen := h.len
 have hlt : k < gs.length := (List.getElem?_eq_some_iff.1 hk).1
 obtain ⟨e1, hy⟩ := masked hM hx
 have hpM := Nat.two_pow_pos M
 have hfull : 2 ^ M - 1 < 2 ^ M := by omega
 have c1 := ckF_fit h hok hfull
 obtain ⟨l, l1, _, _, _, l2, l3⟩ := comps_both n (M : Int) es _ (lt64 hfull hM) (by omega) (by omega) (by omega)
 rw [c1] at l1
 have hC := l3 c1
 obtain ⟨p1, _, p3, _⟩ := hC.parts (fun j h => h) fun j k hj hr => hr.mem hj
 have hw : ∀ w ∈ l, w < 2 ^ 64 := fun w hw => by
  obtain ⟨_, _, h2⟩ := p1 w hw
  exact h2.1
 have hall : ∀ v, v < M → ∃ j w : Nat, l[j]? = some w ∧ w.testBit v = true := fun v hv => by
  obtain ⟨w, h1, h2⟩ := p3 v (by rw [Nat.testBit_two_pow_sub_one, decide_eq_true_eq]; exact hv)
  obtain ⟨j, hj⟩ := List.mem_iff_getElem?.1 h1
  exact ⟨j, w, hj, h2⟩
 obtain ⟨P, P1, P2, P3⟩ := L12_2_eq n M l hM (by omega) hw l2 hall n (by omega)
 have a1 := con_alone n M es hok h hn
 have a2 := con_parts n M es l P hok h hn hC P2 P3
 obtain ⟨S, hSe⟩ : ∃ S, S = x % 2 ^ M := ⟨_, rfl⟩
 rw [← hSe] at e1 hy
 rw [mask_eq hM] at e1
 unfold L12_6
 simp only [decide_eq_true (show ((k : Nat) : Int) < (gs.length : Int) by omega), br_t, Int.toNat_natCast, inB_nat hlt, gd_t, hk, ob_s, decide_eq_true (show (0 : Int) ≤ (M : Int) by omega), lim_of (show M ≤ 1073741824 by omega), mask_eq hM, l1, decide_true, Bool.not_true, br_f, P1, a1, a2, F27_eq n (M : Int) (M : Int) es es (by omega) (by omega), Bool.and_self, List.length_nil, e1, wrap_succ (show k < 4611686018427387904 by omega)]
 rw [show (!decide (((0 : Nat) : Int) = 0)) = false by simp, br_f]
 by_cases h0 : S = 0
 ·rw [h0]
  have e2 : F21 n (M : Int) es 0 = some (0, [], [], 2) := by
   unfold F21
   rw [F55_eq n _ es 0 (by decide) (by omega) (by omega) (by omega), ob_s]
   have : ckF (M : Int) es 0 = 0 := ckF_fit h hok hpM
   rw [this]
   simp [br]
  rw [e2]
  simp [br, ob]
 ·have hS64 := lt64 hy hM
  have hok2 := prt_ok hok h hy h0
  have hle : rk S M ≤ M := low_len _ _
  have hlp : (prt S es).length ≤ es.length := by unfold prt; rw [List.length_map]; exact List.length_filter_le _ _
  obtain ⟨l', b1, _, _, b3⟩ := border_both n (M : Int) es S hS64 (by omega) (by omega) (by omega)
  have c2 := ckF_fit h hok hy
  rw [c2] at b1
  have b3 := b3 c2
  subst b3
  obtain ⟨c, d1, d2⟩ := count_both n hok h hy h0 hn
  have h3 := three S es
  have hpl : (prt S es).length = (es.filter (inS S)).length := by unfold prt; rw [List.length_map]
  have hsum : IntKind.wrap .i64 ((IntKind.wrap .i64 (((prt S es).length : Int) + ((es.filter (cross S)).length : Int))) + (((es.filter (outS S)).length : Nat) : Int)) = (es.length : Int) := by
   rw [wrap_in (x := ((prt S es).length : Int) + _) (by omega) (by omega), wrap_in (by omega) (by omega)]; omega
  have hck : ckG ((rk S M : Nat) : Int) (prt S es) = 0 := by unfold ckG; rw [if_pos hok2]
  have hnl : ((lowB S M).map fun (k : Nat) => (k : Int)).length = rk S M := by simp [rk]
  simp only [ind_val n M es S hok h hy h0 hn, ob_s, decide_eq_false h0, br_f, b1, L12_3_eq n M es S h hS64 n (by omega), decide_true, Bool.not_true, F54_eq n S hS64, rk_all hy hM, hnl, hsum, F23_eq n _ (prt S es) (show 2 < n by omega) (by omega) (by omega), hck, decide_eq_true (show (0 : Int) ≤ ((rk S M : Nat) : Int) by omega), gd_t, Int.toNat_natCast, mask_eq (show rk S M ≤ 64 by omega), d1, d2, L12_4_eq n S M hS64 hM n (by omega), L12_5_eq n S M es h hy hn n hn]
theorem F12_true (n x1 x2 x3 : Nat) (l4 : List (Nat × Nat)) (x8 x9 : Nat) (x10 x11 x12 : Int) (x13 x14 : Nat) (x15 x16 x17 : Int) (x18 : Nat) (h9 : x9 < 256) (h14 : x14 < 256) (h18 : x18 < 2 ^ 64) (hn : 300 < n) :
  F12 n x1 x2 x3 l4 x8 x9 x10 x11 x12 x13 x14 x15 x16 x17 x18 = some true := by
 obtain ⟨gs, h1, h2, h3⟩ := F41_eq n x1 x2 x3 l4 x8 x9 x10 x11 x12 x13 x14 x15 x16 x17 h9 h14 hn
 have hlp := lp_list0 (body := L12_6 n gs x18) gs (fun (_ : Unit) (v : Int) => v) (fun _ _ => ()) (fun _ => Sum.inr ()) (fun _ _ => True) (fun s k g hg _ => ?_) (fun s _ => ?_) (n := n) (s := ()) trivial (by omega)
 ·unfold F12 F13
  rw [ob_s, Bool.not_true, br_f, h1, ob_s]
  simp only [hlp.1, ob_s]
 ·have hk : k < gs.length := (List.getElem?_eq_some_iff.1 hg).1
  obtain ⟨hok, M, hM, h⟩ := h3 g (List.mem_of_getElem? hg)
  obtain ⟨N, es⟩ := g
  simp only at hok hM h
  subst hM
  exact ⟨L12_6_body n x18 gs k M es h18 hg hok h hn (by omega), trivial⟩
 ·unfold L12_6
  simp [br]
end Go.Proofs.YtpclggcpobakhaaDoor
end
