/- Texts of the abstract machine and of the walks, joined: S18F AbsShow AbsApart AbsW8 S18Row S18Env S18Del S18Ins S18Facts S18Tz S18Around S18Known AbsMemo S18Memo AbsMemoG S18Works S18Env2 S18ManW S18TzW S18Man2W S18Use S18Lift AbsW9. -/
import Derived.Test.YtpclggcpobakhaaDoorGw3
import Derived.Lib.Overlaps
import Derived.Test.YtpclggcpobakhaaDoorRows
import Derived.Test.YtpclggcpobakhaaDoorTie
import Derived.Test.YtpclggcpobakhaaDoorCards
import Derived.ProofKit
import Derived.LaidMore
import Derived.OpenShut
import Derived.Stop.Joined
import Derived.SevenTiedAt
section
namespace Go.Proofs.YtpclggcpobakhaaDoor
open Go Go.Ab Go.Ab.W
def tzF (x : Nat) : Nat := tz x
def F42 (n : Nat) (x : Nat) : Option Int := gd (decide (x < 2 ^ 64)) (some (tz x : Int))
def F26 (n : Nat) (l : List (Int × Int)) : Option (List (Int × Int)) := gd (lim l.length) (some l)
def F46 (n : Nat) (l : List Int) : Option (List Int) := gd (lim l.length) (some l)
def F60 (n : Nat) (l : List Int) (k : Int) : Option (List Int) := gd (decide (0 ≤ k)) (gd (lim (k.toNat * l.length)) (some (List.replicate k.toNat l).flatten))
def F49 (n : Nat) (l : List (Int × Int)) (i j : Int) : Option (List (Int × Int)) := gd (okB i j l.length) (gd (decide (i < j)) (gd (lim l.length) (some (l.take i.toNat ++ l.drop j.toNat))))
def F82 (n : Nat) (l : List (Int × Int)) (i : Int) (v : List (Int × Int)) : Option (List (Int × Int)) := gd (okB i l.length l.length) (gd (lim (l.length + v.length)) (some (l.take i.toNat ++ v ++ l.drop i.toNat)))
def F13 (n : Nat) : Option Bool := some true
def tab256_482390 : List Nat := [0, 1, 2, 2, 3, 3, 3, 3, 4, 4, 4, 4, 4, 4, 4, 4, 5, 5, 5, 5, 5, 5, 5, 5, 5, 5, 5, 5, 5, 5, 5, 5, 6, 6, 6, 6, 6, 6, 6, 6, 6, 6, 6, 6, 6, 6, 6, 6, 6, 6, 6, 6, 6, 6, 6, 6, 6, 6, 6, 6, 6, 6, 6, 6, 7, 7, 7, 7, 7, 7, 7, 7, 7, 7, 7, 7, 7, 7, 7, 7, 7, 7, 7, 7, 7, 7, 7, 7, 7, 7, 7, 7, 7, 7, 7, 7, 7, 7, 7, 7, 7, 7, 7, 7, 7, 7, 7, 7, 7, 7, 7, 7, 7, 7, 7, 7, 7, 7, 7, 7, 7, 7, 7, 7, 7, 7, 7, 7, 8, 8, 8, 8, 8, 8, 8, 8, 8, 8, 8, 8, 8, 8, 8, 8, 8, 8, 8, 8, 8, 8, 8, 8, 8, 8, 8, 8, 8, 8, 8, 8, 8, 8, 8, 8, 8, 8, 8, 8, 8, 8, 8, 8, 8, 8, 8, 8, 8, 8, 8, 8, 8, 8, 8, 8, 8, 8, 8, 8, 8, 8, 8, 8, 8, 8, 8, 8, 8, 8, 8, 8, 8, 8, 8, 8, 8, 8, 8, 8, 8, 8, 8, 8, 8, 8, 8, 8, 8, 8, 8, 8, 8, 8, 8, 8, 8, 8, 8, 8, 8, 8, 8, 8, 8, 8, 8, 8, 8, 8, 8, 8, 8, 8, 8, 8, 8, 8, 8, 8, 8, 8, 8, 8, 8, 8, 8, 8]
/-- (wardmote/wardmoteref18.Draft).Graph -/
def L40_1 (n : Nat) (l4 : List (Nat × Nat)) (y10 : Int) (v1018 : Int) (v2356 : Int) : (Bool × Int) → Option ((Bool × Int) ⊕ (Bool)) := fun (v2917, v2918) =>
ob (
br (decide (v2918 < (l4.length : Int))) (
some (decide (v2918 < 3))) (
some false)) fun v2972 =>
br (v2972) (
ob (
gd (inB v2918 l4.length) (
ob (l4[v2918.toNat]?) fun (x2995, x2996) =>
gd (decide (y10 ≠ 0)) (
gd (inB v2918 l4.length) (
gd (decide (y10 ≠ 0)) (
br (v2917) (
some true) (
br (decide (Int.tmod (IntKind.wrap .i64 ((x2995 : Nat) : Int)) y10 = v1018)) (
br (decide (Int.tmod (IntKind.wrap .i64 ((x2996 : Nat) : Int)) y10 = v2356)) (
some true) (
br (decide (Int.tmod (IntKind.wrap .i64 ((x2995 : Nat) : Int)) y10 = v2356)) (
some (decide (Int.tmod (IntKind.wrap .i64 ((x2996 : Nat) : Int)) y10 = v1018))) (
some false))) (
br (decide (Int.tmod (IntKind.wrap .i64 ((x2995 : Nat) : Int)) y10 = v2356)) (
some (decide (Int.tmod (IntKind.wrap .i64 ((x2996 : Nat) : Int)) y10 = v1018))) (
some false)))))))) fun v2991 =>
some (.inl (v2991, IntKind.wrap .i64 (v2918 + 1)))) (
some (.inr v2917))
def L40_2 (n : Nat) (y10 : Int) (v1018 : Int) (v1014 : Int) (x3 : Nat) (l4 : List (Nat × Nat)) : (List (Int × Int) × Int × Int) → Option ((List (Int × Int) × Int × Int) ⊕ (List (Int × Int) × Int)) := fun (l2353, v2355, v2356) =>
br (decide (v2356 < y10)) (
ob (
ob (
br (decide (v2356 = IntKind.wrap .i64 (v1018 + v1014))) (
some true) (
br (decide (v2356 = IntKind.wrap .i64 (v1018 + 1))) (
gd (decide (v1014 ≠ 0)) (
some (!decide (Int.tmod v2356 v1014 = 0)))) (
some false))) fun v2857 =>
ob (
br (v2857) (
ob (
ob (
br (decide (Int.tmod v2355 2 = 1)) (
ob (some (ushr .u16 x3 (ui .u64 (Int.tmod (IntKind.wrap .i64 (Int.tdiv v2355 2)) 16)))) fun y2906 =>
some (decide (uw .u16 (uw .u16 y2906 &&& uw .u16 1) = 1))) (
some false)) fun v2904 =>
br (v2904) (
some false) (
some v2857)) fun v2900 =>
some (IntKind.wrap .i64 (v2355 + 1), v2900)) (
some (v2355, v2857))) fun (v2887, v2888) =>
ob (
lpN (L40_1 n l4 y10 v1018 v2356) n (v2888, 0)) fun v2964 =>
br (v2964) (
gd (lim (l2353 ++ [(v1018, v2356)]).length) (
some ((l2353 ++ [(v1018, v2356)]), v2887))) (
some (l2353, v2887))) fun (l2851, v2853) =>
some (.inl (l2851, v2853, IntKind.wrap .i64 (v2356 + 1)))) (
some (.inr (l2353, v2355)))
def L40_3 (n : Nat) (y10 : Int) (x3 : Nat) (l4 : List (Nat × Nat)) : (Int × List (Int × Int) × Int × Int) → Option ((Int × List (Int × Int) × Int × Int) ⊕ (List (Int × Int))) := fun (v1014, l1015, v1017, v1018) =>
br (decide (v1018 < y10)) (
ob (
lpN (L40_2 n y10 v1018 v1014 x3 l4) n (l1015, v1017, IntKind.wrap .i64 (v1018 + 1))) fun (l2687, v2689) =>
some (.inl (v1014, l2687, v2689, IntKind.wrap .i64 (v1018 + 1)))) (
some (.inr l1015))
def F40 (n : Nat) (x1 : Nat) (x2 : Nat) (x3 : Nat) (l4 : List (Nat × Nat)) : Option (Int × List (Int × Int)) :=
ob (some (IntKind.wrap .i64 ((IntKind.wrap .i64 (1 + (IntKind.wrap .i64 ((x1 % 4 : Nat) : Int)))) * (IntKind.wrap .i64 (1 + (IntKind.wrap .i64 ((x2 % 3 : Nat) : Int))))))) fun y10 =>
ob (
lpN (L40_3 n y10 x3 l4) n (IntKind.wrap .i64 (1 + (IntKind.wrap .i64 ((x1 % 4 : Nat) : Int))), ([] : List (Int × Int)), 0, 0)) fun l2020 =>
some (y10, l2020)

/-- (wardmote/wardmotelaw18.Bend).Of -/
def L65_1 (n : Nat) (v368 : Int) (x2 : Nat) : (List (Int × Int) × Int) → Option ((List (Int × Int) × Int) ⊕ (List (Int × Int))) := fun (l450, v452) =>
ob (
br (decide (v452 < mi (IntKind.wrap .i64 (v368 + 5)) (64 : Int))) (
some (decide ((l450.length : Int) < IntKind.wrap .i64 (199 + (IntKind.wrap .i64 ((x2 % 3 : Nat) : Int)))))) (
some false)) fun v480 =>
br (v480) (
gd (lim (l450 ++ [(v368, v452)]).length) (
some (.inl ((l450 ++ [(v368, v452)]), IntKind.wrap .i64 (v452 + 1))))) (
some (.inr l450))
def L65_2 (n : Nat) (x2 : Nat) : (List (Int × Int) × Int) → Option ((List (Int × Int) × Int) ⊕ (List (Int × Int))) := fun (l366, v368) =>
br (decide (v368 < 64)) (
ob (
lpN (L65_1 n v368 x2) n (l366, IntKind.wrap .i64 (v368 + 1))) fun l471 =>
some (.inl (l471, IntKind.wrap .i64 (v368 + 1)))) (
some (.inr l366))
def F65 (n : Nat) (x1 : Nat) (x2 : Nat) (x3 : Int) (x4 : Int) (x5 : Int) (x6 : Int) (l7 : List (Int × Int)) : Option (Int × List (Int × Int)) :=
gd (okB 0 (mi (l7.length : Int) (210 : Int)) l7.length) (
ob (F26 n ((l7.drop (0 : Int).toNat).take ((mi (l7.length : Int) (210 : Int) : Int).toNat - (0 : Int).toNat))) fun l18 =>
gd (decide (IntKind.wrap .i64 ((l18.length : Int) + 1) ≠ 0)) (
ob (some (Int.tmod (IntKind.wrap .i64 ((x2 : Nat) : Int)) (IntKind.wrap .i64 ((l18.length : Int) + 1)))) fun y22 =>
ob (
br (decide (x1 % 8 = 0)) (
some (x3, l18, l18.length)) (
br (decide (x1 % 8 = 1)) (
ob (F82 n l18 y22 ([(x4, x5)])) fun l263 =>
some (x6, l263, l263.length)) (
br (decide (x1 % 8 = 2)) (
br (decide (y22 < (l18.length : Int))) (
ob (F49 n l18 y22 (IntKind.wrap .i64 (y22 + 1))) fun l269 =>
some (x6, l269, l269.length)) (
some (x6, l18, l18.length))) (
br (decide (x1 % 8 = 3)) (
br (decide (y22 < (l18.length : Int))) (
gd (inB y22 l18.length) (
ob (l18[y22.toNat]?) fun (x279, x280) =>
gd (inB y22 l18.length) (
gd (inB y22 l18.length) (
gd (inB y22 l18.length) (
ob ((l18.set y22.toNat (x280, x280))[y22.toNat]?) fun (x286, x287) =>
some (x6, ((l18.set y22.toNat (x280, x280)).set y22.toNat (x286, x279)), l18.length)))))) (
some (x6, l18, l18.length))) (
br (decide (x1 % 8 = 4)) (
br (decide (y22 < (l18.length : Int))) (
gd (inB y22 l18.length) (
ob (l18[y22.toNat]?) fun (x296, x297) =>
ob (F82 n l18 y22 ([(x296, x297)])) fun l300 =>
some (x6, l300, l300.length))) (
some (x6, l18, l18.length))) (
br (decide (x1 % 8 = 5)) (
some (IntKind.wrap .i64 (1 + (Int.tmod (ma x6 (1 : Int)) 64)), l18, l18.length)) (
br (decide (x1 % 8 = 6)) (
ob (
lpN (L65_2 n x2) n (([] : List (Int × Int)), 0)) fun l430 =>
some (64, l430, l430.length)) (
some (x6, l18, l18.length))))))))) fun (v256, l257, n259) =>
some (v256, l257)))

/-- wardmote/wardmotelaw18.graphs -/
def F28 (n : Nat) (x1 : Nat) (x2 : Nat) (x3 : Nat) (l4 : List (Nat × Nat)) (x8 : Nat) (x9 : Nat) (x10 : Int) (x11 : Int) (x12 : Int) (x13 : Nat) (x14 : Nat) (x15 : Int) (x16 : Int) (x17 : Int) : Option (Int × List (Int × Int) × Int × List (Int × Int) × Int × List (Int × Int)) :=
ob (F40 n x1 x2 x3 l4) fun (r22, l23) =>
ob (F65 n x8 x9 x10 x11 x12 r22 l23) fun (r28, l29) =>
ob (F65 n x13 x14 x15 x16 x17 r28 l29) fun (r34, l35) =>
some (r22, l23, r28, l29, r34, l35)

/-- wardmote/wardmotelaw18.sets -/
def F29 (n : Nat) (x1 : Int) (l2 : List (Int × Int)) (x6 : Nat) : Option (Nat × Nat) :=
ob (
br (decide (x1 < 1)) (
some true) (
some (decide (63 < x1)))) fun v16 =>
br (v16) (
some (x6, x6)) (
gd (decide (0 ≤ x1)) (
some (x6, uw .u64 (uw .u64 x6 &&& uw .u64 (usub .u64 (ushl .u64 1 x1.toNat) 1)))))

/-- cmp.isNaN[int] -/
def F94 (n : Nat) (x1 : Int) : Option (Bool) :=
some (!decide (x1 = x1))

/-- cmp.Compare[int] -/
def F81 (n : Nat) (x1 : Int) (x2 : Int) : Option (Int) :=
ob (F94 n x1) fun r4 =>
ob (F94 n x2) fun r6 =>
br (r4) (
br (r6) (
some 0) (
some (-1))) (
br (r6) (
some 1) (
br (decide (x1 < x2)) (
some (-1)) (
br (decide (x2 < x1)) (
some 1) (
some 0))))

/-- slices.Compare[[]int,int] -/
def L64_1 (n : Nat) (l1 : List (Int)) (l5 : List (Int)) : Int → Option ((Int) ⊕ ((Int) ⊕ (Unit))) := fun v10 =>
br (decide (v10 < (l1.length : Int))) (
gd (inB v10 l1.length) (
ob (l1[v10.toNat]?) fun x32 =>
br (decide ((l5.length : Int) ≤ v10)) (
some (.inr (.inl 1))) (
gd (inB v10 l5.length) (
ob (l5[v10.toNat]?) fun x38 =>
ob (F81 n x32 x38) fun r41 =>
br (!decide (r41 = 0)) (
some (.inr (.inl r41))) (
some (.inl (IntKind.wrap .i64 (v10 + 1)))))))) (
some (.inr (.inr ())))
def F64 (n : Nat) (l1 : List (Int)) (l5 : List (Int)) : Option (Int) :=
ob (α := (Int) ⊕ (Unit)) (
lpN (L64_1 n l1 l5) n 0) fun r44 => match r44 with
| .inl v27 =>
some v27
| .inr _ =>
br (decide ((l1.length : Int) < (l5.length : Int))) (
some (-1)) (
some 0)

/-- wardmote/graph.Check -/
def L23_1 (n : Nat) (l2 : List (Int × Int)) (x1 : Int) : (Int × Int × Int) → Option ((Int × Int × Int) ⊕ ((Unit) ⊕ (Unit))) := fun (v97, v98, v99) =>
br (decide (v99 < (l2.length : Int))) (
gd (inB v99 l2.length) (
ob (l2[v99.toNat]?) fun (x213, x214) =>
ob (
br (decide (x213 < 0)) (
some true) (
br (decide (x214 ≤ x213)) (
some true) (
br (decide (x1 ≤ x214)) (
some true) (
ob (F64 n [v97, v98] [x213, x214]) fun r241 =>
some (decide (0 ≤ r241)))))) fun v236 =>
br (v236) (
some (.inr (.inl ()))) (
some (.inl (x213, x214, IntKind.wrap .i64 (v99 + 1)))))) (
some (.inr (.inr ())))
def F23 (n : Nat) (x1 : Int) (l2 : List (Int × Int)) : Option (Int) :=
ob (
br (decide (x1 < 1)) (
some true) (
br (decide (64 < x1)) (
some true) (
some (decide (200 < (l2.length : Int)))))) fun v17 =>
br (v17) (
some 180) (
ob (α := (Unit) ⊕ (Unit)) (
lpN (L23_1 n l2 x1) n (-1, -1, 0)) fun r246 => match r246 with
| .inl _ =>
some 180
| .inr _ =>
some 0)

/-- math/bits.Len64 -/
def F51 (n : Nat) (x1 : Nat) : Option (Int) :=
ob (
br (decide (4294967296 ≤ x1)) (
some (ushr .u64 x1 32, 32)) (
some (x1, 0))) fun (v3, v4) =>
ob (
br (decide (65536 ≤ v3)) (
some (ushr .u64 v3 16, IntKind.wrap .i64 (v4 + 16))) (
some (v3, v4))) fun (v9, v10) =>
ob (
br (decide (256 ≤ v9)) (
some (ushr .u64 v9 8, IntKind.wrap .i64 (v10 + 8))) (
some (v9, v10))) fun (v15, v16) =>
gd (inB ((uw .u8 v15 : Nat) : Int) 256) (
ob (tab256_482390[((uw .u8 v15 : Nat) : Int).toNat]?) fun y22 =>
some (IntKind.wrap .i64 (v16 + (IntKind.wrap .i64 ((y22 : Nat) : Int)))))

/-- wardmote/graph.check -/
def F55 (n : Nat) (x1 : Int) (l2 : List (Int × Int)) (x6 : Nat) : Option (Int) :=
ob (F23 n x1 l2) fun r9 =>
br (!decide (r9 = 0)) (
some r9) (
ob (F51 n x6) fun r12 =>
br (decide (x1 < r12)) (
some 2) (
some 0))

/-- wardmote/graph.around -/
def L75_1 (n : Nat) (l2 : List (Int × Int)) (x1 : Int) : (List (Nat) × Int) → Option ((List (Nat) × Int) ⊕ (List (Nat))) := fun (l32, v33) =>
br (decide (v33 < (l2.length : Int))) (
gd (inB v33 l2.length) (
ob (l2[v33.toNat]?) fun (x61, x62) =>
gd (inB x61 x1.toNat) (
ob (l32[x61.toNat]?) fun x66 =>
gd (decide (0 ≤ x62)) (
gd (inB x61 x1.toNat) (
gd (inB x62 x1.toNat) (
ob ((l32.set x61.toNat (uw .u64 (uw .u64 x66 ||| uw .u64 (ushl .u64 1 x62.toNat))))[x62.toNat]?) fun x72 =>
gd (decide (0 ≤ x61)) (
gd (inB x62 x1.toNat) (
some (.inl (((l32.set x61.toNat (uw .u64 (uw .u64 x66 ||| uw .u64 (ushl .u64 1 x62.toNat)))).set x62.toNat (uw .u64 (uw .u64 x72 ||| uw .u64 (ushl .u64 1 x61.toNat)))), IntKind.wrap .i64 (v33 + 1))))))))))) (
some (.inr l32))
def F75 (n : Nat) (x1 : Int) (l2 : List (Int × Int)) : Option (List Nat) :=
gd (decide (0 ≤ x1)) (gd (lim x1.toNat) (
ob (
lpN (L75_1 n l2 x1) n ((List.replicate x1.toNat 0), 0)) fun l56 =>
some l56))

/-- wardmote/graph.near -/
def L56_1 (n : Nat) (l9 : List Nat) : (Nat × Nat) → Option ((Nat × Nat) ⊕ (Nat)) := fun (v104, v105) =>
br (!decide (v104 = 0)) (
ob (F42 n v104) fun r129 =>
ob (
gd (inB r129 l9.length) (
ob (l9[r129.toNat]?) fun x141 =>
some (uw .u64 (uw .u64 v105 ||| uw .u64 x141)))) fun v136 =>
some (.inl (uw .u64 (uw .u64 v104 &&& uw .u64 (usub .u64 v104 1)), v136))) (
some (.inr v105))
def F56 (n : Nat) (x1 : Int) (l2 : List (Int × Int)) (x6 : Nat) : Option (Nat) :=
ob (F75 n x1 l2) fun l9 =>
ob (
some ()) fun _ =>
ob (
ob (
lpN (L56_1 n l9) n (x6, 0)) fun v126 =>
some v126) fun v85 =>
some (uandn .u64 v85 x6)

/-- wardmote/graph.Neighbours -/
def F14 (n : Nat) (x1 : Int) (l2 : List (Int × Int)) (x6 : Nat) : Option (Nat × Int) :=
ob (F55 n x1 l2 x6) fun r9 =>
br (!decide (r9 = 0)) (
some (0, r9)) (
ob (F56 n x1 l2 x6) fun r12 =>
some (r12, 0))

/-- wardmote/wardmoteref18.Check -/
def L43_1 (n : Nat) (l2 : List (Int × Int)) (x1 : Int) : Int → Option ((Int) ⊕ ((Unit) ⊕ (Unit))) := fun v24 =>
br (decide (v24 < (l2.length : Int))) (
gd (inB v24 l2.length) (
ob (l2[v24.toNat]?) fun (x166, x167) =>
gd (inB v24 l2.length) (
ob (
br (decide (x166 < 0)) (
some true) (
br (decide (x167 ≤ x166)) (
some true) (
some (decide (x1 ≤ x167))))) fun v180 =>
br (v180) (
some (.inr (.inl ()))) (
ob (
br (decide (0 < v24)) (
gd (inB (IntKind.wrap .i64 (v24 - 1)) l2.length) (
ob (l2[(IntKind.wrap .i64 (v24 - 1)).toNat]?) fun (x198, x199) =>
br (decide (x166 < x198)) (
some true) (
gd (inB (IntKind.wrap .i64 (v24 - 1)) l2.length) (
br (decide (x198 = x166)) (
gd (inB (IntKind.wrap .i64 (v24 - 1)) l2.length) (
some (decide (x167 ≤ x199)))) (
some false))))) (
some false)) fun v195 =>
br (v195) (
some (.inr (.inl ()))) (
some (.inl (IntKind.wrap .i64 (v24 + 1)))))))) (
some (.inr (.inr ())))
def F43 (n : Nat) (x1 : Int) (l2 : List (Int × Int)) : Option (Int) :=
ob (
br (decide (x1 < 1)) (
some true) (
br (decide (64 < x1)) (
some true) (
some (decide (200 < (l2.length : Int)))))) fun v17 =>
br (v17) (
some 180) (
ob (α := (Unit) ⊕ (Unit)) (
lpN (L43_1 n l2 x1) n 0) fun r209 => match r209 with
| .inl _ =>
some 180
| .inr _ =>
some 0)

/-- wardmote/wardmoteref18.Fitted -/
def F66 (n : Nat) (x1 : Int) (l2 : List (Int × Int)) (x6 : Nat) : Option (Int) :=
ob (F43 n x1 l2) fun r9 =>
br (!decide (r9 = 0)) (
some r9) (
ob (
br (decide (x1 < 64)) (
some (!decide (ushr .u64 x6 (ui .u64 x1) = 0))) (
some false)) fun v18 =>
br (v18) (
some 2) (
some 0))

/-- wardmote/wardmoteref18.Has -/
def F67 (n : Nat) (x1 : Nat) (x2 : Int) : Option (Bool) :=
some (decide (uw .u64 (uw .u64 (ushr .u64 x1 (ui .u64 x2)) &&& uw .u64 1) = 1))

/-- wardmote/wardmoteref18.One -/
def F68 (n : Nat) (x1 : Int) : Option (Nat) :=
some (ushl .u64 1 (ui .u64 x1))

/-- wardmote/wardmoteref18.Neighbours -/
def L30_1 (n : Nat) (l2 : List (Int × Int)) (x6 : Nat) : (Nat × Int) → Option ((Nat × Int) ⊕ (Nat)) := fun (v13, v14) =>
br (decide (v14 < (l2.length : Int))) (
ob (
gd (inB v14 l2.length) (
ob (l2[v14.toNat]?) fun (x201, x202) =>
gd (inB v14 l2.length) (
ob (
ob (
ob (F67 n x6 x201) fun r229 =>
br (r229) (
ob (F67 n x6 x202) fun r232 =>
some (!r232)) (
some false)) fun v227 =>
br (v227) (
ob (F68 n x202) fun r237 =>
some (uw .u64 (uw .u64 v13 ||| uw .u64 r237))) (
some v13)) fun v221 =>
ob (
ob (F67 n x6 x202) fun r247 =>
br (r247) (
ob (F67 n x6 x201) fun r250 =>
some (!r250)) (
some false)) fun v245 =>
br (v245) (
ob (F68 n x201) fun r255 =>
some (uw .u64 (uw .u64 v221 ||| uw .u64 r255))) (
some v221)))) fun v197 =>
some (.inl (v197, IntKind.wrap .i64 (v14 + 1)))) (
some (.inr v13))
def F30 (n : Nat) (x1 : Int) (l2 : List (Int × Int)) (x6 : Nat) : Option (Nat × Int) :=
ob (F66 n x1 l2 x6) fun r9 =>
br (!decide (r9 = 0)) (
some (0, r9)) (
ob (
lpN (L30_1 n l2 x6) n (0, 0)) fun v137 =>
some (v137, 0))

/-- wardmote/graph.has -/
def F57 (n : Nat) (x1 : Nat) (x2 : Int) : Option (Bool) :=
gd (decide (0 ≤ x2)) (
some (decide (uw .u64 (uw .u64 (ushr .u64 x1 x2.toNat) &&& uw .u64 1) = 1)))

/-- wardmote/graph.Boundary -/
def L15_1 (n : Nat) (l2 : List (Int × Int)) (x6 : Nat) : (List (Int × Int) × Int) → Option ((List (Int × Int) × Int) ⊕ (List (Int × Int))) := fun (l48, v50) =>
br (decide (v50 < (l2.length : Int))) (
ob (
gd (inB v50 l2.length) (
ob (l2[v50.toNat]?) fun (x112, x113) =>
ob (F57 n x6 x112) fun r117 =>
ob (F57 n x6 x113) fun r119 =>
br (!(r117 == r119)) (
gd (lim (l48 ++ [(x112, x113)]).length) (
some (l48 ++ [(x112, x113)]))) (
some l48))) fun l107 =>
some (.inl (l107, IntKind.wrap .i64 (v50 + 1)))) (
some (.inr l48))
def F15 (n : Nat) (x1 : Int) (l2 : List (Int × Int)) (x6 : Nat) : Option (List (Int × Int) × Int) :=
ob (F55 n x1 l2 x6) fun r9 =>
br (!decide (r9 = 0)) (
some ([], r9)) (
ob (
lpN (L15_1 n l2 x6) n (([] : List (Int × Int)), 0)) fun l89 =>
some (l89, 0))

/-- wardmote/wardmoteref18.Boundary -/
def L31_1 (n : Nat) (l2 : List (Int × Int)) (x6 : Nat) : (List (Int × Int) × Int) → Option ((List (Int × Int) × Int) ⊕ (List (Int × Int))) := fun (l50, v52) =>
br (decide (v52 < (l2.length : Int))) (
ob (
gd (inB v52 l2.length) (
ob (l2[v52.toNat]?) fun (x117, x118) =>
ob (F67 n x6 x117) fun r121 =>
gd (inB v52 l2.length) (
ob (F67 n x6 x118) fun r124 =>
br (!(r121 == r124)) (
gd (inB v52 l2.length) (
gd (lim (l50 ++ [(x117, x118)]).length) (
some (l50 ++ [(x117, x118)])))) (
some l50)))) fun l112 =>
some (.inl (l112, IntKind.wrap .i64 (v52 + 1)))) (
some (.inr l50))
def F31 (n : Nat) (x1 : Int) (l2 : List (Int × Int)) (x6 : Nat) : Option (List (Int × Int) × Int) :=
ob (F66 n x1 l2 x6) fun r9 =>
br (!decide (r9 = 0)) (
some ([], r9)) (
ob (
lpN (L31_1 n l2 x6) n (([] : List (Int × Int)), 0)) fun l93 =>
some (l93, 0))

/-- wardmote/graph.components -/
def L58_1 (n : Nat) (l10 : List Nat) (x6 : Nat) : (Nat × Nat) → Option ((Nat × Nat) ⊕ (Nat)) := fun (v961, v962) =>
br (!decide (v961 = 0)) (
ob (F42 n v961) fun r990 =>
ob (
gd (inB r990 l10.length) (
ob (l10[r990.toNat]?) fun x1004 =>
ob (some (uw .u64 (uw .u64 v962 ||| uw .u64 (uw .u64 (uw .u64 x1004 &&& uw .u64 x6))))) fun y1006 =>
some y1006)) fun v999 =>
some (.inl (uw .u64 (uw .u64 v961 &&& uw .u64 (usub .u64 v961 1)), v999))) (
some (.inr v962))
def L58_2 (n : Nat) (l10 : List Nat) (x6 : Nat) : Nat → Option ((Nat) ⊕ (Nat)) := fun v690 =>
ob (
some ()) fun _ =>
ob (
ob (
lpN (L58_1 n l10 x6) n (v690, v690)) fun v987 =>
some v987) fun v938 =>
br (decide (v938 = v690)) (
some (.inr v690)) (
some (.inl v938))
def L58_3 (n : Nat) (l10 : List Nat) (x6 : Nat) : (List (Nat) × Nat) → Option ((List (Nat) × Nat) ⊕ (List (Nat))) := fun (l348, v350) =>
br (!decide (v350 = 0)) (
ob (
lpN (L58_2 n l10 x6) n (uw .u64 (uw .u64 v350 &&& uw .u64 (uneg .u64 v350)))) fun v853 =>
gd (lim (l348 ++ [v853]).length) (
some (.inl ((l348 ++ [v853]), uandn .u64 v350 v853)))) (
some (.inr l348))
def F58 (n : Nat) (x1 : Int) (l2 : List (Int × Int)) (x6 : Nat) : Option (List Nat) :=
ob (F75 n x1 l2) fun l10 =>
ob (
lpN (L58_3 n l10 x6) n (([] : List (Nat)), x6)) fun l686 =>
some l686

/-- wardmote/graph.Connected -/
def F16 (n : Nat) (x1 : Int) (l2 : List (Int × Int)) (x6 : Nat) : Option (Bool × Int) :=
ob (F55 n x1 l2 x6) fun r9 =>
br (!decide (r9 = 0)) (
some (false, r9)) (
ob (F58 n x1 l2 x6) fun l12 =>
some (decide ((l12.length : Int) = 1), 0))

/-- wardmote/wardmoteref18.Reach -/
def L71_1 (n : Nat) (l2 : List (Int × Int)) (x8 : Int) (x6 : Nat) : (Nat × Int) → Option ((Nat × Int) ⊕ (Nat)) := fun (v204, v205) =>
br (decide (v205 < (l2.length : Int))) (
ob (
gd (inB v205 l2.length) (
ob (l2[v205.toNat]?) fun (x341, x342) =>
gd (inB v205 l2.length) (
ob (
br (!decide (v205 = x8)) (
ob (F67 n x6 x341) fun r360 =>
br (r360) (
ob (F67 n x6 x342) fun r363 =>
br (r363) (
ob (F67 n v204 x341) fun r366 =>
br (r366) (
some true) (
ob (F67 n v204 x342) fun r369 =>
some r369)) (
some false)) (
some false)) (
some false)) fun v357 =>
br (v357) (
ob (F68 n x341) fun r374 =>
ob (F68 n x342) fun r376 =>
ob (some (uw .u64 (uw .u64 (uw .u64 (uw .u64 v204 ||| uw .u64 r374)) ||| uw .u64 r376))) fun y377 =>
some y377) (
some v204)))) fun v337 =>
some (.inl (v337, IntKind.wrap .i64 (v205 + 1)))) (
some (.inr v204))
def L71_2 (n : Nat) (l2 : List (Int × Int)) (x8 : Int) (x6 : Nat) : (Nat × Int) → Option ((Nat × Int) ⊕ (Nat)) := fun (v14, v15) =>
br (decide (v15 < (l2.length : Int))) (
ob (
lpN (L71_1 n l2 x8 x6) n (v14, 0)) fun v294 =>
some (.inl (v294, IntKind.wrap .i64 (v15 + 1)))) (
some (.inr v14))
def F71 (n : Nat) (x1 : Int) (l2 : List (Int × Int)) (x6 : Nat) (x7 : Int) (x8 : Int) : Option (Nat) :=
ob (F68 n x7) fun r11 =>
ob (
lpN (L71_2 n l2 x8 x6) n (r11, 0)) fun v200 =>
some v200

/-- wardmote/wardmoteref18.Parts -/
def L70_1 (n : Nat) (x1 : Int) (x6 : Nat) (l2 : List (Int × Int)) : (List (Nat) × Nat × Int) → Option ((List (Nat) × Nat × Int) ⊕ (List (Nat))) := fun (l56, v58, v59) =>
br (decide (v59 < x1)) (
ob (
ob (
ob (F67 n x6 v59) fun r140 =>
br (r140) (
ob (F67 n v58 v59) fun r143 =>
some (!r143)) (
some false)) fun v138 =>
br (v138) (
ob (F71 n x1 l2 x6 v59 (-1)) fun r148 =>
gd (lim (l56 ++ [r148]).length) (
some ((l56 ++ [r148]), uw .u64 (uw .u64 v58 ||| uw .u64 r148)))) (
some (l56, v58))) fun (l130, v132) =>
some (.inl (l130, v132, IntKind.wrap .i64 (v59 + 1)))) (
some (.inr l56))
def F70 (n : Nat) (x1 : Int) (l2 : List (Int × Int)) (x6 : Nat) : Option (List Nat) :=
ob (
lpN (L70_1 n x1 x6 l2) n (([] : List (Nat)), 0, 0)) fun l108 =>
some l108

/-- wardmote/wardmoteref18.Joined -/
def F69 (n : Nat) (x1 : Int) (l2 : List (Int × Int)) (x6 : Nat) : Option (Bool) :=
ob (F70 n x1 l2 x6) fun l9 =>
some (decide ((l9.length : Int) = 1))

/-- wardmote/wardmoteref18.Connected -/
def F32 (n : Nat) (x1 : Int) (l2 : List (Int × Int)) (x6 : Nat) : Option (Bool × Int) :=
ob (F66 n x1 l2 x6) fun r9 =>
br (!decide (r9 = 0)) (
some (false, r9)) (
ob (F69 n x1 l2 x6) fun r12 =>
some (r12, 0))

/-- wardmote/graph.Components -/
def F17 (n : Nat) (x1 : Int) (l2 : List (Int × Int)) (x6 : Nat) : Option (List Nat × Int) :=
ob (F55 n x1 l2 x6) fun r9 =>
br (!decide (r9 = 0)) (
some ([], r9)) (
ob (F58 n x1 l2 x6) fun l12 =>
some (l12, 0))

/-- wardmote/wardmoteref18.Components -/
def F33 (n : Nat) (x1 : Int) (l2 : List (Int × Int)) (x6 : Nat) : Option (List Nat × Int) :=
ob (F66 n x1 l2 x6) fun r9 =>
br (!decide (r9 = 0)) (
some ([], r9)) (
ob (F70 n x1 l2 x6) fun l12 =>
some (l12, 0))

/-- slices.Equal[[][2]int,[2]int] -/
def L34_1 (n : Nat) (l1 : List (Int × Int)) (l5 : List (Int × Int)) : Int → Option ((Int) ⊕ ((Unit) ⊕ (Unit))) := fun v11 =>
br (decide (v11 < (l1.length : Int))) (
gd (inB v11 l1.length) (
ob (l1[v11.toNat]?) fun (x31, x32) =>
gd (inB v11 l5.length) (
ob (l5[v11.toNat]?) fun (x37, x38) =>
br (!(decide (x31 = x37) && decide (x32 = x38))) (
some (.inr (.inl ()))) (
some (.inl (IntKind.wrap .i64 (v11 + 1))))))) (
some (.inr (.inr ())))
def F34 (n : Nat) (l1 : List (Int × Int)) (l5 : List (Int × Int)) : Option (Bool) :=
br (!decide ((l1.length : Int) = (l5.length : Int))) (
some false) (
ob (α := (Unit) ⊕ (Unit)) (
lpN (L34_1 n l1 l5) n 0) fun r42 => match r42 with
| .inl _ =>
some false
| .inr _ =>
some true)

/-- slices.Equal[[]uint64,uint64] -/
def L35_1 (n : Nat) (l1 : List (Nat)) (l5 : List (Nat)) : Int → Option ((Int) ⊕ ((Unit) ⊕ (Unit))) := fun v11 =>
br (decide (v11 < (l1.length : Int))) (
gd (inB v11 l1.length) (
ob (l1[v11.toNat]?) fun x29 =>
gd (inB v11 l5.length) (
ob (l5[v11.toNat]?) fun x34 =>
br (!decide (x29 = x34)) (
some (.inr (.inl ()))) (
some (.inl (IntKind.wrap .i64 (v11 + 1))))))) (
some (.inr (.inr ())))
def F35 (n : Nat) (l1 : List (Nat)) (l5 : List (Nat)) : Option (Bool) :=
br (!decide ((l1.length : Int) = (l5.length : Int))) (
some false) (
ob (α := (Unit) ⊕ (Unit)) (
lpN (L35_1 n l1 l5) n 0) fun r38 => match r38 with
| .inl _ =>
some false
| .inr _ =>
some true)

/-- wardmote/wardmotelaw18.GraphParts -/
def L4_1 (n : Nat) (r571 : Nat) (r572 : Nat) (x563 : Int) (l564 : List (Int × Int)) : Int → Option ((Int) ⊕ ((Unit) ⊕ (Unit))) := fun v574 =>
br (decide (v574 < 2)) (
gd (inB v574 2) (
ob ([r571, r572][v574.toNat]?) fun x761 =>
ob (F14 n x563 l564 x761) fun (r765, r766) =>
ob (F30 n x563 l564 x761) fun (r768, r769) =>
ob (F15 n x563 l564 x761) fun (l771, r774) =>
ob (F31 n x563 l564 x761) fun (l776, r779) =>
ob (F16 n x563 l564 x761) fun (r781, r782) =>
ob (F32 n x563 l564 x761) fun (r784, r785) =>
ob (F17 n x563 l564 x761) fun (l787, r790) =>
ob (F33 n x563 l564 x761) fun (l792, r795) =>
ob (
br (!decide (r765 = r768)) (
some true) (
br (!decide (r766 = r769)) (
some true) (
br (!decide (r774 = r779)) (
some true) (
ob (F34 n l771 l776) fun r812 =>
br (!r812) (
some true) (
br (!(r781 == r784)) (
some true) (
br (!decide (r782 = r785)) (
some true) (
br (!decide (r790 = r795)) (
some true) (
ob (F35 n l787 l792) fun r818 =>
some (!r818))))))))) fun v807 =>
br (v807) (
some (.inr (.inl ()))) (
some (.inl (IntKind.wrap .i64 (v574 + 1)))))) (
some (.inr (.inr ())))
def L4_2 (n : Nat) (r22 : Int) (l23 : List (Int × Int)) (r26 : Int) (l27 : List (Int × Int)) (r30 : Int) (l31 : List (Int × Int)) (x18 : Nat) : Int → Option ((Int) ⊕ ((Unit) ⊕ (Unit))) := fun v298 =>
br (decide (v298 < 3)) (
gd (inB v298 3) (
ob ([(r22, l23), (r26, l27), (r30, l31)][v298.toNat]?) fun (x563, l564) =>
ob (F29 n x563 l564 x18) fun (r571, r572) =>
ob (α := (Unit) ⊕ (Unit)) (
lpN (L4_1 n r571 r572 x563 l564) n 0) fun r823 => match r823 with
| .inl _ =>
some (.inr (.inl ()))
| .inr _ =>
some (.inl (IntKind.wrap .i64 (v298 + 1))))) (
some (.inr (.inr ())))
def F4 (n : Nat) (x1 : Nat) (x2 : Nat) (x3 : Nat) (l4 : List (Nat × Nat)) (x8 : Nat) (x9 : Nat) (x10 : Int) (x11 : Int) (x12 : Int) (x13 : Nat) (x14 : Nat) (x15 : Int) (x16 : Int) (x17 : Int) (x18 : Nat) : Option (Bool) :=
ob (F28 n x1 x2 x3 l4 x8 x9 x10 x11 x12 x13 x14 x15 x16 x17) fun (r22, l23, r26, l27, r30, l31) =>
ob (α := (Unit) ⊕ (Unit)) (
lpN (L4_2 n r22 l23 r26 l27 r30 l31 x18) n 0) fun r825 => match r825 with
| .inl _ =>
some false
| .inr _ =>
ob (F13 n ) fun r827 =>
some r827

/-- wardmote/graph.Same -/
def F27 (n : Nat) (x1 : Int) (l2 : List (Int × Int)) (x6 : Int) (l7 : List (Int × Int)) : Option (Bool) :=
br (decide (x1 = x6)) (
ob (F34 n l2 l7) fun r15 =>
some r15) (
some false)

/-- wardmote/wardmoteref18.Same -/
def L44_1 (n : Nat) (l2 : List (Int × Int)) (l7 : List (Int × Int)) : Int → Option ((Int) ⊕ ((Unit) ⊕ (Unit))) := fun v26 =>
br (decide (v26 < (l2.length : Int))) (
gd (inB v26 l2.length) (
ob (l2[v26.toNat]?) fun (x46, x47) =>
gd (inB v26 l7.length) (
ob (l7[v26.toNat]?) fun (x52, x53) =>
br (!(decide (x46 = x52) && decide (x47 = x53))) (
some (.inr (.inl ()))) (
some (.inl (IntKind.wrap .i64 (v26 + 1))))))) (
some (.inr (.inr ())))
def F44 (n : Nat) (x1 : Int) (l2 : List (Int × Int)) (x6 : Int) (l7 : List (Int × Int)) : Option (Bool) :=
ob (
br (!decide (x1 = x6)) (
some true) (
some (!decide ((l2.length : Int) = (l7.length : Int))))) fun v20 =>
br (v20) (
some false) (
ob (α := (Unit) ⊕ (Unit)) (
lpN (L44_1 n l2 l7) n 0) fun r57 => match r57 with
| .inl _ =>
some false
| .inr _ =>
some true)

/-- wardmote/wardmotelaw18.GraphChecks -/
def L7_1 (n : Nat) (r30 : Int) (l31 : List (Int × Int)) (r34 : Int) (l35 : List (Int × Int)) (r38 : Int) (l39 : List (Int × Int)) (x18 : Int) (l19 : List (Int × Int)) (x137 : Int) (l138 : List (Int × Int)) : Int → Option ((Int) ⊕ ((Unit) ⊕ (Unit))) := fun v150 =>
br (decide (v150 < 4)) (
gd (inB v150 4) (
ob ([(r30, l31), (r34, l35), (r38, l39), (x18, ((l19.drop (0 : Int).toNat).take ((mi (l19.length : Int) (5 : Int) : Int).toNat - (0 : Int).toNat)))][v150.toNat]?) fun (x166, l167) =>
ob (F27 n x137 l138 x166 l167) fun r174 =>
ob (F44 n x137 l138 x166 l167) fun r176 =>
br (!(r174 == r176)) (
some (.inr (.inl ()))) (
some (.inl (IntKind.wrap .i64 (v150 + 1)))))) (
some (.inr (.inr ())))
def L7_2 (n : Nat) (r30 : Int) (l31 : List (Int × Int)) (r34 : Int) (l35 : List (Int × Int)) (r38 : Int) (l39 : List (Int × Int)) (x18 : Int) (l19 : List (Int × Int)) : Int → Option ((Int) ⊕ ((Unit) ⊕ (Unit))) := fun v90 =>
br (decide (v90 < 4)) (
gd (inB v90 4) (
ob ([(r30, l31), (r34, l35), (r38, l39), (x18, ((l19.drop (0 : Int).toNat).take ((mi (l19.length : Int) (5 : Int) : Int).toNat - (0 : Int).toNat)))][v90.toNat]?) fun (x137, l138) =>
ob (F23 n x137 l138) fun r145 =>
ob (F43 n x137 l138) fun r147 =>
br (!decide (r145 = r147)) (
some (.inr (.inl ()))) (
ob (α := (Unit) ⊕ (Unit)) (
lpN (L7_1 n r30 l31 r34 l35 r38 l39 x18 l19 x137 l138) n 0) fun r179 => match r179 with
| .inl _ =>
some (.inr (.inl ()))
| .inr _ =>
some (.inl (IntKind.wrap .i64 (v90 + 1)))))) (
some (.inr (.inr ())))
def F7 (n : Nat) (x1 : Nat) (x2 : Nat) (x3 : Nat) (l4 : List (Nat × Nat)) (x8 : Nat) (x9 : Nat) (x10 : Int) (x11 : Int) (x12 : Int) (x13 : Nat) (x14 : Nat) (x15 : Int) (x16 : Int) (x17 : Int) (x18 : Int) (l19 : List (Int × Int)) : Option (Bool) :=
gd (okB 0 (mi (l19.length : Int) (5 : Int)) l19.length) (
ob (F28 n x1 x2 x3 l4 x8 x9 x10 x11 x12 x13 x14 x15 x16 x17) fun (r30, l31, r34, l35, r38, l39) =>
ob (α := (Unit) ⊕ (Unit)) (
lpN (L7_2 n r30 l31 r34 l35 r38 l39 x18 l19) n 0) fun r181 => match r181 with
| .inl _ =>
some false
| .inr _ =>
ob (F13 n ) fun r183 =>
some r183)

end Go.Proofs.YtpclggcpobakhaaDoor
end

section
/-
  The abstract machine: the hidden cells of an open block may be shown for a call, and hidden again.
-/
namespace Go.Ab
open Go

section
variable {E : Env} {j j2 j3 : Inj} {m m3 : AMem} {w w3 : World}

/-- All cells of an open block, shown. -/
theorem sim_show (h : MR E j m w) {b sz : Nat} {k : Blk} (hk : j b = some k) {cs : List Value} (hg : m.get b = some (.cells cs (.more sz))) (hp : cs.all plain1 = true) :
  ∃ zs : List Value, zs.all plain1 = true ∧ k.more = some (sz, cs.length, cs.length + zs.length) ∧ 0 < sz ∧ Sim E j m w (j.set m.next ⟨k.c, none⟩) ((m.kill b).alloc (.cells (cs ++ zs) .own)) w := by
 obtain ⟨c, e, fz, h1, h2, h3⟩ := h.cellsAt hk hg
 obtain ⟨c4, c5, rfl, c6, c7⟩ : k.more = some (sz, cs.length, c.size) ∧ cs.length ≤ c.size ∧ fz = (0, 0) ∧ 0 < sz ∧ restOk cs.length c := h2
 have hl : (cs ++ c.toList.drop cs.length).length = c.size := by simp; omega
 refine ⟨c.toList.drop cs.length, List.all_eq_true.2 fun v hv => ?_, by rw [c4]; simp; omega, c6, ?_⟩
 ·obtain ⟨i, hi⟩ := List.mem_iff_getElem?.1 hv
  rw [List.getElem?_drop] at hi
  exact c7 (cs.length + i) v (by omega) (by simpa using hi)
 ·have ho : OR j ⟨k.c, none⟩ (.cells (cs ++ c.toList.drop cs.length) .own) (.cells c e (0, 0)) := by
   refine ⟨⟨rfl, hl.symm, rfl⟩, fun i v hi => ?_⟩
   by_cases hlt : i < cs.length
   ·rw [List.getElem?_append_left hlt] at hi
    exact h3 i v hi
   ·rw [List.getElem?_append_right (by omega), List.getElem?_drop] at hi
    have hi' : c[i]? = some v := by rw [show cs.length + (i - cs.length) = i by omega] at hi; simpa using hi
    exact ⟨v, hi', .plain1 (c7 i v (by omega) hi')⟩
  have s := sim_regrow h hk (by rw [hg]; rfl) ho
  rwa [putObj_self h1] at s

/-- A block of just its cells, named anew. -/
theorem sim_show1 (h : MR E j m w) {b : Nat} {k : Blk} (hk : j b = some k) {cs : List Value} (hg : m.get b = some (.cells cs .own)) (hp : cs.all plain1 = true) :
  Sim E j m w (j.set m.next ⟨k.c, none⟩) ((m.kill b).alloc (.cells cs .own)) w := by
 obtain ⟨c, e, fz, h1, h2, h3⟩ := h.cellsAt hk hg
 obtain ⟨c4, c5, rfl⟩ : k.more = none ∧ c.size = cs.length ∧ fz = (0, 0) := h2
 have s := sim_regrow h hk (by rw [hg]; rfl) (mo := none) (show OR j ⟨k.c, none⟩ (.cells cs .own) (.cells c e (0, 0)) from ⟨⟨rfl, c5, rfl⟩, h3⟩)
 rwa [putObj_self h1] at s

/-- What a call made of a block that was shown is kept alone. -/
theorem Sim.hide (h : MR E j m w) {b : Nat} {k : Blk} (hk : j b = some k) (hl : (m.get b).isSome = true) {ao : AObj}
  (s : Sim E (j.set m.next ⟨k.c, none⟩) { (m.kill b).alloc ao with wl := m.next } w j3 m3 w3) (hw : m.next ≤ m3.wl) {b3 : Nat} {k3 k' : Blk} (hb : m.next ≤ b3) (hk3 : j3 b3 = some k3) (hl3 : (m3.get b3).isSome = true) (hc : k'.c = k3.c)
  {no : AObj} (hor : ∀ o', w3.heap[k3.c]? = some o' → OR (j.set m.next k') k' no o') :
  Sim E j m w (j.set m.next k') ((m.kill b).alloc no) w3 := by
 have hn : j m.next = none := h.next_none
 have hbn : b < m.next := (h.lt b k hk).1
 have hle : j.le (j.set m.next k') := Inj.le_set _ hn
 have hget : ∀ x, ((m.kill b).alloc no).get x = if x = m.next then some no else if x = b then none else m.get x := by
  intro x; rw [AMem.get_alloc, AMem.get_kill]; rfl
 have hget2 : ∀ x, ({ (m.kill b).alloc ao with wl := m.next } : AMem).get x = if x = m.next then some ao else if x = b then none else m.get x := by
  intro x
  show ((m.kill b).alloc ao).get x = _
  rw [AMem.get_alloc, AMem.get_kill]; rfl
 have hj2 : ∀ {x kx}, x < m.next → j x = some kx → (j.set m.next ⟨k.c, none⟩) x = some kx := fun hx e => by rw [Inj.set_ne _ _ (by omega)]; exact e
 -- a block of the model that no living block but b stands for lies ars it lay
 have hframe : ∀ c, c < w.heap.size → c ≠ k.c → w3.heap[c]? = w.heap[c]? := fun c hcs hcne => by
  refine s.frame c hcs fun b' k'' e _ ec => ?_
  by_cases hb' : b' = m.next
  ·subst hb'; rw [Inj.set_eq] at e; cases e; exact absurd ec.symm hcne
  ·rw [Inj.set_ne _ _ hb'] at e
   exact Nat.lt_of_lt_of_le (h.lt b' k'' e).1 hw
 have hsame3 : ∀ x, x < m.next → x ≠ b → m3.get x = m.get x := fun x hx hxb => by
  have := s.ext.same x (Nat.lt_succ_of_lt hx) (Nat.lt_of_lt_of_le hx hw)
  rw [this, hget2, if_neg (by omega), if_neg hxb]
 have hk3lt := s.mr.lt b3 k3 hk3
 refine ⟨(AExt.kill m b).trans (AExt.alloc _ no), hle, ?_, ⟨?_, ?_, ?_, fun g hg => hle _ _ (h.glob g hg)⟩, s.size, full_new, ?_, ?_, ?_, s.calm⟩
 ·intro x kx hx hnx
  by_cases e : x = m.next
  ·exact Nat.le_of_eq e.symm
  ·rw [Inj.set_ne _ _ e, hnx] at hx; cases hx
 ·intro x kx hx
  by_cases e : x = m.next
  ·subst e; rw [Inj.set_eq] at hx; cases hx
   exact ⟨Nat.lt_succ_self _, by rw [hc]; exact hk3lt.2⟩
  ·rw [Inj.set_ne _ _ e] at hx
   have := h.lt x kx hx
   exact ⟨Nat.lt_succ_of_lt this.1, Nat.lt_of_lt_of_le this.2 s.size⟩
 ·intro x o kx hg hx
  rw [hget] at hg
  by_cases e : x = m.next
  ·subst e
   rw [Inj.set_eq] at hx; cases hx
   rw [if_pos rfl] at hg; cases hg
   obtain ⟨o3, hg3⟩ := Option.isSome_iff_exists.1 hl3
   obtain ⟨o', h1, _⟩ := s.mr.obj b3 o3 k3 hg3 hk3
   exact ⟨o', by rw [hc]; exact h1, hor o' h1⟩
  ·rw [Inj.set_ne _ _ e] at hx
   rw [if_neg e] at hg
   split at hg
   ·cases hg
   ·rename_i hxb
    obtain ⟨o', h1, h2⟩ := h.obj x o kx hg hx
    refine ⟨o', ?_, h2.mono hle⟩
    rw [hframe kx.c (h.lt x kx hx).2 fun hcc => hxb (h.inj x b kx k hx hk (by rw [hg]; rfl) hl hcc)]
    exact h1
 ·have old : ∀ {x kx}, j x = some kx → (m.get x).isSome = true → x ≠ b → kx.c ≠ k'.c := fun {x kx} e hlx hxb hcc => by
   have hlt := (h.lt x kx e).1
   have := s.mr.inj x b3 kx k3 (s.le x kx (hj2 hlt e)) hk3 (by rw [hsame3 x hlt hxb]; exact hlx) hl3 (by rw [hcc, hc])
   omega
  intro x x' k1 k2 hx hx' hl1 hl2 hcc
  rw [hget] at hl1 hl2
  by_cases e : x = m.next <;> by_cases e' : x' = m.next
  ·rw [e, e']
  ·subst e
   rw [Inj.set_eq] at hx; cases hx
   rw [Inj.set_ne _ _ e'] at hx'
   rw [if_neg e'] at hl2
   split at hl2
   ·cases hl2
   ·rename_i hxb
    exact absurd hcc.symm (old hx' hl2 hxb)
  ·subst e'
   rw [Inj.set_eq] at hx'; cases hx'
   rw [Inj.set_ne _ _ e] at hx
   rw [if_neg e] at hl1
   split at hl1
   ·cases hl1
   ·rename_i hxb
    exact absurd hcc (old hx hl1 hxb)
  ·rw [Inj.set_ne _ _ e] at hx
   rw [Inj.set_ne _ _ e'] at hx'
   rw [if_neg e] at hl1
   rw [if_neg e'] at hl2
   split at hl1
   ·cases hl1
   ·split at hl2
    ·cases hl2
    ·exact h.inj x x' k1 k2 hx hx' hl1 hl2 hcc
 ·intro x hx hnx
  rw [hget, if_neg (by omega), if_neg]
  intro e; subst e; rw [hk] at hnx; cases hnx
 ·intro x kx hx hnx
  by_cases e : x = m.next
  ·subst e; rw [Inj.set_eq] at hx; cases hx
   have hwl : ((m.kill b).alloc no).wl ≤ b := Nat.min_le_right _ _
   by_cases hb3 : b3 = m.next
   ·subst hb3
    have := s.le m.next _ (Inj.set_eq _ _ _)
    rw [hk3] at this; cases this
    exact .inr ⟨b, k, hk, hl, by rw [hc], hwl⟩
   ·rcases s.fresh b3 k3 hk3 (by
     rw [Inj.set_ne _ _ hb3]
     cases e : j b3 with
     | none => rfl
     | some k => have := (h.lt b3 k e).1; omega) with hf | ⟨b0, k0, a1, _, a3, a4⟩
    ·exact .inl (by rw [hc]; exact hf)
    ·by_cases hb0 : b0 = m.next
     ·subst hb0; rw [Inj.set_eq] at a1; cases a1
      exact .inr ⟨b, k, hk, hl, by rw [hc]; exact a3, hwl⟩
     ·rw [Inj.set_ne _ _ hb0] at a1
      have := (h.lt b0 k0 a1).1
      omega
  ·rw [Inj.set_ne _ _ e, hnx] at hx; cases hx
 ·intro c hcs hall
  refine hframe c hcs fun e => ?_
  have := hall b k hk hl e.symm
  have hwl : ((m.kill b).alloc no).wl ≤ b := Nat.min_le_right _ _
  omega
/-- What a contract promises of a call that uses up an open block (its first argument): with all cells of the block shown, whatever they are. -/
def MeetsS (E : Env) (f : FuncId) (m : AMem) (b sz n : Nat) (cs : List Value) (rest : List Value) (n3 : Nat) (new : List Value) : Prop :=
 ∀ (zs : List Value) (c : Nat), zs.all plain1 = true → n ≤ c → c * sz = cs.length + zs.length →
  CallA E f (.slice (some ⟨m.next, 0, none⟩) n c :: rest) { (m.kill b).alloc (.cells (cs ++ zs) .own) with wl := m.next } fun v m3 =>
   m.next ≤ m3.wl ∧ ∃ b3 c3 all tag, v = .slice (some ⟨b3, 0, none⟩) n3 c3 ∧ m.next ≤ b3 ∧ m3.get b3 = some (.cells (new ++ all) tag) ∧ all.all plain1 = true ∧ n3 ≤ c3 ∧
    ((tag = .own ∧ c3 * sz = new.length + all.length) ∨ (tag = .more sz ∧ all = [] ∧ c3 = n3))

theorem callOk_show (hE : EnvOk E) {f : FuncId} {b sz n n3 : Nat} {cs rest new : List Value} {tg : Tag} (hg : m.get b = some (.cells cs tg)) (htg : tg = .own ∨ tg = .more sz) (hsz : 0 < sz) (hcl : cs.length = n * sz) (hp : cs.all plain1 = true) (hn : new.length = n3 * sz) (hpn : new.all plain1 = true)
  (hM : MeetsS E f m b sz n cs rest n3 new) {args' : List Value} (h : MR E j m w) (hl : LR j (.slice (some ⟨b, 0, none⟩) n n :: rest) args') :
  CallOk E.P (E.prim f).isSome f args'.toArray w (ValQ E j m w (.slice (some ⟨m.next, 0, none⟩) n3 n3) ((m.kill b).alloc (.cells new (.more sz)))) := by
 obtain ⟨v1, vs, rfl, hv1, hvs⟩ := hl.cons_inv
 -- what is shown, at what capacity
 obtain ⟨k, cap', zs, hj, rfl, hz, hcc, hce, s1⟩ : ∃ (k : Blk) (cap' : Nat) (zs : List Value), j b = some k ∧ v1 = .slice (some ⟨k.c, 0, none⟩) n cap' ∧ zs.all plain1 = true ∧ n ≤ cap' ∧ cap' * sz = cs.length + zs.length ∧
   Sim E j m w (j.set m.next ⟨k.c, none⟩) ((m.kill b).alloc (.cells (cs ++ zs) .own)) w := by
  cases hv1 with
  | slice hj hm =>
   rename_i k
   rcases htg with rfl | rfl
   ·exact ⟨k, n, [], hj, rfl, rfl, Nat.le_refl _, by simp [hcl], by rw [List.append_nil]; exact sim_show1 h hj hg hp⟩
   ·obtain ⟨zs, _, h2, _⟩ := sim_show h hj hg hp
    rw [hm] at h2; cases h2
  | sliceM hj hm e1 e2 hlc hcc =>
   rename_i cap' sz' na nc k
   rcases htg with rfl | rfl
   ·have h2 := h.kindOf hj hg
    simp only at h2
    rw [hm] at h2; cases h2
   ·obtain ⟨zs, hz, hmm, _, s1⟩ := sim_show h hj hg hp
    rw [hm] at hmm
    simp only [Option.some.injEq, Prod.mk.injEq] at hmm
    obtain ⟨rfl, rfl, rfl⟩ := hmm
    exact ⟨k, cap', zs, hj, rfl, hz, hcc, by omega, s1⟩
 obtain ⟨v3, m3, ⟨fu, hr⟩, hw, b3, c3, all, tag, rfl, hb3, hg3, hall, hnc, htag⟩ := hM zs cap' hz hcc hce
 obtain ⟨_, _, e, hs⟩ := sim_run hE fu _ _ hr
 cases e
 have hl2 : LR (j.set m.next ⟨k.c, none⟩) (.slice (some ⟨m.next, 0, none⟩) n cap' :: rest) (.slice (some ⟨k.c, 0, none⟩) n cap' :: vs) :=
  .cons (VR.slice (k := ⟨k.c, none⟩) (Inj.set_eq _ _ _) rfl) (hvs.mono s1.le)
 refine callOk_mono (fun hh => hh) (hs _ w _ (s1.mr.of_wl (x := m.next)) hl2) ?_
 intro v' w' ⟨j', s2, hv⟩
 have key : ∀ {k3 : Blk} {cap3 : Nat}, j' b3 = some k3 → (cap3 * sz = new.length + all.length ∧ tag = .own ∨ (∃ nc3, k3.more = some (sz, new.length, nc3) ∧ cap3 * sz = nc3) ∧ tag = .more sz ∧ all = []) → n3 ≤ cap3 →
   ValQ E j m w (.slice (some ⟨m.next, 0, none⟩) n3 n3) ((m.kill b).alloc (.cells new (.more sz))) (.slice (some ⟨k3.c, 0, none⟩) n3 cap3) w' := by
  intro k3 cap3 hk3 hca hle3
  have hk' : j'.le j' := .refl _
  obtain ⟨o3, ho3, hor3⟩ := s2.mr.obj b3 _ k3 hg3 hk3
  cases o3 with
  | cells c3' e3 fz3 =>
   have hsame : ∀ {o'}, w'.heap[k3.c]? = some o' → o' = .cells c3' e3 fz3 := fun e => by rw [ho3] at e; cases e; rfl
   have hsize : cap3 * sz = c3'.size ∧ fz3 = (0, 0) ∧ restOk new.length c3' := by
    rcases hca with ⟨h1, rfl⟩ | ⟨⟨nc3, h1, h2⟩, rfl, rfl⟩
    ·have ht : k3.more = none ∧ c3'.size = (new ++ all).length ∧ fz3 = (0, 0) := hor3.1
     refine ⟨by rw [h1, ht.2.1, List.length_append], ht.2.2, fun i v hi hv => ?_⟩
     have hlt : i < (new ++ all).length := by rw [← ht.2.1]; exact (Array.getElem?_eq_some_iff.1 hv).1
     obtain ⟨v', h3, h4⟩ := hor3.2 i (new ++ all)[i] (List.getElem?_eq_getElem hlt)
     have hpv : plain1 (new ++ all)[i] = true := by
      have : (new ++ all).all plain1 = true := by rw [List.all_append, hpn, hall]; rfl
      exact List.all_eq_true.1 this _ (List.getElem_mem hlt)
     have := plain1_eq hpv h4
     rw [hv] at h3; cases h3
     rw [this]; exact hpv
    ·have ht : k3.more = some (sz, (new ++ []).length, c3'.size) ∧ (new ++ []).length ≤ c3'.size ∧ fz3 = (0, 0) ∧ 0 < sz ∧ restOk (new ++ []).length c3' := hor3.1
     rw [List.append_nil] at ht
     rw [h1] at ht
     have := ht.1
     simp only [Option.some.injEq, Prod.mk.injEq, true_and] at this
     exact ⟨by omega, ht.2.2.1, ht.2.2.2.2⟩
   have hles : new.length ≤ c3'.size := by
    rw [← hsize.1, hn]; exact Nat.mul_le_mul_right _ hle3
   refine ⟨_, Sim.hide h hj (by rw [hg]; rfl) s2 hw hb3 hk3 (by rw [hg3]; rfl) (k' := ⟨k3.c, some (sz, n3 * sz, cap3 * sz)⟩) rfl (no := .cells new (.more sz)) ?_,
    VR.sliceM (k := ⟨k3.c, some (sz, n3 * sz, cap3 * sz)⟩) (Inj.set_eq _ _ _) rfl rfl rfl (Nat.le_refl _) hle3⟩
   intro o' ho'
   rw [hsame ho', hsize.2.1]
   refine ⟨⟨by rw [hn, hsize.1], hles, rfl, hsz, hsize.2.2⟩, fun i v hi => ?_⟩
   obtain ⟨v', h3, h4⟩ := hor3.2 i v (by rw [List.getElem?_append_left (List.getElem?_eq_some_iff.1 hi).1]; exact hi)
   have hpv := List.all_eq_true.1 hpn v (List.mem_of_getElem? hi)
   have := plain1_eq hpv h4
   subst this
   exact ⟨_, h3, .plain1 hpv⟩
  | _ => exact hor3.elim
 cases hv with
 | slice hj3 hm3 =>
  rename_i k3
  rcases htag with ⟨rfl, h1⟩ | ⟨rfl, _, _⟩
  ·exact key hj3 (.inl ⟨h1, rfl⟩) hnc
  ·have h2 := s2.mr.kindOf hj3 hg3
   simp only at h2
   obtain ⟨_, h2, _⟩ := h2
   rw [hm3] at h2; cases h2
 | sliceM hj3 hm3 f1 f2 hl3 hc3 =>
  rcases htag with ⟨rfl, h1⟩ | ⟨rfl, rfl, rfl⟩
  ·have := s2.mr.kindOf hj3 hg3
   simp only at this
   rw [hm3] at this; cases this
  ·have h2 := s2.mr.kindOf hj3 hg3
   simp only at h2
   obtain ⟨_, h2, _⟩ := h2
   rw [hm3] at h2
   simp only [Option.some.injEq, Prod.mk.injEq] at h2
   obtain ⟨rfl, h2, rfl⟩ := h2
   rw [List.append_nil] at h2
   exact key hj3 (.inr ⟨⟨_, by rw [hm3, h2], by omega⟩, rfl, rfl⟩) (by omega)
end
end Go.Ab
end

section
/-
  The abstract machine: slices.overlaps at two blocks.
-/
namespace Go.Ab
open Go

section
variable {E : Env} {j : Inj} {m : AMem} {w : World}

/-- Where a slice that has a block lies. -/
theorem VR.at {b o l c : Nat} {v' : Value} (h : VR j (.slice (some ⟨b, o, none⟩) l c) v') : ∃ k c', j b = some k ∧ v' = .slice (some ⟨k.c, o, none⟩) l c' := by
 cases h with
 | slice hj hm => exact ⟨_, _, hj, rfl⟩
 | sliceM hj hm _ _ _ _ => exact ⟨_, _, hj, rfl⟩

theorem MR.warm (h : MR E j m w) {b : Nat} {k : Blk} (hk : j b = some k) {cs : List Value} {tag : Tag} (hg : m.get b = some (.cells cs tag)) (ht : tag ≠ .ro) :
  ∃ c e, w.heap[k.c]? = some (.cells c e (0, 0)) ∧ cs.length ≤ c.size := by
 obtain ⟨c, e, fz, h1, h2, _⟩ := h.cellsAt hk hg
 cases tag with
 | ro => exact absurd rfl ht
 | own =>
  obtain ⟨_, h4, rfl⟩ : k.more = none ∧ c.size = cs.length ∧ fz = (0, 0) := h2
  exact ⟨c, e, h1, by omega⟩
 | more sz =>
  obtain ⟨_, h4, rfl, _⟩ : k.more = some (sz, cs.length, c.size) ∧ cs.length ≤ c.size ∧ fz = (0, 0) ∧ 0 < sz ∧ restOk cs.length c := h2
  exact ⟨c, e, h1, h4⟩

theorem callOk_apart {f : FuncId} {fn : Func} {tS tR e : TypeId} (hf : E.P.funcs[f]? = some fn) (hname : (fn.name == "runtime.NumGoroutine") = false) (hb : fn.body.isNone = true) (hn : Extern.findNext fn = none)
  (he : Extern.find fn = some (Extern.SlicesOverlaps.overlaps #[tS, tS] #[tR])) (hu : E.P.underlying tS = some (.slice e)) (hk : known E.P e = true) (hpr : (E.prim f).isSome = true)
  {ba oa la ca bb ob lb cb : Nat} {csa csb : List Value} {ta tb : Tag} (hga : m.get ba = some (.cells csa ta)) (hta : ta ≠ .ro) (hgb : m.get bb = some (.cells csb tb)) (htb : tb ≠ .ro) (hne : ba ≠ bb) (h0 : csb ≠ [])
  {args' : List Value} (h : MR E j m w) (hl : LR j [.slice (some ⟨ba, oa, none⟩) la ca, .slice (some ⟨bb, ob, none⟩) lb cb] args') :
  CallOk E.P (E.prim f).isSome f args'.toArray w (ValQ E j m w (.bool false) m) := by
 obtain ⟨v1, vs, rfl, hv1, hvs⟩ := hl.cons_inv
 obtain ⟨v2, vs2, rfl, hv2, hvs2⟩ := hvs.cons_inv
 obtain rfl := hvs2.nil_inv
 obtain ⟨ka, ca', hja, rfl⟩ := hv1.at
 obtain ⟨kb, cb', hjb, rfl⟩ := hv2.at
 obtain ⟨c1, e1, g1, _⟩ := h.warm hja hga hta
 obtain ⟨c2, e2, g2, s2⟩ := h.warm hjb hgb htb
 have hcne : ka.c ≠ kb.c := fun e => hne (h.inj ba bb ka kb hja hjb (by rw [hga]; rfl) (by rw [hgb]; rfl) e)
 have hpos : 0 < csb.length := List.length_pos_iff.2 h0
 have hrun := Lib.run_overlaps_apart (P := E.P) w tS tR e hu (sizeA E.P e) (fun w => r_size hk w) ⟨ka.c, oa, none⟩ ⟨kb.c, ob, none⟩ la ca' lb cb' hcne e1 e2 c1.size c2.size
  (by simp only [World.shape?, g1]) (by simp only [World.shape?, g2]) (by omega) (by simp only [World.frozen?, g1]; simp) (by simp only [World.frozen?, g1]; simp)
 refine .inr ⟨hpr, .bool false, w, ?_, j, .refl h, .bool false⟩
 rw [run_callFunc_extern hf hname hb hn he]
 show ((Extern.SlicesOverlaps.overlaps #[tS, tS] #[tR] #[.slice (some ⟨ka.c, oa, none⟩) la ca', .slice (some ⟨kb.c, ob, none⟩) lb cb']).run E.P w).andThen _ = _
 rw [hrun]
 rfl
end
end Go.Ab
end

section
/-
  Walks over symbolic states: slices of a block whose cells are all known (capacity behind the length): cap, three bounds, copy, clear, append within the capacity.
-/
namespace Go.Ab.W
open Go Go.Ab
set_option maxRecDepth 10000
attribute [local irreducible] Tm.at Trie.set Trie.get AMem.get AMem.set AMem.alloc AMem.ww

theorem pset_self (ps : List Pc) : ∀ (k : Nat) (p : Pc), pk ps k = some p → pset ps k p = ps := by
 induction ps with
 | nil => intro k p h; exact nomatch h
 | cons q l ih =>
  intro k p h
  cases k with
  | zero => rw [pk_zero] at h; cases h; rfl
  | succ k => rw [pk_succ] at h; simp only [pset, ih k p h]
section
variable {E : Env} {n : Nat} {m0 : AMem} {fs : Fs} {ps : List Pc} {x y z : Operand} {v : Value} {ty ty2 : TypeId}

theorem o_slo {elem lo hi mx b o len cap w k : Nat} {cs : List Value} {tg : Tag} {lx hx kx : Option Operand} {l h q : Option Value} (ht : SlT E.P ty elem w) (hv : ev E fs x = some (.slice (some ⟨b, o, none⟩) len cap)) (e1 : evo E fs lx = some l) (e2 : evo E fs hx = some h) (e3 : evo E fs kx = some q)
  (hp : pk ps k = some (.obj b (.cells cs tg))) (htg : notMore tg = true) (hb : boundsA len cap l h q = some (lo, hi, mx)) {o' : Nat} (ho : o' = if mx = lo then o else o + lo * w) :
  Od E m0 fs ps (.slice ty x lx hx kx) (.slice (some ⟨b, o', none⟩) (hi - lo) (mx - lo)) ps :=
 fun t m hf hm => ⟨fun b' hb' => by
  have : blockOf (.slice (some ⟨b, o, none⟩) len cap) = some b := rfl
  simp only [readsAt, hf.ev hv, Option.bind_some, this] at hb'
  cases hb'; exact (hm.get hp).2.1, fun K hK => by
  have hg := (hm.get hp).2.2
  have hs : sliceA E.P ty (.slice (some ⟨b, o, none⟩) len cap) l h q m = some (.slice (some ⟨b, o', none⟩) (hi - lo) (mx - lo)) := by
   subst ho
   cases tg with
   | more s => cases htg
   | ro => simp only [sliceA, ht.und, ht.known, if_true, hg, hb, ht.size]; split <;> rfl
   | own => simp only [sliceA, ht.und, ht.known, if_true, hg, hb, ht.size]; split <;> rfl
  rw [Go.Ab.o_slice (hf.ev hv) (hf.evo e1) (hf.evo e2) (hf.evo e3) hs]; exact hK m hm⟩

theorem o_cap {elem b o len cap k : Nat} {cs : List Value} {tg : Tag} {ars : Array Operand} (hu : E.P.underlying ty = some (.slice elem)) (ha : evs E fs ars.toList = some [.slice (some ⟨b, o, none⟩) len cap]) (hp : pk ps k = some (.obj b (.cells cs tg))) (htg : notMore tg = true) :
  Od E m0 fs ps (.call ⟨.builtin .cap, ars, #[ty]⟩) (.int .i64 (cap : Int)) ps :=
 fun t m hf hm => ⟨fun b' hb' => by
  simp only [readsAt, hf.evs ha] at hb'
  have : blockOf (.slice (some ⟨b, o, none⟩) len cap) = some b := rfl
  rw [this] at hb'
  cases hb'; exact (hm.get hp).2.1, fun K hK => by
  have hg := (hm.get hp).2.2
  have : builtinA E.P .cap #[ty] [.slice (some ⟨b, o, none⟩) len cap] m = some (.int .i64 (cap : Int), m) := by
   have ht : (#[ty] : Array TypeId)[0]? = some ty := rfl
   cases tg with
   | more s => cases htg
   | ro => simp only [builtinA, ht, Option.bind_some, hu, hg]
   | own => simp only [builtinA, ht, Option.bind_some, hu, hg]
  rw [Go.Ab.o_builtin (hf.evs ha) this]; exact hK m hm⟩

/-- A copy into a block whose cells are all known; what is copied is known too. -/
theorem o_cpo {elem w b o dl dc l c k : Nat} {a : Option Addr} {cs new : List Value} {tg : Tag} {ars : Array Operand} (ht : SlT E.P ty elem w) (ha : evs E fs ars.toList = some [.slice (some ⟨b, o, none⟩) dl dc, .slice a l c]) (hp : pk ps k = some (.obj b (.cells cs tg))) (htg : notRo tg = true)
  (hn : min l dl ≠ 0) (hs : ∀ m, Hp m0 m ps → srcCells w (.slice a l c) (min l dl) m = some new) (ho : oneCellAll new = true) (hl : o + new.length ≤ cs.length) (h0 : new ≠ []) :
  Od E m0 fs ps (.call ⟨.builtin .copy, ars, #[ty, ty2]⟩) (.int .i64 ((min l dl : Nat) : Int)) (pset ps k (.obj b (.cells (spliceL cs o new) tg))) :=
 fun t m hf hm => ⟨fun b' hb' => by simp [readsAt] at hb', fun K hK => by
  have hg := (hm.get hp).2.2
  have hst : m.storeN b o new = some (m.set b (.cells (spliceL cs o new) tg)) := by
   cases new with
   | nil => exact absurd rfl h0
   | cons a' new =>
    cases tg with
    | ro => cases htg
    | own => simp only [AMem.storeN, hg, if_pos hl]
    | more s => simp only [AMem.storeN, hg, if_pos hl]
  obtain ⟨q, hq⟩ := Nat.exists_eq_succ_of_ne_zero hn
  have : builtinA E.P .copy #[ty, ty2] [.slice (some ⟨b, o, none⟩) dl dc, .slice a l c] m = some (.int .i64 ((min l dl : Nat) : Int), m.set b (.cells (spliceL cs o new) tg)) := by
   have hty : (#[ty, ty2] : Array TypeId)[0]? = some ty := rfl
   have hsm := hs m hm
   simp only [builtinA, hty, copyA, ht.und, ht.known, Bool.not_true, Bool.false_eq_true, if_false, ht.size, hsm, ho]
   rw [hq]
   simp only [hst, Option.map_some]
  rw [Go.Ab.o_builtin (hf.evs ha) this]
  exact hK _ (hm.write hp rfl rfl rfl rfl ⟨(hm.get hp).1, by rw [AMem.next_set]; exact (hm.get hp).2.1, by rw [AMem.get_set, if_pos rfl]⟩)⟩

/-- The cells of a slice of a block that is known. -/
theorem src_obj {m : AMem} {b o l c w q k : Nat} {cs : List Value} {tg : Tag} (hm : Hp m0 m ps) (hp : pk ps k = some (.obj b (.cells cs tg))) (h0 : q ≠ 0) (hl : o + q * w ≤ cs.length) : srcCells w (.slice (some ⟨b, o, none⟩) l c) q m = some ((cs.drop o).take (q * w)) := by
 have hg := (hm.get hp).2.2
 have h1 : ((cs.drop o).take (q * w)).length = q * w := by simp; omega
 simp only [srcCells, if_neg h0, AMem.loadN, hg, if_pos h1]
/-- Cells are cleared. -/
theorem o_clo {elem w b o l c k : Nat} {cs zs : List Value} {tg : Tag} {ars : Array Operand} (ht : SlT E.P ty elem w) (ha : evs E fs ars.toList = some [.slice (some ⟨b, o, none⟩) l c]) (hp : pk ps k = some (.obj b (.cells cs tg))) (htg : notRo tg = true)
  (h0 : l ≠ 0) (hz : zerosA E.P elem l = some zs) (hzp : zs.all plain1 = true) (hne : zs ≠ []) (hl : o + zs.length ≤ cs.length) :
  Od E m0 fs ps (.call ⟨.builtin .clear, ars, #[ty]⟩) undef (pset ps k (.obj b (.cells (spliceL cs o zs) tg))) :=
 fun t m hf hm => ⟨fun b' hb' => by simp [readsAt] at hb', fun K hK => by
  have hg := (hm.get hp).2.2
  have hst : m.storeN b o zs = some (m.set b (.cells (spliceL cs o zs) tg)) := by
   cases zs with
   | nil => exact absurd rfl hne
   | cons a' new =>
    cases tg with
    | ro => cases htg
    | own => simp only [AMem.storeN, hg, if_pos hl]
    | more s => simp only [AMem.storeN, hg, if_pos hl]
  obtain ⟨q, rfl⟩ := Nat.exists_eq_succ_of_ne_zero h0
  have : builtinA E.P .clear #[ty] [.slice (some ⟨b, o, none⟩) (q + 1) c] m = some (undef, m.set b (.cells (spliceL cs o zs) tg)) := by
   have hty : (#[ty] : Array TypeId)[0]? = some ty := rfl
   simp only [builtinA, hty, clearA, ht.und, hz, hzp, if_true, hst, Option.map_some]
   rfl
  rw [Go.Ab.o_builtin (hf.evs ha) this]
  exact hK _ (hm.write hp rfl rfl rfl rfl ⟨(hm.get hp).1, by rw [AMem.next_set]; exact (hm.get hp).2.1, by rw [AMem.get_set, if_pos rfl]⟩)⟩

/-- append within the capacity. -/
theorem o_api {elem w b o len cap l2 c2 k : Nat} {a2 : Option Addr} {cs new : List Value} {ars : Array Operand} (ht : SlT E.P ty elem w) (ht2 : ∃ e2, E.P.underlying ty2 = some (.slice e2)) (ha : evs E fs ars.toList = some [.slice (some ⟨b, o, none⟩) len cap, .slice a2 l2 c2]) (hp : pk ps k = some (.obj b (.cells cs .own)))
  (hs : ∀ m, Hp m0 m ps → srcCells w (.slice a2 l2 c2) l2 m = some new) (hnl : new.length = l2 * w) (ho : oneCellAll new = true) (hlim : lim (len + l2) = true) (hfit : len + l2 ≤ cap) (hl : o + len * w + new.length ≤ cs.length) :
  Od E m0 fs ps (.call ⟨.builtin .append, ars, #[ty, ty2]⟩) (.slice (some ⟨b, o, none⟩) (len + l2) cap) (pset ps k (.obj b (.cells (spliceL cs (o + len * w) new) .own))) :=
 fun t m hf hm => ⟨fun b' hb' => by simp [readsAt] at hb', fun K hK => by
  have hg := (hm.get hp).2.2
  obtain ⟨e2, ht2⟩ := ht2
  obtain ⟨inf, hi1, hi2, hi3⟩ := ht.bytes
  have hlim' : len + l2 ≤ 1073741824 := Nat.le_of_ble_eq_true hlim
  have hfc : fitsCap inf.bytes (len + l2) = true := by
   simp only [fitsCap, decide_eq_true_eq]
   calc (2 * (len + l2) + 2000) * inf.bytes ≤ (2 * 1073741824 + 2000) * 1024 := Nat.mul_le_mul (by omega) hi3
    _ ≤ 2 ^ 48 := by decide
  have hguard : (!(known E.P elem) || sizeA E.P elem == 0 || !oneCellAll new || !(E.P.info? elem).any (fun i => fitsCap i.bytes (len + l2) && i.bytes != 0) || new.length != l2 * sizeA E.P elem || !(zeroA E.P elem).any (fun z => z.cells.size == sizeA E.P elem && z.cells.toList.all plain1)) = false := by
   have hz := ht.zero
   have hp := ht.pos
   rw [ht.size]
   simp only [ht.known, ho, hi1, Option.any_some, hfc, hz, hnl]
   simp [hi2]; omega
  have hnc : newCells E.P elem (some ty2) (.slice a2 l2 c2) m = some (l2, new) := by
   simp only [newCells, Option.bind_some, ht2, ht.size, hs m hm, Option.map_some]
  by_cases hnil : new = []
  ·subst hnil
   have hsp : spliceL cs (o + len * w) [] = cs := by
    apply List.ext_getElem?
    intro i
    rw [getElem?_spliceL, if_neg (by simp; omega)]
   have : builtinA E.P .append #[ty, ty2] [.slice (some ⟨b, o, none⟩) len cap, .slice a2 l2 c2] m = some (.slice (some ⟨b, o, none⟩) (len + l2) cap, m) := by
    show appendA E.P ty (some ty2) _ _ m = _
    unfold appendA
    simp only [ht.und, hnc, hguard, Bool.false_eq_true, if_false, hg, if_pos hfit, AMem.storeN, Option.map_some]
   rw [Go.Ab.o_builtin (hf.evs ha) this]
   refine hK _ ?_
   rw [hsp]
   have e : pset ps k (.obj b (.cells cs .own)) = ps := pset_self _ _ _ hp
   rw [e]; exact hm
  ·have hst : m.storeN b (o + len * w) new = some (m.set b (.cells (spliceL cs (o + len * w) new) .own)) := by
    cases new with
    | nil => exact absurd rfl hnil
    | cons a' new => simp only [AMem.storeN, hg, if_pos hl]
   have hst2 : m.storeN b (o + len * sizeA E.P elem) new = some (m.set b (.cells (spliceL cs (o + len * w) new) .own)) := by rw [ht.size]; exact hst
   have : builtinA E.P .append #[ty, ty2] [.slice (some ⟨b, o, none⟩) len cap, .slice a2 l2 c2] m = some (.slice (some ⟨b, o, none⟩) (len + l2) cap, m.set b (.cells (spliceL cs (o + len * w) new) .own)) := by
    show appendA E.P ty (some ty2) _ _ m = _
    unfold appendA
    simp only [ht.und, hnc, hguard, Bool.false_eq_true, if_false, hg, if_pos hfit, hst2, Option.map_some]
   rw [Go.Ab.o_builtin (hf.evs ha) this]
   exact hK _ (hm.write hp rfl rfl rfl rfl ⟨(hm.get hp).1, by rw [AMem.next_set]; exact (hm.get hp).2.1, by rw [AMem.get_set, if_pos rfl]⟩)⟩
/-- append beyond the capacity of a block of just its cells. -/
theorem o_apg {elem w b o len cap l2 k : Nat} {xv : Value} {cs new : List Value} {ars : Array Operand} (ht : SlT E.P ty elem w) (ha : evs E fs ars.toList = some [.slice (some ⟨b, o, none⟩) len cap, xv]) (hp : pk ps k = some (.obj b (.cells cs .own)))
  (hnc : ∀ m, Hp m0 m ps → newCells E.P elem (some ty2) xv m = some (l2, new)) (hnl : new.length = l2 * w) (ho : oneCellAll new = true) (hlim : lim (len + l2) = true) (hfit : ¬ len + l2 ≤ cap) (hl : o + len * w ≤ cs.length) :
  Ox E m0 fs ps (.call ⟨.builtin .append, ars, #[ty, ty2]⟩) (fun b' => .slice (some ⟨b', 0, none⟩) (len + l2) (len + l2)) (fun b' => .obj b' (.cells ((cs.drop o).take (len * w) ++ new) (.more w)) :: ps) :=
 fun t m hf hm => ⟨fun b' hb' => by simp [readsAt] at hb', fun K hK => by
  have hg := (hm.get hp).2.2
  obtain ⟨inf, hi1, hi2, hi3⟩ := ht.bytes
  have hlim' : len + l2 ≤ 1073741824 := Nat.le_of_ble_eq_true hlim
  have hfc : fitsCap inf.bytes (len + l2) = true := by
   simp only [fitsCap, decide_eq_true_eq]
   calc (2 * (len + l2) + 2000) * inf.bytes ≤ (2 * 1073741824 + 2000) * 1024 := Nat.mul_le_mul (by omega) hi3
    _ ≤ 2 ^ 48 := by decide
  have hguard : (!(known E.P elem) || sizeA E.P elem == 0 || !oneCellAll new || !(E.P.info? elem).any (fun i => fitsCap i.bytes (len + l2) && i.bytes != 0) || new.length != l2 * sizeA E.P elem || !(zeroA E.P elem).any (fun z => z.cells.size == sizeA E.P elem && z.cells.toList.all plain1)) = false := by
   have hz := ht.zero
   have hp := ht.pos
   rw [ht.size]
   simp only [ht.known, ho, hi1, Option.any_some, hfc, hz, hnl]
   simp [hi2]; omega
  have hld : m.loadN b o (len * sizeA E.P elem) = some ((cs.drop o).take (len * w)) := by
   rw [ht.size]
   simp only [AMem.loadN, hg]
   rw [if_pos (by simp; omega)]
  have : builtinA E.P .append #[ty, ty2] [.slice (some ⟨b, o, none⟩) len cap, xv] m = some (.slice (some ⟨m.next, 0, none⟩) (len + l2) (len + l2), m.alloc (.cells ((cs.drop o).take (len * w) ++ new) (.more (sizeA E.P elem)))) := by
   show appendA E.P ty (some ty2) _ _ m = _
   unfold appendA
   simp only [ht.und, hnc m hm, hguard, Bool.false_eq_true, if_false, hg, if_neg hfit, hld]
  rw [Go.Ab.o_builtin (hf.evs ha) this, ht.size]
  refine hK m.next _ (hm.cons (by rw [AMem.next_alloc]; omega) (hm.ext.alloc _) (fun b hlt => by rw [AMem.get_alloc, if_neg (by omega)]) ⟨hm.ext.next, by rw [AMem.next_alloc]; omega, by rw [AMem.get_alloc, if_pos rfl]⟩ fun b' h' => ?_)
  cases h'; exact Nat.le_refl _⟩
end
end Go.Ab.W
end

section
/-
  Chapter 18: rows of closed laws, out of a run of the interpreter.
-/
namespace Go.Proofs.YtpclggcpobakhaaDoor
open Go.ChangeShapes Go.WideShapes Go.ChangeAt Go.WideMaps Go.WideElems Go.RowKit Go.Ab

theorem own18 : ownKnob Tryd.prog.godebug = none := by kernel_rfl
theorem gTab : Tryd.prog.globalNamed "math/bits.deBruijn64tab" = some 0 := by kernel_rfl

def tabInts : List Int := [0, 1, 56, 2, 57, 49, 28, 3, 61, 58, 42, 50, 38, 29, 17, 4, 62, 47, 59, 36, 45, 43, 51, 22, 53, 39, 33, 30, 24, 18, 12, 5, 63, 55, 48, 27, 60, 41, 37, 16, 46, 35, 44, 21, 52, 32, 23, 11, 54, 26, 40, 15, 34, 20, 31, 10, 25, 14, 19, 9, 13, 8, 7, 6]
abbrev laid18 : List (String × DataW Unit) := [("math/bits.deBruijn64tab", Rows.laid_math_bits_deBruijn64tab)]
def tab18 : Nat → Option (List Value) := fun b => if b = 0 then some (tabInts.map (.int .u8)) else none
def m18 : AMem := memG 1 tab18
noncomputable def E18 : Env := { P := Tryd.prog, glob := 1, prim := fun _ => none }

theorem progOk18 : progOk Tryd.prog = true := by kernel_rfl
theorem E18ok : EnvOk E18 := envOk_of progOk18 (fun f p h => by cases h)

theorem of_laid18 {W : World} (h : laidMetH Tryd.prog laid18 W) : MR E18 (injG 1) m18 W := by
 rw [MakeChecks.laidMetH_plain _ _ _ (by kernel_rfl)] at h
 obtain ⟨ps, hL, _⟩ := h
 have ht : (Tryd.prog.globals[0]?).map (·.type) = some 104 := by kernel_rfl
 obtain ⟨c, ty, fz, h1, h2⟩ := laid_ints (L := tabInts) (k := .u8) (N := 64) (t := 104) (e := 5) gTab ht (by kernel_rfl) (by kernel_rfl) (by kernel_rfl) (by kernel_rfl) rfl hL
 refine mr_memG (Nat.le_refl _) (Array.getElem?_eq_some_iff.1 h1).1 fun b cs hb hb1 => ?_
 have : b = 0 := by omega
 subst this
 simp only [tab18, if_true, Option.some.injEq] at hb
 subst hb
 refine ⟨c, ty, fz, h1, ?_⟩
 rw [h2]
 exact LR.plain (by decide)

theorem door_met18 (os : Os) (args : Array Value) : laidMetH Tryd.prog laid18 ((World.doorLaid Tryd.prog 400 os).forCall (fun _ _ => 0) ⟨#[], args, []⟩).memory :=
 laidMetH_of_parts3 (fuel := 8) (laidMet_of_run' 8 (by kernel_rfl) (by kernel_rfl)) (by kernel_rfl) (by kernel_rfl)

set_option maxRecDepth 100000 in
theorem known_lifted {pr : FuncId → Option Prim} (hE : EnvOk { E18 with prim := pr }) (h3 : pr 3 = none) {fuel : Nat} {m' : AMem} (hrun : run { E18 with prim := pr } fuel (.call 3 [] m18) = some (.val (.bool true) m')) (hwl : 1 ≤ m'.wl) (os : Os) (started : os.Started) (H : Type) (enc : TypeId × Value → H) :
  ReturnsInHanded {} Tryd.checked os 3 .any (fun w args => (Rows.graphKnownSpec.pre enc Tryd.prog Tryd.f3 [] false w args ∧ laidMetH Tryd.prog laid18 w) ∧ sizedMet enc Tryd.prog Tryd.f3 (OpenSpec.ofChange Rows.graphKnownSpec) false w args)
   (Rows.graphKnownSpec.post enc Tryd.prog Tryd.f3 false true false false) := by
 refine returnsInHanded_of_change_and (C := Tryd.checked) (X := fun w _ => laidMetH Tryd.prog laid18 w) (fun _ _ _ hh h => h.of_heap hh) own18 started (by kernel_rfl) Tryd.func3
  (ChangeSpec.witness_shaped (enc := enc) (C := Tryd.checked) (os := os) (X := fun w _ => laidMetH Tryd.prog laid18 w) false (World.doorLaid Tryd.prog 400 os) #[] 8 rfl (World.shaped_of_RefB (by kernel_rfl) (by kernel_rfl)) (by kernel_rfl) (by kernel_rfl) (by kernel_rfl) (door_met18 os _)) ?_
 intro W base args ds gs before hval0 hW _ _ hL _
 have hW' := hW
 obtain ⟨p, q, hA0, hV, rfl, hfz, hnd⟩ := hW
 have hA : DataW.TrodAll enc Tryd.prog W 0 (fun _ => true) true Tryd.f3.params.toList args.toList ds p := hA0
 rw [Tryd.params3] at hA
 obtain ⟨ha, rfl, rfl⟩ := trodAll_nil hA
 obtain ⟨rfl, rfl⟩ := trodVars_none hV
 obtain rfl : args = #[] := by apply Array.toList_inj.1; exact ha
 simp only [List.append_nil] at hW'
 have hm : MR { E18 with prim := pr } (injG 1) m18 W := MR.env (E := E18) rfl (of_laid18 hL)
 have hc := callsIn_wide.1 (calls_of_run hE hrun h3 hm (LR.nil _))
 refine hc.mono fun e W' ⟨v', he, j', s, hv⟩ => ?_
 have hv' : v' = .bool true := plain1_eq rfl hv
 subst hv'
 refine ⟨_, he, ?_⟩
 have hg := s.grown hm hwl
 exact ⟨_, _, _, [], [], [], hW', trodAll_mk1 (shut_bool (by kernel_rfl) true), trodAll_mk0, rfl, keptBut_of_same s.calm hg _, fun h => by cases h⟩

theorem known_holds {pr : FuncId → Option Prim} (hE : EnvOk { E18 with prim := pr }) (h3 : pr 3 = none) {fuel : Nat} {m' : AMem} (hrun : run { E18 with prim := pr } fuel (.call 3 [] m18) = some (.val (.bool true) m')) (hwl : 1 ≤ m'.wl) : Rows.GraphKnownSaid :=
 OpenClaim.holds_of_wide 3 Tryd.f3 rfl rfl rfl rfl rfl rfl rfl ⟨rfl, rfl, rfl, rfl, rfl⟩ rfl rfl rfl rfl rfl (by kernel_rfl) Tryd.func3 (by kernel_rfl)
  (of_decide_eq_true (by kernel_rfl)) (by unfold Func.isWrapper; first | (rw [if_pos (by decide +kernel)]; kernel_rfl) | (rw [if_neg (by decide +kernel)]; exact ⟨rfl, rfl⟩))
  (fun os started H enc _ => known_lifted hE h3 hrun hwl os started H enc)

theorem known_card (h : Rows.GraphKnownSaid) : Rows.GraphKnownCardSaid :=
 Claim7.holds_tied_plain_at .later [] [.data] true (true, "82ce1e74de2c2fd0550f480b8e22d74a151c28bcdbfc0d49ae058a53b969b62b") false
  h (fun _ h => by cases h) (by kernel_rfl) (fun _ h => by cases h) graphKnown_row_tie rfl ⟨rfl, rfl⟩ (by kernel_rfl) rfl
  (fun f fn hf hfn => by
   obtain rfl : f = 3 := Option.some.inj ((show Tryd.prog.funcNamed "wardmote/wardmotelaw18.GraphKnown" = some 3 by kernel_rfl).symm.trans hf) |>.symm
   obtain rfl : fn = Tryd.f3 := (Option.some.inj (Tryd.func3.symm.trans hfn)).symm
   exact ⟨by kernel_rfl, fun j t ht => by
    rw [Tryd.params3] at ht
    simp at ht⟩)
  (by kernel_rfl)
end Go.Proofs.YtpclggcpobakhaaDoor
end

section
/-
  Chapter 18: the environment with slices.overlaps.
-/
namespace Go.Proofs.YtpclggcpobakhaaDoor
open Go Go.Ab Go.Ab.W
set_option maxRecDepth 10000

def ovRun (args : List Value) (m : AMem) : Option (Value × AMem) :=
 match args with
 | [.slice (some ⟨ba, _, none⟩) _ _, .slice (some ⟨bb, _, none⟩) _ _] =>
  match m.get ba, m.get bb with
  | some (.cells _ ta), some (.cells csb tb) => if notRo ta && notRo tb && decide (ba ≠ bb) && !csb.isEmpty then some (.bool false, m) else none
  | _, _ => none
 | _ => none
noncomputable def E18o : Env := { E18 with prim := fun f => if f = 95 then some ⟨ovRun⟩ else none }
theorem notRo_ne {t : Tag} (h : notRo t = true) : t ≠ .ro := fun e => by rw [e] at h; cases h
theorem E18o_ok : EnvOk E18o := envOk_of progOk18 fun f p hp args m v m' hrun j w args' hm hl => by
 have hf95 : f = 95 := by
  by_cases h : f = 95
  ·exact h
  ·have : (none : Option Prim) = some p := by rw [← hp]; show _ = (if f = 95 then some _ else none); rw [if_neg h]
   cases this
 subst hf95
 have hpe : p = ⟨ovRun⟩ := by
  have : some (⟨ovRun⟩ : Prim) = some p := hp
  cases this; rfl
 subst hpe
 have hrun' : ovRun args m = some (v, m') := hrun
 unfold ovRun at hrun'
 split at hrun'
 ·rename_i ba oa la ca bb ob lb cb
  split at hrun'
  ·rename_i csa ta csb tb hga hgb
   split at hrun'
   ·rename_i hc
    cases hrun'
    simp only [Bool.and_eq_true, decide_eq_true_eq, Bool.not_eq_true'] at hc
    obtain ⟨⟨⟨h1, h2⟩, h3⟩, h4⟩ := hc
    exact callOk_apart (E := E18o) (tS := 23) (tR := 4) (e := 26) Tryd.func95 (by kernel_rfl) (by kernel_rfl) (by kernel_rfl) (by kernel_rfl) (by kernel_rfl) (by kernel_rfl) rfl hga (notRo_ne h1) hgb (notRo_ne h2) h3 (fun e => by rw [e] at h4; cases h4) hm hl
   ·cases hrun'
  ·cases hrun'
 ·cases hrun'
end Go.Proofs.YtpclggcpobakhaaDoor
end

section
/-
  Chapter 18: slices.Delete at a block that is used up.
-/
namespace Go.Proofs.YtpclggcpobakhaaDoor
open Go Go.Ab Go.Ab.W
set_option maxRecDepth 10000
set_option maxHeartbeats 4000000
attribute [local irreducible] Tm.at Trie.set Trie.get AMem.get AMem.set AMem.alloc AMem.ww AMem.kill

theorem ns23 : SlT E18o.P 23 26 2 := SlT.of (by kernel_rfl)
theorem nu23 : E18o.P.underlying 23 = some (.slice 26) := by kernel_rfl
theorem bA (k : IntKind) {x y : Nat} (h : x ≤ y) : boundA (.int k (x : Int)) y = some x := by
 simp only [boundA]; rw [if_pos ⟨by omega, by omega⟩, Int.toNat_natCast]
theorem bnd3 {len cap lo hi mx : Nat} {k1 k2 k3 : IntKind} (h1 : lo ≤ hi) (h2 : hi ≤ mx) (h3 : mx ≤ cap) : boundsA len cap (some (.int k1 (lo : Int))) (some (.int k2 (hi : Int))) (some (.int k3 (mx : Int))) = some (lo, hi, mx) := by
 unfold boundsA; simp only [bA _ h3, bA _ h2, bA _ h1]
theorem bndh {len cap hi : Nat} {k2 : IntKind} (h2 : hi ≤ cap) : boundsA len cap none (some (.int k2 (hi : Int))) none = some (0, hi, cap) := by
 unfold boundsA; simp only [bA _ h2]
theorem bndl {len cap lo : Nat} {k1 : IntKind} (h1 : lo ≤ len) : boundsA len cap (some (.int k1 (lo : Int))) none none = some (lo, len, cap) := by
 unfold boundsA; simp only [bA _ h1]
theorem bndlh {len cap lo hi : Nat} {k1 k2 : IntKind} (h1 : lo ≤ hi) (h2 : hi ≤ cap) : boundsA len cap (some (.int k1 (lo : Int))) (some (.int k2 (hi : Int))) none = some (lo, hi, cap) := by
 unfold boundsA; simp only [bA _ h2, bA _ h1]

/-- The memory where the call begins. -/
theorem shown_hp {m : AMem} {b : Nat} {all : List Value} : Hp { m.kill b with wl := m.next } { (m.kill b).alloc (.cells all .own) with wl := m.next } [.obj m.next (.cells all .own)] := by
 have hg : ∀ x, ({ (m.kill b).alloc (.cells all .own) with wl := m.next } : AMem).get x = ((m.kill b).alloc (.cells all .own)).get x := fun x => by unfold AMem.get; rfl
 have hg0 : ∀ x, ({ m.kill b with wl := m.next } : AMem).get x = (m.kill b).get x := fun x => by unfold AMem.get; rfl
 have hn : ({ (m.kill b).alloc (.cells all .own) with wl := m.next } : AMem).next = m.next + 1 := by
  show ((m.kill b).alloc (.cells all .own)).next = _
  rw [AMem.next_alloc, AMem.next_kill]
 have hn0 : ({ m.kill b with wl := m.next } : AMem).next = m.next := by show (m.kill b).next = _; rw [AMem.next_kill]
 refine ⟨⟨by rw [hn, hn0]; omega, fun x hx => ?_, by rw [hn0]; exact Nat.min_le_left _ _⟩, fun p hp => ?_, by simp⟩
 ·rw [hn0] at hx
  rw [hg, hg0, AMem.get_alloc, AMem.next_kill, if_neg (by omega)]
 ·rw [List.mem_singleton] at hp
  subst hp
  exact ⟨by rw [hn0]; omega, by rw [hn]; omega, by rw [hg, AMem.get_alloc, AMem.next_kill, if_pos rfl]⟩

theorem lim_le {a b : Nat} (h : lim a = true) (hb : b ≤ a) : lim b = true := Nat.ble_eq_true_of_le (Nat.le_trans hb (Nat.le_of_ble_eq_true h))
theorem oneCell_sub {l l' : List Value} (h : oneCellAll l = true) (hs : ∀ v ∈ l', v ∈ l) : oneCellAll l' = true := List.all_eq_true.2 fun v hv => List.all_eq_true.1 h v (hs v hv)
theorem nz26 {n : Nat} : zerosA E18o.P 26 n = some (repeatL [.int .i64 0, .int .i64 0] n) := by
 have : zeroA E18o.P 26 = some (.agg #[.int .i64 0, .int .i64 0]) := by kernel_rfl
 have hs : sizeA E18o.P 26 = 2 := by kernel_rfl
 simp only [zerosA, this, hs]; rfl
theorem oneCell_plain {l : List Value} (h : l.all plain1 = true) : oneCellAll l = true := List.all_eq_true.2 fun v hv => by
 have := List.all_eq_true.1 h v hv
 unfold plain1 at this
 split at this <;> first | rfl | cases this
theorem plain_splice {cs vs : List Value} {o : Nat} (h : cs.all plain1 = true) (h' : vs.all plain1 = true) : (spliceL cs o vs).all plain1 = true := List.all_eq_true.2 fun v hv => by
 obtain ⟨k, hk⟩ := List.mem_iff_getElem?.1 hv
 rw [getElem?_spliceL] at hk
 split at hk
 ·exact List.all_eq_true.1 h' v (List.mem_of_getElem? hk)
 ·exact List.all_eq_true.1 h v (List.mem_of_getElem? hk)
theorem plain_sub {l l' : List Value} (h : l.all plain1 = true) (hs : ∀ v ∈ l', v ∈ l) : l'.all plain1 = true := List.all_eq_true.2 fun v hv => List.all_eq_true.1 h v (hs v hv)
theorem take_splice {cs new zs : List Value} {p q : Nat} (hq : q = p + new.length) (hl : q ≤ cs.length) : (spliceL (spliceL cs p new) q zs).take q = cs.take p ++ new := by
 apply List.ext_getElem?
 intro k
 have hp : (cs.take p).length = p := by rw [List.length_take]; omega
 rw [List.getElem?_take]
 split
 ·rw [getElem?_spliceL, if_neg (by omega), getElem?_spliceL]
  by_cases hk : k < p
  ·rw [if_neg (by omega), List.getElem?_append_left (by rw [hp]; exact hk), List.getElem?_take, if_pos hk]
  ·rw [if_pos ⟨by omega, by omega, by omega⟩, List.getElem?_append_right (by rw [hp]; omega), hp]
 ·rw [List.getElem?_eq_none (by rw [List.length_append, hp]; omega)]
theorem del_walk {m0 m : AMem} {b n c i j : Nat} {cs : List Value} (hm : Hp m0 m [.obj b (.cells cs .own)]) (hcl : n * 2 ≤ cs.length) (hone : oneCellAll cs = true) (hnc : n ≤ c) (hij : i < j) (hjn : j ≤ n) (hlim : lim n = true) :
  CallA E18o 49 [.slice (some ⟨b, 0, none⟩) n c, .int .i64 (i : Int), .int .i64 (j : Int)] m fun v m' => v = .slice (some ⟨b, 0, none⟩) (n - (j - i)) c ∧
   ∃ cs', Hp m0 m' [.obj b (.cells cs' .own)] ∧ cs'.length = cs.length ∧ (cs.all plain1 = true → cs'.all plain1 = true) ∧ cs'.take ((n - (j - i)) * 2) = cs.take (i * 2) ++ (cs.drop (j * 2)).take ((n - j) * 2) := by
 refine call_wk (m0 := m0) (ps := [.obj b (.cells cs .own)]) (N := 33) (rs := [.tmp 6]) rfl Tryd.func49 rfl rfl rfl hm ?_
 refine Wk.seq ?_
 refine Wk.region ?_
 refine Wo.od (o_as rfl) rfl ?_
 refine Wo.nil ?_
 refine At.tn ?_
 refine Wk.seq ?_
 refine Wk.region ?_
 refine Wo.od (o_mv rfl) rfl ?_
 refine Wo.od (o_mv rfl) rfl ?_
 refine Wo.od (o_mv rfl) rfl ?_
 refine Wo.od (o_mv rfl) rfl ?_
 refine Wo.od (o_ln (k := 0) nu23 rfl rfl (.inl rfl)) rfl ?_
 refine Wo.od (o_slo (k := 0) ns23 rfl rfl rfl rfl rfl rfl (bnd3 (Nat.le_of_lt hij) hjn hnc) rfl) rfl ?_
 refine Wo.nil ?_
 refine At.tn ?_
 refine Wk.seq ?_
 refine Wk.seq ?_
 refine Wk.region ?_
 refine Wo.od (o_mv rfl) rfl ?_
 refine Wo.od (o_mv rfl) rfl ?_
 refine Wo.od (o_bi rfl rfl (ub_eql _ _)) rfl ?_
 refine Wo.nil ?_
 refine At.tn ?_
 refine Wk.condF rfl (decide_eq_false (Nat.ne_of_lt hij)) ?_
 refine Wk.skip ?_
 refine At.tn ?_
 refine Wk.seq ?_
 refine Wk.region ?_
 refine Wo.od (o_mv rfl) rfl ?_
 refine Wo.od (o_ln (k := 0) nu23 rfl rfl (.inl rfl)) rfl ?_
 refine Wo.od (o_as rfl) rfl ?_
 refine Wo.nil ?_
 refine At.tn ?_
 refine Wk.seq ?_
 refine Wk.draw (by kernel_rfl) ?_
 refine Wo.od (o_mv rfl) rfl ?_
 refine Wo.od (o_mv rfl) rfl ?_
 refine Wo.od (o_slo (k := 0) (o' := 0) ns23 rfl rfl rfl rfl rfl rfl (bndh (by omega)) (by split <;> simp)) rfl ?_
 refine Wo.od (o_mv rfl) rfl ?_
 refine Wo.od (o_mv rfl) rfl ?_
 refine Wo.od (o_slo (k := 0) (o' := if c = j then 0 else 0 + j * 2) ns23 rfl rfl rfl rfl rfl rfl (bndl hjn) rfl) rfl ?_
 have hnl : ((cs.drop (j * 2)).take ((n - j) * 2)).length = (n - j) * 2 := by simp; omega
 have hs : ∀ m, Hp m0 m [.obj b (.cells cs .own)] → srcCells 2 (.slice (some ⟨b, if c = j then 0 else 0 + j * 2, none⟩) (n - j) (c - j)) (n - j) m = some ((cs.drop (j * 2)).take ((n - j) * 2)) := by
  intro m' hm'
  by_cases h0 : n - j = 0
  ·simp [srcCells, h0]
  ·rw [if_neg (by omega), src_obj (k := 0) hm' rfl h0 (by omega), Nat.zero_add]
 have ho1 : oneCellAll ((cs.drop (j * 2)).take ((n - j) * 2)) = true := oneCell_sub hone fun v hv => List.mem_of_mem_drop (List.mem_of_mem_take hv)
 refine Wo.od (o_api (k := 0) ns23 ⟨_, nu23⟩ rfl rfl hs hnl ho1 (lim_le hlim (by omega)) (by omega) (by rw [hnl]; omega)) rfl ?_
 refine Wo.od (o_as rfl) rfl ?_
 refine Wo.nil ?_
 refine At.tn ?_
 refine Wk.seq ?_
 refine Wk.region ?_
 refine Wo.od (o_mv rfl) rfl ?_
 refine Wo.od (o_mv rfl) rfl ?_
 refine Wo.od (o_ln (k := 0) nu23 rfl rfl (.inl rfl)) rfl ?_
 refine Wo.od (o_mv rfl) rfl ?_
 refine Wo.od (o_slo (k := 0) (o' := 0 + (i - 0 + (n - j)) * 2) ns23 rfl rfl rfl rfl rfl rfl (bndlh (by omega) (by omega)) (by rw [if_neg (by omega)])) rfl ?_
 refine Wo.o0 (o_clo (k := 0) (zs := repeatL [.int .i64 0, .int .i64 0] (n - (i - 0 + (n - j)))) ns23 rfl rfl rfl (by omega) nz26 (repeatL_plain (by decide) _) (by intro e; have := congrArg List.length e; rw [length_repeatL] at this; simp at this; omega) (by rw [length_repeatL, length_spliceL]; simp; omega)) ?_
 refine Wo.nil ?_
 refine At.tn ?_
 refine Wk.seq ?_
 refine Wk.region ?_
 refine Wo.od (o_mv rfl) rfl ?_
 refine Wo.od (o_as rfl) rfl ?_
 refine Wo.nil ?_
 refine At.tn ?_
 refine Wk.ret ?_
 refine At.ret (.tmp rfl .nil) fun m' hm' => ⟨?_, _, hm', ?_, ?_, ?_⟩
 ·rw [show i - 0 + (n - j) = n - (j - i) by omega, Nat.sub_zero]; rfl
 ·rw [length_spliceL, length_spliceL]
 ·exact fun h => plain_splice (plain_splice h (plain_sub h fun v hv => List.mem_of_mem_drop (List.mem_of_mem_take hv))) (repeatL_plain (by decide) _)
 ·rw [show (n - (j - i)) * 2 = 0 + (i - 0 + (n - j)) * 2 by omega]
  rw [take_splice (by rw [hnl]; omega) (by omega), Nat.zero_add, Nat.sub_zero]

/-- Delete uses up its first argument's block. -/
theorem del_meets {m : AMem} {b n i j : Nat} {cs : List Value} (hcl : cs.length = n * 2) (hp : cs.all plain1 = true) (hij : i < j) (hjn : j ≤ n) (hlim : lim n = true) :
  MeetsS E18o 49 m b 2 n cs [.int .i64 (i : Int), .int .i64 (j : Int)] (n - (j - i)) (cs.take (i * 2) ++ cs.drop (j * 2)) := by
 intro zs c hz hnc hcc
 have hall : (cs ++ zs).all plain1 = true := by rw [List.all_append, hp, hz]; rfl
 refine (del_walk (cs := cs ++ zs) shown_hp (by rw [List.length_append]; omega) (oneCell_plain hall) hnc hij hjn hlim).mono fun v m3 ⟨h1, cs', h2, h3, h5, h4⟩ => ?_
 have hn0 : ({ m.kill b with wl := m.next } : AMem).next = m.next := by show (m.kill b).next = _; rw [AMem.next_kill]
 have hwl := h2.ext.wl
 rw [hn0] at hwl
 have hwl' : m.next ≤ m3.wl := by rwa [Nat.min_eq_left (Nat.le_refl _)] at hwl
 have hget := (h2.get (k := 0) rfl).2.2
 have hnew : cs.take (i * 2) ++ cs.drop (j * 2) = cs'.take ((n - (j - i)) * 2) := by
  have e2 : (cs.drop (j * 2)).take ((n - j) * 2) = cs.drop (j * 2) := List.take_of_length_le (by rw [List.length_drop]; omega)
  rw [h4, List.take_append_of_le_length (by omega), List.drop_append_of_le_length (by omega), List.take_append_of_le_length (by rw [List.length_drop]; omega), e2]
 refine ⟨hwl', m.next, c, cs'.drop ((n - (j - i)) * 2), .own, h1, Nat.le_refl _, ?_, ?_, by omega, .inl ⟨rfl, ?_⟩⟩
 ·rw [hnew, List.take_append_drop]; exact hget
 ·exact plain_sub (h5 hall) fun v hv => List.mem_of_mem_drop hv
 ·rw [hnew, ← List.length_append, List.take_append_drop, h3, List.length_append]; omega
end Go.Proofs.YtpclggcpobakhaaDoor
end

section
/-
  Chapter 18: slices.Insert (of one element) at a block that is used up.
-/
namespace Go.Proofs.YtpclggcpobakhaaDoor
open Go Go.Ab Go.Ab.W
set_option maxRecDepth 10000
set_option maxHeartbeats 4000000
attribute [local irreducible] Tm.at Trie.set Trie.get AMem.get AMem.set AMem.alloc AMem.ww AMem.kill

/-- The length of a slice of an old block. -/
theorem o_lnm {E : Env} {m0 : AMem} {fs : Fs} {ps : List Pc} {ty a o n cap elem : Nat} {ars : Array Operand} (hu : E.P.underlying ty = some (.slice elem)) (ha : evs E fs ars.toList = some [.slice (some ⟨a, o, none⟩) n cap]) (hlt : a < m0.next) :
  Od E m0 fs ps (.call ⟨.builtin .len, ars, #[ty]⟩) (.int .i64 (n : Int)) ps :=
 fun t m hf h => ⟨fun b hb' => by
  simp only [readsAt, hf.evs ha] at hb'
  have : blockOf (.slice (some ⟨a, o, none⟩) n cap) = some a := rfl
  rw [this] at hb'; cases hb'
  exact Nat.lt_of_lt_of_le hlt h.ext.next, fun K hK => by
  have : builtinA E.P .len #[ty] [.slice (some ⟨a, o, none⟩) n cap] m = some (.int .i64 (n : Int), m) := by
   have ht : (#[ty] : Array TypeId)[0]? = some ty := rfl
   simp only [builtinA, ht, Option.bind_some, hu]
  rw [Go.Ab.o_builtin (hf.evs ha) this]; exact hK m h⟩

theorem nsz26 : sizeA E18o.P 26 = 2 := by kernel_rfl
theorem n_add {P : Program} {ty : TypeId} {a b : Nat} (h : a + b ≤ 1073741824) : binA .add ty P (.int .i64 (a : Int)) (.int .i64 (b : Int)) = some (.int .i64 ((a + b : Nat) : Int)) := by
 rw [bin_add, IntWalk.i64_in _ (by omega)]; rfl
theorem n_sub {P : Program} {ty : TypeId} {a b : Nat} (h : b ≤ a) (h2 : a ≤ 1073741824) : binA .sub ty P (.int .i64 (a : Int)) (.int .i64 (b : Int)) = some (.int .i64 ((a - b : Nat) : Int)) := by
 rw [bin_sub, IntWalk.i64_in _ (by omega)]; congr 2; omega
theorem o_slm {E : Env} {m0 : AMem} {fs : Fs} {ps : List Pc} {x : Operand} {ty elem lo hi mx b o len cap w k : Nat} {cs : List Value} {lx hx : Option Operand} {l h : Option Value} (ht : SlT E.P ty elem w) (hv : ev E fs x = some (.slice (some ⟨b, o, none⟩) len cap)) (e1 : evo E fs lx = some l) (e2 : evo E fs hx = some h)
  (hp : pk ps k = some (.obj b (.cells cs (.more w)))) (hb : boundsA len cap l h none = some (lo, hi, mx)) (hne : cap ≠ lo) :
  Od E m0 fs ps (.slice ty x lx hx none) (.slice (some ⟨b, o + lo * w, none⟩) (hi - lo) (cap - lo)) ps :=
 fun t m hf hm => ⟨fun b' hb' => by
  have : blockOf (.slice (some ⟨b, o, none⟩) len cap) = some b := rfl
  simp only [readsAt, hf.ev hv, Option.bind_some, this] at hb'
  cases hb'; exact (hm.get hp).2.1, fun K hK => by
  have hg := (hm.get hp).2.2
  have hs : sliceA E.P ty (.slice (some ⟨b, o, none⟩) len cap) l h none m = some (.slice (some ⟨b, o + lo * w, none⟩) (hi - lo) (cap - lo)) := by
   simp only [sliceA, ht.und, ht.known, if_true, hg, hb, ht.size, ne_eq, not_true_eq_false, if_false, if_neg hne]
  rw [Go.Ab.o_slice (hf.ev hv) (hf.evo e1) (hf.evo e2) rfl hs]; exact hK m hm⟩
theorem nu3 : E18o.P.underlying 3 = some (.int .i64) := by kernel_rfl
theorem nzc {k : Nat} {m : AMem} (h : k ≤ 1073741824) : newCells E18o.P 26 (some 3) (.int .i64 (k : Int)) m = some (k, repeatL [.int .i64 0, .int .i64 0] k) := by
 simp only [newCells, Option.bind_some, nu3, Int.toNat_natCast, nz26]
 rw [if_pos (by omega), if_pos (repeatL_plain (by decide) _)]
theorem tk1 {cs V : List Value} {p q : Nat} (hq : q = p + V.length) (hl : q ≤ cs.length) : (spliceL cs p V).take q = cs.take p ++ V := by
 apply List.ext_getElem?
 intro k
 have hp : (cs.take p).length = p := by rw [List.length_take]; omega
 rw [List.getElem?_take]
 split
 ·rw [getElem?_spliceL]
  by_cases hk : k < p
  ·rw [if_neg (by omega), List.getElem?_append_left (by rw [hp]; exact hk), List.getElem?_take, if_pos hk]
  ·rw [if_pos ⟨by omega, by omega, by omega⟩, List.getElem?_append_right (by rw [hp]; omega), hp]
 ·rw [List.getElem?_eq_none (by rw [List.length_append, hp]; omega)]
/-- First what comes behind, then what is put in. -/
theorem tk2 {cs V D : List Value} {p q r : Nat} (hq : q = p + V.length) (hr : r = q + D.length) (hl : r ≤ cs.length) : (spliceL (spliceL cs q D) p V).take r = cs.take p ++ V ++ D := by
 apply List.ext_getElem?
 intro k
 have hp : (cs.take p).length = p := by rw [List.length_take]; omega
 have hpv : (cs.take p ++ V).length = q := by rw [List.length_append, hp, hq]
 rw [List.getElem?_take]
 split
 ·rw [getElem?_spliceL, length_spliceL]
  by_cases hk : k < q
  ·rw [List.getElem?_append_left (by rw [hpv]; exact hk)]
   by_cases hk' : k < p
   ·rw [if_neg (by omega), getElem?_spliceL, if_neg (by omega), List.getElem?_append_left (by rw [hp]; exact hk'), List.getElem?_take, if_pos hk']
   ·rw [if_pos ⟨by omega, by omega, by omega⟩, List.getElem?_append_right (by rw [hp]; omega), hp]
  ·rw [if_neg (by omega), getElem?_spliceL, if_pos ⟨by omega, by omega, by omega⟩, List.getElem?_append_right (by rw [hpv]; omega), hpv]
 ·rw [List.getElem?_eq_none (by rw [List.length_append, hpv]; omega)]
/-- First what is put in, then what comes behind. -/
theorem tk3 {cs V D : List Value} {p q r : Nat} (hq : q = p + V.length) (hr : r = q + D.length) (hl : r ≤ cs.length) : (spliceL (spliceL cs p V) q D).take r = cs.take p ++ V ++ D := by
 rw [tk1 hr (by rw [length_spliceL]; exact hl), tk1 hq (by omega)]
theorem ins_walk {m0 m : AMem} {b n c i a o c2 : Nat} {cs vs : List Value} {tv : Tag} (hm : Hp m0 m [.obj b (.cells cs .own)]) (ha : a < m0.next) (hga : m0.get a = some (.cells vs tv)) (htv : notRo tv = true) (hov : o + 2 ≤ vs.length)
  (hcl : c * 2 = cs.length) (hone : oneCellAll cs = true) (honev : oneCellAll vs = true) (hnc : n ≤ c) (hin : i ≤ n) (hlim : lim (n + 1) = true) :
  CallA E18o 82 [.slice (some ⟨b, 0, none⟩) n c, .int .i64 (i : Int), .slice (some ⟨a, o, none⟩) 1 c2] m fun v m' => ∃ b3 c3 cs' tag ps, v = .slice (some ⟨b3, 0, none⟩) (n + 1) c3 ∧ Hp m0 m' (.obj b3 (.cells cs' tag) :: ps) ∧ n + 1 ≤ c3 ∧
   cs'.take ((n + 1) * 2) = cs.take (i * 2) ++ (vs.drop o).take 2 ++ (cs.drop (i * 2)).take ((n - i) * 2) ∧ (cs.all plain1 = true → vs.all plain1 = true → cs'.all plain1 = true) ∧
   ((tag = .own ∧ c3 * 2 = cs'.length) ∨ (tag = .more 2 ∧ cs'.length = (n + 1) * 2 ∧ c3 = n + 1)) := by
 have hvn : ((vs.drop o).take 2).length = 2 := by simp; omega
 have hvs : ∀ {ps : List Pc} {m' : AMem}, Hp m0 m' ps → srcCells 2 (.slice (some ⟨a, o, none⟩) 1 c2) 1 m' = some ((vs.drop o).take 2) := fun {ps m'} h => by
  have hg : m'.get a = some (.cells vs tv) := (h.ext.same a ha).trans hga
  simp only [srcCells, AMem.loadN, hg]
  rw [if_neg (by decide), Nat.one_mul, if_pos hvn]
 have hv1 : oneCellAll ((vs.drop o).take 2) = true := oneCell_sub honev fun v hv => List.mem_of_mem_drop (List.mem_of_mem_take hv)
 refine call_wk (m0 := m0) (ps := [.obj b (.cells cs .own)]) (N := 95) (rs := [.tmp 6]) rfl Tryd.func82 rfl rfl rfl hm ?_
 refine Wk.seq ?_
 refine Wk.region ?_
 refine Wo.od (o_as rfl) rfl ?_
 refine Wo.nil ?_
 refine At.tn ?_
 refine Wk.seq ?_
 refine Wk.region ?_
 refine Wo.od (o_mv rfl) rfl ?_
 refine Wo.od (o_mv rfl) rfl ?_
 refine Wo.od (o_slo (k := 0) ns23 rfl rfl rfl rfl rfl rfl (bndl hin) rfl) rfl ?_
 refine Wo.nil ?_
 refine At.tn ?_
 refine Wk.seq ?_
 refine Wk.region ?_
 refine Wo.od (o_mv rfl) rfl ?_
 refine Wo.od (o_lnm nu23 rfl ha) rfl ?_
 refine Wo.od (o_as rfl) rfl ?_
 refine Wo.nil ?_
 refine At.tn ?_
 refine Wk.seq ?_
 refine Wk.seq ?_
 refine Wk.region ?_
 refine Wo.od (o_mv rfl) rfl ?_
 refine Wo.od (o_bi rfl rfl (bin_eql _ _ _)) rfl ?_
 refine Wo.nil ?_
 refine At.tn ?_
 refine Wk.condF rfl rfl ?_
 refine Wk.skip ?_
 refine At.tn ?_
 refine Wk.seq ?_
 refine Wk.region ?_
 refine Wo.od (o_mv rfl) rfl ?_
 refine Wo.od (o_ln (k := 0) nu23 rfl rfl (.inl rfl)) rfl ?_
 refine Wo.od (o_as rfl) rfl ?_
 refine Wo.nil ?_
 refine At.tn ?_
 refine Wk.seq ?_
 refine Wk.seq ?_
 refine Wk.region ?_
 refine Wo.od (o_mv rfl) rfl ?_
 refine Wo.od (o_mv rfl) rfl ?_
 refine Wo.od (o_bi rfl rfl (ub_eql _ _)) rfl ?_
 refine Wo.nil ?_
 refine At.tn ?_
 by_cases hie : i = n
 ·refine Wk.condT rfl (decide_eq_true hie) ?_
  subst hie
  refine Wk.seq ?_
  refine Wk.region ?_
  refine Wo.od (o_mv rfl) rfl ?_
  refine Wo.od (o_mv rfl) rfl ?_
  by_cases hfit : i + 1 ≤ c
  ·refine Wo.od (o_api (k := 0) ns23 ⟨_, nu23⟩ rfl rfl (fun m h => hvs h) (by rw [hvn]) hv1 hlim hfit (by rw [hvn]; omega)) rfl ?_
   refine Wo.od (o_as rfl) rfl ?_
   refine Wo.nil ?_
   refine At.tn ?_
   refine Wk.ret ?_
   refine At.tr ?_
   refine At.ret (.tmp rfl .nil) fun m' hm' => ⟨b, c, _, .own, [], rfl, hm', hfit, ?_, fun h h' => plain_splice h (plain_sub h' fun v hv => List.mem_of_mem_drop (List.mem_of_mem_take hv)), .inl ⟨rfl, by rw [length_spliceL]; exact hcl⟩⟩
   rw [tk1 (by rw [hvn]; omega) (by omega), Nat.zero_add, Nat.sub_self, Nat.zero_mul, List.take_zero, List.append_nil]
  ·refine Wo.x (o_apg (k := 0) ns23 rfl rfl (fun m h => by simp only [newCells, Option.bind_some, nu23, nsz26, hvs h, Option.map_some]) (by rw [hvn]) hv1 hlim hfit (by omega)) gn rfl fun b' => ?_
   refine Wo.od (o_as rfl) rfl ?_
   refine Wo.nil ?_
   refine At.tn ?_
   refine Wk.ret ?_
   refine At.tr ?_
   refine At.ret (.tmp rfl .nil) fun m' hm' => ⟨b', i + 1, _, .more 2, _, rfl, hm', Nat.le_refl _, ?_, fun h h' => ?_, .inr ⟨rfl, ?_, rfl⟩⟩
   ·rw [List.take_of_length_le (by rw [List.length_append, hvn]; simp; omega), List.drop_zero, Nat.sub_self, Nat.zero_mul, List.take_zero, List.append_nil]
   ·rw [List.all_append, plain_sub h fun v hv => List.mem_of_mem_drop (List.mem_of_mem_take hv), plain_sub h' fun v hv => List.mem_of_mem_drop (List.mem_of_mem_take hv)]; rfl
   ·rw [List.length_append, hvn]; simp; omega
 ·refine Wk.condF rfl (decide_eq_false hie) ?_
  refine Wk.skip ?_
  refine At.tn ?_
  refine Wk.seq ?_
  refine Wk.seq ?_
  refine Wk.region ?_
  refine Wo.od (o_mv rfl) rfl ?_
  refine Wo.od (o_mv rfl) rfl ?_
  have hl1 : n + 1 ≤ 1073741824 := Nat.le_of_ble_eq_true hlim
  refine Wo.od (o_bi rfl rfl (n_add (a := n) (b := 1) hl1)) rfl ?_
  refine Wo.od (o_mv rfl) rfl ?_
  refine Wo.od (o_cap (k := 0) nu23 rfl rfl rfl) rfl ?_
  refine Wo.od (o_bi rfl rfl (ub_gtr _ _)) rfl ?_
  refine Wo.nil ?_
  refine At.tn ?_
  by_cases hfit : c < n + 1
  ·refine Wk.condT rfl (decide_eq_true hfit) ?_
   refine Wk.seq ?_
   refine Wk.region ?_
   refine Wo.od (o_mv rfl) rfl ?_
   refine Wo.od (o_mv rfl) rfl ?_
   refine Wo.od (o_slo (k := 0) (o' := 0) ns23 rfl rfl rfl rfl rfl rfl (bndh (by omega)) (by split <;> simp)) rfl ?_
   refine Wo.od (o_mv rfl) rfl ?_
   refine Wo.od (o_mv rfl) rfl ?_
   refine Wo.od (o_bi rfl rfl (n_add (a := n) (b := 1) hl1)) rfl ?_
   refine Wo.od (o_mv rfl) rfl ?_
   refine Wo.od (o_bi rfl rfl (n_sub (a := n + 1) (b := i) (by omega) hl1)) rfl ?_
   refine Wo.x (o_apg (k := 0) ns23 rfl rfl (fun m h => nzc (k := n + 1 - i) (by omega)) (by rw [length_repeatL]; rfl) (oneCell_plain (repeatL_plain (by decide) _)) (lim_le hlim (by omega)) (by omega) (by omega)) gn rfl fun b' => ?_
   refine Wo.od (o_as rfl) rfl ?_
   refine Wo.nil ?_
   refine At.tn ?_
   have hl0 : ((cs.drop 0).take ((i - 0) * 2) ++ repeatL [.int .i64 0, .int .i64 0] (n + 1 - i)).length = (n + 1) * 2 := by rw [List.length_append, length_repeatL]; simp; omega
   refine Wk.seq ?_
   refine Wk.region ?_
   refine Wo.od (o_mv rfl) rfl ?_
   refine Wo.od (o_mv rfl) rfl ?_
   refine Wo.od (o_slm (k := 0) ns23 rfl rfl rfl rfl (bndl (by omega)) (by omega)) rfl ?_
   refine Wo.od (o_mv rfl) rfl ?_
   have hmin2 : min 1 (i - 0 + (n + 1 - i) - i) = 1 := by omega
   refine Wo.od (o_cpo (k := 0) ns23 rfl rfl rfl (by omega) (fun m h => by rw [hmin2]; exact hvs h) hv1 (by rw [hvn, hl0]; omega) (by intro e; rw [e] at hvn; cases hvn)) rfl ?_
   refine Wo.nil ?_
   refine At.tn ?_
   refine Wk.seq ?_
   refine Wk.draw (by kernel_rfl) ?_
   refine Wo.od (o_mv rfl) rfl ?_
   refine Wo.od (o_mv rfl) rfl ?_
   refine Wo.od (o_mv rfl) rfl ?_
   refine Wo.od (o_bi rfl rfl (n_add (a := i) (b := 1) (by omega))) rfl ?_
   refine Wo.od (o_slm (k := 0) ns23 rfl rfl rfl rfl (bndl (by omega)) (by omega)) rfl ?_
   refine Wo.od (o_mv rfl) rfl ?_
   refine Wo.od (o_mv rfl) rfl ?_
   refine Wo.od (o_slo (k := 1) (o' := 0 + i * 2) ns23 rfl rfl rfl rfl rfl rfl (bndl (by omega)) (by rw [if_neg (by omega)])) rfl ?_
   have hmin : min (n - i) (i - 0 + (n + 1 - i) - (i + 1)) = n - i := by omega
   have hml : ((cs.drop (0 + i * 2)).take (min (n - i) (i - 0 + (n + 1 - i) - (i + 1)) * 2)).length = (n - i) * 2 := by rw [hmin]; simp; omega
   refine Wo.od (o_cpo (k := 0) ns23 rfl rfl rfl (by omega) (fun m h => src_obj (k := 1) h rfl (by omega) (by omega)) (oneCell_sub hone fun v hv => List.mem_of_mem_drop (List.mem_of_mem_take hv)) (by rw [hml, length_spliceL, hl0]; omega) (by intro e; rw [e] at hml; simp at hml; omega)) rfl ?_
   refine Wo.nil ?_
   refine At.tn ?_
   refine Wk.seq ?_
   refine Wk.region ?_
   refine Wo.od (o_mv rfl) rfl ?_
   refine Wo.od (o_as rfl) rfl ?_
   refine Wo.nil ?_
   refine At.tn ?_
   refine Wk.ret ?_
   refine At.tr ?_
   refine At.ret (.tmp rfl .nil) fun m' hm' => ⟨b', i - 0 + (n + 1 - i), _, .more 2, _, ?_, hm', by omega, ?_, fun h h' => ?_, .inr ⟨rfl, ?_, by omega⟩⟩
   ·rw [show i - 0 + (n + 1 - i) = n + 1 by omega]; rfl
   ·rw [tk3 (by rw [hvn]; omega) (by rw [hml]; omega) (by rw [hl0]; exact Nat.le_refl _), hmin, Nat.zero_add, List.drop_zero, Nat.sub_zero, List.take_append_of_le_length (by rw [List.length_take]; omega), List.take_take, Nat.min_self]
   ·refine plain_splice (plain_splice ?_ (plain_sub h' fun v hv => List.mem_of_mem_drop (List.mem_of_mem_take hv))) (plain_sub h fun v hv => List.mem_of_mem_drop (List.mem_of_mem_take hv))
    rw [List.all_append, plain_sub h fun v hv => List.mem_of_mem_drop (List.mem_of_mem_take hv), repeatL_plain (by decide)]; rfl
   ·rw [length_spliceL, length_spliceL, hl0]
  ·refine Wk.condF rfl (decide_eq_false hfit) ?_
   refine Wk.skip ?_
   refine At.tn ?_
   refine Wk.seq ?_
   refine Wk.region ?_
   refine Wo.od (o_mv rfl) rfl ?_
   refine Wo.od (o_mv rfl) rfl ?_
   refine Wo.od (o_mv rfl) rfl ?_
   refine Wo.od (o_bi rfl rfl (n_add (a := n) (b := 1) hl1)) rfl ?_
   refine Wo.od (o_slo (k := 0) (o' := 0) ns23 rfl rfl rfl rfl rfl rfl (bndh (by omega)) (by split <;> simp)) rfl ?_
   refine Wo.od (o_as rfl) rfl ?_
   refine Wo.nil ?_
   refine At.tn ?_
   refine Wk.seq ?_
   refine Wk.seq ?_
   refine Wk.region ?_
   refine Wo.od (o_mv rfl) rfl ?_
   refine Wo.od (o_mv rfl) rfl ?_
   refine Wo.od (o_mv rfl) rfl ?_
   refine Wo.od (o_mv rfl) rfl ?_
   refine Wo.od (o_bi rfl rfl (n_add (a := i) (b := 1) (by omega))) rfl ?_
   refine Wo.od (o_slo (k := 0) (o' := 0 + (i + 1) * 2) ns23 rfl rfl rfl rfl rfl rfl (bndl (by omega)) (by rw [if_neg (by omega)])) rfl ?_
   refine Wo.x (o_cs (α := Unit) (V := fun _ => .bool false) (N := fun _ => [.obj b (.cells cs .own)]) rfl rfl (fun m' h => ?_)) gn rfl fun _ => ?_
   ·have hgb := (h.get (k := 0) rfl).2.2
    have hlo := (h.get (k := 0) rfl).1
    have hga' : m'.get a = some (.cells vs tv) := (h.ext.same a ha).trans hga
    refine CallA.prim (p := ⟨ovRun⟩) rfl (v := .bool false) (m' := m') ?_ ⟨(), rfl, h⟩
    show ovRun [.slice (some ⟨a, o, none⟩) 1 c2, .slice (some ⟨b, 0 + (i + 1) * 2, none⟩) (n + 1 - 0 - (i + 1)) (c - 0 - (i + 1))] m' = _
    have hne : cs.isEmpty = false := by
     cases cs with
     | nil => simp at hcl; omega
     | cons => rfl
    simp only [ovRun, hga', hgb, htv, hne]
    rw [if_pos]
    simp only [notRo, Bool.true_and, Bool.not_false, Bool.and_true, decide_eq_true_eq]
    omega
   refine Wo.od (o_un rfl rfl) rfl ?_
   refine Wo.nil ?_
   refine At.tn ?_
   refine Wk.condT rfl rfl ?_
   refine Wk.seq ?_
   refine Wk.draw (by kernel_rfl) ?_
   refine Wo.od (o_mv rfl) rfl ?_
   refine Wo.od (o_mv rfl) rfl ?_
   refine Wo.od (o_mv rfl) rfl ?_
   refine Wo.od (o_bi rfl rfl (n_add (a := i) (b := 1) (by omega))) rfl ?_
   refine Wo.od (o_slo (k := 0) (o' := 0 + (i + 1) * 2) ns23 rfl rfl rfl rfl rfl rfl (bndl (by omega)) (by rw [if_neg (by omega)])) rfl ?_
   refine Wo.od (o_mv rfl) rfl ?_
   refine Wo.od (o_mv rfl) rfl ?_
   refine Wo.od (o_slo (k := 0) (o' := 0 + i * 2) ns23 rfl rfl rfl rfl rfl rfl (bndl (by omega)) (by rw [if_neg (by omega)])) rfl ?_
   have hmin : min (n + 1 - 0 - i) (n + 1 - 0 - (i + 1)) = n - i := by omega
   have hml : ((cs.drop (0 + i * 2)).take (min (n + 1 - 0 - i) (n + 1 - 0 - (i + 1)) * 2)).length = (n - i) * 2 := by rw [hmin]; simp; omega
   refine Wo.od (o_cpo (k := 0) ns23 rfl rfl rfl (by omega) (fun m h => src_obj (k := 0) h rfl (by omega) (by omega)) (oneCell_sub hone fun v hv => List.mem_of_mem_drop (List.mem_of_mem_take hv)) (by rw [hml]; omega) (by intro e; rw [e] at hml; simp at hml; omega)) rfl ?_
   refine Wo.nil ?_
   refine At.tn ?_
   refine Wk.seq ?_
   refine Wk.region ?_
   refine Wo.od (o_mv rfl) rfl ?_
   refine Wo.od (o_mv rfl) rfl ?_
   refine Wo.od (o_slo (k := 0) (o' := 0 + i * 2) ns23 rfl rfl rfl rfl rfl rfl (bndl (by omega)) (by rw [if_neg (by omega)])) rfl ?_
   refine Wo.od (o_mv rfl) rfl ?_
   have hmin2 : min 1 (n + 1 - 0 - i) = 1 := by omega
   refine Wo.od (o_cpo (k := 0) ns23 rfl rfl rfl (by omega) (fun m h => by rw [hmin2]; exact hvs h) hv1 (by rw [hvn, length_spliceL]; omega) (by intro e; rw [e] at hvn; cases hvn)) rfl ?_
   refine Wo.nil ?_
   refine At.tn ?_
   refine Wk.seq ?_
   refine Wk.region ?_
   refine Wo.od (o_mv rfl) rfl ?_
   refine Wo.od (o_as rfl) rfl ?_
   refine Wo.nil ?_
   refine At.tn ?_
   refine Wk.ret ?_
   refine At.tr ?_
   refine At.ret (.tmp rfl .nil) fun m' hm' => ⟨b, c, _, .own, [], rfl, hm', by omega, ?_, fun h h' => plain_splice (plain_splice h (plain_sub h fun v hv => List.mem_of_mem_drop (List.mem_of_mem_take hv))) (plain_sub h' fun v hv => List.mem_of_mem_drop (List.mem_of_mem_take hv)), .inl ⟨rfl, by rw [length_spliceL, length_spliceL]; exact hcl⟩⟩
   rw [tk2 (by rw [hvn]; omega) (by rw [hml]; omega) (by omega), Nat.zero_add, hmin]

/-- Insert uses up its first argument's block. -/
theorem ins_meets {m : AMem} {b n i a o c2 : Nat} {cs vs : List Value} {tv : Tag} (ha : a < m.next) (hab : a ≠ b) (hga : m.get a = some (.cells vs tv)) (htv : notRo tv = true) (hov : o + 2 ≤ vs.length) (hpv : vs.all plain1 = true)
  (hcl : cs.length = n * 2) (hp : cs.all plain1 = true) (hin : i ≤ n) (hlim : lim (n + 1) = true) :
  MeetsS E18o 82 m b 2 n cs [.int .i64 (i : Int), .slice (some ⟨a, o, none⟩) 1 c2] (n + 1) (cs.take (i * 2) ++ (vs.drop o).take 2 ++ cs.drop (i * 2)) := by
 intro zs c hz hnc hcc
 have hall : (cs ++ zs).all plain1 = true := by rw [List.all_append, hp, hz]; rfl
 have hn0 : ({ m.kill b with wl := m.next } : AMem).next = m.next := by show (m.kill b).next = _; rw [AMem.next_kill]
 have hg0 : ({ m.kill b with wl := m.next } : AMem).get a = some (.cells vs tv) := by
  have : ({ m.kill b with wl := m.next } : AMem).get a = (m.kill b).get a := by unfold AMem.get; rfl
  rw [this, AMem.get_kill, if_neg hab, hga]
 refine (ins_walk (cs := cs ++ zs) shown_hp (by rw [hn0]; exact ha) hg0 htv hov (by rw [List.length_append]; omega) (oneCell_plain hall) (oneCell_plain hpv) hnc hin hlim).mono fun v m3 ⟨b3, c3, cs', tag, ps, h1, h2, h3, h4, h5, h6⟩ => ?_
 have hwl := h2.ext.wl
 rw [hn0] at hwl
 have hwl' : m.next ≤ m3.wl := by rwa [Nat.min_eq_left (Nat.le_refl _)] at hwl
 have hget := (h2.get (k := 0) rfl).2.2
 have hlo := (h2.get (k := 0) rfl).1
 rw [hn0] at hlo
 have hnew : cs.take (i * 2) ++ (vs.drop o).take 2 ++ cs.drop (i * 2) = cs'.take ((n + 1) * 2) := by
  have e2 : (cs.drop (i * 2)).take ((n - i) * 2) = cs.drop (i * 2) := List.take_of_length_le (by rw [List.length_drop]; omega)
  rw [h4, List.take_append_of_le_length (by omega), List.drop_append_of_le_length (by omega), List.take_append_of_le_length (by rw [List.length_drop]; omega), e2]
 refine ⟨hwl', b3, c3, cs'.drop ((n + 1) * 2), tag, h1, hlo, ?_, plain_sub (h5 hall hpv) fun v hv => List.mem_of_mem_drop hv, h3, ?_⟩
 ·rw [hnew, List.take_append_drop]; exact hget
 ·rcases h6 with ⟨h6, h7⟩ | ⟨h6, h7, h8⟩
  ·exact .inl ⟨h6, by rw [hnew, ← List.length_append, List.take_append_drop]; exact h7⟩
  ·exact .inr ⟨h6, List.drop_eq_nil_of_le (by omega), h8⟩
end Go.Proofs.YtpclggcpobakhaaDoor
end

section
/-
  Chapter 18: facts of types.
-/
namespace Go.Proofs.YtpclggcpobakhaaDoor
open Go Go.Ab
theorem P18 : E18.P = Tryd.prog := rfl
theorem u3 : Tryd.prog.underlying 3 = some (.int .i64) := by kernel_rfl
theorem u5 : Tryd.prog.underlying 5 = some (.int .u8) := by kernel_rfl
theorem u23 : Tryd.prog.underlying 23 = some (.slice 26) := by kernel_rfl
theorem u26 : Tryd.prog.underlying 26 = some (.array 2 3) := by kernel_rfl
theorem u28 : Tryd.prog.underlying 28 = some (.int .u64) := by kernel_rfl
theorem u36 : Tryd.prog.underlying 36 = some (.slice 28) := by kernel_rfl
theorem u39 : Tryd.prog.underlying 39 = some (.slice 3) := by kernel_rfl
theorem u104 : Tryd.prog.underlying 104 = some (.array 64 5) := by kernel_rfl
theorem k3 : known Tryd.prog 3 = true := by kernel_rfl
theorem k5 : known Tryd.prog 5 = true := by kernel_rfl
theorem k23 : known Tryd.prog 23 = true := by kernel_rfl
theorem k25 : known Tryd.prog 25 = true := by kernel_rfl
theorem k26 : known Tryd.prog 26 = true := by kernel_rfl
theorem k28 : known Tryd.prog 28 = true := by kernel_rfl
theorem s3 : sizeA Tryd.prog 3 = 1 := by kernel_rfl
theorem s5 : sizeA Tryd.prog 5 = 1 := by kernel_rfl
theorem s23 : sizeA Tryd.prog 23 = 1 := by kernel_rfl
theorem s25 : sizeA Tryd.prog 25 = 2 := by kernel_rfl
theorem s26 : sizeA Tryd.prog 26 = 2 := by kernel_rfl
theorem s28 : sizeA Tryd.prog 28 = 1 := by kernel_rfl
theorem a3 : isAggA Tryd.prog 3 = false := by kernel_rfl
theorem a5 : isAggA Tryd.prog 5 = false := by kernel_rfl
theorem a23 : isAggA Tryd.prog 23 = false := by kernel_rfl
theorem a25 : isAggA Tryd.prog 25 = true := by kernel_rfl
theorem a26 : isAggA Tryd.prog 26 = true := by kernel_rfl
theorem a28 : isAggA Tryd.prog 28 = false := by kernel_rfl
end Go.Proofs.YtpclggcpobakhaaDoor
end

section
/-
  Chapter 18: the contract of bits.TrailingZeros64.
-/
namespace Go.Proofs.YtpclggcpobakhaaDoor
open Go Go.Ab
set_option maxRecDepth 10000

theorem tab_tz : ∀ k : Fin 64, (tabInts.map (Value.int .u8))[(2 ^ k.val * 285870213051353865 % 2 ^ 64) >>> 58]?.map (fun v => match v with | .int .u8 n => decide (n = k.val) | _ => false) = some true := by decide +kernel
theorem tab_at (k : Nat) (hk : k < 64) : (tabInts.map (Value.int .u8))[(2 ^ k * 285870213051353865 % 2 ^ 64) >>> 58]? = some (.int .u8 (k : Int)) := by
 have := tab_tz ⟨k, hk⟩
 cases h : (tabInts.map (Value.int .u8))[(2 ^ k * 285870213051353865 % 2 ^ 64) >>> 58]? with
 | none => rw [h] at this; cases this
 | some v =>
  rw [h] at this
  simp only [Option.map_some, Option.some.injEq] at this
  split at this
  ·rw [of_decide_eq_true this]
  ·cases this
def neg64 (x : Nat) : Nat := 2 ^ 64 - x
def mul64 (x y : Nat) : Nat := x * y % 2 ^ 64
theorem neg_u64 (x : Nat) (h0 : 0 < x) (h1 : x < 2 ^ 64) : unA .neg (.int .u64 (x : Int)) = some (.int .u64 ((neg64 x : Nat) : Int)) := by
 simp only [unA, neg64]
 have : IntKind.u64.wrap (0 - (x : Int)) = ((2 ^ 64 - x : Nat) : Int) := by
  unfold IntKind.wrap IntKind.bits IntKind.signed
  simp only [Bool.false_and, Bool.false_eq_true, if_false]
  omega
 rw [this]
theorem mul_u64 {ty : TypeId} {P : Program} (x : Nat) : binA .mul ty P (.int .u64 (x : Int)) (.int .u64 285870213051353865) = some (.int .u64 ((mul64 x 285870213051353865 : Nat) : Int)) := by
 simp only [binA, if_true, mul64]
 have : IntKind.u64.wrap ((x : Int) * 285870213051353865) = ((x * 285870213051353865 % 2 ^ 64 : Nat) : Int) := by
  unfold IntKind.wrap IntKind.bits IntKind.signed
  simp only [Bool.false_and, Bool.false_eq_true, if_false]
  omega
 rw [this]
theorem shr_u64 {ty : TypeId} {P : Program} (x : Nat) : binA .shr ty P (.int .u64 (x : Int)) (.int .u64 58) = some (.int .u64 ((x >>> 58 : Nat) : Int)) := bin_shr64 x 58 .u64 (by omega)
theorem and_u64 {ty : TypeId} {P : Program} (x : Nat) (h0 : 0 < x) (h1 : x < 2 ^ 64) : binA .and ty P (.int .u64 (x : Int)) (.int .u64 ((neg64 x : Nat) : Int)) = some (.int .u64 ((2 ^ tz x : Nat) : Int)) := by
 rw [bin_and64 x (neg64 x) h1 (by unfold neg64; omega)]
 unfold neg64
 rw [(tz_low h0 h1).2.1]
theorem tab_idx (k : Nat) (hk : k < 64) : indexAddrA Tryd.prog 104 (ptr 0 0) (.int .u64 ((mul64 (2 ^ k) 285870213051353865 >>> 58 : Nat) : Int)) = some (ptr 0 (mul64 (2 ^ k) 285870213051353865 >>> 58)) := by
 have hlt : mul64 (2 ^ k) 285870213051353865 >>> 58 < 64 := by
  rw [Nat.shiftRight_eq_div_pow]
  have : mul64 (2 ^ k) 285870213051353865 < 2 ^ 64 := Nat.mod_lt _ (by omega)
  omega
 rw [idxArr u104 k5 s5 hlt]
 simp
def dbMul (k : Nat) : Nat := mul64 (2 ^ k) 285870213051353865
def dbIdx (k : Nat) : Nat := dbMul k >>> 58
theorem mul_db {ty : TypeId} {P : Program} (k : Nat) : binA .mul ty P (.int .u64 ((2 ^ k : Nat) : Int)) (.int .u64 285870213051353865) = some (.int .u64 ((dbMul k : Nat) : Int)) := mul_u64 _
theorem shr_db {ty : TypeId} {P : Program} (k : Nat) : binA .shr ty P (.int .u64 ((dbMul k : Nat) : Int)) (.int .u64 58) = some (.int .u64 ((dbIdx k : Nat) : Int)) := shr_u64 _
theorem idx_db (k : Nat) (hk : k < 64) : indexAddrA Tryd.prog 104 (ptr 0 0) (.int .u64 ((dbIdx k : Nat) : Int)) = some (ptr 0 (dbIdx k)) := tab_idx k hk
theorem conv_5_3 (n : Nat) (h : n < 2 ^ 63) : convA Tryd.prog 5 3 (.int .u8 (n : Int)) = some (.int .i64 (n : Int)) := by
 simp only [convA, u5, u3]
 rw [wrap_i64 _ (by omega) (by omega)]

theorem load_db (k : Nat) (hk : k < 64) {m : AMem} (hm : m.get 0 = some (.cells (tabInts.map (.int .u8)) .ro)) : loadA Tryd.prog 5 (ptr 0 (dbIdx k)) m = some (.int .u8 (k : Int)) := loadOne k5 a5 hm (tab_at k hk)
theorem tz_spec (x : Nat) (hx : x < 2 ^ 64) (m : AMem) (hm : m.get 0 = some (.cells (tabInts.map (.int .u8)) .ro)) : CallA E18 42 [.int .u64 (x : Int)] m (fun v m' => v = .int .i64 (tz x : Int) ∧ m' = m) := by
 refine CallA.enterM (N := 14) (rs := [.tmp 2]) rfl Tryd.func42 rfl rfl rfl ?_
 simp only [ofList_cons, ofList_nil]
 (repeat refine CodeA.seq ?_); refine CodeA.regionK fun K hK => ?_
 refine st_op rfl (o_assign (ev_int _ _)) (lt_b rfl) ?_
 refine hK _ _ ?_; clear hK K; try simp only [ta_normal]
 (repeat refine CodeA.seq ?_); refine CodeA.regionK fun K hK => ?_
 refine st_op rfl (o_move (ev_at (by repeat first | (apply at_skip; rfl) | exact at_hit _ _ _ | assumption))) (lt_b rfl) ?_
 refine st_op rfl (o_bin (ev_at (by repeat first | (apply at_skip; rfl) | exact at_hit _ _ _ | assumption)) (ev_int _ _) (bin_eql _ _ _)) (lt_b rfl) ?_
 refine hK _ _ ?_; clear hK K; try simp only [ta_normal]
 by_cases h0 : x = 0
 ·refine CodeA.cond (c := true) ((ev_at (by repeat first | (apply at_skip; rfl) | exact at_hit _ _ _ | assumption)).trans (by rw [h0]; rfl)) (fun _ => ?_) (fun h => by cases h)
  (repeat refine CodeA.seq ?_); refine CodeA.regionK fun K hK => ?_
  refine st_op rfl (o_assign (ev_int _ _)) (lt_b rfl) ?_
  refine hK _ _ ?_; clear hK K; try simp only [ta_normal]
  refine CodeA.ret ?_; simp only [ta_ret, ib_ret, em_ret, resultsA, resM_some, tupleA, Option.map_some, at_set, Nat.reduceEqDiff, reduceIte]
  rw [h0]
  exact ⟨by trivial, by trivial⟩
 ·have hp : 0 < x := by omega
  have hk := (tz_low hp hx).1
  refine CodeA.cond (c := false) ((ev_at (by repeat first | (apply at_skip; rfl) | exact at_hit _ _ _ | assumption)).trans (by rw [decide_eq_false (by omega)])) (fun h => by cases h) (fun _ => ?_)
  refine CodeA.skip ?_
  rw [ta_normal]
  (repeat refine CodeA.seq ?_); refine CodeA.regionK fun K hK => ?_
  refine st_op rfl (o_move (ev_at (by repeat first | (apply at_skip; rfl) | exact at_hit _ _ _ | assumption))) (lt_b rfl) ?_
  refine st_op rfl (o_move (ev_at (by repeat first | (apply at_skip; rfl) | exact at_hit _ _ _ | assumption))) (lt_b rfl) ?_
  refine st_op rfl (o_un (ev_at (by repeat first | (apply at_skip; rfl) | exact at_hit _ _ _ | assumption)) (neg_u64 x hp hx)) (lt_b rfl) ?_
  refine st_op rfl (o_bin (ev_at (by repeat first | (apply at_skip; rfl) | exact at_hit _ _ _ | assumption)) (ev_at (by repeat first | (apply at_skip; rfl) | exact at_hit _ _ _ | assumption)) (and_u64 x hp hx)) (lt_b rfl) ?_
  refine st_op rfl (o_bin (ev_at (by repeat first | (apply at_skip; rfl) | exact at_hit _ _ _ | assumption)) (ev_int _ _) (mul_db _)) (lt_b rfl) ?_
  refine st_op rfl (o_bin (ev_at (by repeat first | (apply at_skip; rfl) | exact at_hit _ _ _ | assumption)) (ev_int _ _) (shr_db _)) (lt_b rfl) ?_
  refine st_op rfl (o_indexAddr rfl (ev_at (by repeat first | (apply at_skip; rfl) | exact at_hit _ _ _ | assumption)) (idx_db _ hk)) (lt_b rfl) ?_
  refine st_op rfl (o_load (ev_at (by repeat first | (apply at_skip; rfl) | exact at_hit _ _ _ | assumption)) (load_db _ hk hm)) (lt_b rfl) ?_
  refine st_op rfl (o_conv (ev_at (by repeat first | (apply at_skip; rfl) | exact at_hit _ _ _ | assumption)) (conv_5_3 _ (Nat.lt_trans hk (by decide)))) (lt_b rfl) ?_
  refine st_op rfl (o_assign (ev_at (by repeat first | (apply at_skip; rfl) | exact at_hit _ _ _ | assumption))) (lt_b rfl) ?_
  refine hK _ _ ?_; clear hK K; try simp only [ta_normal]
  refine CodeA.ret ?_; simp only [ta_ret, ib_ret, em_ret, resultsA, resM_some, tupleA, Option.map_some, at_set, Nat.reduceEqDiff, reduceIte]
  exact ⟨by trivial, by trivial⟩
end Go.Proofs.YtpclggcpobakhaaDoor
end

section
/-
  Chapter 18: the contract of graph.around.
-/
namespace Go.Proofs.YtpclggcpobakhaaDoor
open Go Go.Ab
set_option maxRecDepth 10000

theorem z26 : zeroA Tryd.prog 26 = some (.agg #[.int .i64 0, .int .i64 0]) := by kernel_rfl
theorem z28 : zeroA Tryd.prog 28 = some (.int .u64 0) := by kernel_rfl
theorem i28 : (Tryd.prog.info? 28).map (fun i => i.bytes) = some 8 := by kernel_rfl
theorem fa25_0 (b o : Nat) : fieldAddrA Tryd.prog 25 (ptr b o) 0 = some (ptr b (o + 0)) := by kernel_rfl
theorem fa25_1 (b o : Nat) : fieldAddrA Tryd.prog 25 (ptr b o) 1 = some (ptr b (o + 1)) := by kernel_rfl
theorem ia26_0 (b o : Nat) : indexAddrA Tryd.prog 26 (ptr b o) (.int .i64 0) = some (ptr b o) := by
 have := idxArr (P := Tryd.prog) (b := b) (o := o) (kd := .i64) u26 k3 s3 (i := 0) (by decide)
 simpa using this
theorem ia26_1 (b o : Nat) : indexAddrA Tryd.prog 26 (ptr b o) (.int .i64 1) = some (ptr b (o + 1)) := by
 have := idxArr (P := Tryd.prog) (b := b) (o := o) (kd := .i64) u26 k3 s3 (i := 1) (by decide)
 simpa using this
theorem repeatL_one (v : Value) : ∀ n, repeatL [v] n = List.replicate n v
 | 0 => rfl
 | n + 1 => by simp [repeatL, repeatL_one v n, List.replicate_succ]
theorem ms36 {t : Tm} {m : AMem} {n : Nat} (h : t.at 7 = .int .i64 (n : Int)) (hn : n ≤ 64) : opA E18 t m (.makeSlice 36 (.tmp 7) (.tmp 7)) = some (.slice (some ⟨m.next, 0, none⟩) n n, m.alloc (.cells (List.replicate n (.int .u64 0)) .own)) := by
 have hz : zerosA Tryd.prog 28 n = some (List.replicate n (.int .u64 0)) := by
  simp only [zerosA, z28]
  rw [if_pos (by rw [s28]; rfl)]
  exact congrArg some (repeatL_one _ n)
 have ha : (List.replicate n (Value.int .u64 0)).all plain1 = true := by simp [List.all_replicate, plain1]
 have hi : (Tryd.prog.info? 28).any (fun i => i.bytes * (n : Int) ≤ 2 ^ 40 && i.bytes != 0) = true := by
  have := i28
  cases hh : Tryd.prog.info? 28 with
  | none => rw [hh] at this; cases this
  | some i =>
   rw [hh] at this
   simp only [Option.map_some, Option.some.injEq] at this
   simp only [Option.any_some, this]
   simp; omega
 have hc : (0 : Int) ≤ (n : Int) ∧ (n : Int) ≤ (n : Int) ∧ (Tryd.prog.info? 28).any (fun i => i.bytes * (n : Int) ≤ 2 ^ 40 && i.bytes != 0) = true ∧ known Tryd.prog 28 = true := ⟨by omega, by omega, hi, k28⟩
 simp only [opA, P18, u36, ev_tmp, h, Int.toNat_natCast, hz]
 rw [if_pos hc, if_pos ha]

def cw (w : Nat) : Value := .int .u64 (w : Int)
def ecells (e : Nat × Nat) : List Value := [.int .i64 (e.1 : Int), .int .i64 (e.2 : Int)]
def addE (o : List Nat) (e : Nat × Nat) : List Nat :=
 let o1 := o.set e.1 (o.getD e.1 0 ||| 2 ^ e.2)
 o1.set e.2 (o1.getD e.2 0 ||| 2 ^ e.1)
def aroundL (n : Nat) (es : List (Nat × Nat)) : List Nat := es.foldl addE (List.replicate n 0)
theorem addE_len (o : List Nat) (e : Nat × Nat) : (addE o e).length = o.length := by simp [addE]
theorem foldl_len : ∀ (es : List (Nat × Nat)) (o : List Nat), (es.foldl addE o).length = o.length
 | [], _ => rfl
 | e :: es, o => by rw [List.foldl_cons, foldl_len es, addE_len]
theorem around_len (n : Nat) (es : List (Nat × Nat)) : (aroundL n es).length = n := by unfold aroundL; rw [foldl_len, List.length_replicate]
theorem set_lt {o : List Nat} {i v : Nat} (h : ∀ x ∈ o, x < 2 ^ 64) (hv : v < 2 ^ 64) : ∀ x ∈ o.set i v, x < 2 ^ 64 := by
 intro x hx
 rcases List.mem_or_eq_of_mem_set hx with h1 | h1
 ·exact h x h1
 ·rw [h1]; exact hv
theorem getD_lt {o : List Nat} {i : Nat} (h : ∀ x ∈ o, x < 2 ^ 64) : o.getD i 0 < 2 ^ 64 := by
 rw [List.getD_eq_getElem?_getD]
 cases hi : o[i]? with
 | none => simp
 | some x => exact h x (List.mem_of_getElem? hi)
theorem addE_lt {o : List Nat} {e : Nat × Nat} (h : ∀ x ∈ o, x < 2 ^ 64) (h1 : e.1 < 64) (h2 : e.2 < 64) : ∀ x ∈ addE o e, x < 2 ^ 64 := by
 have hp : ∀ k, k < 64 → 2 ^ k < 2 ^ 64 := fun k hk => Nat.pow_lt_pow_right (by omega) hk
 have a1 := set_lt (i := e.1) h (Nat.or_lt_two_pow (getD_lt (i := e.1) h) (hp _ h2))
 exact set_lt a1 (Nat.or_lt_two_pow (getD_lt a1) (hp _ h1))
theorem fold_lt : ∀ (es : List (Nat × Nat)) (o : List Nat), (∀ x ∈ o, x < 2 ^ 64) → (∀ e ∈ es, e.1 < 64 ∧ e.2 < 64) → ∀ x ∈ es.foldl addE o, x < 2 ^ 64
 | [], o, h, _ => h
 | e :: es, o, h, he => fold_lt es (addE o e) (addE_lt h (he e (by simp)).1 (he e (by simp)).2) fun e' h' => he e' (by simp [h'])
theorem get_cw {o : List Nat} {i : Nat} (h : i < o.length) : (o.map cw)[i]? = some (cw (o.getD i 0)) := by
 rw [List.getElem?_map, List.getD_eq_getElem?_getD]
 simp [h]

theorem get_cw1 {o : List Nat} {i : Nat} (h : i < o.length) : (o.map cw)[0 + i * 1]? = some (cw (o.getD i 0)) := by
 rw [show 0 + i * 1 = i by omega]; exact get_cw h
theorem st28 {M : AMem} {b i w : Nat} {cs : List Value} (hg : M.get b = some (.cells cs .own)) (h : i < cs.length) : storeA E18.P 28 (ptr b (0 + i * 1)) (.int .u64 (w : Int)) (M.ww M.next) = some ((M.ww M.next).set b (.cells (cs.set i (cw w)) .own)) := by
 rw [show 0 + i * 1 = i by omega]
 exact storeOne (P := Tryd.prog) k28 s28 rfl hg h
theorem st26 (e : Nat × Nat) (m : AMem) : storeA E18.P 26 (ptr m.next 0) (.agg (ecells e).toArray) (m.alloc (.cells [.int .i64 0, .int .i64 0] .own)) = some ((m.alloc (.cells [.int .i64 0, .int .i64 0] .own)).set m.next (.cells (ecells e) .own)) :=
 (storeOwn (P := Tryd.prog) (cs := [.int .i64 0, .int .i64 0]) k26 (by rw [s26]; rfl) (by rfl) (by simp [ecells, Value.cells]) (by rw [AMem.get_alloc, if_pos rfl]) (by simp [ecells, Value.cells])).trans (by rfl)
attribute [local irreducible] Tm.at Trie.set Trie.get AMem.get AMem.set AMem.alloc AMem.ww
set_option maxHeartbeats 4000000 in
theorem around_spec (n : Nat) (es : List (Nat × Nat)) (sl : Value) (m : AMem) (hn : n ≤ 64) (he : ∀ e ∈ es, e.1 < n ∧ e.2 < n) (hs : SlA m 2 sl (es.map ecells)) (hwl : m.next ≤ m.wl) (hlen : es.length ≤ 1000) :
  CallA E18 75 [.agg #[.int .i64 (n : Int), sl]] m (fun v m' => ∃ b, v = .slice (some ⟨b, 0, none⟩) n n ∧ m.next ≤ b ∧ b < m'.next ∧ m'.get b = some (.cells ((aroundL n es).map cw) .own) ∧ Grown m m') := by
 refine CallA.enterM (N := 38) (rs := [.tmp 2]) rfl Tryd.func75 rfl rfl rfl ?_
 simp only [ofList_cons, ofList_nil]
 (repeat refine CodeA.seq ?_); refine CodeA.regionK fun K hK => ?_
 refine st_op rfl (o_box (ev_at (by repeat first | (apply at_skip; rfl) | exact at_hit _ _ _ | assumption))) (lt_b rfl) ?_
 refine st_op rfl (o_assign (ev_snil _ _)) (lt_b rfl) ?_
 refine hK _ _ ?_; clear hK K; try simp only [ta_normal]
 have c1 : (Value.agg #[.int .i64 (n : Int), sl]).cells.toList = [.int .i64 (n : Int), sl] := rfl
 rw [c1]
 obtain ⟨M, hM⟩ : ∃ M, M = m.alloc (.cells [.int .i64 (n : Int), sl] .own) := ⟨_, rfl⟩
 rw [← hM]
 have g1 : M.get m.next = some (.cells [.int .i64 (n : Int), sl] .own) := by rw [hM, AMem.get_alloc, if_pos rfl]
 have x1 : Ext m M := by rw [hM]; exact (Ext.refl m).alloc _
 have n1 : M.next = m.next + 1 := by rw [hM, AMem.next_alloc]
 (repeat refine CodeA.seq ?_); refine CodeA.regionK fun K hK => ?_
 refine st_op rfl (o_fieldAddr (ev_at (by repeat first | (apply at_skip; rfl) | exact at_hit _ _ _ | assumption)) (fa25_0 _ _)) (lt_b rfl) ?_
 refine st_op rfl (o_load (ev_at (by repeat first | (apply at_skip; rfl) | exact at_hit _ _ _ | assumption)) (loadOne k3 a3 g1 rfl)) (lt_b rfl) ?_
 refine st_op rfl (o_gen rfl (ms36 (at_hit _ _ _) hn)) (lt_b rfl) ?_
 refine st_op rfl (o_assign (ev_at (by repeat first | (apply at_skip; rfl) | exact at_hit _ _ _ | assumption))) (lt_b rfl) ?_
 refine hK _ _ ?_; clear hK K; try simp only [ta_normal]
 obtain ⟨M2, hM2⟩ : ∃ M2, M2 = M.alloc (.cells (List.replicate n (.int .u64 0)) .own) := ⟨_, rfl⟩
 rw [← hM2]
 have g2 : M2.get m.next = some (.cells [.int .i64 (n : Int), sl] .own) := by rw [hM2, AMem.get_alloc, if_neg (by omega)]; exact g1
 have g2b : M2.get M.next = some (.cells ((aroundL n []).map cw) .own) := by
  rw [hM2, AMem.get_alloc, if_pos rfl]
  simp [aroundL, cw]
 have x2 : Ext m M2 := by rw [hM2]; exact x1.alloc _
 have n2 : M2.next = M.next + 1 := by rw [hM2, AMem.next_alloc]
 clear hM hM2
 (repeat refine CodeA.seq ?_); refine CodeA.regionK fun K hK => ?_
 refine st_op rfl (o_fieldAddr (ev_at (by repeat first | (apply at_skip; rfl) | exact at_hit _ _ _ | assumption)) (fa25_1 _ _)) (lt_b rfl) ?_
 refine st_op rfl (o_load (ev_at (by repeat first | (apply at_skip; rfl) | exact at_hit _ _ _ | assumption)) (loadOne k23 a23 g2 rfl)) (lt_b rfl) ?_
 refine st_op rfl (o_builtin (ea_cons (ev_at (by repeat first | (apply at_skip; rfl) | exact at_hit _ _ _ | assumption)) ea_nil) (SlA.len (E := E18) (hs.mono x2) u23)) (lt_b rfl) ?_
 refine st_op rfl (o_move (ev_int _ _)) (lt_b rfl) ?_
 refine hK _ _ ?_; clear hK K; try simp only [ta_normal]
 refine CodeA.block (CodeA.loop ?_)
 refine LoopA.inv (fun r t M' => ∃ k, k + r = es.length ∧ t.at 3 = .slice (some ⟨M.next, 0, none⟩) n n ∧ t.at 10 = sl ∧ t.at 11 = .int .i64 (es.length : Int) ∧ t.at 12 = .int .i64 (k : Int) ∧ M'.get M.next = some (.cells ((aroundL n (es.take k)).map cw) .own) ∧ Ext m M' ∧ M.next < M'.next) ?_ es.length _ _
  ⟨0, by omega, (by repeat first | (apply at_skip; rfl) | exact at_hit _ _ _ | assumption), (by repeat first | (apply at_skip; rfl) | exact at_hit _ _ _ | assumption), (show Tm.at _ 11 = .int .i64 ((es.map ecells).length : Nat) from (by repeat first | (apply at_skip; rfl) | exact at_hit _ _ _ | assumption)).trans (by rw [List.length_map]), (show Tm.at _ 12 = .int .i64 0 from (by repeat first | (apply at_skip; rfl) | exact at_hit _ _ _ | assumption)).trans (by rfl), g2b, x2, by omega⟩
 rintro r t M' ⟨k, hk, h3, h10, h11, h12, hg, hx, hlt⟩
 by_cases hkl : k < es.length
 ·have hek : es[k]? = some es[k] := by simp [hkl]
  obtain ⟨e, hee⟩ : ∃ e, e = es[k] := ⟨_, rfl⟩
  rw [← hee] at hek
  have hemem : e ∈ es := List.mem_of_getElem? hek
  obtain ⟨ha, hb⟩ := he e hemem
  have hxi : (es.map ecells)[k]? = some (ecells e) := by rw [List.getElem?_map, hek]; rfl
  obtain ⟨pp, hp1, ⟨pb, po, hpp, hpb⟩, hp2⟩ := (hs.mono hx).elem u23 k26 s26 a26 hxi .i64
  subst hpp
  have htake : es.take (k + 1) = es.take k ++ [e] := by rw [List.take_add_one, hek]; rfl
  obtain ⟨o, ho⟩ : ∃ o, o = aroundL n (es.take k) := ⟨_, rfl⟩
  rw [← ho] at hg
  have hol : o.length = n := by rw [ho, around_len]
  have hob : ∀ x ∈ o, x < 2 ^ 64 := by
   rw [ho]
   refine fold_lt _ _ (by intro x hx'; rw [List.eq_of_mem_replicate hx']; omega) fun e' he' => ?_
   have := he e' (List.mem_of_mem_take he')
   omega
  have honext : aroundL n (es.take (k + 1)) = addE o e := by rw [htake, ho]; simp [aroundL, List.foldl_append]
  clear ho htake
  (repeat refine CodeA.seq ?_); refine CodeA.regionK fun K hK => ?_
  refine st_op rfl (o_bin (ev_at (by repeat first | (apply at_skip; rfl) | exact at_hit _ _ _ | assumption)) (ev_at (by repeat first | (apply at_skip; rfl) | exact at_hit _ _ _ | assumption)) (bin_lss _ _ _)) (lt_b rfl) ?_
  refine hK _ _ ?_; clear hK K; try simp only [ta_normal]
  refine CodeA.seq (CodeA.cond (c := true) ((ev_at (by repeat first | (apply at_skip; rfl) | exact at_hit _ _ _ | assumption)).trans (by rw [decide_eq_true (by omega)])) (fun _ => CodeA.skip ?_) (fun h => by cases h))
  rw [ta_normal]
  refine CodeA.seq (CodeA.block ?_)
  (repeat refine CodeA.seq ?_); refine CodeA.regionK fun K hK => ?_
  refine st_op rfl (o_indexAddr (ev_at (by repeat first | (apply at_skip; rfl) | exact at_hit _ _ _ | assumption)) (ev_at (by repeat first | (apply at_skip; rfl) | exact at_hit _ _ _ | assumption)) hp1) (lt_b rfl) ?_
  refine st_op rfl (o_load (ev_at (by repeat first | (apply at_skip; rfl) | exact at_hit _ _ _ | assumption)) hp2) (lt_b rfl) ?_
  refine st_op rfl (o_alloc z26 rfl) (lt_b rfl) ?_
  refine st_op0 rfl (o_store (ev_at (by repeat first | (apply at_skip; rfl) | exact at_hit _ _ _ | assumption)) (ev_at (by repeat first | (apply at_skip; rfl) | exact at_hit _ _ _ | assumption)) (st26 _ _)) ?_
  refine hK _ _ ?_; clear hK K; try simp only [ta_normal]
  generalize h5M : AMem.set _ _ _ = M5
  have hne : M'.next ≠ M.next := by omega
  have g5x : M5.get M'.next = some (.cells (ecells e) .own) := by rw [← h5M, AMem.get_set, if_pos rfl]
  have g5o : M5.get M.next = some (.cells (o.map cw) .own) := by rw [← h5M, AMem.get_set, if_neg hne.symm, AMem.get_alloc, if_neg hne.symm]; exact hg
  have x5 : Ext m M5 := by rw [← h5M]; exact (hx.alloc _).set hx.next _
  have n5 : M5.next = M'.next + 1 := by rw [← h5M, AMem.next_set, AMem.next_alloc]
  clear h5M
  (repeat refine CodeA.seq ?_); refine CodeA.drawW (by kernel_rfl) fun K hK => ?_
  refine sw_pure rfl rfl (o_move (ev_at (by repeat first | (apply at_skip; rfl) | exact at_hit _ _ _ | assumption))) (lt_b rfl) ?_
  refine sw_pure rfl rfl (o_indexAddr (ev_at (by repeat first | (apply at_skip; rfl) | exact at_hit _ _ _ | assumption)) (ev_int _ _) (ia26_0 _ _)) (lt_b rfl) ?_
  refine sw_load rfl (ev_at (by repeat first | (apply at_skip; rfl) | exact at_hit _ _ _ | assumption)) (by omega) (loadOne k3 a3 g5x (by rfl)) (lt_b rfl) ?_
  refine sw_pure rfl rfl (o_indexAddr (ev_at (by repeat first | (apply at_skip; rfl) | exact at_hit _ _ _ | assumption)) (ev_at (by repeat first | (apply at_skip; rfl) | exact at_hit _ _ _ | assumption)) (idxSl (i := e.1) u36 k28 s28 ha)) (lt_b rfl) ?_
  refine sw_load rfl (ev_at (by repeat first | (apply at_skip; rfl) | exact at_hit _ _ _ | assumption)) (by omega) (loadOne k28 a28 g5o (get_cw1 (o := o) (i := e.1) (by omega))) (lt_b rfl) ?_
  refine sw_pure rfl rfl (o_indexAddr (ev_at (by repeat first | (apply at_skip; rfl) | exact at_hit _ _ _ | assumption)) (ev_int _ _) (ia26_1 _ _)) (lt_b rfl) ?_
  refine sw_load rfl (ev_at (by repeat first | (apply at_skip; rfl) | exact at_hit _ _ _ | assumption)) (by omega) (loadOne k3 a3 g5x (by rfl)) (lt_b rfl) ?_
  refine sw_pure rfl rfl (o_bin (ev_int _ _) (ev_at (by repeat first | (apply at_skip; rfl) | exact at_hit _ _ _ | assumption)) (shl64 e.2 (by omega))) (lt_b rfl) ?_
  refine sw_pure rfl rfl (o_bin (ev_at (by repeat first | (apply at_skip; rfl) | exact at_hit _ _ _ | assumption)) (ev_at (by repeat first | (apply at_skip; rfl) | exact at_hit _ _ _ | assumption)) (bin_or64 (o.getD e.1 0) (2 ^ e.2) (getD_lt hob) (Nat.pow_lt_pow_right (by omega) (by omega)))) (lt_b rfl) ?_
  refine sw_pure rfl rfl (o_indexAddr (ev_at (by repeat first | (apply at_skip; rfl) | exact at_hit _ _ _ | assumption)) (ev_at (by repeat first | (apply at_skip; rfl) | exact at_hit _ _ _ | assumption)) (idxSl (i := e.1) u36 k28 s28 ha)) (lt_b rfl) ?_
  refine sw_store rfl (ev_at (by repeat first | (apply at_skip; rfl) | exact at_hit _ _ _ | assumption)) (ev_at (by repeat first | (apply at_skip; rfl) | exact at_hit _ _ _ | assumption)) (st28 g5o (by simp; omega)) ?_
  refine sw_nil ?_; refine hK _ _ ?_; clear hK K; try simp only [ta_normal]
  rw [← List.map_set]
  generalize h6M : AMem.ww _ _ = M6
  have g6x : M6.get M'.next = some (.cells (ecells e) .own) := by rw [← h6M, AMem.get_ww, AMem.get_set, if_neg hne]; exact g5x
  have g6o : M6.get M.next = some (.cells ((o.set e.1 (o.getD e.1 0 ||| 2 ^ e.2)).map cw) .own) := by rw [← h6M, AMem.get_ww, AMem.get_set, if_pos rfl]
  have x6 : Ext m M6 := by rw [← h6M]; exact (x5.set x1.next _).ww (by have := x5.wl; have := x5.next; have := x1.next; omega)
  have n6 : M6.next = M'.next + 1 := by rw [← h6M, AMem.next_ww, AMem.next_set]; exact n5
  clear h6M
  have hob1 : ∀ x ∈ o.set e.1 (o.getD e.1 0 ||| 2 ^ e.2), x < 2 ^ 64 := set_lt hob (Nat.or_lt_two_pow (getD_lt hob) (Nat.pow_lt_pow_right (by omega) (by omega)))
  have hol1 : (o.set e.1 (o.getD e.1 0 ||| 2 ^ e.2)).length = n := by rw [List.length_set, hol]
  obtain ⟨o1, ho1⟩ : ∃ o1, o1 = o.set e.1 (o.getD e.1 0 ||| 2 ^ e.2) := ⟨_, rfl⟩
  rw [← ho1] at g6o hob1 hol1
  (repeat refine CodeA.seq ?_); refine CodeA.drawW (by kernel_rfl) fun K hK => ?_
  refine sw_pure rfl rfl (o_move (ev_at (by repeat first | (apply at_skip; rfl) | exact at_hit _ _ _ | assumption))) (lt_b rfl) ?_
  refine sw_pure rfl rfl (o_indexAddr (ev_at (by repeat first | (apply at_skip; rfl) | exact at_hit _ _ _ | assumption)) (ev_int _ _) (ia26_1 _ _)) (lt_b rfl) ?_
  refine sw_load rfl (ev_at (by repeat first | (apply at_skip; rfl) | exact at_hit _ _ _ | assumption)) (by omega) (loadOne k3 a3 g6x (by rfl)) (lt_b rfl) ?_
  refine sw_pure rfl rfl (o_indexAddr (ev_at (by repeat first | (apply at_skip; rfl) | exact at_hit _ _ _ | assumption)) (ev_at (by repeat first | (apply at_skip; rfl) | exact at_hit _ _ _ | assumption)) (idxSl (i := e.2) u36 k28 s28 hb)) (lt_b rfl) ?_
  refine sw_load rfl (ev_at (by repeat first | (apply at_skip; rfl) | exact at_hit _ _ _ | assumption)) (by omega) (loadOne k28 a28 g6o (get_cw1 (o := o1) (i := e.2) (by omega))) (lt_b rfl) ?_
  refine sw_pure rfl rfl (o_indexAddr (ev_at (by repeat first | (apply at_skip; rfl) | exact at_hit _ _ _ | assumption)) (ev_int _ _) (ia26_0 _ _)) (lt_b rfl) ?_
  refine sw_load rfl (ev_at (by repeat first | (apply at_skip; rfl) | exact at_hit _ _ _ | assumption)) (by omega) (loadOne k3 a3 g6x (by rfl)) (lt_b rfl) ?_
  refine sw_pure rfl rfl (o_bin (ev_int _ _) (ev_at (by repeat first | (apply at_skip; rfl) | exact at_hit _ _ _ | assumption)) (shl64 e.1 (by omega))) (lt_b rfl) ?_
  refine sw_pure rfl rfl (o_bin (ev_at (by repeat first | (apply at_skip; rfl) | exact at_hit _ _ _ | assumption)) (ev_at (by repeat first | (apply at_skip; rfl) | exact at_hit _ _ _ | assumption)) (bin_or64 (o1.getD e.2 0) (2 ^ e.1) (getD_lt hob1) (Nat.pow_lt_pow_right (by omega) (by omega)))) (lt_b rfl) ?_
  refine sw_pure rfl rfl (o_indexAddr (ev_at (by repeat first | (apply at_skip; rfl) | exact at_hit _ _ _ | assumption)) (ev_at (by repeat first | (apply at_skip; rfl) | exact at_hit _ _ _ | assumption)) (idxSl (i := e.2) u36 k28 s28 hb)) (lt_b rfl) ?_
  refine sw_store rfl (ev_at (by repeat first | (apply at_skip; rfl) | exact at_hit _ _ _ | assumption)) (ev_at (by repeat first | (apply at_skip; rfl) | exact at_hit _ _ _ | assumption)) (st28 g6o (by simp; omega)) ?_
  refine sw_nil ?_; refine hK _ _ ?_; clear hK K; try simp only [ta_normal]
  rw [← List.map_set]
  generalize h7M : AMem.ww _ _ = M7
  have g7o : M7.get M.next = some (.cells ((addE o e).map cw) .own) := by rw [← h7M, AMem.get_ww, AMem.get_set, if_pos rfl]; unfold addE; rw [← ho1]
  have x7 : Ext m M7 := by rw [← h7M]; exact (x6.set x1.next _).ww (by have := x6.wl; have := x6.next; have := x1.next; omega)
  have n7 : M7.next = M'.next + 1 := by rw [← h7M, AMem.next_ww, AMem.next_set]; exact n6
  clear h7M
  simp only [ib_normal, ta_normal]
  (repeat refine CodeA.seq ?_); refine CodeA.regionK fun K hK => ?_
  refine st_op rfl (o_bin (ev_at (by repeat first | (apply at_skip; rfl) | exact at_hit _ _ _ | assumption)) (ev_int _ _) (bin_add _ _ _)) (lt_b rfl) ?_
  refine st_op rfl (o_move (ev_at (by repeat first | (apply at_skip; rfl) | exact at_hit _ _ _ | assumption))) (lt_b rfl) ?_
  refine hK _ _ ?_; clear hK K; try simp only [ta_normal]
  refine ⟨r - 1, by omega, k + 1, by omega, (by repeat first | (apply at_skip; rfl) | exact at_hit _ _ _ | assumption), (by repeat first | (apply at_skip; rfl) | exact at_hit _ _ _ | assumption), (by repeat first | (apply at_skip; rfl) | exact at_hit _ _ _ | assumption), (show Tm.at _ 12 = _ from (by repeat first | (apply at_skip; rfl) | exact at_hit _ _ _ | assumption)).trans (by rw [wrap_i64 _ (by omega) (by omega)]; rfl), by rw [honext]; exact g7o, x7, by omega⟩
 ·have hkl' : k = es.length := by omega
  (repeat refine CodeA.seq ?_); refine CodeA.regionK fun K hK => ?_
  refine st_op rfl (o_bin (ev_at (by repeat first | (apply at_skip; rfl) | exact at_hit _ _ _ | assumption)) (ev_at (by repeat first | (apply at_skip; rfl) | exact at_hit _ _ _ | assumption)) (bin_lss _ _ _)) (lt_b rfl) ?_
  refine hK _ _ ?_; clear hK K; try simp only [ta_normal]
  refine CodeA.seq (CodeA.cond (c := false) ((ev_at (by repeat first | (apply at_skip; rfl) | exact at_hit _ _ _ | assumption)).trans (by rw [decide_eq_false (by omega)])) (fun h => by cases h) (fun _ => CodeA.exit ?_))
  simp only [ta_exit, ib_exit, if_true, ta_normal]
  (repeat refine CodeA.seq ?_); refine CodeA.regionK fun K hK => ?_
  refine st_op rfl (o_move (ev_at (by repeat first | (apply at_skip; rfl) | exact at_hit _ _ _ | assumption))) (lt_b rfl) ?_
  refine st_op rfl (o_assign (ev_at (by repeat first | (apply at_skip; rfl) | exact at_hit _ _ _ | assumption))) (lt_b rfl) ?_
  refine hK _ _ ?_; clear hK K; try simp only [ta_normal]
  refine CodeA.ret ?_; simp only [ta_ret, ib_ret, em_ret, resultsA, resM_some, tupleA, Option.map_some, at_set, Nat.reduceEqDiff, reduceIte]
  refine ⟨M.next, rfl, x1.next, hlt, ?_, hx.next, hx.same, by have := hx.wl; omega⟩
  rw [hkl', List.take_length] at hg
  exact hg
end Go.Proofs.YtpclggcpobakhaaDoor
end

section
/- GraphKnown returns true: the kernel evaluates the law by the abstract machine, which is proved to follow the model; two functions are evaluated by their contracts. Conditions: none beyond those of the row. -/
namespace Go.Proofs.YtpclggcpobakhaaDoor
open Go Go.Ab

/-! ### Contracts that are computed -/
def eqTab : List Value → List Int → Bool
 | [], [] => true
 | .int .u8 n :: vs, k :: ks => n == k && eqTab vs ks
 | _, _ => false
theorem eqTab_true : ∀ {vs : List Value} {ks : List Int}, eqTab vs ks = true → vs = ks.map (.int .u8)
 | [], [], _ => rfl
 | [], _ :: _, h => by cases h
 | v :: vs, [], h => by simp [eqTab] at h
 | v :: vs, k :: ks, h => by
  unfold eqTab at h
  split at h
  ·rename_i e _; cases e
  ·rename_i n vs' k' ks' e1 e2
   cases e1; cases e2
   simp only [Bool.and_eq_true, beq_iff_eq] at h
   rw [h.1, eqTab_true h.2]; rfl
  ·cases h
def tabAt (m : AMem) : Bool :=
 match m.get 0 with
 | some (.cells cs .ro) => eqTab cs tabInts
 | _ => false
theorem tabAt_true {m : AMem} (h : tabAt m = true) : m.get 0 = some (.cells (tabInts.map (.int .u8)) .ro) := by
 unfold tabAt at h
 split at h
 ·rename_i cs hg; rw [hg, eqTab_true h]
 ·cases h
def tzRun (args : List Value) (m : AMem) : Option (Value × AMem) :=
 match args with
 | [.int .u64 (.ofNat x)] => if tabAt m && Nat.blt x (2 ^ 64) then some (.int .i64 (.ofNat (tz x)), m) else none
 | _ => none
theorem tz_meets {args : List Value} {m m' : AMem} {v : Value} (h : tzRun args m = some (v, m')) : Meets E18 42 args m v m' := by
 unfold tzRun at h
 split at h
 ·rename_i x
  split at h
  ·rename_i hc
   simp only [Bool.and_eq_true] at hc
   cases h
   have hx : x < 2 ^ 64 := by have := hc.2; rw [Nat.blt_eq] at this; exact this
   refine (tz_spec x hx { m with wl := m.next } (tabAt_true hc.1)).mono ?_
   rintro v1 m1 ⟨rfl, rfl⟩
   exact ⟨⟨Nat.le_refl _, fun _ _ => rfl, Nat.le_refl _⟩, .inl ⟨rfl, rfl, rfl⟩⟩
  ·cases h
 ·cases h

/-- The edges of a slice. -/
def pairsL : Nat → List Value → Option (List (Nat × Nat))
 | 0, _ => some []
 | n + 1, .int .i64 (.ofNat a) :: .int .i64 (.ofNat b) :: cs => (pairsL n cs).map fun l => (a, b) :: l
 | _ + 1, _ => none
theorem pairsL_true : ∀ {n : Nat} {cs : List Value} {es : List (Nat × Nat)}, pairsL n cs = some es → es.length = n ∧ ∀ i x, (es.map ecells)[i]? = some x → (cs.drop (i * 2)).take 2 = x ∧ x.length = 2
 | 0, cs, es, h => by cases h; exact ⟨rfl, fun i x hi => by simp at hi⟩
 | n + 1, cs, es, h => by
  unfold pairsL at h
  split at h
  ·rename_i e; cases e
  ·rename_i n' a b cs' e
   cases e
   cases hp : pairsL n cs' with
   | none => rw [hp] at h; cases h
   | some l =>
    rw [hp] at h
    cases h
    obtain ⟨h1, h2⟩ := pairsL_true hp
    refine ⟨by simp [h1], fun i x hi => ?_⟩
    cases i with
    | zero => simp [ecells] at hi; subst hi; exact ⟨rfl, rfl⟩
    | succ i =>
     have := h2 i x (by simpa using hi)
     rw [show (i + 1) * 2 = i * 2 + 1 + 1 by omega]
     simpa using this
  ·cases h
def edgesOf (m : AMem) (sl : Value) : Option (List (Nat × Nat)) :=
 match sl with
 | .slice none 0 0 => some []
 | .slice (some ⟨b, o, none⟩) len cap => match m.get b with
  | some (.cells cs _) => if Nat.blt b m.next && Nat.ble len cap then pairsL len (cs.drop o) else none
  | _ => none
 | _ => none
theorem edgesOf_true {m : AMem} {sl : Value} {es : List (Nat × Nat)} (h : edgesOf m sl = some es) : SlA m 2 sl (es.map ecells) := by
 unfold edgesOf at h
 split at h
 ·cases h; exact .nil
 ·rename_i b o len cap
  split at h
  ·rename_i cs tag hg
   split at h
   ·rename_i hc
    simp only [Bool.and_eq_true, Nat.blt_eq] at hc
    obtain ⟨h1, h2⟩ := pairsL_true h
    have hl : (es.map ecells).length = len := by rw [List.length_map, h1]
    rw [← hl]
    refine .at hc.1 hg (by rw [hl]; exact Nat.le_of_ble_eq_true hc.2) fun i x hi => ?_
    have := h2 i x hi
    rw [List.drop_drop] at this
    exact this
   ·cases h
  ·cases h
 ·cases h
def okE (n : Nat) : List (Nat × Nat) → Bool
 | [] => true
 | e :: es => Nat.blt e.1 n && Nat.blt e.2 n && okE n es
theorem okE_true {n : Nat} : ∀ {es : List (Nat × Nat)}, okE n es = true → ∀ e ∈ es, e.1 < n ∧ e.2 < n
 | [], _, e, h => by cases h
 | x :: es, h, e, he => by
  simp only [okE, Bool.and_eq_true, Nat.blt_eq] at h
  rcases List.mem_cons.1 he with rfl | he
  ·exact ⟨h.1.1, h.1.2⟩
  ·exact okE_true h.2 e he
def aroundRun (args : List Value) (m : AMem) : Option (Value × AMem) :=
 match args with
 | [.agg ⟨[.int .i64 (.ofNat n), sl]⟩] => match edgesOf m sl with
  | some es => if Nat.ble n 64 && okE n es && Nat.ble es.length 1000 then some (.slice (some ⟨m.next, 0, none⟩) n n, m.alloc (.cells ((aroundL n es).map cw) .own)) else none
  | none => none
 | _ => none
theorem slA_wl {m : AMem} {x w : Nat} {sl : Value} {xs : List (List Value)} (h : SlA m w sl xs) : SlA { m with wl := x } w sl xs := by
 cases h with
 | nil => exact .nil
 | «at» hb hg hc hx => exact .at hb hg hc hx
theorem around_meets {args : List Value} {m m' : AMem} {v : Value} (h : aroundRun args m = some (v, m')) : Meets E18 75 args m v m' := by
 unfold aroundRun at h
 split at h
 ·rename_i n sl
  split at h
  ·rename_i es hes
   split at h
   ·rename_i hc
    simp only [Bool.and_eq_true] at hc
    cases h
    refine (around_spec n es sl { m with wl := m.next } (Nat.le_of_ble_eq_true hc.1.1) (okE_true hc.1.2) (slA_wl (edgesOf_true hes)) (Nat.le_refl _) (Nat.le_of_ble_eq_true hc.2)).mono ?_
    rintro v1 m1 ⟨b, rfl, h1, h2, h3, h4⟩
    refine ⟨⟨h4.next, h4.same, h4.wl⟩, .inr ⟨fun b => .slice (some ⟨b, 0, none⟩) n n, b, _, _, Leads.slice 0 n n, rfl, rfl, h1, h2, h3, ?_, rfl⟩⟩
    rw [List.all_map]
    exact List.all_eq_true.2 fun w _ => rfl
   ·cases h
  ·cases h
 ·cases h

def pr18 (f : FuncId) : Option Prim := if f = 42 then some ⟨tzRun⟩ else if f = 75 then some ⟨aroundRun⟩ else none
noncomputable def E18p : Env := { E18 with prim := pr18 }
theorem E18p_ok : EnvOk E18p := envOk_prims E18ok fun f p hp args m v m' h => by
 unfold pr18 at hp
 split at hp
 ·rename_i e; cases hp; rw [e]; exact tz_meets h
 ·split at hp
  ·rename_i e; cases hp; rw [e]; exact around_meets h
  ·cases hp

/-! ### Contracts, evaluated -/
noncomputable def tzK (args : List Value) (m : AMem) (K : Value → AMem → Bool) : Bool :=
 nthK 0 args fun a => ifB (lenK args 1) (vInt a fun kd z => ifB (eqKind kd .u64) (natZ z (fun x => ifB (Nat.blt x 18446744073709551616) (cellsK m 0 fun cs tag => Tag.rec (motive := fun _ => Bool) (ifB (eqTab cs tabInts) (fN (tz x) fun k => K (.int .i64 (.ofNat k)) m) false) false (fun _ => false) tag) false) false) false) false
theorem tzK_ok {args : List Value} {m : AMem} {K : Value → AMem → Bool} (h : tzK args m K = true) : ∃ v m', tzRun args m = some (v, m') ∧ K v m' = true := by
 obtain ⟨a, ha, h⟩ := nthK_true h
 obtain ⟨hl, h⟩ := ifB_and h
 have hargs : args = [a] := by
  have := lenK_true hl
  cases args with
  | nil => cases ha
  | cons x xs =>
   have h0 : xs = [] := by simpa using this
   subst h0
   simpa using ha
 obtain ⟨kd, z, e1, h⟩ := vInt_true h
 obtain ⟨hk, h⟩ := ifB_and h
 cases eqKind_true hk
 rcases natZ_cases h with ⟨x, e2, h⟩ | h
 ·obtain ⟨hx, h⟩ := ifB_and h
  obtain ⟨cs, tag, hg, h⟩ := cellsK_true h
  cases tag with
  | ro =>
   obtain ⟨ht, h⟩ := ifB_and h
   rw [fN_eq] at h
   have htab : tabAt m = true := by unfold tabAt; rw [hg]; exact ht
   refine ⟨_, _, ?_, h⟩
   rw [hargs, e1, e2]
   show (if tabAt m && Nat.blt x (2 ^ 64) then _ else none) = _
   have hx' : Nat.blt x (2 ^ 64) = true := hx
   rw [htab, hx']
   rfl
  | own => cases h
  | more sz => cases h
 ·cases h

noncomputable def pairsK : Nat → List Value → (List (Nat × Nat) → Bool) → Bool :=
 Nat.rec (fun _ k => k []) fun _ ih cs k => List.rec (motive := fun _ => Bool) false (fun va rest _ => List.rec (motive := fun _ => Bool) false (fun vb rest' _ => vInt va fun ka a => vInt vb fun kb b => ifB (eqKind ka .i64) (ifB (eqKind kb .i64) (natZ a (fun a => natZ b (fun b => ih rest' fun l => k ((a, b) :: l)) false) false) false) false) rest) cs
theorem pairsK_true : ∀ {n : Nat} {cs : List Value} {k : List (Nat × Nat) → Bool}, pairsK n cs k = true → ∃ es, pairsL n cs = some es ∧ k es = true
 | 0, cs, k, h => ⟨[], rfl, h⟩
 | n + 1, [], k, h => by cases h
 | n + 1, [_], k, h => by cases h
 | n + 1, va :: vb :: cs, k, h => by
  have h' : (vInt va fun ka a => vInt vb fun kb b => ifB (eqKind ka .i64) (ifB (eqKind kb .i64) (natZ a (fun a => natZ b (fun b => pairsK n cs fun l => k ((a, b) :: l)) false) false) false) false) = true := h
  obtain ⟨ka, a, rfl, h1⟩ := vInt_true h'
  obtain ⟨kb, b, rfl, h2⟩ := vInt_true h1
  obtain ⟨e1, h3⟩ := ifB_and h2
  obtain ⟨e2, h4⟩ := ifB_and h3
  cases eqKind_true e1
  cases eqKind_true e2
  rcases natZ_cases h4 with ⟨x, rfl, h5⟩ | h5
  ·rcases natZ_cases h5 with ⟨y, rfl, h6⟩ | h6
   ·obtain ⟨es, h7, h8⟩ := pairsK_true h6
    refine ⟨(x, y) :: es, ?_, h8⟩
    show (pairsL n cs).map _ = _
    rw [h7]; rfl
   ·cases h6
  ·cases h5
/-- A word of a list gets more bits. -/
noncomputable def orK (i w : Nat) (l : List Nat) (k : List Nat → Bool) : Bool :=
 Nat.rec (motive := fun _ => List Nat → (List Nat → Bool) → Bool) (fun l k => List.rec (motive := fun _ => Bool) (k []) (fun x t _ => fN (Nat.lor x w) fun x => k (x :: t)) l) (fun _ ih l k => List.rec (motive := fun _ => Bool) (k []) (fun x t _ => ih t fun t => k (x :: t)) l) i l k
theorem orK_eq (w : Nat) : ∀ (i : Nat) (l : List Nat) (k : List Nat → Bool), orK i w l k = k (l.set i (l.getD i 0 ||| w))
 | 0, [], k => rfl
 | 0, x :: t, k => by
  show fN (Nat.lor x w) (fun x => k (x :: t)) = _
  rw [fN_eq]; rfl
 | i + 1, [], k => rfl
 | i + 1, x :: t, k => by
  show orK i w t (fun t => k (x :: t)) = _
  rw [orK_eq w i t]
  simp
noncomputable def foldK (es : List (Nat × Nat)) : List Nat → (List Nat → Bool) → Bool :=
 List.rec (motive := fun _ => List Nat → (List Nat → Bool) → Bool) (fun o k => k o) (fun e _ ih o k => Prod.rec (motive := fun _ => Bool) (fun a b => orK a (Nat.pow 2 b) o fun o => orK b (Nat.pow 2 a) o fun o => ih o k) e) es
theorem foldK_eq : ∀ (es : List (Nat × Nat)) (o : List Nat) (k : List Nat → Bool), foldK es o k = k (es.foldl addE o)
 | [], o, k => rfl
 | (a, b) :: es, o, k => by
  show orK a (Nat.pow 2 b) o (fun o => orK b (Nat.pow 2 a) o fun o => foldK es o k) = _
  rw [orK_eq, orK_eq, foldK_eq]; rfl
noncomputable def cwK (l : List Nat) (k : List Value → Bool) : Bool := List.rec (motive := fun _ => (List Value → Bool) → Bool) (fun k => k []) (fun x _ ih k => ih fun t => k (.int .u64 (.ofNat x) :: t)) l k
theorem cwK_eq : ∀ (l : List Nat) (k : List Value → Bool), cwK l k = k (l.map cw)
 | [], k => rfl
 | x :: l, k => by
  show cwK l (fun t => k (.int .u64 (.ofNat x) :: t)) = _
  rw [cwK_eq]; rfl
noncomputable def edgesK (m : AMem) (sl : Value) (k : List (Nat × Nat) → Bool) : Bool :=
 vSlice sl fun a len cap => Option.rec (motive := fun _ => Bool) (ifB (Nat.beq len 0) (ifB (Nat.beq cap 0) (k []) false) false) (fun _ => atK a fun b o => cellsK m b fun cs _ => ifB (Nat.blt b m.next) (ifB (Nat.ble len cap) (dropK o cs fun cs => pairsK len cs k) false) false) a
theorem edgesK_true {m : AMem} {sl : Value} {k : List (Nat × Nat) → Bool} (h : edgesK m sl k = true) : ∃ es, edgesOf m sl = some es ∧ k es = true := by
 obtain ⟨a, len, cap, e, h1⟩ := vSlice_true h
 cases a with
 | none =>
  obtain ⟨e1, h2⟩ := ifB_and h1
  obtain ⟨e2, h3⟩ := ifB_and h2
  have e1' := Nat.eq_of_beq_eq_true e1
  have e2' := Nat.eq_of_beq_eq_true e2
  subst e1' e2'
  exact ⟨[], by rw [e]; rfl, h3⟩
 | some a =>
  obtain ⟨b, o, e3, h2⟩ := atK_true h1
  cases e3
  obtain ⟨cs, tag, hg, h3⟩ := cellsK_true h2
  obtain ⟨e4, h4⟩ := ifB_and h3
  obtain ⟨e5, h5⟩ := ifB_and h4
  rw [dropK_eq] at h5
  obtain ⟨es, h6, h7⟩ := pairsK_true h5
  refine ⟨es, ?_, h7⟩
  rw [e]
  simp only [edgesOf, hg, e4, e5, Bool.and_self, if_true, h6]
noncomputable def aroundK (args : List Value) (m : AMem) (K : Value → AMem → Bool) : Bool :=
 nthK 0 args fun a => ifB (lenK args 1) (vAgg a fun cs => ifB (lenK cs.toList 2) (nthK 0 cs.toList fun nv => nthK 1 cs.toList fun sl => vInt nv fun kd z => ifB (eqKind kd .i64) (natZ z (fun n => edgesK m sl fun es => ifB (Nat.ble n 64) (ifB (okE n es) (ifB (Nat.ble es.length 1000) (foldK es (List.replicate n 0) fun o => cwK o fun l => memAllocK m (.cells l .own) fun b m => K (.slice (some ⟨b, 0, none⟩) n n) m) false) false) false) false) false) false) false
theorem aroundK_ok {args : List Value} {m : AMem} {K : Value → AMem → Bool} (h : aroundK args m K = true) : ∃ v m', aroundRun args m = some (v, m') ∧ K v m' = true := by
 obtain ⟨a, ha, h1⟩ := nthK_true h
 obtain ⟨hl, h2⟩ := ifB_and h1
 have hargs : args = [a] := by
  have := lenK_true hl
  cases args with
  | nil => cases ha
  | cons x xs =>
   have h0 : xs = [] := by simpa using this
   subst h0
   simpa using ha
 obtain ⟨cs, e1, h3⟩ := vAgg_true h2
 obtain ⟨hl2, h4⟩ := ifB_and h3
 obtain ⟨nv, hn, h5⟩ := nthK_true h4
 obtain ⟨sl, hs, h6⟩ := nthK_true h5
 have hcs : cs = ⟨[nv, sl]⟩ := by
  have h0 := lenK_true hl2
  obtain ⟨l⟩ := cs
  simp only at hn hs h0
  match l, h0 with
  | [x, y], _ =>
   simp at hn hs
   rw [hn, hs]
 obtain ⟨kd, z, e2, h7⟩ := vInt_true h6
 obtain ⟨hk, h8⟩ := ifB_and h7
 cases eqKind_true hk
 rcases natZ_cases h8 with ⟨n, e3, h9⟩ | h9
 ·obtain ⟨es, h10, h11⟩ := edgesK_true h9
  obtain ⟨c1, h12⟩ := ifB_and h11
  obtain ⟨c2, h13⟩ := ifB_and h12
  obtain ⟨c3, h14⟩ := ifB_and h13
  rw [foldK_eq, cwK_eq, memAllocK_eq] at h14
  refine ⟨_, _, ?_, h14⟩
  rw [hargs, e1, hcs, e2, e3]
  show (match edgesOf m sl with | some es => if Nat.ble n 64 && okE n es && Nat.ble es.length 1000 then _ else none | none => none) = _
  rw [h10]
  simp only [c1, c2, c3, Bool.and_self, if_true]
  rfl
 ·cases h9

noncomputable def fast18 (f : FuncId) : Option PSem := if f = 42 then some ⟨tzK⟩ else if f = 75 then some ⟨aroundK⟩ else none
theorem fast18_ok : FOk E18p fast18 := by
 intro f S hS
 unfold fast18 at hS
 split at hS
 ·rename_i e; cases hS; subst e
  exact ⟨⟨tzRun⟩, rfl, fun h => tzK_ok h⟩
 ·split at hS
  ·rename_i e; cases hS; subst e
   exact ⟨⟨aroundRun⟩, rfl, fun h => aroundK_ok h⟩
  ·cases hS
end Go.Proofs.YtpclggcpobakhaaDoor
end

section
/-
  The abstract machine: a call that was evaluated once, in a small memory, is known wherever its arguments read the same.
-/
namespace Go.Ab
open Go

section
variable {E : Env} {j j1 : Inj} {m m1 : AMem} {w w1 : World}

/-- Nothing that lay was written; one new block is known. -/
theorem Sim.bornAt (h : MR E j m w) (hold : ∀ c, c < w.heap.size → w1.heap[c]? = w.heap[c]?) (hsize : w.heap.size ≤ w1.heap.size) (hcalm : w1.os = w.os ∧ w1.output = w.output) {k1 : Blk} (hfresh : w.heap.size ≤ k1.c) (hlt : k1.c < w1.heap.size) {cs : List Value} {tag : Tag} {o' : Obj} (ho : w1.heap[k1.c]? = some o') (hor : OR j1 k1 (.cells cs tag) o') (hp : cs.all plain1 = true) :
  Sim E j m w (j.set m.next k1) (m.alloc (.cells cs tag)) w1 := by
 have hn : j m.next = none := h.next_none
 have ha : MR E j m w1 := ⟨fun b k hb => ⟨(h.lt b k hb).1, Nat.lt_of_lt_of_le (h.lt b k hb).2 hsize⟩, fun b o k ho hb => by
  obtain ⟨o', h1, h2⟩ := h.obj b o k ho hb
  exact ⟨o', (hold k.c (h.lt b k hb).2).trans h1, h2⟩, h.inj, h.glob⟩
 refine ⟨.alloc m _, Inj.le_set k1 hn, ?_, ?_, hsize, ?_, ?_, ?_, fun c hc _ => hold c hc, hcalm⟩
 ·intro b k e e'
  by_cases hbm : b = m.next
  ·omega
  ·rw [Inj.set_ne _ _ hbm, e'] at e; cases e
 ·refine ⟨fun b k e => ?_, fun b o k ho' e => ?_, fun b b' k k' e e' hl hl' hc => ?_, fun gl hgl => ?_⟩
  ·by_cases hbm : b = m.next
   ·subst hbm; rw [Inj.set_eq] at e; cases e
    exact ⟨Nat.lt_succ_self _, hlt⟩
   ·rw [Inj.set_ne _ _ hbm] at e
    exact ⟨Nat.lt_succ_of_lt (h.lt b k e).1, (ha.lt b k e).2⟩
  ·rw [AMem.get_alloc] at ho'
   by_cases hbm : b = m.next
   ·subst hbm; rw [Inj.set_eq] at e; cases e
    rw [if_pos rfl] at ho'; cases ho'
    refine ⟨o', ho, ?_⟩
    cases o' with
    | cells c ty fz =>
     refine ⟨hor.1, fun i v hi => ?_⟩
     obtain ⟨v', h3, h4⟩ := hor.2 i v hi
     have hpv := List.all_eq_true.1 hp v (List.mem_of_getElem? hi)
     have := plain1_eq hpv h4
     subst this
     exact ⟨_, h3, .plain1 hpv⟩
    | _ => exact hor.elim
   ·rw [if_neg hbm] at ho'
    rw [Inj.set_ne _ _ hbm] at e
    obtain ⟨o', h1, h2⟩ := ha.obj b o k ho' e
    exact ⟨o', h1, h2.mono (Inj.le_set k1 hn)⟩
  ·have old : ∀ {b k}, j b = some k → k.c ≠ k1.c := fun {b k} e hc => by
    have := (h.lt b k e).2
    omega
   by_cases hbm : b = m.next
   ·by_cases hbm' : b' = m.next
    ·rw [hbm, hbm']
    ·subst hbm; rw [Inj.set_eq] at e; cases e
     rw [Inj.set_ne _ _ hbm'] at e'
     exact absurd hc.symm (old e')
   ·by_cases hbm' : b' = m.next
    ·subst hbm'; rw [Inj.set_eq] at e'; cases e'
     rw [Inj.set_ne _ _ hbm] at e
     exact absurd hc (old e)
    ·rw [Inj.set_ne _ _ hbm] at e
     rw [Inj.set_ne _ _ hbm'] at e'
     rw [AMem.get_alloc, if_neg hbm] at hl
     rw [AMem.get_alloc, if_neg hbm'] at hl'
     exact h.inj b b' k k' e e' hl hl' hc
  ·have := h.glob gl hgl
   have hlt := (h.lt gl _ this).1
   rw [Inj.set_ne _ _ (by omega)]; exact this
 ·intro b hb1 hb2 _
  have : b = m.next := by simp at hb2; omega
  subst this; exact ⟨k1, Inj.set_eq _ _ _⟩
 ·intro b hb _
  rw [AMem.get_alloc, if_neg (by omega)]
 ·intro b k e e'
  by_cases hbm : b = m.next
  ·subst hbm; rw [Inj.set_eq] at e; cases e
   exact .inl hfresh
  ·rw [Inj.set_ne _ _ hbm, e'] at e; cases e

theorem Sim.same (h : MR E j m w) (hold : ∀ c, c < w.heap.size → w1.heap[c]? = w.heap[c]?) (hsize : w.heap.size ≤ w1.heap.size) (hcalm : w1.os = w.os ∧ w1.output = w.output) : Sim E j m w j m w1 where
 ext := .refl m
 le := .refl j
 new := fun b k h h' => by simp [h'] at h
 mr := ⟨fun b k hb => ⟨(h.lt b k hb).1, Nat.lt_of_lt_of_le (h.lt b k hb).2 hsize⟩, fun b o k ho hb => by
  obtain ⟨o', h1, h2⟩ := h.obj b o k ho hb
  exact ⟨o', (hold k.c (h.lt b k hb).2).trans h1, h2⟩, h.inj, h.glob⟩
 size := hsize
 full := fun b h h' _ => absurd h (by omega)
 away := fun _ _ _ => rfl
 fresh := fun b k h h' => by simp [h'] at h
 frame := fun c hc _ => hold c hc
 calm := hcalm

/-! ### The small memory: the program's variables, and one block of plain cells -/
def memo0 (g : Nat) (gs : Nat → Option (List Value)) (cs : List Value) (tag : Tag) : AMem := { next := g + 1, wl := g + 1, objs := .nil, base := fun b => if b = g then some (.cells cs tag) else (gs b).map fun cs => .cells cs .ro }
theorem memo0_get (g : Nat) (gs : Nat → Option (List Value)) (cs : List Value) (tag : Tag) (b : Nat) : (memo0 g gs cs tag).get b = if b = g then some (.cells cs tag) else (gs b).map fun cs => .cells cs .ro := by
 simp [AMem.get, memo0, Heap.get_nil]
def injMemo (j : Inj) (g b : Nat) : Inj := fun x => if x = g then j b else if x < g then j x else none

theorem MR.memo {gs : Nat → Option (List Value)} {cs : List Value} {tag : Tag} {b : Nat} (h : MR E j m w) (hb : E.glob ≤ b) (hm : m.get b = some (.cells cs tag)) (hp : cs.all plain1 = true) (hgs : ∀ x c, x < E.glob → gs x = some c → m.get x = some (.cells c .ro)) (hgp : ∀ x c, gs x = some c → c.all plain1 = true) : MR E (injMemo j E.glob b) (memo0 E.glob gs cs tag) w := by
 have cases1 : ∀ x k, injMemo j E.glob b x = some k → (x = E.glob ∧ j b = some k) ∨ (x < E.glob ∧ j x = some k) := by
  intro x k hx
  unfold injMemo at hx
  split at hx
  ·rename_i e; exact .inl ⟨e, hx⟩
  ·split at hx
   ·rename_i hlt; exact .inr ⟨hlt, hx⟩
   ·cases hx
 refine ⟨fun x k hx => ?_, fun x o k ho hx => ?_, fun x x' k k' hx hx' hl hl' hc => ?_, fun gl hgl => ?_⟩
 ·rcases cases1 x k hx with ⟨rfl, hj⟩ | ⟨hlt, hj⟩
  ·exact ⟨Nat.lt_succ_self _, (h.lt b k hj).2⟩
  ·exact ⟨Nat.lt_succ_of_lt hlt, (h.lt x k hj).2⟩
 ·rw [memo0_get] at ho
  rcases cases1 x k hx with ⟨rfl, hj⟩ | ⟨hlt, hj⟩
  ·rw [if_pos rfl] at ho; cases ho
   obtain ⟨o', h1, h2⟩ := h.obj b _ k hm hj
   refine ⟨o', h1, ?_⟩
   cases o' with
   | cells c ty fz =>
    refine ⟨h2.1, fun i v hi => ?_⟩
    obtain ⟨v', h3, h4⟩ := h2.2 i v hi
    have hpv := List.all_eq_true.1 hp v (List.mem_of_getElem? hi)
    have := plain1_eq hpv h4
    subst this
    exact ⟨_, h3, .plain1 hpv⟩
   | _ => exact h2.elim
  ·rw [if_neg (by omega)] at ho
   cases hg : gs x with
   | none => rw [hg] at ho; cases ho
   | some c =>
    rw [hg] at ho; cases ho
    have hgx := hgs x c hlt hg
    obtain ⟨o', h1, h2⟩ := h.obj x _ k hgx hj
    refine ⟨o', h1, ?_⟩
    cases o' with
    | cells c' ty fz =>
     refine ⟨h2.1, fun i v hi => ?_⟩
     obtain ⟨v', h3, h4⟩ := h2.2 i v hi
     have hpv := List.all_eq_true.1 (hgp x c hg) v (List.mem_of_getElem? hi)
     have := plain1_eq hpv h4
     subst this
     exact ⟨_, h3, .plain1 hpv⟩
    | _ => exact h2.elim
 ·have live : ∀ y, y < E.glob → ((memo0 E.glob gs cs tag).get y).isSome = true → (m.get y).isSome = true := by
   intro y hy hl
   rw [memo0_get, if_neg (by omega)] at hl
   cases hg : gs y with
   | none => rw [hg] at hl; cases hl
   | some c => rw [hgs y c hy hg]; rfl
  have hbl : (m.get b).isSome = true := by rw [hm]; rfl
  rcases cases1 x k hx with ⟨rfl, hj⟩ | ⟨hlt, hj⟩ <;> rcases cases1 x' k' hx' with ⟨rfl, hj'⟩ | ⟨hlt', hj'⟩
  ·rfl
  ·have := h.inj b x' k k' hj hj' hbl (live x' hlt' hl') hc
   omega
  ·have := h.inj x b k k' hj hj' (live x hlt hl) hbl hc
   omega
  ·exact h.inj x x' k k' hj hj' (live x hlt hl) (live x' hlt' hl') hc
 ·unfold injMemo
  rw [if_neg (by omega), if_pos hgl]
  exact h.glob gl hgl

/-- A value that leads to one block, wherever that lies. -/
def Leads2 (R : Nat → Value) : Prop := ∀ (j1 j2 : Inj) (b1 b2 : Nat) (v' : Value), (∀ k, j1 b1 = some k → j2 b2 = some k) → VR j1 (R b1) v' → VR j2 (R b2) v'
def Leads2L (A : Nat → List Value) : Prop := ∀ (j1 j2 : Inj) (b1 b2 : Nat) (l' : List Value), (∀ k, j1 b1 = some k → j2 b2 = some k) → LR j1 (A b1) l' → LR j2 (A b2) l'
theorem Leads2.slice (o len cap : Nat) : Leads2 fun b => .slice (some ⟨b, o, none⟩) len cap := by
 intro j1 j2 b1 b2 v' hk h
 cases h with
 | slice e hm => exact .slice (hk _ e) hm
 | sliceM e hm a1 a2 hl hc => exact .sliceM (hk _ e) hm a1 a2 hl hc
theorem Leads2.plain {v : Value} (h : plain1 v = true) : Leads2 fun _ => v := by
 intro j1 j2 b1 b2 v' _ hv
 have := plain1_eq h hv
 subst this
 exact .plain1 h
theorem Leads2.tuple2 {R S : Nat → Value} (hR : Leads2 R) (hS : Leads2 S) : Leads2 fun b => .tuple #[R b, S b] := by
 intro j1 j2 b1 b2 v' hk h
 cases h with
 | tuple hs ha =>
  refine .tuple hs fun i a b => ?_
  have h0 : i = 0 ∨ i = 1 := by simp at a; omega
  rcases h0 with rfl | rfl
  ·exact hR _ _ _ _ _ hk (ha 0 (by simp) b)
  ·exact hS _ _ _ _ _ hk (ha 1 (by simp) b)
theorem Leads2.agg2 {R S : Nat → Value} (hR : Leads2 R) (hS : Leads2 S) : Leads2 fun b => .agg #[R b, S b] := by
 intro j1 j2 b1 b2 v' hk h
 cases h with
 | agg hs ha =>
  refine .agg hs fun i a b => ?_
  have h0 : i = 0 ∨ i = 1 := by simp at a; omega
  rcases h0 with rfl | rfl
  ·exact hR _ _ _ _ _ hk (ha 0 (by simp) b)
  ·exact hS _ _ _ _ _ hk (ha 1 (by simp) b)
theorem Leads2L.nil : Leads2L fun _ => [] := fun _ _ _ _ _ _ h => by rw [h.nil_inv]; exact .nil _
theorem Leads2L.cons {R : Nat → Value} {A : Nat → List Value} (hR : Leads2 R) (hA : Leads2L A) : Leads2L fun b => R b :: A b := by
 intro j1 j2 b1 b2 l' hk h
 obtain ⟨y, ys, rfl, h1, h2⟩ := h.cons_inv
 exact .cons (hR _ _ _ _ _ hk h1) (hA _ _ _ _ _ hk h2)

/-- What a call that was evaluated comes to, wherever its arguments read the same. -/
theorem memo_callOk (hE : EnvOk E) {f : FuncId} {A : Nat → List Value} (hA : Leads2L A) {gs : Nat → Option (List Value)} {cs : List Value} {tag : Tag} (hp : cs.all plain1 = true) (hgp : ∀ x c, gs x = some c → c.all plain1 = true) {fuel : Nat} {v0 : Value} {m0 : AMem}
  (hrun : run E fuel (.call f (A E.glob) (memo0 E.glob gs cs tag)) = some (.val v0 m0)) (hwl : E.glob + 1 ≤ m0.wl) {b : Nat} {args' : List Value} (h : MR E j m w) (hb : E.glob ≤ b) (hm : m.get b = some (.cells cs tag)) (hgs : ∀ x c, x < E.glob → gs x = some c → m.get x = some (.cells c .ro)) (hl : LR j (A b) args') {v : Value} {m' : AMem}
  (hv : (plainV v0 = true ∧ v = v0 ∧ m' = m) ∨ ∃ R b1 cs1 tag1, Leads2 R ∧ v0 = R b1 ∧ v = R m.next ∧ E.glob + 1 ≤ b1 ∧ b1 < m0.next ∧ m0.get b1 = some (.cells cs1 tag1) ∧ cs1.all plain1 = true ∧ m' = m.alloc (.cells cs1 tag1)) :
  CallOk E.P (E.prim f).isSome f args'.toArray w (ValQ E j m w v m') := by
 have hm0 := h.memo hb hm hp hgs hgp
 have hl0 : LR (injMemo j E.glob b) (A E.glob) args' := hA j _ b E.glob args' (fun k hk => by unfold injMemo; rw [if_pos rfl]; exact hk) hl
 obtain ⟨_, _, e, hs⟩ := sim_run hE fuel _ _ hrun
 cases e
 refine callOk_mono (fun x => x) (hs _ w args' hm0 hl0) ?_
 intro v' w' ⟨j', s, hv'⟩
 have hold : ∀ c, c < w.heap.size → w'.heap[c]? = w.heap[c]? := fun c hc => s.frame c hc fun x k hx _ _ => by
  have : x < E.glob + 1 := (hm0.lt x k hx).1
  omega
 rcases hv with ⟨hpv, rfl, rfl⟩ | ⟨R, b1, cs1, tag1, hR, rfl, rfl, hb1, hb2, ho, hpl, rfl⟩
 ·exact ⟨j, .same h hold s.size s.calm, VR.plainMove hpv hv'⟩
 ·obtain ⟨k1, hk1⟩ := s.full b1 hb1 hb2 (by rw [ho]; rfl)
  have hj1 : injMemo j E.glob b b1 = none := by unfold injMemo; rw [if_neg (by omega), if_neg (by omega)]
  have hfresh : w.heap.size ≤ k1.c := by
   rcases s.fresh b1 k1 hk1 hj1 with hf | ⟨b0, k0, a1, _, _, a4⟩
   ·exact hf
   ·have : b0 < E.glob + 1 := (hm0.lt b0 k0 a1).1
    omega
  obtain ⟨o', h1, h2⟩ := s.mr.obj b1 _ k1 ho hk1
  exact ⟨_, .bornAt h hold s.size s.calm hfresh (s.mr.lt b1 k1 hk1).2 h1 h2 hpl, hR _ _ _ _ _ (fun k hk => by rw [hk1] at hk; cases hk; exact Inj.set_eq _ _ _) hv'⟩

/-- More contracts. -/
theorem envOk_more (hE : EnvOk E) {pr : FuncId → Option Prim} (h : ∀ f p, pr f = some p → E.prim f = some p ∨ ∀ args m v m', p.run args m = some (v, m') → ∀ (j : Inj) (w : World) (args' : List Value), MR E j m w → LR j args args' → CallOk E.P (E.prim f).isSome f args'.toArray w (ValQ E j m w v m')) : EnvOk { E with prim := pr } := by
 refine ⟨hE.call, hE.mixed, fun f p hp args m v m' hrun j w args' hm hl => ?_⟩
 have hp' : ({ E with prim := pr } : Env).prim f = some p := hp
 have hm0 : MR E j m w := MR.env (E := { E with prim := pr }) (E' := E) rfl hm
 have key : ∀ v' w', ValQ E j m w v m' v' w' → ValQ { E with prim := pr } j m w v m' v' w' := fun v' w' ⟨j', s, hv⟩ => ⟨j', Sim.env (E := E) rfl s, hv⟩
 rcases h f p hp with h1 | h1
 ·exact callOk_mono (fun _ => by rw [hp']; rfl) (hE.prim f p h1 args m v m' hrun j w args' hm0 hl) key
 ·exact callOk_mono (fun _ => by rw [hp']; rfl) (h1 args m v m' hrun j w args' hm0 hl) key
end
end Go.Ab
end

section
/-
  Chapter 18: calls on the row of 64 nodes, evaluated once.
-/
namespace Go.Proofs.YtpclggcpobakhaaDoor
open Go Go.Ab
set_option maxRecDepth 100000

def ints (l : List Int) : List Value := l.map (.int .i64)
def eqI : List Value → List Int → Bool
 | [], [] => true
 | .int .i64 n :: vs, k :: ks => n == k && eqI vs ks
 | _, _ => false
theorem eqI_true : ∀ {vs : List Value} {ks : List Int}, eqI vs ks = true → vs = ints ks
 | [], [], _ => rfl
 | [], _ :: _, h => by cases h
 | v :: vs, [], h => by simp [eqI] at h
 | v :: vs, k :: ks, h => by
  unfold eqI at h
  split at h
  ·rename_i e _; cases e
  ·rename_i n vs' k' ks' e1 e2
   cases e1; cases e2
   simp only [Bool.and_eq_true, beq_iff_eq] at h
   rw [h.1, eqI_true h.2]; rfl
  ·cases h
def rowI : List Int := (List.range 63).flatMap fun (k : Nat) => [(k : Int), ((k + 1 : Nat) : Int)]
def rowV (b : Nat) : Value := .agg #[.int .i64 64, .slice (some ⟨b, 0, none⟩) 63 63]
theorem rowV_leads : Leads2 rowV := .agg2 (.plain rfl) (.slice 0 63 63)
def rowM : AMem := memo0 1 tab18 (ints rowI) (.more 2)
def upI : List Int := (List.range 64).map fun (k : Nat) => (k : Int)

/-- An answer of a list and an error. -/
def isListK (want : List Int) (tag : Tag) (n : Nat) (g : Nat) (v : Value) (m : AMem) : Bool :=
 match v with
 | .tuple ⟨[.slice (some ⟨b, 0, none⟩) l c, .int .i64 (.ofNat 0)]⟩ => Nat.beq l n && Nat.beq c n && Nat.ble g b && Nat.blt b m.next && Nat.ble g m.wl && (match m.get b with
  | some (.cells cs t) => decide (t = tag) && eqI cs want
  | _ => false)
 | _ => false
theorem isListK_true {want : List Int} {tag : Tag} {n g : Nat} {v : Value} {m : AMem} (h : isListK want tag n g v m = true) : ∃ b, v = .tuple #[.slice (some ⟨b, 0, none⟩) n n, .int .i64 0] ∧ g ≤ b ∧ b < m.next ∧ g ≤ m.wl ∧ m.get b = some (.cells (ints want) tag) := by
 unfold isListK at h
 split at h
 ·rename_i b l c
  simp only [Bool.and_eq_true, Nat.blt_eq] at h
  obtain ⟨⟨⟨⟨⟨h1, h2⟩, h3⟩, h4⟩, h5⟩, h6⟩ := h
  have e1 := Nat.eq_of_beq_eq_true h1
  have e2 := Nat.eq_of_beq_eq_true h2
  subst e1 e2
  split at h6
  ·rename_i cs t hg
   simp only [Bool.and_eq_true, decide_eq_true_eq] at h6
   exact ⟨b, rfl, Nat.le_of_ble_eq_true h3, h4, Nat.le_of_ble_eq_true h5, by rw [hg, eqI_true h6.2, h6.1]⟩
  ·cases h6
 ·cases h
/-- An answer that is a plain value. -/
def isPlainK (same : Value → Bool) (g : Nat) (v : Value) (m : AMem) : Bool := same v && Nat.ble g m.wl
theorem ints_plain (l : List Int) : (ints l).all plain1 = true := by
 unfold ints
 rw [List.all_map]
 exact List.all_eq_true.2 fun x _ => rfl
theorem tab18_plain : ∀ x c, tab18 x = some c → c.all plain1 = true := by
 intro x c h
 unfold tab18 at h
 split at h
 ·cases h
  rw [List.all_map]
  exact List.all_eq_true.2 fun x _ => rfl
 ·cases h
def rowAt (m : AMem) (b : Nat) : Bool :=
 match m.get b with
 | some (.cells cs (.more 2)) => eqI cs rowI
 | _ => false
theorem rowAt_true {m : AMem} {b : Nat} (h : rowAt m b = true) : m.get b = some (.cells (ints rowI) (.more 2)) := by
 unfold rowAt at h
 split at h
 ·rename_i cs hg; rw [hg, eqI_true h]
 ·cases h
/-- The row ars an argument: its block. -/
def rowArg (m : AMem) (v : Value) : Option Nat :=
 match v with
 | .agg ⟨[.int .i64 (.ofNat n), .slice (some ⟨b, 0, none⟩) l c]⟩ => if Nat.beq n 64 && Nat.beq l 63 && Nat.beq c 63 && tabAt m && Nat.ble 1 b && rowAt m b then some b else none
 | _ => none
theorem rowArg_true {m : AMem} {v : Value} {b : Nat} (h : rowArg m v = some b) : v = rowV b ∧ 1 ≤ b ∧ m.get b = some (.cells (ints rowI) (.more 2)) ∧ (∀ x c, x < 1 → tab18 x = some c → m.get x = some (.cells c .ro)) := by
 unfold rowArg at h
 split at h
 ·rename_i n b' l c
  split at h
  ·rename_i hc
   cases h
   simp only [Bool.and_eq_true] at hc
   obtain ⟨⟨⟨⟨⟨h1, h2⟩, h3⟩, h4⟩, h5⟩, h6⟩ := hc
   have e1 := Nat.eq_of_beq_eq_true h1
   have e2 := Nat.eq_of_beq_eq_true h2
   have e3 := Nat.eq_of_beq_eq_true h3
   subst e1 e2 e3
   refine ⟨rfl, Nat.le_of_ble_eq_true h5, rowAt_true h6, fun x c hx hg => ?_⟩
   have : x = 0 := by omega
   subst this
   simp only [tab18, if_true, Option.some.injEq] at hg
   rw [← hg]
   exact tabAt_true h4
  ·cases h
 ·cases h
def allW : Nat := 18446744073709551615

theorem listMemo {f : FuncId} {A : Nat → List Value} (hA : Leads2L A) {want : List Int} {n : Nat} {tag : Tag} (h : (hand E18p fast18 1000).call f (A 1) rowM (isListK want tag n 2) = true) {m : AMem} {b : Nat} (hb : 1 ≤ b) (hm : m.get b = some (.cells (ints rowI) (.more 2))) (hgs : ∀ x c, x < 1 → tab18 x = some c → m.get x = some (.cells c .ro)) :
  ∀ (j : Inj) (w : World) (args' : List Value), MR E18p j m w → LR j (A b) args' → CallOk E18p.P (E18p.prim f).isSome f args'.toArray w (ValQ E18p j m w (.tuple #[.slice (some ⟨m.next, 0, none⟩) n n, .int .i64 0]) (m.alloc (.cells (ints want) tag))) := by
 intro j w args' hmr hl
 obtain ⟨fuel, v0, m0, hrun, hk⟩ := call_of_fast fast18_ok h
 obtain ⟨b1, e, h1, h2, h3, h4⟩ := isListK_true hk
 refine memo_callOk (E := E18p) E18p_ok hA (gs := tab18) (cs := ints rowI) (tag := .more 2) (ints_plain _) tab18_plain (v0 := v0) (m0 := m0) hrun h3 hmr hb hm hgs hl ?_
 exact .inr ⟨fun b => .tuple #[.slice (some ⟨b, 0, none⟩) n n, .int .i64 0], b1, _, _, .tuple2 (.slice 0 n n) (.plain rfl), e, rfl, h1, h2, h4, ints_plain _, rfl⟩
theorem plainMemo {f : FuncId} {A : Nat → List Value} (hA : Leads2L A) {v : Value} (hv : plainV v = true) {same : Value → Bool} (hsame : ∀ x, same x = true → x = v) (h : (hand E18p fast18 1000).call f (A 1) rowM (isPlainK same 2) = true) {m : AMem} {b : Nat} (hb : 1 ≤ b) (hm : m.get b = some (.cells (ints rowI) (.more 2))) (hgs : ∀ x c, x < 1 → tab18 x = some c → m.get x = some (.cells c .ro)) :
  ∀ (j : Inj) (w : World) (args' : List Value), MR E18p j m w → LR j (A b) args' → CallOk E18p.P (E18p.prim f).isSome f args'.toArray w (ValQ E18p j m w v m) := by
 intro j w args' hmr hl
 obtain ⟨fuel, v0, m0, hrun, hk⟩ := call_of_fast fast18_ok h
 simp only [isPlainK, Bool.and_eq_true] at hk
 have e := hsame _ hk.1
 subst e
 exact memo_callOk (E := E18p) E18p_ok hA (gs := tab18) (cs := ints rowI) (tag := .more 2) (ints_plain _) tab18_plain (v0 := v0) (m0 := m0) hrun (Nat.le_of_ble_eq_true hk.2) hmr hb hm hgs hl (.inl ⟨hv, rfl, rfl⟩)

/-! ### The calls -/
def A20 (b : Nat) : List Value := [rowV b, .int .u64 18446744073709551615, .int .i64 0]
def A18 (b : Nat) : List Value := [rowV b, .int .u64 18446744073709551615]
def A25 (b : Nat) : List Value := [rowV b, .int .u64 6148914691236517205]
theorem A20_leads : Leads2L A20 := .cons rowV_leads (.cons (.plain rfl) (.cons (.plain rfl) .nil))
theorem A18_leads : Leads2L A18 := .cons rowV_leads (.cons (.plain rfl) .nil)
theorem A25_leads : Leads2L A25 := .cons rowV_leads (.cons (.plain rfl) .nil)
def isInt (n : Int) (v : Value) : Bool :=
 match v with
 | .int .i64 k => k == n
 | _ => false
theorem isInt_true {n : Int} : ∀ x, isInt n x = true → x = .int .i64 n := by
 intro x h
 unfold isInt at h
 split at h
 ·rw [beq_iff_eq.1 h]
 ·cases h
def isWord (n : Int) (v : Value) : Bool :=
 match v with
 | .tuple ⟨[.int .u64 k, .int .i64 e]⟩ => k == n && e == 0
 | _ => false
theorem isWord_true {n : Int} : ∀ x, isWord n x = true → x = .tuple #[.int .u64 n, .int .i64 0] := by
 intro x h
 unfold isWord at h
 split at h
 ·simp only [Bool.and_eq_true, beq_iff_eq] at h
  rw [h.1, h.2]
 ·cases h
end Go.Proofs.YtpclggcpobakhaaDoor
end

section
/-
  A call without arguments that was evaluated once, where only the laid variables lay, comes to the same in every memory.
-/
namespace Go.Ab
open Go

section
variable {E : Env} {j : Inj} {m : AMem} {w : World}
def injMemoG (j : Inj) (g : Nat) : Inj := fun x => if x < g then j x else none
theorem memG_get (n : Nat) (gs : Nat → Option (List Value)) (b : Nat) : (memG n gs).get b = (gs b).map fun cs => .cells cs .ro := by
 simp [AMem.get, memG, Heap.get_nil]
theorem MR.memoG {gs : Nat → Option (List Value)} (h : MR E j m w) (hgs : ∀ x c, x < E.glob → gs x = some c → m.get x = some (.cells c .ro)) (hgp : ∀ x c, gs x = some c → c.all plain1 = true) : MR E (injMemoG j E.glob) (memG E.glob gs) w := by
 have cases1 : ∀ x k, injMemoG j E.glob x = some k → x < E.glob ∧ j x = some k := by
  intro x k hx
  unfold injMemoG at hx
  split at hx
  ·rename_i hlt; exact ⟨hlt, hx⟩
  ·cases hx
 refine ⟨fun x k hx => ?_, fun x o k ho hx => ?_, fun x x' k k' hx hx' hl hl' hc => ?_, fun gl hgl => ?_⟩
 ·obtain ⟨hlt, hj⟩ := cases1 x k hx
  exact ⟨hlt, (h.lt x k hj).2⟩
 ·rw [memG_get] at ho
  obtain ⟨hlt, hj⟩ := cases1 x k hx
  cases hg : gs x with
  | none => rw [hg] at ho; cases ho
  | some c =>
   rw [hg] at ho; cases ho
   have hgx := hgs x c hlt hg
   obtain ⟨o', h1, h2⟩ := h.obj x _ k hgx hj
   refine ⟨o', h1, ?_⟩
   cases o' with
   | cells c' ty fz =>
    refine ⟨h2.1, fun i v hi => ?_⟩
    obtain ⟨v', h3, h4⟩ := h2.2 i v hi
    have hpv := List.all_eq_true.1 (hgp x c hg) v (List.mem_of_getElem? hi)
    have := plain1_eq hpv h4
    subst this
    exact ⟨_, h3, .plain1 hpv⟩
   | _ => exact h2.elim
 ·have live : ∀ y, y < E.glob → ((memG E.glob gs).get y).isSome = true → (m.get y).isSome = true := by
   intro y hy hl
   rw [memG_get] at hl
   cases hg : gs y with
   | none => rw [hg] at hl; cases hl
   | some c => rw [hgs y c hy hg]; rfl
  obtain ⟨hlt, hj⟩ := cases1 x k hx
  obtain ⟨hlt', hj'⟩ := cases1 x' k' hx'
  exact h.inj x x' k k' hj hj' (live x hlt hl) (live x' hlt' hl') hc
 ·unfold injMemoG
  rw [if_pos hgl]
  exact h.glob gl hgl
theorem memoG_callOk (hE : EnvOk E) {f : FuncId} {gs : Nat → Option (List Value)} (hgp : ∀ x c, gs x = some c → c.all plain1 = true) {fuel : Nat} {v : Value} {m0 : AMem}
  (hrun : run E fuel (.call f [] (memG E.glob gs)) = some (.val v m0)) (hwl : E.glob ≤ m0.wl) (hpv : plainV v = true) {args' : List Value} (h : MR E j m w) (hgs : ∀ x c, x < E.glob → gs x = some c → m.get x = some (.cells c .ro)) (hl : LR j [] args') :
  CallOk E.P (E.prim f).isSome f args'.toArray w (ValQ E j m w v m) := by
 have hm0 := h.memoG hgs hgp
 have hl0 : LR (injMemoG j E.glob) [] args' := by
  rw [LR.nil_inv hl]; exact .nil _
 obtain ⟨_, _, e, hs⟩ := sim_run hE fuel _ _ hrun
 cases e
 refine callOk_mono (fun x => x) (hs _ w args' hm0 hl0) ?_
 intro v' w' ⟨j', s, hv'⟩
 have hold : ∀ c, c < w.heap.size → w'.heap[c]? = w.heap[c]? := fun c hc => s.frame c hc fun x k hx _ _ => by
  have : x < E.glob := (hm0.lt x k hx).1
  omega
 exact ⟨j, .same h hold s.size s.calm, VR.plainMove hpv hv'⟩
end
noncomputable def trueK (g : Nat) (v : Value) (m : AMem) : Bool := vBool v (fun b => ifB b (Nat.ble g m.wl) false) false
theorem true_of_fast {E : Env} {F : FuncId → Option PSem} (hF : FOk E F) {n g : Nat} {f : FuncId} {args : List Value} {m : AMem} (h : (hand E F n).call f args m (trueK g) = true) : ∃ fuel m', run E fuel (.call f args m) = some (.val (.bool true) m') ∧ g ≤ m'.wl := yes_of_fast hF h
end Go.Ab
end

section
/-
  Chapter 18: works(), evaluated once.
-/
namespace Go.Proofs.YtpclggcpobakhaaDoor
open Go Go.Ab
set_option maxRecDepth 100000
set_option maxHeartbeats 0 in
theorem fast_13 : (hand E18p fast18 1000).call 13 [] m18 (trueK 1) = true := by decide +kernel
theorem works_run : ∃ fuel m', run E18p fuel (.call 13 [] m18) = some (.val (.bool true) m') ∧ 1 ≤ m'.wl := true_of_fast (E := E18p) (F := fast18) (n := 1000) (g := 1) fast18_ok fast_13
def worksRun (args : List Value) (m : AMem) : Option (Value × AMem) :=
  match args with
  | [] => if tabAt m then some (.bool true, m) else none
  | _ => none
theorem works_callOk {args : List Value} {m m' : AMem} {v : Value} (h : worksRun args m = some (v, m')) {j : Inj} {w : World} {args' : List Value} (hm : MR E18p j m w) (hl : LR j args args') :
    CallOk E18p.P (E18p.prim 13).isSome 13 args'.toArray w (ValQ E18p j m w v m') := by
  unfold worksRun at h
  split at h
  · split at h
    · rename_i ht
      cases h
      obtain ⟨fuel, m0, h1, h2⟩ := works_run
      refine memoG_callOk (E := E18p) (gs := tab18) E18p_ok tab18_plain h1 h2 rfl hm (fun x c hx hg => ?_) hl
      have hx : x < 1 := hx
      have : x = 0 := by omega
      subst this
      simp only [tab18, if_true, Option.some.injEq] at hg
      rw [← hg]; exact tabAt_true ht
    · cases h
  · cases h
end Go.Proofs.YtpclggcpobakhaaDoor
end

section
/-
  Chapter 18: the environment with slices.overlaps, slices.Insert, slices.Delete.
-/
namespace Go.Proofs.YtpclggcpobakhaaDoor
open Go Go.Ab Go.Ab.W
set_option maxRecDepth 10000
attribute [local irreducible] Tm.at Trie.set Trie.get AMem.get AMem.set AMem.alloc AMem.ww AMem.kill

/-- A slice that is all of a block of pairs: how many, the cells. -/
def wholeOf (m : AMem) (b n n' : Nat) : Option (List Value) :=
 match m.get b with
 | some (.cells cs .own) => if n = n' ∧ cs.length = n * 2 ∧ cs.all plain1 = true then some cs else none
 | some (.cells cs (.more 2)) => if n = n' ∧ cs.length = n * 2 ∧ cs.all plain1 = true then some cs else none
 | _ => none
theorem wholeOf_some {m : AMem} {b n n' : Nat} {cs : List Value} (h : wholeOf m b n n' = some cs) : ∃ tg, m.get b = some (.cells cs tg) ∧ (tg = .own ∨ tg = .more 2) ∧ n = n' ∧ cs.length = n * 2 ∧ cs.all plain1 = true := by
 unfold wholeOf at h
 split at h
 ·rename_i cs' hg
  split at h
  ·rename_i hc; cases h; exact ⟨_, hg, .inl rfl, hc⟩
  ·cases h
 ·rename_i cs' hg
  split at h
  ·rename_i hc; cases h; exact ⟨_, hg, .inr rfl, hc⟩
  ·cases h
 ·cases h
theorem plain_app {l l2 : List Value} (h : l.all plain1 = true) (h2 : l2.all plain1 = true) : (l ++ l2).all plain1 = true := by rw [List.all_append, h, h2]; rfl
def delRun (args : List Value) (m : AMem) : Option (Value × AMem) :=
 match args with
 | [.slice (some ⟨b, 0, none⟩) n n', .int .i64 i, .int .i64 j] =>
  match wholeOf m b n n' with
  | some cs => if 0 ≤ i ∧ i < j ∧ j ≤ n ∧ lim n = true then
    some (.slice (some ⟨m.next, 0, none⟩) (n - (j.toNat - i.toNat)) (n - (j.toNat - i.toNat)), (m.kill b).alloc (.cells (cs.take (i.toNat * 2) ++ cs.drop (j.toNat * 2)) (.more 2)))
   else none
  | none => none
 | _ => none
theorem del_callOk {args : List Value} {m m' : AMem} {v : Value} (h : delRun args m = some (v, m')) {j : Inj} {w : World} {args' : List Value} (hm : MR E18o j m w) (hl : LR j args args') :
  CallOk E18o.P (E18o.prim 49).isSome 49 args'.toArray w (ValQ E18o j m w v m') := by
 unfold delRun at h
 split at h
 ·rename_i b n n' i jj
  split at h
  ·rename_i cs hcs
   obtain ⟨tg, hg, htg, rfl, hcl, hp⟩ := wholeOf_some hcs
   split at h
   ·rename_i hc
    cases h
    obtain ⟨h1, h2, h3, h4⟩ := hc
    obtain ⟨i, rfl⟩ := Int.eq_ofNat_of_zero_le h1
    obtain ⟨jj, rfl⟩ := Int.eq_ofNat_of_zero_le (show 0 ≤ jj by omega)
    have hij : i < jj := by omega
    have hjn : jj ≤ n := by omega
    simp only [Int.toNat_natCast]
    exact callOk_show E18o_ok hg htg (by decide) hcl hp (by rw [List.length_append, List.length_take, List.length_drop]; omega) (plain_app (plain_sub hp fun v hv => List.mem_of_mem_take hv) (plain_sub hp fun v hv => List.mem_of_mem_drop hv))
     (del_meets hcl hp hij hjn h4) hm hl
   ·cases h
  ·cases h
 ·cases h

/-- The two cells of a slice of one pair, in a block that is not one that came in. -/
def pairOf (m : AMem) (a o : Nat) : Option (List Value) :=
 match m.get a with
 | some (.cells vs tv) => if notRo tv = true ∧ o + 2 ≤ vs.length ∧ vs.all plain1 = true then some ((vs.drop o).take 2) else none
 | _ => none
theorem pairOf_some {m : AMem} {a o : Nat} {e : List Value} (h : pairOf m a o = some e) : ∃ vs tv, m.get a = some (.cells vs tv) ∧ notRo tv = true ∧ o + 2 ≤ vs.length ∧ vs.all plain1 = true ∧ e = (vs.drop o).take 2 := by
 unfold pairOf at h
 split at h
 ·rename_i vs tv hg
  split at h
  ·rename_i hc; cases h; exact ⟨vs, tv, hg, hc.1, hc.2.1, hc.2.2, rfl⟩
  ·cases h
 ·cases h
def insRun (args : List Value) (m : AMem) : Option (Value × AMem) :=
 match args with
 | [.slice (some ⟨b, 0, none⟩) n n', .int .i64 i, .slice (some ⟨a, o, none⟩) 1 _] =>
  match wholeOf m b n n', pairOf m a o with
  | some cs, some e => if 0 ≤ i ∧ i ≤ n ∧ lim (n + 1) = true ∧ a ≠ b ∧ a < m.next then
    some (.slice (some ⟨m.next, 0, none⟩) (n + 1) (n + 1), (m.kill b).alloc (.cells (cs.take (i.toNat * 2) ++ e ++ cs.drop (i.toNat * 2)) (.more 2)))
   else none
  | _, _ => none
 | _ => none
theorem ins_callOk {args : List Value} {m m' : AMem} {v : Value} (h : insRun args m = some (v, m')) {j : Inj} {w : World} {args' : List Value} (hm : MR E18o j m w) (hl : LR j args args') :
  CallOk E18o.P (E18o.prim 82).isSome 82 args'.toArray w (ValQ E18o j m w v m') := by
 unfold insRun at h
 split at h
 ·rename_i b n n' i a o c2
  split at h
  ·rename_i cs e hcs he
   obtain ⟨tg, hg, htg, rfl, hcl, hp⟩ := wholeOf_some hcs
   obtain ⟨vs, tv, hga, htv, hov, hpv, rfl⟩ := pairOf_some he
   split at h
   ·rename_i hc
    cases h
    obtain ⟨h1, h2, h3, h4, h5⟩ := hc
    obtain ⟨i, rfl⟩ := Int.eq_ofNat_of_zero_le h1
    have hin : i ≤ n := by omega
    simp only [Int.toNat_natCast]
    exact callOk_show E18o_ok hg htg (by decide) hcl hp (by simp only [List.length_append, List.length_take, List.length_drop]; omega)
     (plain_app (plain_app (plain_sub hp fun v hv => List.mem_of_mem_take hv) (plain_sub hpv fun v hv => List.mem_of_mem_drop (List.mem_of_mem_take hv))) (plain_sub hp fun v hv => List.mem_of_mem_drop hv))
     (ins_meets h5 h4 hga htv hov hpv hcl hp hin h3) hm hl
   ·cases h
  ·cases h
 ·cases h

def prims18 (f : FuncId) : Option Prim := if f = 95 then some ⟨ovRun⟩ else if f = 49 then some ⟨delRun⟩ else if f = 82 then some ⟨insRun⟩ else if f = 13 then some ⟨worksRun⟩ else none
noncomputable def E18w : Env := { E18 with prim := prims18 }
theorem to18w {f : FuncId} {args' : List Value} {j : Inj} {m m' : AMem} {w : World} {v : Value} (hp : (E18w.prim f).isSome = true) (h : CallOk E18o.P (E18o.prim f).isSome f args'.toArray w (ValQ E18o j m w v m')) :
  CallOk E18w.P (E18w.prim f).isSome f args'.toArray w (ValQ E18w j m w v m') :=
 callOk_mono (P := E18o.P) (fun _ => hp) h fun _ _ ⟨j', s, hv⟩ => ⟨j', Sim.env (E := E18o) (E' := E18w) rfl s, hv⟩
theorem E18w_ok : EnvOk E18w := envOk_of progOk18 fun f p hp args m v m' hrun j w args' hm hl => by
 have hm' : MR E18o j m w := MR.env (E := E18w) (E' := E18o) rfl hm
 have hsome : (E18w.prim f).isSome = true := by rw [hp]; rfl
 have hp' : prims18 f = some p := hp
 unfold prims18 at hp'
 split at hp'
 ·rename_i h; subst h; cases hp'
  refine to18w hsome ?_
  exact E18o_ok.prim 95 ⟨ovRun⟩ rfl args m v m' hrun j w args' hm' hl
 ·split at hp'
  ·rename_i h; subst h; cases hp'
   refine to18w hsome ?_
   exact del_callOk hrun hm' hl
  ·split at hp'
   ·rename_i h; subst h; cases hp'
    refine to18w hsome ?_
    exact ins_callOk hrun hm' hl
   ·split at hp'
    ·rename_i h; subst h; cases hp'
     exact callOk_mono (P := E18p.P) (pr := (E18p.prim 13).isSome) (fun _ => hsome) (works_callOk hrun (MR.env (E := E18w) (E' := E18p) rfl hm) hl) fun _ _ ⟨j', s, hv⟩ => ⟨j', Sim.env (E := E18p) (E' := E18w) rfl s, hv⟩
    ·cases hp'
end Go.Proofs.YtpclggcpobakhaaDoor
end

section
/-
  Chapter 18: contracts by hand: slices.Clone.
-/
namespace Go.Proofs.YtpclggcpobakhaaDoor
open Go Go.Ab Go.Ab.W
set_option maxRecDepth 10000
set_option maxHeartbeats 4000000
attribute [local irreducible] Tm.at Trie.set Trie.get AMem.get AMem.set AMem.alloc AMem.ww AMem.kill

theorem sl_nn {P : Program} {ty e l c l' c' : Nat} (hu : P.underlying ty = some (.slice e)) : binA .eql ty P (.slice none l c) (.slice none l' c') = some (.bool true) := by
 simp only [binA, Op.maxDepth, eqA, hu, Option.map_some, Option.isNone_none]
theorem sl_sn {P : Program} {ty e l c l' c' : Nat} {A : Addr} (hu : P.underlying ty = some (.slice e)) : binA .eql ty P (.slice (some A) l c) (.slice none l' c') = some (.bool false) := by
 simp only [binA, Op.maxDepth, eqA, hu, Option.map_some]
theorem mu23 : E18w.P.underlying 23 = some (.slice 26) := by kernel_rfl
theorem ms23 : SlT E18w.P 23 26 2 := SlT.of (by kernel_rfl)
theorem mz26 : zeroA E18w.P 26 = some (.agg #[.int .i64 0, .int .i64 0]) := by kernel_rfl
theorem mu39 : E18w.P.underlying 39 = some (.slice 3) := by kernel_rfl
theorem ms39 : SlT E18w.P 39 3 1 := SlT.of (by kernel_rfl)
theorem mz3 : zeroA E18w.P 3 = some (.int .i64 0) := by kernel_rfl
theorem Rd.nil_len {m : AMem} {cap w n : Nat} {es : List (List Value)} (h : Rd m none cap w n es) : n = 0 := by
 rcases h.2.2 with ⟨_, h⟩ | ⟨_, _, h, _⟩ | ⟨_, _, h, _⟩
 ·exact h
 ·cases h
 ·cases h

theorem f26_ok (n : Nat) (l : List (Int × Int)) (a : Option Addr) (c : Nat) (r : List (Int × Int)) (hF : F26 n l = some r) (m : AMem) (h : Rd m a c 2 l.length (l.map (eP (eI .i64) (eI .i64)))) : CallA E18w 26 [.slice a l.length c] m (fun v m' => ∃ x : Option Addr × Nat, v = .slice x.1 x.2 x.2 ∧ Hp m m' [.sl x.1 2 x.2 (r.map (eP (eI .i64) (eI .i64)))]) := by
 unfold F26 at hF
 obtain ⟨hl, hF⟩ := gd_some hF
 cases hF
 cases a with
 | none =>
  have h0 := Rd.nil_len h
  have : l = [] := List.length_eq_zero_iff.1 h0
  subst this
  refine call_wk (m0 := m) (ps := []) (N := 8) (rs := [.tmp 2]) rfl Tryd.func26 rfl rfl rfl (Hp.start m) ?_
  refine Wk.seq ?_
  refine Wk.region ?_
  refine Wo.od (o_as rfl) rfl ?_
  refine Wo.nil ?_
  refine At.tn ?_
  refine Wk.seq ?_
  refine Wk.seq ?_
  refine Wk.region ?_
  refine Wo.od (o_mv rfl) rfl ?_
  refine Wo.od (o_bi rfl rfl (sl_nn mu23)) rfl ?_
  refine Wo.nil ?_
  refine At.tn ?_
  refine Wk.condT rfl rfl ?_
  refine Wk.seq ?_
  refine Wk.region ?_
  refine Wo.od (o_as rfl) rfl ?_
  refine Wo.nil ?_
  refine At.tn ?_
  refine Wk.ret ?_
  refine At.tr ?_
  exact At.ret (.tmp rfl .nil) fun m' hm => ⟨(none, 0), rfl, (Turn.nil 2 rfl) m' hm⟩
 | some A =>
  refine call_wk (m0 := m) (ps := [.rd (some A) c 2 l.length (l.map (eP (eI .i64) (eI .i64)))]) (N := 8) (rs := [.tmp 2]) rfl Tryd.func26 rfl rfl rfl ((Hp.start m).inn rfl h) ?_
  refine Wk.seq ?_
  refine Wk.region ?_
  refine Wo.od (o_as rfl) rfl ?_
  refine Wo.nil ?_
  refine At.tn ?_
  refine Wk.seq ?_
  refine Wk.seq ?_
  refine Wk.region ?_
  refine Wo.od (o_mv rfl) rfl ?_
  refine Wo.od (o_bi rfl rfl (sl_sn mu23)) rfl ?_
  refine Wo.nil ?_
  refine At.tn ?_
  refine Wk.condF rfl rfl ?_
  refine Wk.skip ?_
  refine At.tn ?_
  refine Wk.seq ?_
  refine Wk.region ?_
  refine Wo.x (o_bs (es := ([] : List (Int × Int)).map (eP (eI .i64) (eI .i64))) ms23 rfl (bs_c ms23 mz26 rfl rfl) rfl rfl) gn rfl fun b => ?_
  refine Wo.od (o_mv rfl) rfl ?_
  refine Wo.turn (Turn.close (k := 0) rfl) ?_
  refine Wo.x (o_apl (k := 0) (k2 := 1) (xs := ([] : List (Int × Int))) (ys := l) (enP (enI .i64) (enI .i64)) ms23 ⟨_, mu23⟩ rfl rfl rfl (.rd _ _ _ _ _) hl) gn rfl fun a2 => ?_
  refine Wo.od (o_as rfl) rfl ?_
  refine Wo.nil ?_
  refine At.tn ?_
  refine Wk.ret ?_
  exact At.ret (.tmp rfl .nil) fun m' hm => ⟨(a2, l.length), rfl, (Turn.picks [0] rfl rfl) m' hm⟩
theorem f46_ok (n : Nat) (l : List Int) (a : Option Addr) (c : Nat) (r : List Int) (hF : F46 n l = some r) (m : AMem) (h : Rd m a c 1 l.length (l.map (eI .i64))) : CallA E18w 46 [.slice a l.length c] m (fun v m' => ∃ x : Option Addr × Nat, v = .slice x.1 x.2 x.2 ∧ Hp m m' [.sl x.1 1 x.2 (r.map (eI .i64))]) := by
 unfold F46 at hF
 obtain ⟨hl, hF⟩ := gd_some hF
 cases hF
 cases a with
 | none =>
  have h0 := Rd.nil_len h
  have : l = [] := List.length_eq_zero_iff.1 h0
  subst this
  refine call_wk (m0 := m) (ps := []) (N := 8) (rs := [.tmp 2]) rfl Tryd.func46 rfl rfl rfl (Hp.start m) ?_
  refine Wk.seq ?_
  refine Wk.region ?_
  refine Wo.od (o_as rfl) rfl ?_
  refine Wo.nil ?_
  refine At.tn ?_
  refine Wk.seq ?_
  refine Wk.seq ?_
  refine Wk.region ?_
  refine Wo.od (o_mv rfl) rfl ?_
  refine Wo.od (o_bi rfl rfl (sl_nn mu39)) rfl ?_
  refine Wo.nil ?_
  refine At.tn ?_
  refine Wk.condT rfl rfl ?_
  refine Wk.seq ?_
  refine Wk.region ?_
  refine Wo.od (o_as rfl) rfl ?_
  refine Wo.nil ?_
  refine At.tn ?_
  refine Wk.ret ?_
  refine At.tr ?_
  exact At.ret (.tmp rfl .nil) fun m' hm => ⟨(none, 0), rfl, (Turn.nil 1 rfl) m' hm⟩
 | some A =>
  refine call_wk (m0 := m) (ps := [.rd (some A) c 1 l.length (l.map (eI .i64))]) (N := 8) (rs := [.tmp 2]) rfl Tryd.func46 rfl rfl rfl ((Hp.start m).inn rfl h) ?_
  refine Wk.seq ?_
  refine Wk.region ?_
  refine Wo.od (o_as rfl) rfl ?_
  refine Wo.nil ?_
  refine At.tn ?_
  refine Wk.seq ?_
  refine Wk.seq ?_
  refine Wk.region ?_
  refine Wo.od (o_mv rfl) rfl ?_
  refine Wo.od (o_bi rfl rfl (sl_sn mu39)) rfl ?_
  refine Wo.nil ?_
  refine At.tn ?_
  refine Wk.condF rfl rfl ?_
  refine Wk.skip ?_
  refine At.tn ?_
  refine Wk.seq ?_
  refine Wk.region ?_
  refine Wo.x (o_bs (es := ([] : List Int).map (eI .i64)) ms39 rfl (bs_c ms39 mz3 rfl rfl) rfl rfl) gn rfl fun b => ?_
  refine Wo.od (o_mv rfl) rfl ?_
  refine Wo.turn (Turn.close (k := 0) rfl) ?_
  refine Wo.x (o_apl (k := 0) (k2 := 1) (xs := ([] : List Int)) (ys := l) (enI .i64) ms39 ⟨_, mu39⟩ rfl rfl rfl (.rd _ _ _ _ _) hl) gn rfl fun a2 => ?_
  refine Wo.od (o_as rfl) rfl ?_
  refine Wo.nil ?_
  refine At.tn ?_
  refine Wk.ret ?_
  exact At.ret (.tmp rfl .nil) fun m' hm => ⟨(a2, l.length), rfl, (Turn.picks [0] rfl rfl) m' hm⟩
end Go.Proofs.YtpclggcpobakhaaDoor
end

section
/-
  Chapter 18: math/bits.TrailingZeros64 over E18w.
-/
namespace Go.Proofs.YtpclggcpobakhaaDoor
open Go Go.Ab
set_option maxRecDepth 10000

theorem P18w : E18w.P = Tryd.prog := rfl
theorem tz_specW (x : Nat) (hx : x < 2 ^ 64) (m : AMem) (hm : m.get 0 = some (.cells (tabInts.map (.int .u8)) .ro)) : CallA E18w 42 [.int .u64 (x : Int)] m (fun v m' => v = .int .i64 (tz x : Int) ∧ m' = m) := by
 refine CallA.enterM (N := 14) (rs := [.tmp 2]) rfl Tryd.func42 rfl rfl rfl ?_
 simp only [ofList_cons, ofList_nil]
 (repeat refine CodeA.seq ?_); refine CodeA.regionK fun K hK => ?_
 refine st_op rfl (o_assign (ev_int _ _)) (lt_b rfl) ?_
 refine hK _ _ ?_; clear hK K; try simp only [ta_normal]
 (repeat refine CodeA.seq ?_); refine CodeA.regionK fun K hK => ?_
 refine st_op rfl (o_move (ev_at (by repeat first | (apply at_skip; rfl) | exact at_hit _ _ _ | assumption))) (lt_b rfl) ?_
 refine st_op rfl (o_bin (ev_at (by repeat first | (apply at_skip; rfl) | exact at_hit _ _ _ | assumption)) (ev_int _ _) (bin_eql _ _ _)) (lt_b rfl) ?_
 refine hK _ _ ?_; clear hK K; try simp only [ta_normal]
 by_cases h0 : x = 0
 ·refine CodeA.cond (c := true) ((ev_at (by repeat first | (apply at_skip; rfl) | exact at_hit _ _ _ | assumption)).trans (by rw [h0]; rfl)) (fun _ => ?_) (fun h => by cases h)
  (repeat refine CodeA.seq ?_); refine CodeA.regionK fun K hK => ?_
  refine st_op rfl (o_assign (ev_int _ _)) (lt_b rfl) ?_
  refine hK _ _ ?_; clear hK K; try simp only [ta_normal]
  refine CodeA.ret ?_; simp only [ta_ret, ib_ret, em_ret, resultsA, resM_some, tupleA, Option.map_some, at_set, Nat.reduceEqDiff, reduceIte]
  rw [h0]
  exact ⟨by trivial, by trivial⟩
 ·have hp : 0 < x := by omega
  have hk := (tz_low hp hx).1
  refine CodeA.cond (c := false) ((ev_at (by repeat first | (apply at_skip; rfl) | exact at_hit _ _ _ | assumption)).trans (by rw [decide_eq_false (by omega)])) (fun h => by cases h) (fun _ => ?_)
  refine CodeA.skip ?_
  rw [ta_normal]
  (repeat refine CodeA.seq ?_); refine CodeA.regionK fun K hK => ?_
  refine st_op rfl (o_move (ev_at (by repeat first | (apply at_skip; rfl) | exact at_hit _ _ _ | assumption))) (lt_b rfl) ?_
  refine st_op rfl (o_move (ev_at (by repeat first | (apply at_skip; rfl) | exact at_hit _ _ _ | assumption))) (lt_b rfl) ?_
  refine st_op rfl (o_un (ev_at (by repeat first | (apply at_skip; rfl) | exact at_hit _ _ _ | assumption)) (neg_u64 x hp hx)) (lt_b rfl) ?_
  refine st_op rfl (o_bin (ev_at (by repeat first | (apply at_skip; rfl) | exact at_hit _ _ _ | assumption)) (ev_at (by repeat first | (apply at_skip; rfl) | exact at_hit _ _ _ | assumption)) (and_u64 x hp hx)) (lt_b rfl) ?_
  refine st_op rfl (o_bin (ev_at (by repeat first | (apply at_skip; rfl) | exact at_hit _ _ _ | assumption)) (ev_int _ _) (mul_db _)) (lt_b rfl) ?_
  refine st_op rfl (o_bin (ev_at (by repeat first | (apply at_skip; rfl) | exact at_hit _ _ _ | assumption)) (ev_int _ _) (shr_db _)) (lt_b rfl) ?_
  refine st_op rfl (o_indexAddr rfl (ev_at (by repeat first | (apply at_skip; rfl) | exact at_hit _ _ _ | assumption)) (idx_db _ hk)) (lt_b rfl) ?_
  refine st_op rfl (o_load (ev_at (by repeat first | (apply at_skip; rfl) | exact at_hit _ _ _ | assumption)) (load_db _ hk hm)) (lt_b rfl) ?_
  refine st_op rfl (o_conv (ev_at (by repeat first | (apply at_skip; rfl) | exact at_hit _ _ _ | assumption)) (conv_5_3 _ (Nat.lt_trans hk (by decide)))) (lt_b rfl) ?_
  refine st_op rfl (o_assign (ev_at (by repeat first | (apply at_skip; rfl) | exact at_hit _ _ _ | assumption))) (lt_b rfl) ?_
  refine hK _ _ ?_; clear hK K; try simp only [ta_normal]
  refine CodeA.ret ?_; simp only [ta_ret, ib_ret, em_ret, resultsA, resM_some, tupleA, Option.map_some, at_set, Nat.reduceEqDiff, reduceIte]
  exact ⟨by trivial, by trivial⟩
end Go.Proofs.YtpclggcpobakhaaDoor
end

section
/-
  Chapter 18: contracts by hand: bits.TrailingZeros64.
-/
namespace Go.Proofs.YtpclggcpobakhaaDoor
open Go Go.Ab Go.Ab.W
set_option maxRecDepth 10000
attribute [local irreducible] Tm.at Trie.set Trie.get AMem.get AMem.set AMem.alloc AMem.ww AMem.kill

/-- The laid table stands in block 0. -/
def Gl (m : AMem) : Prop := m.get 0 = some (.cells (tabInts.map (.int .u8)) .ro) ∧ 0 < m.next
theorem Gl.ext {m m' : AMem} (h : Gl m) (e : Ext m m') : Gl m' := ⟨by rw [e.same 0 h.2]; exact h.1, Nat.lt_of_lt_of_le h.2 e.next⟩
theorem f42_ok (n x : Nat) (r : Int) (hF : F42 n x = some r) (m : AMem) (hG : Gl m) : CallA E18w 42 [.int .u64 ((x : Nat) : Int)] m (fun v m' => ∃ x : Unit, v = .int .i64 r ∧ Hp m m' []) := by
 unfold F42 at hF
 obtain ⟨hx, hF⟩ := gd_some hF
 cases hF
 exact (tz_specW x (of_decide_eq_true hx) m hG.1).mono fun v m' h => ⟨(), h.1, by rw [h.2]; exact Hp.start m⟩
end Go.Proofs.YtpclggcpobakhaaDoor
end

section
/-
  Chapter 18: Delete and Insert, ars calls that use up a piece.
-/
namespace Go.Proofs.YtpclggcpobakhaaDoor
open Go Go.Ab Go.Ab.W
set_option maxRecDepth 10000
attribute [local irreducible] Tm.at Trie.set Trie.get AMem.get AMem.set AMem.alloc AMem.ww AMem.kill

theorem plain_enc {l : List (Int × Int)} : ((l.map (eP (eI .i64) (eI .i64))).flatten).all plain1 = true := by
 induction l with
 | nil => rfl
 | cons x l ih => rw [List.map_cons, List.flatten_cons, List.all_append, ih]; rfl
theorem len_enc {l : List (Int × Int)} : ((l.map (eP (eI .i64) (eI .i64))).flatten).length = l.length * 2 := by
 induction l with
 | nil => rfl
 | cons x l ih => rw [List.map_cons, List.flatten_cons, List.length_append, ih, List.length_cons]; show 2 + _ = _; omega
/-- A block is used up; what comes of it is a new one. -/
theorem used {m0 m : AMem} {ps : List Pc} (h : Hp m0 m ps) {k b n n3 : Nat} {es es3 : List (List Value)} (hp : pk ps k = some (.sl (some ⟨b, 0, none⟩) 2 n es)) (hn : es3.length = n3) (hw : ∀ e ∈ es3, e.length = 2) :
  Hp m0 ((m.kill b).alloc (.cells es3.flatten (.more 2))) (pset ps k (.sl (some ⟨m.next, 0, none⟩) 2 n3 es3)) := by
 have hb : m0.next ≤ b := by
  rcases h.get hp with ⟨_, _, h3, _⟩ | ⟨b', tg, h1, h2⟩
  ·cases h3
  ·cases h1; exact h2.1
 have hk : Ext m0 (m.kill b) := ⟨by rw [AMem.next_kill]; exact h.ext.next, fun x hx => by rw [AMem.get_kill, if_neg (by omega)]; exact h.ext.same x hx, by
  rw [AMem.wl_kill]
  have := h.ext.wl; omega⟩
 refine h.renew hp (by rw [AMem.next_alloc, AMem.next_kill]; omega) (hk.alloc _) (.inr ⟨m.next, .more 2, rfl, h.ext.next, by rw [AMem.next_alloc, AMem.next_kill]; omega, by rw [AMem.get_alloc, AMem.next_kill, if_pos rfl], hn, hw, .inr rfl, by decide⟩) (fun b' hb' => ?_) rfl fun b' hb' hlt => ?_
 ·cases hb'; exact Nat.le_refl _
 ·rw [AMem.get_alloc, AMem.next_kill, if_neg (by omega), AMem.get_kill, if_neg (fun e => hb' (by rw [e]; rfl))]

theorem take_enc (l : List (Int × Int)) : ∀ i, ((l.map (eP (eI .i64) (eI .i64))).flatten).take (i * 2) = ((l.take i).map (eP (eI .i64) (eI .i64))).flatten := by
 induction l with
 | nil => intro i; simp
 | cons x l ih =>
  intro i
  cases i with
  | zero => simp
  | succ i =>
   rw [List.take_succ_cons, List.map_cons, List.map_cons, List.flatten_cons, List.flatten_cons, ← ih i, Nat.add_mul]
   show List.take (i * 2 + 2) (_ :: _ :: _) = _ :: _ :: _
   rw [List.take_succ_cons, List.take_succ_cons]; rfl
theorem drop_enc (l : List (Int × Int)) : ∀ i, ((l.map (eP (eI .i64) (eI .i64))).flatten).drop (i * 2) = ((l.drop i).map (eP (eI .i64) (eI .i64))).flatten := by
 induction l with
 | nil => intro i; simp
 | cons x l ih =>
  intro i
  cases i with
  | zero => simp
  | succ i =>
   rw [List.drop_succ_cons, List.map_cons, List.flatten_cons, ← ih i, Nat.add_mul]
   show List.drop (i * 2 + 2) (_ :: _ :: _) = _
   rw [List.drop_succ_cons, List.drop_succ_cons]; rfl

theorem whole_enc {m0 m : AMem} {ps : List Pc} (h : Hp m0 m ps) {k b : Nat} {l : List (Int × Int)} (hp : pk ps k = some (.sl (some ⟨b, 0, none⟩) 2 l.length (l.map (eP (eI .i64) (eI .i64))))) : wholeOf m b l.length l.length = some (l.map (eP (eI .i64) (eI .i64))).flatten := by
 rcases h.get hp with ⟨_, _, h3, _⟩ | ⟨b', tg, h1, h2⟩
 ·cases h3
 ·cases h1
  have hg := h2.2.2.1
  unfold wholeOf
  rcases h2.2.2.2.2.2.1 with rfl | rfl <;> simp only [hg] <;> rw [if_pos ⟨trivial, len_enc, plain_enc⟩]
theorem del_use {m0 m : AMem} {ps : List Pc} (h : Hp m0 m ps) {k b i j : Nat} {l : List (Int × Int)} (hp : pk ps k = some (.sl (some ⟨b, 0, none⟩) 2 l.length (l.map (eP (eI .i64) (eI .i64))))) (hij : i < j) (hj : j ≤ l.length) (hlim : lim l.length = true) :
  CallA E18w 49 [.slice (some ⟨b, 0, none⟩) l.length l.length, .int .i64 (i : Int), .int .i64 (j : Int)] m (fun v m' => ∃ x : Option Addr × Nat, v = .slice x.1 x.2 x.2 ∧ Hp m0 m' (pset ps k (.sl x.1 2 x.2 ((l.take i ++ l.drop j).map (eP (eI .i64) (eI .i64)))))) := by
 refine CallA.prim (p := ⟨delRun⟩) rfl (v := .slice (some ⟨m.next, 0, none⟩) (l.length - (j - i)) (l.length - (j - i))) (m' := (m.kill b).alloc (.cells ((l.take i ++ l.drop j).map (eP (eI .i64) (eI .i64))).flatten (.more 2))) ?_ ⟨(some ⟨m.next, 0, none⟩, l.length - (j - i)), rfl, used h hp (by simp; omega) fun e he => ?_⟩
 ·show delRun [.slice (some ⟨b, 0, none⟩) l.length l.length, .int .i64 (i : Int), .int .i64 (j : Int)] m = _
  simp only [delRun, whole_enc h hp]
  rw [if_pos ⟨by omega, by omega, by omega, hlim⟩]
  simp only [Int.toNat_natCast, take_enc, drop_enc, List.map_append, List.flatten_append]
 ·obtain ⟨x, _, rfl⟩ := List.mem_map.1 he
  rfl
theorem Hp.tail {m0 m : AMem} {p : Pc} {ps : List Pc} (h : Hp m0 m (p :: ps)) : Hp m0 m ps :=
 ⟨h.ext, fun q hq => h.ok q (List.mem_cons_of_mem _ hq), (List.pairwise_cons.1 h.apart).2⟩
theorem call_wkP {E : Env} {m0 : AMem} {ps : List Pc} {f : FuncId} {F : Func} {c : Code} {args : List Value} {rs : List ResultVar} {N : Nat} {R : Value → AMem → Prop} {m : AMem} (hp : primA E f args m = none) (hf : E.P.funcs[f]? = some F) (hb : F.body = some c) (hrs : F.results.toList = rs) (hN : max args.length F.ntmps = N)
  (hm : Hp m0 m ps) (h : Wk E N f none c (endM E rs R) m0 (argFs args 0 []) ps) : CallA E f args m R := by
 subst hN hrs
 refine CallA.enterP hp hf hb ((h _ m (Fr.args args 0 [] _ (Fr.nil _)) hm).mono fun e t' m' hq => ?_)
 cases e with
 | exit id => exact hq.elim
 | normal =>
  refine ⟨fun id h => (by cases h), ?_⟩
  simp only [endM] at hq
  unfold resM at hq
  split at hq
  ·rename_i vs hv; exact ⟨vs, hv, hq⟩
  ·exact hq.elim
 | ret =>
  refine ⟨fun id h => (by cases h), ?_⟩
  simp only [endM] at hq
  unfold resM at hq
  split at hq
  ·rename_i vs hv; exact ⟨vs, hv, hq⟩
  ·exact hq.elim
theorem pair_enc {m0 m : AMem} {ps : List Pc} (h : Hp m0 m ps) {k2 b2 : Nat} {x : Int × Int} {tg : Tag} (hp : pk ps k2 = some (.arr b2 2 1 ([x].map (eP (eI .i64) (eI .i64))) tg)) : pairOf m b2 0 = some (([x].map (eP (eI .i64) (eI .i64))).flatten) ∧ b2 < m.next := by
 have h2 := h.get hp
 refine ⟨?_, h2.2.1⟩
 have hg := h2.2.2.1
 unfold pairOf
 rcases h2.2.2.2.2.2.1 with rfl | rfl <;> simp only [hg] <;> rfl
theorem ins_use {m0 m : AMem} {ps : List Pc} (h : Hp m0 m ps) {k k2 b b2 i : Nat} {l : List (Int × Int)} {x : Int × Int} {tg : Tag} (hp : pk ps k = some (.sl (some ⟨b, 0, none⟩) 2 l.length (l.map (eP (eI .i64) (eI .i64))))) (hp2 : pk ps k2 = some (.arr b2 2 1 ([x].map (eP (eI .i64) (eI .i64))) tg)) (hk : k2 ≠ k) (hi : i ≤ l.length) (hlim : lim (l.length + 1) = true) :
  CallA E18w 82 [.slice (some ⟨b, 0, none⟩) l.length l.length, .int .i64 (i : Int), .slice (some ⟨b2, 0, none⟩) 1 1] m (fun v m' => ∃ y : Option Addr × Nat, v = .slice y.1 y.2 y.2 ∧ Hp m0 m' (pset ps k (.sl y.1 2 y.2 ((l.take i ++ [x] ++ l.drop i).map (eP (eI .i64) (eI .i64)))))) := by
 have hne : b2 ≠ b := fun e => apart_at h.apart hp2 hp hk (.inl rfl) b2 rfl (by rw [e]; rfl)
 obtain ⟨hpr, hlt⟩ := pair_enc h hp2
 refine CallA.prim (p := ⟨insRun⟩) rfl (v := .slice (some ⟨m.next, 0, none⟩) (l.length + 1) (l.length + 1)) (m' := (m.kill b).alloc (.cells ((l.take i ++ [x] ++ l.drop i).map (eP (eI .i64) (eI .i64))).flatten (.more 2))) ?_ ⟨(some ⟨m.next, 0, none⟩, l.length + 1), rfl, used h hp (by simp; omega) fun e he => ?_⟩
 ·show insRun [.slice (some ⟨b, 0, none⟩) l.length l.length, .int .i64 (i : Int), .slice (some ⟨b2, 0, none⟩) 1 1] m = _
  simp only [insRun, whole_enc h hp, hpr]
  rw [if_pos ⟨by omega, by omega, hlim, hne, hlt⟩]
  simp only [Int.toNat_natCast, take_enc, drop_enc, List.map_append, List.flatten_append]
 ·obtain ⟨x, _, rfl⟩ := List.mem_map.1 he
  rfl

theorem ins_nil {m0 m : AMem} {ps : List Pc} (h : Hp m0 m ps) {k k2 b2 : Nat} {x : Int × Int} {tg : Tag} (hp : pk ps k = some (.sl none 2 0 (([] : List (Int × Int)).map (eP (eI .i64) (eI .i64))))) (hp2 : pk ps k2 = some (.arr b2 2 1 ([x].map (eP (eI .i64) (eI .i64))) tg)) :
  CallA E18w 82 [.slice none 0 0, .int .i64 0, .slice (some ⟨b2, 0, none⟩) 1 1] m (fun v m' => ∃ y : Option Addr × Nat, v = .slice y.1 y.2 y.2 ∧ Hp m0 m' (pset ps k (.sl y.1 2 y.2 (([x] : List (Int × Int)).map (eP (eI .i64) (eI .i64)))))) := by
 refine call_wkP (m0 := m0) (ps := ps) (N := 95) (rs := [.tmp 6]) rfl Tryd.func82 rfl rfl rfl h ?_
 refine Wk.seq ?_
 refine Wk.region ?_
 refine Wo.od (o_as rfl) rfl ?_
 refine Wo.nil ?_
 refine At.tn ?_
 refine Wk.seq ?_
 refine Wk.region ?_
 refine Wo.od (o_mv rfl) rfl ?_
 refine Wo.od (o_mv rfl) rfl ?_
 refine Wo.turn (Turn.nilr 2) ?_
 refine Wo.x (o_srl (k := 0) (lo := 0) (hi := ((0 : Nat) : Int)) (xs := ([] : List (Int × Int))) (f := eP (eI .i64) (eI .i64)) ms23 rfl rfl rfl rfl (by decide) (.inr ⟨_, rfl⟩) (.inl ⟨rfl, rfl⟩)) gn rfl ?_
 rintro ⟨a2, c2⟩
 refine Wo.nil ?_
 refine At.tn ?_
 refine Wk.seq ?_
 refine Wk.region ?_
 refine Wo.od (o_mv rfl) rfl ?_
 refine Wo.od (o_ln (k := k2 + 2) mu23 rfl (by rw [pk_succ, pk_succ]; exact hp2) (.inl rfl)) rfl ?_
 refine Wo.od (o_as rfl) rfl ?_
 refine Wo.nil ?_
 refine At.tn ?_
 refine Wk.seq ?_
 refine Wk.seq ?_
 refine Wk.region ?_
 refine Wo.od (o_mv rfl) rfl ?_
 refine Wo.od (o_bi rfl rfl (bin_eql _ _ _)) rfl ?_
 refine Wo.nil ?_
 refine At.tn ?_
 refine Wk.condF rfl rfl ?_
 refine Wk.skip ?_
 refine At.tn ?_
 refine Wk.seq ?_
 refine Wk.region ?_
 refine Wo.od (o_mv rfl) rfl ?_
 refine Wo.od (o_ln0 mu23 rfl) rfl ?_
 refine Wo.od (o_as rfl) rfl ?_
 refine Wo.nil ?_
 refine At.tn ?_
 refine Wk.seq ?_
 refine Wk.seq ?_
 refine Wk.region ?_
 refine Wo.od (o_mv rfl) rfl ?_
 refine Wo.od (o_mv rfl) rfl ?_
 refine Wo.od (o_bi rfl rfl (bin_eql _ _ _)) rfl ?_
 refine Wo.nil ?_
 refine At.tn ?_
 refine Wk.condT rfl rfl ?_
 refine Wk.seq ?_
 refine Wk.region ?_
 refine Wo.od (o_mv rfl) rfl ?_
 refine Wo.od (o_mv rfl) rfl ?_
 refine Wo.x (o_apl (k := k + 2) (k2 := k2 + 2) (xs := ([] : List (Int × Int))) (ys := [x]) (enP (enI .i64) (enI .i64)) ms23 ⟨_, mu23⟩ rfl (by rw [pk_succ, pk_succ]; exact hp) (by rw [pk_succ, pk_succ]; exact hp2) (.arr _ _ _ _ _) rfl) gn rfl fun a3 => ?_
 refine Wo.od (o_as rfl) rfl ?_
 refine Wo.nil ?_
 refine At.tn ?_
 refine Wk.ret ?_
 refine At.tr ?_
 refine At.ret (.tmp rfl .nil) fun m' hm => ⟨(a3, 1), rfl, ?_⟩
 rw [pset_succ, pset_succ] at hm
 exact Hp.tail (Hp.tail hm)
theorem f82_use (n : Nat) {m0 m : AMem} {ps : List Pc} (h : Hp m0 m ps) {k k2 b2 : Nat} {a : Option Addr} {i : Int} {l r : List (Int × Int)} {x : Int × Int} {tg : Tag} (hp : pk ps k = some (.sl a 2 l.length (l.map (eP (eI .i64) (eI .i64))))) (hp2 : pk ps k2 = some (.arr b2 2 1 ([x].map (eP (eI .i64) (eI .i64))) tg)) (hk : Nat.beq k2 k = false) (hF : F82 n l i [x] = some r) :
  CallA E18w 82 [.slice a l.length l.length, .int .i64 i, .slice (some ⟨b2, 0, none⟩) 1 1] m (fun v m' => ∃ y : Option Addr × Nat, v = .slice y.1 y.2 y.2 ∧ Hp m0 m' (pset ps k (.sl y.1 2 y.2 (r.map (eP (eI .i64) (eI .i64)))))) := by
 unfold F82 at hF
 obtain ⟨h1, hF⟩ := gd_some hF
 obtain ⟨h2, hF⟩ := gd_some hF
 cases hF
 obtain ⟨h3, h4, _⟩ := okB_some h1
 obtain ⟨i, rfl⟩ := Int.eq_ofNat_of_zero_le h3
 have hi : i ≤ l.length := by omega
 cases a with
 | none =>
  have hl : l = [] := by
   rcases h.get hp with ⟨_, h0, _⟩ | ⟨b, tg, h0, _⟩
   ·exact List.map_eq_nil_iff.1 h0
   ·cases h0
  subst hl
  obtain rfl : i = 0 := by simpa using hi
  exact ins_nil h hp hp2
 | some A =>
  obtain ⟨b, rfl⟩ : ∃ b, A = ⟨b, 0, none⟩ := by
   rcases h.get hp with ⟨_, _, h0, _⟩ | ⟨b, tg, h0, _⟩
   ·cases h0
   ·cases h0; exact ⟨b, rfl⟩
  exact ins_use h hp hp2 (Nat.ne_of_beq_eq_false hk) hi h2
theorem f49_use (n : Nat) {m0 m : AMem} {ps : List Pc} (h : Hp m0 m ps) {k : Nat} {a : Option Addr} {i j : Int} {l r : List (Int × Int)} (hp : pk ps k = some (.sl a 2 l.length (l.map (eP (eI .i64) (eI .i64))))) (hF : F49 n l i j = some r) :
  CallA E18w 49 [.slice a l.length l.length, .int .i64 i, .int .i64 j] m (fun v m' => ∃ y : Option Addr × Nat, v = .slice y.1 y.2 y.2 ∧ Hp m0 m' (pset ps k (.sl y.1 2 y.2 (r.map (eP (eI .i64) (eI .i64)))))) := by
 unfold F49 at hF
 obtain ⟨h1, hF⟩ := gd_some hF
 obtain ⟨h2, hF⟩ := gd_some hF
 obtain ⟨h5, hF⟩ := gd_some hF
 cases hF
 obtain ⟨h3, h4, h6⟩ := okB_some h1
 have h2 := of_decide_eq_true h2
 obtain ⟨i, rfl⟩ := Int.eq_ofNat_of_zero_le h3
 obtain ⟨j, rfl⟩ := Int.eq_ofNat_of_zero_le (show 0 ≤ j by omega)
 obtain ⟨b, rfl⟩ : ∃ b, a = some ⟨b, 0, none⟩ := by
  rcases h.get hp with ⟨h0, _⟩ | ⟨b, tg, h0, _⟩
  ·omega
  ·exact ⟨b, h0⟩
 exact del_use h hp (by omega) (by omega) h5
theorem f13_ok (n : Nat) (r : Bool) (hF : F13 n = some r) (m : AMem) (hG : Gl m) : CallA E18w 13 [] m (fun v m' => ∃ x : Unit, v = .bool r ∧ Hp m m' []) := by
 cases hF
 refine CallA.prim (p := ⟨worksRun⟩) rfl (v := .bool true) (m' := m) ?_ ⟨(), rfl, Hp.start m⟩
 have ht : tabAt m = true := by
  unfold tabAt
  rw [hG.1]
  exact (by decide +kernel : eqTab (tabInts.map (.int .u8)) tabInts = true)
 show worksRun [] m = _
 simp only [worksRun, ht, if_true]
end Go.Proofs.YtpclggcpobakhaaDoor
end

section
/-
  Chapter 18: arguments of laws, ars the abstract machine sees them; a law's statement out of its call.
-/
namespace Go.Proofs.YtpclggcpobakhaaDoor
set_option maxRecDepth 100000
open Go Go.ChangeShapes Go.WideShapes Go.ChangeAt Go.WideMaps Go.WideElems Go.RowKit Go.Ab Go.Ab.W

theorem lv55 : lvs Tryd.prog 5 55 = some [.int .u8, .int .u8, .int .u16, .sl 103] := by kernel_rfl
theorem lv54 : lvs Tryd.prog 5 103 = some [.int .u8, .int .u8] := by kernel_rfl
theorem lv58 : lvs Tryd.prog 5 58 = some [.int .u8, .int .u8, .int .i64, .int .i64, .int .i64, .int .u8, .int .u8, .int .i64, .int .i64, .int .i64] := by kernel_rfl
theorem lv25 : lvs Tryd.prog 5 25 = some [.int .i64, .sl 26] := by kernel_rfl
theorem lv26 : lvs Tryd.prog 5 26 = some [.int .i64, .int .i64] := by kernel_rfl
theorem lv3 : lvs Tryd.prog 5 3 = some [.int .i64] := by kernel_rfl
theorem lv5 : lvs Tryd.prog 5 5 = some [.int .u8] := by kernel_rfl
theorem lu3 : Tryd.prog.underlying 3 = some (.int .i64) := by kernel_rfl
theorem lu5 : Tryd.prog.underlying 5 = some (.int .u8) := by kernel_rfl
theorem lu28 : Tryd.prog.underlying 28 = some (.int .u64) := by kernel_rfl
theorem lu39 : Tryd.prog.underlying 39 = some (.slice 3) := by kernel_rfl
theorem lu72 : Tryd.prog.underlying 72 = some (.slice 5) := by kernel_rfl
theorem lu58 : Tryd.prog.underlying 58 = some (.array 2 57) := by kernel_rfl

section
variable {H : Type} {enc : TypeId × Value → H} {W : World} {sp : Nat → Bool} {held : Bool} {v : Value} {d : DataW H} {p : List MemPlace} {base : Nat}
theorem dec54 : ∀ (n : Nat) (cs : List Value) (x : DataW H × List MemPlace), DataW.trod enc Tryd.prog W 0 sp held n 103 cs = some x → ∃ p : Nat × Nat, cs = eP (eN .u8) (eN .u8) p ∧ p.1 < 256 ∧ p.2 < 256 := by
 intro n cs x h
 obtain ⟨v1, cs, rfl, h1, h⟩ := all2_cons (lvs_trod 5 103 _ lv54 n _ x h)
 obtain ⟨v2, cs, rfl, h2, h⟩ := all2_cons h
 obtain rfl := all2_nil h
 obtain ⟨a, rfl, ha⟩ := raw_u8 h1
 obtain ⟨b, rfl, hb⟩ := raw_u8 h2
 exact ⟨(a, b), rfl, ha, hb⟩
theorem dec26 : ∀ (n : Nat) (cs : List Value) (x : DataW H × List MemPlace), DataW.trod enc Tryd.prog W 0 sp held n 26 cs = some x → ∃ p : Int × Int, cs = eP (eI .i64) (eI .i64) p ∧ (-9223372036854775808 ≤ p.1 ∧ p.1 ≤ 9223372036854775807) ∧ (-9223372036854775808 ≤ p.2 ∧ p.2 ≤ 9223372036854775807) := by
 intro n cs x h
 obtain ⟨v1, cs, rfl, h1, h⟩ := all2_cons (lvs_trod 5 26 _ lv26 n _ x h)
 obtain ⟨v2, cs, rfl, h2, h⟩ := all2_cons h
 obtain rfl := all2_nil h
 obtain ⟨a, rfl, ha⟩ := raw_i64 h1
 obtain ⟨b, rfl, hb⟩ := raw_i64 h2
 exact ⟨(a, b), rfl, ha, hb⟩
theorem dec3 : ∀ (n : Nat) (cs : List Value) (x : DataW H × List MemPlace), DataW.trod enc Tryd.prog W 0 sp held n 3 cs = some x → ∃ p : Int, cs = eI .i64 p ∧ (-9223372036854775808 ≤ p ∧ p ≤ 9223372036854775807) := by
 intro n cs x h
 obtain ⟨v1, cs, rfl, h1, h⟩ := all2_cons (lvs_trod 5 3 _ lv3 n _ x h)
 obtain rfl := all2_nil h
 obtain ⟨a, rfl, ha⟩ := raw_i64 h1
 exact ⟨a, rfl, ha⟩
theorem dec5 : ∀ (n : Nat) (cs : List Value) (x : DataW H × List MemPlace), DataW.trod enc Tryd.prog W 0 sp held n 5 cs = some x → ∃ p : Nat, cs = eN .u8 p ∧ p < 256 := by
 intro n cs x h
 obtain ⟨v1, cs, rfl, h1, h⟩ := all2_cons (lvs_trod 5 5 _ lv5 n _ x h)
 obtain rfl := all2_nil h
 obtain ⟨a, rfl, ha⟩ := raw_u8 h1
 exact ⟨a, rfl, ha⟩
/-- A draft. -/
theorem abs55 (hok : Value.okWide Tryd.prog W .any base 55 v) (hs : 0 < W.heap.size) (h : DataW.Trod enc Tryd.prog W 0 sp held 55 v d p) : ∃ (x1 x2 x3 : Nat) (l : List (Nat × Nat)) (a : Option Addr) (c : Nat),
  VR (injAll W) (.agg #[.int .u8 ((x1 : Nat) : Int), .int .u8 ((x2 : Nat) : Int), .int .u16 ((x3 : Nat) : Int), .slice a l.length c]) v ∧ x1 < 256 ∧ x2 < 256 ∧ x3 < 65536 ∧ (∀ q ∈ l, q.1 < 256 ∧ q.2 < 256) ∧ l.length ≤ maxLen ∧ Rd (memAll W) a c 2 l.length (l.map (eP (eN .u8) (eN .u8))) := by
 obtain ⟨cs, rfl, _⟩ := okWide_struct (t := 55) (fs := Tryd.prog.underlying 55 |>.elim #[] fun u => match u with | .struct fs => fs | _ => #[]) (by kernel_rfl) hok
 obtain ⟨n, h⟩ := h
 obtain ⟨v1, r, hr, h1, h⟩ := all2_cons (agg_leaves lv55 h)
 obtain ⟨v2, r, rfl, h2, h⟩ := all2_cons h
 obtain ⟨v3, r, rfl, h3, h⟩ := all2_cons h
 obtain ⟨v4, r, rfl, h4, h⟩ := all2_cons h
 obtain rfl := all2_nil h
 obtain ⟨x1, rfl, g1⟩ := raw_u8 h1
 obtain ⟨x2, rfl, g2⟩ := raw_u8 h2
 obtain ⟨x3, rfl, g3⟩ := raw_u16 h3
 obtain ⟨a, c, l, e1, e2, e3, e4⟩ := sl_abs (f := eP (eN .u8) (eN .u8)) (w := 2) (by kernel_rfl) (by omega) hs (fun q => rfl) dec54 h4
 refine ⟨x1, x2, x3, l, a, c, ?_, g1, g2, g3, e3, e4, e2⟩
 refine VR_agg (l := [.int .u8 ((x1 : Nat) : Int), .int .u8 ((x2 : Nat) : Int), .int .u16 ((x3 : Nat) : Int), .slice a l.length c]) ?_
 rw [hr]
 exact .cons (.int _ _) (.cons (.int _ _) (.cons (.int _ _) (.cons e1 (.nil _))))
/-- Two changes. -/
theorem abs58 (hok : Value.okWide Tryd.prog W .any base 58 v) (h : DataW.Trod enc Tryd.prog W 0 sp held 58 v d p) : ∃ (x8 x9 : Nat) (x10 x11 x12 : Int) (x13 x14 : Nat) (x15 x16 x17 : Int),
  VR (injAll W) (.agg #[.int .u8 ((x8 : Nat) : Int), .int .u8 ((x9 : Nat) : Int), .int .i64 x10, .int .i64 x11, .int .i64 x12, .int .u8 ((x13 : Nat) : Int), .int .u8 ((x14 : Nat) : Int), .int .i64 x15, .int .i64 x16, .int .i64 x17]) v ∧ x8 < 256 ∧ x9 < 256 ∧ x13 < 256 ∧ x14 < 256 ∧
  (∀ q ∈ [x10, x11, x12, x15, x16, x17], -9223372036854775808 ≤ q ∧ q ≤ 9223372036854775807) := by
 obtain ⟨cs, rfl, _⟩ := okWide_array lu58 hok
 obtain ⟨n, h⟩ := h
 obtain ⟨v1, r, hr, h1, h⟩ := all2_cons (agg_leaves lv58 h)
 obtain ⟨v2, r, rfl, h2, h⟩ := all2_cons h
 obtain ⟨v3, r, rfl, h3, h⟩ := all2_cons h
 obtain ⟨v4, r, rfl, h4, h⟩ := all2_cons h
 obtain ⟨v5, r, rfl, h5, h⟩ := all2_cons h
 obtain ⟨v6, r, rfl, h6, h⟩ := all2_cons h
 obtain ⟨v7, r, rfl, h7, h⟩ := all2_cons h
 obtain ⟨v8, r, rfl, h8, h⟩ := all2_cons h
 obtain ⟨v9, r, rfl, h9, h⟩ := all2_cons h
 obtain ⟨v10, r, rfl, h10, h⟩ := all2_cons h
 obtain rfl := all2_nil h
 obtain ⟨x8, rfl, g8⟩ := raw_u8 h1
 obtain ⟨x9, rfl, g9⟩ := raw_u8 h2
 obtain ⟨x10, rfl, g10⟩ := raw_i64 h3
 obtain ⟨x11, rfl, g11⟩ := raw_i64 h4
 obtain ⟨x12, rfl, g12⟩ := raw_i64 h5
 obtain ⟨x13, rfl, g13⟩ := raw_u8 h6
 obtain ⟨x14, rfl, g14⟩ := raw_u8 h7
 obtain ⟨x15, rfl, g15⟩ := raw_i64 h8
 obtain ⟨x16, rfl, g16⟩ := raw_i64 h9
 obtain ⟨x17, rfl, g17⟩ := raw_i64 h10
 refine ⟨x8, x9, x10, x11, x12, x13, x14, x15, x16, x17, ?_, g8, g9, g13, g14, fun q hq => ?_⟩
 ·refine VR_agg (l := [.int .u8 ((x8 : Nat) : Int), .int .u8 ((x9 : Nat) : Int), .int .i64 x10, .int .i64 x11, .int .i64 x12, .int .u8 ((x13 : Nat) : Int), .int .u8 ((x14 : Nat) : Int), .int .i64 x15, .int .i64 x16, .int .i64 x17]) ?_
  rw [hr]
  exact LR.plain rfl
 ·simp only [List.mem_cons, List.not_mem_nil, or_false] at hq
  rcases hq with rfl | rfl | rfl | rfl | rfl | rfl <;> assumption
/-- A graph. -/
theorem abs25 (hok : Value.okWide Tryd.prog W .any base 25 v) (hs : 0 < W.heap.size) (h : DataW.Trod enc Tryd.prog W 0 sp held 25 v d p) : ∃ (x : Int) (l : List (Int × Int)) (a : Option Addr) (c : Nat),
  VR (injAll W) (.agg #[.int .i64 x, .slice a l.length c]) v ∧ (-9223372036854775808 ≤ x ∧ x ≤ 9223372036854775807) ∧ (∀ q ∈ l, (-9223372036854775808 ≤ q.1 ∧ q.1 ≤ 9223372036854775807) ∧ (-9223372036854775808 ≤ q.2 ∧ q.2 ≤ 9223372036854775807)) ∧ l.length ≤ maxLen ∧ Rd (memAll W) a c 2 l.length (l.map (eP (eI .i64) (eI .i64))) := by
 obtain ⟨cs, rfl, _⟩ := okWide_struct (t := 25) (fs := Tryd.prog.underlying 25 |>.elim #[] fun u => match u with | .struct fs => fs | _ => #[]) (by kernel_rfl) hok
 obtain ⟨n, h⟩ := h
 obtain ⟨v1, r, hr, h1, h⟩ := all2_cons (agg_leaves lv25 h)
 obtain ⟨v2, r, rfl, h2, h⟩ := all2_cons h
 obtain rfl := all2_nil h
 obtain ⟨x1, rfl, g1⟩ := raw_i64 h1
 obtain ⟨a, c, l, e1, e2, e3, e4⟩ := sl_abs (f := eP (eI .i64) (eI .i64)) (w := 2) (by kernel_rfl) (by omega) hs (fun q => rfl) dec26 h2
 refine ⟨x1, l, a, c, ?_, g1, e3, e4, e2⟩
 refine VR_agg (l := [.int .i64 x1, .slice a l.length c]) ?_
 rw [hr]
 exact .cons (.int _ _) (.cons e1 (.nil _))
theorem abs28 (hok : Value.okWide Tryd.prog W .any base 28 v) (h : DataW.Trod enc Tryd.prog W 0 sp held 28 v d p) : ∃ n : Nat, v = .int .u64 ((n : Nat) : Int) ∧ n < 2 ^ 64 := by
 obtain ⟨k, rfl⟩ := okWide_int lu28 hok
 obtain ⟨n, h⟩ := h
 obtain ⟨m, e, _, hw⟩ := DataW.trod_int lu28 h
 exact raw_u64 (enc := enc) (P := Tryd.prog) (W := W) (base := 0) (sp := sp) (held := held) ⟨m, by cases e; rfl, hw⟩
theorem abs3 (hok : Value.okWide Tryd.prog W .any base 3 v) (h : DataW.Trod enc Tryd.prog W 0 sp held 3 v d p) : ∃ n : Int, v = .int .i64 n ∧ -9223372036854775808 ≤ n ∧ n ≤ 9223372036854775807 := by
 obtain ⟨k, rfl⟩ := okWide_int lu3 hok
 obtain ⟨n, h⟩ := h
 obtain ⟨m, e, _, hw⟩ := DataW.trod_int lu3 h
 exact raw_i64 (enc := enc) (P := Tryd.prog) (W := W) (base := 0) (sp := sp) (held := held) ⟨m, by cases e; rfl, hw⟩
theorem abs5 (hok : Value.okWide Tryd.prog W .any base 5 v) (h : DataW.Trod enc Tryd.prog W 0 sp held 5 v d p) : ∃ n : Nat, v = .int .u8 ((n : Nat) : Int) ∧ n < 256 := by
 obtain ⟨k, rfl⟩ := okWide_int lu5 hok
 obtain ⟨n, h⟩ := h
 obtain ⟨m, e, _, hw⟩ := DataW.trod_int lu5 h
 exact raw_u8 (enc := enc) (P := Tryd.prog) (W := W) (base := 0) (sp := sp) (held := held) ⟨m, by cases e; rfl, hw⟩
theorem abs39 (hok : Value.okWide Tryd.prog W .any base 39 v) (hs : 0 < W.heap.size) (h : DataW.Trod enc Tryd.prog W 0 sp held 39 v d p) : ∃ (l : List Int) (a : Option Addr) (c : Nat),
  VR (injAll W) (.slice a l.length c) v ∧ (∀ q ∈ l, -9223372036854775808 ≤ q ∧ q ≤ 9223372036854775807) ∧ l.length ≤ maxLen ∧ Rd (memAll W) a c 1 l.length (l.map (eI .i64)) := by
 obtain ⟨a0, n0, c0, rfl⟩ := okWide_slice lu39 hok
 obtain ⟨n, h⟩ := h
 have h1 := lvs_trod 5 39 [.sl 3] (by kernel_rfl) n _ _ h
 obtain ⟨v1, r, hr, h1, _⟩ := all2_cons h1
 cases hr
 obtain ⟨a, c, l, e1, e2, e3, e4⟩ := sl_abs (f := eI .i64) (w := 1) (by kernel_rfl) (by omega) hs (fun q => rfl) dec3 h1
 exact ⟨l, a, c, e1, e3, e4, e2⟩
theorem abs72 (hok : Value.okWide Tryd.prog W .any base 72 v) (hs : 0 < W.heap.size) (h : DataW.Trod enc Tryd.prog W 0 sp held 72 v d p) : ∃ (l : List Nat) (a : Option Addr) (c : Nat),
  VR (injAll W) (.slice a l.length c) v ∧ (∀ q ∈ l, q < 256) ∧ l.length ≤ maxLen ∧ Rd (memAll W) a c 1 l.length (l.map (eN .u8)) := by
 obtain ⟨a0, n0, c0, rfl⟩ := okWide_slice lu72 hok
 obtain ⟨n, h⟩ := h
 have h1 := lvs_trod 5 72 [.sl 5] (by kernel_rfl) n _ _ h
 obtain ⟨v1, r, hr, h1, _⟩ := all2_cons h1
 cases hr
 obtain ⟨a, c, l, e1, e2, e3, e4⟩ := sl_abs (f := eN .u8) (w := 1) (by kernel_rfl) (by omega) hs (fun q => rfl) dec5 h1
 exact ⟨l, a, c, e1, e3, e4, e2⟩
end

theorem lay18 : laidOutB Tryd.prog = true := by kernel_rfl
theorem rowed18 : mapsRowed Tryd.prog = true := by kernel_rfl
theorem sized18 : sizedB Tryd.prog = true := by kernel_rfl
/-- The table lies ars the row lays it. -/
theorem gl_all {W : World} (h : laidMetH Tryd.prog laid18 W) : Gl (memAll W) ∧ 0 < W.heap.size := by
 rw [MakeChecks.laidMetH_plain _ _ _ (by kernel_rfl)] at h
 obtain ⟨ps, hL, _⟩ := h
 have ht : (Tryd.prog.globals[0]?).map (·.type) = some 104 := by kernel_rfl
 obtain ⟨c, ty, fz, h1, h2⟩ := laid_ints (L := tabInts) (k := .u8) (N := 64) (t := 104) (e := 5) gTab ht (by kernel_rfl) (by kernel_rfl) (by kernel_rfl) (by kernel_rfl) rfl hL
 have hs : 0 < W.heap.size := (Array.getElem?_eq_some_iff.1 h1).1
 refine ⟨⟨?_, hs⟩, hs⟩
 rw [memAll_cells h1, h2, List.map_map]
 congr 2

/-- A law's call, out of that of the abstract machine. -/
theorem law_calls {H : Type} {enc : TypeId × Value → H} {f : FuncId} {fn : Func} {s : ChangeSpec} {W : World} {args : Array Value} {ds : List (DataW H)} {before : List MemPlace} {tb : TypeId} {fresh handsOn : Bool} {absArgs : List Value} (hpr : E18w.prim f = none)
  (hvars : s.vars = []) (hres : fn.resultTypes.toList = [tb]) (hrs : fn.resultTypes.size = 1) (htb : Tryd.prog.underlying tb = some .bool) (hpt : ∀ t ∈ fn.params.toList, t < Tryd.prog.types.size) (hfn : s.fn H ds = { results := [.lit (.bool true)], args := ds, vars := [] })
  (hW : DataW.Whole enc Tryd.prog fn.params.toList s.vars false W args.toList ds [] before) (hs : 0 < W.heap.size)
  (hl : LR (injAll W) absArgs args.toList) (hc : CallA E18w f absArgs (memAll W) (fun v m' => ∃ x : Unit, v = .bool true ∧ Hp (memAll W) m' [])) :
  Calls Tryd.prog f args W fun e W' => ∃ v, e = .returned v ∧ s.post enc Tryd.prog fn false fresh handsOn false W args v W' := by
 obtain ⟨v, m', ⟨fuel, hrun⟩, _, rfl, hm'⟩ := hc
 have hm : MR E18w (injAll W) (memAll W) W := mr_all hs
 have hcall := callsIn_wide.1 (calls_of_run E18w_ok hrun hpr hm hl)
 refine hcall.mono fun e W' ⟨v', he, j', sm, hv⟩ => ?_
 have hv' : v' = .bool true := plain1_eq rfl hv
 subst hv'
 have hwl : (memAll W).next ≤ m'.wl := by
  have h1 := hm'.ext.wl
  have h2 : min (memAll W).wl (memAll W).next = (memAll W).next := Nat.min_self _
  omega
 exact ⟨_, he, law_post lay18 rowed18 sized18 hvars hres hrs htb hpt hfn hW sm.calm (sm.grown hm hwl)⟩
end Go.Proofs.YtpclggcpobakhaaDoor
end

section
/-
  Walks over symbolic states: slices of structs that hold a number and a slice, made by a call and only read behind it.
-/
namespace Go.Ab.W
open Go Go.Ab
attribute [local irreducible] Tm.at Trie.set Trie.get AMem.get AMem.set AMem.alloc AMem.ww AMem.kill

/-- A slice of structs of a number and a slice of pairs. -/
def Gs (m : AMem) (a : Option Addr) (cap n : Nat) (gs : List (Int × List (Int × Int))) : Prop :=
 gs.length = n ∧ n ≤ cap ∧ ((a = none ∧ n = 0) ∨ ∃ b o, a = some ⟨b, o, none⟩ ∧ b < m.next ∧ ∃ all tg, m.get b = some (.cells all tg) ∧ (∀ sz, tg = .more sz → sz = 2) ∧
  ∀ i g, gs[i]? = some g → ∃ (ai : Option Addr) (ci : Nat), (all.drop (o + i * 2)).take 2 = [.int .i64 g.1, .slice ai g.2.length ci] ∧ Rd m ai ci 2 g.2.length (g.2.map (eP (eI .i64) (eI .i64))))
def gB (a : Option Addr) : Nat := match a with
 | some x => x.block
 | none => 0
def gO (a : Option Addr) : Nat := match a with
 | some x => x.off
 | none => 0
section
variable {E : Env} {n : Nat} {m0 m1 m m' : AMem} {fs : Fs} {ps : List Pc} {ops : Array Oper} {os : List Oper} {K : Tm → AMem → Prop} {x y : Operand} {ty : TypeId}

theorem Rd.ext {m m' : AMem} {a : Option Addr} {cap w n : Nat} {es : List (List Value)} (h : Rd m a cap w n es) (e : Ext m m') : Rd m' a cap w n es := h.of_get e.next fun b _ hb => e.same b hb
theorem Hp.base {m' : AMem} (hx : Ext m0 m1) (h : Hp m1 m' []) : Hp m0 m' [] := ⟨hx.trans h.ext, fun p hp => (by cases hp), .nil⟩
/-- The call that makes it: from here on all that lies is only read. -/
theorem Wo.gs {ty : TypeId} {p : String} {af : Array Edge} {d : Nat} {f : Operand} {g : FuncId} {ars : Array Operand} {ts : Array TypeId} {args : List Value} {l : List (Int × List (Int × Int))} (hf : ev E fs f = some (.func (.func g) #[] #[])) (ha : evs E fs ars.toList = some args)
  (hc : ∀ m, Hp m0 m ps → CallA E g args m (fun v m' => ∃ a : Option Addr, v = .slice a l.length l.length ∧ Ext m m' ∧ Gs m' a l.length l.length l)) (hd : Nat.blt d n = true)
  (k : ∀ m1 a, Ext m0 m1 → Gs m1 a l.length l.length l → Wo false E n ops K os m1 ((d, .slice a l.length l.length) :: fs) []) : Wo false E n ops K (⟨some d, .call ⟨.value f, ars, ts⟩, ty, p, af, none⟩ :: os) m0 fs ps := by
 have hd' : d < n := by rwa [Nat.blt_eq] at hd
 intro t m hfr hm
 have hw : wantedA ops ⟨some d, .call ⟨.value f, ars, ts⟩, ty, p, af, none⟩ t = true := rfl
 simp only [OpsM, hw, if_true]
 have hev : evalA E t f = some (.func (.func g) #[] #[]) := hfr.ev hf
 show callM E (evalA E t f) (evalAll E t ars.toList) m _
 rw [hev, hfr.evs ha, callM_func]
 refine (hc m hm).mono fun v m' ⟨a, e, h1, h2⟩ => ?_
 subst e
 rw [putT_some, if_pos hd']
 exact k m' a (hm.ext.trans h1) h2 _ m' hfr.set (Hp.start m')
theorem o_lng {cap l : Nat} {a : Option Addr} {ars : Array Operand} {elem : TypeId} {gs : List (Int × List (Int × Int))} (hu : E.P.underlying ty = some (.slice elem)) (ha : evs E fs ars.toList = some [.slice a l cap]) (hq : Gs m0 a cap l gs) :
  Od E m0 fs ps (.call ⟨.builtin .len, ars, #[ty]⟩) (.int .i64 (l : Int)) ps :=
 fun t m hf h => ⟨fun b hb' => by
  simp only [readsAt, hf.evs ha] at hb'
  rcases hq.2.2 with ⟨rfl, _⟩ | ⟨b', o, rfl, hb, _⟩
  ·cases hb'
  ·cases hb'; exact Nat.lt_of_lt_of_le hb h.ext.next, fun K hK => by
  have : builtinA E.P .len #[ty] [.slice a l cap] m = some (.int .i64 (l : Int), m) := by
   have ht : (#[ty] : Array TypeId)[0]? = some ty := rfl
   simp only [builtinA, ht, Option.bind_some, hu]
  unfold OperM
  simp only [isCall, opA, hf.evs ha, this]
  exact hK m h⟩
theorem o_ixg {elem : TypeId} {cap l : Nat} {a : Option Addr} {i : Int} {kd : IntKind} {gs : List (Int × List (Int × Int))} (ht : SlT E.P ty elem 2) (hx : ev E fs x = some (.slice a l cap)) (hy : ev E fs y = some (.int kd i)) (hq : Gs m0 a cap l gs) (hi : 0 ≤ i ∧ i.toNat < l) :
  Od E m0 fs ps (.indexAddr ty x y) (ptr (gB a) (gO a + i.toNat * 2)) ps := by
 rcases hq.2.2 with ⟨_, h0⟩ | ⟨b, o, rfl, _⟩
 ·omega
 ·have := o_ixs (m0 := m0) (ps := ps) ht hx hy hi
  rw [Nat.add_zero] at this
  exact this
theorem o_ldg {cap l i : Nat} {a : Option Addr} {N : Int} {es : List (Int × Int)} {gs : List (Int × List (Int × Int))} (ht : TyI E.P ty true 2) (hx : ev E fs x = some (ptr (gB a) (gO a + i * 2))) (hq : Gs m0 a cap l gs) (hg : gs[i]? = some (N, es)) :
  Ox E m0 fs ps (.load ty x) (fun r : Option Addr × Nat => .agg #[.int .i64 N, .slice r.1 es.length r.2]) (fun r => .rd r.1 r.2 2 es.length (es.map (eP (eI .i64) (eI .i64))) :: ps) := by
 intro t m hf hm
 have hlt := (List.getElem?_eq_some_iff.1 hg).1
 rcases hq.2.2 with ⟨_, h0⟩ | ⟨b, o, rfl, hb, all, tg, h1, h2, h3⟩
 ·have := hq.1; omega
 ·obtain ⟨ai, ci, h4, h5⟩ := h3 i _ hg
  have hbm : b < m.next := Nat.lt_of_lt_of_le hb hm.ext.next
  have hg' : m.get b = some (.cells all tg) := by rw [hm.ext.same b hb]; exact h1
  have hlen : ((all.drop (o + i * 2)).take 2).length = 2 := by rw [h4]; rfl
  have hld : loadA E.P ty (ptr b (o + i * 2)) m = some (.agg #[.int .i64 N, .slice ai es.length ci]) := by
   have hl : m.loadN b (o + i * 2) 2 = some [.int .i64 N, .slice ai es.length ci] := by
    simp only [AMem.loadN, hg', h4]
    rfl
   simp only [loadA, ptr, ht.known, Bool.not_true, Bool.false_eq_true, if_false, ht.agg, if_true, ht.size, hl]
   rfl
  have hx' : evalA E t x = some (ptr b (o + i * 2)) := hf.ev hx
  refine ⟨fun b' hb' => ?_, fun K hK => ?_⟩
  ·simp only [readsAt, hx', Option.bind_some] at hb'
   cases hb'; exact hbm
  ·unfold OperM
   simp only [isCall, opA, hx', hld, Option.map_some]
   refine hK (ai, ci) m ⟨hm.ext, fun p hp => ?_, List.pairwise_cons.2 ⟨fun q hq' ho b' hb1 hb2 => ?_, hm.apart⟩⟩
   ·rcases List.mem_cons.1 hp with rfl | hp
    ·exact Rd.ext h5 hm.ext
    ·exact hm.ok p hp
   ·rcases ho with ho | ho
    ·cases ho
    ·have := Pc.blk_le (hm.ok q hq') ho hb2
     have := Rd.lt h5 hb1
     omega
end
end Go.Ab.W
end
