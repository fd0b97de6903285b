/- A part of the proof. -/
import Derived.Test.YtookeaakpiefjaaGreatDoorTr4
section
namespace Go.Proofs.YtookeaakpiefjaaGreatDoor
open Go Go.Ab Go.Ab.W
set_option maxRecDepth 10000
set_option maxHeartbeats 4000000
attribute [local irreducible] Wo Wk At Wn Od Ox bf aW
attribute [local irreducible] Tm.at Trie.set Trie.get AMem.get AMem.set AMem.alloc AMem.ww AMem.kill
abbrev lT (z0):=Pc.obj z0 (.cells [.int .u64 ((0:Nat):Int),.int .u64 ((0:Nat):Int),.int .u64 ((0:Nat):Int),.int .u64 ((0:Nat):Int),.int .u64 ((0:Nat):Int),.int .u64 ((0:Nat):Int),.int .u64 ((0:Nat):Int),.int .u64 ((0:Nat):Int)] .own)
abbrev aZ (z0):=Value.int .u64 ((z0:Nat):Int)
abbrev fk (z0) (z1) (z2) {β3:Type} (z3:List β3) (z4):=Pc.obj z0 (.cells [.int .i64 z1,.slice z2 (List.length z3) z4] .own)
abbrev eu (z0):=Pc.obj z0 (.cells [.bool false,.slice none 0 0] .own)
abbrev bK (z0) {β1:Type} (z1:List β1) (z2):=Value.slice z0 (List.length z1) z2
abbrev fm (z0) (z1) (z2):=Pc.rd z0 z1 2 (List.length z2) (List.map (eP (eI .i64) (eI .i64)) z2)
abbrev eZ (z0) (z1):=Pc.obj z0 (.cells [.int .u64 ((z1:Nat):Int)] .own)
abbrev dT (z0) (z1) (z2):=Pc.rd z0 z1 1 (List.length z2) (List.map (eN .u64) z2)
abbrev dZ (z0) (z1) (z2):=Pc.rd z0 z1 1 (List.length z2) (List.map (eI .i64) z2)
abbrev lW (z0) (z1):=Pc.obj z0 (.map (List.map (eM (fun n:Int=>.int .i64 n) (fun n:Int=>.int .i64 n)) z1))
abbrev an (z0):=Value.int .i64 z0
abbrev dJ (z0) (z1) (z2) (z3):=Pc.rd (some ⟨z0,z1,none⟩) z2 2 (List.length z3) (List.map (eP (eI .i64) (eI .i64)) z3)
abbrev s9 (z0) (z1) (z2) (z3) (z4) (z5) (z6) (z7):=Value.agg #[.int .u64 ((z0:Nat):Int),.int .u64 ((z1:Nat):Int),.int .u64 ((z2:Nat):Int),.int .u64 ((z3:Nat):Int),.int .u64 ((z4:Nat):Int),.int .u64 ((z5:Nat):Int),.int .u64 ((z6:Nat):Int),.int .u64 ((z7:Nat):Int)]
abbrev bX (z0) (z1):=Pc.obj z0 (.cells [.map (some z1)] .own)
abbrev gE (z0) (z1) (z2):=Pc.obj z0 (.cells [.slice (some ⟨z1,0,none⟩) ((z2:Int).toNat) ((z2:Int).toNat)] .own)
abbrev bZ (z0) (z1) (z2) (z3) (z4):=Pc.gen (PA z0 [(z1,z2),(z3,z4)])
abbrev dI (z0) (z1) (z2):=Pc.ro z0 z1 2 (List.length z2) (List.map (eP (eI .i64) (eI .i64)) z2)
abbrev ei (z0) (z1) (z2) {β3:Type} (z3:List β3) (z4):=Pc.obj z0 (.cells [.bool z1,.slice z2 (List.length z3) z4] .own)
abbrev bS (z0) (z1):=Pc.obj z0 (.cells [.map z1] .own)
abbrev pV (z0) (z1) (z2) (z3) (z4) {β5:Type} (z5:List β5) (z6):=Pc.obj z0 (.cells [.int .u8 ((z1:Nat):Int),.int .u8 ((z2:Nat):Int),.int .u16 ((z3:Nat):Int),.slice z4 (List.length z5) z6] .own)
abbrev cJ (z0) (z1) (z2):=Pc.sl z0 1 z1 (List.map (eI .i64) z2)
abbrev kJ (z0) (z1) (z2) (z3) {β4:Type} (z4:List β4) (z5):=Pc.obj z0 (.cells [.int .i64 z1,.slice (some ⟨z2,z3,none⟩) (List.length z4) z5] .own)
abbrev dW (m) (z0) (z1) (z2):=Rd m z0 z1 1 (List.length z2) (List.map (eI .i64) z2)
abbrev iW (m) (z0) (z1) (z2):=Rd m z0 z1 2 (List.length z2) (List.map (eP (eI .i64) (eI .i64)) z2)
abbrev gh (z0) (z1) (z2) (z3) (z4):=Pc.gen (oi z0 ((z1:Int).toNat) z2 z3 z4)
abbrev e7 (z0) (z1):=Pc.sl z0 1 (List.length z1) (List.map (eI .i64) z1)
abbrev fS (m) (z0) (z1) (z2):=Rd m z0 z1 1 (List.length z2) (List.map (eN .u64) z2)
abbrev iA (z0) (z1) (z2):=Pc.obj z0 (.cells [.int .i64 z1,.int .i64 z2] .own)
abbrev nf (z0) (z1) (z2) {β3:Type} (z3:List β3):=Pc.obj z0 (.cells [.int .i64 z1,.slice z2 (List.length z3) (List.length z3)] .own)
abbrev iZ (z0) (z1) {β2:Type} (z2:List β2) (z3):=Value.agg #[.int .i64 z0,.slice z1 (List.length z2) z3]
abbrev lM (z0) (z1) {β2:Type} (z2:List β2):=Pc.obj z0 (.cells [.slice z1 (List.length z2) (List.length z2)] .own)
abbrev iB (z0) (z1) {β2:Type} (z2:List β2) (z3):=Value.agg #[.bool z0,.slice z1 (List.length z2) z3]
abbrev cp (z0) (z1):=Value.slice z0 z1 z1
abbrev eo {β0:Type} (z0:List β0):=Value.int .i64 ((List.length z0):Int)
abbrev mA (z0):=Pc.obj z0 (.cells [.int .i64 0,.slice none 0 0] .own)
abbrev NP (z0) (z1) (z2) (z3) (z4) (z5) (z6) (z7) (z8) (z9):=Pc.obj z0 (.cells [.bool z1,.int .u64 ((z2:Nat):Int),.int .u64 ((z3:Nat):Int),.int .u64 ((z4:Nat):Int),.int .u64 ((z5:Nat):Int),.int .u64 ((z6:Nat):Int),.int .u64 ((z7:Nat):Int),.int .u64 ((z8:Nat):Int),.int .u64 ((z9:Nat):Int)] .own)
abbrev oM (z0) (z1):=Pc.sl z0 2 (List.length z1) (List.map (eP (eI .i64) (eI .i64)) z1)
abbrev pR (z0) (z1) (z2):=Pc.rd z0 z1 2 (List.length z2) (List.map (eP (eN .u8) (eN .u8)) z2)
abbrev iq (z0) {β1:Type} (z1:List β1):=Value.slice z0 (List.length z1) (List.length z1)
abbrev mF (z0) (z1) {β2:Type} (z2:List β2) (z3):=Value.slice (some ⟨z0,z1,none⟩) (List.length z2) z3
abbrev cM (z0):=Pc.gen (oA z0)
abbrev yZ (z0) {β1:Type} (z1:List β1):=Value.slice (some ⟨z0,0,none⟩) (((List.length z1):Int).toNat) (((List.length z1):Int).toNat)
abbrev pG (z0) (z1) (z2):=Pc.obj z0 (.cells [.slice z1 z2 z2] .own)
abbrev sH (z0) (z1) {β2:Type} (z2:List β2) (z3):=Pc.obj z0 (.cells [.slice z1 (List.length z2) z3] .own)
abbrev oE (z0) (z1):=Pc.arr z0 1 8 (List.map (eN .u64) z1) .own
abbrev Ap (z0) {β1:Type} (z1:List β1) (z2):=Pc.arr z0 1 (((List.length z1):Int).toNat) (List.map (eN .u64) z2) .own
abbrev Gk (z0) (z1) (z2) (z3) (z4) (z5) (z6) (z7) (z8):=Pc.arr z0 1 8 (([z1,z2,z3,z4,z5,z6,z7,z8]:List (Nat)).map (eN .u64)) .own
abbrev cz (z0):=Value.bool z0
abbrev pD (z0) (z1) (z2):=Pc.sl z0 1 z1 (List.map (eN .u64) z2)
abbrev IQ (z0) (z1):=Value.slice (some ⟨z0,0,none⟩) ((z1:Int).toNat) ((z1:Int).toNat)
abbrev FN (z0) (z1) (z2) (z3):=Pc.rd (some ⟨z0,z1,none⟩) z2 1 (List.length z3) (List.map (eI .i64) z3)
abbrev EX (z0) (z1) (z2):=Pc.gen (tY z0 (List.length z1) z2 1 (eI .i64) z1)
abbrev KU (z0) (z1) (z2) (z3):=Pc.rd (some ⟨z0,z1,none⟩) z2 1 (List.length z3) (List.map (eN .u64) z3)
abbrev Ii (z0) (z1) (z2):=Pc.ro z0 z1 1 (List.length z2) (List.map (eI .i64) z2)
abbrev E4 (z0):=Value.int .i64 ((z0:Int).toNat:Int)
abbrev Jx (z0) (z1) (z2):=Pc.ro z0 z1 1 (List.length z2) (List.map (eN .u64) z2)
abbrev QV (z0):=Pc.obj z0 (.cells [.slice none ([]:List (Int)).length ([]:List (Int)).length] .own)
abbrev Jo (z0):=Pc.obj z0 (.cells [.slice none 0 0] .own)
theorem HU:ai.P.underlying 49=some (.slice 3):=by kernel_rfl
instance:UsC ai.P 49 3:=⟨HU⟩
theorem t25:TyI ai.P 25 true 4:=⟨by kernel_rfl,by kernel_rfl,by kernel_rfl⟩
instance:TyC ai.P 25 true 4:=⟨t25⟩
theorem t28:TyI ai.P 28 true 3:=⟨by kernel_rfl,by kernel_rfl,by kernel_rfl⟩
instance:TyC ai.P 28 true 3:=⟨t28⟩
theorem Pa:bq ai.P 34=some (.agg #[.int .i64 0,.slice none 0 0]):=by kernel_rfl
theorem Ov:∀b o,aI ai.P 25 (ptr b o) 0=some (ptr b (o+0)):=fun _ _=>by kernel_rfl
instance:FaC ai.P 25 0 0:=⟨Ov⟩
theorem t5:TyI ai.P 5 false 1:=⟨by kernel_rfl,by kernel_rfl,by kernel_rfl⟩
instance:TyC ai.P 5 false 1:=⟨t5⟩
theorem u5:ai.P.underlying 5=some (.int .u8):=by kernel_rfl
theorem u3:ai.P.underlying 3=some (.int .i64):=by kernel_rfl
theorem N8:∀b o,aI ai.P 25 (ptr b o) 1=some (ptr b (o+1)):=fun _ _=>by kernel_rfl
instance:FaC ai.P 25 1 1:=⟨N8⟩
theorem Rg:BdT ai.P 34 (.agg #[.int .i64 0,.slice none 0 0]) [(0,1),(1,1)]:=.mk' (by kernel_rfl) (by kernel_rfl)
theorem t34:TyI ai.P 34 true 2:=⟨by kernel_rfl,by kernel_rfl,by kernel_rfl⟩
instance:TyC ai.P 34 true 2:=⟨t34⟩
theorem rO:∀b o,aI ai.P 34 (ptr b o) 0=some (ptr b (o+0)):=fun _ _=>by kernel_rfl
instance:FaC ai.P 34 0 0:=⟨rO⟩
theorem t3:TyI ai.P 3 false 1:=⟨by kernel_rfl,by kernel_rfl,by kernel_rfl⟩
instance:TyC ai.P 3 false 1:=⟨t3⟩
theorem OJ:∀b o,aI ai.P 25 (ptr b o) 2=some (ptr b (o+2)):=fun _ _=>by kernel_rfl
instance:FaC ai.P 25 2 2:=⟨OJ⟩
theorem t22:TyI ai.P 22 false 1:=⟨by kernel_rfl,by kernel_rfl,by kernel_rfl⟩
instance:TyC ai.P 22 false 1:=⟨t22⟩
theorem Ij:ai.P.underlying 42=some (.int .u64):=by kernel_rfl
theorem OP:∀b o,aI ai.P 25 (ptr b o) 3=some (ptr b (o+3)):=fun _ _=>by kernel_rfl
instance:FaC ai.P 25 3 3:=⟨OP⟩
theorem t23:TyI ai.P 23 false 1:=⟨by kernel_rfl,by kernel_rfl,by kernel_rfl⟩
instance:TyC ai.P 23 false 1:=⟨t23⟩
theorem Sx:ai.P.underlying 23=some (.slice 141):=by kernel_rfl
instance:UsC ai.P 23 141:=⟨Sx⟩
theorem SC:SlT ai.P 23 141 2:=SlT.of (by kernel_rfl)
instance:SlC ai.P 23 141 2:=⟨SC⟩
theorem Pq:ArT ai.P 141 5 2 1:=⟨by kernel_rfl,by kernel_rfl,by kernel_rfl⟩
instance:ArC ai.P 141 5 2 1:=⟨Pq⟩
theorem ef:∀b o,aI ai.P 34 (ptr b o) 1=some (ptr b (o+1)):=fun _ _=>by kernel_rfl
instance:FaC ai.P 34 1 1:=⟨ef⟩
theorem t32:TyI ai.P 32 false 1:=⟨by kernel_rfl,by kernel_rfl,by kernel_rfl⟩
instance:TyC ai.P 32 false 1:=⟨t32⟩
theorem FC:bq ai.P 43=some (.agg #[.int .i64 0,.int .i64 0]):=by kernel_rfl
theorem QD:BdT ai.P 43 (.agg #[.int .i64 0,.int .i64 0]) [(0,1),(1,1)]:=.mk' (by kernel_rfl) (by kernel_rfl)
theorem u32:ai.P.underlying 32=some (.slice 43):=by kernel_rfl
instance:UsC ai.P 32 43:=⟨u32⟩
theorem yJ:SlT ai.P 32 43 2:=SlT.of (by kernel_rfl)
instance:SlC ai.P 32 43 2:=⟨yJ⟩
theorem z36:bq ai.P 36=some (.agg #[.int .i64 0,.slice none 0 0,.int .u64 ((0:Nat):Int)]):=by kernel_rfl
theorem N0:BdT ai.P 36 (.agg #[.int .i64 0,.slice none 0 0,.int .u64 ((0:Nat):Int)]) [(0,2),(2,1)]:=.mk' (by kernel_rfl) (by kernel_rfl)
theorem MJ:∀b o,aI ai.P 28 (ptr b o) 0=some (ptr b (o+0)):=fun _ _=>by kernel_rfl
instance:FaC ai.P 28 0 0:=⟨MJ⟩
theorem M9:∀b o,aI ai.P 28 (ptr b o) 1=some (ptr b (o+1)):=fun _ _=>by kernel_rfl
instance:FaC ai.P 28 1 1:=⟨M9⟩
theorem iC:ArT ai.P 43 3 2 1:=⟨by kernel_rfl,by kernel_rfl,by kernel_rfl⟩
instance:ArC ai.P 43 3 2 1:=⟨iC⟩
theorem MX:∀b o,aI ai.P 28 (ptr b o) 2=some (ptr b (o+2)):=fun _ _=>by kernel_rfl
instance:FaC ai.P 28 2 2:=⟨MX⟩
theorem t26:TyI ai.P 26 false 1:=⟨by kernel_rfl,by kernel_rfl,by kernel_rfl⟩
instance:TyC ai.P 26 false 1:=⟨t26⟩
theorem Ph:SlT ai.P 30 36 3:=SlT.of (by kernel_rfl)
instance:SlC ai.P 30 36 3:=⟨Ph⟩
theorem R5:ai.P.underlying 30=some (.slice 36):=by kernel_rfl
instance:UsC ai.P 30 36:=⟨R5⟩
theorem t36:TyI ai.P 36 true 3:=⟨by kernel_rfl,by kernel_rfl,by kernel_rfl⟩
instance:TyC ai.P 36 true 3:=⟨t36⟩
theorem gS:∀b o,aI ai.P 36 (ptr b o) 0=some (ptr b (o+0)):=fun _ _=>by kernel_rfl
instance:FaC ai.P 36 0 0:=⟨gS⟩
theorem gV:∀b o,aI ai.P 36 (ptr b o) 1=some (ptr b (o+2)):=fun _ _=>by kernel_rfl
instance:FaC ai.P 36 1 2:=⟨gV⟩
theorem z38:bq ai.P 38=some (.agg #[.int .u64 ((0:Nat):Int),.int .u64 ((0:Nat):Int),.int .u64 ((0:Nat):Int),.int .u64 ((0:Nat):Int),.int .u64 ((0:Nat):Int),.int .u64 ((0:Nat):Int),.int .u64 ((0:Nat):Int),.int .u64 ((0:Nat):Int)]):=by kernel_rfl
theorem B3:BdT ai.P 38 (.agg #[.int .u64 ((0:Nat):Int),.int .u64 ((0:Nat):Int),.int .u64 ((0:Nat):Int),.int .u64 ((0:Nat):Int),.int .u64 ((0:Nat):Int),.int .u64 ((0:Nat):Int),.int .u64 ((0:Nat):Int),.int .u64 ((0:Nat):Int)]) [(0,1),(1,1),(2,1),(3,1),(4,1),(5,1),(6,1),(7,1)]:=.mk' (by kernel_rfl) (by kernel_rfl)
theorem t38:TyI ai.P 38 true 8:=⟨by kernel_rfl,by kernel_rfl,by kernel_rfl⟩
instance:TyC ai.P 38 true 8:=⟨t38⟩
theorem Mk:bq ai.P 49=some (.slice none 0 0):=by kernel_rfl
theorem yb:SlT ai.P 52 49 1:=SlT.of (by kernel_rfl)
instance:SlC ai.P 52 49 1:=⟨yb⟩
theorem lh:SlT ai.P 49 3 1:=SlT.of (by kernel_rfl)
instance:SlC ai.P 49 3 1:=⟨lh⟩
theorem z3:bq ai.P 3=some (.int .i64 0):=by kernel_rfl
theorem Lz:ai.P.underlying 52=some (.slice 49):=by kernel_rfl
instance:UsC ai.P 52 49:=⟨Lz⟩
theorem xL:bq ai.P 118=some (.agg #[.bool false,.slice none 0 0]):=by kernel_rfl
theorem Fi:ai.P.underlying 26=some (.int .u64):=by kernel_rfl
theorem LW:BdT ai.P 118 (.agg #[.bool false,.slice none 0 0]) [(0,1),(1,1)]:=.mk' (by kernel_rfl) (by kernel_rfl)
theorem t118:TyI ai.P 118 true 2:=⟨by kernel_rfl,by kernel_rfl,by kernel_rfl⟩
instance:TyC ai.P 118 true 2:=⟨t118⟩
theorem jF:∀b o,aI ai.P 118 (ptr b o) 1=some (ptr b (o+1)):=fun _ _=>by kernel_rfl
instance:FaC ai.P 118 1 1:=⟨jF⟩
theorem t49:TyI ai.P 49 false 1:=⟨by kernel_rfl,by kernel_rfl,by kernel_rfl⟩
instance:TyC ai.P 49 false 1:=⟨t49⟩
theorem ry:∀b o,aI ai.P 118 (ptr b o) 0=some (ptr b (o+0)):=fun _ _=>by kernel_rfl
instance:FaC ai.P 118 0 0:=⟨ry⟩
theorem t4:TyI ai.P 4 false 1:=⟨by kernel_rfl,by kernel_rfl,by kernel_rfl⟩
instance:TyC ai.P 4 false 1:=⟨t4⟩
theorem D3:ArT ai.P 38 26 8 1:=⟨by kernel_rfl,by kernel_rfl,by kernel_rfl⟩
instance:ArC ai.P 38 26 8 1:=⟨D3⟩
theorem u4:ai.P.underlying 4=some (.bool):=by kernel_rfl
theorem z53:bq ai.P 53=some (.agg #[.int .i64 0,.int .i64 0,.int .i64 0]):=by kernel_rfl
theorem Rl:BdT ai.P 53 (.agg #[.int .i64 0,.int .i64 0,.int .i64 0]) [(0,1),(1,1),(2,1)]:=.mk' (by kernel_rfl) (by kernel_rfl)
theorem KA:ArT ai.P 53 3 3 1:=⟨by kernel_rfl,by kernel_rfl,by kernel_rfl⟩
instance:ArC ai.P 53 3 3 1:=⟨KA⟩
theorem t43:TyI ai.P 43 true 2:=⟨by kernel_rfl,by kernel_rfl,by kernel_rfl⟩
instance:TyC ai.P 43 true 2:=⟨t43⟩
theorem u9:ai.P.underlying 9=some (.string):=by kernel_rfl
theorem fp:bq ai.P 103=some (.agg #[.bool false,.slice none 0 0]):=by kernel_rfl
theorem Ea:bq ai.P 144=some (.agg #[.bool false,.int .u64 ((0:Nat):Int),.int .u64 ((0:Nat):Int),.int .u64 ((0:Nat):Int),.int .u64 ((0:Nat):Int),.int .u64 ((0:Nat):Int),.int .u64 ((0:Nat):Int),.int .u64 ((0:Nat):Int),.int .u64 ((0:Nat):Int)]):=by kernel_rfl
theorem L9:BdT ai.P 144 (.agg #[.bool false,.int .u64 ((0:Nat):Int),.int .u64 ((0:Nat):Int),.int .u64 ((0:Nat):Int),.int .u64 ((0:Nat):Int),.int .u64 ((0:Nat):Int),.int .u64 ((0:Nat):Int),.int .u64 ((0:Nat):Int),.int .u64 ((0:Nat):Int)]) [(0,1),(1,8)]:=.mk' (by kernel_rfl) (by kernel_rfl)
theorem t144:TyI ai.P 144 true 9:=⟨by kernel_rfl,by kernel_rfl,by kernel_rfl⟩
instance:TyC ai.P 144 true 9:=⟨t144⟩
theorem CU:∀b o,aI ai.P 144 (ptr b o) 0=some (ptr b (o+0)):=fun _ _=>by kernel_rfl
instance:FaC ai.P 144 0 0:=⟨CU⟩
theorem Hz:bq ai.P 142=some (.agg #[.int .u64 ((0:Nat):Int),.int .u64 ((0:Nat):Int),.int .u64 ((0:Nat):Int),.int .u64 ((0:Nat):Int),.int .u64 ((0:Nat):Int),.int .u64 ((0:Nat):Int),.int .u64 ((0:Nat):Int),.int .u64 ((0:Nat):Int)]):=by kernel_rfl
theorem GP:BdT ai.P 142 (.agg #[.int .u64 ((0:Nat):Int),.int .u64 ((0:Nat):Int),.int .u64 ((0:Nat):Int),.int .u64 ((0:Nat):Int),.int .u64 ((0:Nat):Int),.int .u64 ((0:Nat):Int),.int .u64 ((0:Nat):Int),.int .u64 ((0:Nat):Int)]) [(0,1),(1,1),(2,1),(3,1),(4,1),(5,1),(6,1),(7,1)]:=.mk' (by kernel_rfl) (by kernel_rfl)
theorem Dy:∀b o,aI ai.P 144 (ptr b o) 1=some (ptr b (o+1)):=fun _ _=>by kernel_rfl
instance:FaC ai.P 144 1 1:=⟨Dy⟩
theorem t142:TyI ai.P 142 true 8:=⟨by kernel_rfl,by kernel_rfl,by kernel_rfl⟩
instance:TyC ai.P 142 true 8:=⟨t142⟩
theorem mX:ArT ai.P 142 26 8 1:=⟨by kernel_rfl,by kernel_rfl,by kernel_rfl⟩
instance:ArC ai.P 142 26 8 1:=⟨mX⟩
theorem R4:ai.P.underlying 76=some (.slice 26):=by kernel_rfl
instance:UsC ai.P 76 26:=⟨R4⟩
theorem AF:SlT ai.P 76 26 1:=SlT.of (by kernel_rfl)
instance:SlC ai.P 76 26 1:=⟨AF⟩
theorem Dc:BdT ai.P 103 (.agg #[.bool false,.slice none 0 0]) [(0,1),(1,1)]:=.mk' (by kernel_rfl) (by kernel_rfl)
theorem t103:TyI ai.P 103 true 2:=⟨by kernel_rfl,by kernel_rfl,by kernel_rfl⟩
instance:TyC ai.P 103 true 2:=⟨t103⟩
theorem L7:bq ai.P 26=some (.int .u64 ((0:Nat):Int)):=by kernel_rfl
theorem iS:∀b o,aI ai.P 103 (ptr b o) 0=some (ptr b (o+0)):=fun _ _=>by kernel_rfl
instance:FaC ai.P 103 0 0:=⟨iS⟩
theorem jW:∀b o,aI ai.P 103 (ptr b o) 1=some (ptr b (o+1)):=fun _ _=>by kernel_rfl
instance:FaC ai.P 103 1 1:=⟨jW⟩
theorem t76:TyI ai.P 76 false 1:=⟨by kernel_rfl,by kernel_rfl,by kernel_rfl⟩
instance:TyC ai.P 76 false 1:=⟨t76⟩
theorem Jg:bq ai.P 133=some (.agg #[.slice none 0 0]):=by kernel_rfl
theorem Rf:ai.P.underlying 131=some (.slice 3):=by kernel_rfl
instance:UsC ai.P 131 3:=⟨Rf⟩
theorem P9:SlT ai.P 131 3 1:=SlT.of (by kernel_rfl)
instance:SlC ai.P 131 3 1:=⟨P9⟩
theorem QG:BdT ai.P 133 (.agg #[.slice none 0 0]) [(0,1)]:=.mk' (by kernel_rfl) (by kernel_rfl)
theorem t133:TyI ai.P 133 true 1:=⟨by kernel_rfl,by kernel_rfl,by kernel_rfl⟩
instance:TyC ai.P 133 true 1:=⟨t133⟩
theorem t112:TyI ai.P 112 false 1:=⟨by kernel_rfl,by kernel_rfl,by kernel_rfl⟩
instance:TyC ai.P 112 false 1:=⟨t112⟩
theorem xd:ai.P.underlying 112=some (.map 3 4):=by kernel_rfl
theorem z4:bq ai.P 4=some (.bool false):=by kernel_rfl
theorem oa:∀b o,aI ai.P 133 (ptr b o) 0=some (ptr b (o+0)):=fun _ _=>by kernel_rfl
instance:FaC ai.P 133 0 0:=⟨oa⟩
theorem t131:TyI ai.P 131 false 1:=⟨by kernel_rfl,by kernel_rfl,by kernel_rfl⟩
instance:TyC ai.P 131 false 1:=⟨t131⟩
theorem RQ:bq ai.P 159=some (.map none):=by kernel_rfl
theorem t159:TyI ai.P 159 false 1:=⟨by kernel_rfl,by kernel_rfl,by kernel_rfl⟩
instance:TyC ai.P 159 false 1:=⟨t159⟩
theorem RJ:bq ai.P 160=some (.nilFunc):=by kernel_rfl
theorem t160:TyI ai.P 160 false 1:=⟨by kernel_rfl,by kernel_rfl,by kernel_rfl⟩
instance:TyC ai.P 160 false 1:=⟨t160⟩
theorem qH:ai.P.underlying 159=some (.map 3 3):=by kernel_rfl
theorem Rh:bq ai.P 162=some (.slice none 0 0):=by kernel_rfl
theorem RI:bq ai.P 161=some (.slice none 0 0):=by kernel_rfl
theorem t161:TyI ai.P 161 false 1:=⟨by kernel_rfl,by kernel_rfl,by kernel_rfl⟩
instance:TyC ai.P 161 false 1:=⟨t161⟩
theorem Hq:ai.P.underlying 161=some (.slice 162):=by kernel_rfl
instance:UsC ai.P 161 162:=⟨Hq⟩
theorem t162:TyI ai.P 162 false 1:=⟨by kernel_rfl,by kernel_rfl,by kernel_rfl⟩
instance:TyC ai.P 162 false 1:=⟨t162⟩
theorem oG:SlT ai.P 161 162 1:=SlT.of (by kernel_rfl)
instance:SlC ai.P 161 162 1:=⟨oG⟩
theorem o5:SlT ai.P 162 103 2:=SlT.of (by kernel_rfl)
instance:SlC ai.P 162 103 2:=⟨o5⟩
theorem RG:bq ai.P 164=some (.nilFunc):=by kernel_rfl
theorem t164:TyI ai.P 164 false 1:=⟨by kernel_rfl,by kernel_rfl,by kernel_rfl⟩
instance:TyC ai.P 164 false 1:=⟨t164⟩
theorem xc:∀cs:Array Value,eG ai.P 103 (.agg cs) 1=gB ai.P 76 cs 1:=fun _=>by kernel_rfl
theorem KY:bq ai.P 112=some (.map none):=by kernel_rfl
theorem Sb:ai.P.underlying 38=some (.array 8 26):=by kernel_rfl
theorem Qd:∀(x0 y0:Nat) (x1 y1:Nat) (x2 y2:Nat) (x3 y3:Nat) (x4 y4:Nat) (x5 y5:Nat) (x6 y6:Nat) (x7 y7:Nat),k8 ai.P Op.maxDepth 38 (.agg #[aZ x0,aZ x1,aZ x2,aZ x3,aZ x4,aZ x5,aZ x6,aZ x7]) (.agg #[aZ y0,aZ y1,aZ y2,aZ y3,aZ y4,aZ y5,aZ y6,aZ y7])=some (decide (x0=y0) && decide (x1=y1) && decide (x2=y2) && decide (x3=y3) && decide (x4=y4) && decide (x5=y5) && decide (x6=y6) && decide (x7=y7)):=fun x0 y0 x1 y1 x2 y2 x3 y3 x4 y4 x5 y5 x6 y6 x7 y7=>Qa Sb t26.known t26.size t26.agg Fi x0 y0 x1 y1 x2 y2 x3 y3 x4 y4 x5 y5 x6 y6 x7 y7
theorem PR:ai.P.eqGuardType ai.P.depth 38=false:=by kernel_rfl
theorem MY (n x1 x2 x3 l1 a0 c0 r) (hF:PH n x1 x2 x3 l1=some r) (m) (h6:Rd m a0 c0 2 l1.length (l1.map (eP (eN .u8) (eN .u8)))):
  ax ai 28 [.agg #[.int .u8 ((x1:Nat):Int),.int .u8 ((x2:Nat):Int),.int .u16 ((x3:Nat):Int),bK a0 l1 c0]] m (fun v m'=>∃x:Option Addr × Nat,v = .agg #[.int .i64 r.1,.slice x.1 x.2 x.2]∧Hp m m' [.sl x.1 2 x.2 (r.2.map (eP (eI .i64) (eI .i64)))]):=by
 unfold PH at hF;refine cw Tryz.func28 ((Hp.start m).i h6) ?_;refine wz ?_;refine wb fun b2=>?_;refine wa Pa fun b0=>?_;refine aq ?_;refine Wo.od (aG rfl rfl (kZ _ _ (by decide))) rfl<|Wo.od (fq rfl (m8 (by rw[u5]; rfl) u3)) rfl ?_
 refine wz ?_;refine Wo.od (aG rfl rfl (kZ _ _ (by decide))) rfl<|Wo.od (fq rfl (m8 (by rw[u5]; rfl) u3)) rfl ?_
 refine wz ?_;refine Wk.seq<|Wk.region<|Wo.od (aF rfl) rfl<|Wo.od (aF rfl) rfl ?_;obtain⟨y2,h7,hF⟩:=J hF;refine Wo.od (aG rfl rfl ((rB _ _ _).trans (cI h7))) rfl<|Wo.od (fX rfl Pa rfl (fY Rg rfl rfl rfl)) rfl<|wa Pa fun b1=>?_;refine dC ?_;refine Wk.block ?_;obtain⟨l3,h1,hF⟩:=J hF;refine ct (fun l3 (a2:Option Addr)=>⟨(.exit 0),[(2,ptr b0 0),(5,ptr b1 0)],[mA b0,nf b1 y2 a2 l3,oM a2 l3]⟩) l3 ?_ ?_
 ·refine Wk.mH (fs':=[(1,ptr b2 0),(2,ptr b0 0),(3,.int .i64 (IntKind.wrap .i64 (1+(IntKind.wrap .i64 ((x1%4:Nat):Int))))),(5,ptr b1 0),(6,.int .i64 0),(7,.int .i64 0)]) (ps':=[pV b2 x1 x2 x3 a0 l1 c0,pR a0 c0 l1,mA b0,.obj b1 (.cells [an y2,.slice none ([]:List (Int × Int)).length ([]:List (Int × Int)).length] .own),.sl none 2 ([]:List (Int × Int)).length (([]:List (Int × Int)).map (eP (eI .i64) (eI .i64)))]) (sc rfl (sc rfl (sc rfl (sc rfl (sc rfl (sc rfl sn)))))) (ak.trans (ak.nil 2 rfl) (ak.aP [3,4,2,1,0] rfl rfl))<|Wk.loop (σ:=Int × List (Int × Int) × Int × Int) (ρ:=List (Int × Int)) (γ:=Option Addr) (δ:=fun _=>Option Addr) _ (fun(s:Int × List (Int × Int) × Int × Int) (g:Option Addr)=>match s,g with | (v1,l4,v13,v0),a3=>⟨.normal,[(1,ptr b2 0),(2,ptr b0 0),(3,an v1),(5,ptr b1 0),(6,an v13),(7,an v0)],[pV b2 x1 x2 x3 a0 l1 c0,pR a0 c0 l1,mA b0,nf b1 y2 a3 l4,oM a3 l4]⟩) (fun(r:List (Int × Int)) (g:Option Addr)=>match r,g with|l3,a2=>⟨(.exit 0),[(2,ptr b0 0),(5,ptr b1 0)],[mA b0,nf b1 y2 a2 l3,oM a2 l3]⟩) ?_ (fun _ _=>rfl) (fun r d=>by intro e; cases e) _ _ _ h1 none
  clear hF h1;rintro⟨v1,l4,v13,v0⟩ a3 r hF;unfold ym at hF;refine wz ?_;rcases aa hF with⟨h8,hF⟩|⟨h8,hF⟩
  ·refine aq ?_;refine Wk.block ?_;obtain⟨r2,h2,hF⟩:=J hF;refine ct (fun(l5,v14) (a4:Option Addr)=>⟨(.exit 2),[(1,ptr b2 0),(2,ptr b0 0),(3,an v1),(5,ptr b1 0),(6,an v14),(7,an v0)],[pV b2 x1 x2 x3 a0 l1 c0,pR a0 c0 l1,mA b0,nf b1 y2 a4 l5,oM a4 l5]⟩) r2 ?_ ?_
   ·refine lo h2 a3 [0,1,2,3,4] (fun(l2,v4,v2) a1=>⟨.normal,[(1,ptr b2 0),(2,ptr b0 0),(3,an v1),(5,ptr b1 0),(6,an v4),(7,an v0),(8,an v2)],[pV b2 x1 x2 x3 a0 l1 c0,pR a0 c0 l1,mA b0,nf b1 y2 a1 l2,oM a1 l2]⟩) ?_;clear hF h2;rintro⟨l2,v4,v2⟩ a1 r hF;unfold zM at hF;refine wz ?_;rcases aa hF with⟨h9,hF⟩|⟨h9,hF⟩
    ·refine wz ?_;refine Wk.seq ?_;obtain⟨r0,h10,hF⟩:=J hF;refine ct (fun(l6,v15) (a5:Option Addr)=>⟨.normal,[(1,ptr b2 0),(2,ptr b0 0),(3,an v1),(5,ptr b1 0),(6,an v15),(7,an v0),(8,an v2)],[pV b2 x1 x2 x3 a0 l1 c0,pR a0 c0 l1,mA b0,nf b1 y2 a5 l6,oM a5 l6]⟩) r0 ?_ ?_
     ·clear hF;revert r0;intro r hF;refine Wk.block<|Wk.seq ?_;obtain⟨v5,h11,hF⟩:=J hF;refine ct (fun v5 (_:Unit)=>⟨.normal,[(1,ptr b2 0),(2,ptr b0 0),(3,an v1),(5,ptr b1 0),(6,an v4),(7,an v0),(8,an v2),(9,cz v5)],[pV b2 x1 x2 x3 a0 l1 c0,pR a0 c0 l1,mA b0,nf b1 y2 a1 l2,oM a1 l2]⟩) v5 ?_ ?_
      ·clear hF;revert v5;intro r hF;refine wz ?_;rcases aa hF with⟨h12,hF⟩|⟨h12,hF⟩
       ·refine wz ?_;cases hF;exact ae () [0,1,2,3,4]
       ·refine wz ?_;rcases aa hF with⟨h4,hF⟩|⟨h4,hF⟩
        ·refine wz ?_;obtain⟨h13,hF⟩:=au hF;refine Wo.og (aG rfl rfl (gq _ _ h13)) (gg rfl rfl (gR h4)) rfl ?_;refine wz ?_;cases hF;exact ae () [0,1,2,3,4]
        ·refine wz ?_;cases hF;exact ae () [0,1,2,3,4]
      ·clear h11;rintro⟨⟩;refine At.tn<|Wk.seq ?_;obtain⟨r1,h14,hF⟩:=J hF;refine ct (fun(v3,v16) (_:Unit)=>⟨.normal,[(1,ptr b2 0),(2,ptr b0 0),(3,an v1),(5,ptr b1 0),(6,an v3),(7,an v0),(8,an v2),(9,cz v16)],[pV b2 x1 x2 x3 a0 l1 c0,pR a0 c0 l1,mA b0,nf b1 y2 a1 l2,oM a1 l2]⟩) r1 ?_ ?_
       ·clear hF;revert r1;intro r hF;refine wz ?_;rcases aa hF with⟨h5,hF⟩|⟨h5,hF⟩
        ·refine Wk.eQ rfl h5<|Wk.seq ?_;obtain⟨v6,h15,hF⟩:=J hF;refine ct (fun v6 (_:Unit)=>⟨.normal,[(1,ptr b2 0),(2,ptr b0 0),(3,an v1),(5,ptr b1 0),(6,an v4),(7,an v0),(8,an v2),(9,cz v6)],[pV b2 x1 x2 x3 a0 l1 c0,pR a0 c0 l1,mA b0,nf b1 y2 a1 l2,oM a1 l2]⟩) v6 ?_ ?_
         ·clear hF;revert v6;intro r hF;refine Wk.seq ?_;obtain⟨v7,h16,hF⟩:=J hF;refine ct (fun v7 (_:Unit)=>⟨.normal,[(1,ptr b2 0),(2,ptr b0 0),(3,an v1),(5,ptr b1 0),(6,an v4),(7,an v0),(8,an v2),(9,cz v5),(72,cz v7)],[pV b2 x1 x2 x3 a0 l1 c0,pR a0 c0 l1,mA b0,nf b1 y2 a1 l2,oM a1 l2]⟩) v7 ?_ ?_
          ·clear hF;revert v7;intro r hF;refine wz ?_;refine Wo.od (aG rfl rfl (gq _ _ (by decide))) rfl ?_
           refine wz ?_;rcases aa hF with⟨h0,hF⟩|⟨h0,hF⟩
           ·refine wz ?_;refine Wo.og (aG rfl rfl (lK _ _ (by decide))) (gg rfl rfl (gR h0)) rfl<|Wo.og (aG rfl rfl (gq _ _ (by decide))) (gg rfl rfl (gR h0)) rfl<|Wo.og (fq rfl (oR (by rw[u3]; rfl) Ij rfl)) (gg rfl rfl (gR h0)) rfl ?_
            obtain⟨y3,h17,hF⟩:=J hF;refine Wo.og (aG rfl rfl ((ca _ _ (nn _)).trans (cN h17))) (gg rfl rfl (gR h0)) rfl ?_;refine wz ?_;cases hF;exact ae () [0,1,2,3,4]
           ·refine wz ?_;cases hF;exact ae () [0,1,2,3,4]
          ·clear h16;rintro⟨⟩;refine At.tn ?_;rcases aa hF with⟨h18,hF⟩|⟨h18,hF⟩
           ·refine wz ?_;cases hF;exact ae () [0,1,2,3,4]
           ·refine wz ?_;obtain rfl:=Option.some.inj hF;exact ae () [0,1,2,3,4]
         ·clear h15;rintro⟨⟩;refine aq ?_;cases hF;exact ae () [0,1,2,3,4]
        ·refine wz ?_;cases hF;exact ae () [0,1,2,3,4]
       ·clear h14;obtain⟨v3,v16⟩:=r1;rintro⟨⟩;refine aq ?_;refine Wk.block ?_;obtain⟨v11,h3,hF⟩:=J hF;refine ct (fun v11 (_:Unit)=>⟨(.exit 4),[(1,ptr b2 0),(2,ptr b0 0),(3,an v1),(5,ptr b1 0),(6,an v3),(7,an v0),(8,an v2),(9,cz v11)],[pV b2 x1 x2 x3 a0 l1 c0,pR a0 c0 l1,mA b0,nf b1 y2 a1 l2,oM a1 l2]⟩) v11 ?_ ?_
        ·refine lo h3 () [0,1,2,3,4] (fun(v12,v8) _=>⟨.normal,[(1,ptr b2 0),(2,ptr b0 0),(3,an v1),(5,ptr b1 0),(6,an v3),(7,an v0),(8,an v2),(9,cz v12),(10,an v8)],[pV b2 x1 x2 x3 a0 l1 c0,pR a0 c0 l1,mA b0,nf b1 y2 a1 l2,oM a1 l2]⟩) ?_;clear hF h3;rintro⟨v12,v8⟩ ⟨⟩ r hF;unfold yh at hF;refine Wk.seq<|Wk.seq ?_;obtain⟨v9,h19,hF⟩:=J hF;refine ct (fun v9 (_:Unit)=>⟨.normal,[(1,ptr b2 0),(2,ptr b0 0),(3,an v1),(5,ptr b1 0),(6,an v3),(7,an v0),(8,an v2),(9,cz v12),(10,an v8),(83,cz v9)],[pV b2 x1 x2 x3 a0 l1 c0,pR a0 c0 l1,mA b0,nf b1 y2 a1 l2,oM a1 l2]⟩) v9 ?_ ?_
         ·clear hF;revert v9;intro r hF;refine wz ?_;rcases aa hF with⟨h20,hF⟩|⟨h20,hF⟩
          ·refine wz ?_;cases hF;exact ae () [0,1,2,3,4]
          ·refine wz ?_;cases hF;exact ae () [0,1,2,3,4]
         ·clear h19;rintro⟨⟩;refine At.tn ?_;rcases aa hF with⟨h21,hF⟩|⟨h21,hF⟩
          ·refine wz ?_;refine Wk.seq ?_;obtain⟨v10,h22,hF⟩:=J hF;refine ct (fun v10 (_:Unit)=>⟨.normal,[(1,ptr b2 0),(2,ptr b0 0),(3,an v1),(5,ptr b1 0),(6,an v3),(7,an v0),(8,an v2),(9,cz v10),(10,an v8)],[pV b2 x1 x2 x3 a0 l1 c0,pR a0 c0 l1,mA b0,nf b1 y2 a1 l2,oM a1 l2]⟩) v10 ?_ ?_
           ·clear hF;revert v10;intro r hF;refine wz ?_;obtain⟨h23,hF⟩:=bG hF;refine Wo.bI (k:=1) rfl (aM h23) ?_;rintro b3 o1 rfl;refine wz ?_;obtain⟨⟨x4,x5⟩,h33,hF⟩:=J hF;refine wz ?_;refine Wo.od (fq rfl (m8 (by rw[u5]; rfl) u3)) rfl ?_
            refine wz ?_;obtain⟨h24,hF⟩:=au hF;refine Wo.od (aG rfl rfl (gq _ _ h24)) rfl ?_;refine wz ?_;obtain⟨h34,hF⟩:=bG hF;refine wz ?_;refine Wo.od (fq rfl (m8 (by rw[u5]; rfl) u3)) rfl ?_
            refine wz ?_;obtain⟨h25,hF⟩:=au hF;refine Wo.od (aG rfl rfl (gq _ _ h25)) rfl ?_;refine aq ?_;rcases aa hF with⟨h26,hF⟩|⟨h26,hF⟩
            ·refine wz ?_;cases hF;exact ae () [1,2,3,4,5]
            ·refine wz ?_;rcases aa hF with⟨h27,hF⟩|⟨h27,hF⟩
             ·refine wz ?_;rcases aa hF with⟨h28,hF⟩|⟨h28,hF⟩
              ·refine wz ?_;cases hF;exact ae () [1,2,3,4,5]
              ·refine wz ?_;rcases aa hF with⟨h29,hF⟩|⟨h29,hF⟩
               ·refine wz ?_;cases hF;exact ae () [1,2,3,4,5]
               ·refine wz ?_;cases hF;exact ae () [1,2,3,4,5]
             ·refine wz ?_;rcases aa hF with⟨h30,hF⟩|⟨h30,hF⟩
              ·refine wz ?_;cases hF;exact ae () [1,2,3,4,5]
              ·refine wz ?_;cases hF;exact ae () [1,2,3,4,5]
           ·clear h22;rintro⟨⟩;refine aq ?_;cases hF;exact ae () [0,1,2,3,4]
          ·refine wz ?_;cases hF;exact ae () [0,1,2,3,4]
        ·clear h3;rintro⟨⟩;refine aq ?_;rcases aa hF with⟨h31,hF⟩|⟨h31,hF⟩
         ·refine wz ?_;refine Wo.od (fX rfl FC rfl (fY QD rfl rfl rfl)) rfl<|Wo.x (kH (es:=([(v0,v2)]:List (Int × Int)).map (eP (eI .i64) (eI .i64))) yJ rfl (ia yJ FC rfl rfl) rfl rfl) gn rfl fun b4=>?_;obtain⟨h32,hF⟩:=au hF;refine Wo.x (lO (k:=5) (k2:=0) (xs:=(l2:List (Int × Int))) (ys:=([(v0,v2)]:List (Int × Int))) (RT (AS .i64) (AS .i64)) yJ ⟨_,u32⟩ rfl rfl rfl (.arr _ _ _ _ _) h32) gn rfl fun a6=>?_;refine wz ?_;cases hF;exact ae a6 [1,2,3,4,5]
         ·refine wz ?_;cases hF;exact ae a1 [0,1,2,3,4]
     ·clear h10;obtain⟨l6,v15⟩:=r0;rintro a5;refine aq ?_;cases hF;exact ae a5 [0,1,2,3,4]
    ·refine wz ?_;cases hF;exact ae a1 [0,1,2,3,4]
   ·clear h2;obtain⟨l5,v14⟩:=r2;rintro a4;refine aq ?_;cases hF;exact ae a4 [0,1,2,3,4]
  ·refine wz ?_;cases hF;exact ae a3 [2,3,4]
 ·clear h1;rintro a2;refine dC ?_;cases hF;exact ar (a2,l3.length) [2]
theorem lE (n x1 x2 r) (hF:Fh n x1 x2=some r) (m):
  ax ai 86 [aZ x1,an x2] m (fun v m'=>∃x:Unit,v = .bool r∧Hp m m' []):=by
 unfold Fh at hF;refine cw Tryz.func86 (Hp.start m) ?_;refine aq ?_;refine Wo.od (fq rfl (oR (by rw[u3]; rfl) Ij rfl)) rfl<|Wo.od (aG rfl rfl (ca _ _ (nn _))) rfl ?_
 refine aq ?_;cases hF;exact ar () []
theorem we (n x1 r) (hF:JE n x1=some r) (m):
  ax ai 53 [aZ x1] m (fun v m'=>∃x:Unit,v = .int .i64 r∧Hp m m' []):=by
 unfold JE at hF;refine cw Tryz.func53 (Hp.start m) ?_;refine dC ?_;refine Wk.block ?_;obtain⟨v18,h29,hF⟩:=J hF;refine ct (fun v18 (_:Unit)=>⟨(.exit 0),[(3,an v18)],[]⟩) v18 ?_ ?_
 ·refine lo h29 () [] (fun(v4,v5) _=>⟨.normal,[(0,aZ x1),(3,an v4),(4,an v5)],[]⟩) ?_;clear hF h29;rintro⟨v4,v5⟩ ⟨⟩ r hF;unfold zA at hF;refine wz ?_;rcases aa hF with⟨h19,hF⟩|⟨h19,hF⟩
  ·refine wz ?_;refine Wk.seq ?_;obtain⟨v23,h27,hF⟩:=J hF;refine ct (fun v23 (_:Unit)=>⟨.normal,[(0,aZ x1),(3,an v23),(4,an v5)],[]⟩) v23 ?_ ?_
   ·clear hF;revert v23;intro r hF;refine wz ?_;obtain⟨r25,h24,hF⟩:=J hF;refine wc gn (fun m hm=>lE n x1 v5  _ h24 m) ?_;rintro⟨⟩;refine wz ?_;rcases aa hF with⟨h26,hF⟩|⟨h26,hF⟩
    ·refine wz ?_;cases hF;exact ae () []
    ·refine wz ?_;obtain rfl:=Option.some.inj hF;exact ae () []
   ·clear h27;rintro⟨⟩;refine aq ?_;cases hF;exact ae () []
  ·refine wz ?_;cases hF;exact ae () []
 ·clear h29;rintro⟨⟩;refine dC ?_;obtain rfl:=Option.some.inj hF;exact ar () []
theorem qI (n x1 r) (hF:yH n x1=some r) (m):
  ax ai 106 [an x1] m (fun v m'=>∃x:Unit,v = .int .u64 ((r:Nat):Int)∧Hp m m' []):=by
 unfold yH at hF;refine cw Tryz.func106 (Hp.start m) ?_;refine aq ?_;refine Wo.od (fq rfl (oR (by rw[u3]; rfl) Ij rfl)) rfl<|Wo.od (aG rfl rfl (nk rfl _ _ (nn _))) rfl ?_
 refine aq ?_;cases hF;exact ar () []
theorem BA (n x1 l2 x6 a3 c4 r) (hF:LV n x1 l2 x6=some r) (m) (h5:iW m a3 c4 l2):
  ax ai 50 [iZ x1 a3 l2 c4,aZ x6] m (fun v m'=>∃x:Unit,v = .int .u64 ((r:Nat):Int)∧Hp m m' []):=by
 unfold LV at hF;refine cw Tryz.func50 ((Hp.start m).i h5) ?_;refine wz ?_;refine wb fun b7=>?_;refine dC ?_;refine Wk.block ?_;obtain⟨v47,h81,hF⟩:=J hF;refine ct (fun v47 (_:Unit)=>⟨(.exit 0),[(5,aZ v47)],[]⟩) v47 ?_ ?_
 ·refine lo h81 () [0,1] (fun(v10,v11) _=>⟨.normal,[(1,aZ x6),(2,ptr b7 0),(5,aZ v10),(6,an v11)],[fk b7 x1 a3 l2 c4,fm a3 c4 l2]⟩) ?_;clear hF h81;rintro⟨v10,v11⟩ ⟨⟩ r hF;unfold rN at hF;refine Wk.seq<|Wk.seq ?_;obtain⟨v61,h65,hF⟩:=J hF;refine ct (fun v61 (_:Unit)=>⟨.normal,[(1,aZ x6),(2,ptr b7 0),(5,aZ v10),(6,an v11),(15,cz v61)],[fk b7 x1 a3 l2 c4,fm a3 c4 l2]⟩) v61 ?_ ?_
  ·clear hF;revert v61;intro r hF;refine wz ?_;rcases aa hF with⟨h62,hF⟩|⟨h62,hF⟩
   ·refine wz ?_;obtain⟨r64,h63,hF⟩:=J hF;refine wc (gg rfl rfl (gR h62)) (fun m hm=>we n v10  _ h63 m) ?_;rintro⟨⟩;refine wz ?_;cases hF;exact ae () [0,1]
   ·refine wz ?_;cases hF;exact ae () [0,1]
  ·clear h65;rintro⟨⟩;refine At.tn ?_;rcases aa hF with⟨h67,hF⟩|⟨h67,hF⟩
   ·refine wz ?_;refine Wk.seq ?_;obtain⟨v73,h79,hF⟩:=J hF;refine ct (fun v73 (_:Unit)=>⟨.normal,[(1,aZ x6),(2,ptr b7 0),(5,aZ v73),(6,an v11)],[fk b7 x1 a3 l2 c4,fm a3 c4 l2]⟩) v73 ?_ ?_
    ·clear hF;revert v73;intro r hF;refine wz ?_;obtain⟨r75,h74,hF⟩:=J hF;refine wc gn (fun m hm=>lE n x6 v11  _ h74 m) ?_;rintro⟨⟩;refine wz ?_;rcases aa hF with⟨h76,hF⟩|⟨h76,hF⟩
     ·refine wz ?_;obtain⟨r78,h77,hF⟩:=J hF;refine wc gn (fun m hm=>qI n v11  _ h77 m) ?_;rintro⟨⟩;refine wz ?_;cases hF;exact ae () [0,1]
     ·refine wz ?_;obtain rfl:=Option.some.inj hF;exact ae () [0,1]
    ·clear h79;rintro⟨⟩;refine aq ?_;cases hF;exact ae () [0,1]
   ·refine wz ?_;cases hF;exact ae () []
 ·clear h81;rintro⟨⟩;refine dC ?_;obtain rfl:=Option.some.inj hF;exact ar () []
theorem Ow (n x1 x2 x4 x5 l1 x6 a0 c0 r) (hF:PC n x1 x2 x4 x5 l1 x6=some r) (m) (h2:iW m a0 c0 l1):
  ax ai 51 [.agg #[.int .u8 ((x1:Nat):Int),an x2,aZ x4],iZ x5 a0 l1 c0,aZ x6] m (fun v m'=>∃x:Option Addr × Nat,v = .tuple #[.agg #[.int .i64 r.1,.slice x.1 x.2 x.2],.int .u64 ((r.2.2:Nat):Int)]∧Hp m m' [.sl x.1 2 x.2 (r.2.1.map (eP (eI .i64) (eI .i64)))]):=by
 unfold PC at hF;refine cw Tryz.func51 ((Hp.start m).i h2) ?_;refine wz ?_;refine wb fun b3=>?_;refine wb fun b0=>?_;refine wa Pa fun b2=>?_;refine aq ?_;obtain⟨l2,h3,hF⟩:=J hF;refine wc gn (fun m hm=>OB n l1 a0 c0 _ h3 m (hm.q 3)) ?_;rintro⟨a1,n0⟩;refine Wo.len (k:=0) (xs:=l2) rfl ?_;rintro rfl;refine wz ?_;refine Wk.seq ?_;obtain⟨r0,h4,hF⟩:=J hF;refine ct (fun(v0,v1,l3) (_:Unit)=>⟨.normal,[(2,aZ v0),(4,ptr b0 0),(6,ptr b2 0)],[nf b0 v1 a1 l2,.sl a1 2 l2.length (l3.map (eP (eI .i64) (eI .i64))),mA b2]⟩) r0 ?_ ?_
 ·clear hF;revert r0;intro r hF;refine wz ?_;refine Wo.od (aG rfl rfl (kZ _ _ (by decide))) rfl ?_
  refine aq ?_;rcases aa hF with⟨h5,hF⟩|⟨h5,hF⟩
  ·refine wz ?_;cases hF;exact ae () [2,0,1]
  ·refine wz ?_;rcases aa hF with⟨h6,hF⟩|⟨h6,hF⟩
   ·refine wz ?_;rcases aa hF with⟨h7,hF⟩|⟨h7,hF⟩
    ·refine wz ?_;refine Wo.od (fq rfl (oR (by rw[u3]; rfl) Ij rfl)) rfl ?_
     refine wz ?_;refine Wo.od (fq rfl (oR (by rw[u3]; rfl) Ij rfl)) rfl ?_
     obtain⟨h8,hF⟩:=au hF;refine Wo.od (aG rfl rfl (kZ _ _ (of_decide_eq_true h8))) rfl ?_;obtain⟨y2,h9,hF⟩:=J hF;refine Wo.od (fq rfl ((m8 (by rw[Ij]; rfl) u3).trans (cI h9))) rfl ?_
     refine wz ?_;refine Wk.bV (prs:=[(4,20)]) (by kernel_rfl)<|Wn.od (bM (r:=ptr b0 1) rfl (ef _ _)) rfl<|Wn.od (aR (k:=2) t32 rfl rfl rfl) rfl<|Wn.od (aF rfl) rfl<|Wn.od (bM (r:=ptr b0 1) rfl (ef _ _)) rfl<|Wn.Np rfl (aR (k:=2) t32 rfl rfl rfl) rfl<|Wn.od (aF rfl) rfl<|Wn.od (bM (r:=ptr b0 1) rfl (ef _ _)) rfl ?_
     refine Wn.od (aR (k:=2) t32 rfl rfl rfl) rfl<|Wn.od (aF rfl) rfl ?_;obtain⟨h1,hF⟩:=bG hF;refine Wn.open (k:=0) rfl (aM h1) ?_;rintro b1 t0 rfl h16;refine Wn.og (cV yJ rfl rfl h1) gn rfl<|Wn.od (iD (r:=ptr b1 (y2.toNat*2+1)) rfl rfl (ja iC (i:=1) (by decide))) rfl ?_
     obtain⟨⟨x7,x3⟩,h0,hF⟩:=J hF;refine Wn.od (GJ (k:=0) t3 rfl rfl (ee h0) rfl rfl) rfl<|Wn.od (bM (r:=ptr b0 1) rfl (ef _ _)) rfl<|Wn.od (aR (k:=2) t32 rfl rfl rfl) rfl<|Wn.od (aF rfl) rfl ?_;obtain⟨h10,hF⟩:=bG hF;refine Wn.og (cV yJ rfl rfl h10) gn rfl<|Wn.od (iD (r:=ptr b1 (y2.toNat*2+0)) rfl rfl (ja iC (i:=0) (by decide))) rfl<|Wn.od (GJ (k:=0) t3 rfl rfl (ee h0) rfl rfl) rfl ?_
     obtain⟨h11,hF⟩:=bG hF;refine Wn.og (cV yJ rfl rfl h11) gn rfl<|Wn.od (iD (r:=ptr b1 (y2.toNat*2+0)) rfl rfl (ja iC (i:=0) (by decide))) rfl<|Wn.R9 rfl (ew (k:=0) (x1:=(x7,x3)) (x2:=(x3,x3)) t3 rfl rfl rfl h0 rfl) ?_
     obtain⟨h12,hF⟩:=bG hF;refine Wn.og (cV yJ rfl rfl h12) gn rfl<|Wn.od (iD (r:=ptr b1 (y2.toNat*2+1)) rfl rfl (ja iC (i:=1) (by decide))) rfl ?_
     obtain⟨⟨x8,x9⟩,h13,hF⟩:=J hF;refine Wn.o0 (ew (k:=0) (x1:=(x8,x9)) (x2:=(x8,x7)) t3 rfl rfl rfl h13 rfl)<|Wn.nil (fun m hm=>(du.rw rfl rfl rfl (hm.ne (i:=2) (j:=0) rfl rfl rfl rfl (by decide) rfl) du.nil))<|At.bn ?_
     cases hF;exact At.en () rfl (sc rfl (sc rfl (sc rfl sn))) (ak.trans (ak.close (k:=0) rfl) (ak.aP [2,0,1] rfl rfl))
    ·refine wz ?_;cases hF;exact ae () [2,0,1]
   ·refine wz ?_;rcases aa hF with⟨h14,hF⟩|⟨h14,hF⟩
    ·refine wz ?_;cases hF;exact ae () [2,0,1]
    ·refine wz ?_;rcases aa hF with⟨h15,hF⟩|⟨h15,hF⟩
     ·refine wz ?_;cases hF;exact ae () [2,0,1]
     ·refine wz ?_;cases hF;exact ae () [2,0,1]
 ·clear h4;obtain⟨v0,v1,l3⟩:=r0;rintro⟨⟩;refine dC ?_;cases hF;exact ar (a1,l2.length) [1]
theorem B7 (n x1 l1 a0 c0 r) (hF:Mj n x1 l1=some r) (m) (h15:iW m a0 c0 l1):
  ax ai 52 [iZ x1 a0 l1 c0] m (fun v m'=>∃x:Unit,v = .int .i64 r∧Hp m m' []):=by
 unfold Mj at hF;refine cw Tryz.func52 ((Hp.start m).i h15) ?_;refine Wk.seq<|Wk.region<|wb fun b0=>?_;refine Wo.od (cl rfl) rfl<|Wo.nil<|At.tn<|Wk.seq<|Wk.seq ?_;obtain⟨v1,h16,hF⟩:=J hF;refine ct (fun v1 (_:Unit)=>⟨.normal,[(1,ptr b0 0),(19,cz v1)],[fk b0 x1 a0 l1 c0,fm a0 c0 l1]⟩) v1 ?_ ?_
 ·clear hF;revert v1;intro r hF;refine Wk.region<|Wo.od (bM (r:=ptr b0 0) rfl (rO _ _)) rfl<|Wo.od (aR (k:=0) t3 rfl rfl rfl) rfl<|Wo.od (aG rfl rfl (dH _ _ _)) rfl<|Wo.od (aF rfl) rfl ?_;rcases aa hF with⟨h5,hF⟩|⟨h5,hF⟩
  ·refine Wo.s (gg rfl rfl (dK h5)) rfl<|Wo.s (gg rfl rfl (dK h5)) rfl<|Wo.s (gg rfl rfl (dK h5)) rfl<|Wo.od (jk rfl h5 rfl) rfl<|Wo.od (aF rfl) rfl<|Wo.s (gg rfl rfl rfl) rfl<|Wo.s (gg rfl rfl rfl) rfl<|Wo.s (gg rfl rfl rfl) rfl<|Wo.s (gg rfl rfl rfl) rfl<|Wo.od (DX rfl rfl) rfl ?_;refine Wo.nil ?_;cases hF;exact ae () [0,1]
  ·refine Wo.og (bM (r:=ptr b0 0) rfl (rO _ _)) (gg rfl rfl (dm h5)) rfl<|Wo.og (aR (k:=0) t3 rfl rfl rfl) (gg rfl rfl (dm h5)) rfl<|Wo.og (aG rfl rfl (gF _ _ _)) (gg rfl rfl (dm h5)) rfl<|Wo.od (jV rfl h5 rfl) rfl<|Wo.od (aF rfl) rfl ?_;rcases aa hF with⟨h3,hF⟩|⟨h3,hF⟩
   ·refine Wo.s (gg rfl rfl (dK h3)) rfl<|Wo.s (gg rfl rfl (dK h3)) rfl<|Wo.s (gg rfl rfl (dK h3)) rfl<|Wo.s (gg rfl rfl (dK h3)) rfl<|Wo.od (jk rfl h3 rfl) rfl<|Wo.nil ?_;cases hF;exact ae () [0,1]
   ·refine Wo.og (bM (r:=ptr b0 1) rfl (ef _ _)) (gg rfl rfl (dm h3)) rfl<|Wo.og (aR (k:=0) t32 rfl rfl rfl) (gg rfl rfl (dm h3)) rfl<|Wo.og (Ee (k:=1) u32 rfl rfl (.inl rfl)) (gg rfl rfl (dm h3)) rfl<|Wo.og (aG rfl rfl (gF _ _ _)) (gg rfl rfl (dm h3)) rfl<|Wo.od (jV rfl h3 rfl) rfl<|Wo.nil ?_;cases hF;exact ae () [0,1]
 ·clear h16;rintro⟨⟩;refine At.tn ?_;rcases aa hF with⟨h7,hF⟩|⟨h7,hF⟩
  ·refine Wk.eQ rfl h7<|Wk.seq<|Wk.region<|Wo.od (cl rfl) rfl<|Wo.nil<|At.tn<|Wk.ret<|At.tr ?_;cases hF;exact ar () []
  ·refine Wk.mY rfl h7<|Wk.skip<|At.tn<|Wk.seq<|Wk.seq<|Wk.region<|Wo.od (cl rfl) rfl<|Wo.nil<|At.tn<|Wk.block ?_;obtain⟨r0,h8,hF⟩:=J hF;refine ct (fun(r:(Unit) ⊕ (Unit)) (g:Unit)=>match r,g with | .inl _,_=>⟨.ret,[(2,.int .i64 180)],[]⟩ | .inr _,_=>⟨(.exit 0),[],[]⟩) r0 ?_ ?_
   ·refine lo h8 () [0,1] (fun v0 _=>⟨.normal,[(1,ptr b0 0),(3,an v0)],[fk b0 x1 a0 l1 c0,fm a0 c0 l1]⟩) ?_;clear hF h8;rintro v0 ⟨⟩ r hF;unfold tV at hF;refine Wk.seq<|Wk.seq<|Wk.region<|Wo.od (aF rfl) rfl<|Wo.od (bM (r:=ptr b0 1) rfl (ef _ _)) rfl<|Wo.od (aR (k:=0) t32 rfl rfl rfl) rfl<|Wo.od (Ee (k:=1) u32 rfl rfl (.inl rfl)) rfl<|Wo.od (aG rfl rfl (dH _ _ _)) rfl<|Wo.nil<|At.tn ?_;rcases aa hF with⟨h9,hF⟩|⟨h9,hF⟩
    ·refine Wk.eQ rfl h9<|Wk.skip<|At.tn<|Wk.seq<|Wk.block<|Wk.seq<|Wk.draw (by kernel_rfl)<|Wo.od (bM (r:=ptr b0 1) rfl (ef _ _)) rfl<|Wo.od (aR (k:=0) t32 rfl rfl rfl) rfl<|Wo.od (aF rfl) rfl ?_
     obtain⟨h13,hF⟩:=bG hF;refine Wo.bI (k:=1) rfl (aM h13) ?_;rintro b1 o1 rfl;refine Wo.og (jn yJ rfl rfl h13) gn rfl<|Wo.od (iD (r:=ptr b1 (o1+v0.toNat*2+0)) rfl rfl (ja iC (i:=0) (by decide))) rfl ?_
     obtain⟨⟨x3,x4⟩,h14,hF⟩:=J hF;refine Wo.od (kA (k:=0) t3 rfl rfl (ee h14) rfl rfl) rfl<|Wo.od (bM (r:=ptr b0 1) rfl (ef _ _)) rfl<|Wo.od (aR (k:=1) t32 rfl rfl rfl) rfl<|Wo.od (aF rfl) rfl ?_;obtain⟨h17,hF⟩:=bG hF;refine Wo.og (jn yJ rfl rfl h17) gn rfl<|Wo.od (iD (r:=ptr b1 (o1+v0.toNat*2+1)) rfl rfl (ja iC (i:=1) (by decide))) rfl<|Wo.od (kA (k:=0) t3 rfl rfl (ee h14) rfl rfl) rfl<|Wo.od (cl rfl) rfl<|Wo.od (cl rfl) rfl<|Wo.nil<|At.tn<|Wk.seq<|Wk.seq ?_
     obtain⟨v2,h18,hF⟩:=J hF;refine ct (fun v2 (_:Unit)=>⟨.normal,[(1,ptr b0 0),(3,an v0),(4,an x3),(5,an x4),(51,cz v2)],[kJ b0 x1 b1 o1 l1 c0,dI b1 o1 l1,dJ b1 o1 c0 l1]⟩) v2 ?_ ?_
     ·clear hF;revert v2;intro r hF;refine Wk.region<|Wo.od (aF rfl) rfl<|Wo.od (aG rfl rfl (dH _ _ _)) rfl<|Wo.od (aF rfl) rfl ?_;rcases aa hF with⟨h6,hF⟩|⟨h6,hF⟩
      ·refine Wo.s (gg rfl rfl (dK h6)) rfl<|Wo.s (gg rfl rfl (dK h6)) rfl<|Wo.s (gg rfl rfl (dK h6)) rfl<|Wo.od (jk rfl h6 rfl) rfl<|Wo.od (aF rfl) rfl<|Wo.s (gg rfl rfl rfl) rfl<|Wo.s (gg rfl rfl rfl) rfl<|Wo.s (gg rfl rfl rfl) rfl<|Wo.s (gg rfl rfl rfl) rfl<|Wo.od (DX rfl rfl) rfl ?_;refine Wo.nil ?_;cases hF;exact ae () [1,0,2]
      ·refine Wo.og (aF rfl) (gg rfl rfl (dm h6)) rfl<|Wo.og (aF rfl) (gg rfl rfl (dm h6)) rfl<|Wo.og (aG rfl rfl (jC _ _ _)) (gg rfl rfl (dm h6)) rfl<|Wo.od (jV rfl h6 rfl) rfl<|Wo.od (aF rfl) rfl ?_;rcases aa hF with⟨h4,hF⟩|⟨h4,hF⟩
       ·refine Wo.s (gg rfl rfl (dK h4)) rfl<|Wo.s (gg rfl rfl (dK h4)) rfl<|Wo.s (gg rfl rfl (dK h4)) rfl<|Wo.s (gg rfl rfl (dK h4)) rfl<|Wo.od (jk rfl h4 rfl) rfl<|Wo.nil ?_;cases hF;exact ae () [1,0,2]
       ·refine Wo.og (aF rfl) (gg rfl rfl (dm h4)) rfl<|Wo.og (bM (r:=ptr b0 0) rfl (rO _ _)) (gg rfl rfl (dm h4)) rfl<|Wo.og (aR (k:=1) t3 rfl rfl rfl) (gg rfl rfl (dm h4)) rfl<|Wo.og (aG rfl rfl (jC _ _ _)) (gg rfl rfl (dm h4)) rfl<|Wo.od (jV rfl h4 rfl) rfl<|Wo.nil ?_;cases hF;exact ae () [1,0,2]
     ·clear h18;rintro⟨⟩;refine At.tn ?_;rcases aa hF with⟨h10,hF⟩|⟨h10,hF⟩
      ·refine Wk.eQ rfl h10<|Wk.seq<|Wk.region<|Wo.od (cl rfl) rfl<|Wo.nil<|At.tn<|Wk.ret<|At.tr<|At.br<|At.tr ?_;cases hF;exact ae () []
      ·refine Wk.mY rfl h10<|Wk.skip<|At.tn<|Wk.seq ?_;obtain⟨v3,h19,hF⟩:=J hF;refine ct (fun v3 (_:Unit)=>⟨.normal,[(1,ptr b0 0),(3,an v0),(86,cz v3)],[kJ b0 x1 b1 o1 l1 c0,dI b1 o1 l1,dJ b1 o1 c0 l1]⟩) v3 ?_ ?_
       ·clear hF;revert v3;intro r hF;refine Wk.region<|Wo.od (aF rfl) rfl<|Wo.od (aG rfl rfl (gF _ _ _)) rfl<|Wo.od (aF rfl) rfl ?_;rcases aa hF with⟨h0,hF⟩|⟨h0,hF⟩
        ·refine Wo.og (bM (r:=ptr b0 1) rfl (ef _ _)) (gg rfl rfl (gR h0)) rfl<|Wo.og (aR (k:=0) t32 rfl rfl rfl) (gg rfl rfl (gR h0)) rfl<|Wo.og (aF rfl) (gg rfl rfl (gR h0)) rfl<|Wo.og (aG rfl rfl (gG _ _ _)) (gg rfl rfl (gR h0)) rfl ?_;obtain⟨h20,hF⟩:=bG hF;refine Wo.og (jn yJ rfl rfl h20) (gg rfl rfl (gR h0)) rfl<|Wo.og (iD (r:=ptr b1 (o1+(IntKind.wrap .i64 (v0-1)).toNat*2+0)) rfl rfl (ja iC (i:=0) (by decide))) (gg rfl rfl (gR h0)) rfl ?_
         obtain⟨⟨x5,x6⟩,h11,hF⟩:=J hF;refine Wo.og (kA (k:=1) t3 rfl rfl (ee h11) rfl rfl) (gg rfl rfl (gR h0)) rfl<|Wo.og (aF rfl) (gg rfl rfl (gR h0)) rfl<|Wo.og (aG rfl rfl (gF _ _ _)) (gg rfl rfl (gR h0)) rfl<|Wo.og (aF rfl) (gg rfl rfl (gR h0)) rfl ?_;rcases aa hF with⟨h1,hF⟩|⟨h1,hF⟩
         ·refine Wo.s (gg rfl rfl (dK h1)) rfl<|Wo.s (gg rfl rfl (dK h1)) rfl<|Wo.s (gg rfl rfl (dK h1)) rfl<|Wo.s (gg rfl rfl (dK h1)) rfl<|Wo.s (gg rfl rfl (dK h1)) rfl<|Wo.s (gg rfl rfl (dK h1)) rfl<|Wo.s (gg rfl rfl (dK h1)) rfl<|Wo.s (gg rfl rfl (dK h1)) rfl<|Wo.s (gg rfl rfl (dK h1)) rfl<|Wo.s (gg rfl rfl (dK h1)) rfl ?_;refine Wo.s (gu rfl rfl) rfl<|Wo.s (gu rfl rfl) rfl<|Wo.s (gu rfl rfl) rfl<|Wo.s (gu rfl rfl) rfl<|Wo.s (gu rfl rfl) rfl<|Wo.s (gu rfl rfl) rfl<|Wo.s (gu rfl rfl) rfl<|Wo.s (gu rfl rfl) rfl<|Wo.s (gu rfl rfl) rfl<|Wo.s (gg rfl rfl (dK h1)) rfl ?_;refine Wo.og (jk rfl h1 rfl) (gg rfl rfl (gR h0)) rfl<|Wo.od (jk rfl h0 rfl) rfl<|Wo.nil ?_;cases hF;exact ae () [0,1,2]
         ·refine Wo.og (bM (r:=ptr b0 1) rfl (ef _ _)) (gg rfl rfl (dm h1)) rfl<|Wo.og (aR (k:=0) t32 rfl rfl rfl) (gg rfl rfl (dm h1)) rfl<|Wo.og (aF rfl) (gg rfl rfl (dm h1)) rfl<|Wo.og (aG rfl rfl (gG _ _ _)) (gg rfl rfl (dm h1)) rfl ?_;obtain⟨h21,hF⟩:=bG hF;refine Wo.og (jn yJ rfl rfl h21) (gg rfl rfl (dm h1)) rfl<|Wo.og (iD (r:=ptr b1 (o1+(IntKind.wrap .i64 (v0-1)).toNat*2+0)) rfl rfl (ja iC (i:=0) (by decide))) (gg rfl rfl (dm h1)) rfl<|Wo.og (kA (k:=1) t3 rfl rfl (ee h11) rfl rfl) (gg rfl rfl (dm h1)) rfl<|Wo.og (aF rfl) (gg rfl rfl (dm h1)) rfl<|Wo.og (aG rfl rfl (oI _ _ _)) (gg rfl rfl (dm h1)) rfl<|Wo.og (aF rfl) (gg rfl rfl (dm h1)) rfl ?_
          rcases aa hF with⟨h2,hF⟩|⟨h2,hF⟩
          ·refine Wo.og (bM (r:=ptr b0 1) rfl (ef _ _)) (gg rfl rfl (gR h2)) rfl<|Wo.og (aR (k:=0) t32 rfl rfl rfl) (gg rfl rfl (gR h2)) rfl<|Wo.og (aF rfl) (gg rfl rfl (gR h2)) rfl<|Wo.og (aG rfl rfl (gG _ _ _)) (gg rfl rfl (gR h2)) rfl ?_;obtain⟨h22,hF⟩:=bG hF;refine Wo.og (jn yJ rfl rfl h22) (gg rfl rfl (gR h2)) rfl<|Wo.og (iD (r:=ptr b1 (o1+(IntKind.wrap .i64 (v0-1)).toNat*2+1)) rfl rfl (ja iC (i:=1) (by decide))) (gg rfl rfl (gR h2)) rfl<|Wo.og (kA (k:=1) t3 rfl rfl (ee h11) rfl rfl) (gg rfl rfl (gR h2)) rfl<|Wo.og (aF rfl) (gg rfl rfl (gR h2)) rfl<|Wo.og (aG rfl rfl (jC _ _ _)) (gg rfl rfl (gR h2)) rfl<|Wo.og (jk rfl h2 rfl) (gg rfl rfl (dm h1)) rfl<|Wo.og (jV rfl h1 rfl) (gg rfl rfl (gR h0)) rfl<|Wo.od (jk rfl h0 rfl) rfl<|Wo.nil ?_
           cases hF;exact ae () [0,1,2]
          ·refine Wo.s (gg rfl rfl (o7 h2)) rfl<|Wo.s (gg rfl rfl (o7 h2)) rfl<|Wo.s (gg rfl rfl (o7 h2)) rfl<|Wo.s (gg rfl rfl (o7 h2)) rfl<|Wo.s (gg rfl rfl (o7 h2)) rfl<|Wo.s (gg rfl rfl (o7 h2)) rfl<|Wo.s (gg rfl rfl (o7 h2)) rfl<|Wo.s (gg rfl rfl (o7 h2)) rfl<|Wo.s (gg rfl rfl (o7 h2)) rfl<|Wo.og (jV rfl h2 rfl) (gg rfl rfl (dm h1)) rfl ?_;refine Wo.og (jV rfl h1 rfl) (gg rfl rfl (gR h0)) rfl<|Wo.od (jk rfl h0 rfl) rfl<|Wo.nil ?_;cases hF;exact ae () [0,1,2]
        ·refine Wo.s (gg rfl rfl (o7 h0)) rfl<|Wo.s (gg rfl rfl (o7 h0)) rfl<|Wo.s (gg rfl rfl (o7 h0)) rfl<|Wo.s (gg rfl rfl (o7 h0)) rfl<|Wo.s (gg rfl rfl (o7 h0)) rfl<|Wo.s (gg rfl rfl (o7 h0)) rfl<|Wo.s (gg rfl rfl (o7 h0)) rfl<|Wo.s (gg rfl rfl (o7 h0)) rfl<|Wo.s (gg rfl rfl (o7 h0)) rfl<|Wo.s (gg rfl rfl (o7 h0)) rfl ?_;refine Wo.s (gu rfl rfl) rfl<|Wo.s (gu rfl rfl) rfl<|Wo.s (gu rfl rfl) rfl<|Wo.s (gu rfl rfl) rfl<|Wo.s (gu rfl rfl) rfl<|Wo.s (gu rfl rfl) rfl<|Wo.s (gu rfl rfl) rfl<|Wo.s (gu rfl rfl) rfl<|Wo.s (gu rfl rfl) rfl<|Wo.s (gu rfl rfl) rfl ?_;refine Wo.s (gu rfl rfl) rfl<|Wo.s (gu rfl rfl) rfl<|Wo.s (gu rfl rfl) rfl<|Wo.s (gu rfl rfl) rfl<|Wo.s (gu rfl rfl) rfl<|Wo.s (gu rfl rfl) rfl<|Wo.s (gu rfl rfl) rfl<|Wo.s (gu rfl rfl) rfl<|Wo.s (gu rfl rfl) rfl<|Wo.s (gu rfl rfl) rfl ?_;refine Wo.s (gg rfl rfl (o7 h0)) rfl<|Wo.od (jV rfl h0 rfl) rfl<|Wo.nil ?_;cases hF;exact ae () [0,1,2]
       ·clear h19;rintro⟨⟩;refine At.tn ?_;rcases aa hF with⟨h12,hF⟩|⟨h12,hF⟩
        ·refine Wk.eQ rfl h12<|Wk.seq<|Wk.region<|Wo.od (cl rfl) rfl<|Wo.nil<|At.tn<|Wk.ret<|At.br<|At.tr ?_;cases hF;exact ae () []
        ·refine Wk.mY rfl h12<|Wk.skip<|At.bn<|At.tn<|Wk.region<|Wo.od (aF rfl) rfl<|Wo.od (aG rfl rfl (eB _ _ _)) rfl<|Wo.od (cl rfl) rfl<|Wo.nil ?_;cases hF;exact ae () [0,2]
    ·refine Wk.mY rfl h9<|Wk.exit<|At.te ?_;cases hF;exact ae () []
   ·clear h8;rcases r0 with _|_
    ·rintro⟨⟩;refine At.br<|At.tr ?_;cases hF;exact ar () []
    ·rintro⟨⟩;refine At.be<|At.tn<|Wk.seq<|Wk.region<|Wo.od (cl rfl) rfl<|Wo.nil<|At.tn<|Wk.ret ?_;cases hF;exact ar () []
theorem J5 (n x1 l2 x6 a3 c4 r) (hF:Gh n x1 l2 x6=some r) (m) (h5:iW m a3 c4 l2):
  ax ai 114 [iZ x1 a3 l2 c4,aZ x6] m (fun v m'=>∃x:Unit,v = .int .i64 r∧Hp m m' []):=by
 unfold Gh at hF;refine cw Tryz.func114 ((Hp.start m).i h5) ?_;refine wz ?_;refine wb fun b7=>?_;refine aq ?_;obtain⟨r9,h8,hF⟩:=J hF;refine wc gn (fun m hm=>B7 n x1 l2 a3 c4 _ h8 m (hm.q 1)) ?_;rintro⟨⟩;refine aq ?_;rcases aa hF with⟨h10,hF⟩|⟨h10,hF⟩
 ·refine aq ?_;obtain rfl:=Option.some.inj hF;exact ar () []
 ·refine wz ?_;refine Wk.seq<|Wk.seq ?_;obtain⟨v18,h20,hF⟩:=J hF;refine ct (fun v18 (_:Unit)=>⟨.normal,[(21,cz v18)],[]⟩) v18 ?_ ?_
  ·clear hF;revert v18;intro r hF;refine wz ?_;rcases aa hF with⟨h19,hF⟩|⟨h19,hF⟩
   ·refine wz ?_;refine Wo.og (fq rfl (oR (by rw[u3]; rfl) Ij rfl)) (gg rfl rfl (gR h19)) rfl<|Wo.og (aG rfl rfl (ca _ _ (nn _))) (gg rfl rfl (gR h19)) rfl ?_
    refine wz ?_;cases hF;exact ae () []
   ·refine wz ?_;cases hF;exact ae () []
  ·clear h20;rintro⟨⟩;refine At.tn ?_;rcases aa hF with⟨h22,hF⟩|⟨h22,hF⟩
   ·refine aq ?_;cases hF;exact ar () []
   ·refine dC ?_;cases hF;exact ar () []
theorem Bj (n x1 l2 x6 a3 c4 r) (hF:LP n x1 l2 x6=some r) (m) (h5:iW m a3 c4 l2):
  ax ai 57 [iZ x1 a3 l2 c4,aZ x6] m (fun v m'=>∃x:Unit,v = .int .i64 r∧Hp m m' []):=by
 unfold LP at hF;refine cw Tryz.func57 ((Hp.start m).i h5) ?_;refine wz ?_;refine wb fun b7=>?_;refine aq ?_;obtain⟨r9,h8,hF⟩:=J hF;refine wc gn (fun m hm=>B7 n x1 l2 a3 c4 _ h8 m (hm.q 1)) ?_;rintro⟨⟩;refine aq ?_;rcases aa hF with⟨h10,hF⟩|⟨h10,hF⟩
 ·refine aq ?_;obtain rfl:=Option.some.inj hF;exact ar () []
 ·refine aq ?_;rcases aa hF with⟨h11,hF⟩|⟨h11,hF⟩
  ·refine aq ?_;cases hF;exact ar () []
  ·refine aq ?_;obtain⟨r13,h12,hF⟩:=J hF;refine wc gn (fun m hm=>J5 n x1 l2 x6 a3 c4 _ h12 m (hm.q 1)) ?_;rintro⟨⟩;refine aq ?_;obtain rfl:=Option.some.inj hF;exact ar () []
theorem H5 (n x1 l2 x6 x7 a3 c4 r) (hF:Pk n x1 l2 x6 x7=some r) (m) (h5:iW m a3 c4 l2):
  ax ai 63 [iZ x1 a3 l2 c4,aZ x6,an x7] m (fun v m'=>∃x:Unit,v = .bool r∧Hp m m' []):=by
 unfold Pk at hF;refine cw Tryz.func63 ((Hp.start m).i h5) ?_;refine wz ?_;refine wb fun b8=>?_;refine aq ?_;rcases aa hF with⟨h9,hF⟩|⟨h9,hF⟩
 ·refine wz ?_;rcases aa hF with⟨h10,hF⟩|⟨h10,hF⟩
  ·refine wz ?_;obtain⟨h11,hF⟩:=bG hF;refine Wo.bI (k:=1) rfl (aM h11) ?_;rintro b12 o13 rfl;refine wz ?_;obtain⟨⟨x14,x15⟩,h16,hF⟩:=J hF;refine wz ?_;obtain⟨r18,h17,hF⟩:=J hF;refine wc (gg rfl rfl (gR h10)) (fun m hm=>lE n x6 x14  _ h17 m) ?_;rintro⟨⟩;refine wz ?_;rcases aa hF with⟨h19,hF⟩|⟨h19,hF⟩
   ·refine wz ?_;obtain⟨h20,hF⟩:=bG hF;refine wz ?_;obtain⟨r22,h21,hF⟩:=J hF;refine wc (gg rfl rfl (gR h19)) (fun m hm=>lE n x6 x15  _ h21 m) ?_;rintro⟨⟩;refine aq ?_;obtain rfl:=Option.some.inj hF;exact ar () []
   ·refine aq ?_;cases hF;exact ar () []
  ·refine aq ?_;cases hF;exact ar () []
 ·refine aq ?_;cases hF;exact ar () []
theorem IT (n x1 l1 l2 x3 a0 c0 a1 c1 r) (hF:M1 n x1 l1 l2 x3=some r) (m) (h10:iW m a0 c0 l1) (h11:dW m a1 c1 l2):
  ax ai 84 [iZ x1 a0 l1 c0,bK a1 l2 c1,an x3] m (fun v m'=>∃x:Unit,v = .int .u64 ((r:Nat):Int)∧Hp m m' []):=by
 unfold M1 at hF;refine cw Tryz.func84 (((Hp.start m).i h10).i h11) ?_;refine Wk.seq<|Wk.region<|wb fun b0=>?_;refine Wo.od (cl rfl) rfl<|Wo.nil<|At.tn<|Wk.seq<|Wk.region<|Wo.od (aF rfl) rfl ?_;obtain⟨r0,h12,hF⟩:=J hF;refine wc gn (fun m hm=>qI n x3  _ h12 m) ?_;rintro⟨⟩;refine Wo.od (cl rfl) rfl<|Wo.nil<|At.tn<|Wk.seq<|Wk.seq<|Wk.region<|Wo.od (cl rfl) rfl<|Wo.nil<|At.tn<|Wk.block ?_;obtain⟨v5,h1,hF⟩:=J hF;refine ct (fun v5 (_:Unit)=>⟨(.exit 0),[(7,aZ v5)],[]⟩) v5 ?_ ?_
 ·refine lo h1 () [1,0,2] (fun(v7,v0) _=>⟨.normal,[(1,bK a1 l2 c1),(3,ptr b0 0),(7,aZ v7),(8,an v0)],[dZ a1 c1 l2,fk b0 x1 a0 l1 c0,fm a0 c0 l1]⟩) ?_;clear hF h1;rintro⟨v7,v0⟩ ⟨⟩ r hF;unfold yE at hF;refine Wk.seq<|Wk.seq<|Wk.region<|Wo.od (aF rfl) rfl<|Wo.od (aG rfl rfl (dH _ _ _)) rfl<|Wo.nil<|At.tn ?_;rcases aa hF with⟨h2,hF⟩|⟨h2,hF⟩
  ·refine Wk.eQ rfl h2<|Wk.skip<|At.tn<|Wk.seq<|Wk.block<|Wk.seq<|Wk.region<|Wo.od (cl rfl) rfl<|Wo.nil<|At.tn<|Wk.block ?_;obtain⟨v6,h3,hF⟩:=J hF;refine ct (fun v6 (_:Unit)=>⟨(.exit 2),[(1,bK a1 l2 c1),(3,ptr b0 0),(7,aZ v6),(8,an v0)],[dZ a1 c1 l2,fk b0 x1 a0 l1 c0,fm a0 c0 l1]⟩) v6 ?_ ?_
   ·refine lo h3 () [0,1,2] (fun(v1,v2) _=>⟨.normal,[(1,bK a1 l2 c1),(3,ptr b0 0),(7,aZ v1),(8,an v0),(9,an v2)],[dZ a1 c1 l2,fk b0 x1 a0 l1 c0,fm a0 c0 l1]⟩) ?_;clear hF h3;rintro⟨v1,v2⟩ ⟨⟩ r hF;unfold uz at hF;refine Wk.seq<|Wk.seq<|Wk.region<|Wo.od (aF rfl) rfl<|Wo.od (aF rfl) rfl<|Wo.od (Ee (k:=0) HU rfl rfl (.inl rfl)) rfl<|Wo.od (aG rfl rfl (dH _ _ _)) rfl<|Wo.nil<|At.tn ?_;rcases aa hF with⟨h4,hF⟩|⟨h4,hF⟩
    ·refine Wk.eQ rfl h4<|Wk.skip<|At.tn<|Wk.seq ?_;obtain⟨v3,h13,hF⟩:=J hF;refine ct (fun v3 (_:Unit)=>⟨.normal,[(1,bK a1 l2 c1),(3,ptr b0 0),(7,aZ v3),(8,an v0),(9,an v2)],[dZ a1 c1 l2,fk b0 x1 a0 l1 c0,fm a0 c0 l1]⟩) v3 ?_ ?_
     ·clear hF;revert v3;intro r hF;refine Wk.block<|Wk.seq<|Wk.draw (by kernel_rfl)<|Wo.od (bM (r:=ptr b0 1) rfl (ef _ _)) rfl<|Wo.od (aR (k:=1) t32 rfl rfl rfl) rfl<|Wo.od (aF rfl) rfl<|Wo.od (aF rfl) rfl ?_
      obtain⟨h6,hF⟩:=bG hF;refine Wo.bI (k:=0) rfl (aM h6) ?_;rintro b2 o2 rfl;refine Wo.og (jn lh rfl rfl h6) gn rfl ?_;obtain⟨x6,h7,hF⟩:=J hF;refine Wo.od (kA (k:=0) t3 rfl rfl (ee h7) rfl rfl) rfl ?_;obtain⟨h8,hF⟩:=bG hF;refine Wo.bI (k:=3) rfl (aM h8) ?_;rintro b1 o1 rfl;refine Wo.og (jn yJ rfl rfl h8) gn rfl<|Wo.od (iD (r:=ptr b1 (o1+x6.toNat*2+0)) rfl rfl (ja iC (i:=0) (by decide))) rfl ?_
      obtain⟨⟨x4,x5⟩,h9,hF⟩:=J hF;refine Wo.od (kA (k:=0) t3 rfl rfl (ee h9) rfl rfl) rfl<|Wo.od (bM (r:=ptr b0 1) rfl (ef _ _)) rfl<|Wo.od (aR (k:=3) t32 rfl rfl rfl) rfl<|Wo.od (aF rfl) rfl<|Wo.od (aF rfl) rfl ?_;obtain⟨h14,hF⟩:=bG hF;refine Wo.og (jn lh rfl rfl h14) gn rfl<|Wo.od (kA (k:=1) t3 rfl rfl (ee h7) rfl rfl) rfl ?_;obtain⟨h15,hF⟩:=bG hF;refine Wo.og (jn yJ rfl rfl h15) gn rfl<|Wo.od (iD (r:=ptr b1 (o1+x6.toNat*2+1)) rfl rfl (ja iC (i:=1) (by decide))) rfl<|Wo.od (kA (k:=0) t3 rfl rfl (ee h9) rfl rfl) rfl<|Wo.od (cl rfl) rfl<|Wo.od (cl rfl) rfl<|Wo.nil<|At.tn<|Wk.seq ?_
      obtain⟨v4,h16,hF⟩:=J hF;refine ct (fun v4 (_:Unit)=>⟨.normal,[(1,mF b2 o2 l2 c1),(3,ptr b0 0),(7,aZ v1),(8,an v0),(9,an v2),(10,an x4),(11,an x5),(49,cz v4)],[Ii b2 o2 l2,FN b2 o2 c1 l2,kJ b0 x1 b1 o1 l1 c0,dI b1 o1 l1,dJ b1 o1 c0 l1]⟩) v4 ?_ ?_
      ·clear hF;revert v4;intro r hF;refine Wk.region<|Wo.od (aF rfl) rfl<|Wo.od (aF rfl) rfl ?_;obtain⟨r1,h17,hF⟩:=J hF;refine wc gn (fun m hm=>lE n v1 x4  _ h17 m) ?_;rintro⟨⟩;refine Wo.od (aF rfl) rfl ?_;rcases aa hF with⟨h0,hF⟩|⟨h0,hF⟩
       ·refine Wo.s (gg rfl rfl (dK h0)) rfl<|Wo.s (gg rfl rfl (dK h0)) rfl<|Wo.s (gg rfl rfl (dK h0)) rfl<|Wo.od (jk rfl h0 rfl) rfl<|Wo.nil ?_;cases hF;exact ae () [1,2,3,0,4]
       ·refine Wo.og (aF rfl) (gg rfl rfl (dm h0)) rfl<|Wo.og (aF rfl) (gg rfl rfl (dm h0)) rfl ?_;obtain⟨r2,h18,hF⟩:=J hF;refine wc (gg rfl rfl (dm h0)) (fun m hm=>lE n v1 x5  _ h18 m) ?_;rintro⟨⟩;refine Wo.od (jV rfl h0 rfl) rfl<|Wo.nil ?_;obtain rfl:=Option.some.inj hF;exact ae () [1,2,3,0,4]
      ·clear h16;rintro⟨⟩;refine At.tn ?_;rcases aa hF with⟨h5,hF⟩|⟨h5,hF⟩
       ·refine Wk.eQ rfl h5<|Wk.region<|Wo.od (aF rfl) rfl<|Wo.od (aF rfl) rfl ?_;obtain⟨r3,h19,hF⟩:=J hF;refine wc gn (fun m hm=>qI n x4  _ h19 m) ?_;rintro⟨⟩;refine Wo.od (aG rfl rfl (vd rfl _ _)) rfl<|Wo.od (aF rfl) rfl ?_;obtain⟨r4,h20,hF⟩:=J hF;refine wc gn (fun m hm=>qI n x5  _ h20 m) ?_;rintro⟨⟩;obtain⟨y2,h21,hF⟩:=J hF;refine Wo.od (aG rfl rfl ((vd rfl _ _).trans (cN h21))) rfl<|Wo.od (cl rfl) rfl<|Wo.nil<|At.bn ?_;obtain rfl:=Option.some.inj hF;exact ae () [1,2,4]
       ·refine Wk.mY rfl h5<|Wk.skip<|At.bn ?_;obtain rfl:=Option.some.inj hF;exact ae () [1,2,4]
     ·clear h13;rintro⟨⟩;refine At.tn<|Wk.region<|Wo.od (aF rfl) rfl<|Wo.od (aG rfl rfl (eB _ _ _)) rfl<|Wo.od (cl rfl) rfl<|Wo.nil ?_;cases hF;exact ae () [0,1,2]
    ·refine Wk.mY rfl h4<|Wk.exit<|At.te ?_;cases hF;exact ae () [0,1,2]
   ·clear h3;rintro⟨⟩;refine At.be<|At.bn<|At.tn<|Wk.region<|Wo.od (aF rfl) rfl<|Wo.od (aG rfl rfl (eB _ _ _)) rfl<|Wo.od (cl rfl) rfl<|Wo.nil ?_;cases hF;exact ae () [0,1,2]
  ·refine Wk.mY rfl h2<|Wk.exit<|At.te ?_;cases hF;exact ae () []
 ·clear h1;rintro⟨⟩;refine At.be<|At.tn<|Wk.seq<|Wk.region<|Wo.od (aF rfl) rfl<|Wo.od (cl rfl) rfl<|Wo.nil<|At.tn<|Wk.ret ?_;obtain rfl:=Option.some.inj hF;exact ar () []
theorem Jf (n): ∀k:Nat,∀(x1:Int) (l2:List (Int × Int)) (x3:Nat) (l1:List (Int)) (a0:Option Addr) (c0:Nat) (a1:Option Addr) (c1:Nat) (r:List (List Int)) (hF:qE n k x1 l2 x3 l1=some r) (m:AMem) (h1:iW m a0 c0 l2) (h2:dW m a1 c1 l1),ax ai 115 [iZ x1 a0 l2 c0,aZ x3,bK a1 l1 c1] m (fun v m'=>∃x:Option Addr × Nat × (Nat→Prop),v = .slice x.1 x.2.1 x.2.1∧Hp m m' [.gen (tY x.1 x.2.1 x.2.2 1 (eI .i64) r)]):=by
 intro k
 induction k with
 | zero=>intro x1 l2 x3 l1 a0 c0 a1 c1 r hF m h1 h2; cases hF
 | succ k ih =>
  intro x1 l2 x3 l1 a0 c0 a1 c1 r hF m h1 h2;replace hF:kQ n (qE n k) x1 l2 x3 l1=some r:=hF;unfold kQ at hF;refine cw Tryz.func115 (((Hp.start m).i h1).i h2) ?_;refine wz ?_;refine wb fun b0=>?_;refine aq ?_;obtain⟨r5,h6,hF⟩:=J hF;refine wc gn (fun m hm=>we n x3  _ h6 m) ?_;rintro⟨⟩;refine wz ?_;rcases aa hF with⟨h7,hF⟩|⟨h7,hF⟩
  ·refine wz ?_;refine Wo.x (kH (es:=([]:List (Int)).map (eI .i64)) lh rfl (ia lh z3 rfl rfl) rfl rfl) gn rfl fun b3=>?_;refine wz ?_;obtain⟨h8,hF⟩:=au hF;refine Wo.cZ (ak.close (k:=0) rfl)<|Wo.x (lO (k:=0) (k2:=2) (xs:=([]:List (Int))) (ys:=(l1:List (Int))) (AS .i64) lh ⟨_,HU⟩ rfl rfl rfl (.rd _ _ _ _ _) h8) gn rfl fun a5=>?_;refine Wo.x (kH (es:=[[.slice a5 ((([]:List (Int))++l1).length) ((([]:List (Int))++l1).length)]]) yb rfl (ia yb Mk rfl rfl) rfl rfl) gn rfl fun b2=>?_;refine Wo.cZ (ak.QL (k:=0) (l:=(([]:List (Int))++l1)) (f:=eI .i64) (w:=1) rfl) ?_;refine aq ?_;cases hF;exact ar ((some ⟨b2,0,none⟩),1,(fun b'=>ek a5=some b')) [0]
  ·refine aq ?_;refine Wk.seq ?_;obtain⟨v1,h9,hF⟩:=J hF;refine ct (fun v1 (_:Unit)=>⟨.normal,[(1,aZ x3),(2,bK a1 l1 c1),(3,ptr b0 0),(7,an v1)],[dZ a1 c1 l1,fk b0 x1 a0 l2 c0,fm a0 c0 l2]⟩) v1 ?_ ?_
   ·clear hF;revert v1;intro r hF;refine wz ?_;rcases aa hF with⟨h10,hF⟩|⟨h10,hF⟩
    ·refine wz ?_;obtain⟨h11,hF⟩:=bG hF;refine Wo.bI (k:=1) rfl (aM h11) ?_;rintro b4 o2 rfl;refine wz ?_;obtain⟨x6,h24,hF⟩:=J hF;refine wz ?_;cases hF;exact ae () [2,1,3]
    ·refine wz ?_;cases hF;exact ae () [1,0,2]
   ·clear h9;rintro⟨⟩;refine dC ?_;refine Wk.block ?_;obtain⟨l3,h3,hF⟩:=J hF;refine ct (fun l3 ((a2,r0):Option Addr × (Nat→Prop))=>⟨(.exit 0),[(8,iq a2 l3)],[EX a2 l3 r0]⟩) l3 ?_ ?_
    ·refine Wk.mH (fs':=[(1,aZ x3),(2,bK a1 l1 c1),(3,ptr b0 0),(8,.slice none ([]:List (List (Int))).length ([]:List (List (Int))).length),(9,an v1)]) (ps':=[dZ a1 c1 l1,fk b0 x1 a0 l2 c0,fm a0 c0 l2,.gen (tY none ([]:List (List (Int))).length (fun _=>False) 1 (eI .i64) ([]:List (List (Int))))]) (sc rfl (sc rfl (sc rfl (sc rfl (sc rfl sn))))) (ak.trans (ak.QE (f:=eI .i64) (w:=1)) (ak.aP [1,2,3,0] rfl rfl))<|Wk.loop (σ:=List (List (Int)) × Int) (ρ:=List (List (Int))) (γ:=Option Addr × (Nat→Prop)) (δ:=fun _=>Option Addr × (Nat→Prop)) _ (fun(s:List (List (Int)) × Int) (g:Option Addr × (Nat→Prop))=>match s,g with | (l4,v0),(a3,r1)=>⟨.normal,[(1,aZ x3),(2,bK a1 l1 c1),(3,ptr b0 0),(8,iq a3 l4),(9,an v0)],[dZ a1 c1 l1,fk b0 x1 a0 l2 c0,fm a0 c0 l2,EX a3 l4 r1]⟩) (fun(r:List (List (Int))) (g:Option Addr × (Nat→Prop))=>match r,g with|l3,(a2,r0)=>⟨(.exit 0),[(8,iq a2 l3)],[EX a2 l3 r0]⟩) ?_ (fun _ _=>rfl) (fun r d=>by intro e; cases e) _ _ _ h3 (none,(fun _=>False))
     clear hF h3;rintro⟨l4,v0⟩ ⟨a3,r1⟩ r hF;unfold pQ at hF;refine wz ?_;rcases aa hF with⟨h12,hF⟩|⟨h12,hF⟩
     ·refine wz ?_;refine Wk.seq ?_;obtain⟨l5,h13,hF⟩:=J hF;refine ct (fun l5 ((a4,r2):Option Addr × (Nat→Prop))=>⟨.normal,[(1,aZ x3),(2,bK a1 l1 c1),(3,ptr b0 0),(8,iq a4 l5),(9,an v0)],[dZ a1 c1 l1,fk b0 x1 a0 l2 c0,fm a0 c0 l2,EX a4 l5 r2]⟩) l5 ?_ ?_
      ·clear hF;revert l5;intro r hF;refine Wk.block<|Wk.seq<|Wk.seq ?_;obtain⟨v2,h14,hF⟩:=J hF;refine ct (fun v2 (_:Unit)=>⟨.normal,[(1,aZ x3),(2,bK a1 l1 c1),(3,ptr b0 0),(8,iq a3 l4),(9,an v0),(60,cz v2)],[dZ a1 c1 l1,fk b0 x1 a0 l2 c0,fm a0 c0 l2,EX a3 l4 r1]⟩) v2 ?_ ?_
       ·clear hF;revert v2;intro r hF;refine Wk.bV (prs:=[(14,16),(14,20)]) (by kernel_rfl)<|Wn.od (aR (k:=1) t34 rfl rfl rfl) rfl<|Wn.od (aF rfl) rfl<|Wn.od (aF rfl) rfl ?_
        obtain⟨r6,h15,hF⟩:=J hF;refine nc gn (fun m hm=>H5 n x1 l2 x3 v0 a0 c0 _ h15 m (hm.q 2)) ?_;rintro⟨⟩;refine Wn.od (BL rfl rfl) rfl<|Wn.od (aF rfl) rfl ?_;rcases aa hF with⟨h0,hF⟩|⟨h0,hF⟩
        ·refine Wn.s (gg rfl rfl (dK h0)) rfl<|Wn.s (gg rfl rfl (dK h0)) rfl<|Wn.s (gg rfl rfl (dK h0)) rfl<|Wn.s (gg rfl rfl (dK h0)) rfl<|Wn.s (gg rfl rfl (dK h0)) rfl<|Wn.s (gg rfl rfl (dK h0)) rfl<|Wn.s (gg rfl rfl (dK h0)) rfl<|Wn.s (gg rfl rfl (dK h0)) rfl<|Wn.s (gg rfl rfl (dK h0)) rfl<|Wn.s (gg rfl rfl (dK h0)) rfl ?_;refine Wn.s (gg rfl rfl (dK h0)) rfl<|Wn.s (gg rfl rfl (dK h0)) rfl<|Wn.s (gg rfl rfl (dK h0)) rfl<|Wn.s (gg rfl rfl (dK h0)) rfl<|Wn.s (gg rfl rfl (dK h0)) rfl<|Wn.s (gg rfl rfl (dK h0)) rfl<|Wn.od (jk rfl h0 rfl) rfl<|Wn.nil (fun m hm=>du.all rfl) ?_;cases hF;exact ae () [0,1,2,3]
        ·refine Wn.og (aR (k:=1) t34 rfl rfl rfl) (gg rfl rfl (dm h0)) rfl<|Wn.og (aF rfl) (gg rfl rfl (dm h0)) rfl<|Wn.og (bM (r:=ptr b0 1) rfl (ef _ _)) (gg rfl rfl (dm h0)) rfl<|Wn.og (aR (k:=1) t32 rfl rfl rfl) (gg rfl rfl (dm h0)) rfl<|Wn.og (aF rfl) (gg rfl rfl (dm h0)) rfl ?_;obtain⟨h4,hF⟩:=bG hF;refine Wn.bI (k:=2) rfl (aM h4) ?_;rintro b1 o1 rfl;refine Wn.og (jn yJ rfl rfl h4) (gg rfl rfl (dm h0)) rfl<|Wn.og (iD (r:=ptr b1 (o1+v0.toNat*2+0)) rfl rfl (ja iC (i:=0) (by decide))) (gg rfl rfl (dm h0)) rfl ?_
         obtain⟨⟨x4,x5⟩,h5,hF⟩:=J hF;refine Wn.og (kA (k:=0) t3 rfl rfl (ee h5) rfl rfl) (gg rfl rfl (dm h0)) rfl ?_;obtain⟨r3,h16,hF⟩:=J hF;refine nc (gg rfl rfl (dm h0)) (fun m hm=>IT n x1 l2 l1 x4 (some ⟨b1,o1,none⟩) c0 a1 c1 _ h16 m (hm.q 3) (hm.q 1)) ?_;rintro⟨⟩;refine Wn.og (bM (r:=ptr b0 1) rfl (ef _ _)) (gg rfl rfl (dm h0)) rfl<|Wn.og (aR (k:=2) t32 rfl rfl rfl) (gg rfl rfl (dm h0)) rfl<|Wn.og (aF rfl) (gg rfl rfl (dm h0)) rfl ?_;obtain⟨h17,hF⟩:=bG hF;refine Wn.og (jn yJ rfl rfl h17) (gg rfl rfl (dm h0)) rfl<|Wn.og (iD (r:=ptr b1 (o1+v0.toNat*2+1)) rfl rfl (ja iC (i:=1) (by decide))) (gg rfl rfl (dm h0)) rfl<|Wn.og (kA (k:=0) t3 rfl rfl (ee h5) rfl rfl) (gg rfl rfl (dm h0)) rfl ?_
         obtain⟨r7,h18,hF⟩:=J hF;refine nc (gg rfl rfl (dm h0)) (fun m hm=>lE n r3 x5  _ h18 m) ?_;rintro⟨⟩;refine Wn.od (jV rfl h0 rfl) rfl<|Wn.nil (fun m hm=>du.all rfl) ?_;obtain rfl:=Option.some.inj hF;exact ae () [1,2,3,4]
       ·clear h14;rintro⟨⟩;refine At.tn ?_;rcases aa hF with⟨h19,hF⟩|⟨h19,hF⟩
        ·refine wz ?_;obtain rfl:=Option.some.inj hF;exact ae (a3,r1) [0,1,2,3]
        ·refine wz ?_;refine Wk.bV (prs:=[(1,5),(1,8)]) (by kernel_rfl)<|Wn.od (aF rfl) rfl<|Wn.Np rfl (aR (k:=1) t34 rfl rfl rfl) rfl<|Wn.od (aF rfl) rfl<|Wn.x (kH (es:=([]:List (Int)).map (eI .i64)) lh rfl (ia lh z3 rfl rfl) rfl rfl) gn rfl fun b5=>?_
         refine Wn.od (aF rfl) rfl ?_;obtain⟨h20,hF⟩:=au hF;refine Wn.cZ (ak.close (k:=0) rfl)<|Wn.xk (l:=[b0]) (lO (k:=0) (k2:=1) (xs:=([]:List (Int))) (ys:=(l1:List (Int))) (AS .i64) lh ⟨_,HU⟩ rfl rfl rfl (.rd _ _ _ _ _) h20) ⟨⟨_,2,rfl,rfl,fun _=>⟨2,rfl⟩⟩,trivial⟩ gn rfl fun a8=>?_;refine Wn.od (aF rfl) rfl<|Wn.x (kH (es:=([v0]:List (Int)).map (eI .i64)) lh rfl (ia lh z3 rfl rfl) rfl rfl) gn rfl fun b6=>?_;obtain⟨h21,hF⟩:=au hF;refine Wn.xk (l:=[b0]) (lO (k:=1) (k2:=0) (xs:=((([]:List (Int))++l1):List (Int))) (ys:=([v0]:List (Int))) (AS .i64) lh ⟨_,HU⟩ rfl rfl rfl (.arr _ _ _ _ _) h21) ⟨⟨_,3,rfl,rfl,fun _=>⟨3,rfl⟩⟩,trivial⟩ gn rfl fun a6=>?_;obtain⟨l6,h22,hF⟩:=J hF;refine Wn.c (QM rfl rfl (fun m hm=>ih x1 l2 x3 ((([]:List (Int))++l1)++[v0]) a0 c0 a6 (((([]:List (Int))++l1)++[v0]).length) _ h22 m (hm.q 4) (hm.rd (k:=1) rfl (.sl _ _ _ _))) fun _=>k7) gn rfl ?_;rintro⟨a9,n0,r8⟩;refine Wn.vc (k:=0) rfl ?_;rintro rfl;obtain⟨h23,hF⟩:=au hF;refine Wn.x (Ok (k:=5) yb ⟨_,Lz⟩ rfl rfl h23) gn rfl ?_;rintro⟨a7,r4⟩;refine Wn.od (cl rfl) rfl<|Wn.nil (fun m hm=>(du.rk rfl rfl rfl (by simp) (du.rk rfl rfl rfl (by simp) du.nil)))<|At.bn ?_
         cases hF;exact ae (a7,r4) [2,3,4,5]
      ·clear h13;rintro⟨a4,r2⟩;refine aq ?_;cases hF;exact ae (a4,r2) [0,1,2,3]
     ·refine wz ?_;cases hF;exact ae (a3,r1) [3]
    ·clear h3;rintro⟨a2,r0⟩;refine dC ?_;obtain rfl:=Option.some.inj hF;exact ar (a2,l3.length,r0) [0]
theorem JV (n x1 l2 x6 l7 a3 c4 a8 c9 r) (hF:JM n x1 l2 x6 l7=some r) (m) (h5:iW m a3 c4 l2) (h10:dW m a8 c9 l7):
  ax ai 115 [iZ x1 a3 l2 c4,aZ x6,bK a8 l7 c9] m (fun v m'=>∃x:Option Addr × Nat × (Nat→Prop),v = .slice x.1 x.2.1 x.2.1∧Hp m m' [.gen (tY x.1 x.2.1 x.2.2 1 (eI .i64) r)]):=Jf n n x1 l2 x6 l7 a3 c4 a8 c9 r hF m h5 h10
theorem B4 (n x1 l1 x3 a0 c0 r) (hF:Ky n x1 l1 x3=some r) (m) (h0:iW m a0 c0 l1):
  ax ai 58 [iZ x1 a0 l1 c0,aZ x3] m (fun v m'=>∃x:Option Addr × Nat × (Nat→Prop),v = .slice x.1 x.2.1 x.2.1∧Hp m m' [.gen (tY x.1 x.2.1 x.2.2 1 (eI .i64) r)]):=by
 unfold Ky at hF;refine cw Tryz.func58 ((Hp.start m).i h0) ?_;refine wz ?_;refine wb fun b0=>?_;refine aq ?_;obtain⟨l2,h1,hF⟩:=J hF;refine Wo.x (Dx rfl rfl (fun m hm=>JV n x1 l1 x3 [] a0 c0 none 0 _ h1 m (hm.q 1) (Rd.nil _ _)) fun _=>k7) gn rfl ?_;rintro⟨a1,n0,r0⟩;refine Wo.vc (k:=0) rfl ?_;rintro rfl;refine aq ?_;obtain rfl:=Option.some.inj hF;exact ar (a1,l2.length,r0) [0]
theorem wu (n l1 a2 c3 r) (hF:rK n l1=some r) (m) {H:Nat→Prop} (hH:∀b,H b→b<m.next) (h4:dW m a2 c3 l1) (h5:∀b,ek a2=some b→¬H b):
  ax ai 125 [bK a2 l1 c3] m (fun v m'=>∃x:Option Addr × Nat × Nat,v = .slice x.1 x.2.2 x.2.1∧Hp m m' [.rd x.1 x.2.1 1 x.2.2 (r.map (eI .i64)),cM H]):=by
 unfold rK at hF;refine cw Tryz.func125 (Hp.gL (l0:=[]) (Hp.dj m hH) rfl h4 h5) ?_;refine aq ?_;refine Wk.seq<|Wk.block ?_;obtain⟨v41,h74,hF⟩:=J hF;refine ct (fun v41 (_:Unit)=>⟨(.exit 0),[(0,bK a2 l1 c3),(3,an v41)],[dZ a2 c3 l1,cM H]⟩) v41 ?_ ?_
 ·refine lo h74 () [0,1] (fun v7 _=>⟨.normal,[(0,bK a2 l1 c3),(3,an v7)],[dZ a2 c3 l1,cM H]⟩) ?_;clear hF h74;rintro v7 ⟨⟩ r hF;unfold fx at hF;refine Wk.seq<|Wk.seq ?_;obtain⟨v64,h71,hF⟩:=J hF;refine ct (fun v64 (_:Unit)=>⟨.normal,[(0,bK a2 l1 c3),(3,an v7),(15,cz v64)],[dZ a2 c3 l1,cM H]⟩) v64 ?_ ?_
  ·clear hF;revert v64;intro r hF;refine wz ?_;rcases aa hF with⟨h65,hF⟩|⟨h65,hF⟩
   ·refine wz ?_;obtain⟨h66,hF⟩:=bG hF;refine Wo.bI (k:=0) rfl (aM h66) ?_;rintro b67 o68 rfl;refine wz ?_;obtain⟨x69,h70,hF⟩:=J hF;refine wz ?_;cases hF;exact ae () [1,2]
   ·refine wz ?_;cases hF;exact ae () [0,1]
  ·clear h71;rintro⟨⟩;refine At.tn ?_;rcases aa hF with⟨h73,hF⟩|⟨h73,hF⟩
   ·refine aq ?_;cases hF;exact ae () [0,1]
   ·refine wz ?_;cases hF;exact ae () [0,1]
 ·clear h74;rintro⟨⟩;refine aq ?_;obtain⟨h76,hF⟩:=au hF;refine Wo.x (zV (k:=0) (lo:=0) (hi:=v41) lh rfl rfl rfl rfl h76 (.inl ⟨rfl,rfl⟩) (.inr ⟨_,rfl⟩)) gn rfl ?_;rintro⟨a77,c78⟩;refine aq ?_;cases hF;exact ar (a77,c78,(((l1.drop (0:Int).toNat).take ((v41:Int).toNat-(0:Int).toNat)).length)) [0,2]
theorem jQ (n x1 l2 a3 c4 r) (hF:om n x1 l2=some r) (m) {H:Nat→Prop} (hH:∀b,H b→b<m.next) (h5:dW m a3 c4 l2) (h6:∀b,ek a3=some b→¬H b):
  ax ai 123 [cz x1,bK a3 l2 c4] m (fun v m'=>∃x:Option Addr × Nat × Nat,v = .agg #[.bool r.1,.slice x.1 x.2.2 x.2.1]∧Hp m m' [.rd x.1 x.2.1 1 x.2.2 (r.2.map (eI .i64)),cM H]):=by
 unfold om at hF;refine cw Tryz.func123 (Hp.gL (l0:=[]) (Hp.dj m hH) rfl h5 h6) ?_;refine wz ?_;refine wa xL fun b7=>?_;refine aq ?_;obtain⟨l9,h8,hF⟩:=J hF;refine wv gn (fun m hm=>wu n l2 a3 c4 _ h8 m hm.aB (hm.q 1) (hm.no 1)) ?_;rintro⟨a10,c11,n12⟩;refine Wo.bJ (k:=0) rfl ?_;rintro rfl;refine aq ?_;rcases aa hF with⟨h13,hF⟩|⟨h13,hF⟩
 ·refine wz ?_;refine Wo.od (fX rfl xL rfl (fY LW rfl rfl rfl)) rfl ?_;refine aq ?_;cases hF;exact ar (a10,c11,l9.length) [0,3]
 ·refine wz ?_;refine Wo.od (fX rfl xL rfl (fY LW rfl rfl rfl)) rfl ?_;refine aq ?_;cases hF;exact ar (a10,c11,l9.length) [0,3]
theorem A9 (n x1 r) (hF:A3 n x1=some r) (m) {H:Nat→Prop} (hH:∀b,H b→b<m.next):
  ax ai 72 [an x1] m (fun v m'=>∃x:Option Addr × Nat × Nat,v = .agg #[.bool r.1,.slice x.1 x.2.2 x.2.1]∧Hp m m' [.rd x.1 x.2.1 1 x.2.2 (r.2.map (eI .i64)),cM H]):=by
 unfold A3 at hF;refine cw Tryz.func72 (Hp.dj m hH) ?_;refine wz ?_;refine wa xL fun b2=>?_;refine dC ?_;refine Wo.od (fq rfl (oR (by rw[u3]; rfl) Fi rfl)) rfl ?_
 refine wz ?_;refine Wk.seq ?_;obtain⟨v4,h6,hF⟩:=J hF;refine ct (fun v4 (_:Unit)=>⟨.normal,[(2,ptr b2 0),(3,.bool (decide (x1<0))),(4,aZ v4)],[eu b2,cM H]⟩) v4 ?_ ?_
 ·clear hF;revert v4;intro r hF;refine wz ?_;rcases aa hF with⟨h5,hF⟩|⟨h5,hF⟩
  ·refine wz ?_;refine Wo.od (BL rfl (H9 rfl _)) rfl ?_;refine wz ?_;cases hF;exact ae () [0,1]
  ·refine wz ?_;cases hF;exact ae () [0,1]
 ·clear h6;rintro⟨⟩;refine aq ?_;refine Wo.od (aG rfl rfl (kZ _ _ (by decide))) rfl<|Wo.od (fq rfl (m8 (by rw[Fi]; rfl) u3)) rfl ?_
  refine wz ?_;refine Wo.od (aG rfl rfl (sr rfl _ _ (by decide))) rfl<|Wo.od (fq rfl (m8 (by rw[Fi]; rfl) u3)) rfl<|Wo.x (kH (es:=([IntKind.wrap .i64 ((v4%4294967296:Nat):Int),IntKind.wrap .i64 ((uw .u64 (v4/4294967296):Nat):Int)]:List (Int)).map (eI .i64)) lh rfl (ia lh z3 rfl rfl) rfl rfl) gn rfl fun b8=>?_
  obtain⟨⟨r10,l11⟩,h9,hF⟩:=J hF;refine Wo.cZ (ak.close (k:=0) rfl)<|Wo.cZ (ak.freeze (k:=0) rfl)<|wv gn (fun m hm=>jQ n (decide (x1<0)) ([IntKind.wrap .i64 ((v4%4294967296:Nat):Int),IntKind.wrap .i64 ((uw .u64 (v4/4294967296):Nat):Int)]) (some ⟨b8,0,none⟩) 2 _ h9 m hm.aB (hm.q 0) (hm.no 0)) ?_;rintro⟨a12,c13,n14⟩;refine Wo.bJ (k:=0) rfl ?_;rintro rfl;refine aq ?_;cases hF;exact ar (a12,c13,l11.length) [0,3]
theorem Dq (n l1 l5 a2 c3 a6 c7 r) (hF:j8 n l1 l5=some r) (m) (h4:dW m a2 c3 l1) (h8:dW m a6 c7 l5):
  ax ai 128 [bK a2 l1 c3,bK a6 l5 c7] m (fun v m'=>∃x:Unit,v = .int .i64 r∧Hp m m' []):=by
 unfold j8 at hF;refine cw Tryz.func128 (((Hp.start m).i h4).i h8) ?_;refine aq ?_;rcases aa hF with⟨h9,hF⟩|⟨h9,hF⟩
 ·refine aq ?_;cases hF;exact ar () []
 ·refine aq ?_;refine Wk.block ?_;obtain⟨r43,h42,hF⟩:=J hF;refine ct (fun(r:(Int) ⊕ (Unit)) (g:Unit)=>match r,g with | .inl v27,_=>⟨.ret,[(4,an v27)],[]⟩ | .inr _,_=>⟨(.exit 0),[],[]⟩) r43 ?_ ?_
  ·refine lo h42 () [1,0] (fun v11 _=>⟨.normal,[(0,bK a2 l1 c3),(1,bK a6 l5 c7),(5,an v11)],[dZ a2 c3 l1,dZ a6 c7 l5]⟩) ?_;clear hF h42;rintro v11 ⟨⟩ r hF;unfold jb at hF;refine wz ?_;rcases aa hF with⟨h28,hF⟩|⟨h28,hF⟩
   ·refine aq ?_;obtain⟨h29,hF⟩:=bG hF;refine Wo.bI (k:=0) rfl (aM h29) ?_;rintro b30 o31 rfl;refine wz ?_;obtain⟨x32,h33,hF⟩:=J hF;refine wz ?_;obtain⟨h34,hF⟩:=bG hF;refine Wo.bI (k:=2) rfl (aM h34) ?_;rintro b35 o36 rfl;refine wz ?_;obtain⟨x37,h38,hF⟩:=J hF;refine wz ?_;rcases aa hF with⟨h39,hF⟩|⟨h39,hF⟩
    ·refine wz ?_;obtain⟨h40,hF⟩:=bG hF;refine wz ?_;obtain⟨h41,hF⟩:=bG hF;refine aq ?_;cases hF;exact ae () []
    ·refine aq ?_;cases hF;exact ae () [2,3]
   ·refine wz ?_;cases hF;exact ae () []
  ·clear h42;rcases r43 with v27|_
   ·rintro⟨⟩;refine wz ?_;obtain rfl:=Option.some.inj hF;exact ar () []
   ·rintro⟨⟩;refine dC ?_;cases hF;exact ar () []
theorem ru (n l1 l2 a1 c0 a0 c1 r) (hF:qD n l1 l2=some r) (m) {H:Nat→Prop} (hH:∀b,H b→b<m.next) (h1:dW m a1 c0 l1) (h2:∀b,ek a1=some b→¬H b) (h3:dW m a0 c1 l2) (h4:∀b,ek a0=some b→¬H b):
  ax ai 124 [bK a1 l1 c0,bK a0 l2 c1] m (fun v m'=>∃x:Option Addr × Nat × Nat,v = .slice x.1 x.2.2 x.2.1∧Hp m m' [.rd x.1 x.2.1 1 x.2.2 (r.map (eI .i64)),cM H]):=by
 unfold qD at hF;refine cw Tryz.func124 (Hp.gL (l0:=[dZ a1 c0 l1]) (Hp.gL (l0:=[]) (Hp.dj m hH) rfl h1 h2) rfl h3 h4) ?_;refine QZ ?_;refine Wk.block ?_;obtain⟨l3,h0,hF⟩:=J hF;refine ct (fun l3 (a3:Option Addr)=>⟨(.exit 0),[(5,iq a3 l3)],[e7 a3 l3,cM H]⟩) l3 ?_ ?_
 ·refine Wk.mH (fs':=[(0,bK a1 l1 c0),(1,bK a0 l2 c1),(5,.slice none ([]:List (Int)).length ([]:List (Int)).length),(6,.int .i64 0),(7,.int .i64 0)]) (ps':=[dZ a1 c0 l1,dZ a0 c1 l2,.sl none 1 ([]:List (Int)).length (([]:List (Int)).map (eI .i64)),cM H]) (sc rfl (sc rfl (sc rfl (sc rfl (sc rfl sn))))) (ak.trans (ak.nil 1 rfl) (ak.aP [2,1,0,3] rfl rfl))<|Wk.loop (σ:=List (Int) × Int × Int) (ρ:=List (Int)) (γ:=Option Addr) (δ:=fun _=>Option Addr) _ (fun(s:List (Int) × Int × Int) (g:Option Addr)=>match s,g with | (l4,v3,v0),a2=>⟨.normal,[(0,bK a1 l1 c0),(1,bK a0 l2 c1),(5,iq a2 l4),(6,an v3),(7,an v0)],[dZ a1 c0 l1,dZ a0 c1 l2,e7 a2 l4,cM H]⟩) (fun(r:List (Int)) (g:Option Addr)=>match r,g with|l3,a3=>⟨(.exit 0),[(5,iq a3 l3)],[e7 a3 l3,cM H]⟩) ?_ (fun _ _=>rfl) (fun r d=>by intro e; cases e) _ _ _ h0 none
  clear hF h0;rintro⟨l4,v3,v0⟩ a2 r hF;unfold ic at hF;refine wz ?_;rcases aa hF with⟨h5,hF⟩|⟨h5,hF⟩
  ·refine aq ?_;obtain⟨h6,hF⟩:=bG hF;refine Wo.bI (k:=0) rfl (aM h6) ?_;rintro b0 o1 rfl;refine wz ?_;obtain⟨x3,h14,hF⟩:=J hF;refine wz ?_;refine Wk.seq ?_;obtain⟨v1,h7,hF⟩:=J hF;refine ct (fun v1 (_:Unit)=>⟨.normal,[(0,mF b0 o1 l1 c0),(1,bK a0 l2 c1),(5,iq a2 l4),(7,an v0),(8,an v1)],[Ii b0 o1 l1,FN b0 o1 c0 l1,dZ a0 c1 l2,e7 a2 l4,cM H]⟩) v1 ?_ ?_
   ·clear hF;revert v1;intro r hF;refine wz ?_;rcases aa hF with⟨h8,hF⟩|⟨h8,hF⟩
    ·refine wz ?_;obtain⟨h9,hF⟩:=bG hF;refine Wo.bI (k:=2) rfl (aM h9) ?_;rintro b1 o2 rfl;refine wz ?_;obtain⟨x4,h15,hF⟩:=J hF;refine wz ?_;cases hF;exact ae () [1,2,3,4,5]
    ·refine wz ?_;cases hF;exact ae () [0,1,2,3,4]
   ·clear h7;rintro⟨⟩;refine aq ?_;refine Wk.seq ?_;obtain⟨r0,h10,hF⟩:=J hF;refine ct (fun(v4,v2) (_:Unit)=>⟨.normal,[(0,mF b0 o1 l1 c0),(1,bK a0 l2 c1),(5,iq a2 l4),(6,an v4),(7,an v0),(8,an v2)],[Ii b0 o1 l1,FN b0 o1 c0 l1,dZ a0 c1 l2,e7 a2 l4,cM H]⟩) r0 ?_ ?_
    ·clear hF;revert r0;intro r hF;refine wz ?_;rcases aa hF with⟨h11,hF⟩|⟨h11,hF⟩
     ·refine aq ?_;cases hF;exact ae () [0,1,2,3,4]
     ·refine wz ?_;cases hF;exact ae () [0,1,2,3,4]
    ·clear h10;obtain⟨v4,v2⟩:=r0;rintro⟨⟩;refine aq ?_;refine Wo.x (kH (es:=([v2]:List (Int)).map (eI .i64)) lh rfl (ia lh z3 rfl rfl) rfl rfl) gn rfl fun b2=>?_;obtain⟨h12,hF⟩:=au hF;refine Wo.x (lO (k:=4) (k2:=0) (xs:=(l4:List (Int))) (ys:=([v2]:List (Int))) (AS .i64) lh ⟨_,HU⟩ rfl rfl rfl (.arr _ _ _ _ _) h12) gn rfl fun a4=>?_;refine aq ?_;cases hF;exact ae a4 [2,3,4,5]
  ·refine wz ?_;cases hF;exact ae a2 [2,3]
 ·clear h0;rintro a3;refine aq ?_;obtain⟨l5,h13,hF⟩:=J hF;refine Wo.cZ (ak.freeze (k:=0) rfl)<|wv gn (fun m hm=>wu n l3 a3 l3.length _ h13 m hm.aB (hm.q 0) (hm.no 0)) ?_;rintro⟨a5,c2,n0⟩;refine Wo.bJ (k:=0) rfl ?_;rintro rfl;refine aq ?_;obtain rfl:=Option.some.inj hF;exact ar (a5,c2,l5.length) [0,2]
theorem MV (n x1 l2 a0 c0 r) (hF:Kh n x1 l2=some r) (m) (h1:dW m a0 c0 l2):
  ax ai 71 [iB x1 a0 l2 c0] m (fun v m'=>∃x:Unit,v = .tuple #[.agg #[.int .u64 ((r.1:Nat):Int),.int .u64 ((r.2.1:Nat):Int),.int .u64 ((r.2.2.1:Nat):Int),.int .u64 ((r.2.2.2.1:Nat):Int),.int .u64 ((r.2.2.2.2.1:Nat):Int),.int .u64 ((r.2.2.2.2.2.1:Nat):Int),.int .u64 ((r.2.2.2.2.2.2.1:Nat):Int),.int .u64 ((r.2.2.2.2.2.2.2.1:Nat):Int)],.int .i64 r.2.2.2.2.2.2.2.2]∧Hp m m' []):=by
 unfold Kh at hF;refine cw Tryz.func71 ((Hp.start m).i h1) ?_;refine wz ?_;refine wb fun b2=>?_;refine wa z38 fun b0=>?_;refine aq ?_;obtain⟨h2,hF⟩:=au hF;obtain⟨h3,hF⟩:=au hF;refine Wo.x (oS (f:=eI .i64) (z0:=(0:Int)) lh rfl h2 h3 z3 rfl rfl) gn rfl fun b3=>?_;refine aq ?_;obtain⟨h24,hF⟩:=bG hF;refine wz ?_;obtain⟨x12,h4,hF⟩:=J hF;refine Wo.o0 (ew (k:=0) (x1:=x12) (x2:=2147483648) t3 rfl rfl rfl h4 rfl) ?_;refine aq ?_;obtain⟨r0,h5,hF⟩:=J hF;refine wc gn (fun m hm=>Dq n l2 ((List.replicate (16:Int).toNat (0:Int)).set ((15:Int).toNat) 2147483648) a0 c0 (some ⟨b3,0,none⟩) ((16:Int).toNat) _ h5 m (hm.q 3) (hm.q 0)) ?_;rintro⟨⟩;refine wz ?_;refine Wk.seq<|Wk.seq ?_;obtain⟨v0,h6,hF⟩:=J hF;refine ct (fun v0 (_:Unit)=>⟨.normal,[(1,ptr b2 0),(2,ptr b0 0),(27,cz v0)],[ei b2 x1 a0 l2 c0,dZ a0 c0 l2,lT b0]⟩) v0 ?_ ?_
 ·clear hF;revert v0;intro r hF;refine wz ?_;rcases aa hF with⟨h7,hF⟩|⟨h7,hF⟩
  ·refine wz ?_;cases hF;exact ae () [2,3,1]
  ·refine wz ?_;rcases aa hF with⟨h8,hF⟩|⟨h8,hF⟩
   ·refine wz ?_;cases hF;exact ae () [2,3,1]
   ·refine wz ?_;cases hF;exact ae () [2,3,1]
 ·clear h6;rintro⟨⟩;refine At.tn ?_;rcases aa hF with⟨h9,hF⟩|⟨h9,hF⟩
  ·refine wz ?_;refine Wo.od (fX rfl z38 rfl (fY B3 rfl rfl rfl)) rfl ?_;refine aq ?_;cases hF;exact ar () []
  ·refine aq ?_;refine Wk.seq ?_;obtain⟨l1,h10,hF⟩:=J hF;refine ct (fun l1 ((a1,c1):Option Addr × Nat)=>⟨.normal,[(2,ptr b0 0),(6,bK a1 l1 c1)],[lT b0,dZ a1 c1 l1]⟩) l1 ?_ ?_
   ·clear hF;revert l1;intro r hF;refine wz ?_;rcases aa hF with⟨h11,hF⟩|⟨h11,hF⟩
    ·refine wz ?_;obtain⟨h12,hF⟩:=au hF;obtain⟨h13,hF⟩:=au hF;refine Wo.x (oS (f:=eI .i64) (z0:=(0:Int)) lh rfl h12 h13 z3 rfl rfl) gn rfl fun b4=>?_;refine aq ?_;obtain⟨h25,hF⟩:=bG hF;refine wz ?_;obtain⟨x13,h14,hF⟩:=J hF;refine Wo.o0 (ew (k:=0) (x1:=x13) (x2:=1) t3 rfl rfl rfl h14 rfl) ?_;refine aq ?_;obtain⟨l5,h15,hF⟩:=J hF;refine Wo.cZ (ak.close (k:=0) rfl)<|Wo.cZ (ak.freeze (k:=0) rfl)<|wv gn (fun m hm=>ru n ((List.replicate (17:Int).toNat (0:Int)).set ((16:Int).toNat) 1) l2 (some ⟨b4,0,none⟩) ((17:Int).toNat) a0 c0 _ h15 m hm.aB (hm.q 0) (hm.no 0) (hm.q 2) (hm.no 2)) ?_;rintro⟨a2,c2,n0⟩;refine Wo.bJ (k:=0) rfl ?_;rintro rfl;refine wz ?_;obtain rfl:=Option.some.inj hF;exact ae (a2,c2) [4,0]
    ·refine wz ?_;obtain rfl:=Option.some.inj hF;exact ae (a0,c0) [2,1]
   ·clear h10;rintro⟨a1,c1⟩;refine aq ?_;refine wa z38 fun b1=>?_;refine aq ?_;refine Wk.block ?_;obtain⟨l3,h0,hF⟩:=J hF;refine ct (fun l3 (_:Unit)=>⟨(.exit 0),[(2,ptr b0 0),(8,ptr b1 0)],[lT b0,oE b1 l3]⟩) l3 ?_ ?_
    ·refine Wk.mH (fs':=[(2,ptr b0 0),(6,bK a1 l1 c1),(8,ptr b1 0),(9,.int .i64 0)]) (ps':=[lT b0,dZ a1 c1 l1,.arr b1 1 8 (([0,0,0,0,0,0,0,0]:List (Nat)).map (eN .u64)) .own]) (sc rfl (sc rfl (sc rfl (sc rfl sn)))) (ak.trans (ak.qn (k:=0) (xs:=([0,0,0,0,0,0,0,0]:List (Nat))) (f:=eN .u64) (l:=8) (w:=1) rfl rfl rfl (Fx .u64) rfl) (ak.aP [1,2,0] rfl rfl))<|Wk.loop (σ:=List (Nat) × Int) (ρ:=List (Nat)) (γ:=Unit) (δ:=fun _=>Unit) _ (fun(s:List (Nat) × Int) (g:Unit)=>match s,g with | (l4,v1),_=>⟨.normal,[(2,ptr b0 0),(6,bK a1 l1 c1),(8,ptr b1 0),(9,an v1)],[lT b0,dZ a1 c1 l1,oE b1 l4]⟩) (fun(r:List (Nat)) (g:Unit)=>match r,g with|l3,_=>⟨(.exit 0),[(2,ptr b0 0),(8,ptr b1 0)],[lT b0,oE b1 l3]⟩) ?_ (fun _ _=>rfl) (fun r d=>by intro e; cases e) _ _ _ h0 ()
     clear hF h0;rintro⟨l4,v1⟩ ⟨⟩ r hF;unfold jt at hF;refine wz ?_;rcases aa hF with⟨h16,hF⟩|⟨h16,hF⟩
     ·refine aq ?_;refine Wo.od (aG rfl rfl (lK _ _ (by decide))) rfl ?_
      refine wz ?_;refine Wo.od (aG rfl rfl (lK _ _ (by decide))) rfl ?_
      obtain⟨h17,hF⟩:=bG hF;refine Wo.og (ku D3 rfl rfl h17) gn rfl ?_;obtain⟨x3,h18,hF⟩:=J hF;refine wz ?_;obtain⟨h19,hF⟩:=bG hF;refine Wo.bI (k:=1) rfl (aM h19) ?_;rintro b5 o1 rfl;refine wz ?_;obtain⟨x14,h26,hF⟩:=J hF;refine wz ?_;refine Wo.od (fq rfl (oR (by rw[u3]; rfl) Fi rfl)) rfl ?_
      refine wz ?_;refine Wo.od (aG rfl rfl (gq _ _ (by decide))) rfl<|Wo.od (aG rfl rfl (rB _ _ _)) rfl ?_
      obtain⟨h20,hF⟩:=au hF;obtain⟨y2,h21,hF⟩:=J hF;refine Wo.od (aG rfl rfl ((nk rfl _ _ h20).trans (cN h21))) rfl ?_;refine wz ?_;obtain⟨h22,hF⟩:=bG hF;refine Wo.og (ku D3 rfl rfl h22) gn rfl<|Wo.o0 (ew (k:=3) (x1:=x3) (x2:=uw .u64 (x3+y2)) t26 rfl rfl rfl h18 rfl) ?_;refine aq ?_;cases hF;exact ae () [1,2,3]
     ·refine wz ?_;cases hF;exact ae () [0,2]
    ·clear h0;rintro⟨⟩;refine aq ?_;obtain⟨⟨x4,x5,x6,x7,x8,x9,x10,x11⟩,h23,hF⟩:=J hF;refine Wo.cZ (ak.vK (k:=1) (ys:=[x4,x5,x6,x7,x8,x9,x10,x11]) (cs:=[aZ x4,aZ x5,aZ x6,aZ x7,aZ x8,aZ x9,aZ x10,aZ x11]) rfl (oK h23) rfl) ?_;refine aq ?_;cases hF;exact ar () []
theorem lu (n x1 r) (hF:xY n x1=some r) (m):
  ax ai 16 [an x1] m (fun v m'=>∃x:Unit,v = .agg #[.int .u64 ((r.1:Nat):Int),.int .u64 ((r.2.1:Nat):Int),.int .u64 ((r.2.2.1:Nat):Int),.int .u64 ((r.2.2.2.1:Nat):Int),.int .u64 ((r.2.2.2.2.1:Nat):Int),.int .u64 ((r.2.2.2.2.2.1:Nat):Int),.int .u64 ((r.2.2.2.2.2.2.1:Nat):Int),.int .u64 ((r.2.2.2.2.2.2.2:Nat):Int)]∧Hp m m' []):=by
 unfold xY at hF;refine cw Tryz.func16 (Hp.start m) ?_;refine wz ?_;refine wa z38 fun b2=>?_;refine aq ?_;obtain⟨⟨r4,l5⟩,h3,hF⟩:=J hF;refine wv gn (fun m hm=>A9 n x1  _ h3 m hm.aB) ?_;rintro⟨a6,c7,n8⟩;refine Wo.bJ (k:=0) rfl ?_;rintro rfl;obtain⟨⟨r10,r11,r12,r13,r14,r15,r16,r17,r18⟩,h9,hF⟩:=J hF;refine wc gn (fun m hm=>MV n r4 l5 a6 c7 _ h9 m (hm.q 0)) ?_;rintro⟨⟩;refine wz ?_;refine wa z38 fun b19=>?_;refine dC ?_;cases hF;exact ar () []
theorem Nh (n x1 l1 x3 a0 c0 r) (hF:P6 n x1 l1 x3=some r) (m) (h0:iW m a0 c0 l1):
  ax ai 11 [iZ x1 a0 l1 c0,aZ x3] m (fun v m'=>∃x:Unit,v = .tuple #[.agg #[.int .u64 ((r.1:Nat):Int),.int .u64 ((r.2.1:Nat):Int),.int .u64 ((r.2.2.1:Nat):Int),.int .u64 ((r.2.2.2.1:Nat):Int),.int .u64 ((r.2.2.2.2.1:Nat):Int),.int .u64 ((r.2.2.2.2.2.1:Nat):Int),.int .u64 ((r.2.2.2.2.2.2.1:Nat):Int),.int .u64 ((r.2.2.2.2.2.2.2.1:Nat):Int)],.int .i64 r.2.2.2.2.2.2.2.2]∧Hp m m' []):=by
 unfold P6 at hF;refine cw Tryz.func11 ((Hp.start m).i h0) ?_;refine wz ?_;refine wb fun b0=>?_;refine wa z38 fun b1=>?_;refine aq ?_;obtain⟨r0,h1,hF⟩:=J hF;refine wc gn (fun m hm=>Bj n x1 l1 x3 a0 c0 _ h1 m (hm.q 2)) ?_;rintro⟨⟩;refine aq ?_;rcases aa hF with⟨h2,hF⟩|⟨h2,hF⟩
 ·refine wz ?_;refine Wo.od (fX rfl z38 rfl (fY B3 rfl rfl rfl)) rfl ?_;refine aq ?_;cases hF;exact ar () []
 ·refine aq ?_;obtain⟨l2,h3,hF⟩:=J hF;refine Wo.x (Dx rfl rfl (fun m hm=>B4 n x1 l1 x3 a0 c0 _ h3 m (hm.q 2)) fun _=>k7) gn rfl ?_;rintro⟨a1,n0,r1⟩;refine Wo.vc (k:=0) rfl ?_;rintro rfl;refine Wo.od (vn (k:=0) Lz rfl rfl GN) rfl ?_;obtain⟨⟨r2,r3,r4,r5,r6,r7,r8,r9⟩,h4,hF⟩:=J hF;refine wc gn (fun m hm=>lu n (l2.length:Int)  _ h4 m) ?_;rintro⟨⟩;refine aq ?_;cases hF;exact ar () []
theorem J3 (n x1 x2 x3 x4 x5 x6 x7 x8 r) (hF:A7 n x1 x2 x3 x4 x5 x6 x7 x8=some r) (m):
  ax ai 122 [s9 x1 x2 x3 x4 x5 x6 x7 x8] m (fun v m'=>∃x:Option Addr × Nat,v = .slice x.1 x.2 x.2∧Hp m m' [.sl x.1 1 x.2 (r.map (eI .i64))]):=by
 unfold A7 at hF;refine cw Tryz.func122 (Hp.start m) ?_;refine wz ?_;refine wb fun b9=>?_;refine dC ?_;refine Wk.block ?_;obtain⟨l36,h46,hF⟩:=J hF;refine ct (fun l36 (a37:Option Addr)=>⟨(.exit 0),[(3,iq a37 l36)],[e7 a37 l36]⟩) l36 ?_ ?_
 ·refine Wk.mH (fs':=[(1,ptr b9 0),(3,.slice none ([]:List (Int)).length ([]:List (Int)).length),(4,.int .i64 0)]) (ps':=[Gk b9 x1 x2 x3 x4 x5 x6 x7 x8,.sl none 1 ([]:List (Int)).length (([]:List (Int)).map (eI .i64))]) (sc rfl (sc rfl (sc rfl sn))) (ak.trans (ak.qn (k:=0) (xs:=([x1,x2,x3,x4,x5,x6,x7,x8]:List (Nat))) (f:=eN .u64) (l:=8) (w:=1) rfl rfl rfl (Fx .u64) rfl) (ak.trans (ak.nil 1 rfl) (ak.aP [1,0] rfl rfl)))<|Wk.loop (σ:=List (Nat) × List (Int) × Int) (ρ:=List (Int)) (γ:=Option Addr) (δ:=fun _=>Option Addr) _ (fun(s:List (Nat) × List (Int) × Int) (g:Option Addr)=>match s,g with | (l20,l21,v23),a22=>⟨.normal,[(1,ptr b9 0),(3,iq a22 l21),(4,an v23)],[oE b9 l20,e7 a22 l21]⟩) (fun(r:List (Int)) (g:Option Addr)=>match r,g with|l36,a37=>⟨(.exit 0),[(3,iq a37 l36)],[e7 a37 l36]⟩) ?_ (fun _ _=>rfl) (fun r d=>by intro e; cases e) _ _ _ h46 none
  clear hF h46;rintro⟨l20,l21,v23⟩ a22 r hF;unfold lz at hF;refine wz ?_;rcases aa hF with⟨h38,hF⟩|⟨h38,hF⟩
  ·refine aq ?_;obtain⟨h39,hF⟩:=bG hF;refine Wo.og (ku D3 rfl rfl h39) gn rfl ?_;obtain⟨x40,h41,hF⟩:=J hF;refine wz ?_;refine Wo.od (aG rfl rfl (kZ _ _ (by decide))) rfl<|Wo.od (fq rfl (m8 (by rw[Fi]; rfl) u3)) rfl ?_
   refine wz ?_;obtain⟨h42,hF⟩:=bG hF;refine Wo.og (ku D3 rfl rfl h42) gn rfl ?_;refine wz ?_;refine Wo.od (aG rfl rfl (sr rfl _ _ (by decide))) rfl<|Wo.od (fq rfl (m8 (by rw[Fi]; rfl) u3)) rfl<|Wo.x (kH (es:=([IntKind.wrap .i64 ((x40%4294967296:Nat):Int),IntKind.wrap .i64 ((uw .u64 (x40/4294967296):Nat):Int)]:List (Int)).map (eI .i64)) lh rfl (ia lh z3 rfl rfl) rfl rfl) gn rfl fun b43=>?_
   obtain⟨h44,hF⟩:=au hF;refine Wo.x (lO (k:=2) (k2:=0) (xs:=(l21:List (Int))) (ys:=([IntKind.wrap .i64 ((x40%4294967296:Nat):Int),IntKind.wrap .i64 ((uw .u64 (x40/4294967296):Nat):Int)]:List (Int))) (AS .i64) lh ⟨_,HU⟩ rfl rfl rfl (.arr _ _ _ _ _) h44) gn rfl fun a45=>?_;refine aq ?_;cases hF;exact ae a45 [1,2]
  ·refine wz ?_;cases hF;exact ae a22 [1]
 ·clear h46;rintro a37;refine dC ?_;obtain rfl:=Option.some.inj hF;exact ar (a37,l36.length) [0]
theorem Na (n x1 x2 x3 x4 x5 x6 x7 x8 r) (hF:MF n x1 x2 x3 x4 x5 x6 x7 x8=some r) (m) {H:Nat→Prop} (hH:∀b,H b→b<m.next):
  ax ai 66 [s9 x1 x2 x3 x4 x5 x6 x7 x8] m (fun v m'=>∃x:Option Addr × Nat × Nat,v = .agg #[.bool r.1,.slice x.1 x.2.2 x.2.1]∧Hp m m' [.rd x.1 x.2.1 1 x.2.2 (r.2.map (eI .i64)),cM H]):=by
 unfold MF at hF;refine cw Tryz.func66 (Hp.dj m hH) ?_;refine wz ?_;refine wb fun b9=>?_;refine wa xL fun b10=>?_;refine aq ?_;obtain⟨l12,h11,hF⟩:=J hF;refine wc gn (fun m hm=>J3 n x1 x2 x3 x4 x5 x6 x7 x8  _ h11 m) ?_;rintro⟨a13,n14⟩;refine Wo.len (k:=0) (xs:=l12) rfl ?_;rintro rfl;refine aq ?_;rcases aa hF with⟨h15,hF⟩|⟨h15,hF⟩
 ·refine wz ?_;obtain⟨⟨r17,l18⟩,h16,hF⟩:=J hF;refine Wo.cZ (ak.freeze (k:=0) rfl)<|wv gn (fun m hm=>jQ n false l12 a13 l12.length _ h16 m hm.aB (hm.q 0) (hm.no 0)) ?_;rintro⟨a19,c20,n21⟩;refine Wo.bJ (k:=0) rfl ?_;rintro rfl;refine aq ?_;cases hF;exact ar (a19,c20,l18.length) [0,4]
 ·refine aq ?_;obtain⟨h22,hF⟩:=au hF;obtain⟨h23,hF⟩:=au hF;refine Wo.x (oS (f:=eI .i64) (z0:=(0:Int)) lh rfl h22 h23 z3 rfl rfl) gn rfl fun b24=>?_;refine aq ?_;obtain⟨h25,hF⟩:=bG hF;refine wz ?_;obtain⟨x26,h27,hF⟩:=J hF;refine Wo.o0 (ew (k:=0) (x1:=x26) (x2:=1) t3 rfl rfl rfl h27 rfl) ?_;refine aq ?_;obtain⟨l30,h29,hF⟩:=J hF;refine Wo.cZ (ak.freeze (k:=1) rfl)<|wv gn (fun m hm=>wu n l12 a13 l12.length _ h29 m hm.aB (hm.q 1) (hm.no 1)) ?_;rintro⟨a31,c32,n33⟩;refine Wo.bJ (k:=0) rfl ?_;rintro rfl;obtain⟨l35,h34,hF⟩:=J hF;refine Wo.cZ (ak.close (k:=1) rfl)<|Wo.cZ (ak.freeze (k:=1) rfl)<|wv gn (fun m hm=>ru n ((List.replicate (17:Int).toNat (0:Int)).set ((16:Int).toNat) 1) l30 (some ⟨b24,0,none⟩) ((17:Int).toNat) a31 c32 _ h34 m hm.aB (hm.q 1) (hm.no 1) (hm.q 0) (hm.no 0)) ?_;rintro⟨a36,c37,n38⟩;refine Wo.bJ (k:=0) rfl ?_;rintro rfl;obtain⟨⟨r40,l41⟩,h39,hF⟩:=J hF;refine wv gn (fun m hm=>jQ n true l35 a36 c37 _ h39 m hm.aB (hm.q 0) (hm.no 0)) ?_;rintro⟨a42,c43,n44⟩;refine Wo.bJ (k:=0) rfl ?_;rintro rfl;refine aq ?_;cases hF;exact ar (a42,c43,l41.length) [0,7]
theorem JK (n x1 l2 a3 c4 r) (hF:EB n x1 l2=some r) (m) {H:Nat→Prop} (hH:∀b,H b→b<m.next) (h5:dW m a3 c4 l2) (h6:∀b,ek a3=some b→¬H b):
  ax ai 160 [iB x1 a3 l2 c4] m (fun v m'=>∃x:Option Addr × Nat × Nat,v = .agg #[.bool r.1,.slice x.1 x.2.2 x.2.1]∧Hp m m' [.rd x.1 x.2.1 1 x.2.2 (r.2.map (eI .i64)),cM H]):=by
 unfold EB at hF;refine cw Tryz.func160 (Hp.gL (l0:=[]) (Hp.dj m hH) rfl h5 h6) ?_;refine wz ?_;refine wb fun b7=>?_;refine wa xL fun b8=>?_;refine aq ?_;obtain⟨⟨r10,l11⟩,h9,hF⟩:=J hF;refine wv gn (fun m hm=>jQ n (!x1) l2 a3 c4 _ h9 m hm.aB (hm.q 2) (hm.no 2)) ?_;rintro⟨a12,c13,n14⟩;refine Wo.bJ (k:=0) rfl ?_;rintro rfl;refine aq ?_;cases hF;exact ar (a12,c13,l11.length) [0,4]
theorem Lu (n l1 l2 a0 c0 a1 c1 r) (hF:FV n l1 l2=some r) (m) (h1:dW m a0 c0 l1) (h2:dW m a1 c1 l2):
  ax ai 171 [bK a0 l1 c0,bK a1 l2 c1] m (fun v m'=>∃x:Option Addr × Nat,v = .slice x.1 x.2 x.2∧Hp m m' [.sl x.1 1 x.2 (r.map (eI .i64))]):=by
 unfold FV at hF;refine cw Tryz.func171 (((Hp.start m).i h1).i h2) ?_;refine QZ ?_;refine Wk.block ?_;obtain⟨l4,h0,hF⟩:=J hF;refine ct (fun l4 (a3:Option Addr)=>⟨(.exit 0),[(5,iq a3 l4)],[e7 a3 l4]⟩) l4 ?_ ?_
 ·refine Wk.mH (fs':=[(0,bK a0 l1 c0),(1,bK a1 l2 c1),(5,.slice none ([]:List (Int)).length ([]:List (Int)).length),(6,.int .i64 0),(7,.int .i64 0)]) (ps':=[dZ a0 c0 l1,dZ a1 c1 l2,.sl none 1 ([]:List (Int)).length (([]:List (Int)).map (eI .i64))]) (sc rfl (sc rfl (sc rfl (sc rfl (sc rfl sn))))) (ak.trans (ak.nil 1 rfl) (ak.aP [2,1,0] rfl rfl))<|Wk.loop (σ:=List (Int) × Int × Int) (ρ:=List (Int)) (γ:=Option Addr) (δ:=fun _=>Option Addr) _ (fun(s:List (Int) × Int × Int) (g:Option Addr)=>match s,g with | (l3,v4,v1),a2=>⟨.normal,[(0,bK a0 l1 c0),(1,bK a1 l2 c1),(5,iq a2 l3),(6,an v4),(7,an v1)],[dZ a0 c0 l1,dZ a1 c1 l2,e7 a2 l3]⟩) (fun(r:List (Int)) (g:Option Addr)=>match r,g with|l4,a3=>⟨(.exit 0),[(5,iq a3 l4)],[e7 a3 l4]⟩) ?_ (fun _ _=>rfl) (fun r d=>by intro e; cases e) _ _ _ h0 none
  clear hF h0;rintro⟨l3,v4,v1⟩ a2 r hF;unfold xV at hF;refine Wk.seq<|Wk.seq ?_;obtain⟨v2,h3,hF⟩:=J hF;refine ct (fun v2 (_:Unit)=>⟨.normal,[(0,bK a0 l1 c0),(1,bK a1 l2 c1),(5,iq a2 l3),(6,an v4),(7,an v1),(21,cz v2)],[dZ a0 c0 l1,dZ a1 c1 l2,e7 a2 l3]⟩) v2 ?_ ?_
  ·clear hF;revert v2;intro r hF;refine wz ?_;rcases aa hF with⟨h4,hF⟩|⟨h4,hF⟩
   ·refine wz ?_;cases hF;exact ae () [0,1,2]
   ·refine wz ?_;rcases aa hF with⟨h5,hF⟩|⟨h5,hF⟩
    ·refine wz ?_;cases hF;exact ae () [0,1,2]
    ·refine wz ?_;cases hF;exact ae () [0,1,2]
  ·clear h3;rintro⟨⟩;refine At.tn ?_;rcases aa hF with⟨h6,hF⟩|⟨h6,hF⟩
   ·refine wz ?_;refine Wk.seq<|Wk.block<|Wk.seq ?_;obtain⟨v3,h7,hF⟩:=J hF;refine ct (fun v3 (_:Unit)=>⟨.normal,[(0,bK a0 l1 c0),(1,bK a1 l2 c1),(5,iq a2 l3),(6,an v3),(7,an v1)],[dZ a0 c0 l1,dZ a1 c1 l2,e7 a2 l3]⟩) v3 ?_ ?_
    ·clear hF;revert v3;intro r hF;refine wz ?_;rcases aa hF with⟨h8,hF⟩|⟨h8,hF⟩
     ·refine wz ?_;obtain⟨h9,hF⟩:=bG hF;refine Wo.bI (k:=0) rfl (aM h9) ?_;rintro b0 o1 rfl;refine wz ?_;obtain⟨x3,h14,hF⟩:=J hF;refine wz ?_;cases hF;exact ae () [1,2,3]
     ·refine wz ?_;obtain rfl:=Option.some.inj hF;exact ae () [0,1,2]
    ·clear h7;rintro⟨⟩;refine At.tn<|Wk.seq ?_;obtain⟨v0,h10,hF⟩:=J hF;refine ct (fun v0 (_:Unit)=>⟨.normal,[(0,bK a0 l1 c0),(1,bK a1 l2 c1),(5,iq a2 l3),(6,an v0),(7,an v1)],[dZ a0 c0 l1,dZ a1 c1 l2,e7 a2 l3]⟩) v0 ?_ ?_
     ·clear hF;revert v0;intro r hF;refine wz ?_;rcases aa hF with⟨h11,hF⟩|⟨h11,hF⟩
      ·refine wz ?_;obtain⟨h12,hF⟩:=bG hF;refine Wo.bI (k:=1) rfl (aM h12) ?_;rintro b1 o2 rfl;refine wz ?_;obtain⟨x4,h15,hF⟩:=J hF;refine wz ?_;cases hF;exact ae () [1,2,3]
      ·refine wz ?_;obtain rfl:=Option.some.inj hF;exact ae () [0,1,2]
     ·clear h10;rintro⟨⟩;refine aq ?_;refine Wo.od (aG rfl rfl (gq _ _ (by decide))) rfl<|Wo.x (kH (es:=([Int.tmod v0 4294967296]:List (Int)).map (eI .i64)) lh rfl (ia lh z3 rfl rfl) rfl rfl) gn rfl fun b2=>?_
      obtain⟨h13,hF⟩:=au hF;refine Wo.x (lO (k:=3) (k2:=0) (xs:=(l3:List (Int))) (ys:=([Int.tmod v0 4294967296]:List (Int))) (AS .i64) lh ⟨_,HU⟩ rfl rfl rfl (.arr _ _ _ _ _) h13) gn rfl fun a4=>?_;refine aq ?_;refine Wo.od (aG rfl rfl (lK _ _ (by decide))) rfl ?_
      refine aq ?_;cases hF;exact ae a4 [1,2,3]
   ·refine wz ?_;cases hF;exact ae a2 [2]
 ·clear h0;rintro a3;refine dC ?_;obtain rfl:=Option.some.inj hF;exact ar (a3,l4.length) [0]
theorem Kt (n x1 l2 x7 l8 a3 c4 a9 c10 r) (hF:B2 n x1 l2 x7 l8=some r) (m) {H:Nat→Prop} (hH:∀b,H b→b<m.next) (h5:dW m a3 c4 l2) (h6:∀b,ek a3=some b→¬H b) (h11:dW m a9 c10 l8) (h12:∀b,ek a9=some b→¬H b):
  ax ai 162 [iB x1 a3 l2 c4,iB x7 a9 l8 c10] m (fun v m'=>∃x:Option Addr × Nat × Nat,v = .agg #[.bool r.1,.slice x.1 x.2.2 x.2.1]∧Hp m m' [.rd x.1 x.2.1 1 x.2.2 (r.2.map (eI .i64)),cM H]):=by
 unfold B2 at hF;refine cw Tryz.func162 (Hp.gL (l0:=[dZ a3 c4 l2]) (Hp.gL (l0:=[]) (Hp.dj m hH) rfl h5 h6) rfl h11 h12) ?_;refine wz ?_;refine wb fun b13=>?_;refine wb fun b14=>?_;refine wa xL fun b15=>?_;refine aq ?_;refine Wo.od (aG rfl rfl (LY u4)) rfl ?_;refine wz ?_;rcases aa hF with⟨h16,hF⟩|⟨h16,hF⟩
 ·refine Wk.eQ rfl h16<|Wk.seq<|Wk.bV (prs:=[(1,6)]) (by kernel_rfl)<|Wn.od (bM (r:=ptr b13 0) rfl (ry _ _)) rfl<|Wn.od (aR (k:=2) t4 rfl rfl rfl) rfl<|Wn.od (bM (r:=ptr b13 1) rfl (jF _ _)) rfl<|Wn.od (aR (k:=2) t49 rfl rfl rfl) rfl<|Wn.od (bM (r:=ptr b14 1) rfl (jF _ _)) rfl<|Wn.od (aR (k:=1) t49 rfl rfl rfl) rfl ?_
  obtain⟨l18,h17,hF⟩:=J hF;refine nc gn (fun m hm=>Lu n l2 l8 a3 c4 a9 c10 _ h17 m (hm.q 4) (hm.q 3)) ?_;rintro⟨a19,n20⟩;refine Wn.len (k:=0) (xs:=l18) rfl ?_;rintro rfl;obtain⟨⟨r22,l23⟩,h21,hF⟩:=J hF;refine Wn.cZ (ak.freeze (k:=0) rfl)<|nv gn (fun m hm=>jQ n x1 l18 a19 l18.length _ h21 m hm.aB (hm.q 0) (hm.no 0)) ?_;rintro⟨a24,c25,n26⟩;refine Wn.bJ (k:=0) rfl ?_;rintro rfl;refine Wn.o0 (mI (k:=2) t118 rfl rfl rfl rfl rfl)<|Wn.nil (fun m hm=>du.all rfl) ?_;refine aq ?_;cases hF;exact ar (a24,c25,l23.length) [0,7]
 ·refine aq ?_;obtain⟨r28,h27,hF⟩:=J hF;refine wc gn (fun m hm=>Dq n l2 l8 a3 c4 a9 c10 _ h27 m (hm.q 4) (hm.q 3)) ?_;rintro⟨⟩;refine wz ?_;rcases aa hF with⟨h29,hF⟩|⟨h29,hF⟩
  ·refine Wk.eQ rfl h29<|Wk.seq<|Wk.bV (prs:=[(1,6)]) (by kernel_rfl)<|Wn.od (bM (r:=ptr b13 0) rfl (ry _ _)) rfl<|Wn.od (aR (k:=2) t4 rfl rfl rfl) rfl<|Wn.od (bM (r:=ptr b13 1) rfl (jF _ _)) rfl<|Wn.od (aR (k:=2) t49 rfl rfl rfl) rfl<|Wn.od (bM (r:=ptr b14 1) rfl (jF _ _)) rfl<|Wn.od (aR (k:=1) t49 rfl rfl rfl) rfl ?_
   obtain⟨l31,h30,hF⟩:=J hF;refine nv gn (fun m hm=>ru n l2 l8 a3 c4 a9 c10 _ h30 m hm.aB (hm.q 4) (hm.no 4) (hm.q 3) (hm.no 3)) ?_;rintro⟨a32,c33,n34⟩;refine Wn.bJ (k:=0) rfl ?_;rintro rfl;obtain⟨⟨r36,l37⟩,h35,hF⟩:=J hF;refine nv gn (fun m hm=>jQ n x1 l31 a32 c33 _ h35 m hm.aB (hm.q 0) (hm.no 0)) ?_;rintro⟨a38,c39,n40⟩;refine Wn.bJ (k:=0) rfl ?_;rintro rfl;refine Wn.o0 (mI (k:=2) t118 rfl rfl rfl rfl rfl)<|Wn.nil (fun m hm=>du.all rfl) ?_;refine aq ?_;cases hF;exact ar (a38,c39,l37.length) [0,7]
  ·refine wz ?_;refine Wk.seq<|Wk.bV (prs:=[(1,6)]) (by kernel_rfl)<|Wn.od (bM (r:=ptr b14 0) rfl (ry _ _)) rfl<|Wn.od (aR (k:=1) t4 rfl rfl rfl) rfl<|Wn.od (bM (r:=ptr b14 1) rfl (jF _ _)) rfl<|Wn.od (aR (k:=1) t49 rfl rfl rfl) rfl<|Wn.od (bM (r:=ptr b13 1) rfl (jF _ _)) rfl<|Wn.od (aR (k:=2) t49 rfl rfl rfl) rfl ?_
   obtain⟨l42,h41,hF⟩:=J hF;refine nv gn (fun m hm=>ru n l8 l2 a9 c10 a3 c4 _ h41 m hm.aB (hm.q 3) (hm.no 3) (hm.q 4) (hm.no 4)) ?_;rintro⟨a43,c44,n45⟩;refine Wn.bJ (k:=0) rfl ?_;rintro rfl;obtain⟨⟨r47,l48⟩,h46,hF⟩:=J hF;refine nv gn (fun m hm=>jQ n x7 l42 a43 c44 _ h46 m hm.aB (hm.q 0) (hm.no 0)) ?_;rintro⟨a49,c50,n51⟩;refine Wn.bJ (k:=0) rfl ?_;rintro rfl;refine Wn.o0 (mI (k:=2) t118 rfl rfl rfl rfl rfl)<|Wn.nil (fun m hm=>du.all rfl) ?_;refine aq ?_;cases hF;exact ar (a49,c50,l48.length) [0,7]
theorem LA (n x1 l2 x7 l8 a3 c4 a9 c10 r) (hF:yY n x1 l2 x7 l8=some r) (m) {H:Nat→Prop} (hH:∀b,H b→b<m.next) (h5:dW m a3 c4 l2) (h6:∀b,ek a3=some b→¬H b) (h11:dW m a9 c10 l8) (h12:∀b,ek a9=some b→¬H b):
  ax ai 147 [iB x1 a3 l2 c4,iB x7 a9 l8 c10] m (fun v m'=>∃x:Option Addr × Nat × Nat,v = .agg #[.bool r.1,.slice x.1 x.2.2 x.2.1]∧Hp m m' [.rd x.1 x.2.1 1 x.2.2 (r.2.map (eI .i64)),cM H]):=by
 unfold yY at hF;refine cw Tryz.func147 (Hp.gL (l0:=[dZ a3 c4 l2]) (Hp.gL (l0:=[]) (Hp.dj m hH) rfl h5 h6) rfl h11 h12) ?_;refine wz ?_;refine wb fun b13=>?_;refine wb fun b14=>?_;refine wa xL fun b15=>?_;refine wz ?_;refine Wk.seq<|Wk.bV (prs:=[(0,2)]) (by kernel_rfl)<|Wn.od (aR (k:=2) t118 rfl rfl rfl) rfl<|Wn.od (aR (k:=1) t118 rfl rfl rfl) rfl ?_
 obtain⟨⟨r17,l18⟩,h16,hF⟩:=J hF;refine nv gn (fun m hm=>JK n x7 l8 a9 c10 _ h16 m hm.aB (hm.q 3) (hm.no 3)) ?_;rintro⟨a19,c20,n21⟩;refine Wn.bJ (k:=0) rfl ?_;rintro rfl;obtain⟨⟨r23,l24⟩,h22,hF⟩:=J hF;refine nv gn (fun m hm=>Kt n x1 l2 r17 l18 a3 c4 a19 c20 _ h22 m hm.aB (hm.q 5) (hm.no 5) (hm.q 0) (hm.no 0)) ?_;rintro⟨a25,c26,n27⟩;refine Wn.bJ (k:=0) rfl ?_;rintro rfl;refine Wn.o0 (mI (k:=2) t118 rfl rfl rfl rfl rfl)<|Wn.nil (fun m hm=>du.all rfl) ?_;refine aq ?_;cases hF;exact ar (a25,c26,l24.length) [0,7]
theorem CH (n x1 l2 x6 l7 a3 c4 a8 c9 r) (hF:qF n x1 l2 x6 l7=some r) (m) (h5:dW m a3 c4 l2) (h10:dW m a8 c9 l7):
  ax ai 121 [iB x1 a3 l2 c4,iB x6 a8 l7 c9] m (fun v m'=>∃x:Unit,v = .int .i64 r∧Hp m m' []):=by
 unfold qF at hF;refine cw Tryz.func121 (((Hp.start m).i h5).i h10) ?_;refine wz ?_;refine wb fun b11=>?_;refine wb fun b12=>?_;refine aq ?_;obtain⟨⟨r14,l15⟩,h13,hF⟩:=J hF;refine wv gn (fun m hm=>LA n x1 l2 x6 l7 a3 c4 a8 c9 _ h13 m hm.aB (hm.q 3) (hm.no 3) (hm.q 2) (hm.no 2)) ?_;rintro⟨a16,c17,n18⟩;refine Wo.bJ (k:=0) rfl ?_;rintro rfl;refine wa xL fun b19=>?_;refine aq ?_;rcases aa hF with⟨h20,hF⟩|⟨h20,hF⟩
 ·refine aq ?_;cases hF;exact ar () []
 ·refine aq ?_;rcases aa hF with⟨h21,hF⟩|⟨h21,hF⟩
  ·refine aq ?_;cases hF;exact ar () []
  ·refine dC ?_;cases hF;exact ar () []
theorem NQ (n x1 l1 a0 c0 r) (hF:Nl n x1 l1=some r) (m) (h2:dW m a0 c0 l1):
  ax ai 65 [iB x1 a0 l1 c0] m (fun v m'=>∃x:Unit,v = .tuple #[.int .i64 r.1,.int .i64 r.2]∧Hp m m' []):=by
 unfold Nl at hF;refine cw Tryz.func65 ((Hp.start m).i h2) ?_;refine wz ?_;refine wb fun b0=>?_;refine wz ?_;refine Wk.seq<|Wk.seq ?_;obtain⟨v0,h3,hF⟩:=J hF;refine ct (fun v0 (_:Unit)=>⟨.normal,[(1,ptr b0 0),(15,cz v0)],[ei b0 x1 a0 l1 c0,dZ a0 c0 l1]⟩) v0 ?_ ?_
 ·clear hF;revert v0;intro r hF;refine Wk.bV (prs:=[(0,1),(5,6)]) (by kernel_rfl)<|Wn.od (aR (k:=0) t118 rfl rfl rfl) rfl ?_
  obtain⟨⟨r0,l2⟩,h4,hF⟩:=J hF;refine nv gn (fun m hm=>A9 n (-9223372036854775808)  _ h4 m hm.aB) ?_;rintro⟨a1,c1,n0⟩;refine Wn.bJ (k:=0) rfl ?_;rintro rfl;obtain⟨r2,h5,hF⟩:=J hF;refine nc gn (fun m hm=>CH n x1 l1 r0 l2 a0 c0 a1 c1 _ h5 m (hm.q 2) (hm.q 0)) ?_;rintro⟨⟩;refine Wn.od (aG rfl rfl (dH _ _ _)) rfl<|Wn.od (aF rfl) rfl ?_;rcases aa hF with⟨h0,hF⟩|⟨h0,hF⟩
  ·refine Wn.s (gg rfl rfl (dK h0)) rfl<|Wn.s (gg rfl rfl (dK h0)) rfl<|Wn.s (gg rfl rfl (dK h0)) rfl<|Wn.s (gg rfl rfl (dK h0)) rfl<|Wn.od (jk rfl h0 rfl) rfl<|Wn.nil (fun m hm=>du.all rfl) ?_;cases hF;exact ae () [1,2]
  ·refine Wn.og (aR (k:=1) t118 rfl rfl rfl) (gg rfl rfl (dm h0)) rfl ?_;obtain⟨⟨r1,l3⟩,h6,hF⟩:=J hF;refine nv (gg rfl rfl (dm h0)) (fun m hm=>A9 n 9223372036854775807  _ h6 m hm.aB) ?_;rintro⟨a2,c2,n1⟩;refine Wn.bJ (k:=0) rfl ?_;rintro rfl;obtain⟨r3,h7,hF⟩:=J hF;refine nc (gg rfl rfl (dm h0)) (fun m hm=>CH n x1 l1 r1 l3 a0 c0 a2 c2 _ h7 m (hm.q 3) (hm.q 0)) ?_;rintro⟨⟩;refine Wn.og (aG rfl rfl (gF _ _ _)) (gg rfl rfl (dm h0)) rfl<|Wn.od (jV rfl h0 rfl) rfl<|Wn.nil (fun m hm=>du.all rfl) ?_;cases hF;exact ae () [2,3]
 ·clear h3;rintro⟨⟩;refine At.tn ?_;rcases aa hF with⟨h8,hF⟩|⟨h8,hF⟩
  ·refine aq ?_;cases hF;exact ar () []
  ·refine dC ?_;refine Wk.block ?_;obtain⟨v2,h1,hF⟩:=J hF;refine ct (fun v2 (_:Unit)=>⟨(.exit 0),[(1,ptr b0 0),(4,aZ v2)],[ei b0 x1 a0 l1 c0,dZ a0 c0 l1]⟩) v2 ?_ ?_
   ·refine lo h1 () [0,1] (fun(v3,v4) _=>⟨.normal,[(1,ptr b0 0),(4,aZ v3),(5,an v4)],[ei b0 x1 a0 l1 c0,dZ a0 c0 l1]⟩) ?_;clear hF h1;rintro⟨v3,v4⟩ ⟨⟩ r hF;unfold lA at hF;refine wz ?_;rcases aa hF with⟨h9,hF⟩|⟨h9,hF⟩
    ·refine aq ?_;refine Wo.od (aG rfl rfl (dM rfl _ _)) rfl ?_;refine wz ?_;obtain⟨h10,hF⟩:=bG hF;refine Wo.bI (k:=1) rfl (aM h10) ?_;rintro b1 o1 rfl;refine wz ?_;obtain⟨x3,h13,hF⟩:=J hF;refine wz ?_;refine Wo.od (fq rfl (oR (by rw[u3]; rfl) Fi rfl)) rfl ?_
     refine aq ?_;cases hF;exact ae () [1,2]
    ·refine wz ?_;cases hF;exact ae () [0,1]
   ·clear h1;rintro⟨⟩;refine wz ?_;refine Wk.seq ?_;obtain⟨v1,h11,hF⟩:=J hF;refine ct (fun v1 (_:Unit)=>⟨.normal,[(4,aZ v1)],[]⟩) v1 ?_ ?_
    ·clear hF;revert v1;intro r hF;refine wz ?_;rcases aa hF with⟨h12,hF⟩|⟨h12,hF⟩
     ·refine wz ?_;refine Wo.od (BL rfl (H9 rfl _)) rfl ?_;refine wz ?_;cases hF;exact ae () []
     ·refine wz ?_;obtain rfl:=Option.some.inj hF;exact ae () []
    ·clear h11;rintro⟨⟩;refine aq ?_;refine Wo.od (fq rfl (m8 (by rw[Fi]; rfl) u3)) rfl ?_
     refine aq ?_;cases hF;exact ar () []
theorem Fy (n x1 x2 x3 x4 x5 x6 x7 x8 r) (hF:Fk n x1 x2 x3 x4 x5 x6 x7 x8=some r) (m):
  ax ai 14 [s9 x1 x2 x3 x4 x5 x6 x7 x8] m (fun v m'=>∃x:Unit,v = .tuple #[.int .i64 r.1,.int .i64 r.2]∧Hp m m' []):=by
 unfold Fk at hF;refine cw Tryz.func14 (Hp.start m) ?_;refine wz ?_;refine wb fun b9=>?_;refine aq ?_;obtain⟨⟨r11,l12⟩,h10,hF⟩:=J hF;refine wv gn (fun m hm=>Na n x1 x2 x3 x4 x5 x6 x7 x8  _ h10 m hm.aB) ?_;rintro⟨a13,c14,n15⟩;refine Wo.bJ (k:=0) rfl ?_;rintro rfl;obtain⟨⟨r17,r18⟩,h16,hF⟩:=J hF;refine wc gn (fun m hm=>NQ n r11 l12 a13 c14 _ h16 m (hm.q 0)) ?_;rintro⟨⟩;refine aq ?_;cases hF;exact ar () []
theorem Cx (n x1 r) (hF:Ev n x1=some r) (m):
  ax ai 168 [an x1] m (fun v m'=>∃x:Unit,v = .bool r∧Hp m m' []):=by
 unfold Ev at hF;refine cw Tryz.func168 (Hp.start m) ?_;refine dC ?_;cases hF;exact ar () []
theorem Kz (n x1 x2 r) (hF:Gw n x1 x2=some r) (m):
  ax ai 154 [an x1,an x2] m (fun v m'=>∃x:Unit,v = .int .i64 r∧Hp m m' []):=by
 unfold Gw at hF;refine cw Tryz.func154 (Hp.start m) ?_;refine aq ?_;obtain⟨r4,h3,hF⟩:=J hF;refine wc gn (fun m hm=>Cx n x1  _ h3 m) ?_;rintro⟨⟩;refine aq ?_;obtain⟨r6,h5,hF⟩:=J hF;refine wc gn (fun m hm=>Cx n x2  _ h5 m) ?_;rintro⟨⟩;refine aq ?_;rcases aa hF with⟨h7,hF⟩|⟨h7,hF⟩
 ·refine wz ?_;rcases aa hF with⟨h8,hF⟩|⟨h8,hF⟩
  ·refine aq ?_;cases hF;exact ar () []
  ·refine dC ?_;cases hF;exact ar () []
 ·refine aq ?_;rcases aa hF with⟨h9,hF⟩|⟨h9,hF⟩
  ·refine aq ?_;cases hF;exact ar () []
  ·refine aq ?_;rcases aa hF with⟨h10,hF⟩|⟨h10,hF⟩
   ·refine aq ?_;cases hF;exact ar () []
   ·refine aq ?_;rcases aa hF with⟨h11,hF⟩|⟨h11,hF⟩
    ·refine aq ?_;cases hF;exact ar () []
    ·refine dC ?_;cases hF;exact ar () []
theorem JI (n l1 l5 a2 c3 a6 c7 r) (hF:Iu n l1 l5=some r) (m) (h4:dW m a2 c3 l1) (h8:dW m a6 c7 l5):
  ax ai 140 [bK a2 l1 c3,bK a6 l5 c7] m (fun v m'=>∃x:Unit,v = .int .i64 r∧Hp m m' []):=by
 unfold Iu at hF;refine cw Tryz.func140 (((Hp.start m).i h4).i h8) ?_;refine aq ?_;refine Wk.block ?_;obtain⟨r44,h43,hF⟩:=J hF;refine ct (fun(r:(Int) ⊕ (Unit)) (g:Unit)=>match r,g with | .inl v27,_=>⟨.ret,[(4,an v27)],[]⟩ | .inr _,_=>⟨(.exit 0),[(0,bK a2 l1 c3),(1,bK a6 l5 c7)],[dZ a2 c3 l1,dZ a6 c7 l5]⟩) r44 ?_ ?_
 ·refine lo h43 () [1,0] (fun v10 _=>⟨.normal,[(0,bK a2 l1 c3),(1,bK a6 l5 c7),(9,bK a2 l1 c3),(10,eo l1),(11,an v10)],[dZ a2 c3 l1,dZ a6 c7 l5]⟩) ?_;clear hF h43;rintro v10 ⟨⟩ r hF;unfold la at hF;refine wz ?_;refine Wk.seq ?_;rcases aa hF with⟨h28,hF⟩|⟨h28,hF⟩
  ·refine aq ?_;obtain⟨h29,hF⟩:=bG hF;refine Wo.bI (k:=0) rfl (aM h29) ?_;rintro b30 o31 rfl;refine wz ?_;obtain⟨x32,h33,hF⟩:=J hF;refine aq ?_;rcases aa hF with⟨h34,hF⟩|⟨h34,hF⟩
   ·refine aq ?_;cases hF;exact ae () []
   ·refine aq ?_;obtain⟨h35,hF⟩:=bG hF;refine Wo.bI (k:=2) rfl (aM h35) ?_;rintro b36 o37 rfl;refine wz ?_;obtain⟨x38,h39,hF⟩:=J hF;refine aq ?_;obtain⟨r41,h40,hF⟩:=J hF;refine wc gn (fun m hm=>Kz n x32 x38  _ h40 m) ?_;rintro⟨⟩;refine aq ?_;rcases aa hF with⟨h42,hF⟩|⟨h42,hF⟩
    ·refine aq ?_;cases hF;exact ae () []
    ·refine aq ?_;cases hF;exact ae () [2,3]
  ·refine wz ?_;cases hF;exact ae () [0,1]
 ·clear h43;rcases r44 with v27|_
  ·rintro⟨⟩;refine wz ?_;obtain rfl:=Option.some.inj hF;exact ar () []
  ·rintro⟨⟩;refine aq ?_;rcases aa hF with⟨h45,hF⟩|⟨h45,hF⟩
   ·refine aq ?_;cases hF;exact ar () []
   ·refine dC ?_;cases hF;exact ar () []
theorem K4 (n x1 l1 a0 c0 r) (hF:FL n x1 l1=some r) (m) (h2:iW m a0 c0 l1):
  ax ai 107 [iZ x1 a0 l1 c0] m (fun v m'=>∃x:Unit,v = .int .i64 r∧Hp m m' []):=by
 unfold FL at hF;refine cw Tryz.func107 ((Hp.start m).i h2) ?_;refine wz ?_;refine wb fun b0=>?_;refine wz ?_;refine Wk.seq<|Wk.seq ?_;obtain⟨v2,h3,hF⟩:=J hF;refine ct (fun v2 (_:Unit)=>⟨.normal,[(1,ptr b0 0),(19,cz v2)],[fk b0 x1 a0 l1 c0,fm a0 c0 l1]⟩) v2 ?_ ?_
 ·clear hF;revert v2;intro r hF;refine wz ?_;rcases aa hF with⟨h4,hF⟩|⟨h4,hF⟩
  ·refine wz ?_;cases hF;exact ae () [0,1]
  ·refine wz ?_;rcases aa hF with⟨h5,hF⟩|⟨h5,hF⟩
   ·refine wz ?_;cases hF;exact ae () [0,1]
   ·refine wz ?_;cases hF;exact ae () [0,1]
 ·clear h3;rintro⟨⟩;refine At.tn ?_;rcases aa hF with⟨h6,hF⟩|⟨h6,hF⟩
  ·refine aq ?_;cases hF;exact ar () []
  ·refine aq ?_;refine Wo.od (fX rfl FC rfl (fY QD rfl rfl rfl)) rfl<|wa FC fun b1=>?_;refine aq ?_;refine Wk.block ?_;obtain⟨r0,h1,hF⟩:=J hF;refine ct (fun(r:(Unit) ⊕ (Unit)) (g:Unit)=>match r,g with | .inl _,_=>⟨.ret,[(2,.int .i64 180)],[]⟩ | .inr _,_=>⟨(.exit 0),[],[]⟩) r0 ?_ ?_
   ·refine lo h1 () [1,2,0] (fun(v0,v1,v4) _=>⟨.normal,[(1,ptr b0 0),(3,ptr b1 0),(22,bK a0 l1 c0),(23,eo l1),(24,an v4)],[fk b0 x1 a0 l1 c0,fm a0 c0 l1,iA b1 v0 v1]⟩) ?_;clear hF h1;rintro⟨v0,v1,v4⟩ ⟨⟩ r hF;unfold nC at hF;refine wz ?_;refine Wk.seq ?_;rcases aa hF with⟨h7,hF⟩|⟨h7,hF⟩
    ·refine aq ?_;obtain⟨h8,hF⟩:=bG hF;refine Wo.bI (k:=1) rfl (aM h8) ?_;rintro b2 o1 rfl;refine wz ?_;obtain⟨⟨x3,x4⟩,h14,hF⟩:=J hF;refine wz ?_;refine wa FC fun b3=>?_;refine wz ?_;refine Wk.seq<|Wk.seq ?_;obtain⟨v3,h9,hF⟩:=J hF;refine ct (fun v3 (_:Unit)=>⟨.normal,[(1,ptr b0 0),(3,ptr b1 0),(5,ptr b3 0),(22,mF b2 o1 l1 c0),(23,eo l1),(24,an v4),(50,cz v3)],[kJ b0 x1 b2 o1 l1 c0,dI b2 o1 l1,dJ b2 o1 c0 l1,iA b1 v0 v1,iA b3 x3 x4]⟩) v3 ?_ ?_
     ·clear hF;revert v3;intro r hF;refine wz ?_;rcases aa hF with⟨h10,hF⟩|⟨h10,hF⟩
      ·refine wz ?_;cases hF;exact ae () [2,1,3,4,0]
      ·refine wz ?_;rcases aa hF with⟨h11,hF⟩|⟨h11,hF⟩
       ·refine wz ?_;cases hF;exact ae () [2,1,3,4,0]
       ·refine wz ?_;rcases aa hF with⟨h0,hF⟩|⟨h0,hF⟩
        ·refine wz ?_;cases hF;exact ae () [2,1,3,4,0]
        ·refine Wo.og (Kv (k:=4) iC rfl rfl rfl rfl) (gg rfl rfl (dm h0)) rfl<|Wo.og (Kv (k:=0) iC rfl rfl rfl rfl) (gg rfl rfl (dm h0)) rfl ?_;obtain⟨r1,h12,hF⟩:=J hF;refine wc (gg rfl rfl (dm h0)) (fun m hm=>JI n [v0,v1] [x3,x4] (some ⟨b1,0,none⟩) 2 (some ⟨b3,0,none⟩) 2 _ h12 m (hm.Rx (k:=4) (xs:=[v0,v1]) (f:=eI .i64) rfl rfl rfl rfl (AS .i64)) (hm.Rx (k:=0) (xs:=[x3,x4]) (f:=eI .i64) rfl rfl rfl rfl (AS .i64))) ?_;rintro⟨⟩;refine wz ?_;cases hF;exact ae () [2,1,3,4,0]
     ·clear h9;rintro⟨⟩;refine At.tn ?_;rcases aa hF with⟨h13,hF⟩|⟨h13,hF⟩
      ·refine aq ?_;cases hF;exact ae () []
      ·refine dC ?_;cases hF;exact ae () [0,2,3]
    ·refine wz ?_;cases hF;exact ae () []
   ·clear h1;rcases r0 with _|_
    ·rintro⟨⟩;refine wz ?_;cases hF;exact ar () []
    ·rintro⟨⟩;refine dC ?_;cases hF;exact ar () []
theorem Cv (n x1 r) (hF:ET n x1=some r) (m):
  ax ai 108 [aZ x1] m (fun v m'=>∃x:Unit,v = .int .i64 r∧Hp m m' []):=by
 unfold ET at hF;refine cw Tryz.func108 (Hp.start m) ?_;refine wz ?_;refine Wk.seq ?_;obtain⟨r7,h6,hF⟩:=J hF;refine ct (fun(v3,v4) (_:Unit)=>⟨.normal,[(0,aZ v3),(2,an v4)],[]⟩) r7 ?_ ?_
 ·clear hF;revert r7;intro r hF;refine wz ?_;rcases aa hF with⟨h5,hF⟩|⟨h5,hF⟩
  ·refine wz ?_;refine Wo.od (aG rfl rfl (ca _ _ rfl)) rfl ?_;refine aq ?_;cases hF;exact ae () []
  ·refine wz ?_;cases hF;exact ae () []
 ·clear h6;obtain⟨v3,v4⟩:=r7;rintro⟨⟩;refine At.tn<|Wk.seq ?_;obtain⟨r13,h12,hF⟩:=J hF;refine ct (fun(v9,v10) (_:Unit)=>⟨.normal,[(0,aZ v9),(2,an v10)],[]⟩) r13 ?_ ?_
  ·clear hF;revert r13;intro r hF;refine wz ?_;rcases aa hF with⟨h11,hF⟩|⟨h11,hF⟩
   ·refine wz ?_;refine Wo.od (aG rfl rfl (ca _ _ rfl)) rfl ?_;refine aq ?_;cases hF;exact ae () []
   ·refine wz ?_;cases hF;exact ae () []
  ·clear h12;obtain⟨v9,v10⟩:=r13;rintro⟨⟩;refine At.tn<|Wk.seq ?_;obtain⟨r19,h18,hF⟩:=J hF;refine ct (fun(v15,v16) (_:Unit)=>⟨.normal,[(0,aZ v15),(2,an v16)],[]⟩) r19 ?_ ?_
   ·clear hF;revert r19;intro r hF;refine wz ?_;rcases aa hF with⟨h17,hF⟩|⟨h17,hF⟩
    ·refine wz ?_;refine Wo.od (aG rfl rfl (ca _ _ rfl)) rfl ?_;refine aq ?_;cases hF;exact ae () []
    ·refine wz ?_;cases hF;exact ae () []
   ·clear h18;obtain⟨v15,v16⟩:=r19;rintro⟨⟩;refine aq ?_;refine Wo.od (fq rfl (PS (by rw[Fi]; rfl) u5 rfl)) rfl ?_
    obtain⟨h20,hF⟩:=au hF;obtain⟨y22,h21,hF⟩:=J hF;refine Wo.od (PE fJ u9 rfl (by rfl) rfl h20 h21) rfl<|Wo.od (fq rfl (m8 (by rw[u5]; rfl) u3)) rfl ?_
    refine aq ?_;cases hF;exact ar () []
theorem Hb (n x1 l2 x6 a3 c4 r) (hF:N6 n x1 l2 x6=some r) (m) (h5:iW m a3 c4 l2):
  ax ai 54 [iZ x1 a3 l2 c4,aZ x6] m (fun v m'=>∃x:Unit,v = .int .i64 r∧Hp m m' []):=by
 unfold N6 at hF;refine cw Tryz.func54 ((Hp.start m).i h5) ?_;refine wz ?_;refine wb fun b7=>?_;refine aq ?_;obtain⟨r9,h8,hF⟩:=J hF;refine wc gn (fun m hm=>K4 n x1 l2 a3 c4 _ h8 m (hm.q 1)) ?_;rintro⟨⟩;refine aq ?_;rcases aa hF with⟨h10,hF⟩|⟨h10,hF⟩
 ·refine aq ?_;obtain rfl:=Option.some.inj hF;exact ar () []
 ·refine wz ?_;refine Wk.seq<|Wk.seq ?_;obtain⟨v24,h28,hF⟩:=J hF;refine ct (fun v24 (_:Unit)=>⟨.normal,[(19,cz v24)],[]⟩) v24 ?_ ?_
  ·clear hF;revert v24;intro r hF;refine Wk.bV (prs:=[(4,6)]) (by kernel_rfl)<|Wn.od (aF rfl) rfl<|Wn.od (aG rfl rfl (Bw _ _)) rfl<|Wn.od (aF rfl) rfl ?_
   rcases aa hF with⟨h25,hF⟩|⟨h25,hF⟩
   ·refine Wn.s (gg rfl rfl (dK h25)) rfl<|Wn.s (gg rfl rfl (dK h25)) rfl<|Wn.s (gg rfl rfl (dK h25)) rfl<|Wn.s (gg rfl rfl (dK h25)) rfl<|Wn.s (gg rfl rfl (dK h25)) rfl<|Wn.od (jk rfl h25 rfl) rfl<|Wn.nil (fun m hm=>du.all rfl) ?_;cases hF;exact ae () []
   ·refine Wn.og (aF rfl) (gg rfl rfl (dm h25)) rfl ?_;obtain⟨r27,h26,hF⟩:=J hF;refine nc (gg rfl rfl (dm h25)) (fun m hm=>Cv n x6  _ h26 m) ?_;rintro⟨⟩;refine Wn.og (bM (r:=ptr b7 0) rfl (rO _ _)) (gg rfl rfl (dm h25)) rfl<|Wn.og (aR (k:=0) t3 rfl rfl rfl) (gg rfl rfl (dm h25)) rfl<|Wn.og (aG rfl rfl (gF _ _ _)) (gg rfl rfl (dm h25)) rfl<|Wn.od (jV rfl h25 rfl) rfl<|Wn.nil (fun m hm=>du.all rfl) ?_;cases hF;exact ae () []
  ·clear h28;rintro⟨⟩;refine At.tn ?_;rcases aa hF with⟨h30,hF⟩|⟨h30,hF⟩
   ·refine aq ?_;cases hF;exact ar () []
   ·refine dC ?_;cases hF;exact ar () []
theorem DE (n x1 x2 x3 x4 x5 x6 x7 x8 x9 x10 x11 x12 x13 x14 x15 x16 r) (hF:Fa n x1 x2 x3 x4 x5 x6 x7 x8 x9 x10 x11 x12 x13 x14 x15 x16=some r) (m):
  ax ai 130 [s9 x1 x2 x3 x4 x5 x6 x7 x8,s9 x9 x10 x11 x12 x13 x14 x15 x16] m (fun v m'=>∃x:Unit,v = .tuple #[.agg #[.int .u64 ((r.1:Nat):Int),.int .u64 ((r.2.1:Nat):Int),.int .u64 ((r.2.2.1:Nat):Int),.int .u64 ((r.2.2.2.1:Nat):Int),.int .u64 ((r.2.2.2.2.1:Nat):Int),.int .u64 ((r.2.2.2.2.2.1:Nat):Int),.int .u64 ((r.2.2.2.2.2.2.1:Nat):Int),.int .u64 ((r.2.2.2.2.2.2.2.1:Nat):Int)],.int .u64 ((r.2.2.2.2.2.2.2.2:Nat):Int)]∧Hp m m' []):=by
 unfold Fa at hF;refine cw Tryz.func130 (Hp.start m) ?_;refine wz ?_;refine wb fun b17=>?_;refine wb fun b18=>?_;refine wa Hz fun b19=>?_;refine dC ?_;refine Wk.block ?_;obtain⟨r71,h70,hF⟩:=J hF;refine ct (fun(l56,v57) (_:Unit)=>⟨(.exit 0),[(2,ptr b17 0),(4,ptr b19 0),(6,aZ v57)],[oE b17 l56,lT b19]⟩) r71 ?_ ?_
 ·refine Wk.mH (fs':=[(2,ptr b17 0),(3,ptr b18 0),(4,ptr b19 0),(6,.int .u64 ((0:Nat):Int)),(8,.int .i64 0)]) (ps':=[Gk b17 x1 x2 x3 x4 x5 x6 x7 x8,Gk b18 x9 x10 x11 x12 x13 x14 x15 x16,lT b19]) (sc rfl (sc rfl (sc rfl (sc rfl (sc rfl sn))))) (ak.trans (ak.qn (k:=2) (xs:=([x1,x2,x3,x4,x5,x6,x7,x8]:List (Nat))) (f:=eN .u64) (l:=8) (w:=1) rfl rfl rfl (Fx .u64) rfl) (ak.trans (ak.qn (k:=1) (xs:=([x9,x10,x11,x12,x13,x14,x15,x16]:List (Nat))) (f:=eN .u64) (l:=8) (w:=1) rfl rfl rfl (Fx .u64) rfl) (ak.aP [2,1,0] rfl rfl)))<|Wk.loop (σ:=List (Nat) × List (Nat) × Nat × Int) (ρ:=List (Nat) × Nat) (γ:=Unit) (δ:=fun _=>Unit) _ (fun(s:List (Nat) × List (Nat) × Nat × Int) (g:Unit)=>match s,g with | (l36,l37,v38,v39),_=>⟨.normal,[(2,ptr b17 0),(3,ptr b18 0),(4,ptr b19 0),(6,aZ v38),(8,an v39)],[oE b17 l36,oE b18 l37,lT b19]⟩) (fun(r:List (Nat) × Nat) (g:Unit)=>match r,g with | (l56,v57),_=>⟨(.exit 0),[(2,ptr b17 0),(4,ptr b19 0),(6,aZ v57)],[oE b17 l56,lT b19]⟩) ?_ (fun _ _=>rfl) (fun r d=>by intro e; cases e) _ _ _ h70 ()
  clear hF h70;rintro⟨l36,l37,v38,v39⟩ ⟨⟩ r hF;unfold gr at hF;refine wz ?_;refine Wk.seq ?_;rcases aa hF with⟨h58,hF⟩|⟨h58,hF⟩
  ·refine dC ?_;obtain⟨h59,hF⟩:=bG hF;refine Wo.og (ku mX rfl rfl h59) gn rfl ?_;obtain⟨x60,h61,hF⟩:=J hF;refine wz ?_;obtain⟨h62,hF⟩:=bG hF;refine Wo.og (ku mX rfl rfl h62) gn rfl ?_;obtain⟨x63,h64,hF⟩:=J hF;refine wz ?_;obtain⟨⟨r66,r67⟩,h65,hF⟩:=J hF;refine wc gn (fun m hm=>Dp n x60 x63 v38  _ h65 m) ?_;rintro⟨⟩;refine wz ?_;obtain⟨h68,hF⟩:=bG hF;refine Wo.og (ku mX rfl rfl h68) gn rfl<|Wo.o0 (ew (k:=0) (x1:=x60) (x2:=r66) t26 rfl rfl rfl h61 rfl) ?_;refine aq ?_;cases hF;exact ae () [0,1,2]
  ·refine wz ?_;cases hF;exact ae () [0,2]
 ·clear h70;obtain⟨l56,v57⟩:=r71;rintro⟨⟩;refine aq ?_;obtain⟨⟨x72,x73,x74,x75,x76,x77,x78,x79⟩,h80,hF⟩:=J hF;refine Wo.cZ (ak.vK (k:=0) (ys:=[x72,x73,x74,x75,x76,x77,x78,x79]) (cs:=[aZ x72,aZ x73,aZ x74,aZ x75,aZ x76,aZ x77,aZ x78,aZ x79]) rfl (oK h80) rfl) ?_;refine aq ?_;cases hF;exact ar () []
theorem Nc (n x1 x2 x3 x4 x5 x6 x7 x8 r) (hF:PF n x1 x2 x3 x4 x5 x6 x7 x8=some r) (m):
  ax ai 88 [s9 x1 x2 x3 x4 x5 x6 x7 x8] m (fun v m'=>∃x:Unit,v = .agg #[.bool r.1,.int .u64 ((r.2.1:Nat):Int),.int .u64 ((r.2.2.1:Nat):Int),.int .u64 ((r.2.2.2.1:Nat):Int),.int .u64 ((r.2.2.2.2.1:Nat):Int),.int .u64 ((r.2.2.2.2.2.1:Nat):Int),.int .u64 ((r.2.2.2.2.2.2.1:Nat):Int),.int .u64 ((r.2.2.2.2.2.2.2.1:Nat):Int),.int .u64 ((r.2.2.2.2.2.2.2.2:Nat):Int)]∧Hp m m' []):=by
 unfold PF at hF;refine cw Tryz.func88 (Hp.start m) ?_;refine wz ?_;refine wb fun b9=>?_;refine wa Ea fun b10=>?_;refine aq ?_;refine Wo.od (aG rfl rfl (ca _ _ rfl)) rfl ?_;refine wz ?_;refine Wo.od (fX rfl Ea rfl (fY L9 rfl rfl rfl)) rfl<|wa Ea fun b11=>?_;refine wz ?_;refine Wk.seq ?_;obtain⟨r44,h43,hF⟩:=J hF;refine ct (fun(v23,v24,v25,v26,v27,v28,v29,v30,v31) (_:Unit)=>⟨.normal,[(2,ptr b10 0),(3,ptr b11 0)],[.obj b10 (.cells [.bool false,.int .u64 ((0:Nat):Int),.int .u64 ((0:Nat):Int),.int .u64 ((0:Nat):Int),.int .u64 ((0:Nat):Int),.int .u64 ((0:Nat):Int),.int .u64 ((0:Nat):Int),.int .u64 ((0:Nat):Int),.int .u64 ((0:Nat):Int)] .own),NP b11 v23 v24 v25 v26 v27 v28 v29 v30 v31]⟩) r44 ?_ ?_
 ·clear hF;revert r44;intro r hF;refine wz ?_;rcases aa hF with⟨h32,hF⟩|⟨h32,hF⟩
  ·refine wz ?_;refine Wo.od (fX rfl Hz rfl (fY GP rfl rfl rfl)) rfl ?_;refine wz ?_;obtain⟨⟨r34,r35,r36,r37,r38,r39,r40,r41,r42⟩,h33,hF⟩:=J hF;refine wc gn (fun m hm=>DE n 0 0 0 0 0 0 0 0 x1 x2 x3 x4 x5 x6 x7 x8  _ h33 m) ?_;rintro⟨⟩;refine wz ?_;cases hF;exact ae () [1,0]
  ·refine wz ?_;cases hF;exact ae () [1,0]
 ·clear h43;obtain⟨v23,v24,v25,v26,v27,v28,v29,v30,v31⟩:=r44;rintro⟨⟩;refine dC ?_;cases hF;exact ar () []
theorem fK (n x1 l2 a3 c4 r) (hF:kC n x1 l2=some r) (m) {H:Nat→Prop} (hH:∀b,H b→b<m.next) (h5:fS m a3 c4 l2) (h6:∀b,ek a3=some b→¬H b):
  ax ai 126 [cz x1,bK a3 l2 c4] m (fun v m'=>∃x:Option Addr × Nat × Nat,v = .agg #[.bool r.1,.slice x.1 x.2.2 x.2.1]∧Hp m m' [.rd x.1 x.2.1 1 x.2.2 (r.2.map (eN .u64)),cM H]):=by
 unfold kC at hF;refine cw Tryz.func126 (Hp.gL (l0:=[]) (Hp.dj m hH) rfl h5 h6) ?_;refine wz ?_;refine wa fp fun b7=>?_;refine aq ?_;refine Wk.seq<|Wk.block ?_;obtain⟨v43,h76,hF⟩:=J hF;refine ct (fun v43 (_:Unit)=>⟨(.exit 0),[(0,cz x1),(1,bK a3 l2 c4),(4,ptr b7 0),(5,an v43)],[dT a3 c4 l2,eu b7,cM H]⟩) v43 ?_ ?_
 ·refine lo h76 () [1,0,2] (fun v9 _=>⟨.normal,[(0,cz x1),(1,bK a3 l2 c4),(4,ptr b7 0),(5,an v9)],[dT a3 c4 l2,eu b7,cM H]⟩) ?_;clear hF h76;rintro v9 ⟨⟩ r hF;unfold eO at hF;refine Wk.seq<|Wk.seq ?_;obtain⟨v66,h73,hF⟩:=J hF;refine ct (fun v66 (_:Unit)=>⟨.normal,[(0,cz x1),(1,bK a3 l2 c4),(4,ptr b7 0),(5,an v9),(17,cz v66)],[dT a3 c4 l2,eu b7,cM H]⟩) v66 ?_ ?_
  ·clear hF;revert v66;intro r hF;refine wz ?_;rcases aa hF with⟨h67,hF⟩|⟨h67,hF⟩
   ·refine wz ?_;obtain⟨h68,hF⟩:=bG hF;refine Wo.bI (k:=0) rfl (aM h68) ?_;rintro b69 o70 rfl;refine wz ?_;obtain⟨x71,h72,hF⟩:=J hF;refine wz ?_;cases hF;exact ae () [1,2,3]
   ·refine wz ?_;cases hF;exact ae () [0,1,2]
  ·clear h73;rintro⟨⟩;refine At.tn ?_;rcases aa hF with⟨h75,hF⟩|⟨h75,hF⟩
   ·refine aq ?_;cases hF;exact ae () [0,1,2]
   ·refine wz ?_;cases hF;exact ae () [0,1,2]
 ·clear h76;rintro⟨⟩;refine aq ?_;rcases aa hF with⟨h78,hF⟩|⟨h78,hF⟩
  ·refine wz ?_;obtain⟨h79,hF⟩:=au hF;refine Wo.x (zV (k:=0) (lo:=0) (hi:=v43) AF rfl rfl rfl rfl h79 (.inl ⟨rfl,rfl⟩) (.inr ⟨_,rfl⟩)) gn rfl ?_;rintro⟨a80,c81⟩;refine Wo.od (fX rfl fp rfl (fY Dc rfl rfl rfl)) rfl ?_;refine aq ?_;cases hF;exact ar (a80,c81,(((l2.drop (0:Int).toNat).take ((v43:Int).toNat-(0:Int).toNat)).length)) [0,3]
  ·refine wz ?_;obtain⟨h82,hF⟩:=au hF;refine Wo.x (zV (k:=0) (lo:=0) (hi:=v43) AF rfl rfl rfl rfl h82 (.inl ⟨rfl,rfl⟩) (.inr ⟨_,rfl⟩)) gn rfl ?_;rintro⟨a83,c84⟩;refine Wo.od (fX rfl fp rfl (fY Dc rfl rfl rfl)) rfl ?_;refine aq ?_;cases hF;exact ar (a83,c84,(((l2.drop (0:Int).toNat).take ((v43:Int).toNat-(0:Int).toNat)).length)) [0,3]
theorem GR (n x1 x2 x3 x4 x5 x6 x7 x8 r) (hF:JG n x1 x2 x3 x4 x5 x6 x7 x8=some r) (m) {H:Nat→Prop} (hH:∀b,H b→b<m.next):
  ax ai 67 [s9 x1 x2 x3 x4 x5 x6 x7 x8] m (fun v m'=>∃x:Option Addr × Nat × Nat,v = .agg #[.bool r.1,.slice x.1 x.2.2 x.2.1]∧Hp m m' [.rd x.1 x.2.1 1 x.2.2 (r.2.map (eN .u64)),cM H]):=by
 unfold JG at hF;refine cw Tryz.func67 (Hp.dj m hH) ?_;refine wz ?_;refine wb fun b9=>?_;refine wa fp fun b10=>?_;refine aq ?_;obtain⟨⟨r12,r13,r14,r15,r16,r17,r18,r19,r20⟩,h11,hF⟩:=J hF;refine wc gn (fun m hm=>Nc n x1 x2 x3 x4 x5 x6 x7 x8  _ h11 m) ?_;rintro⟨⟩;refine wa Ea fun b21=>?_;refine wz ?_;refine Wk.seq<|Wk.bV (prs:=[(1,5)]) (by kernel_rfl)<|Wn.od (bM (r:=ptr b21 0) rfl (CU _ _)) rfl<|Wn.Np rfl (aR (k:=0) t4 rfl rfl rfl) rfl<|Wn.x (kH (es:=([]:List (Nat)).map (eN .u64)) AF rfl (ia AF L7 rfl rfl) rfl rfl) gn rfl fun b22=>?_
 refine Wn.od (bM (r:=ptr b21 1) rfl (Dy _ _)) rfl<|Wn.og (Kv (k:=1) mX rfl rfl rfl rfl) gn rfl ?_;obtain⟨h23,hF⟩:=au hF;refine Wn.cZ (ak.close (k:=0) rfl)<|Wn.xk (l:=[b21]) (PW (k:=0) (xs:=([]:List (Nat))) (ys:=([r13,r14,r15,r16,r17,r18,r19,r20]:List (Nat))) (Fx .u64) AF ⟨_,R4⟩ rfl rfl (fun m hm=>hm.Rx (k:=1) (xs:=([r13,r14,r15,r16,r17,r18,r19,r20]:List (Nat))) (f:=eN .u64) rfl rfl rfl rfl (Fx .u64)) h23) ⟨⟨_,1,rfl,rfl,fun _=>⟨1,rfl⟩⟩,trivial⟩ gn rfl fun a24=>?_;obtain⟨⟨r26,l27⟩,h25,hF⟩:=J hF;refine Wn.cZ (ak.freeze (k:=0) rfl)<|nv gn (fun m hm=>fK n r12 (([]:List (Nat))++[r13,r14,r15,r16,r17,r18,r19,r20]) a24 ((([]:List (Nat))++[r13,r14,r15,r16,r17,r18,r19,r20]).length) _ h25 m hm.aB (hm.q 0) (hm.no 0)) ?_;rintro⟨a28,c29,n30⟩;refine Wn.bJ (k:=0) rfl ?_;rintro rfl;refine Wn.o0 (mI (k:=3) t103 rfl rfl rfl rfl rfl)<|Wn.nil (fun m hm=>(du.rk rfl rfl rfl (by simp) du.nil)) ?_
 refine aq ?_;cases hF;exact ar (a28,c29,l27.length) [0,5]
theorem BC (n x1 l2 a3 c4 r) (hF:Ot n x1 l2=some r) (m) (h5:fS m a3 c4 l2):
  ax ai 60 [iB x1 a3 l2 c4] m (fun v m'=>∃x:Unit,v = .int .i64 r∧Hp m m' []):=by
 unfold Ot at hF;refine cw Tryz.func60 ((Hp.start m).i h5) ?_;refine wz ?_;refine wb fun b6=>?_;refine aq ?_;rcases aa hF with⟨h7,hF⟩|⟨h7,hF⟩
 ·refine aq ?_;cases hF;exact ar () []
 ·refine wz ?_;rcases aa hF with⟨h8,hF⟩|⟨h8,hF⟩
  ·refine aq ?_;cases hF;exact ar () []
  ·refine dC ?_;cases hF;exact ar () []
theorem Ih (n r) (hF:Pj n=some r) (m):
  ax ai 78 [] m (fun v m'=>∃x:Option Addr × Nat,v = .agg #[.slice x.1 x.2 x.2]∧Hp m m' [.sl x.1 1 x.2 (r.map (eI .i64))]):=by
 unfold Pj at hF;refine cw Tryz.func78 (Hp.start m) ?_;refine wz ?_;refine wa Jg fun b1=>?_;refine aq ?_;obtain⟨h2,hF⟩:=au hF;obtain⟨h3,hF⟩:=au hF;refine Wo.x (oS (f:=eI .i64) (z0:=(0:Int)) P9 rfl h2 h3 z3 rfl rfl) gn rfl fun b4=>?_;refine aq ?_;refine Wk.block ?_;obtain⟨l21,h27,hF⟩:=J hF;refine ct (fun l21 (_:Unit)=>⟨(.exit 0),[(0,ptr b1 0),(1,.slice (some ⟨b4,0,none⟩) ((64:Int).toNat) ((64:Int).toNat))],[Jo b1,.arr b4 1 ((64:Int).toNat) (l21.map (eI .i64)) .own]⟩) l21 ?_ ?_
 ·refine lo h27 () [1,0] (fun(l12,v13) _=>⟨.normal,[(0,ptr b1 0),(1,.slice (some ⟨b4,0,none⟩) ((64:Int).toNat) ((64:Int).toNat)),(5,.int .i64 ((64:Int).toNat:Int)),(6,an v13)],[Jo b1,.arr b4 1 ((64:Int).toNat) (l12.map (eI .i64)) .own]⟩) ?_;clear hF h27;rintro⟨l12,v13⟩ ⟨⟩ r hF;unfold zl at hF;refine wz ?_;refine Wk.seq ?_;rcases aa hF with⟨h22,hF⟩|⟨h22,hF⟩
  ·refine dC ?_;obtain⟨h23,hF⟩:=bG hF;refine wz ?_;obtain⟨x24,h25,hF⟩:=J hF;refine Wo.o0 (ew (k:=1) (x1:=x24) (x2:=v13) t3 rfl rfl rfl h25 rfl) ?_;refine aq ?_;cases hF;exact ae () [0,1]
  ·refine wz ?_;cases hF;exact ae () [0,1]
 ·clear h27;rintro⟨⟩;refine aq ?_;refine Wo.od (fX rfl Jg rfl (fY QG rfl rfl rfl)) rfl ?_;refine aq ?_;obtain rfl:=Option.some.inj hF;exact At.ret (.cell (k:=0) t133 rfl rfl rfl .nil) fun m' hm=>⟨((some ⟨b4,0,none⟩),((64:Int).toNat)),rfl,(ak.trans (ak.close (k:=1) rfl) (ak.aP [1] rfl rfl)) m' hm⟩
theorem th (n x1 x2 x3 r) (hF:I6 n x1 x2 x3=some r) (m):
  ax ai 59 [aZ x1,.agg #[an x2,an x3]] m (fun v m'=>∃x:Unit,v = .bool r∧Hp m m' []):=by
 unfold I6 at hF;refine cw Tryz.func59 (Hp.start m) ?_;refine wz ?_;refine wb fun b4=>?_;refine aq ?_;obtain⟨h5,hF⟩:=au hF;refine Wo.od (aG rfl rfl (ca _ _ h5)) rfl ?_;refine wz ?_;rcases aa hF with⟨h6,hF⟩|⟨h6,hF⟩
 ·refine wz ?_;obtain⟨h7,hF⟩:=au hF;refine Wo.og (aG rfl rfl (ca _ _ h7)) (gg rfl rfl (gR h6)) rfl ?_;refine aq ?_;cases hF;exact ar () []
 ·refine aq ?_;cases hF;exact ar () []
theorem qL (n l1 x5 a2 c3 r) (hF:Av n l1 x5=some r) (m) (h4:dW m a2 c3 l1):
  ax ai 109 [bK a2 l1 c3,an x5] m (fun v m'=>∃x:Unit,v = .int .i64 r∧Hp m m' []):=by
 unfold Av at hF;refine cw Tryz.func109 ((Hp.start m).i h4) ?_;refine wz ?_;refine Wk.seq<|Wk.block ?_;obtain⟨v16,h24,hF⟩:=J hF;refine ct (fun v16 (_:Unit)=>⟨(.exit 0),[(1,an v16)],[]⟩) v16 ?_ ?_
 ·refine lo h24 () [0] (fun v7 _=>⟨.normal,[(0,bK a2 l1 c3),(1,an v7)],[dZ a2 c3 l1]⟩) ?_;clear hF h24;rintro v7 ⟨⟩ r hF;unfold gp at hF;refine wz ?_;obtain⟨h17,hF⟩:=bG hF;refine Wo.bI (k:=0) rfl (aM h17) ?_;rintro b18 o19 rfl;refine wz ?_;obtain⟨x20,h21,hF⟩:=J hF;refine wz ?_;rcases aa hF with⟨h22,hF⟩|⟨h22,hF⟩
  ·refine aq ?_;obtain⟨h23,hF⟩:=bG hF;refine wz ?_;cases hF;exact ae () [1]
  ·refine wz ?_;cases hF;exact ae () []
 ·clear h24;rintro⟨⟩;refine dC ?_;obtain rfl:=Option.some.inj hF;exact ar () []
theorem Ny (n x1 r) (hF:RC n x1=some r) (m):
  ax ai 48 [an x1] m (fun v m'=>∃x:Unit,v = .agg #[.int .u64 ((r.1:Nat):Int),.int .u64 ((r.2.1:Nat):Int),.int .u64 ((r.2.2.1:Nat):Int),.int .u64 ((r.2.2.2.1:Nat):Int),.int .u64 ((r.2.2.2.2.1:Nat):Int),.int .u64 ((r.2.2.2.2.2.1:Nat):Int),.int .u64 ((r.2.2.2.2.2.2.1:Nat):Int),.int .u64 ((r.2.2.2.2.2.2.2:Nat):Int)]∧Hp m m' []):=by
 unfold RC at hF;refine cw Tryz.func48 (Hp.start m) ?_;refine wz ?_;refine wa z38 fun b2=>?_;refine aq ?_;refine Wo.od (fq rfl (oR (by rw[u3]; rfl) Fi rfl)) rfl<|Wo.od (fX rfl z38 rfl (fY B3 rfl rfl rfl)) rfl<|wa z38 fun b3=>?_
 refine wz ?_;refine Wk.seq ?_;obtain⟨l30,h57,hF⟩:=J hF;refine ct (fun l30 (_:Unit)=>⟨.normal,[(2,ptr b2 0),(3,ptr b3 0)],[lT b2,oE b3 l30]⟩) l30 ?_ ?_
 ·clear hF;revert l30;intro r hF;refine wz ?_;rcases aa hF with⟨h31,hF⟩|⟨h31,hF⟩
  ·refine wz ?_;refine Wk.block ?_;obtain⟨l49,h55,hF⟩:=J hF;refine ct (fun l49 (_:Unit)=>⟨(.exit 0),[(2,ptr b2 0),(3,ptr b3 0)],[lT b2,oE b3 l49]⟩) l49 ?_ ?_
   ·refine Wk.mH (fs':=[(2,ptr b2 0),(3,ptr b3 0),(4,.int .i64 1)]) (ps':=[lT b2,.arr b3 1 8 (([ui .u64 x1,0,0,0,0,0,0,0]:List (Nat)).map (eN .u64)) .own]) (sc rfl (sc rfl (sc rfl sn))) (ak.trans (ak.qn (k:=0) (xs:=([ui .u64 x1,0,0,0,0,0,0,0]:List (Nat))) (f:=eN .u64) (l:=8) (w:=1) rfl rfl rfl (Fx .u64) rfl) (ak.aP [1,0] rfl rfl))<|Wk.loop (σ:=List (Nat) × Int) (ρ:=List (Nat)) (γ:=Unit) (δ:=fun _=>Unit) _ (fun(s:List (Nat) × Int) (g:Unit)=>match s,g with | (l40,v41),_=>⟨.normal,[(2,ptr b2 0),(3,ptr b3 0),(4,an v41)],[lT b2,oE b3 l40]⟩) (fun(r:List (Nat)) (g:Unit)=>match r,g with|l49,_=>⟨(.exit 0),[(2,ptr b2 0),(3,ptr b3 0)],[lT b2,oE b3 l49]⟩) ?_ (fun _ _=>rfl) (fun r d=>by intro e; cases e) _ _ _ h55 ()
    clear hF h55;rintro⟨l40,v41⟩ ⟨⟩ r hF;unfold Ma at hF;refine wz ?_;rcases aa hF with⟨h50,hF⟩|⟨h50,hF⟩
    ·refine aq ?_;obtain⟨h51,hF⟩:=bG hF;refine Wo.og (ku D3 rfl rfl h51) gn rfl ?_;obtain⟨x52,h53,hF⟩:=J hF;refine Wo.o0 (ew (k:=1) (x1:=x52) (x2:=18446744073709551615) t26 rfl rfl rfl h53 rfl) ?_;refine aq ?_;cases hF;exact ae () [0,1]
    ·refine wz ?_;cases hF;exact ae () [0,1]
   ·clear h55;rintro⟨⟩;refine At.be ?_;obtain rfl:=Option.some.inj hF;exact ae () [0,1]
  ·refine wz ?_;cases hF;exact At.en () rfl (sc rfl (sc rfl sn)) (ak.trans (ak.qn (k:=0) (xs:=([ui .u64 x1,0,0,0,0,0,0,0]:List (Nat))) (f:=eN .u64) (l:=8) (w:=1) rfl rfl rfl (Fx .u64) rfl) (ak.aP [1,0] rfl rfl))
 ·clear h57;rintro⟨⟩;refine aq ?_;obtain⟨⟨x59,x60,x61,x62,x63,x64,x65,x66⟩,h67,hF⟩:=J hF;refine Wo.cZ (ak.vK (k:=1) (ys:=[x59,x60,x61,x62,x63,x64,x65,x66]) (cs:=[aZ x59,aZ x60,aZ x61,aZ x62,aZ x63,aZ x64,aZ x65,aZ x66]) rfl (oK h67) rfl) ?_;refine aq ?_;cases hF;exact ar () []
theorem jI (n x1 r) (hF:wX n x1=some r) (m) {H:Nat→Prop} (hH:∀b,H b→b<m.next):
  ax ai 76 [an x1] m (fun v m'=>∃x:Option Addr × Nat × Nat,v = .agg #[.bool r.1,.slice x.1 x.2.2 x.2.1]∧Hp m m' [.rd x.1 x.2.1 1 x.2.2 (r.2.map (eN .u64)),cM H]):=by
 unfold wX at hF;refine cw Tryz.func76 (Hp.dj m hH) ?_;refine wz ?_;refine wa fp fun b2=>?_;refine aq ?_;obtain⟨⟨r4,r5,r6,r7,r8,r9,r10,r11⟩,h3,hF⟩:=J hF;refine wc gn (fun m hm=>Ny n x1  _ h3 m) ?_;rintro⟨⟩;obtain⟨⟨r13,l14⟩,h12,hF⟩:=J hF;refine wv gn (fun m hm=>GR n r4 r5 r6 r7 r8 r9 r10 r11  _ h12 m hm.aB) ?_;rintro⟨a15,c16,n17⟩;refine Wo.bJ (k:=0) rfl ?_;rintro rfl;refine aq ?_;cases hF;exact ar (a15,c16,l14.length) [0,2]
theorem KJ (n l4 l5 a4 c2 a5 c3 r) (hF:IC n l4 l5=some r) (m) (h1:fS m a4 c2 l4) (h2:fS m a5 c3 l5):
  ax ai 141 [bK a4 l4 c2,bK a5 l5 c3] m (fun v m'=>∃x:Option Addr × Nat,v = .slice x.1 x.2 x.2∧Hp m m' [.sl x.1 1 x.2 (r.map (eN .u64))]):=by
 unfold IC at hF;refine cw Tryz.func141 (((Hp.start m).i h1).i h2) ?_;refine wz ?_;refine Wk.seq ?_;obtain⟨r0,h3,hF⟩:=J hF;refine ct (fun(l1,l2) ((a0,c0,a1,c1):Option Addr × Nat × Option Addr × Nat)=>⟨.normal,[(0,bK a0 l1 c0),(1,bK a1 l2 c1)],[dT a0 c0 l1,dT a1 c1 l2]⟩) r0 ?_ ?_
 ·clear hF;revert r0;intro r hF;refine wz ?_;rcases aa hF with⟨h4,hF⟩|⟨h4,hF⟩
  ·refine wz ?_;cases hF;exact ae (a5,c3,a4,c2) [0,1]
  ·refine wz ?_;cases hF;exact ae (a4,c2,a5,c3) [1,0]
 ·clear h3;obtain⟨l1,l2⟩:=r0;rintro⟨a0,c0,a1,c1⟩;refine aq ?_;obtain⟨h5,hF⟩:=au hF;obtain⟨h6,hF⟩:=au hF;refine Wo.x (oS (f:=eN .u64) (z0:=(0:Nat)) AF rfl h5 h6 L7 rfl rfl) gn rfl fun b1=>?_;refine dC ?_;refine Wk.block ?_;obtain⟨r1,h0,hF⟩:=J hF;refine ct (fun(l3,n0,v0) (a2:Option Addr)=>⟨(.exit 0),[(0,bK a0 l1 c0),(5,cp a2 n0),(6,aZ v0)],[dT a0 c0 l1,pD a2 n0 l3]⟩) r1 ?_ ?_
  ·refine Wk.mH (fs':=[(0,bK a0 l1 c0),(1,bK a1 l2 c1),(5,.slice (some ⟨b1,0,none⟩) ((IntKind.wrap .i64 ((l1.length:Int)+1)).toNat) ((IntKind.wrap .i64 ((l1.length:Int)+1)).toNat)),(6,.int .u64 ((0:Nat):Int)),(21,bK a0 l1 c0),(22,eo l1),(23,.int .i64 0)]) (ps':=[dT a0 c0 l1,dT a1 c1 l2,.sl (some ⟨b1,0,none⟩) 1 ((IntKind.wrap .i64 ((l1.length:Int)+1)).toNat) ((List.replicate (IntKind.wrap .i64 ((l1.length:Int)+1)).toNat (0:Nat)).map (eN .u64))]) (sc rfl (sc rfl (sc rfl (sc rfl (sc rfl (sc rfl (sc rfl sn))))))) (ak.trans (ak.close (k:=0) rfl) (ak.aP [1,2,0] rfl rfl))<|Wk.loop (σ:=List (Nat) × Nat × Nat × Int) (ρ:=List (Nat) × Nat × Nat) (γ:=Option Addr) (δ:=fun _=>Option Addr) _ (fun(s:List (Nat) × Nat × Nat × Int) (g:Option Addr)=>match s,g with | (l6,n1,v2,v3),a3=>⟨.normal,[(0,bK a0 l1 c0),(1,bK a1 l2 c1),(5,cp a3 n1),(6,aZ v2),(21,bK a0 l1 c0),(22,eo l1),(23,an v3)],[dT a0 c0 l1,dT a1 c1 l2,pD a3 n1 l6]⟩) (fun(r:List (Nat) × Nat × Nat) (g:Option Addr)=>match r,g with | (l3,n0,v0),a2=>⟨(.exit 0),[(0,bK a0 l1 c0),(5,cp a2 n0),(6,aZ v0)],[dT a0 c0 l1,pD a2 n0 l3]⟩) ?_ (fun _ _=>rfl) (fun r d=>by intro e; cases e) _ _ _ h0 (some ⟨b1,0,none⟩)
   clear hF h0;rintro⟨l6,n1,v2,v3⟩ a3 r hF;unfold nb at hF;refine wz ?_;refine Wk.seq ?_;rcases aa hF with⟨h7,hF⟩|⟨h7,hF⟩
   ·refine aq ?_;obtain⟨h8,hF⟩:=bG hF;refine Wo.bI (k:=0) rfl (aM h8) ?_;rintro b0 o1 rfl;refine wz ?_;obtain⟨x3,h17,hF⟩:=J hF;refine aq ?_;refine Wk.seq ?_;obtain⟨v1,h9,hF⟩:=J hF;refine ct (fun v1 (_:Unit)=>⟨.normal,[(0,mF b0 o1 l1 c0),(1,bK a1 l2 c1),(5,cp a3 n1),(6,aZ v2),(7,an v3),(8,aZ x3),(9,aZ v1),(21,mF b0 o1 l1 c0),(22,eo l1),(23,an v3)],[Jx b0 o1 l1,KU b0 o1 c0 l1,dT a1 c1 l2,pD a3 n1 l6]⟩) v1 ?_ ?_
    ·clear hF;revert v1;intro r hF;refine wz ?_;rcases aa hF with⟨h10,hF⟩|⟨h10,hF⟩
     ·refine wz ?_;obtain⟨h11,hF⟩:=bG hF;refine Wo.bI (k:=2) rfl (aM h11) ?_;rintro b4 o2 rfl;refine wz ?_;obtain⟨x6,h18,hF⟩:=J hF;refine wz ?_;obtain rfl:=Option.some.inj hF;exact ae () [1,2,3,4]
     ·refine wz ?_;cases hF;exact ae () [0,1,2,3]
    ·clear h9;rintro⟨⟩;refine aq ?_;obtain⟨⟨r2,r3⟩,h12,hF⟩:=J hF;refine wc gn (fun m hm=>xT n x3 v1 v2  _ h12 m) ?_;rintro⟨⟩;refine wz ?_;obtain⟨h13,hF⟩:=bG hF;refine Wo.open (k:=3) rfl (aM h13) ?_;rintro b2 t0 rfl h19;refine wz ?_;obtain⟨x4,h14,hF⟩:=J hF;refine Wo.o0 (ew (k:=3) (x1:=x4) (x2:=r2) t26 rfl rfl rfl h14 rfl) ?_;refine aq ?_;cases hF;exact At.en (some ⟨b2,0,none⟩) rfl (sc rfl (sc rfl (sc rfl (sc rfl (sc rfl (sc rfl (sc rfl sn))))))) (ak.trans (ak.close (k:=3) rfl) (ak.aP [1,2,3] rfl rfl))
   ·refine wz ?_;cases hF;exact ae a3 [0,2]
  ·clear h0;obtain⟨l3,n0,v0⟩:=r1;rintro a2;refine aq ?_;obtain⟨h15,hF⟩:=bG hF;refine Wo.open (k:=1) rfl (aM h15) ?_;rintro b3 t1 rfl h20;refine wz ?_;obtain⟨x5,h16,hF⟩:=J hF;refine Wo.o0 (ew (k:=1) (x1:=x5) (x2:=v0) t26 rfl rfl rfl h16 rfl) ?_;refine dC ?_;cases hF;exact At.ret (.tmp rfl .nil) fun m' hm=>⟨((some ⟨b3,0,none⟩),n0),rfl,(ak.trans (ak.close (k:=1) rfl) (ak.aP [1] rfl rfl)) m' hm⟩
theorem DS (n l1 l5 a2 c3 a6 c7 r) (hF:EC n l1 l5=some r) (m) (h4:fS m a2 c3 l1) (h8:fS m a6 c7 l5):
  ax ai 142 [bK a2 l1 c3,bK a6 l5 c7] m (fun v m'=>∃x:Unit,v = .int .i64 r∧Hp m m' []):=by
 unfold EC at hF;refine cw Tryz.func142 (((Hp.start m).i h4).i h8) ?_;refine aq ?_;rcases aa hF with⟨h9,hF⟩|⟨h9,hF⟩
 ·refine aq ?_;cases hF;exact ar () []
 ·refine aq ?_;refine Wk.block ?_;obtain⟨r45,h44,hF⟩:=J hF;refine ct (fun(r:(Int) ⊕ (Unit)) (g:Unit)=>match r,g with | .inl v28,_=>⟨.ret,[(4,an v28)],[]⟩ | .inr _,_=>⟨(.exit 0),[],[]⟩) r45 ?_ ?_
  ·refine lo h44 () [1,0] (fun v11 _=>⟨.normal,[(0,bK a2 l1 c3),(1,bK a6 l5 c7),(5,an v11)],[dT a2 c3 l1,dT a6 c7 l5]⟩) ?_;clear hF h44;rintro v11 ⟨⟩ r hF;unfold k9 at hF;refine wz ?_;rcases aa hF with⟨h29,hF⟩|⟨h29,hF⟩
   ·refine aq ?_;obtain⟨h30,hF⟩:=bG hF;refine Wo.bI (k:=0) rfl (aM h30) ?_;rintro b31 o32 rfl;refine wz ?_;obtain⟨x33,h34,hF⟩:=J hF;refine wz ?_;obtain⟨h35,hF⟩:=bG hF;refine Wo.bI (k:=2) rfl (aM h35) ?_;rintro b36 o37 rfl;refine wz ?_;obtain⟨x38,h39,hF⟩:=J hF;refine wz ?_;rcases aa hF with⟨h40,hF⟩|⟨h40,hF⟩
    ·refine aq ?_;cases hF;exact ae () []
    ·refine wz ?_;obtain⟨h41,hF⟩:=bG hF;refine wz ?_;obtain⟨h42,hF⟩:=bG hF;refine wz ?_;rcases aa hF with⟨h43,hF⟩|⟨h43,hF⟩
     ·refine aq ?_;cases hF;exact ae () []
     ·refine aq ?_;cases hF;exact ae () [2,3]
   ·refine wz ?_;cases hF;exact ae () []
  ·clear h44;rcases r45 with v28|_
   ·rintro⟨⟩;refine wz ?_;obtain rfl:=Option.some.inj hF;exact ar () []
   ·rintro⟨⟩;refine dC ?_;cases hF;exact ar () []
theorem DO (n l1 l2 a1 c0 a0 c1 r) (hF:D9 n l1 l2=some r) (m) (h1:fS m a1 c0 l1) (h2:fS m a0 c1 l2):
  ax ai 143 [bK a1 l1 c0,bK a0 l2 c1] m (fun v m'=>∃x:Option Addr × Nat,v = .slice x.1 x.2 x.2∧Hp m m' [.sl x.1 1 x.2 (r.map (eN .u64))]):=by
 unfold D9 at hF;refine cw Tryz.func143 (((Hp.start m).i h1).i h2) ?_;refine aq ?_;obtain⟨h3,hF⟩:=au hF;obtain⟨h4,hF⟩:=au hF;refine Wo.x (oS (f:=eN .u64) (z0:=(0:Nat)) AF rfl h3 h4 L7 rfl rfl) gn rfl fun b0=>?_;refine dC ?_;refine Wk.block ?_;obtain⟨l3,h0,hF⟩:=J hF;refine ct (fun l3 (_:Unit)=>⟨(.exit 0),[(5,yZ b0 l1)],[Ap b0 l1 l3]⟩) l3 ?_ ?_
 ·refine lo h0 () [1,0,2] (fun(l4,v1,v2) _=>⟨.normal,[(1,bK a0 l2 c1),(5,yZ b0 l1),(6,aZ v1),(13,bK a1 l1 c0),(14,eo l1),(15,an v2)],[dT a0 c1 l2,Ap b0 l1 l4,dT a1 c0 l1]⟩) ?_;clear hF h0;rintro⟨l4,v1,v2⟩ ⟨⟩ r hF;unfold pS at hF;refine wz ?_;refine Wk.seq ?_;rcases aa hF with⟨h5,hF⟩|⟨h5,hF⟩
  ·refine aq ?_;obtain⟨h6,hF⟩:=bG hF;refine Wo.bI (k:=2) rfl (aM h6) ?_;rintro b1 o1 rfl;refine wz ?_;obtain⟨x3,h12,hF⟩:=J hF;refine aq ?_;refine Wk.seq ?_;obtain⟨v0,h7,hF⟩:=J hF;refine ct (fun v0 (_:Unit)=>⟨.normal,[(1,bK a0 l2 c1),(5,yZ b0 l1),(6,aZ v1),(7,an v2),(8,aZ x3),(9,aZ v0),(13,mF b1 o1 l1 c0),(14,eo l1),(15,an v2)],[dT a0 c1 l2,Ap b0 l1 l4,Jx b1 o1 l1,KU b1 o1 c0 l1]⟩) v0 ?_ ?_
   ·clear hF;revert v0;intro r hF;refine wz ?_;rcases aa hF with⟨h8,hF⟩|⟨h8,hF⟩
    ·refine wz ?_;obtain⟨h9,hF⟩:=bG hF;refine Wo.bI (k:=1) rfl (aM h9) ?_;rintro b2 o2 rfl;refine wz ?_;obtain⟨x5,h13,hF⟩:=J hF;refine wz ?_;obtain rfl:=Option.some.inj hF;exact ae () [2,3,1,4]
    ·refine wz ?_;cases hF;exact ae () [1,2,0,3]
   ·clear h7;rintro⟨⟩;refine aq ?_;obtain⟨⟨r0,r1⟩,h10,hF⟩:=J hF;refine wc gn (fun m hm=>Dp n x3 v0 v1  _ h10 m) ?_;rintro⟨⟩;refine wz ?_;obtain⟨h14,hF⟩:=bG hF;refine wz ?_;obtain⟨x4,h11,hF⟩:=J hF;refine Wo.o0 (ew (k:=1) (x1:=x4) (x2:=r0) t26 rfl rfl rfl h11 rfl) ?_;refine aq ?_;cases hF;exact ae () [0,1,3]
  ·refine wz ?_;cases hF;exact ae () [1]
 ·clear h0;rintro⟨⟩;refine dC ?_;obtain rfl:=Option.some.inj hF;exact At.ret (.tmp rfl .nil) fun m' hm=>⟨((some ⟨b0,0,none⟩),((l1.length:Int).toNat)),rfl,(ak.trans (ak.close (k:=0) rfl) (ak.aP [0] rfl rfl)) m' hm⟩
theorem iF (n x1 l2 x7 l8 a3 c4 a9 c10 r) (hF:pB n x1 l2 x7 l8=some r) (m) {H:Nat→Prop} (hH:∀b,H b→b<m.next) (h5:fS m a3 c4 l2) (h6:∀b,ek a3=some b→¬H b) (h11:fS m a9 c10 l8) (h12:∀b,ek a9=some b→¬H b):
  ax ai 111 [iB x1 a3 l2 c4,iB x7 a9 l8 c10] m (fun v m'=>∃x:Option Addr × Nat × Nat,v = .agg #[.bool r.1,.slice x.1 x.2.2 x.2.1]∧Hp m m' [.rd x.1 x.2.1 1 x.2.2 (r.2.map (eN .u64)),cM H]):=by
 unfold pB at hF;refine cw Tryz.func111 (Hp.gL (l0:=[dT a3 c4 l2]) (Hp.gL (l0:=[]) (Hp.dj m hH) rfl h5 h6) rfl h11 h12) ?_;refine wz ?_;refine wb fun b13=>?_;refine wb fun b14=>?_;refine wa fp fun b15=>?_;refine aq ?_;refine Wo.od (aG rfl rfl (LY u4)) rfl ?_;refine wz ?_;rcases aa hF with⟨h16,hF⟩|⟨h16,hF⟩
 ·refine Wk.eQ rfl h16<|Wk.seq<|Wk.bV (prs:=[(1,6)]) (by kernel_rfl)<|Wn.od (bM (r:=ptr b13 0) rfl (iS _ _)) rfl<|Wn.od (aR (k:=2) t4 rfl rfl rfl) rfl<|Wn.od (bM (r:=ptr b13 1) rfl (jW _ _)) rfl<|Wn.od (aR (k:=2) t76 rfl rfl rfl) rfl<|Wn.od (bM (r:=ptr b14 1) rfl (jW _ _)) rfl<|Wn.od (aR (k:=1) t76 rfl rfl rfl) rfl ?_
  obtain⟨l18,h17,hF⟩:=J hF;refine nc gn (fun m hm=>KJ n l2 l8 a3 c4 a9 c10 _ h17 m (hm.q 4) (hm.q 3)) ?_;rintro⟨a19,n20⟩;refine Wn.len (k:=0) (xs:=l18) rfl ?_;rintro rfl;obtain⟨⟨r22,l23⟩,h21,hF⟩:=J hF;refine Wn.cZ (ak.freeze (k:=0) rfl)<|nv gn (fun m hm=>fK n x1 l18 a19 l18.length _ h21 m hm.aB (hm.q 0) (hm.no 0)) ?_;rintro⟨a24,c25,n26⟩;refine Wn.bJ (k:=0) rfl ?_;rintro rfl;refine Wn.o0 (mI (k:=2) t103 rfl rfl rfl rfl rfl)<|Wn.nil (fun m hm=>du.all rfl) ?_;refine aq ?_;cases hF;exact ar (a24,c25,l23.length) [0,7]
 ·refine wz ?_;refine Wk.seq ?_;obtain⟨r42,h41,hF⟩:=J hF;refine ct (fun(v30,l31,v34,l35) ((a32,c33,a36,c37):Option Addr × Nat × Option Addr × Nat)=>⟨.normal,[(2,ptr b13 0),(3,ptr b14 0),(4,ptr b15 0)],[ei b13 v30 a32 l31 c33,dT a32 c33 l31,ei b14 v34 a36 l35 c37,dT a36 c37 l35,eu b15,cM H]⟩) r42 ?_ ?_
  ·clear hF;revert r42;intro r hF;refine wz ?_;obtain⟨r39,h38,hF⟩:=J hF;refine wc gn (fun m hm=>DS n l2 l8 a3 c4 a9 c10 _ h38 m (hm.q 4) (hm.q 3)) ?_;rintro⟨⟩;refine wz ?_;rcases aa hF with⟨h40,hF⟩|⟨h40,hF⟩
   ·refine wz ?_;cases hF;exact ae (a9,c10,a3,c4) [2,3,1,4,0,5]
   ·refine wz ?_;cases hF;exact ae (a3,c4,a9,c10) [2,4,1,3,0,5]
  ·clear h41;obtain⟨v30,l31,v34,l35⟩:=r42;rintro⟨a32,c33,a36,c37⟩;refine At.tn<|Wk.seq<|Wk.bV (prs:=[(1,6)]) (by kernel_rfl)<|Wn.od (bM (r:=ptr b13 0) rfl (iS _ _)) rfl<|Wn.od (aR (k:=0) t4 rfl rfl rfl) rfl<|Wn.od (bM (r:=ptr b13 1) rfl (jW _ _)) rfl<|Wn.od (aR (k:=0) t76 rfl rfl rfl) rfl<|Wn.od (bM (r:=ptr b14 1) rfl (jW _ _)) rfl<|Wn.od (aR (k:=2) t76 rfl rfl rfl) rfl ?_
   obtain⟨l44,h43,hF⟩:=J hF;refine nc gn (fun m hm=>DO n l31 l35 a32 c33 a36 c37 _ h43 m (hm.q 1) (hm.q 3)) ?_;rintro⟨a45,n46⟩;refine Wn.len (k:=0) (xs:=l44) rfl ?_;rintro rfl;obtain⟨⟨r48,l49⟩,h47,hF⟩:=J hF;refine Wn.cZ (ak.freeze (k:=0) rfl)<|nv gn (fun m hm=>fK n v30 l44 a45 l44.length _ h47 m hm.aB (hm.q 0) (hm.no 0)) ?_;rintro⟨a50,c51,n52⟩;refine Wn.bJ (k:=0) rfl ?_;rintro rfl;refine Wn.o0 (mI (k:=6) t103 rfl rfl rfl rfl rfl)<|Wn.nil (fun m hm=>du.all rfl) ?_;refine aq ?_;cases hF;exact ar (a50,c51,l49.length) [0,7]
theorem K1 (n x1 x2 r) (hF:G3 n x1 x2=some r) (m):
  ax ai 167 [aZ x1,aZ x2] m (fun v m'=>∃x:Unit,v = .tuple #[.int .u64 ((r.1:Nat):Int),.int .u64 ((r.2:Nat):Int)]∧Hp m m' []):=by
 unfold G3 at hF;refine cw Tryz.func167 (Hp.start m) ?_;refine dC ?_;refine Wo.od (aG rfl rfl (ca _ _ rfl)) rfl ?_;refine dC ?_;refine Wo.od (aG rfl rfl (ca _ _ rfl)) rfl ?_;refine wz ?_;refine Wk.seq<|Wk.region<|Wo.od (aF rfl) rfl<|Wo.od (aF rfl) rfl ?_;obtain⟨y3,h4,hF⟩:=J hF;refine Wo.od (aG rfl rfl ((dM rfl _ _).trans (cN h4))) rfl ?_;refine wz ?_;refine Wk.seq<|Wk.region<|Wo.od (aF rfl) rfl<|Wo.od (aF rfl) rfl ?_;obtain⟨y5,h6,hF⟩:=J hF;refine Wo.od (aG rfl rfl ((dM rfl _ _).trans (cN h6))) rfl ?_;refine wz ?_;refine Wo.od (aG rfl rfl (ca _ _ rfl)) rfl ?_;refine wz ?_;refine Wk.seq<|Wk.region<|Wo.od (aF rfl) rfl ?_;obtain⟨y7,h8,hF⟩:=J hF;refine Wo.od (aG rfl rfl ((nH rfl _ _).trans (cN h8))) rfl ?_;refine aq ?_;refine Wo.od (aG rfl rfl (ca _ _ rfl)) rfl ?_;refine wz ?_;refine Wk.seq<|Wk.region<|Wo.od (aF rfl) rfl<|Wo.od (aF rfl) rfl<|Wo.od (aF rfl) rfl ?_;obtain⟨y9,h10,hF⟩:=J hF;refine Wo.od (aG rfl rfl ((dM rfl _ _).trans (cN h10))) rfl ?_;refine aq ?_;refine Wo.od (aG rfl rfl (dM rfl _ _)) rfl<|Wo.od (aF rfl) rfl ?_;obtain⟨y11,h12,hF⟩:=J hF;refine Wo.od (aG rfl rfl ((pz rfl _ _).trans (cN h12))) rfl ?_;refine wz ?_;refine Wo.od (aG rfl rfl (ca _ _ rfl)) rfl ?_;refine aq ?_;refine Wo.od (aG rfl rfl (dM rfl _ _)) rfl ?_;refine aq ?_;cases hF;exact ar () []
theorem Ls (n l1 l2 a3 c1 a0 c0 r) (hF:FG n l1 l2=some r) (m) (h2:fS m a3 c1 l1) (h3:fS m a0 c0 l2):
  ax ai 153 [bK a3 l1 c1,bK a0 l2 c0] m (fun v m'=>∃x:Option Addr × Nat,v = .slice x.1 x.2 x.2∧Hp m m' [.sl x.1 1 x.2 (r.map (eN .u64))]):=by
 unfold FG at hF;refine cw Tryz.func153 (((Hp.start m).i h2).i h3) ?_;refine aq ?_;obtain⟨h4,hF⟩:=au hF;obtain⟨h5,hF⟩:=au hF;refine Wo.x (oS (f:=eN .u64) (z0:=(0:Nat)) AF rfl h4 h5 L7 rfl rfl) gn rfl fun b1=>?_;refine aq ?_;refine Wk.block ?_;obtain⟨r0,h0,hF⟩:=J hF;refine ct (fun(l3,n0) (a2:Option Addr)=>⟨(.exit 0),[(5,cp a2 n0)],[pD a2 n0 l3]⟩) r0 ?_ ?_
 ·refine Wk.mH (fs':=[(1,bK a0 l2 c0),(5,.slice (some ⟨b1,0,none⟩) ((IntKind.wrap .i64 ((l1.length:Int)+(l2.length:Int))).toNat) ((IntKind.wrap .i64 ((l1.length:Int)+(l2.length:Int))).toNat)),(22,bK a3 l1 c1),(23,eo l1),(24,.int .i64 0)]) (ps':=[dT a0 c0 l2,.sl (some ⟨b1,0,none⟩) 1 ((IntKind.wrap .i64 ((l1.length:Int)+(l2.length:Int))).toNat) ((List.replicate (IntKind.wrap .i64 ((l1.length:Int)+(l2.length:Int))).toNat (0:Nat)).map (eN .u64)),dT a3 c1 l1]) (sc rfl (sc rfl (sc rfl (sc rfl (sc rfl sn))))) (ak.trans (ak.close (k:=0) rfl) (ak.aP [1,0,2] rfl rfl))<|Wk.loop (σ:=List (Nat) × Nat × Int) (ρ:=List (Nat) × Nat) (γ:=Option Addr) (δ:=fun _=>Option Addr) _ (fun(s:List (Nat) × Nat × Int) (g:Option Addr)=>match s,g with | (l4,n1,v0),a1=>⟨.normal,[(1,bK a0 l2 c0),(5,cp a1 n1),(22,bK a3 l1 c1),(23,eo l1),(24,an v0)],[dT a0 c0 l2,pD a1 n1 l4,dT a3 c1 l1]⟩) (fun(r:List (Nat) × Nat) (g:Option Addr)=>match r,g with | (l3,n0),a2=>⟨(.exit 0),[(5,cp a2 n0)],[pD a2 n0 l3]⟩) ?_ (fun _ _=>rfl) (fun r d=>by intro e; cases e) _ _ _ h0 (some ⟨b1,0,none⟩)
  clear hF h0;rintro⟨l4,n1,v0⟩ a1 r hF;unfold ph at hF;refine wz ?_;refine Wk.seq ?_;rcases aa hF with⟨h6,hF⟩|⟨h6,hF⟩
  ·refine aq ?_;obtain⟨h7,hF⟩:=bG hF;refine Wo.bI (k:=2) rfl (aM h7) ?_;rintro b0 o1 rfl;refine wz ?_;obtain⟨x3,h17,hF⟩:=J hF;refine dC ?_;refine Wk.block ?_;obtain⟨r1,h1,hF⟩:=J hF;refine ct (fun(l5,v1) (_:Unit)=>⟨(.exit 2),[(1,bK a0 l2 c0),(5,cp a1 n1),(6,an v0),(8,aZ v1),(22,mF b0 o1 l1 c1),(23,eo l1),(24,an v0)],[dT a0 c0 l2,pD a1 n1 l5,Jx b0 o1 l1,KU b0 o1 c1 l1]⟩) r1 ?_ ?_
   ·refine lo h1 () [1,2,0,3] (fun(l6,v2,v3) _=>⟨.normal,[(1,bK a0 l2 c0),(5,cp a1 n1),(6,an v0),(7,aZ x3),(8,aZ v2),(22,mF b0 o1 l1 c1),(23,eo l1),(24,an v0),(29,bK a0 l2 c0),(30,eo l2),(31,an v3)],[dT a0 c0 l2,pD a1 n1 l6,Jx b0 o1 l1,KU b0 o1 c1 l1]⟩) ?_;clear hF h1;rintro⟨l6,v2,v3⟩ ⟨⟩ r hF;unfold pL at hF;refine wz ?_;refine Wk.seq ?_;rcases aa hF with⟨h8,hF⟩|⟨h8,hF⟩
    ·refine aq ?_;obtain⟨h9,hF⟩:=bG hF;refine Wo.bI (k:=0) rfl (aM h9) ?_;rintro b3 o2 rfl;refine wz ?_;obtain⟨x5,h18,hF⟩:=J hF;refine aq ?_;obtain⟨⟨r5,r2⟩,h10,hF⟩:=J hF;refine wc gn (fun m hm=>K1 n x3 x5  _ h10 m) ?_;rintro⟨⟩;refine aq ?_;obtain⟨h11,hF⟩:=bG hF;refine Wo.open (k:=2) rfl (aM h11) ?_;rintro b4 t0 rfl h19;refine wz ?_;obtain⟨x4,h12,hF⟩:=J hF;refine wz ?_;obtain⟨⟨r3,r6⟩,h13,hF⟩:=J hF;refine wc gn (fun m hm=>xT n x4 r2 0  _ h13 m) ?_;rintro⟨⟩;refine aq ?_;obtain⟨⟨r4,r7⟩,h14,hF⟩:=J hF;refine wc gn (fun m hm=>xT n r3 v2 0  _ h14 m) ?_;rintro⟨⟩;refine aq ?_;obtain⟨h20,hF⟩:=bG hF;refine wz ?_;refine Wo.o0 (ew (k:=2) (x1:=x4) (x2:=r4) t26 rfl rfl rfl h12 rfl) ?_;refine aq ?_;cases hF;exact At.en () rfl (sc rfl (sc rfl (sc rfl (sc rfl (sc rfl (sc rfl (sc rfl (sc rfl (sc rfl (sc rfl (sc rfl sn))))))))))) (ak.trans (ak.close (k:=2) rfl) (ak.aP [1,2,3,4] rfl rfl))
    ·refine wz ?_;cases hF;exact ae () [0,1,2,3]
   ·clear h1;obtain⟨l5,v1⟩:=r1;rintro⟨⟩;refine aq ?_;obtain⟨h15,hF⟩:=bG hF;refine Wo.open (k:=1) rfl (aM h15) ?_;rintro b2 t1 rfl h21;refine wz ?_;obtain⟨x6,h16,hF⟩:=J hF;refine Wo.o0 (ew (k:=1) (x1:=x6) (x2:=v1) t26 rfl rfl rfl h16 rfl) ?_;refine aq ?_;cases hF;exact At.en (some ⟨b2,0,none⟩) rfl (sc rfl (sc rfl (sc rfl (sc rfl (sc rfl sn))))) (ak.trans (ak.close (k:=1) rfl) (ak.aP [0,1,3] rfl rfl))
  ·refine wz ?_;cases hF;exact ae a1 [1]
 ·clear h0;obtain⟨l3,n0⟩:=r0;rintro a2;refine dC ?_;obtain rfl:=Option.some.inj hF;exact ar (a2,n0) [0]
theorem CN (n x1 l2 x7 l8 a3 c4 a9 c10 r) (hF:Ef n x1 l2 x7 l8=some r) (m) {H:Nat→Prop} (hH:∀b,H b→b<m.next) (h5:fS m a3 c4 l2) (h6:∀b,ek a3=some b→¬H b) (h11:fS m a9 c10 l8) (h12:∀b,ek a9=some b→¬H b):
  ax ai 139 [iB x1 a3 l2 c4,iB x7 a9 l8 c10] m (fun v m'=>∃x:Option Addr × Nat × Nat,v = .agg #[.bool r.1,.slice x.1 x.2.2 x.2.1]∧Hp m m' [.rd x.1 x.2.1 1 x.2.2 (r.2.map (eN .u64)),cM H]):=by
 unfold Ef at hF;refine cw Tryz.func139 (Hp.gL (l0:=[dT a3 c4 l2]) (Hp.gL (l0:=[]) (Hp.dj m hH) rfl h5 h6) rfl h11 h12) ?_;refine wz ?_;refine wb fun b13=>?_;refine wb fun b14=>?_;refine wa fp fun b15=>?_;refine wz ?_;refine Wk.seq<|Wk.bV (prs:=[(1,9),(3,9)]) (by kernel_rfl)<|Wn.od (bM (r:=ptr b13 0) rfl (iS _ _)) rfl<|Wn.od (aR (k:=2) t4 rfl rfl rfl) rfl<|Wn.od (bM (r:=ptr b14 0) rfl (iS _ _)) rfl<|Wn.od (aR (k:=1) t4 rfl rfl rfl) rfl<|Wn.od (aG rfl rfl (LJ u4)) rfl<|Wn.od (bM (r:=ptr b13 1) rfl (jW _ _)) rfl<|Wn.od (aR (k:=2) t76 rfl rfl rfl) rfl<|Wn.od (bM (r:=ptr b14 1) rfl (jW _ _)) rfl<|Wn.od (aR (k:=1) t76 rfl rfl rfl) rfl ?_
 obtain⟨l17,h16,hF⟩:=J hF;refine nc gn (fun m hm=>Ls n l2 l8 a3 c4 a9 c10 _ h16 m (hm.q 4) (hm.q 3)) ?_;rintro⟨a18,n19⟩;refine Wn.len (k:=0) (xs:=l17) rfl ?_;rintro rfl;obtain⟨⟨r21,l22⟩,h20,hF⟩:=J hF;refine Wn.cZ (ak.freeze (k:=0) rfl)<|nv gn (fun m hm=>fK n (!(x1 == x7)) l17 a18 l17.length _ h20 m hm.aB (hm.q 0) (hm.no 0)) ?_;rintro⟨a23,c24,n25⟩;refine Wn.bJ (k:=0) rfl ?_;rintro rfl;refine Wn.o0 (mI (k:=2) t103 rfl rfl rfl rfl rfl)<|Wn.nil (fun m hm=>du.all rfl) ?_;refine aq ?_;cases hF;exact ar (a23,c24,l22.length) [0,7]
theorem Ly (n x1 l2 a3 c4 r) (hF:Fz n x1 l2=some r) (m) {H:Nat→Prop} (hH:∀b,H b→b<m.next) (h5:fS m a3 c4 l2) (h6:∀b,ek a3=some b→¬H b):
  ax ai 118 [iB x1 a3 l2 c4] m (fun v m'=>∃x:Option Addr × Nat × Nat,v = .agg #[.bool r.1,.slice x.1 x.2.2 x.2.1]∧Hp m m' [.rd x.1 x.2.1 1 x.2.2 (r.2.map (eN .u64)),cM H]):=by
 unfold Fz at hF;refine cw Tryz.func118 (Hp.gL (l0:=[]) (Hp.dj m hH) rfl h5 h6) ?_;refine wz ?_;refine wb fun b7=>?_;refine wa fp fun b8=>?_;refine aq ?_;obtain⟨⟨r10,l11⟩,h9,hF⟩:=J hF;refine wv gn (fun m hm=>fK n (!x1) l2 a3 c4 _ h9 m hm.aB (hm.q 2) (hm.no 2)) ?_;rintro⟨a12,c13,n14⟩;refine Wo.bJ (k:=0) rfl ?_;rintro rfl;refine aq ?_;cases hF;exact ar (a12,c13,l11.length) [0,4]
theorem Cf (n x1 l2 x7 l8 a3 c4 a9 c10 r) (hF:OY n x1 l2 x7 l8=some r) (m) {H:Nat→Prop} (hH:∀b,H b→b<m.next) (h5:fS m a3 c4 l2) (h6:∀b,ek a3=some b→¬H b) (h11:fS m a9 c10 l8) (h12:∀b,ek a9=some b→¬H b):
  ax ai 70 [iB x1 a3 l2 c4,iB x7 a9 l8 c10] m (fun v m'=>∃x:Option Addr × Nat × Nat,v = .agg #[.bool r.1,.slice x.1 x.2.2 x.2.1]∧Hp m m' [.rd x.1 x.2.1 1 x.2.2 (r.2.map (eN .u64)),cM H]):=by
 unfold OY at hF;refine cw Tryz.func70 (Hp.gL (l0:=[dT a3 c4 l2]) (Hp.gL (l0:=[]) (Hp.dj m hH) rfl h5 h6) rfl h11 h12) ?_;refine wz ?_;refine wb fun b13=>?_;refine wb fun b14=>?_;refine wa fp fun b15=>?_;refine wz ?_;refine Wk.seq<|Wk.bV (prs:=[(0,2)]) (by kernel_rfl)<|Wn.od (aR (k:=2) t103 rfl rfl rfl) rfl<|Wn.od (aR (k:=1) t103 rfl rfl rfl) rfl ?_
 obtain⟨⟨r17,l18⟩,h16,hF⟩:=J hF;refine nv gn (fun m hm=>Ly n x7 l8 a9 c10 _ h16 m hm.aB (hm.q 3) (hm.no 3)) ?_;rintro⟨a19,c20,n21⟩;refine Wn.bJ (k:=0) rfl ?_;rintro rfl;obtain⟨⟨r23,l24⟩,h22,hF⟩:=J hF;refine nv gn (fun m hm=>iF n x1 l2 r17 l18 a3 c4 a19 c20 _ h22 m hm.aB (hm.q 5) (hm.no 5) (hm.q 0) (hm.no 0)) ?_;rintro⟨a25,c26,n27⟩;refine Wn.bJ (k:=0) rfl ?_;rintro rfl;refine Wn.o0 (mI (k:=2) t103 rfl rfl rfl rfl rfl)<|Wn.nil (fun m hm=>du.all rfl) ?_;refine aq ?_;cases hF;exact ar (a25,c26,l24.length) [0,7]
theorem Dz (n x1 r) (hF:ED n x1=some r) (m):
  ax ai 169 [aZ x1] m (fun v m'=>∃x:Unit,v = .int .i64 r∧Hp m m' []):=by
 unfold ED at hF;refine cw Tryz.func169 (Hp.start m) ?_;refine aq ?_;obtain⟨r3,h2,hF⟩:=J hF;refine wc gn (fun m hm=>Cv n x1  _ h2 m) ?_;rintro⟨⟩;refine aq ?_;cases hF;exact ar () []
theorem KW (n x1 x2 x3 r) (hF:FQ n x1 x2 x3=some r) (m):
  ax ai 156 [aZ x1,aZ x2,aZ x3] m (fun v m'=>∃x:Unit,v = .tuple #[.int .u64 ((r.1:Nat):Int),.int .u64 ((r.2:Nat):Int)]∧Hp m m' []):=by
 unfold FQ at hF;refine cw Tryz.func156 (Hp.start m) ?_;refine aq ?_;rcases aa hF with⟨h4,hF⟩|⟨h4,hF⟩
 ·refine Wk.eQ rfl h4 ?_;cases hF
 ·refine aq ?_;rcases aa hF with⟨h5,hF⟩|⟨h5,hF⟩
  ·refine Wk.eQ rfl h5 ?_;cases hF
  ·refine aq ?_;rcases aa hF with⟨h6,hF⟩|⟨h6,hF⟩
   ·refine wz ?_;obtain⟨h7,hF⟩:=au hF;refine Wo.od (aG rfl rfl (sr rfl _ _ (of_decide_eq_true h7))) rfl ?_;refine wz ?_;obtain⟨h8,hF⟩:=au hF;refine Wo.od (aG rfl rfl (kZ _ _ (of_decide_eq_true h8))) rfl ?_;refine aq ?_;cases hF;exact ar () []
   ·refine aq ?_;obtain⟨r1,h9,hF⟩:=J hF;refine wc gn (fun m hm=>Dz n x3  _ h9 m) ?_;rintro⟨⟩;refine Wo.od (fq rfl (oR (by rw[u3]; rfl) Ij rfl)) rfl ?_
    refine aq ?_;refine Wo.od (aG rfl rfl (nk rfl _ _ (nn _))) rfl ?_;refine aq ?_;refine Wo.od (aG rfl rfl (ca _ _ rfl)) rfl ?_;refine dC ?_;refine Wo.od (aG rfl rfl (nk rfl _ _ (nn _))) rfl ?_;refine wz ?_;refine Wo.od (aG rfl rfl (ca _ _ (nn _))) rfl ?_;obtain⟨y2,h10,hF⟩:=J hF;refine Wo.od (aG rfl rfl ((vd rfl _ _).trans (cN h10))) rfl ?_;refine aq ?_;refine Wo.od (aG rfl rfl (nk rfl _ _ (nn _))) rfl ?_;refine aq ?_;refine Wo.od (aG rfl rfl (ca _ _ rfl)) rfl ?_;refine dC ?_;obtain⟨h11,hF⟩:=au hF;refine Wo.od (aG rfl rfl (sr rfl _ _ (of_decide_eq_true h11))) rfl ?_;refine wz ?_;refine Wk.seq<|Wk.region<|Wo.od (aF rfl) rfl<|Wo.od (aF rfl) rfl<|Wo.od (aF rfl) rfl ?_;obtain⟨y4,h12,hF⟩:=J hF;refine Wo.od (aG rfl rfl ((dM rfl _ _).trans (cN h12))) rfl ?_;refine wz ?_;refine Wk.seq<|Wk.block ?_;obtain⟨r0,h0,hF⟩:=J hF;refine ct (fun(v0,v1,v4,v5,v19,v2,v3) (_:Unit)=>⟨(.exit 0),[(2,aZ v0),(8,aZ v1),(9,aZ v4),(10,aZ v5),(11,aZ y2),(13,aZ v19),(14,aZ v2),(15,aZ v3)],[]⟩) r0 ?_ ?_
    ·refine lo h0 () [] (fun(v8,v9,v10,v11,v12,v13,v14,v15) _=>⟨.normal,[(2,aZ v8),(8,aZ v9),(9,aZ v10),(10,aZ v11),(11,aZ y2),(13,aZ v12),(14,aZ v13),(15,aZ v14),(16,aZ v15)],[]⟩) ?_;clear hF h0;rintro⟨v8,v9,v10,v11,v12,v13,v14,v15⟩ ⟨⟩ r hF;unfold rG at hF;refine Wk.seq<|Wk.seq ?_;obtain⟨v6,h13,hF⟩:=J hF;refine ct (fun v6 (_:Unit)=>⟨.normal,[(2,aZ v8),(8,aZ v9),(9,aZ v10),(10,aZ v11),(11,aZ y2),(13,aZ v12),(14,aZ v13),(15,aZ v14),(16,aZ v15),(78,cz v6)],[]⟩) v6 ?_ ?_
     ·clear hF;revert v6;intro r hF;refine wz ?_;rcases aa hF with⟨h1,hF⟩|⟨h1,hF⟩
      ·refine wz ?_;cases hF;exact ae () []
      ·refine wz ?_;refine Wo.og (aG rfl rfl (dM rfl _ _)) (gg rfl rfl (dm h1)) rfl ?_;refine wz ?_;refine Wo.og (aG rfl rfl (dM rfl _ _)) (gg rfl rfl (dm h1)) rfl ?_;refine wz ?_;cases hF;exact ae () []
     ·clear h13;rintro⟨⟩;refine At.tn ?_;rcases aa hF with⟨h14,hF⟩|⟨h14,hF⟩
      ·refine QZ ?_;rcases aa hF with⟨h15,hF⟩|⟨h15,hF⟩
       ·refine wz ?_;cases hF;exact ae () []
       ·refine wz ?_;cases hF;exact ae () []
      ·refine wz ?_;cases hF;exact ae () []
    ·clear h0;obtain⟨v0,v1,v4,v5,v19,v2,v3⟩:=r0;rintro⟨⟩;refine aq ?_;refine Wo.od (aG rfl rfl (dM rfl _ _)) rfl ?_;refine wz ?_;refine Wo.od (aG rfl rfl (dM rfl _ _)) rfl ?_;obtain⟨y3,h16,hF⟩:=J hF;refine Wo.od (aG rfl rfl ((wM rfl _ _).trans (cN h16))) rfl ?_;refine aq ?_;obtain⟨h17,hF⟩:=au hF;refine Wo.od (aG rfl rfl (sr rfl _ _ (of_decide_eq_true h17))) rfl ?_;refine aq ?_;refine Wo.od (aG rfl rfl (dM rfl _ _)) rfl ?_;refine wz ?_;refine Wk.seq<|Wk.block ?_;obtain⟨v16,h2,hF⟩:=J hF;refine ct (fun v16 (_:Unit)=>⟨(.exit 2),[(2,aZ v0),(8,aZ v1),(14,aZ v2),(15,aZ v3),(17,aZ y3),(18,aZ v16)],[]⟩) v16 ?_ ?_
     ·refine lo h2 () [] (fun(v17,v18) _=>⟨.normal,[(2,aZ v0),(8,aZ v1),(9,aZ v4),(10,aZ v5),(14,aZ v2),(15,aZ v3),(16,aZ v17),(17,aZ y3),(18,aZ v18)],[]⟩) ?_;clear hF h2;rintro⟨v17,v18⟩ ⟨⟩ r hF;unfold e9 at hF;refine Wk.seq<|Wk.seq ?_;obtain⟨v7,h18,hF⟩:=J hF;refine ct (fun v7 (_:Unit)=>⟨.normal,[(2,aZ v0),(8,aZ v1),(9,aZ v4),(10,aZ v5),(14,aZ v2),(15,aZ v3),(16,aZ v17),(17,aZ y3),(18,aZ v18),(113,cz v7)],[]⟩) v7 ?_ ?_
      ·clear hF;revert v7;intro r hF;refine wz ?_;rcases aa hF with⟨h3,hF⟩|⟨h3,hF⟩
       ·refine wz ?_;cases hF;exact ae () []
       ·refine wz ?_;refine Wo.og (aG rfl rfl (dM rfl _ _)) (gg rfl rfl (dm h3)) rfl ?_;refine wz ?_;refine Wo.og (aG rfl rfl (dM rfl _ _)) (gg rfl rfl (dm h3)) rfl ?_;refine wz ?_;cases hF;exact ae () []
      ·clear h18;rintro⟨⟩;refine At.tn ?_;rcases aa hF with⟨h19,hF⟩|⟨h19,hF⟩
       ·refine QZ ?_;rcases aa hF with⟨h20,hF⟩|⟨h20,hF⟩
        ·refine wz ?_;cases hF;exact ae () []
        ·refine wz ?_;cases hF;exact ae () []
       ·refine wz ?_;cases hF;exact ae () []
     ·clear h2;rintro⟨⟩;refine aq ?_;refine Wo.od (aG rfl rfl (dM rfl _ _)) rfl ?_;refine wz ?_;refine Wo.od (aG rfl rfl (dM rfl _ _)) rfl ?_;refine wz ?_;refine Wo.od (aG rfl rfl (dM rfl _ _)) rfl ?_;obtain⟨y5,h21,hF⟩:=J hF;refine Wo.od (aG rfl rfl ((wM rfl _ _).trans (cN h21))) rfl ?_;refine wz ?_;refine Wo.od (aG rfl rfl (ca _ _ (nn _))) rfl ?_;refine aq ?_;cases hF;exact ar () []
theorem CM (n l1 a2 c3 r) (hF:JL n l1=some r) (m) (h4:fS m a2 c3 l1):
  ax ai 157 [bK a2 l1 c3] m (fun v m'=>∃x:Unit,v = .int .i64 r∧Hp m m' []):=by
 unfold JL at hF;refine cw Tryz.func157 ((Hp.start m).i h4) ?_;refine aq ?_;rcases aa hF with⟨h5,hF⟩|⟨h5,hF⟩
 ·refine aq ?_;cases hF;exact ar () []
 ·refine aq ?_;refine Wo.od (aG rfl rfl (rB _ _ _)) rfl ?_;refine wz ?_;obtain⟨h6,hF⟩:=bG hF;refine Wo.bI (k:=0) rfl (aM h6) ?_;rintro b7 o8 rfl;refine wz ?_;obtain⟨x9,h10,hF⟩:=J hF;refine wz ?_;obtain⟨r12,h11,hF⟩:=J hF;refine wc gn (fun m hm=>Dz n x9  _ h11 m) ?_;rintro⟨⟩;refine aq ?_;cases hF;exact ar () []
theorem K3 (n l1 x3 a0 c0 r) (hF:M7 n l1 x3=some r) (m) {H:Nat→Prop} (hH:∀b,H b→b<m.next) (h1:fS m a0 c0 l1) (h2:∀b,ek a0=some b→¬H b):
  ax ai 158 [bK a0 l1 c0,an x3] m (fun v m'=>∃x:Option Addr × Nat × Nat,v = .slice x.1 x.2.2 x.2.1∧Hp m m' [.rd x.1 x.2.1 1 x.2.2 (r.map (eN .u64)),cM H]):=by
 unfold M7 at hF;refine cw Tryz.func158 (Hp.gL (l0:=[]) (Hp.dj m hH) rfl h1 h2) ?_;refine aq ?_;refine Wo.od (aG rfl rfl (lK _ _ (by decide))) rfl ?_
 obtain⟨y2,h3,hF⟩:=J hF;refine Wo.od (aG rfl rfl ((eB _ _ _).trans (cI h3))) rfl ?_;refine wz ?_;obtain⟨h4,hF⟩:=au hF;obtain⟨h5,hF⟩:=au hF;refine Wo.x (oS (f:=eN .u64) (z0:=(0:Nat)) AF rfl h4 h5 L7 rfl rfl) gn rfl fun b0=>?_;refine aq ?_;refine Wk.block ?_;obtain⟨r0,h0,hF⟩:=J hF;refine ct (fun(l2,n0) (a1:Option Addr)=>⟨(.exit 0),[(5,cp a1 n0)],[pD a1 n0 l2,cM H]⟩) r0 ?_ ?_
 ·refine Wk.mH (fs':=[(1,an x3),(5,.slice (some ⟨b0,0,none⟩) ((IntKind.wrap .i64 (y2+1)).toNat) ((IntKind.wrap .i64 (y2+1)).toNat)),(15,bK a0 l1 c0),(16,eo l1),(17,.int .i64 0)]) (ps':=[.sl (some ⟨b0,0,none⟩) 1 ((IntKind.wrap .i64 (y2+1)).toNat) ((List.replicate (IntKind.wrap .i64 (y2+1)).toNat (0:Nat)).map (eN .u64)),dT a0 c0 l1,cM H]) (sc rfl (sc rfl (sc rfl (sc rfl (sc rfl sn))))) (ak.trans (ak.close (k:=0) rfl) (ak.aP [0,1,2] rfl rfl))<|Wk.loop (σ:=List (Nat) × Nat × Int) (ρ:=List (Nat) × Nat) (γ:=Option Addr) (δ:=fun _=>Option Addr) _ (fun(s:List (Nat) × Nat × Int) (g:Option Addr)=>match s,g with | (l4,n1,v0),a2=>⟨.normal,[(1,an x3),(5,cp a2 n1),(15,bK a0 l1 c0),(16,eo l1),(17,an v0)],[pD a2 n1 l4,dT a0 c0 l1,cM H]⟩) (fun(r:List (Nat) × Nat) (g:Option Addr)=>match r,g with | (l2,n0),a1=>⟨(.exit 0),[(5,cp a1 n0)],[pD a1 n0 l2,cM H]⟩) ?_ (fun _ _=>rfl) (fun r d=>by intro e; cases e) _ _ _ h0 (some ⟨b0,0,none⟩)
  clear hF h0;rintro⟨l4,n1,v0⟩ a2 r hF;unfold Ib at hF;refine wz ?_;refine Wk.seq ?_;rcases aa hF with⟨h6,hF⟩|⟨h6,hF⟩
  ·refine wz ?_;refine Wk.seq ?_;obtain⟨l3,h7,hF⟩:=J hF;refine ct (fun l3 (_:Unit)=>⟨.normal,[(1,an x3),(5,cp a2 n1),(15,bK a0 l1 c0),(16,eo l1),(17,an v0)],[pD a2 n1 l3,dT a0 c0 l1,cM H]⟩) l3 ?_ ?_
   ·clear hF;revert l3;intro r hF;refine wz ?_;obtain⟨h8,hF⟩:=bG hF;refine Wo.bI (k:=1) rfl (aM h8) ?_;rintro b1 o1 rfl;refine wz ?_;obtain⟨x4,h18,hF⟩:=J hF;refine aq ?_;refine Wo.od (aG rfl rfl (lK _ _ (by decide))) rfl ?_
    refine wz ?_;obtain⟨h9,hF⟩:=bG hF;refine Wo.open (k:=1) rfl (aM h9) ?_;rintro b2 t0 rfl h19;refine wz ?_;obtain⟨x5,h10,hF⟩:=J hF;refine wz ?_;refine Wo.od (aG rfl rfl (gq _ _ (by decide))) rfl ?_
    obtain⟨h11,hF⟩:=au hF;refine Wo.od (aG rfl rfl (nk rfl _ _ h11)) rfl ?_;obtain⟨y3,h12,hF⟩:=J hF;refine Wo.od (aG rfl rfl ((vd rfl _ _).trans (cN h12))) rfl ?_;obtain⟨h20,hF⟩:=bG hF;refine wz ?_;refine Wo.o0 (ew (k:=1) (x1:=x5) (x2:=y3) t26 rfl rfl rfl h10 rfl) ?_;refine aq ?_;refine Wo.od (aG rfl rfl (gq _ _ (by decide))) rfl ?_
    refine wz ?_;rcases aa hF with⟨h13,hF⟩|⟨h13,hF⟩
    ·refine wz ?_;refine Wo.od (aG rfl rfl (lK _ _ (by decide))) rfl<|Wo.od (aG rfl rfl (eB _ _ _)) rfl ?_
     obtain⟨y4,h14,hF⟩:=J hF;refine Wo.od (aG rfl rfl ((eB _ _ _).trans (cI h14))) rfl ?_;refine wz ?_;refine Wo.od (aG rfl rfl (gq _ _ (by decide))) rfl ?_
     refine wz ?_;obtain⟨h15,hF⟩:=au hF;refine Wo.od (aG rfl rfl (ca _ _ h15)) rfl ?_;obtain⟨h21,hF⟩:=bG hF;refine wz ?_;obtain⟨x6,h16,hF⟩:=J hF;refine Wo.o0 (ew (k:=1) (x1:=x6) (x2:=bH .u64 x4 (IntKind.wrap .i64 (64-(Int.tmod x3 64))).toNat) t26 rfl rfl rfl h16 rfl) ?_;refine wz ?_;cases hF;exact At.en () rfl (sc rfl (sc rfl (sc rfl (sc rfl (sc rfl sn))))) (ak.trans (ak.close (k:=1) rfl) (ak.aP [1,2,3] rfl rfl))
    ·refine wz ?_;cases hF;exact At.en () rfl (sc rfl (sc rfl (sc rfl (sc rfl (sc rfl sn))))) (ak.trans (ak.close (k:=1) rfl) (ak.aP [1,2,3] rfl rfl))
   ·clear h7;rintro⟨⟩;refine aq ?_;cases hF;exact ae a2 [0,1,2]
  ·refine wz ?_;cases hF;exact ae a2 [0,2]
 ·clear h0;obtain⟨l2,n0⟩:=r0;rintro a1;refine aq ?_;obtain⟨⟨r1,l5⟩,h17,hF⟩:=J hF;refine Wo.cZ (ak.freeze (k:=0) rfl) ?_;have hFx:=hF;refine Wo.bJ (k:=0) (xs:=(l2:List (Nat))) rfl ?_;rintro rfl;replace hF:=hFx;clear hFx;refine wv gn (fun m hm=>fK n false l2 a1 l2.length _ h17 m hm.aB (hm.q 0) (hm.no 0)) ?_;rintro⟨a3,c1,n2⟩;refine Wo.bJ (k:=0) rfl ?_;rintro rfl;refine Wo.od (O2 rfl ((xc _).trans (pt t76 rfl))) rfl ?_;refine aq ?_;obtain rfl:=Option.some.inj hF;exact ar (a3,c1,l5.length) [0,2]
theorem KI (n l1 l2 a1 c1 a0 c0 r) (hF:G9 n l1 l2=some r) (m) {H:Nat→Prop} (hH:∀b,H b→b<m.next) (h2:fS m a1 c1 l1) (h3:∀b,ek a1=some b→¬H b) (h4:fS m a0 c0 l2) (h5:∀b,ek a0=some b→¬H b):
  ax ai 145 [bK a1 l1 c1,bK a0 l2 c0] m (fun v m'=>∃x:Option Addr × Nat × Nat × Option Addr × Nat × Nat,v = .tuple #[.slice x.1 x.2.2.1 x.2.1,.slice x.2.2.2.1 x.2.2.2.2.2 x.2.2.2.2.1]∧Hp m m' [.rd x.1 x.2.1 1 x.2.2.1 (r.1.map (eN .u64)),.rd x.2.2.2.1 x.2.2.2.2.1 1 x.2.2.2.2.2 (r.2.map (eN .u64)),cM H]):=by
 unfold G9 at hF;refine cw Tryz.func145 (Hp.gL (l0:=[dT a1 c1 l1]) (Hp.gL (l0:=[]) (Hp.dj m hH) rfl h2 h3) rfl h4 h5) ?_;refine aq ?_;obtain⟨h6,hF⟩:=au hF;obtain⟨h7,hF⟩:=au hF;refine Wo.x (oS (f:=eN .u64) (z0:=(0:Nat)) AF rfl h6 h7 L7 rfl rfl) gn rfl fun b0=>?_;refine aq ?_;rcases aa hF with⟨h8,hF⟩|⟨h8,hF⟩
 ·refine aq ?_;refine Wk.block ?_;obtain⟨r1,h0,hF⟩:=J hF;refine ct (fun(l7,v0) (_:Unit)=>⟨(.exit 0),[(4,yZ b0 l1),(6,aZ v0)],[Ap b0 l1 l7,cM H]⟩) r1 ?_ ?_
  ·refine lo h0 () [2,1,0,3] (fun(l8,v2,v3) _=>⟨.normal,[(0,bK a1 l1 c1),(1,bK a0 l2 c0),(4,yZ b0 l1),(6,aZ v2),(7,an v3)],[dT a1 c1 l1,dT a0 c0 l2,Ap b0 l1 l8,cM H]⟩) ?_;clear hF h0;rintro⟨l8,v2,v3⟩ ⟨⟩ r hF;unfold pI at hF;refine wz ?_;rcases aa hF with⟨h9,hF⟩|⟨h9,hF⟩
   ·refine aq ?_;obtain⟨h10,hF⟩:=bG hF;refine Wo.bI (k:=0) rfl (aM h10) ?_;rintro b2 o1 rfl;refine wz ?_;obtain⟨x3,h27,hF⟩:=J hF;refine wz ?_;obtain⟨h11,hF⟩:=bG hF;refine Wo.bI (k:=2) rfl (aM h11) ?_;rintro b3 o2 rfl;refine wz ?_;obtain⟨x4,h28,hF⟩:=J hF;refine wz ?_;obtain⟨⟨r3,r4⟩,h12,hF⟩:=J hF;refine wc gn (fun m hm=>KW n v2 x3 x4  _ h12 m) ?_;rintro⟨⟩;refine wz ?_;obtain⟨h29,hF⟩:=bG hF;refine wz ?_;obtain⟨x5,h13,hF⟩:=J hF;refine Wo.o0 (ew (k:=4) (x1:=x5) (x2:=r3) t26 rfl rfl rfl h13 rfl) ?_;refine aq ?_;cases hF;exact ae () [2,3,4,5]
   ·refine wz ?_;cases hF;exact ae () [2,3]
  ·clear h0;obtain⟨l7,v0⟩:=r1;rintro⟨⟩;refine aq ?_;refine Wo.x (kH (es:=([v0]:List (Nat)).map (eN .u64)) AF rfl (ia AF L7 rfl rfl) rfl rfl) gn rfl fun b1=>?_;obtain⟨⟨r5,l13⟩,h14,hF⟩:=J hF;refine Wo.cZ (ak.close (k:=0) rfl)<|Wo.cZ (ak.freeze (k:=0) rfl)<|wv gn (fun m hm=>fK n false ([v0]) (some ⟨b1,0,none⟩) 1 _ h14 m hm.aB (hm.q 0) (hm.no 0)) ?_;rintro⟨a6,c6,n0⟩;refine Wo.bJ (k:=0) rfl ?_;rintro rfl;refine Wo.od (O2 rfl ((xc _).trans (pt t76 rfl))) rfl ?_;refine aq ?_;cases hF;exact At.ret (.tmp rfl (.tmp rfl .nil)) fun m' hm=>⟨((some ⟨b0,0,none⟩),((l1.length:Int).toNat),((l1.length:Int).toNat),a6,c6,l13.length),rfl,(ak.trans (ak.close (k:=2) rfl) (ak.trans (ak.freeze (k:=2) rfl) (ak.aP [2,0,3] rfl rfl))) m' hm⟩
 ·refine dC ?_;obtain⟨r6,h15,hF⟩:=J hF;refine wc gn (fun m hm=>CM n l1 a1 c1 _ h15 m (hm.q 2)) ?_;rintro⟨⟩;refine wz ?_;obtain⟨r7,h16,hF⟩:=J hF;refine wc gn (fun m hm=>CM n l2 a0 c0 _ h16 m (hm.q 1)) ?_;rintro⟨⟩;refine wz ?_;refine Wk.block ?_;obtain⟨r2,h1,hF⟩:=J hF;refine ct (fun(l9,l4) ((a3,c3):Option Addr × Nat)=>⟨(.exit 2),[(4,yZ b0 l1),(5,bK a3 l4 c3)],[Ap b0 l1 l9,dT a3 c3 l4,cM H]⟩) r2 ?_ ?_
  ·refine lo h1 (a1,c1) [1,0,2,3] (fun(l10,l3,v1) ((a2,c2):Option Addr × Nat)=>⟨.normal,[(1,bK a0 l2 c0),(4,yZ b0 l1),(5,bK a2 l3 c2),(8,an v1)],[dT a0 c0 l2,Ap b0 l1 l10,dT a2 c2 l3,cM H]⟩) ?_;clear hF h1;rintro⟨l10,l3,v1⟩ ⟨a2,c2⟩ r hF;unfold GS at hF;refine wz ?_;rcases aa hF with⟨h17,hF⟩|⟨h17,hF⟩
   ·refine wz ?_;refine Wk.seq ?_;obtain⟨r0,h18,hF⟩:=J hF;refine ct (fun(l11,l5) ((a4,c4):Option Addr × Nat)=>⟨.normal,[(1,bK a0 l2 c0),(4,yZ b0 l1),(5,bK a4 l5 c4),(8,an v1)],[dT a0 c0 l2,Ap b0 l1 l11,dT a4 c4 l5,cM H]⟩) r0 ?_ ?_
    ·clear hF;revert r0;intro r hF;refine wz ?_;obtain⟨l12,h19,hF⟩:=J hF;refine wv gn (fun m hm=>K3 n l2 v1 a0 c0 _ h19 m hm.aB (hm.q 0) (hm.no 0)) ?_;rintro⟨a5,c5,n1⟩;refine Wo.bJ (k:=0) rfl ?_;rintro rfl;refine aq ?_;obtain⟨r8,h20,hF⟩:=J hF;refine wc gn (fun m hm=>DS n l3 l12 a2 c2 a5 c5 _ h20 m (hm.q 3) (hm.q 0)) ?_;rintro⟨⟩;refine wz ?_;rcases aa hF with⟨h21,hF⟩|⟨h21,hF⟩
     ·refine wz ?_;obtain⟨l6,h22,hF⟩:=J hF;refine wc gn (fun m hm=>DO n l3 l12 a2 c2 a5 c5 _ h22 m (hm.q 3) (hm.q 0)) ?_;rintro⟨a7,n2⟩;refine Wo.len (k:=0) (xs:=l6) rfl ?_;rintro rfl;obtain⟨⟨r9,l14⟩,h23,hF⟩:=J hF;refine Wo.cZ (ak.freeze (k:=0) rfl)<|wv gn (fun m hm=>fK n false l6 a7 l6.length _ h23 m hm.aB (hm.q 0) (hm.no 0)) ?_;rintro⟨a8,c7,n4⟩;refine Wo.bJ (k:=0) rfl ?_;rintro rfl;refine Wo.od (O2 rfl ((xc _).trans (pt t76 rfl))) rfl ?_;refine aq ?_;refine Wo.od (aG rfl rfl (lK _ _ (by decide))) rfl ?_
      obtain⟨h30,hF⟩:=bG hF;refine wz ?_;obtain⟨x6,h24,hF⟩:=J hF;refine wz ?_;refine Wo.od (aG rfl rfl (gq _ _ (by decide))) rfl ?_
      obtain⟨h25,hF⟩:=au hF;refine Wo.od (aG rfl rfl (nk rfl _ _ h25)) rfl ?_;obtain⟨y2,h26,hF⟩:=J hF;refine Wo.od (aG rfl rfl ((vd rfl _ _).trans (cN h26))) rfl ?_;obtain⟨h31,hF⟩:=bG hF;refine wz ?_;refine Wo.o0 (ew (k:=4) (x1:=x6) (x2:=y2) t26 rfl rfl rfl h24 rfl) ?_;refine wz ?_;cases hF;exact ae (a8,c7) [3,4,0,6]
     ·refine wz ?_;cases hF;exact ae (a2,c2) [1,2,3,4]
    ·clear h18;obtain⟨l11,l5⟩:=r0;rintro⟨a4,c4⟩;refine aq ?_;cases hF;exact ae (a4,c4) [0,1,2,3]
   ·refine wz ?_;cases hF;exact ae (a2,c2) [1,2,3]
  ·clear h1;obtain⟨l9,l4⟩:=r2;rintro⟨a3,c3⟩;refine dC ?_;cases hF;exact At.ret (.tmp rfl (.tmp rfl .nil)) fun m' hm=>⟨((some ⟨b0,0,none⟩),((l1.length:Int).toNat),((l1.length:Int).toNat),a3,c3,l4.length),rfl,(ak.trans (ak.close (k:=0) rfl) (ak.trans (ak.freeze (k:=0) rfl) (ak.aP [0,1,2] rfl rfl))) m' hm⟩
theorem JZ (n x1 l2 x7 l8 a3 c4 a9 c10 r) (hF:IN n x1 l2 x7 l8=some r) (m) {H:Nat→Prop} (hH:∀b,H b→b<m.next) (h5:fS m a3 c4 l2) (h6:∀b,ek a3=some b→¬H b) (h11:fS m a9 c10 l8) (h12:∀b,ek a9=some b→¬H b):
  ax ai 117 [iB x1 a3 l2 c4,iB x7 a9 l8 c10] m (fun v m'=>∃x:Option Addr × Nat × Nat × Option Addr × Nat × Nat,v = .tuple #[.agg #[.bool r.1,.slice x.1 x.2.2.1 x.2.1],.agg #[.bool r.2.2.1,.slice x.2.2.2.1 x.2.2.2.2.2 x.2.2.2.2.1]]∧Hp m m' [.rd x.1 x.2.1 1 x.2.2.1 (r.2.1.map (eN .u64)),.rd x.2.2.2.1 x.2.2.2.2.1 1 x.2.2.2.2.2 (r.2.2.2.map (eN .u64)),cM H]):=by
 unfold IN at hF;refine cw Tryz.func117 (Hp.gL (l0:=[dT a3 c4 l2]) (Hp.gL (l0:=[]) (Hp.dj m hH) rfl h5 h6) rfl h11 h12) ?_;refine wz ?_;refine wb fun b13=>?_;refine wb fun b14=>?_;refine wa fp fun b15=>?_;refine wa fp fun b16=>?_;refine aq ?_;obtain⟨⟨l18,l22⟩,h17,hF⟩:=J hF;refine Wo.x (LG (N:=(fun x:Option Addr × Nat × Nat × Option Addr × Nat × Nat=>[.rd x.1 x.2.1 1 x.2.2.1 (l18.map (eN .u64)),.rd x.2.2.2.1 x.2.2.2.2.1 1 x.2.2.2.2.2 (l22.map (eN .u64))])) rfl rfl (fun m hm=>KI n l2 l8 a3 c4 a9 c10 _ h17 m hm.aB (hm.q 5) (hm.no 5) (hm.q 4) (hm.no 4)) fun _=>rfl) gn rfl ?_;rintro⟨a19,c20,n21,a23,c24,n25⟩;refine Wo.bJ (k:=0) rfl ?_;rintro rfl;refine Wo.bJ (k:=1) rfl ?_;rintro rfl;refine wz ?_;refine Wk.seq<|Wk.bV (prs:=[(6,8)]) (by kernel_rfl)<|Wn.od (bM (r:=ptr b13 0) rfl (iS _ _)) rfl<|Wn.od (aR (k:=5) t4 rfl rfl rfl) rfl<|Wn.od (bM (r:=ptr b14 0) rfl (iS _ _)) rfl<|Wn.od (aR (k:=4) t4 rfl rfl rfl) rfl ?_
 refine Wn.od (aG rfl rfl (LJ u4)) rfl<|Wn.od (aF rfl) rfl ?_;obtain⟨⟨r27,l28⟩,h26,hF⟩:=J hF;refine nv gn (fun m hm=>fK n (!(x1 == x7)) l18 a19 c20 _ h26 m hm.aB (hm.q 0) (hm.no 0)) ?_;rintro⟨a29,c30,n31⟩;refine Wn.bJ (k:=0) rfl ?_;rintro rfl;refine Wn.od (bM (r:=ptr b13 0) rfl (iS _ _)) rfl<|Wn.od (aR (k:=6) t4 rfl rfl rfl) rfl<|Wn.od (aF rfl) rfl ?_;obtain⟨⟨r33,l34⟩,h32,hF⟩:=J hF;refine nv gn (fun m hm=>fK n x1 l22 a23 c24 _ h32 m hm.aB (hm.q 2) (hm.no 2)) ?_;rintro⟨a35,c36,n37⟩;refine Wn.bJ (k:=0) rfl ?_;rintro rfl;refine Wn.o0 (mI (k:=5) t103 rfl rfl rfl rfl rfl)<|Wn.o0 (mI (k:=4) t103 rfl rfl rfl rfl rfl)<|Wn.nil (fun m hm=>du.all rfl)<|At.tn<|Wk.seq ?_;obtain⟨r79,h78,hF⟩:=J hF;refine ct (fun(v54,l55,v58,l59) ((a56,c57,a60,c61):Option Addr × Nat × Option Addr × Nat)=>⟨.normal,[(4,ptr b15 0),(5,ptr b16 0)],[ei b15 v54 a56 l55 c57,dT a56 c57 l55,ei b16 v58 a60 l59 c61,dT a60 c61 l59,cM H]⟩) r79 ?_ ?_
 ·clear hF;revert r79;intro r hF;refine wz ?_;rcases aa hF with⟨h62,hF⟩|⟨h62,hF⟩
  ·refine wz ?_;refine Wo.od (fX rfl fp rfl (fY Dc rfl rfl rfl)) rfl<|wa fp fun b63=>?_;refine aq ?_;obtain⟨⟨r65,l66⟩,h64,hF⟩:=J hF;refine wv gn (fun m hm=>iF n r33 l34 false l8 a35 c36 a9 c10 _ h64 m hm.aB (hm.q 1) (hm.no 1) (hm.q 9) (hm.no 9)) ?_;rintro⟨a67,c68,n69⟩;refine Wo.bJ (k:=0) rfl ?_;rintro rfl;refine aq ?_;refine Wo.x (kH (es:=([1]:List (Nat)).map (eN .u64)) AF rfl (ia AF L7 rfl rfl) rfl rfl) gn rfl fun b70=>?_;refine Wo.od (fX rfl fp rfl (fY Dc rfl rfl rfl)) rfl<|wa fp fun b71=>?_;refine aq ?_;obtain⟨⟨r73,l74⟩,h72,hF⟩:=J hF;refine Wo.cZ (ak.close (k:=1) rfl)<|Wo.cZ (ak.freeze (k:=1) rfl)<|wv gn (fun m hm=>iF n r27 l28 (!x7) ([1]) a29 c30 (some ⟨b70,0,none⟩) 1 _ h72 m hm.aB (hm.q 5) (hm.no 5) (hm.q 1) (hm.no 1)) ?_;rintro⟨a75,c76,n77⟩;refine Wo.bJ (k:=0) rfl ?_;rintro rfl;refine wz ?_;cases hF;exact ae (a75,c76,a67,c68) [10,0,9,3,15]
  ·refine wz ?_;cases hF;exact ae (a29,c30,a35,c36) [5,1,4,0,10]
 ·clear h78;obtain⟨v54,l55,v58,l59⟩:=r79;rintro⟨a56,c57,a60,c61⟩;refine At.tn<|Wk.seq<|Wk.bV (prs:=[(1,2)]) (by kernel_rfl)<|Wn.od (aR (k:=0) t103 rfl rfl rfl) rfl<|Wn.Np rfl (aR (k:=2) t103 rfl rfl rfl) rfl<|Wn.R9 rfl (mI (k:=0) t103 rfl rfl rfl rfl rfl)<|Wn.o0 (mI (k:=2) t103 rfl rfl rfl rfl rfl)<|Wn.nil (fun m hm=>(du.rw rfl rfl rfl (hm.ne (i:=2) (j:=0) rfl rfl rfl rfl (by decide) rfl) du.nil)) ?_
  refine aq ?_;cases hF;exact ar (a56,c57,l55.length,a60,c61,l59.length) [1,3,4]
end Go.Proofs.YtookeaakpiefjaaGreatDoor
end
