/- Texts of the abstract machine and of the walks,joined: T30WL31 T30WL32. -/
import Derived.Test.YtookeaakpiefjaaGreatDoorTc4
section
namespace Go.Proofs.YtookeaakpiefjaaGreatDoor
open Go Go.Ab Go.Ab.W
set_option maxRecDepth 10000
set_option maxHeartbeats 4000000
attribute [local irreducible] Wo Wk At Wn Od Ox aV aL
attribute [local irreducible] Tm.at Trie.set Trie.get AMem.get AMem.set AMem.alloc AMem.ww AMem.kill
theorem t25:TyI aj.P 25 true 4:=⟨by kernel_rfl,by kernel_rfl,by kernel_rfl⟩
instance:TyC aj.P 25 true 4:=⟨t25⟩
theorem t28:TyI aj.P 28 true 3:=⟨by kernel_rfl,by kernel_rfl,by kernel_rfl⟩
instance:TyC aj.P 28 true 3:=⟨t28⟩
theorem Ln:bp aj.P 34=some (.agg #[.int .i64 0,.slice none 0 0]):=by kernel_rfl
theorem JJ:∀ b o,aD aj.P 25 (ptr b o) 0=some (ptr b (o+0)):=fun _ _=>by kernel_rfl
instance:FaC aj.P 25 0 0:=⟨JJ⟩
theorem t5:TyI aj.P 5 false 1:=⟨by kernel_rfl,by kernel_rfl,by kernel_rfl⟩
instance:TyC aj.P 5 false 1:=⟨t5⟩
theorem u5:aj.P.underlying 5=some (.int .u8):=by kernel_rfl
theorem u3:aj.P.underlying 3=some (.int .i64):=by kernel_rfl
theorem J5:∀ b o,aD aj.P 25 (ptr b o) 1=some (ptr b (o+1)):=fun _ _=>by kernel_rfl
instance:FaC aj.P 25 1 1:=⟨J5⟩
theorem Ny:BdT aj.P 34 (.agg #[.int .i64 0,.slice none 0 0]) [(0,1),(1,1)]:=.mk' (by kernel_rfl) (by kernel_rfl)
theorem t34:TyI aj.P 34 true 2:=⟨by kernel_rfl,by kernel_rfl,by kernel_rfl⟩
instance:TyC aj.P 34 true 2:=⟨t34⟩
theorem pb:∀ b o,aD aj.P 34 (ptr b o) 0=some (ptr b (o+0)):=fun _ _=>by kernel_rfl
instance:FaC aj.P 34 0 0:=⟨pb⟩
theorem t3:TyI aj.P 3 false 1:=⟨by kernel_rfl,by kernel_rfl,by kernel_rfl⟩
instance:TyC aj.P 3 false 1:=⟨t3⟩
theorem K8:∀ b o,aD aj.P 25 (ptr b o) 2=some (ptr b (o+2)):=fun _ _=>by kernel_rfl
instance:FaC aj.P 25 2 2:=⟨K8⟩
theorem t22:TyI aj.P 22 false 1:=⟨by kernel_rfl,by kernel_rfl,by kernel_rfl⟩
instance:TyC aj.P 22 false 1:=⟨t22⟩
theorem CH:aj.P.underlying 42=some (.int .u64):=by kernel_rfl
theorem Jk:∀ b o,aD aj.P 25 (ptr b o) 3=some (ptr b (o+3)):=fun _ _=>by kernel_rfl
instance:FaC aj.P 25 3 3:=⟨Jk⟩
theorem t23:TyI aj.P 23 false 1:=⟨by kernel_rfl,by kernel_rfl,by kernel_rfl⟩
instance:TyC aj.P 23 false 1:=⟨t23⟩
theorem Ov:aj.P.underlying 23=some (.slice 141):=by kernel_rfl
instance:UsC aj.P 23 141:=⟨Ov⟩
theorem OO:SlT aj.P 23 141 2:=SlT.of (by kernel_rfl)
instance:SlC aj.P 23 141 2:=⟨OO⟩
theorem Mu:ArT aj.P 141 5 2 1:=⟨by kernel_rfl,by kernel_rfl,by kernel_rfl⟩
instance:ArC aj.P 141 5 2 1:=⟨Mu⟩
theorem dN:∀ b o,aD aj.P 34 (ptr b o) 1=some (ptr b (o+1)):=fun _ _=>by kernel_rfl
instance:FaC aj.P 34 1 1:=⟨dN⟩
theorem t32:TyI aj.P 32 false 1:=⟨by kernel_rfl,by kernel_rfl,by kernel_rfl⟩
instance:TyC aj.P 32 false 1:=⟨t32⟩
theorem FF:bp aj.P 43=some (.agg #[.int .i64 0,.int .i64 0]):=by kernel_rfl
theorem JG:BdT aj.P 43 (.agg #[.int .i64 0,.int .i64 0]) [(0,1),(1,1)]:=.mk' (by kernel_rfl) (by kernel_rfl)
theorem u32:aj.P.underlying 32=some (.slice 43):=by kernel_rfl
instance:UsC aj.P 32 43:=⟨u32⟩
theorem vo:SlT aj.P 32 43 2:=SlT.of (by kernel_rfl)
instance:SlC aj.P 32 43 2:=⟨vo⟩
theorem z36:bp aj.P 36=some (.agg #[.int .i64 0,.slice none 0 0,.int .u64 ((0:Nat):Int)]):=by kernel_rfl
theorem Jb:BdT aj.P 36 (.agg #[.int .i64 0,.slice none 0 0,.int .u64 ((0:Nat):Int)]) [(0,2),(2,1)]:=.mk' (by kernel_rfl) (by kernel_rfl)
theorem Kv:∀ b o,aD aj.P 28 (ptr b o) 0=some (ptr b (o+0)):=fun _ _=>by kernel_rfl
instance:FaC aj.P 28 0 0:=⟨Kv⟩
theorem KF:∀ b o,aD aj.P 28 (ptr b o) 1=some (ptr b (o+1)):=fun _ _=>by kernel_rfl
instance:FaC aj.P 28 1 1:=⟨KF⟩
theorem gB:ArT aj.P 43 3 2 1:=⟨by kernel_rfl,by kernel_rfl,by kernel_rfl⟩
instance:ArC aj.P 43 3 2 1:=⟨gB⟩
theorem Ky:∀ b o,aD aj.P 28 (ptr b o) 2=some (ptr b (o+2)):=fun _ _=>by kernel_rfl
instance:FaC aj.P 28 2 2:=⟨Ky⟩
theorem t26:TyI aj.P 26 false 1:=⟨by kernel_rfl,by kernel_rfl,by kernel_rfl⟩
instance:TyC aj.P 26 false 1:=⟨t26⟩
theorem Lk:SlT aj.P 30 36 3:=SlT.of (by kernel_rfl)
instance:SlC aj.P 30 36 3:=⟨Lk⟩
theorem Of:aj.P.underlying 30=some (.slice 36):=by kernel_rfl
instance:UsC aj.P 30 36:=⟨Of⟩
theorem t36:TyI aj.P 36 true 3:=⟨by kernel_rfl,by kernel_rfl,by kernel_rfl⟩
instance:TyC aj.P 36 true 3:=⟨t36⟩
theorem I9:∀ b o,aD aj.P 36 (ptr b o) 0=some (ptr b (o+0)):=fun _ _=>by kernel_rfl
instance:FaC aj.P 36 0 0:=⟨I9⟩
theorem JV:∀ b o,aD aj.P 36 (ptr b o) 1=some (ptr b (o+2)):=fun _ _=>by kernel_rfl
instance:FaC aj.P 36 1 2:=⟨JV⟩
theorem z38:bp aj.P 38=some (.agg #[.int .u64 ((0:Nat):Int),.int .u64 ((0:Nat):Int),.int .u64 ((0:Nat):Int),.int .u64 ((0:Nat):Int),.int .u64 ((0:Nat):Int),.int .u64 ((0:Nat):Int),.int .u64 ((0:Nat):Int),.int .u64 ((0:Nat):Int)]):=by kernel_rfl
theorem t43:TyI aj.P 43 true 2:=⟨by kernel_rfl,by kernel_rfl,by kernel_rfl⟩
instance:TyC aj.P 43 true 2:=⟨t43⟩
theorem xu:aj.P.underlying 49=some (.slice 3):=by kernel_rfl
instance:UsC aj.P 49 3:=⟨xu⟩
theorem iC:SlT aj.P 49 3 1:=SlT.of (by kernel_rfl)
instance:SlC aj.P 49 3 1:=⟨iC⟩
theorem Iy:aj.P.underlying 26=some (.int .u64):=by kernel_rfl
theorem u9:aj.P.underlying 9=some (.string):=by kernel_rfl
theorem BC:BdT aj.P 38 (.agg #[.int .u64 ((0:Nat):Int),.int .u64 ((0:Nat):Int),.int .u64 ((0:Nat):Int),.int .u64 ((0:Nat):Int),.int .u64 ((0:Nat):Int),.int .u64 ((0:Nat):Int),.int .u64 ((0:Nat):Int),.int .u64 ((0:Nat):Int)]) [(0,1),(1,1),(2,1),(3,1),(4,1),(5,1),(6,1),(7,1)]:=.mk' (by kernel_rfl) (by kernel_rfl)
theorem t38:TyI aj.P 38 true 8:=⟨by kernel_rfl,by kernel_rfl,by kernel_rfl⟩
instance:TyC aj.P 38 true 8:=⟨t38⟩
theorem eH:bp aj.P 103=some (.agg #[.bool false,.slice none 0 0]):=by kernel_rfl
theorem I8:bp aj.P 133=some (.agg #[.slice none 0 0]):=by kernel_rfl
theorem z3:bp aj.P 3=some (.int .i64 0):=by kernel_rfl
theorem N4:aj.P.underlying 131=some (.slice 3):=by kernel_rfl
instance:UsC aj.P 131 3:=⟨N4⟩
theorem MQ:SlT aj.P 131 3 1:=SlT.of (by kernel_rfl)
instance:SlC aj.P 131 3 1:=⟨MQ⟩
theorem LD:BdT aj.P 133 (.agg #[.slice none 0 0]) [(0,1)]:=.mk' (by kernel_rfl) (by kernel_rfl)
theorem t133:TyI aj.P 133 true 1:=⟨by kernel_rfl,by kernel_rfl,by kernel_rfl⟩
instance:TyC aj.P 133 true 1:=⟨t133⟩
theorem t112:TyI aj.P 112 false 1:=⟨by kernel_rfl,by kernel_rfl,by kernel_rfl⟩
instance:TyC aj.P 112 false 1:=⟨t112⟩
theorem Jf:aj.P.underlying 112=some (.map 3 4):=by kernel_rfl
theorem z4:bp aj.P 4=some (.bool false):=by kernel_rfl
theorem uL:∀ b o,aD aj.P 133 (ptr b o) 0=some (ptr b (o+0)):=fun _ _=>by kernel_rfl
instance:FaC aj.P 133 0 0:=⟨uL⟩
theorem t131:TyI aj.P 131 false 1:=⟨by kernel_rfl,by kernel_rfl,by kernel_rfl⟩
instance:TyC aj.P 131 false 1:=⟨t131⟩
theorem F2:ArT aj.P 38 26 8 1:=⟨by kernel_rfl,by kernel_rfl,by kernel_rfl⟩
instance:ArC aj.P 38 26 8 1:=⟨F2⟩
theorem Bn:bp aj.P 144=some (.agg #[.bool false,.int .u64 ((0:Nat):Int),.int .u64 ((0:Nat):Int),.int .u64 ((0:Nat):Int),.int .u64 ((0:Nat):Int),.int .u64 ((0:Nat):Int),.int .u64 ((0:Nat):Int),.int .u64 ((0:Nat):Int),.int .u64 ((0:Nat):Int)]):=by kernel_rfl
theorem ID:BdT aj.P 144 (.agg #[.bool false,.int .u64 ((0:Nat):Int),.int .u64 ((0:Nat):Int),.int .u64 ((0:Nat):Int),.int .u64 ((0:Nat):Int),.int .u64 ((0:Nat):Int),.int .u64 ((0:Nat):Int),.int .u64 ((0:Nat):Int),.int .u64 ((0:Nat):Int)]) [(0,1),(1,8)]:=.mk' (by kernel_rfl) (by kernel_rfl)
theorem t144:TyI aj.P 144 true 9:=⟨by kernel_rfl,by kernel_rfl,by kernel_rfl⟩
instance:TyC aj.P 144 true 9:=⟨t144⟩
theorem AT:∀ b o,aD aj.P 144 (ptr b o) 0=some (ptr b (o+0)):=fun _ _=>by kernel_rfl
instance:FaC aj.P 144 0 0:=⟨AT⟩
theorem t4:TyI aj.P 4 false 1:=⟨by kernel_rfl,by kernel_rfl,by kernel_rfl⟩
instance:TyC aj.P 4 false 1:=⟨t4⟩
theorem Fm:bp aj.P 142=some (.agg #[.int .u64 ((0:Nat):Int),.int .u64 ((0:Nat):Int),.int .u64 ((0:Nat):Int),.int .u64 ((0:Nat):Int),.int .u64 ((0:Nat):Int),.int .u64 ((0:Nat):Int),.int .u64 ((0:Nat):Int),.int .u64 ((0:Nat):Int)]):=by kernel_rfl
theorem Fy:BdT aj.P 142 (.agg #[.int .u64 ((0:Nat):Int),.int .u64 ((0:Nat):Int),.int .u64 ((0:Nat):Int),.int .u64 ((0:Nat):Int),.int .u64 ((0:Nat):Int),.int .u64 ((0:Nat):Int),.int .u64 ((0:Nat):Int),.int .u64 ((0:Nat):Int)]) [(0,1),(1,1),(2,1),(3,1),(4,1),(5,1),(6,1),(7,1)]:=.mk' (by kernel_rfl) (by kernel_rfl)
theorem AS:∀ b o,aD aj.P 144 (ptr b o) 1=some (ptr b (o+1)):=fun _ _=>by kernel_rfl
instance:FaC aj.P 144 1 1:=⟨AS⟩
theorem t142:TyI aj.P 142 true 8:=⟨by kernel_rfl,by kernel_rfl,by kernel_rfl⟩
instance:TyC aj.P 142 true 8:=⟨t142⟩
theorem kH:ArT aj.P 142 26 8 1:=⟨by kernel_rfl,by kernel_rfl,by kernel_rfl⟩
instance:ArC aj.P 142 26 8 1:=⟨kH⟩
theorem Nd:aj.P.underlying 76=some (.slice 26):=by kernel_rfl
instance:UsC aj.P 76 26:=⟨Nd⟩
theorem rR:SlT aj.P 76 26 1:=SlT.of (by kernel_rfl)
instance:SlC aj.P 76 26 1:=⟨rR⟩
theorem wA:BdT aj.P 103 (.agg #[.bool false,.slice none 0 0]) [(0,1),(1,1)]:=.mk' (by kernel_rfl) (by kernel_rfl)
theorem t103:TyI aj.P 103 true 2:=⟨by kernel_rfl,by kernel_rfl,by kernel_rfl⟩
instance:TyC aj.P 103 true 2:=⟨t103⟩
theorem IV:bp aj.P 26=some (.int .u64 ((0:Nat):Int)):=by kernel_rfl
theorem NI:bp aj.P 159=some (.map none):=by kernel_rfl
theorem t159:TyI aj.P 159 false 1:=⟨by kernel_rfl,by kernel_rfl,by kernel_rfl⟩
instance:TyC aj.P 159 false 1:=⟨t159⟩
theorem No:bp aj.P 160=some (.nilFunc):=by kernel_rfl
theorem t160:TyI aj.P 160 false 1:=⟨by kernel_rfl,by kernel_rfl,by kernel_rfl⟩
instance:TyC aj.P 160 false 1:=⟨t160⟩
theorem ot:aj.P.underlying 159=some (.map 3 3):=by kernel_rfl
theorem NG:bp aj.P 162=some (.slice none 0 0):=by kernel_rfl
theorem N9:bp aj.P 161=some (.slice none 0 0):=by kernel_rfl
theorem t161:TyI aj.P 161 false 1:=⟨by kernel_rfl,by kernel_rfl,by kernel_rfl⟩
instance:TyC aj.P 161 false 1:=⟨t161⟩
theorem E2:aj.P.underlying 161=some (.slice 162):=by kernel_rfl
instance:UsC aj.P 161 162:=⟨E2⟩
theorem t162:TyI aj.P 162 false 1:=⟨by kernel_rfl,by kernel_rfl,by kernel_rfl⟩
instance:TyC aj.P 162 false 1:=⟨t162⟩
theorem lO:SlT aj.P 161 162 1:=SlT.of (by kernel_rfl)
instance:SlC aj.P 161 162 1:=⟨lO⟩
theorem lL:SlT aj.P 162 103 2:=SlT.of (by kernel_rfl)
instance:SlC aj.P 162 103 2:=⟨lL⟩
theorem NW:bp aj.P 164=some (.nilFunc):=by kernel_rfl
theorem t164:TyI aj.P 164 false 1:=⟨by kernel_rfl,by kernel_rfl,by kernel_rfl⟩
instance:TyC aj.P 164 false 1:=⟨t164⟩
theorem gH:∀ b o,aD aj.P 103 (ptr b o) 0=some (ptr b (o+0)):=fun _ _=>by kernel_rfl
instance:FaC aj.P 103 0 0:=⟨gH⟩
theorem u4:aj.P.underlying 4=some (.bool):=by kernel_rfl
theorem iK:∀ b o,aD aj.P 103 (ptr b o) 1=some (ptr b (o+1)):=fun _ _=>by kernel_rfl
instance:FaC aj.P 103 1 1:=⟨iK⟩
theorem t76:TyI aj.P 76 false 1:=⟨by kernel_rfl,by kernel_rfl,by kernel_rfl⟩
instance:TyC aj.P 76 false 1:=⟨t76⟩
theorem s7:∀ cs:Array Value,dX aj.P 103 (.agg cs) 1=ef aj.P 76 cs 1:=fun _=>by kernel_rfl
theorem OA:bp aj.P 49=some (.slice none 0 0):=by kernel_rfl
theorem Nj:SlT aj.P 52 49 1:=SlT.of (by kernel_rfl)
instance:SlC aj.P 52 49 1:=⟨Nj⟩
theorem Ll:aj.P.underlying 52=some (.slice 49):=by kernel_rfl
instance:UsC aj.P 52 49:=⟨Ll⟩
theorem jb:bp aj.P 118=some (.agg #[.bool false,.slice none 0 0]):=by kernel_rfl
theorem A5:BdT aj.P 118 (.agg #[.bool false,.slice none 0 0]) [(0,1),(1,1)]:=.mk' (by kernel_rfl) (by kernel_rfl)
theorem t118:TyI aj.P 118 true 2:=⟨by kernel_rfl,by kernel_rfl,by kernel_rfl⟩
instance:TyC aj.P 118 true 2:=⟨t118⟩
theorem jh:∀ b o,aD aj.P 118 (ptr b o) 1=some (ptr b (o+1)):=fun _ _=>by kernel_rfl
instance:FaC aj.P 118 1 1:=⟨jh⟩
theorem t49:TyI aj.P 49 false 1:=⟨by kernel_rfl,by kernel_rfl,by kernel_rfl⟩
instance:TyC aj.P 49 false 1:=⟨t49⟩
theorem iN:∀ b o,aD aj.P 118 (ptr b o) 0=some (ptr b (o+0)):=fun _ _=>by kernel_rfl
instance:FaC aj.P 118 0 0:=⟨iN⟩
theorem Oj:aj.P.underlying 38=some (.array 8 26):=by kernel_rfl
theorem Nu:∀ (x0 y0:Nat) (x1 y1:Nat) (x2 y2:Nat) (x3 y3:Nat) (x4 y4:Nat) (x5 y5:Nat) (x6 y6:Nat) (x7 y7:Nat),iA aj.P Op.maxDepth 38 (.agg #[.int .u64 ((x0:Nat):Int),.int .u64 ((x1:Nat):Int),.int .u64 ((x2:Nat):Int),.int .u64 ((x3:Nat):Int),.int .u64 ((x4:Nat):Int),.int .u64 ((x5:Nat):Int),.int .u64 ((x6:Nat):Int),.int .u64 ((x7:Nat):Int)]) (.agg #[.int .u64 ((y0:Nat):Int),.int .u64 ((y1:Nat):Int),.int .u64 ((y2:Nat):Int),.int .u64 ((y3:Nat):Int),.int .u64 ((y4:Nat):Int),.int .u64 ((y5:Nat):Int),.int .u64 ((y6:Nat):Int),.int .u64 ((y7:Nat):Int)])=some (decide (x0=y0) && decide (x1=y1) && decide (x2=y2) && decide (x3=y3) && decide (x4=y4) && decide (x5=y5) && decide (x6=y6) && decide (x7=y7)):=fun x0 y0 x1 y1 x2 y2 x3 y3 x4 y4 x5 y5 x6 y6 x7 y7=>LX Oj t26.known t26.size t26.agg Iy x0 y0 x1 y1 x2 y2 x3 y3 x4 y4 x5 y5 x6 y6 x7 y7
theorem NO:aj.P.eqGuardType aj.P.depth 38=false:=by kernel_rfl
theorem uO:bp aj.P 45=some (.agg #[.int .u64 ((0:Nat):Int),.int .u64 ((0:Nat):Int),.int .u64 ((0:Nat):Int),.int .u64 ((0:Nat):Int),.int .u64 ((0:Nat):Int),.int .u64 ((0:Nat):Int),.int .u64 ((0:Nat):Int),.int .u64 ((0:Nat):Int),.int .u64 ((0:Nat):Int),.int .u64 ((0:Nat):Int),.int .u64 ((0:Nat):Int),.int .u64 ((0:Nat):Int),.int .u64 ((0:Nat):Int),.int .u64 ((0:Nat):Int),.int .u64 ((0:Nat):Int),.int .u64 ((0:Nat):Int)]):=by kernel_rfl
theorem qk:BdT aj.P 45 (.agg #[.int .u64 ((0:Nat):Int),.int .u64 ((0:Nat):Int),.int .u64 ((0:Nat):Int),.int .u64 ((0:Nat):Int),.int .u64 ((0:Nat):Int),.int .u64 ((0:Nat):Int),.int .u64 ((0:Nat):Int),.int .u64 ((0:Nat):Int),.int .u64 ((0:Nat):Int),.int .u64 ((0:Nat):Int),.int .u64 ((0:Nat):Int),.int .u64 ((0:Nat):Int),.int .u64 ((0:Nat):Int),.int .u64 ((0:Nat):Int),.int .u64 ((0:Nat):Int),.int .u64 ((0:Nat):Int)]) [(0,8),(8,8)]:=.mk' (by kernel_rfl) (by kernel_rfl)
theorem t45:TyI aj.P 45 true 16:=⟨by kernel_rfl,by kernel_rfl,by kernel_rfl⟩
instance:TyC aj.P 45 true 16:=⟨t45⟩
theorem L7:bp aj.P 110=some (.agg #[.bool false,.slice none 0 0,.bool false,.slice none 0 0]):=by kernel_rfl
theorem LB:BdT aj.P 110 (.agg #[.bool false,.slice none 0 0,.bool false,.slice none 0 0]) [(0,2),(2,2)]:=.mk' (by kernel_rfl) (by kernel_rfl)
theorem t110:TyI aj.P 110 true 4:=⟨by kernel_rfl,by kernel_rfl,by kernel_rfl⟩
instance:TyC aj.P 110 true 4:=⟨t110⟩
theorem F7:∀ b o,aD aj.P 110 (ptr b o) 0=some (ptr b (o+0)):=fun _ _=>by kernel_rfl
instance:FaC aj.P 110 0 0:=⟨F7⟩
theorem Gv:∀ b o,aD aj.P 110 (ptr b o) 1=some (ptr b (o+2)):=fun _ _=>by kernel_rfl
instance:FaC aj.P 110 1 2:=⟨Gv⟩
theorem Jn:bp aj.P 172=some (.agg #[.bool false,.slice none 0 0,.bool false,.slice none 0 0]):=by kernel_rfl
theorem Mc:BdT aj.P 172 (.agg #[.bool false,.slice none 0 0,.bool false,.slice none 0 0]) [(0,2),(2,2)]:=.mk' (by kernel_rfl) (by kernel_rfl)
theorem t172:TyI aj.P 172 true 4:=⟨by kernel_rfl,by kernel_rfl,by kernel_rfl⟩
instance:TyC aj.P 172 true 4:=⟨t172⟩
theorem Ho:∀ b o,aD aj.P 172 (ptr b o) 0=some (ptr b (o+0)):=fun _ _=>by kernel_rfl
instance:FaC aj.P 172 0 0:=⟨Ho⟩
theorem GJ:∀ b o,aD aj.P 172 (ptr b o) 1=some (ptr b (o+2)):=fun _ _=>by kernel_rfl
instance:FaC aj.P 172 1 2:=⟨GJ⟩
theorem Nt:∀ (x0 y0:Nat) (x1 y1:Nat) (x2 y2:Nat) (x3 y3:Nat) (x4 y4:Nat) (x5 y5:Nat) (x6 y6:Nat) (x7 y7:Nat) (x8 y8:Nat) (x9 y9:Nat) (x10 y10:Nat) (x11 y11:Nat) (x12 y12:Nat) (x13 y13:Nat) (x14 y14:Nat) (x15 y15:Nat),iA aj.P Op.maxDepth 45 (.agg #[.int .u64 ((x0:Nat):Int),.int .u64 ((x1:Nat):Int),.int .u64 ((x2:Nat):Int),.int .u64 ((x3:Nat):Int),.int .u64 ((x4:Nat):Int),.int .u64 ((x5:Nat):Int),.int .u64 ((x6:Nat):Int),.int .u64 ((x7:Nat):Int),.int .u64 ((x8:Nat):Int),.int .u64 ((x9:Nat):Int),.int .u64 ((x10:Nat):Int),.int .u64 ((x11:Nat):Int),.int .u64 ((x12:Nat):Int),.int .u64 ((x13:Nat):Int),.int .u64 ((x14:Nat):Int),.int .u64 ((x15:Nat):Int)]) (.agg #[.int .u64 ((y0:Nat):Int),.int .u64 ((y1:Nat):Int),.int .u64 ((y2:Nat):Int),.int .u64 ((y3:Nat):Int),.int .u64 ((y4:Nat):Int),.int .u64 ((y5:Nat):Int),.int .u64 ((y6:Nat):Int),.int .u64 ((y7:Nat):Int),.int .u64 ((y8:Nat):Int),.int .u64 ((y9:Nat):Int),.int .u64 ((y10:Nat):Int),.int .u64 ((y11:Nat):Int),.int .u64 ((y12:Nat):Int),.int .u64 ((y13:Nat):Int),.int .u64 ((y14:Nat):Int),.int .u64 ((y15:Nat):Int)])=some (decide (x0=y0) && decide (x1=y1) && decide (x2=y2) && decide (x3=y3) && decide (x4=y4) && decide (x5=y5) && decide (x6=y6) && decide (x7=y7) && decide (x8=y8) && decide (x9=y9) && decide (x10=y10) && decide (x11=y11) && decide (x12=y12) && decide (x13=y13) && decide (x14=y14) && decide (x15=y15)):=fun x0 y0 x1 y1 x2 y2 x3 y3 x4 y4 x5 y5 x6 y6 x7 y7 x8 y8 x9 y9 x10 y10 x11 y11 x12 y12 x13 y13 x14 y14 x15 y15=>JM (w:=38) (by kernel_rfl) Oj t26.known t26.size t26.agg Iy x0 y0 x1 y1 x2 y2 x3 y3 x4 y4 x5 y5 x6 y6 x7 y7 x8 y8 x9 y9 x10 y10 x11 y11 x12 y12 x13 y13 x14 y14 x15 y15
theorem Nq:aj.P.eqGuardType aj.P.depth 45=false:=by kernel_rfl
theorem Jt (n x1 x2 x3 l4 a5 c6 r) (hF:M3 n x1 x2 x3 l4=some r) (m) (h7:Rd m a5 c6 2 l4.length (l4.map (eP (eN .u8) (eN .u8)))):
  ay aj 28 [.agg #[.int .u8 ((x1:Nat):Int),.int .u8 ((x2:Nat):Int),.int .u16 ((x3:Nat):Int),.slice a5 l4.length c6]] m (fun v m'=>∃ x:Option Addr × Nat,v = .agg #[.int .i64 r.1,.slice x.1 x.2 x.2]∧Hp m m' [.sl x.1 2 x.2 (r.2.map (eP (eI .i64) (eI .i64)))]):=by
 unfold M3 at hF;refine cw Tryz.func28 ((Hp.start m).i h7) ?_;refine wz ?_;refine wb fun b8=>?_;refine wa Ln fun b9=>?_;refine ax ?_;refine Wo.od (aE rfl rfl (la _ _ (by decide))) rfl <| Wo.od (gC rfl (rn (by rw [u5]; rfl) u3)) rfl ?_
 refine wz ?_;refine Wo.od (aE rfl rfl (la _ _ (by decide))) rfl <| Wo.od (gC rfl (rn (by rw [u5]; rfl) u3)) rfl ?_
 refine ax ?_;obtain ⟨y10,h11,hF⟩:=J hF;refine Wo.od (aE rfl rfl ((ml _ _ _).trans (cI h11))) rfl <| Wo.od (de rfl Ln rfl (cY Ny rfl rfl rfl)) rfl <| wa Ln fun b12=>?_;refine fm ?_;refine Wk.block ?_;obtain ⟨l2020,h3018,hF⟩:=J hF;refine ct (fun l2020 (a2021:Option Addr)=>⟨(.exit 0),[(2,ptr b9 0),(5,ptr b12 0)],[.obj b9 (.cells [.int .i64 0,.slice none 0 0] .own),.obj b12 (.cells [.int .i64 y10,.slice a2021 l2020.length l2020.length] .own),.sl a2021 2 l2020.length (l2020.map (eP (eI .i64) (eI .i64)))]⟩) l2020 ?_ ?_
 ·refine Wk.iV (fs':=[(1,ptr b8 0),(2,ptr b9 0),(3,.int .i64 (IntKind.wrap .i64 (1+(IntKind.wrap .i64 ((x1%4:Nat):Int))))),(5,ptr b12 0),(6,.int .i64 0),(7,.int .i64 0)]) (ps':=[.obj b8 (.cells [.int .u8 ((x1:Nat):Int),.int .u8 ((x2:Nat):Int),.int .u16 ((x3:Nat):Int),.slice a5 l4.length c6] .own),.rd a5 c6 2 l4.length (l4.map (eP (eN .u8) (eN .u8))),.obj b9 (.cells [.int .i64 0,.slice none 0 0] .own),.obj b12 (.cells [.int .i64 y10,.slice none ([]:List (Int × Int)).length ([]:List (Int × Int)).length] .own),.sl none 2 ([]:List (Int × Int)).length (([]:List (Int × Int)).map (eP (eI .i64) (eI .i64)))]) (sc rfl (sc rfl (sc rfl (sc rfl (sc rfl (sc rfl sn)))))) (al.trans (al.nil 2 rfl) (al.aC [3,4,2,1,0] rfl rfl)) <| Wk.loop (σ:=Int × List (Int × Int) × Int × Int) (ρ:=List (Int × Int)) (γ:=Option Addr) (δ:=fun _=>Option Addr) _ (fun (s:Int × List (Int × Int) × Int × Int) (g:Option Addr)=>match s,g with | (v1014,l1015,v1017,v1018),a1016=>⟨.normal,[(1,ptr b8 0),(2,ptr b9 0),(3,.int .i64 v1014),(5,ptr b12 0),(6,.int .i64 v1017),(7,.int .i64 v1018)],[.obj b8 (.cells [.int .u8 ((x1:Nat):Int),.int .u8 ((x2:Nat):Int),.int .u16 ((x3:Nat):Int),.slice a5 l4.length c6] .own),.rd a5 c6 2 l4.length (l4.map (eP (eN .u8) (eN .u8))),.obj b9 (.cells [.int .i64 0,.slice none 0 0] .own),.obj b12 (.cells [.int .i64 y10,.slice a1016 l1015.length l1015.length] .own),.sl a1016 2 l1015.length (l1015.map (eP (eI .i64) (eI .i64)))]⟩) (fun (r:List (Int × Int)) (g:Option Addr)=>match r,g with | l2020,a2021=>⟨(.exit 0),[(2,ptr b9 0),(5,ptr b12 0)],[.obj b9 (.cells [.int .i64 0,.slice none 0 0] .own),.obj b12 (.cells [.int .i64 y10,.slice a2021 l2020.length l2020.length] .own),.sl a2021 2 l2020.length (l2020.map (eP (eI .i64) (eI .i64)))]⟩) ?_ (fun _ _=>rfl) (fun r d=>by intro e; cases e) _ _ _ h3018 none
  clear hF h3018;rintro ⟨v1014,l1015,v1017,v1018⟩ a1016 r hF;unfold vT at hF;refine wz ?_;rcases aa hF with ⟨h2022,hF⟩ | ⟨h2022,hF⟩
  ·refine ax ?_;refine Wk.block ?_;obtain ⟨r3017,h3016,hF⟩:=J hF;refine ct (fun (l2687,v2689) (a2688:Option Addr)=>⟨(.exit 2),[(1,ptr b8 0),(2,ptr b9 0),(3,.int .i64 v1014),(5,ptr b12 0),(6,.int .i64 v2689),(7,.int .i64 v1018)],[.obj b8 (.cells [.int .u8 ((x1:Nat):Int),.int .u8 ((x2:Nat):Int),.int .u16 ((x3:Nat):Int),.slice a5 l4.length c6] .own),.rd a5 c6 2 l4.length (l4.map (eP (eN .u8) (eN .u8))),.obj b9 (.cells [.int .i64 0,.slice none 0 0] .own),.obj b12 (.cells [.int .i64 y10,.slice a2688 l2687.length l2687.length] .own),.sl a2688 2 l2687.length (l2687.map (eP (eI .i64) (eI .i64)))]⟩) r3017 ?_ ?_
   ·refine lo h3016 a1016 [0,1,2,3,4] (fun (l2353,v2355,v2356) a2354=>⟨.normal,[(1,ptr b8 0),(2,ptr b9 0),(3,.int .i64 v1014),(5,ptr b12 0),(6,.int .i64 v2355),(7,.int .i64 v1018),(8,.int .i64 v2356)],[.obj b8 (.cells [.int .u8 ((x1:Nat):Int),.int .u8 ((x2:Nat):Int),.int .u16 ((x3:Nat):Int),.slice a5 l4.length c6] .own),.rd a5 c6 2 l4.length (l4.map (eP (eN .u8) (eN .u8))),.obj b9 (.cells [.int .i64 0,.slice none 0 0] .own),.obj b12 (.cells [.int .i64 y10,.slice a2354 l2353.length l2353.length] .own),.sl a2354 2 l2353.length (l2353.map (eP (eI .i64) (eI .i64)))]⟩) ?_;clear hF h3016;rintro ⟨l2353,v2355,v2356⟩ a2354 r hF;unfold wD at hF;refine wz ?_;rcases aa hF with ⟨h2690,hF⟩ | ⟨h2690,hF⟩
    ·refine wz ?_;refine Wk.seq ?_;obtain ⟨r3015,h3014,hF⟩:=J hF;refine ct (fun (l2851,v2853) (a2852:Option Addr)=>⟨.normal,[(1,ptr b8 0),(2,ptr b9 0),(3,.int .i64 v1014),(5,ptr b12 0),(6,.int .i64 v2853),(7,.int .i64 v1018),(8,.int .i64 v2356)],[.obj b8 (.cells [.int .u8 ((x1:Nat):Int),.int .u8 ((x2:Nat):Int),.int .u16 ((x3:Nat):Int),.slice a5 l4.length c6] .own),.rd a5 c6 2 l4.length (l4.map (eP (eN .u8) (eN .u8))),.obj b9 (.cells [.int .i64 0,.slice none 0 0] .own),.obj b12 (.cells [.int .i64 y10,.slice a2852 l2851.length l2851.length] .own),.sl a2852 2 l2851.length (l2851.map (eP (eI .i64) (eI .i64)))]⟩) r3015 ?_ ?_
     ·clear hF;revert r3015;intro r hF;refine Wk.block <| Wk.seq ?_;obtain ⟨v2857,h2861,hF⟩:=J hF;refine ct (fun v2857 (_:Unit)=>⟨.normal,[(1,ptr b8 0),(2,ptr b9 0),(3,.int .i64 v1014),(5,ptr b12 0),(6,.int .i64 v2355),(7,.int .i64 v1018),(8,.int .i64 v2356),(9,.bool v2857)],[.obj b8 (.cells [.int .u8 ((x1:Nat):Int),.int .u8 ((x2:Nat):Int),.int .u16 ((x3:Nat):Int),.slice a5 l4.length c6] .own),.rd a5 c6 2 l4.length (l4.map (eP (eN .u8) (eN .u8))),.obj b9 (.cells [.int .i64 0,.slice none 0 0] .own),.obj b12 (.cells [.int .i64 y10,.slice a2354 l2353.length l2353.length] .own),.sl a2354 2 l2353.length (l2353.map (eP (eI .i64) (eI .i64)))]⟩) v2857 ?_ ?_
      ·clear hF;revert v2857;intro r hF;refine wz ?_;rcases aa hF with ⟨h2858,hF⟩ | ⟨h2858,hF⟩
       ·refine wz ?_;cases hF;exact ae () [0,1,2,3,4]
       ·refine wz ?_;rcases aa hF with ⟨h2859,hF⟩ | ⟨h2859,hF⟩
        ·refine wz ?_;obtain ⟨h2860,hF⟩:=aq hF;refine Wo.og (aE rfl rfl (eT _ _ h2860)) (gg rfl rfl (iX h2859)) rfl ?_;refine wz ?_;cases hF;exact ae () [0,1,2,3,4]
        ·refine wz ?_;cases hF;exact ae () [0,1,2,3,4]
      ·clear h2861;rintro ⟨⟩;refine At.tn <| Wk.seq ?_;obtain ⟨r2914,h2913,hF⟩:=J hF;refine ct (fun (v2887,v2888) (_:Unit)=>⟨.normal,[(1,ptr b8 0),(2,ptr b9 0),(3,.int .i64 v1014),(5,ptr b12 0),(6,.int .i64 v2887),(7,.int .i64 v1018),(8,.int .i64 v2356),(9,.bool v2888)],[.obj b8 (.cells [.int .u8 ((x1:Nat):Int),.int .u8 ((x2:Nat):Int),.int .u16 ((x3:Nat):Int),.slice a5 l4.length c6] .own),.rd a5 c6 2 l4.length (l4.map (eP (eN .u8) (eN .u8))),.obj b9 (.cells [.int .i64 0,.slice none 0 0] .own),.obj b12 (.cells [.int .i64 y10,.slice a2354 l2353.length l2353.length] .own),.sl a2354 2 l2353.length (l2353.map (eP (eI .i64) (eI .i64)))]⟩) r2914 ?_ ?_
       ·clear hF;revert r2914;intro r hF;refine wz ?_;rcases aa hF with ⟨h2889,hF⟩ | ⟨h2889,hF⟩
        ·refine Wk.cT rfl h2889 <| Wk.seq ?_;obtain ⟨v2900,h2911,hF⟩:=J hF;refine ct (fun v2900 (_:Unit)=>⟨.normal,[(1,ptr b8 0),(2,ptr b9 0),(3,.int .i64 v1014),(5,ptr b12 0),(6,.int .i64 v2355),(7,.int .i64 v1018),(8,.int .i64 v2356),(9,.bool v2900)],[.obj b8 (.cells [.int .u8 ((x1:Nat):Int),.int .u8 ((x2:Nat):Int),.int .u16 ((x3:Nat):Int),.slice a5 l4.length c6] .own),.rd a5 c6 2 l4.length (l4.map (eP (eN .u8) (eN .u8))),.obj b9 (.cells [.int .i64 0,.slice none 0 0] .own),.obj b12 (.cells [.int .i64 y10,.slice a2354 l2353.length l2353.length] .own),.sl a2354 2 l2353.length (l2353.map (eP (eI .i64) (eI .i64)))]⟩) v2900 ?_ ?_
         ·clear hF;revert v2900;intro r hF;refine Wk.seq ?_;obtain ⟨v2904,h2908,hF⟩:=J hF;refine ct (fun v2904 (_:Unit)=>⟨.normal,[(1,ptr b8 0),(2,ptr b9 0),(3,.int .i64 v1014),(5,ptr b12 0),(6,.int .i64 v2355),(7,.int .i64 v1018),(8,.int .i64 v2356),(9,.bool v2857),(72,.bool v2904)],[.obj b8 (.cells [.int .u8 ((x1:Nat):Int),.int .u8 ((x2:Nat):Int),.int .u16 ((x3:Nat):Int),.slice a5 l4.length c6] .own),.rd a5 c6 2 l4.length (l4.map (eP (eN .u8) (eN .u8))),.obj b9 (.cells [.int .i64 0,.slice none 0 0] .own),.obj b12 (.cells [.int .i64 y10,.slice a2354 l2353.length l2353.length] .own),.sl a2354 2 l2353.length (l2353.map (eP (eI .i64) (eI .i64)))]⟩) v2904 ?_ ?_
          ·clear hF;revert v2904;intro r hF;refine wz ?_;refine Wo.od (aE rfl rfl (eT _ _ (by decide))) rfl ?_
           refine wz ?_;rcases aa hF with ⟨h2905,hF⟩ | ⟨h2905,hF⟩
           ·refine wz ?_;refine Wo.og (aE rfl rfl (iF _ _ (by decide))) (gg rfl rfl (iX h2905)) rfl <| Wo.og (aE rfl rfl (eT _ _ (by decide))) (gg rfl rfl (iX h2905)) rfl <| Wo.og (gC rfl (nd (by rw [u3]; rfl) CH rfl)) (gg rfl rfl (iX h2905)) rfl ?_
            obtain ⟨y2906,h2907,hF⟩:=J hF;refine Wo.og (aE rfl rfl ((da _ _ (nn _)).trans (cN h2907))) (gg rfl rfl (iX h2905)) rfl ?_;refine wz ?_;cases hF;exact ae () [0,1,2,3,4]
           ·refine wz ?_;cases hF;exact ae () [0,1,2,3,4]
          ·clear h2908;rintro ⟨⟩;refine At.tn ?_;rcases aa hF with ⟨h2910,hF⟩ | ⟨h2910,hF⟩
           ·refine wz ?_;cases hF;exact ae () [0,1,2,3,4]
           ·refine wz ?_;obtain rfl:=Option.some.inj hF;exact ae () [0,1,2,3,4]
         ·clear h2911;rintro ⟨⟩;refine ax ?_;cases hF;exact ae () [0,1,2,3,4]
        ·refine wz ?_;cases hF;exact ae () [0,1,2,3,4]
       ·clear h2913;obtain ⟨v2887,v2888⟩:=r2914;rintro ⟨⟩;refine ax ?_;refine Wk.block ?_;obtain ⟨v2964,h3008,hF⟩:=J hF;refine ct (fun v2964 (_:Unit)=>⟨(.exit 4),[(1,ptr b8 0),(2,ptr b9 0),(3,.int .i64 v1014),(5,ptr b12 0),(6,.int .i64 v2887),(7,.int .i64 v1018),(8,.int .i64 v2356),(9,.bool v2964)],[.obj b8 (.cells [.int .u8 ((x1:Nat):Int),.int .u8 ((x2:Nat):Int),.int .u16 ((x3:Nat):Int),.slice a5 l4.length c6] .own),.rd a5 c6 2 l4.length (l4.map (eP (eN .u8) (eN .u8))),.obj b9 (.cells [.int .i64 0,.slice none 0 0] .own),.obj b12 (.cells [.int .i64 y10,.slice a2354 l2353.length l2353.length] .own),.sl a2354 2 l2353.length (l2353.map (eP (eI .i64) (eI .i64)))]⟩) v2964 ?_ ?_
        ·refine lo h3008 () [0,1,2,3,4] (fun (v2917,v2918) _=>⟨.normal,[(1,ptr b8 0),(2,ptr b9 0),(3,.int .i64 v1014),(5,ptr b12 0),(6,.int .i64 v2887),(7,.int .i64 v1018),(8,.int .i64 v2356),(9,.bool v2917),(10,.int .i64 v2918)],[.obj b8 (.cells [.int .u8 ((x1:Nat):Int),.int .u8 ((x2:Nat):Int),.int .u16 ((x3:Nat):Int),.slice a5 l4.length c6] .own),.rd a5 c6 2 l4.length (l4.map (eP (eN .u8) (eN .u8))),.obj b9 (.cells [.int .i64 0,.slice none 0 0] .own),.obj b12 (.cells [.int .i64 y10,.slice a2354 l2353.length l2353.length] .own),.sl a2354 2 l2353.length (l2353.map (eP (eI .i64) (eI .i64)))]⟩) ?_;clear hF h3008;rintro ⟨v2917,v2918⟩ ⟨⟩ r hF;unfold xh at hF;refine Wk.seq <| Wk.seq ?_;obtain ⟨v2972,h2974,hF⟩:=J hF;refine ct (fun v2972 (_:Unit)=>⟨.normal,[(1,ptr b8 0),(2,ptr b9 0),(3,.int .i64 v1014),(5,ptr b12 0),(6,.int .i64 v2887),(7,.int .i64 v1018),(8,.int .i64 v2356),(9,.bool v2917),(10,.int .i64 v2918),(83,.bool v2972)],[.obj b8 (.cells [.int .u8 ((x1:Nat):Int),.int .u8 ((x2:Nat):Int),.int .u16 ((x3:Nat):Int),.slice a5 l4.length c6] .own),.rd a5 c6 2 l4.length (l4.map (eP (eN .u8) (eN .u8))),.obj b9 (.cells [.int .i64 0,.slice none 0 0] .own),.obj b12 (.cells [.int .i64 y10,.slice a2354 l2353.length l2353.length] .own),.sl a2354 2 l2353.length (l2353.map (eP (eI .i64) (eI .i64)))]⟩) v2972 ?_ ?_
         ·clear hF;revert v2972;intro r hF;refine wz ?_;rcases aa hF with ⟨h2973,hF⟩ | ⟨h2973,hF⟩
          ·refine wz ?_;cases hF;exact ae () [0,1,2,3,4]
          ·refine wz ?_;cases hF;exact ae () [0,1,2,3,4]
         ·clear h2974;rintro ⟨⟩;refine At.tn ?_;rcases aa hF with ⟨h2976,hF⟩ | ⟨h2976,hF⟩
          ·refine wz ?_;refine Wk.seq ?_;obtain ⟨v2991,h3006,hF⟩:=J hF;refine ct (fun v2991 (_:Unit)=>⟨.normal,[(1,ptr b8 0),(2,ptr b9 0),(3,.int .i64 v1014),(5,ptr b12 0),(6,.int .i64 v2887),(7,.int .i64 v1018),(8,.int .i64 v2356),(9,.bool v2991),(10,.int .i64 v2918)],[.obj b8 (.cells [.int .u8 ((x1:Nat):Int),.int .u8 ((x2:Nat):Int),.int .u16 ((x3:Nat):Int),.slice a5 l4.length c6] .own),.rd a5 c6 2 l4.length (l4.map (eP (eN .u8) (eN .u8))),.obj b9 (.cells [.int .i64 0,.slice none 0 0] .own),.obj b12 (.cells [.int .i64 y10,.slice a2354 l2353.length l2353.length] .own),.sl a2354 2 l2353.length (l2353.map (eP (eI .i64) (eI .i64)))]⟩) v2991 ?_ ?_
           ·clear hF;revert v2991;intro r hF;refine wz ?_;obtain ⟨h2992,hF⟩:=bJ hF;refine Wo.bO (k:=1) rfl (aT h2992) ?_;rintro b2993 o2994 rfl;refine wz ?_;obtain ⟨⟨x2995,x2996⟩,h2997,hF⟩:=J hF;refine wz ?_;refine Wo.od (gC rfl (rn (by rw [u5]; rfl) u3)) rfl ?_
            refine wz ?_;obtain ⟨h2998,hF⟩:=aq hF;refine Wo.od (aE rfl rfl (eT _ _ h2998)) rfl ?_;refine wz ?_;obtain ⟨h2999,hF⟩:=bJ hF;refine wz ?_;refine Wo.od (gC rfl (rn (by rw [u5]; rfl) u3)) rfl ?_
            refine wz ?_;obtain ⟨h3000,hF⟩:=aq hF;refine Wo.od (aE rfl rfl (eT _ _ h3000)) rfl ?_;refine ax ?_;rcases aa hF with ⟨h3001,hF⟩ | ⟨h3001,hF⟩
            ·refine wz ?_;cases hF;exact ae () [1,2,3,4,5]
            ·refine wz ?_;rcases aa hF with ⟨h3002,hF⟩ | ⟨h3002,hF⟩
             ·refine wz ?_;rcases aa hF with ⟨h3003,hF⟩ | ⟨h3003,hF⟩
              ·refine wz ?_;cases hF;exact ae () [1,2,3,4,5]
              ·refine wz ?_;rcases aa hF with ⟨h3004,hF⟩ | ⟨h3004,hF⟩
               ·refine wz ?_;cases hF;exact ae () [1,2,3,4,5]
               ·refine wz ?_;cases hF;exact ae () [1,2,3,4,5]
             ·refine wz ?_;rcases aa hF with ⟨h3005,hF⟩ | ⟨h3005,hF⟩
              ·refine wz ?_;cases hF;exact ae () [1,2,3,4,5]
              ·refine wz ?_;cases hF;exact ae () [1,2,3,4,5]
           ·clear h3006;rintro ⟨⟩;refine ax ?_;cases hF;exact ae () [0,1,2,3,4]
          ·refine wz ?_;cases hF;exact ae () [0,1,2,3,4]
        ·clear h3008;rintro ⟨⟩;refine ax ?_;rcases aa hF with ⟨h3010,hF⟩ | ⟨h3010,hF⟩
         ·refine wz ?_;refine Wo.od (de rfl FF rfl (cY JG rfl rfl rfl)) rfl <| Wo.x (jv (es:=([(v1018,v2356)]:List (Int × Int)).map (eP (eI .i64) (eI .i64))) vo rfl (ju vo FF rfl rfl) rfl rfl) gn rfl fun b3011=>?_;obtain ⟨h3012,hF⟩:=aq hF;refine Wo.x (jU (k:=5) (k2:=0) (xs:=(l2353:List (Int × Int))) (ys:=([(v1018,v2356)]:List (Int × Int))) (Oq (yq .i64) (yq .i64)) vo ⟨_,u32⟩ rfl rfl rfl (.arr _ _ _ _ _) h3012) gn rfl fun a3013=>?_;refine wz ?_;cases hF;exact ae a3013 [1,2,3,4,5]
         ·refine wz ?_;cases hF;exact ae a2354 [0,1,2,3,4]
     ·clear h3014;obtain ⟨l2851,v2853⟩:=r3015;rintro a2852;refine ax ?_;cases hF;exact ae a2852 [0,1,2,3,4]
    ·refine wz ?_;cases hF;exact ae a2354 [0,1,2,3,4]
   ·clear h3016;obtain ⟨l2687,v2689⟩:=r3017;rintro a2688;refine ax ?_;cases hF;exact ae a2688 [0,1,2,3,4]
  ·refine wz ?_;cases hF;exact ae a1016 [2,3,4]
 ·clear h3018;rintro a2021;refine fm ?_;cases hF;exact ar (a2021,l2020.length) [2]
theorem lK (n x1 x2 r) (hF:CU n x1 x2=some r) (m):
  ay aj 86 [.int .u64 ((x1:Nat):Int),.int .i64 x2] m (fun v m'=>∃ x:Unit,v = .bool r∧Hp m m' []):=by
 unfold CU at hF;refine cw Tryz.func86 (Hp.start m) ?_;refine ax ?_;refine Wo.od (gC rfl (nd (by rw [u3]; rfl) CH rfl)) rfl <| Wo.od (aE rfl rfl (da _ _ (nn _))) rfl ?_
 refine ax ?_;cases hF;exact ar () []
theorem xy (n x1 r) (hF:IC n x1=some r) (m):
  ay aj 53 [.int .u64 ((x1:Nat):Int)] m (fun v m'=>∃ x:Unit,v = .int .i64 r∧Hp m m' []):=by
 unfold IC at hF;refine cw Tryz.func53 (Hp.start m) ?_;refine fm ?_;refine Wk.block ?_;obtain ⟨v18,h29,hF⟩:=J hF;refine ct (fun v18 (_:Unit)=>⟨(.exit 0),[(3,.int .i64 v18)],[]⟩) v18 ?_ ?_
 ·refine lo h29 () [] (fun (v4,v5) _=>⟨.normal,[(0,.int .u64 ((x1:Nat):Int)),(3,.int .i64 v4),(4,.int .i64 v5)],[]⟩) ?_;clear hF h29;rintro ⟨v4,v5⟩ ⟨⟩ r hF;unfold wS at hF;refine wz ?_;rcases aa hF with ⟨h19,hF⟩ | ⟨h19,hF⟩
  ·refine wz ?_;refine Wk.seq ?_;obtain ⟨v23,h27,hF⟩:=J hF;refine ct (fun v23 (_:Unit)=>⟨.normal,[(0,.int .u64 ((x1:Nat):Int)),(3,.int .i64 v23),(4,.int .i64 v5)],[]⟩) v23 ?_ ?_
   ·clear hF;revert v23;intro r hF;refine wz ?_;obtain ⟨r25,h24,hF⟩:=J hF;refine wc gn (fun m hm=>lK n x1 v5  _ h24 m) ?_;rintro ⟨⟩;refine wz ?_;rcases aa hF with ⟨h26,hF⟩ | ⟨h26,hF⟩
    ·refine wz ?_;cases hF;exact ae () []
    ·refine wz ?_;obtain rfl:=Option.some.inj hF;exact ae () []
   ·clear h27;rintro ⟨⟩;refine ax ?_;cases hF;exact ae () []
  ·refine wz ?_;cases hF;exact ae () []
 ·clear h29;rintro ⟨⟩;refine fm ?_;obtain rfl:=Option.some.inj hF;exact ar () []
theorem oA (n x1 r) (hF:w7 n x1=some r) (m):
  ay aj 106 [.int .i64 x1] m (fun v m'=>∃ x:Unit,v = .int .u64 ((r:Nat):Int)∧Hp m m' []):=by
 unfold w7 at hF;refine cw Tryz.func106 (Hp.start m) ?_;refine ax ?_;refine Wo.od (gC rfl (nd (by rw [u3]; rfl) CH rfl)) rfl <| Wo.od (aE rfl rfl (kY rfl _ _ (nn _))) rfl ?_
 refine ax ?_;cases hF;exact ar () []
theorem yH (n x1 l2 x6 a3 c4 r) (hF:Ix n x1 l2 x6=some r) (m) (h5:Rd m a3 c4 2 l2.length (l2.map (eP (eI .i64) (eI .i64)))):
  ay aj 50 [.agg #[.int .i64 x1,.slice a3 l2.length c4],.int .u64 ((x6:Nat):Int)] m (fun v m'=>∃ x:Unit,v = .int .u64 ((r:Nat):Int)∧Hp m m' []):=by
 unfold Ix at hF;refine cw Tryz.func50 ((Hp.start m).i h5) ?_;refine wz ?_;refine wb fun b7=>?_;refine fm ?_;refine Wk.block ?_;obtain ⟨v47,h81,hF⟩:=J hF;refine ct (fun v47 (_:Unit)=>⟨(.exit 0),[(5,.int .u64 ((v47:Nat):Int))],[]⟩) v47 ?_ ?_
 ·refine lo h81 () [0,1] (fun (v10,v11) _=>⟨.normal,[(1,.int .u64 ((x6:Nat):Int)),(2,ptr b7 0),(5,.int .u64 ((v10:Nat):Int)),(6,.int .i64 v11)],[.obj b7 (.cells [.int .i64 x1,.slice a3 l2.length c4] .own),.rd a3 c4 2 l2.length (l2.map (eP (eI .i64) (eI .i64)))]⟩) ?_;clear hF h81;rintro ⟨v10,v11⟩ ⟨⟩ r hF;unfold qF at hF;refine Wk.seq <| Wk.seq ?_;obtain ⟨v61,h65,hF⟩:=J hF;refine ct (fun v61 (_:Unit)=>⟨.normal,[(1,.int .u64 ((x6:Nat):Int)),(2,ptr b7 0),(5,.int .u64 ((v10:Nat):Int)),(6,.int .i64 v11),(15,.bool v61)],[.obj b7 (.cells [.int .i64 x1,.slice a3 l2.length c4] .own),.rd a3 c4 2 l2.length (l2.map (eP (eI .i64) (eI .i64)))]⟩) v61 ?_ ?_
  ·clear hF;revert v61;intro r hF;refine wz ?_;rcases aa hF with ⟨h62,hF⟩ | ⟨h62,hF⟩
   ·refine wz ?_;obtain ⟨r64,h63,hF⟩:=J hF;refine wc (gg rfl rfl (iX h62)) (fun m hm=>xy n v10  _ h63 m) ?_;rintro ⟨⟩;refine wz ?_;cases hF;exact ae () [0,1]
   ·refine wz ?_;cases hF;exact ae () [0,1]
  ·clear h65;rintro ⟨⟩;refine At.tn ?_;rcases aa hF with ⟨h67,hF⟩ | ⟨h67,hF⟩
   ·refine wz ?_;refine Wk.seq ?_;obtain ⟨v73,h79,hF⟩:=J hF;refine ct (fun v73 (_:Unit)=>⟨.normal,[(1,.int .u64 ((x6:Nat):Int)),(2,ptr b7 0),(5,.int .u64 ((v73:Nat):Int)),(6,.int .i64 v11)],[.obj b7 (.cells [.int .i64 x1,.slice a3 l2.length c4] .own),.rd a3 c4 2 l2.length (l2.map (eP (eI .i64) (eI .i64)))]⟩) v73 ?_ ?_
    ·clear hF;revert v73;intro r hF;refine wz ?_;obtain ⟨r75,h74,hF⟩:=J hF;refine wc gn (fun m hm=>lK n x6 v11  _ h74 m) ?_;rintro ⟨⟩;refine wz ?_;rcases aa hF with ⟨h76,hF⟩ | ⟨h76,hF⟩
     ·refine wz ?_;obtain ⟨r78,h77,hF⟩:=J hF;refine wc gn (fun m hm=>oA n v11  _ h77 m) ?_;rintro ⟨⟩;refine wz ?_;cases hF;exact ae () [0,1]
     ·refine wz ?_;obtain rfl:=Option.some.inj hF;exact ae () [0,1]
    ·clear h79;rintro ⟨⟩;refine ax ?_;cases hF;exact ae () [0,1]
   ·refine wz ?_;cases hF;exact ae () []
 ·clear h81;rintro ⟨⟩;refine fm ?_;obtain rfl:=Option.some.inj hF;exact ar () []
theorem KE (n x1 x2 x3 x4 l5 x9 a6 c7 r) (hF:LU n x1 x2 x3 x4 l5 x9=some r) (m) (h8:Rd m a6 c7 2 l5.length (l5.map (eP (eI .i64) (eI .i64)))):
  ay aj 51 [.agg #[.int .u8 ((x1:Nat):Int),.int .i64 x2,.int .u64 ((x3:Nat):Int)],.agg #[.int .i64 x4,.slice a6 l5.length c7],.int .u64 ((x9:Nat):Int)] m (fun v m'=>∃ x:Option Addr × Nat,v = .tuple #[.agg #[.int .i64 r.1,.slice x.1 x.2 x.2],.int .u64 ((r.2.2:Nat):Int)]∧Hp m m' [.sl x.1 2 x.2 (r.2.1.map (eP (eI .i64) (eI .i64)))]):=by
 unfold LU at hF;refine cw Tryz.func51 ((Hp.start m).i h8) ?_;refine wz ?_;refine wb fun b10=>?_;refine wb fun b11=>?_;refine wa Ln fun b12=>?_;refine ax ?_;obtain ⟨l14,h13,hF⟩:=J hF;refine wc gn (fun m hm=>KY n l5 a6 c7 _ h13 m (hm.q 3)) ?_;rintro ⟨a15,n16⟩;refine Wo.len (k:=0) (xs:=l14) rfl ?_;rintro rfl;refine wz ?_;refine Wk.seq ?_;obtain ⟨r67,h66,hF⟩:=J hF;refine ct (fun (v40,v41,l42) (_:Unit)=>⟨.normal,[(2,.int .u64 ((v40:Nat):Int)),(4,ptr b11 0),(6,ptr b12 0)],[.obj b11 (.cells [.int .i64 v41,.slice a15 l14.length l14.length] .own),.sl a15 2 l14.length (l42.map (eP (eI .i64) (eI .i64))),.obj b12 (.cells [.int .i64 0,.slice none 0 0] .own)]⟩) r67 ?_ ?_
 ·clear hF;revert r67;intro r hF;refine wz ?_;refine Wo.od (aE rfl rfl (la _ _ (by decide))) rfl ?_
  refine ax ?_;rcases aa hF with ⟨h43,hF⟩ | ⟨h43,hF⟩
  ·refine wz ?_;cases hF;exact ae () [2,0,1]
  ·refine wz ?_;rcases aa hF with ⟨h44,hF⟩ | ⟨h44,hF⟩
   ·refine wz ?_;rcases aa hF with ⟨h45,hF⟩ | ⟨h45,hF⟩
    ·refine wz ?_;refine Wo.od (gC rfl (nd (by rw [u3]; rfl) CH rfl)) rfl ?_
     refine wz ?_;refine Wo.od (gC rfl (nd (by rw [u3]; rfl) CH rfl)) rfl ?_
     obtain ⟨h46,hF⟩:=aq hF;refine Wo.od (aE rfl rfl (la _ _ (of_decide_eq_true h46))) rfl ?_;obtain ⟨y47,h48,hF⟩:=J hF;refine Wo.od (gC rfl ((rn (by rw [CH]; rfl) u3).trans (cI h48))) rfl ?_
     refine wz ?_;refine Wk.cD (prs:=[(4,20)]) (by kernel_rfl) <| Wn.od (cm (r:=ptr b11 1) rfl (dN _ _)) rfl <| Wn.od (bz (k:=2) t32 rfl rfl rfl) rfl <| Wn.od (az rfl) rfl <| Wn.od (cm (r:=ptr b11 1) rfl (dN _ _)) rfl <| Wn.GO rfl (bz (k:=2) t32 rfl rfl rfl) rfl <| Wn.od (az rfl) rfl <| Wn.od (cm (r:=ptr b11 1) rfl (dN _ _)) rfl ?_
     refine Wn.od (bz (k:=2) t32 rfl rfl rfl) rfl <| Wn.od (az rfl) rfl ?_;obtain ⟨h49,hF⟩:=bJ hF;refine Wn.open (k:=0) rfl (aT h49) ?_;rintro b50 tg51 rfl h52;refine Wn.og (bW vo rfl rfl h49) gn rfl <| Wn.od (ic (r:=ptr b50 (y47.toNat*2+1)) rfl rfl (iR gB (i:=1) (by decide))) rfl ?_
     obtain ⟨⟨x53,x54⟩,h55,hF⟩:=J hF;refine Wn.od (uZ (k:=0) t3 rfl rfl (cX h55) rfl rfl) rfl <| Wn.od (cm (r:=ptr b11 1) rfl (dN _ _)) rfl <| Wn.od (bz (k:=2) t32 rfl rfl rfl) rfl <| Wn.od (az rfl) rfl ?_;obtain ⟨h56,hF⟩:=bJ hF;refine Wn.og (bW vo rfl rfl h56) gn rfl <| Wn.od (ic (r:=ptr b50 (y47.toNat*2+0)) rfl rfl (iR gB (i:=0) (by decide))) rfl <| Wn.od (uZ (k:=0) t3 rfl rfl (cX h55) rfl rfl) rfl ?_
     obtain ⟨h57,hF⟩:=bJ hF;refine Wn.og (bW vo rfl rfl h57) gn rfl <| Wn.od (ic (r:=ptr b50 (y47.toNat*2+0)) rfl rfl (iR gB (i:=0) (by decide))) rfl <| Wn.NS rfl (ey (k:=0) (x1:=(x53,x54)) (x2:=(x54,x54)) t3 rfl rfl rfl h55 rfl) ?_
     obtain ⟨h59,hF⟩:=bJ hF;refine Wn.og (bW vo rfl rfl h59) gn rfl <| Wn.od (ic (r:=ptr b50 (y47.toNat*2+1)) rfl rfl (iR gB (i:=1) (by decide))) rfl ?_
     obtain ⟨⟨x60,x61⟩,h62,hF⟩:=J hF;refine Wn.o0 (ey (k:=0) (x1:=(x60,x61)) (x2:=(x60,x53)) t3 rfl rfl rfl h62 rfl) <| Wn.nil (fun m hm=>(dv.rw rfl rfl rfl (hm.ne (i:=2) (j:=0) rfl rfl rfl rfl (by decide) rfl) dv.nil)) <| At.bn ?_
     cases hF;exact At.en () rfl (sc rfl (sc rfl (sc rfl sn))) (al.trans (al.close (k:=0) rfl) (al.aC [2,0,1] rfl rfl))
    ·refine wz ?_;cases hF;exact ae () [2,0,1]
   ·refine wz ?_;rcases aa hF with ⟨h64,hF⟩ | ⟨h64,hF⟩
    ·refine wz ?_;cases hF;exact ae () [2,0,1]
    ·refine wz ?_;rcases aa hF with ⟨h65,hF⟩ | ⟨h65,hF⟩
     ·refine wz ?_;cases hF;exact ae () [2,0,1]
     ·refine wz ?_;cases hF;exact ae () [2,0,1]
 ·clear h66;obtain ⟨v40,v41,l42⟩:=r67;rintro ⟨⟩;refine fm ?_;cases hF;exact ar (a15,l14.length) [1]
theorem ze (n:Nat) (x1:Int) (l2:List (Int × Int)) (a3:Option Addr) (c4:Nat) (r:Int) (hF:II n x1 l2=some r) (m:AMem) (h5:Rd m a3 c4 2 l2.length (l2.map (eP (eI .i64) (eI .i64)))) :
  ay aj 52 [.agg #[.int .i64 x1,.slice a3 l2.length c4]] m (fun v m'=>∃ x:Unit,v = .int .i64 r∧Hp m m' []):=by
 unfold II at hF;refine bV (m0:=m) (ps:=[.rd a3 c4 2 l2.length (l2.map (eP (eI .i64) (eI .i64)))]) (N:=87) (rs:=[.tmp 2]) rfl Tryz.func52 rfl rfl rfl ((Hp.start m).hZ rfl h5) <| Wk.seq <| Wk.region <| Wo.x (JA rfl) gn rfl fun b6=>?_;refine Wo.od (bG rfl) rfl <| Wo.nil <| At.tn <| Wk.seq <| Wk.seq ?_;obtain ⟨v17,h20,hF⟩:=J hF;refine Wk.cut (G:=(fun (r:Bool) (g:Unit)=>match r,g with | v17,_=>⟨.normal,[(1,ptr b6 0),(19,.bool v17)],[.obj b6 (.cells [.int .i64 x1,.slice a3 l2.length c4] .own),.rd a3 c4 2 l2.length (l2.map (eP (eI .i64) (eI .i64)))]⟩) v17) ?_ ?_
 ·clear hF;revert v17;intro r hF;refine Wk.region <| Wo.od (cm (r:=ptr b6 0) rfl (pb _ _)) rfl <| Wo.od (bz (k:=0) t3 rfl rfl rfl) rfl <| Wo.od (aE rfl rfl (fF _ _ _)) rfl <| Wo.od (az rfl) rfl ?_;rcases aa hF with ⟨h18,hF⟩ | ⟨h18,hF⟩
  ·refine Wo.s (gg rfl rfl (fD h18)) rfl <| Wo.s (gg rfl rfl (fD h18)) rfl <| Wo.s (gg rfl rfl (fD h18)) rfl <| Wo.od (nD rfl h18 rfl) rfl <| Wo.od (az rfl) rfl <| Wo.s (gg rfl rfl rfl) rfl <| Wo.s (gg rfl rfl rfl) rfl <| Wo.s (gg rfl rfl rfl) rfl <| Wo.s (gg rfl rfl rfl) rfl <| Wo.od (Is rfl rfl) rfl ?_;refine Wo.nil ?_;cases hF;exact At.en () rfl (sc rfl (sc rfl sn)) (al.aC [0,1] rfl rfl)
  ·refine Wo.og (cm (r:=ptr b6 0) rfl (pb _ _)) (gg rfl rfl (eD h18)) rfl <| Wo.og (bz (k:=0) t3 rfl rfl rfl) (gg rfl rfl (eD h18)) rfl <| Wo.og (aE rfl rfl (fH _ _ _)) (gg rfl rfl (eD h18)) rfl <| Wo.od (oe rfl h18 rfl) rfl <| Wo.od (az rfl) rfl ?_;rcases aa hF with ⟨h19,hF⟩ | ⟨h19,hF⟩
   ·refine Wo.s (gg rfl rfl (fD h19)) rfl <| Wo.s (gg rfl rfl (fD h19)) rfl <| Wo.s (gg rfl rfl (fD h19)) rfl <| Wo.s (gg rfl rfl (fD h19)) rfl <| Wo.od (nD rfl h19 rfl) rfl <| Wo.nil ?_;cases hF;exact At.en () rfl (sc rfl (sc rfl sn)) (al.aC [0,1] rfl rfl)
   ·refine Wo.og (cm (r:=ptr b6 1) rfl (dN _ _)) (gg rfl rfl (eD h19)) rfl <| Wo.og (bz (k:=0) t32 rfl rfl rfl) (gg rfl rfl (eD h19)) rfl <| Wo.og (pJ (k:=1) u32 rfl rfl (.inl rfl)) (gg rfl rfl (eD h19)) rfl <| Wo.og (aE rfl rfl (fH _ _ _)) (gg rfl rfl (eD h19)) rfl <| Wo.od (oe rfl h19 rfl) rfl <| Wo.nil ?_;cases hF;exact At.en () rfl (sc rfl (sc rfl sn)) (al.aC [0,1] rfl rfl)
 ·clear h20;rintro ⟨⟩;refine At.tn ?_;rcases aa hF with ⟨h22,hF⟩ | ⟨h22,hF⟩
  ·refine Wk.cT rfl h22 <| Wk.seq <| Wk.region <| Wo.od (bG rfl) rfl <| Wo.nil <| At.tn <| Wk.ret <| At.tr ?_;cases hF;exact At.ret (.tmp rfl .nil) fun m' hm=>⟨(),rfl,(al.aC [] rfl rfl) m' hm⟩
  ·refine Wk.eJ rfl h22 <| Wk.skip <| At.tn <| Wk.seq <| Wk.seq <| Wk.region <| Wo.od (bG rfl) rfl <| Wo.nil <| At.tn <| Wk.block ?_;obtain ⟨r209,h208,hF⟩:=J hF;refine Wk.cut (G:=(fun (r:(Unit) ⊕ (Unit)) (g:Unit)=>match r,g with | .inl _,_=>⟨.ret,[(2,.int .i64 180)],[]⟩ | .inr _,_=>⟨(.exit 0),[],[]⟩) r209) ?_ ?_
   ·refine Wk.iV (fs':=[(1,ptr b6 0),(3,.int .i64 0)]) (ps':=[.obj b6 (.cells [.int .i64 x1,.slice a3 l2.length c4] .own),.rd a3 c4 2 l2.length (l2.map (eP (eI .i64) (eI .i64)))]) (sc rfl (sc rfl sn)) (al.aC [0,1] rfl rfl) ?_;refine Wk.loop (σ:=Int) (ρ:=(Unit) ⊕ (Unit)) (γ:=Unit) (δ:=fun _=>Unit) _ (fun (s:Int) (g:Unit)=>match s,g with | v24,_=>⟨.normal,[(1,ptr b6 0),(3,.int .i64 v24)],[.obj b6 (.cells [.int .i64 x1,.slice a3 l2.length c4] .own),.rd a3 c4 2 l2.length (l2.map (eP (eI .i64) (eI .i64)))]⟩) (fun (r:(Unit) ⊕ (Unit)) (g:Unit)=>match r,g with | .inl _,_=>⟨.ret,[(2,.int .i64 180)],[]⟩ | .inr _,_=>⟨(.exit 0),[],[]⟩) ?_ (fun _ _=>rfl) (fun r d=>by rcases r with _ | _ <;> (intro e; cases e)) _ _ _ h208 ()
    clear hF h208;rintro v24 ⟨⟩ r hF;unfold p8 at hF;refine Wk.seq <| Wk.seq <| Wk.region <| Wo.od (az rfl) rfl <| Wo.od (cm (r:=ptr b6 1) rfl (dN _ _)) rfl <| Wo.od (bz (k:=0) t32 rfl rfl rfl) rfl <| Wo.od (pJ (k:=1) u32 rfl rfl (.inl rfl)) rfl <| Wo.od (aE rfl rfl (fF _ _ _)) rfl <| Wo.nil <| At.tn ?_;rcases aa hF with ⟨h117,hF⟩ | ⟨h117,hF⟩
    ·refine Wk.cT rfl h117 <| Wk.skip <| At.tn <| Wk.seq <| Wk.block <| Wk.seq <| Wk.draw (by kernel_rfl) <| Wo.od (cm (r:=ptr b6 1) rfl (dN _ _)) rfl <| Wo.od (bz (k:=0) t32 rfl rfl rfl) rfl <| Wo.od (az rfl) rfl ?_
     obtain ⟨h163,hF⟩:=bJ hF;refine Wo.bO (k:=1) rfl (aT h163) ?_;rintro b164 o165 rfl;refine Wo.og (gv vo rfl rfl h163) gn rfl <| Wo.od (ic (r:=ptr b164 (o165+v24.toNat*2+0)) rfl rfl (iR gB (i:=0) (by decide))) rfl ?_
     obtain ⟨⟨x166,x167⟩,h168,hF⟩:=J hF;refine Wo.od (gF (k:=0) t3 rfl rfl (cX h168) rfl rfl) rfl <| Wo.od (cm (r:=ptr b6 1) rfl (dN _ _)) rfl <| Wo.od (bz (k:=1) t32 rfl rfl rfl) rfl <| Wo.od (az rfl) rfl ?_;obtain ⟨h169,hF⟩:=bJ hF;refine Wo.og (gv vo rfl rfl h169) gn rfl <| Wo.od (ic (r:=ptr b164 (o165+v24.toNat*2+1)) rfl rfl (iR gB (i:=1) (by decide))) rfl <| Wo.od (gF (k:=0) t3 rfl rfl (cX h168) rfl rfl) rfl <| Wo.od (bG rfl) rfl <| Wo.od (bG rfl) rfl <| Wo.nil <| At.tn <| Wk.seq <| Wk.seq ?_
     obtain ⟨v180,h183,hF⟩:=J hF;refine Wk.cut (G:=(fun (r:Bool) (g:Unit)=>match r,g with | v180,_=>⟨.normal,[(1,ptr b6 0),(3,.int .i64 v24),(4,.int .i64 x166),(5,.int .i64 x167),(51,.bool v180)],[.obj b6 (.cells [.int .i64 x1,.slice (some ⟨b164,o165,none⟩) l2.length c4] .own),.ro b164 o165 2 l2.length (l2.map (eP (eI .i64) (eI .i64))),.rd (some ⟨b164,o165,none⟩) c4 2 l2.length (l2.map (eP (eI .i64) (eI .i64)))]⟩) v180) ?_ ?_
     ·clear hF;revert v180;intro r hF;refine Wk.region <| Wo.od (az rfl) rfl <| Wo.od (aE rfl rfl (fF _ _ _)) rfl <| Wo.od (az rfl) rfl ?_;rcases aa hF with ⟨h181,hF⟩ | ⟨h181,hF⟩
      ·refine Wo.s (gg rfl rfl (fD h181)) rfl <| Wo.s (gg rfl rfl (fD h181)) rfl <| Wo.s (gg rfl rfl (fD h181)) rfl <| Wo.od (nD rfl h181 rfl) rfl <| Wo.od (az rfl) rfl <| Wo.s (gg rfl rfl rfl) rfl <| Wo.s (gg rfl rfl rfl) rfl <| Wo.s (gg rfl rfl rfl) rfl <| Wo.s (gg rfl rfl rfl) rfl <| Wo.od (Is rfl rfl) rfl ?_;refine Wo.nil ?_;cases hF;exact At.en () rfl (sc rfl (sc rfl (sc rfl (sc rfl (sc rfl sn))))) (al.aC [1,0,2] rfl rfl)
      ·refine Wo.og (az rfl) (gg rfl rfl (eD h181)) rfl <| Wo.og (az rfl) (gg rfl rfl (eD h181)) rfl <| Wo.og (aE rfl rfl (fG _ _ _)) (gg rfl rfl (eD h181)) rfl <| Wo.od (oe rfl h181 rfl) rfl <| Wo.od (az rfl) rfl ?_;rcases aa hF with ⟨h182,hF⟩ | ⟨h182,hF⟩
       ·refine Wo.s (gg rfl rfl (fD h182)) rfl <| Wo.s (gg rfl rfl (fD h182)) rfl <| Wo.s (gg rfl rfl (fD h182)) rfl <| Wo.s (gg rfl rfl (fD h182)) rfl <| Wo.od (nD rfl h182 rfl) rfl <| Wo.nil ?_;cases hF;exact At.en () rfl (sc rfl (sc rfl (sc rfl (sc rfl (sc rfl sn))))) (al.aC [1,0,2] rfl rfl)
       ·refine Wo.og (az rfl) (gg rfl rfl (eD h182)) rfl <| Wo.og (cm (r:=ptr b6 0) rfl (pb _ _)) (gg rfl rfl (eD h182)) rfl <| Wo.og (bz (k:=1) t3 rfl rfl rfl) (gg rfl rfl (eD h182)) rfl <| Wo.og (aE rfl rfl (fG _ _ _)) (gg rfl rfl (eD h182)) rfl <| Wo.od (oe rfl h182 rfl) rfl <| Wo.nil ?_;cases hF;exact At.en () rfl (sc rfl (sc rfl (sc rfl (sc rfl (sc rfl sn))))) (al.aC [1,0,2] rfl rfl)
     ·clear h183;rintro ⟨⟩;refine At.tn ?_;rcases aa hF with ⟨h185,hF⟩ | ⟨h185,hF⟩
      ·refine Wk.cT rfl h185 <| Wk.seq <| Wk.region <| Wo.od (bG rfl) rfl <| Wo.nil <| At.tn <| Wk.ret <| At.tr <| At.br <| At.tr ?_;cases hF;exact At.en () rfl (sc rfl sn) (al.aC [] rfl rfl)
      ·refine Wk.eJ rfl h185 <| Wk.skip <| At.tn <| Wk.seq ?_;obtain ⟨v195,h205,hF⟩:=J hF;refine Wk.cut (G:=(fun (r:Bool) (g:Unit)=>match r,g with | v195,_=>⟨.normal,[(1,ptr b6 0),(3,.int .i64 v24),(86,.bool v195)],[.obj b6 (.cells [.int .i64 x1,.slice (some ⟨b164,o165,none⟩) l2.length c4] .own),.ro b164 o165 2 l2.length (l2.map (eP (eI .i64) (eI .i64))),.rd (some ⟨b164,o165,none⟩) c4 2 l2.length (l2.map (eP (eI .i64) (eI .i64)))]⟩) v195) ?_ ?_
       ·clear hF;revert v195;intro r hF;refine Wk.region <| Wo.od (az rfl) rfl <| Wo.od (aE rfl rfl (fH _ _ _)) rfl <| Wo.od (az rfl) rfl ?_;rcases aa hF with ⟨h196,hF⟩ | ⟨h196,hF⟩
        ·refine Wo.og (cm (r:=ptr b6 1) rfl (dN _ _)) (gg rfl rfl (iX h196)) rfl <| Wo.og (bz (k:=0) t32 rfl rfl rfl) (gg rfl rfl (iX h196)) rfl <| Wo.og (az rfl) (gg rfl rfl (iX h196)) rfl <| Wo.og (aE rfl rfl (dw _ _ _)) (gg rfl rfl (iX h196)) rfl ?_;obtain ⟨h197,hF⟩:=bJ hF;refine Wo.og (gv vo rfl rfl h197) (gg rfl rfl (iX h196)) rfl <| Wo.og (ic (r:=ptr b164 (o165+(IntKind.wrap .i64 (v24-1)).toNat*2+0)) rfl rfl (iR gB (i:=0) (by decide))) (gg rfl rfl (iX h196)) rfl ?_
         obtain ⟨⟨x198,x199⟩,h200,hF⟩:=J hF;refine Wo.og (gF (k:=1) t3 rfl rfl (cX h200) rfl rfl) (gg rfl rfl (iX h196)) rfl <| Wo.og (az rfl) (gg rfl rfl (iX h196)) rfl <| Wo.og (aE rfl rfl (fH _ _ _)) (gg rfl rfl (iX h196)) rfl <| Wo.og (az rfl) (gg rfl rfl (iX h196)) rfl ?_;rcases aa hF with ⟨h201,hF⟩ | ⟨h201,hF⟩
         ·refine Wo.s (gg rfl rfl (fD h201)) rfl <| Wo.s (gg rfl rfl (fD h201)) rfl <| Wo.s (gg rfl rfl (fD h201)) rfl <| Wo.s (gg rfl rfl (fD h201)) rfl <| Wo.s (gg rfl rfl (fD h201)) rfl <| Wo.s (gg rfl rfl (fD h201)) rfl <| Wo.s (gg rfl rfl (fD h201)) rfl <| Wo.s (gg rfl rfl (fD h201)) rfl <| Wo.s (gg rfl rfl (fD h201)) rfl <| Wo.s (gg rfl rfl (fD h201)) rfl ?_;refine Wo.s (gu rfl rfl) rfl <| Wo.s (gu rfl rfl) rfl <| Wo.s (gu rfl rfl) rfl <| Wo.s (gu rfl rfl) rfl <| Wo.s (gu rfl rfl) rfl <| Wo.s (gu rfl rfl) rfl <| Wo.s (gu rfl rfl) rfl <| Wo.s (gu rfl rfl) rfl <| Wo.s (gu rfl rfl) rfl <| Wo.s (gg rfl rfl (fD h201)) rfl ?_;refine Wo.og (nD rfl h201 rfl) (gg rfl rfl (iX h196)) rfl <| Wo.od (nD rfl h196 rfl) rfl <| Wo.nil ?_;cases hF;exact At.en () rfl (sc rfl (sc rfl (sc rfl sn))) (al.aC [0,1,2] rfl rfl)
         ·refine Wo.og (cm (r:=ptr b6 1) rfl (dN _ _)) (gg rfl rfl (eD h201)) rfl <| Wo.og (bz (k:=0) t32 rfl rfl rfl) (gg rfl rfl (eD h201)) rfl <| Wo.og (az rfl) (gg rfl rfl (eD h201)) rfl <| Wo.og (aE rfl rfl (dw _ _ _)) (gg rfl rfl (eD h201)) rfl ?_;obtain ⟨h202,hF⟩:=bJ hF;refine Wo.og (gv vo rfl rfl h202) (gg rfl rfl (eD h201)) rfl <| Wo.og (ic (r:=ptr b164 (o165+(IntKind.wrap .i64 (v24-1)).toNat*2+0)) rfl rfl (iR gB (i:=0) (by decide))) (gg rfl rfl (eD h201)) rfl <| Wo.og (gF (k:=1) t3 rfl rfl (cX h200) rfl rfl) (gg rfl rfl (eD h201)) rfl <| Wo.og (az rfl) (gg rfl rfl (eD h201)) rfl <| Wo.og (aE rfl rfl (o5 _ _ _)) (gg rfl rfl (eD h201)) rfl <| Wo.og (az rfl) (gg rfl rfl (eD h201)) rfl ?_
          rcases aa hF with ⟨h203,hF⟩ | ⟨h203,hF⟩
          ·refine Wo.og (cm (r:=ptr b6 1) rfl (dN _ _)) (gg rfl rfl (iX h203)) rfl <| Wo.og (bz (k:=0) t32 rfl rfl rfl) (gg rfl rfl (iX h203)) rfl <| Wo.og (az rfl) (gg rfl rfl (iX h203)) rfl <| Wo.og (aE rfl rfl (dw _ _ _)) (gg rfl rfl (iX h203)) rfl ?_;obtain ⟨h204,hF⟩:=bJ hF;refine Wo.og (gv vo rfl rfl h204) (gg rfl rfl (iX h203)) rfl <| Wo.og (ic (r:=ptr b164 (o165+(IntKind.wrap .i64 (v24-1)).toNat*2+1)) rfl rfl (iR gB (i:=1) (by decide))) (gg rfl rfl (iX h203)) rfl <| Wo.og (gF (k:=1) t3 rfl rfl (cX h200) rfl rfl) (gg rfl rfl (iX h203)) rfl <| Wo.og (az rfl) (gg rfl rfl (iX h203)) rfl <| Wo.og (aE rfl rfl (fG _ _ _)) (gg rfl rfl (iX h203)) rfl <| Wo.og (nD rfl h203 rfl) (gg rfl rfl (eD h201)) rfl <| Wo.og (oe rfl h201 rfl) (gg rfl rfl (iX h196)) rfl <| Wo.od (nD rfl h196 rfl) rfl <| Wo.nil ?_
           cases hF;exact At.en () rfl (sc rfl (sc rfl (sc rfl sn))) (al.aC [0,1,2] rfl rfl)
          ·refine Wo.s (gg rfl rfl (rf h203)) rfl <| Wo.s (gg rfl rfl (rf h203)) rfl <| Wo.s (gg rfl rfl (rf h203)) rfl <| Wo.s (gg rfl rfl (rf h203)) rfl <| Wo.s (gg rfl rfl (rf h203)) rfl <| Wo.s (gg rfl rfl (rf h203)) rfl <| Wo.s (gg rfl rfl (rf h203)) rfl <| Wo.s (gg rfl rfl (rf h203)) rfl <| Wo.s (gg rfl rfl (rf h203)) rfl <| Wo.og (oe rfl h203 rfl) (gg rfl rfl (eD h201)) rfl ?_;refine Wo.og (oe rfl h201 rfl) (gg rfl rfl (iX h196)) rfl <| Wo.od (nD rfl h196 rfl) rfl <| Wo.nil ?_;cases hF;exact At.en () rfl (sc rfl (sc rfl (sc rfl sn))) (al.aC [0,1,2] rfl rfl)
        ·refine Wo.s (gg rfl rfl (rf h196)) rfl <| Wo.s (gg rfl rfl (rf h196)) rfl <| Wo.s (gg rfl rfl (rf h196)) rfl <| Wo.s (gg rfl rfl (rf h196)) rfl <| Wo.s (gg rfl rfl (rf h196)) rfl <| Wo.s (gg rfl rfl (rf h196)) rfl <| Wo.s (gg rfl rfl (rf h196)) rfl <| Wo.s (gg rfl rfl (rf h196)) rfl <| Wo.s (gg rfl rfl (rf h196)) rfl <| Wo.s (gg rfl rfl (rf h196)) rfl ?_;refine Wo.s (gu rfl rfl) rfl <| Wo.s (gu rfl rfl) rfl <| Wo.s (gu rfl rfl) rfl <| Wo.s (gu rfl rfl) rfl <| Wo.s (gu rfl rfl) rfl <| Wo.s (gu rfl rfl) rfl <| Wo.s (gu rfl rfl) rfl <| Wo.s (gu rfl rfl) rfl <| Wo.s (gu rfl rfl) rfl <| Wo.s (gu rfl rfl) rfl ?_;refine Wo.s (gu rfl rfl) rfl <| Wo.s (gu rfl rfl) rfl <| Wo.s (gu rfl rfl) rfl <| Wo.s (gu rfl rfl) rfl <| Wo.s (gu rfl rfl) rfl <| Wo.s (gu rfl rfl) rfl <| Wo.s (gu rfl rfl) rfl <| Wo.s (gu rfl rfl) rfl <| Wo.s (gu rfl rfl) rfl <| Wo.s (gu rfl rfl) rfl ?_;refine Wo.s (gg rfl rfl (rf h196)) rfl <| Wo.od (oe rfl h196 rfl) rfl <| Wo.nil ?_;cases hF;exact At.en () rfl (sc rfl (sc rfl (sc rfl sn))) (al.aC [0,1,2] rfl rfl)
       ·clear h205;rintro ⟨⟩;refine At.tn ?_;rcases aa hF with ⟨h207,hF⟩ | ⟨h207,hF⟩
        ·refine Wk.cT rfl h207 <| Wk.seq <| Wk.region <| Wo.od (bG rfl) rfl <| Wo.nil <| At.tn <| Wk.ret <| At.br <| At.tr ?_;cases hF;exact At.en () rfl (sc rfl sn) (al.aC [] rfl rfl)
        ·refine Wk.eJ rfl h207 <| Wk.skip <| At.bn <| At.tn <| Wk.region <| Wo.od (az rfl) rfl <| Wo.od (aE rfl rfl (dL _ _ _)) rfl <| Wo.od (bG rfl) rfl <| Wo.nil ?_;cases hF;exact At.en () rfl (sc rfl (sc rfl sn)) (al.aC [0,2] rfl rfl)
    ·refine Wk.eJ rfl h117 <| Wk.exit <| At.te ?_;cases hF;exact At.en () rfl sn (al.aC [] rfl rfl)
   ·clear h208;rcases r209 with _ | _
    ·rintro ⟨⟩;refine At.br <| At.tr ?_;cases hF;exact At.ret (.tmp rfl .nil) fun m' hm=>⟨(),rfl,(al.aC [] rfl rfl) m' hm⟩
    ·rintro ⟨⟩;refine At.be <| At.tn <| Wk.seq <| Wk.region <| Wo.od (bG rfl) rfl <| Wo.nil <| At.tn <| Wk.ret ?_;cases hF;exact At.ret (.tmp rfl .nil) fun m' hm=>⟨(),rfl,(al.aC [] rfl rfl) m' hm⟩
theorem zy (n x1 r) (hF:Bo n x1=some r) (m):
  ay aj 168 [.int .i64 x1] m (fun v m'=>∃ x:Unit,v = .bool r∧Hp m m' []):=by
 unfold Bo at hF;refine cw Tryz.func168 (Hp.start m) ?_;refine fm ?_;cases hF;exact ar () []
theorem Hc (n x1 x2 r) (hF:ES n x1 x2=some r) (m):
  ay aj 154 [.int .i64 x1,.int .i64 x2] m (fun v m'=>∃ x:Unit,v = .int .i64 r∧Hp m m' []):=by
 unfold ES at hF;refine cw Tryz.func154 (Hp.start m) ?_;refine ax ?_;obtain ⟨r4,h3,hF⟩:=J hF;refine wc gn (fun m hm=>zy n x1  _ h3 m) ?_;rintro ⟨⟩;refine ax ?_;obtain ⟨r6,h5,hF⟩:=J hF;refine wc gn (fun m hm=>zy n x2  _ h5 m) ?_;rintro ⟨⟩;refine ax ?_;rcases aa hF with ⟨h7,hF⟩ | ⟨h7,hF⟩
 ·refine wz ?_;rcases aa hF with ⟨h8,hF⟩ | ⟨h8,hF⟩
  ·refine ax ?_;cases hF;exact ar () []
  ·refine fm ?_;cases hF;exact ar () []
 ·refine ax ?_;rcases aa hF with ⟨h9,hF⟩ | ⟨h9,hF⟩
  ·refine ax ?_;cases hF;exact ar () []
  ·refine ax ?_;rcases aa hF with ⟨h10,hF⟩ | ⟨h10,hF⟩
   ·refine ax ?_;cases hF;exact ar () []
   ·refine ax ?_;rcases aa hF with ⟨h11,hF⟩ | ⟨h11,hF⟩
    ·refine ax ?_;cases hF;exact ar () []
    ·refine fm ?_;cases hF;exact ar () []
theorem HG (n l1 l5 a2 c3 a6 c7 r) (hF:DZ n l1 l5=some r) (m) (h4:Rd m a2 c3 1 l1.length (l1.map (eI .i64))) (h8:Rd m a6 c7 1 l5.length (l5.map (eI .i64))):
  ay aj 140 [.slice a2 l1.length c3,.slice a6 l5.length c7] m (fun v m'=>∃ x:Unit,v = .int .i64 r∧Hp m m' []):=by
 unfold DZ at hF;refine cw Tryz.func140 (((Hp.start m).i h4).i h8) ?_;refine ax ?_;refine Wk.block ?_;obtain ⟨r44,h43,hF⟩:=J hF;refine ct (fun (r:(Int) ⊕ (Unit)) (g:Unit)=>match r,g with | .inl v27,_=>⟨.ret,[(4,.int .i64 v27)],[]⟩ | .inr _,_=>⟨(.exit 0),[(0,.slice a2 l1.length c3),(1,.slice a6 l5.length c7)],[.rd a2 c3 1 l1.length (l1.map (eI .i64)),.rd a6 c7 1 l5.length (l5.map (eI .i64))]⟩) r44 ?_ ?_
 ·refine lo h43 () [1,0] (fun v10 _=>⟨.normal,[(0,.slice a2 l1.length c3),(1,.slice a6 l5.length c7),(9,.slice a2 l1.length c3),(10,.int .i64 (l1.length:Int)),(11,.int .i64 v10)],[.rd a2 c3 1 l1.length (l1.map (eI .i64)),.rd a6 c7 1 l5.length (l5.map (eI .i64))]⟩) ?_;clear hF h43;rintro v10 ⟨⟩ r hF;unfold jX at hF;refine wz ?_;refine Wk.seq ?_;rcases aa hF with ⟨h28,hF⟩ | ⟨h28,hF⟩
  ·refine ax ?_;obtain ⟨h29,hF⟩:=bJ hF;refine Wo.bO (k:=0) rfl (aT h29) ?_;rintro b30 o31 rfl;refine wz ?_;obtain ⟨x32,h33,hF⟩:=J hF;refine ax ?_;rcases aa hF with ⟨h34,hF⟩ | ⟨h34,hF⟩
   ·refine ax ?_;cases hF;exact ae () []
   ·refine ax ?_;obtain ⟨h35,hF⟩:=bJ hF;refine Wo.bO (k:=2) rfl (aT h35) ?_;rintro b36 o37 rfl;refine wz ?_;obtain ⟨x38,h39,hF⟩:=J hF;refine ax ?_;obtain ⟨r41,h40,hF⟩:=J hF;refine wc gn (fun m hm=>Hc n x32 x38  _ h40 m) ?_;rintro ⟨⟩;refine ax ?_;rcases aa hF with ⟨h42,hF⟩ | ⟨h42,hF⟩
    ·refine ax ?_;cases hF;exact ae () []
    ·refine ax ?_;cases hF;exact ae () [2,3]
  ·refine wz ?_;cases hF;exact ae () [0,1]
 ·clear h43;rcases r44 with v27 | _
  ·rintro ⟨⟩;refine wz ?_;obtain rfl:=Option.some.inj hF;exact ar () []
  ·rintro ⟨⟩;refine ax ?_;rcases aa hF with ⟨h45,hF⟩ | ⟨h45,hF⟩
   ·refine ax ?_;cases hF;exact ar () []
   ·refine fm ?_;cases hF;exact ar () []
theorem G1 (n x1 l2 a3 c4 r) (hF:Ed n x1 l2=some r) (m) (h5:Rd m a3 c4 2 l2.length (l2.map (eP (eI .i64) (eI .i64)))):
  ay aj 107 [.agg #[.int .i64 x1,.slice a3 l2.length c4]] m (fun v m'=>∃ x:Unit,v = .int .i64 r∧Hp m m' []):=by
 unfold Ed at hF;refine cw Tryz.func107 ((Hp.start m).i h5) ?_;refine wz ?_;refine wb fun b6=>?_;refine wz ?_;refine Wk.seq <| Wk.seq ?_;obtain ⟨v17,h20,hF⟩:=J hF;refine ct (fun v17 (_:Unit)=>⟨.normal,[(1,ptr b6 0),(19,.bool v17)],[.obj b6 (.cells [.int .i64 x1,.slice a3 l2.length c4] .own),.rd a3 c4 2 l2.length (l2.map (eP (eI .i64) (eI .i64)))]⟩) v17 ?_ ?_
 ·clear hF;revert v17;intro r hF;refine wz ?_;rcases aa hF with ⟨h18,hF⟩ | ⟨h18,hF⟩
  ·refine wz ?_;cases hF;exact ae () [0,1]
  ·refine wz ?_;rcases aa hF with ⟨h19,hF⟩ | ⟨h19,hF⟩
   ·refine wz ?_;cases hF;exact ae () [0,1]
   ·refine wz ?_;cases hF;exact ae () [0,1]
 ·clear h20;rintro ⟨⟩;refine At.tn ?_;rcases aa hF with ⟨h22,hF⟩ | ⟨h22,hF⟩
  ·refine ax ?_;cases hF;exact ar () []
  ·refine ax ?_;refine Wo.od (de rfl FF rfl (cY JG rfl rfl rfl)) rfl <| wa FF fun b23=>?_;refine ax ?_;refine Wk.block ?_;obtain ⟨r246,h245,hF⟩:=J hF;refine ct (fun (r:(Unit) ⊕ (Unit)) (g:Unit)=>match r,g with | .inl _,_=>⟨.ret,[(2,.int .i64 180)],[]⟩ | .inr _,_=>⟨(.exit 0),[],[]⟩) r246 ?_ ?_
   ·refine lo h245 () [1,2,0] (fun (v97,v98,v99) _=>⟨.normal,[(1,ptr b6 0),(3,ptr b23 0),(22,.slice a3 l2.length c4),(23,.int .i64 (l2.length:Int)),(24,.int .i64 v99)],[.obj b6 (.cells [.int .i64 x1,.slice a3 l2.length c4] .own),.rd a3 c4 2 l2.length (l2.map (eP (eI .i64) (eI .i64))),.obj b23 (.cells [.int .i64 v97,.int .i64 v98] .own)]⟩) ?_;clear hF h245;rintro ⟨v97,v98,v99⟩ ⟨⟩ r hF;unfold k9 at hF;refine wz ?_;refine Wk.seq ?_;rcases aa hF with ⟨h174,hF⟩ | ⟨h174,hF⟩
    ·refine ax ?_;obtain ⟨h210,hF⟩:=bJ hF;refine Wo.bO (k:=1) rfl (aT h210) ?_;rintro b211 o212 rfl;refine wz ?_;obtain ⟨⟨x213,x214⟩,h215,hF⟩:=J hF;refine wz ?_;refine wa FF fun b216=>?_;refine wz ?_;refine Wk.seq <| Wk.seq ?_;obtain ⟨v236,h242,hF⟩:=J hF;refine ct (fun v236 (_:Unit)=>⟨.normal,[(1,ptr b6 0),(3,ptr b23 0),(5,ptr b216 0),(22,.slice (some ⟨b211,o212,none⟩) l2.length c4),(23,.int .i64 (l2.length:Int)),(24,.int .i64 v99),(50,.bool v236)],[.obj b6 (.cells [.int .i64 x1,.slice (some ⟨b211,o212,none⟩) l2.length c4] .own),.ro b211 o212 2 l2.length (l2.map (eP (eI .i64) (eI .i64))),.rd (some ⟨b211,o212,none⟩) c4 2 l2.length (l2.map (eP (eI .i64) (eI .i64))),.obj b23 (.cells [.int .i64 v97,.int .i64 v98] .own),.obj b216 (.cells [.int .i64 x213,.int .i64 x214] .own)]⟩) v236 ?_ ?_
     ·clear hF;revert v236;intro r hF;refine wz ?_;rcases aa hF with ⟨h237,hF⟩ | ⟨h237,hF⟩
      ·refine wz ?_;cases hF;exact ae () [2,1,3,4,0]
      ·refine wz ?_;rcases aa hF with ⟨h238,hF⟩ | ⟨h238,hF⟩
       ·refine wz ?_;cases hF;exact ae () [2,1,3,4,0]
       ·refine wz ?_;rcases aa hF with ⟨h239,hF⟩ | ⟨h239,hF⟩
        ·refine wz ?_;cases hF;exact ae () [2,1,3,4,0]
        ·refine Wo.og (FU (k:=4) gB rfl rfl rfl rfl) (gg rfl rfl (eD h239)) rfl <| Wo.og (FU (k:=0) gB rfl rfl rfl rfl) (gg rfl rfl (eD h239)) rfl ?_;obtain ⟨r241,h240,hF⟩:=J hF;refine wc (gg rfl rfl (eD h239)) (fun m hm=>HG n [v97,v98] [x213,x214] (some ⟨b23,0,none⟩) 2 (some ⟨b216,0,none⟩) 2 _ h240 m (hm.Ns (k:=4) (xs:=[v97,v98]) (f:=eI .i64) rfl rfl rfl rfl (yq .i64)) (hm.Ns (k:=0) (xs:=[x213,x214]) (f:=eI .i64) rfl rfl rfl rfl (yq .i64))) ?_;rintro ⟨⟩;refine wz ?_;cases hF;exact ae () [2,1,3,4,0]
     ·clear h242;rintro ⟨⟩;refine At.tn ?_;rcases aa hF with ⟨h244,hF⟩ | ⟨h244,hF⟩
      ·refine ax ?_;cases hF;exact ae () []
      ·refine fm ?_;cases hF;exact ae () [0,2,3]
    ·refine wz ?_;cases hF;exact ae () []
   ·clear h245;rcases r246 with _ | _
    ·rintro ⟨⟩;refine wz ?_;cases hF;exact ar () []
    ·rintro ⟨⟩;refine fm ?_;cases hF;exact ar () []
theorem zY (n x1 r) (hF:A9 n x1=some r) (m):
  ay aj 108 [.int .u64 ((x1:Nat):Int)] m (fun v m'=>∃ x:Unit,v = .int .i64 r∧Hp m m' []):=by
 unfold A9 at hF;refine cw Tryz.func108 (Hp.start m) ?_;refine wz ?_;refine Wk.seq ?_;obtain ⟨r7,h6,hF⟩:=J hF;refine ct (fun (v3,v4) (_:Unit)=>⟨.normal,[(0,.int .u64 ((v3:Nat):Int)),(2,.int .i64 v4)],[]⟩) r7 ?_ ?_
 ·clear hF;revert r7;intro r hF;refine wz ?_;rcases aa hF with ⟨h5,hF⟩ | ⟨h5,hF⟩
  ·refine wz ?_;refine Wo.od (aE rfl rfl (da _ _ rfl)) rfl ?_;refine ax ?_;cases hF;exact ae () []
  ·refine wz ?_;cases hF;exact ae () []
 ·clear h6;obtain ⟨v3,v4⟩:=r7;rintro ⟨⟩;refine At.tn <| Wk.seq ?_;obtain ⟨r13,h12,hF⟩:=J hF;refine ct (fun (v9,v10) (_:Unit)=>⟨.normal,[(0,.int .u64 ((v9:Nat):Int)),(2,.int .i64 v10)],[]⟩) r13 ?_ ?_
  ·clear hF;revert r13;intro r hF;refine wz ?_;rcases aa hF with ⟨h11,hF⟩ | ⟨h11,hF⟩
   ·refine wz ?_;refine Wo.od (aE rfl rfl (da _ _ rfl)) rfl ?_;refine ax ?_;cases hF;exact ae () []
   ·refine wz ?_;cases hF;exact ae () []
  ·clear h12;obtain ⟨v9,v10⟩:=r13;rintro ⟨⟩;refine At.tn <| Wk.seq ?_;obtain ⟨r19,h18,hF⟩:=J hF;refine ct (fun (v15,v16) (_:Unit)=>⟨.normal,[(0,.int .u64 ((v15:Nat):Int)),(2,.int .i64 v16)],[]⟩) r19 ?_ ?_
   ·clear hF;revert r19;intro r hF;refine wz ?_;rcases aa hF with ⟨h17,hF⟩ | ⟨h17,hF⟩
    ·refine wz ?_;refine Wo.od (aE rfl rfl (da _ _ rfl)) rfl ?_;refine ax ?_;cases hF;exact ae () []
    ·refine wz ?_;cases hF;exact ae () []
   ·clear h18;obtain ⟨v15,v16⟩:=r19;rintro ⟨⟩;refine ax ?_;refine Wo.od (gC rfl (LF (by rw [Iy]; rfl) u5 rfl)) rfl ?_
    obtain ⟨h20,hF⟩:=aq hF;obtain ⟨y22,h21,hF⟩:=J hF;refine Wo.od (M7 eY u9 rfl (by rfl) rfl h20 h21) rfl <| Wo.od (gC rfl (rn (by rw [u5]; rfl) u3)) rfl ?_
    refine ax ?_;cases hF;exact ar () []
theorem DF (n x1 l2 x6 a3 c4 r) (hF:Li n x1 l2 x6=some r) (m) (h5:Rd m a3 c4 2 l2.length (l2.map (eP (eI .i64) (eI .i64)))):
  ay aj 54 [.agg #[.int .i64 x1,.slice a3 l2.length c4],.int .u64 ((x6:Nat):Int)] m (fun v m'=>∃ x:Unit,v = .int .i64 r∧Hp m m' []):=by
 unfold Li at hF;refine cw Tryz.func54 ((Hp.start m).i h5) ?_;refine wz ?_;refine wb fun b7=>?_;refine ax ?_;obtain ⟨r9,h8,hF⟩:=J hF;refine wc gn (fun m hm=>G1 n x1 l2 a3 c4 _ h8 m (hm.q 1)) ?_;rintro ⟨⟩;refine ax ?_;rcases aa hF with ⟨h10,hF⟩ | ⟨h10,hF⟩
 ·refine ax ?_;obtain rfl:=Option.some.inj hF;exact ar () []
 ·refine wz ?_;refine Wk.seq <| Wk.seq ?_;obtain ⟨v24,h28,hF⟩:=J hF;refine ct (fun v24 (_:Unit)=>⟨.normal,[(19,.bool v24)],[]⟩) v24 ?_ ?_
  ·clear hF;revert v24;intro r hF;refine Wk.cD (prs:=[(4,6)]) (by kernel_rfl) <| Wn.od (az rfl) rfl <| Wn.od (aE rfl rfl (C2 _ _)) rfl <| Wn.od (az rfl) rfl ?_
   rcases aa hF with ⟨h25,hF⟩ | ⟨h25,hF⟩
   ·refine Wn.s (gg rfl rfl (fD h25)) rfl <| Wn.s (gg rfl rfl (fD h25)) rfl <| Wn.s (gg rfl rfl (fD h25)) rfl <| Wn.s (gg rfl rfl (fD h25)) rfl <| Wn.s (gg rfl rfl (fD h25)) rfl <| Wn.od (nD rfl h25 rfl) rfl <| Wn.nil (fun m hm=>dv.all rfl) ?_;cases hF;exact ae () []
   ·refine Wn.og (az rfl) (gg rfl rfl (eD h25)) rfl ?_;obtain ⟨r27,h26,hF⟩:=J hF;refine nc (gg rfl rfl (eD h25)) (fun m hm=>zY n x6  _ h26 m) ?_;rintro ⟨⟩;refine Wn.og (cm (r:=ptr b7 0) rfl (pb _ _)) (gg rfl rfl (eD h25)) rfl <| Wn.og (bz (k:=0) t3 rfl rfl rfl) (gg rfl rfl (eD h25)) rfl <| Wn.og (aE rfl rfl (fH _ _ _)) (gg rfl rfl (eD h25)) rfl <| Wn.od (oe rfl h25 rfl) rfl <| Wn.nil (fun m hm=>dv.all rfl) ?_;cases hF;exact ae () []
  ·clear h28;rintro ⟨⟩;refine At.tn ?_;rcases aa hF with ⟨h30,hF⟩ | ⟨h30,hF⟩
   ·refine ax ?_;cases hF;exact ar () []
   ·refine fm ?_;cases hF;exact ar () []
theorem KV (n r) (hF:MW n=some r) (m):
  ay aj 78 [] m (fun v m'=>∃ x:Option Addr × Nat,v = .agg #[.slice x.1 x.2 x.2]∧Hp m m' [.sl x.1 1 x.2 (r.map (eI .i64))]):=by
 unfold MW at hF;refine cw Tryz.func78 (Hp.start m) ?_;refine wz ?_;refine wa I8 fun b1=>?_;refine ax ?_;obtain ⟨h2,hF⟩:=aq hF;obtain ⟨h3,hF⟩:=aq hF;refine Wo.x (mG (f:=eI .i64) (z0:=(0:Int)) MQ rfl h2 h3 z3 rfl rfl) gn rfl fun b4=>?_;refine ax ?_;refine Wk.block ?_;obtain ⟨l21,h27,hF⟩:=J hF;refine ct (fun l21 (_:Unit)=>⟨(.exit 0),[(0,ptr b1 0),(1,.slice (some ⟨b4,0,none⟩) ((64:Int).toNat) ((64:Int).toNat))],[.obj b1 (.cells [.slice none 0 0] .own),.arr b4 1 ((64:Int).toNat) (l21.map (eI .i64)) .own]⟩) l21 ?_ ?_
 ·refine lo h27 () [1,0] (fun (l12,v13) _=>⟨.normal,[(0,ptr b1 0),(1,.slice (some ⟨b4,0,none⟩) ((64:Int).toNat) ((64:Int).toNat)),(5,.int .i64 ((64:Int).toNat:Int)),(6,.int .i64 v13)],[.obj b1 (.cells [.slice none 0 0] .own),.arr b4 1 ((64:Int).toNat) (l12.map (eI .i64)) .own]⟩) ?_;clear hF h27;rintro ⟨l12,v13⟩ ⟨⟩ r hF;unfold xj at hF;refine wz ?_;refine Wk.seq ?_;rcases aa hF with ⟨h22,hF⟩ | ⟨h22,hF⟩
  ·refine fm ?_;obtain ⟨h23,hF⟩:=bJ hF;refine wz ?_;obtain ⟨x24,h25,hF⟩:=J hF;refine Wo.o0 (ey (k:=1) (x1:=x24) (x2:=v13) t3 rfl rfl rfl h25 rfl) ?_;refine ax ?_;cases hF;exact ae () [0,1]
  ·refine wz ?_;cases hF;exact ae () [0,1]
 ·clear h27;rintro ⟨⟩;refine ax ?_;refine Wo.od (de rfl I8 rfl (cY LD rfl rfl rfl)) rfl ?_;refine ax ?_;obtain rfl:=Option.some.inj hF;exact At.ret (.cell (k:=0) t133 rfl rfl rfl .nil) fun m' hm=>⟨((some ⟨b4,0,none⟩),((64:Int).toNat)),rfl,(al.trans (al.close (k:=1) rfl) (al.aC [1] rfl rfl)) m' hm⟩
theorem xS (n x1 x2 x3 r) (hF:Hk n x1 x2 x3=some r) (m):
  ay aj 59 [.int .u64 ((x1:Nat):Int),.agg #[.int .i64 x2,.int .i64 x3]] m (fun v m'=>∃ x:Unit,v = .bool r∧Hp m m' []):=by
 unfold Hk at hF;refine cw Tryz.func59 (Hp.start m) ?_;refine wz ?_;refine wb fun b4=>?_;refine ax ?_;obtain ⟨h5,hF⟩:=aq hF;refine Wo.od (aE rfl rfl (da _ _ h5)) rfl ?_;refine wz ?_;rcases aa hF with ⟨h6,hF⟩ | ⟨h6,hF⟩
 ·refine wz ?_;obtain ⟨h7,hF⟩:=aq hF;refine Wo.og (aE rfl rfl (da _ _ h7)) (gg rfl rfl (iX h6)) rfl ?_;refine ax ?_;cases hF;exact ar () []
 ·refine ax ?_;cases hF;exact ar () []
theorem zn (n l1 x5 a2 c3 r) (hF:Bc n l1 x5=some r) (m) (h4:Rd m a2 c3 1 l1.length (l1.map (eI .i64))):
  ay aj 109 [.slice a2 l1.length c3,.int .i64 x5] m (fun v m'=>∃ x:Unit,v = .int .i64 r∧Hp m m' []):=by
 unfold Bc at hF;refine cw Tryz.func109 ((Hp.start m).i h4) ?_;refine wz ?_;refine Wk.seq <| Wk.block ?_;obtain ⟨v16,h24,hF⟩:=J hF;refine ct (fun v16 (_:Unit)=>⟨(.exit 0),[(1,.int .i64 v16)],[]⟩) v16 ?_ ?_
 ·refine lo h24 () [0] (fun v7 _=>⟨.normal,[(0,.slice a2 l1.length c3),(1,.int .i64 v7)],[.rd a2 c3 1 l1.length (l1.map (eI .i64))]⟩) ?_;clear hF h24;rintro v7 ⟨⟩ r hF;unfold fw at hF;refine wz ?_;obtain ⟨h17,hF⟩:=bJ hF;refine Wo.bO (k:=0) rfl (aT h17) ?_;rintro b18 o19 rfl;refine wz ?_;obtain ⟨x20,h21,hF⟩:=J hF;refine wz ?_;rcases aa hF with ⟨h22,hF⟩ | ⟨h22,hF⟩
  ·refine ax ?_;obtain ⟨h23,hF⟩:=bJ hF;refine wz ?_;cases hF;exact ae () [1]
  ·refine wz ?_;cases hF;exact ae () []
 ·clear h24;rintro ⟨⟩;refine fm ?_;obtain rfl:=Option.some.inj hF;exact ar () []
theorem K9 (n x1 r) (hF:Nr n x1=some r) (m):
  ay aj 48 [.int .i64 x1] m (fun v m'=>∃ x:Unit,v = .agg #[.int .u64 ((r.1:Nat):Int),.int .u64 ((r.2.1:Nat):Int),.int .u64 ((r.2.2.1:Nat):Int),.int .u64 ((r.2.2.2.1:Nat):Int),.int .u64 ((r.2.2.2.2.1:Nat):Int),.int .u64 ((r.2.2.2.2.2.1:Nat):Int),.int .u64 ((r.2.2.2.2.2.2.1:Nat):Int),.int .u64 ((r.2.2.2.2.2.2.2:Nat):Int)]∧Hp m m' []):=by
 unfold Nr at hF;refine cw Tryz.func48 (Hp.start m) ?_;refine wz ?_;refine wa z38 fun b2=>?_;refine ax ?_;refine Wo.od (gC rfl (nd (by rw [u3]; rfl) Iy rfl)) rfl <| Wo.od (de rfl z38 rfl (cY BC rfl rfl rfl)) rfl <| wa z38 fun b3=>?_
 refine wz ?_;refine Wk.seq ?_;obtain ⟨l30,h57,hF⟩:=J hF;refine ct (fun l30 (_:Unit)=>⟨.normal,[(2,ptr b2 0),(3,ptr b3 0)],[.obj b2 (.cells [.int .u64 ((0:Nat):Int),.int .u64 ((0:Nat):Int),.int .u64 ((0:Nat):Int),.int .u64 ((0:Nat):Int),.int .u64 ((0:Nat):Int),.int .u64 ((0:Nat):Int),.int .u64 ((0:Nat):Int),.int .u64 ((0:Nat):Int)] .own),.arr b3 1 8 (l30.map (eN .u64)) .own]⟩) l30 ?_ ?_
 ·clear hF;revert l30;intro r hF;refine wz ?_;rcases aa hF with ⟨h31,hF⟩ | ⟨h31,hF⟩
  ·refine wz ?_;refine Wk.block ?_;obtain ⟨l49,h55,hF⟩:=J hF;refine ct (fun l49 (_:Unit)=>⟨(.exit 0),[(2,ptr b2 0),(3,ptr b3 0)],[.obj b2 (.cells [.int .u64 ((0:Nat):Int),.int .u64 ((0:Nat):Int),.int .u64 ((0:Nat):Int),.int .u64 ((0:Nat):Int),.int .u64 ((0:Nat):Int),.int .u64 ((0:Nat):Int),.int .u64 ((0:Nat):Int),.int .u64 ((0:Nat):Int)] .own),.arr b3 1 8 (l49.map (eN .u64)) .own]⟩) l49 ?_ ?_
   ·refine Wk.iV (fs':=[(2,ptr b2 0),(3,ptr b3 0),(4,.int .i64 1)]) (ps':=[.obj b2 (.cells [.int .u64 ((0:Nat):Int),.int .u64 ((0:Nat):Int),.int .u64 ((0:Nat):Int),.int .u64 ((0:Nat):Int),.int .u64 ((0:Nat):Int),.int .u64 ((0:Nat):Int),.int .u64 ((0:Nat):Int),.int .u64 ((0:Nat):Int)] .own),.arr b3 1 8 (([ui .u64 x1,0,0,0,0,0,0,0]:List (Nat)).map (eN .u64)) .own]) (sc rfl (sc rfl (sc rfl sn))) (al.trans (al.qo (k:=0) (xs:=([ui .u64 x1,0,0,0,0,0,0,0]:List (Nat))) (f:=eN .u64) (l:=8) (w:=1) rfl rfl rfl (FD .u64) rfl) (al.aC [1,0] rfl rfl)) <| Wk.loop (σ:=List (Nat) × Int) (ρ:=List (Nat)) (γ:=Unit) (δ:=fun _=>Unit) _ (fun (s:List (Nat) × Int) (g:Unit)=>match s,g with | (l40,v41),_=>⟨.normal,[(2,ptr b2 0),(3,ptr b3 0),(4,.int .i64 v41)],[.obj b2 (.cells [.int .u64 ((0:Nat):Int),.int .u64 ((0:Nat):Int),.int .u64 ((0:Nat):Int),.int .u64 ((0:Nat):Int),.int .u64 ((0:Nat):Int),.int .u64 ((0:Nat):Int),.int .u64 ((0:Nat):Int),.int .u64 ((0:Nat):Int)] .own),.arr b3 1 8 (l40.map (eN .u64)) .own]⟩) (fun (r:List (Nat)) (g:Unit)=>match r,g with | l49,_=>⟨(.exit 0),[(2,ptr b2 0),(3,ptr b3 0)],[.obj b2 (.cells [.int .u64 ((0:Nat):Int),.int .u64 ((0:Nat):Int),.int .u64 ((0:Nat):Int),.int .u64 ((0:Nat):Int),.int .u64 ((0:Nat):Int),.int .u64 ((0:Nat):Int),.int .u64 ((0:Nat):Int),.int .u64 ((0:Nat):Int)] .own),.arr b3 1 8 (l49.map (eN .u64)) .own]⟩) ?_ (fun _ _=>rfl) (fun r d=>by intro e; cases e) _ _ _ h55 ()
    clear hF h55;rintro ⟨l40,v41⟩ ⟨⟩ r hF;unfold IM at hF;refine wz ?_;rcases aa hF with ⟨h50,hF⟩ | ⟨h50,hF⟩
    ·refine ax ?_;obtain ⟨h51,hF⟩:=bJ hF;refine Wo.og (kU F2 rfl rfl h51) gn rfl ?_;obtain ⟨x52,h53,hF⟩:=J hF;refine Wo.o0 (ey (k:=1) (x1:=x52) (x2:=18446744073709551615) t26 rfl rfl rfl h53 rfl) ?_;refine ax ?_;cases hF;exact ae () [0,1]
    ·refine wz ?_;cases hF;exact ae () [0,1]
   ·clear h55;rintro ⟨⟩;refine At.be ?_;obtain rfl:=Option.some.inj hF;exact ae () [0,1]
  ·refine wz ?_;cases hF;exact At.en () rfl (sc rfl (sc rfl sn)) (al.trans (al.qo (k:=0) (xs:=([ui .u64 x1,0,0,0,0,0,0,0]:List (Nat))) (f:=eN .u64) (l:=8) (w:=1) rfl rfl rfl (FD .u64) rfl) (al.aC [1,0] rfl rfl))
 ·clear h57;rintro ⟨⟩;refine ax ?_;obtain ⟨⟨x59,x60,x61,x62,x63,x64,x65,x66⟩,h67,hF⟩:=J hF;refine Wo.dK (al.sI (k:=1) (ys:=[x59,x60,x61,x62,x63,x64,x65,x66]) (cs:=[.int .u64 ((x59:Nat):Int),.int .u64 ((x60:Nat):Int),.int .u64 ((x61:Nat):Int),.int .u64 ((x62:Nat):Int),.int .u64 ((x63:Nat):Int),.int .u64 ((x64:Nat):Int),.int .u64 ((x65:Nat):Int),.int .u64 ((x66:Nat):Int)]) rfl (mD h67) rfl) ?_;refine ax ?_;cases hF;exact ar () []
theorem Am (n x1 x2 x3 x4 x5 x6 x7 x8 x9 x10 x11 x12 x13 x14 x15 x16 r) (hF:GP n x1 x2 x3 x4 x5 x6 x7 x8 x9 x10 x11 x12 x13 x14 x15 x16=some r) (m):
  ay aj 130 [.agg #[.int .u64 ((x1:Nat):Int),.int .u64 ((x2:Nat):Int),.int .u64 ((x3:Nat):Int),.int .u64 ((x4:Nat):Int),.int .u64 ((x5:Nat):Int),.int .u64 ((x6:Nat):Int),.int .u64 ((x7:Nat):Int),.int .u64 ((x8:Nat):Int)],.agg #[.int .u64 ((x9:Nat):Int),.int .u64 ((x10:Nat):Int),.int .u64 ((x11:Nat):Int),.int .u64 ((x12:Nat):Int),.int .u64 ((x13:Nat):Int),.int .u64 ((x14:Nat):Int),.int .u64 ((x15:Nat):Int),.int .u64 ((x16:Nat):Int)]] m (fun v m'=>∃ x:Unit,v = .tuple #[.agg #[.int .u64 ((r.1:Nat):Int),.int .u64 ((r.2.1:Nat):Int),.int .u64 ((r.2.2.1:Nat):Int),.int .u64 ((r.2.2.2.1:Nat):Int),.int .u64 ((r.2.2.2.2.1:Nat):Int),.int .u64 ((r.2.2.2.2.2.1:Nat):Int),.int .u64 ((r.2.2.2.2.2.2.1:Nat):Int),.int .u64 ((r.2.2.2.2.2.2.2.1:Nat):Int)],.int .u64 ((r.2.2.2.2.2.2.2.2:Nat):Int)]∧Hp m m' []):=by
 unfold GP at hF;refine cw Tryz.func130 (Hp.start m) ?_;refine wz ?_;refine wb fun b17=>?_;refine wb fun b18=>?_;refine wa Fm fun b19=>?_;refine fm ?_;refine Wk.block ?_;obtain ⟨r71,h70,hF⟩:=J hF;refine ct (fun (l56,v57) (_:Unit)=>⟨(.exit 0),[(2,ptr b17 0),(4,ptr b19 0),(6,.int .u64 ((v57:Nat):Int))],[.arr b17 1 8 (l56.map (eN .u64)) .own,.obj b19 (.cells [.int .u64 ((0:Nat):Int),.int .u64 ((0:Nat):Int),.int .u64 ((0:Nat):Int),.int .u64 ((0:Nat):Int),.int .u64 ((0:Nat):Int),.int .u64 ((0:Nat):Int),.int .u64 ((0:Nat):Int),.int .u64 ((0:Nat):Int)] .own)]⟩) r71 ?_ ?_
 ·refine Wk.iV (fs':=[(2,ptr b17 0),(3,ptr b18 0),(4,ptr b19 0),(6,.int .u64 ((0:Nat):Int)),(8,.int .i64 0)]) (ps':=[.arr b17 1 8 (([x1,x2,x3,x4,x5,x6,x7,x8]:List (Nat)).map (eN .u64)) .own,.arr b18 1 8 (([x9,x10,x11,x12,x13,x14,x15,x16]:List (Nat)).map (eN .u64)) .own,.obj b19 (.cells [.int .u64 ((0:Nat):Int),.int .u64 ((0:Nat):Int),.int .u64 ((0:Nat):Int),.int .u64 ((0:Nat):Int),.int .u64 ((0:Nat):Int),.int .u64 ((0:Nat):Int),.int .u64 ((0:Nat):Int),.int .u64 ((0:Nat):Int)] .own)]) (sc rfl (sc rfl (sc rfl (sc rfl (sc rfl sn))))) (al.trans (al.qo (k:=2) (xs:=([x1,x2,x3,x4,x5,x6,x7,x8]:List (Nat))) (f:=eN .u64) (l:=8) (w:=1) rfl rfl rfl (FD .u64) rfl) (al.trans (al.qo (k:=1) (xs:=([x9,x10,x11,x12,x13,x14,x15,x16]:List (Nat))) (f:=eN .u64) (l:=8) (w:=1) rfl rfl rfl (FD .u64) rfl) (al.aC [2,1,0] rfl rfl))) <| Wk.loop (σ:=List (Nat) × List (Nat) × Nat × Int) (ρ:=List (Nat) × Nat) (γ:=Unit) (δ:=fun _=>Unit) _ (fun (s:List (Nat) × List (Nat) × Nat × Int) (g:Unit)=>match s,g with | (l36,l37,v38,v39),_=>⟨.normal,[(2,ptr b17 0),(3,ptr b18 0),(4,ptr b19 0),(6,.int .u64 ((v38:Nat):Int)),(8,.int .i64 v39)],[.arr b17 1 8 (l36.map (eN .u64)) .own,.arr b18 1 8 (l37.map (eN .u64)) .own,.obj b19 (.cells [.int .u64 ((0:Nat):Int),.int .u64 ((0:Nat):Int),.int .u64 ((0:Nat):Int),.int .u64 ((0:Nat):Int),.int .u64 ((0:Nat):Int),.int .u64 ((0:Nat):Int),.int .u64 ((0:Nat):Int),.int .u64 ((0:Nat):Int)] .own)]⟩) (fun (r:List (Nat) × Nat) (g:Unit)=>match r,g with | (l56,v57),_=>⟨(.exit 0),[(2,ptr b17 0),(4,ptr b19 0),(6,.int .u64 ((v57:Nat):Int))],[.arr b17 1 8 (l56.map (eN .u64)) .own,.obj b19 (.cells [.int .u64 ((0:Nat):Int),.int .u64 ((0:Nat):Int),.int .u64 ((0:Nat):Int),.int .u64 ((0:Nat):Int),.int .u64 ((0:Nat):Int),.int .u64 ((0:Nat):Int),.int .u64 ((0:Nat):Int),.int .u64 ((0:Nat):Int)] .own)]⟩) ?_ (fun _ _=>rfl) (fun r d=>by intro e; cases e) _ _ _ h70 ()
  clear hF h70;rintro ⟨l36,l37,v38,v39⟩ ⟨⟩ r hF;unfold Ez at hF;refine wz ?_;refine Wk.seq ?_;rcases aa hF with ⟨h58,hF⟩ | ⟨h58,hF⟩
  ·refine fm ?_;obtain ⟨h59,hF⟩:=bJ hF;refine Wo.og (kU kH rfl rfl h59) gn rfl ?_;obtain ⟨x60,h61,hF⟩:=J hF;refine wz ?_;obtain ⟨h62,hF⟩:=bJ hF;refine Wo.og (kU kH rfl rfl h62) gn rfl ?_;obtain ⟨x63,h64,hF⟩:=J hF;refine wz ?_;obtain ⟨⟨r66,r67⟩,h65,hF⟩:=J hF;refine wc gn (fun m hm=>AX n x60 x63 v38  _ h65 m) ?_;rintro ⟨⟩;refine wz ?_;obtain ⟨h68,hF⟩:=bJ hF;refine Wo.og (kU kH rfl rfl h68) gn rfl <| Wo.o0 (ey (k:=0) (x1:=x60) (x2:=r66) t26 rfl rfl rfl h61 rfl) ?_;refine ax ?_;cases hF;exact ae () [0,1,2]
  ·refine wz ?_;cases hF;exact ae () [0,2]
 ·clear h70;obtain ⟨l56,v57⟩:=r71;rintro ⟨⟩;refine ax ?_;obtain ⟨⟨x72,x73,x74,x75,x76,x77,x78,x79⟩,h80,hF⟩:=J hF;refine Wo.dK (al.sI (k:=0) (ys:=[x72,x73,x74,x75,x76,x77,x78,x79]) (cs:=[.int .u64 ((x72:Nat):Int),.int .u64 ((x73:Nat):Int),.int .u64 ((x74:Nat):Int),.int .u64 ((x75:Nat):Int),.int .u64 ((x76:Nat):Int),.int .u64 ((x77:Nat):Int),.int .u64 ((x78:Nat):Int),.int .u64 ((x79:Nat):Int)]) rfl (mD h80) rfl) ?_;refine ax ?_;cases hF;exact ar () []
theorem Jr (n x1 x2 x3 x4 x5 x6 x7 x8 r) (hF:NV n x1 x2 x3 x4 x5 x6 x7 x8=some r) (m):
  ay aj 88 [.agg #[.int .u64 ((x1:Nat):Int),.int .u64 ((x2:Nat):Int),.int .u64 ((x3:Nat):Int),.int .u64 ((x4:Nat):Int),.int .u64 ((x5:Nat):Int),.int .u64 ((x6:Nat):Int),.int .u64 ((x7:Nat):Int),.int .u64 ((x8:Nat):Int)]] m (fun v m'=>∃ x:Unit,v = .agg #[.bool r.1,.int .u64 ((r.2.1:Nat):Int),.int .u64 ((r.2.2.1:Nat):Int),.int .u64 ((r.2.2.2.1:Nat):Int),.int .u64 ((r.2.2.2.2.1:Nat):Int),.int .u64 ((r.2.2.2.2.2.1:Nat):Int),.int .u64 ((r.2.2.2.2.2.2.1:Nat):Int),.int .u64 ((r.2.2.2.2.2.2.2.1:Nat):Int),.int .u64 ((r.2.2.2.2.2.2.2.2:Nat):Int)]∧Hp m m' []):=by
 unfold NV at hF;refine cw Tryz.func88 (Hp.start m) ?_;refine wz ?_;refine wb fun b9=>?_;refine wa Bn fun b10=>?_;refine ax ?_;refine Wo.od (aE rfl rfl (da _ _ rfl)) rfl ?_;refine wz ?_;refine Wo.od (de rfl Bn rfl (cY ID rfl rfl rfl)) rfl <| wa Bn fun b11=>?_;refine wz ?_;refine Wk.seq ?_;obtain ⟨r44,h43,hF⟩:=J hF;refine ct (fun (v23,v24,v25,v26,v27,v28,v29,v30,v31) (_:Unit)=>⟨.normal,[(2,ptr b10 0),(3,ptr b11 0)],[.obj b10 (.cells [.bool false,.int .u64 ((0:Nat):Int),.int .u64 ((0:Nat):Int),.int .u64 ((0:Nat):Int),.int .u64 ((0:Nat):Int),.int .u64 ((0:Nat):Int),.int .u64 ((0:Nat):Int),.int .u64 ((0:Nat):Int),.int .u64 ((0:Nat):Int)] .own),.obj b11 (.cells [.bool v23,.int .u64 ((v24:Nat):Int),.int .u64 ((v25:Nat):Int),.int .u64 ((v26:Nat):Int),.int .u64 ((v27:Nat):Int),.int .u64 ((v28:Nat):Int),.int .u64 ((v29:Nat):Int),.int .u64 ((v30:Nat):Int),.int .u64 ((v31:Nat):Int)] .own)]⟩) r44 ?_ ?_
 ·clear hF;revert r44;intro r hF;refine wz ?_;rcases aa hF with ⟨h32,hF⟩ | ⟨h32,hF⟩
  ·refine wz ?_;refine Wo.od (de rfl Fm rfl (cY Fy rfl rfl rfl)) rfl ?_;refine wz ?_;obtain ⟨⟨r34,r35,r36,r37,r38,r39,r40,r41,r42⟩,h33,hF⟩:=J hF;refine wc gn (fun m hm=>Am n 0 0 0 0 0 0 0 0 x1 x2 x3 x4 x5 x6 x7 x8  _ h33 m) ?_;rintro ⟨⟩;refine wz ?_;cases hF;exact ae () [1,0]
  ·refine wz ?_;cases hF;exact ae () [1,0]
 ·clear h43;obtain ⟨v23,v24,v25,v26,v27,v28,v29,v30,v31⟩:=r44;rintro ⟨⟩;refine fm ?_;cases hF;exact ar () []
theorem e9 (n x1 l2 a3 c4 r) (hF:mc n x1 l2=some r) (m) {H:Nat→Prop} (hH:∀ b,H b→b<m.next) (h5:Rd m a3 c4 1 l2.length (l2.map (eN .u64))) (h6:∀ b,dm a3=some b→¬ H b):
  ay aj 126 [.bool x1,.slice a3 l2.length c4] m (fun v m'=>∃ x:Option Addr × Nat × Nat,v = .agg #[.bool r.1,.slice x.1 x.2.2 x.2.1]∧Hp m m' [.rd x.1 x.2.1 1 x.2.2 (r.2.map (eN .u64)),.gen (bA H)]):=by
 unfold mc at hF;refine cw Tryz.func126 (Hp.dy (l0:=[]) (Hp.bT m hH) rfl h5 h6) ?_;refine wz ?_;refine wa eH fun b7=>?_;refine ax ?_;refine Wk.seq <| Wk.block ?_;obtain ⟨v43,h76,hF⟩:=J hF;refine ct (fun v43 (_:Unit)=>⟨(.exit 0),[(0,.bool x1),(1,.slice a3 l2.length c4),(4,ptr b7 0),(5,.int .i64 v43)],[.rd a3 c4 1 l2.length (l2.map (eN .u64)),.obj b7 (.cells [.bool false,.slice none 0 0] .own),.gen (bA H)]⟩) v43 ?_ ?_
 ·refine lo h76 () [1,0,2] (fun v9 _=>⟨.normal,[(0,.bool x1),(1,.slice a3 l2.length c4),(4,ptr b7 0),(5,.int .i64 v9)],[.rd a3 c4 1 l2.length (l2.map (eN .u64)),.obj b7 (.cells [.bool false,.slice none 0 0] .own),.gen (bA H)]⟩) ?_;clear hF h76;rintro v9 ⟨⟩ r hF;unfold ly at hF;refine Wk.seq <| Wk.seq ?_;obtain ⟨v66,h73,hF⟩:=J hF;refine ct (fun v66 (_:Unit)=>⟨.normal,[(0,.bool x1),(1,.slice a3 l2.length c4),(4,ptr b7 0),(5,.int .i64 v9),(17,.bool v66)],[.rd a3 c4 1 l2.length (l2.map (eN .u64)),.obj b7 (.cells [.bool false,.slice none 0 0] .own),.gen (bA H)]⟩) v66 ?_ ?_
  ·clear hF;revert v66;intro r hF;refine wz ?_;rcases aa hF with ⟨h67,hF⟩ | ⟨h67,hF⟩
   ·refine wz ?_;obtain ⟨h68,hF⟩:=bJ hF;refine Wo.bO (k:=0) rfl (aT h68) ?_;rintro b69 o70 rfl;refine wz ?_;obtain ⟨x71,h72,hF⟩:=J hF;refine wz ?_;cases hF;exact ae () [1,2,3]
   ·refine wz ?_;cases hF;exact ae () [0,1,2]
  ·clear h73;rintro ⟨⟩;refine At.tn ?_;rcases aa hF with ⟨h75,hF⟩ | ⟨h75,hF⟩
   ·refine ax ?_;cases hF;exact ae () [0,1,2]
   ·refine wz ?_;cases hF;exact ae () [0,1,2]
 ·clear h76;rintro ⟨⟩;refine ax ?_;rcases aa hF with ⟨h78,hF⟩ | ⟨h78,hF⟩
  ·refine wz ?_;obtain ⟨h79,hF⟩:=aq hF;refine Wo.x (zK (k:=0) (lo:=0) (hi:=v43) rR rfl rfl rfl rfl h79 (.inl ⟨rfl,rfl⟩) (.inr ⟨_,rfl⟩)) gn rfl ?_;rintro ⟨a80,c81⟩;refine Wo.od (de rfl eH rfl (cY wA rfl rfl rfl)) rfl ?_;refine ax ?_;cases hF;exact ar (a80,c81,(((l2.drop (0:Int).toNat).take ((v43:Int).toNat-(0:Int).toNat)).length)) [0,3]
  ·refine wz ?_;obtain ⟨h82,hF⟩:=aq hF;refine Wo.x (zK (k:=0) (lo:=0) (hi:=v43) rR rfl rfl rfl rfl h82 (.inl ⟨rfl,rfl⟩) (.inr ⟨_,rfl⟩)) gn rfl ?_;rintro ⟨a83,c84⟩;refine Wo.od (de rfl eH rfl (cY wA rfl rfl rfl)) rfl ?_;refine ax ?_;cases hF;exact ar (a83,c84,(((l2.drop (0:Int).toNat).take ((v43:Int).toNat-(0:Int).toNat)).length)) [0,3]
theorem KJ (n x1 x2 x3 x4 x5 x6 x7 x8 r) (hF:Nz n x1 x2 x3 x4 x5 x6 x7 x8=some r) (m) {H:Nat→Prop} (hH:∀ b,H b→b<m.next):
  ay aj 67 [.agg #[.int .u64 ((x1:Nat):Int),.int .u64 ((x2:Nat):Int),.int .u64 ((x3:Nat):Int),.int .u64 ((x4:Nat):Int),.int .u64 ((x5:Nat):Int),.int .u64 ((x6:Nat):Int),.int .u64 ((x7:Nat):Int),.int .u64 ((x8:Nat):Int)]] m (fun v m'=>∃ x:Option Addr × Nat × Nat,v = .agg #[.bool r.1,.slice x.1 x.2.2 x.2.1]∧Hp m m' [.rd x.1 x.2.1 1 x.2.2 (r.2.map (eN .u64)),.gen (bA H)]):=by
 unfold Nz at hF;refine cw Tryz.func67 (Hp.bT m hH) ?_;refine wz ?_;refine wb fun b9=>?_;refine wa eH fun b10=>?_;refine ax ?_;obtain ⟨⟨r12,r13,r14,r15,r16,r17,r18,r19,r20⟩,h11,hF⟩:=J hF;refine wc gn (fun m hm=>Jr n x1 x2 x3 x4 x5 x6 x7 x8  _ h11 m) ?_;rintro ⟨⟩;refine wa Bn fun b21=>?_;refine wz ?_;refine Wk.seq <| Wk.cD (prs:=[(1,5)]) (by kernel_rfl) <| Wn.od (cm (r:=ptr b21 0) rfl (AT _ _)) rfl <| Wn.GO rfl (bz (k:=0) t4 rfl rfl rfl) rfl <| Wn.x (jv (es:=([]:List (Nat)).map (eN .u64)) rR rfl (ju rR IV rfl rfl) rfl rfl) gn rfl fun b22=>?_
 refine Wn.od (cm (r:=ptr b21 1) rfl (AS _ _)) rfl <| Wn.og (FU (k:=1) kH rfl rfl rfl rfl) gn rfl ?_;obtain ⟨h23,hF⟩:=aq hF;refine Wn.dK (al.close (k:=0) rfl) <| Wn.xk (l:=[b21]) (MJ (k:=0) (xs:=([]:List (Nat))) (ys:=([r13,r14,r15,r16,r17,r18,r19,r20]:List (Nat))) (FD .u64) rR ⟨_,Nd⟩ rfl rfl (fun m hm=>hm.Ns (k:=1) (xs:=([r13,r14,r15,r16,r17,r18,r19,r20]:List (Nat))) (f:=eN .u64) rfl rfl rfl rfl (FD .u64)) h23) ⟨⟨_,1,rfl,rfl,fun _=>⟨1,rfl⟩⟩,trivial⟩ gn rfl fun a24=>?_;obtain ⟨⟨r26,l27⟩,h25,hF⟩:=J hF;refine Wn.dK (al.freeze (k:=0) rfl) <| nv gn (fun m hm=>e9 n r12 (([]:List (Nat))++[r13,r14,r15,r16,r17,r18,r19,r20]) a24 ((([]:List (Nat))++[r13,r14,r15,r16,r17,r18,r19,r20]).length) _ h25 m hm.aw (hm.q 0) (hm.no 0)) ?_;rintro ⟨a28,c29,n30⟩;refine Wn.bj (k:=0) rfl ?_;rintro rfl;refine Wn.o0 (fx (k:=3) t103 rfl rfl rfl rfl rfl) <| Wn.nil (fun m hm=>(dv.rk rfl rfl rfl (by simp) dv.nil)) ?_
 refine ax ?_;cases hF;exact ar (a28,c29,l27.length) [0,5]
theorem lH (n x1 r) (hF:vC n x1=some r) (m) {H:Nat→Prop} (hH:∀ b,H b→b<m.next):
  ay aj 76 [.int .i64 x1] m (fun v m'=>∃ x:Option Addr × Nat × Nat,v = .agg #[.bool r.1,.slice x.1 x.2.2 x.2.1]∧Hp m m' [.rd x.1 x.2.1 1 x.2.2 (r.2.map (eN .u64)),.gen (bA H)]):=by
 unfold vC at hF;refine cw Tryz.func76 (Hp.bT m hH) ?_;refine wz ?_;refine wa eH fun b2=>?_;refine ax ?_;obtain ⟨⟨r4,r5,r6,r7,r8,r9,r10,r11⟩,h3,hF⟩:=J hF;refine wc gn (fun m hm=>K9 n x1  _ h3 m) ?_;rintro ⟨⟩;obtain ⟨⟨r13,l14⟩,h12,hF⟩:=J hF;refine wv gn (fun m hm=>KJ n r4 r5 r6 r7 r8 r9 r10 r11  _ h12 m hm.aw) ?_;rintro ⟨a15,c16,n17⟩;refine Wo.bj (k:=0) rfl ?_;rintro rfl;refine ax ?_;cases hF;exact ar (a15,c16,l14.length) [0,2]
theorem HK (n l1 l5 a2 c3 a6 c7 r) (hF:Dh n l1 l5=some r) (m) (h4:Rd m a2 c3 1 l1.length (l1.map (eN .u64))) (h8:Rd m a6 c7 1 l5.length (l5.map (eN .u64))):
  ay aj 141 [.slice a2 l1.length c3,.slice a6 l5.length c7] m (fun v m'=>∃ x:Option Addr × Nat,v = .slice x.1 x.2 x.2∧Hp m m' [.sl x.1 1 x.2 (r.map (eN .u64))]):=by
 unfold Dh at hF;refine cw Tryz.func141 (((Hp.start m).i h4).i h8) ?_;refine wz ?_;refine Wk.seq ?_;obtain ⟨r18,h17,hF⟩:=J hF;refine ct (fun (l10,l13) ((a11,c12,a14,c15):Option Addr × Nat × Option Addr × Nat)=>⟨.normal,[(0,.slice a11 l10.length c12),(1,.slice a14 l13.length c15)],[.rd a11 c12 1 l10.length (l10.map (eN .u64)),.rd a14 c15 1 l13.length (l13.map (eN .u64))]⟩) r18 ?_ ?_
 ·clear hF;revert r18;intro r hF;refine wz ?_;rcases aa hF with ⟨h16,hF⟩ | ⟨h16,hF⟩
  ·refine wz ?_;cases hF;exact ae (a6,c7,a2,c3) [0,1]
  ·refine wz ?_;cases hF;exact ae (a2,c3,a6,c7) [1,0]
 ·clear h17;obtain ⟨l10,l13⟩:=r18;rintro ⟨a11,c12,a14,c15⟩;refine ax ?_;obtain ⟨h19,hF⟩:=aq hF;obtain ⟨h20,hF⟩:=aq hF;refine Wo.x (mG (f:=eN .u64) (z0:=(0:Nat)) rR rfl h19 h20 IV rfl rfl) gn rfl fun b21=>?_;refine fm ?_;refine Wk.block ?_;obtain ⟨r161,h160,hF⟩:=J hF;refine ct (fun (l95,n97,v98) (a96:Option Addr)=>⟨(.exit 0),[(0,.slice a11 l10.length c12),(5,.slice a96 n97 n97),(6,.int .u64 ((v98:Nat):Int))],[.rd a11 c12 1 l10.length (l10.map (eN .u64)),.sl a96 1 n97 (l95.map (eN .u64))]⟩) r161 ?_ ?_
  ·refine Wk.iV (fs':=[(0,.slice a11 l10.length c12),(1,.slice a14 l13.length c15),(5,.slice (some ⟨b21,0,none⟩) ((IntKind.wrap .i64 ((l10.length:Int)+1)).toNat) ((IntKind.wrap .i64 ((l10.length:Int)+1)).toNat)),(6,.int .u64 ((0:Nat):Int)),(21,.slice a11 l10.length c12),(22,.int .i64 (l10.length:Int)),(23,.int .i64 0)]) (ps':=[.rd a11 c12 1 l10.length (l10.map (eN .u64)),.rd a14 c15 1 l13.length (l13.map (eN .u64)),.sl (some ⟨b21,0,none⟩) 1 ((IntKind.wrap .i64 ((l10.length:Int)+1)).toNat) ((List.replicate (IntKind.wrap .i64 ((l10.length:Int)+1)).toNat (0:Nat)).map (eN .u64))]) (sc rfl (sc rfl (sc rfl (sc rfl (sc rfl (sc rfl (sc rfl sn))))))) (al.trans (al.close (k:=0) rfl) (al.aC [1,2,0] rfl rfl)) <| Wk.loop (σ:=List (Nat) × Nat × Nat × Int) (ρ:=List (Nat) × Nat × Nat) (γ:=Option Addr) (δ:=fun _=>Option Addr) _ (fun (s:List (Nat) × Nat × Nat × Int) (g:Option Addr)=>match s,g with | (l24,n26,v27,v28),a25=>⟨.normal,[(0,.slice a11 l10.length c12),(1,.slice a14 l13.length c15),(5,.slice a25 n26 n26),(6,.int .u64 ((v27:Nat):Int)),(21,.slice a11 l10.length c12),(22,.int .i64 (l10.length:Int)),(23,.int .i64 v28)],[.rd a11 c12 1 l10.length (l10.map (eN .u64)),.rd a14 c15 1 l13.length (l13.map (eN .u64)),.sl a25 1 n26 (l24.map (eN .u64))]⟩) (fun (r:List (Nat) × Nat × Nat) (g:Option Addr)=>match r,g with | (l95,n97,v98),a96=>⟨(.exit 0),[(0,.slice a11 l10.length c12),(5,.slice a96 n97 n97),(6,.int .u64 ((v98:Nat):Int))],[.rd a11 c12 1 l10.length (l10.map (eN .u64)),.sl a96 1 n97 (l95.map (eN .u64))]⟩) ?_ (fun _ _=>rfl) (fun r d=>by intro e; cases e) _ _ _ h160 (some ⟨b21,0,none⟩)
   clear hF h160;rintro ⟨l24,n26,v27,v28⟩ a25 r hF;unfold k6 at hF;refine wz ?_;refine Wk.seq ?_;rcases aa hF with ⟨h99,hF⟩ | ⟨h99,hF⟩
   ·refine ax ?_;obtain ⟨h130,hF⟩:=bJ hF;refine Wo.bO (k:=0) rfl (aT h130) ?_;rintro b131 o132 rfl;refine wz ?_;obtain ⟨x133,h134,hF⟩:=J hF;refine ax ?_;refine Wk.seq ?_;obtain ⟨v141,h148,hF⟩:=J hF;refine ct (fun v141 (_:Unit)=>⟨.normal,[(0,.slice (some ⟨b131,o132,none⟩) l10.length c12),(1,.slice a14 l13.length c15),(5,.slice a25 n26 n26),(6,.int .u64 ((v27:Nat):Int)),(7,.int .i64 v28),(8,.int .u64 ((x133:Nat):Int)),(9,.int .u64 ((v141:Nat):Int)),(21,.slice (some ⟨b131,o132,none⟩) l10.length c12),(22,.int .i64 (l10.length:Int)),(23,.int .i64 v28)],[.ro b131 o132 1 l10.length (l10.map (eN .u64)),.rd (some ⟨b131,o132,none⟩) c12 1 l10.length (l10.map (eN .u64)),.rd a14 c15 1 l13.length (l13.map (eN .u64)),.sl a25 1 n26 (l24.map (eN .u64))]⟩) v141 ?_ ?_
    ·clear hF;revert v141;intro r hF;refine wz ?_;rcases aa hF with ⟨h142,hF⟩ | ⟨h142,hF⟩
     ·refine wz ?_;obtain ⟨h143,hF⟩:=bJ hF;refine Wo.bO (k:=2) rfl (aT h143) ?_;rintro b144 o145 rfl;refine wz ?_;obtain ⟨x146,h147,hF⟩:=J hF;refine wz ?_;obtain rfl:=Option.some.inj hF;exact ae () [1,2,3,4]
     ·refine wz ?_;cases hF;exact ae () [0,1,2,3]
    ·clear h148;rintro ⟨⟩;refine ax ?_;obtain ⟨⟨r151,r152⟩,h150,hF⟩:=J hF;refine wc gn (fun m hm=>tM n x133 v141 v27  _ h150 m) ?_;rintro ⟨⟩;refine wz ?_;obtain ⟨h153,hF⟩:=bJ hF;refine Wo.open (k:=3) rfl (aT h153) ?_;rintro b154 tg155 rfl h156;refine wz ?_;obtain ⟨x157,h158,hF⟩:=J hF;refine Wo.o0 (ey (k:=3) (x1:=x157) (x2:=r151) t26 rfl rfl rfl h158 rfl) ?_;refine ax ?_;cases hF;exact At.en (some ⟨b154,0,none⟩) rfl (sc rfl (sc rfl (sc rfl (sc rfl (sc rfl (sc rfl (sc rfl sn))))))) (al.trans (al.close (k:=3) rfl) (al.aC [1,2,3] rfl rfl))
   ·refine wz ?_;cases hF;exact ae a25 [0,2]
  ·clear h160;obtain ⟨l95,n97,v98⟩:=r161;rintro a96;refine ax ?_;obtain ⟨h162,hF⟩:=bJ hF;refine Wo.open (k:=1) rfl (aT h162) ?_;rintro b163 tg164 rfl h165;refine wz ?_;obtain ⟨x166,h167,hF⟩:=J hF;refine Wo.o0 (ey (k:=1) (x1:=x166) (x2:=v98) t26 rfl rfl rfl h167 rfl) ?_;refine fm ?_;cases hF;exact At.ret (.tmp rfl .nil) fun m' hm=>⟨((some ⟨b163,0,none⟩),n97),rfl,(al.trans (al.close (k:=1) rfl) (al.aC [1] rfl rfl)) m' hm⟩
theorem zP (n l1 l5 a2 c3 a6 c7 r) (hF:B6 n l1 l5=some r) (m) (h4:Rd m a2 c3 1 l1.length (l1.map (eN .u64))) (h8:Rd m a6 c7 1 l5.length (l5.map (eN .u64))):
  ay aj 142 [.slice a2 l1.length c3,.slice a6 l5.length c7] m (fun v m'=>∃ x:Unit,v = .int .i64 r∧Hp m m' []):=by
 unfold B6 at hF;refine cw Tryz.func142 (((Hp.start m).i h4).i h8) ?_;refine ax ?_;rcases aa hF with ⟨h9,hF⟩ | ⟨h9,hF⟩
 ·refine ax ?_;cases hF;exact ar () []
 ·refine ax ?_;refine Wk.block ?_;obtain ⟨r45,h44,hF⟩:=J hF;refine ct (fun (r:(Int) ⊕ (Unit)) (g:Unit)=>match r,g with | .inl v28,_=>⟨.ret,[(4,.int .i64 v28)],[]⟩ | .inr _,_=>⟨(.exit 0),[],[]⟩) r45 ?_ ?_
  ·refine lo h44 () [1,0] (fun v11 _=>⟨.normal,[(0,.slice a2 l1.length c3),(1,.slice a6 l5.length c7),(5,.int .i64 v11)],[.rd a2 c3 1 l1.length (l1.map (eN .u64)),.rd a6 c7 1 l5.length (l5.map (eN .u64))]⟩) ?_;clear hF h44;rintro v11 ⟨⟩ r hF;unfold jV at hF;refine wz ?_;rcases aa hF with ⟨h29,hF⟩ | ⟨h29,hF⟩
   ·refine ax ?_;obtain ⟨h30,hF⟩:=bJ hF;refine Wo.bO (k:=0) rfl (aT h30) ?_;rintro b31 o32 rfl;refine wz ?_;obtain ⟨x33,h34,hF⟩:=J hF;refine wz ?_;obtain ⟨h35,hF⟩:=bJ hF;refine Wo.bO (k:=2) rfl (aT h35) ?_;rintro b36 o37 rfl;refine wz ?_;obtain ⟨x38,h39,hF⟩:=J hF;refine wz ?_;rcases aa hF with ⟨h40,hF⟩ | ⟨h40,hF⟩
    ·refine ax ?_;cases hF;exact ae () []
    ·refine wz ?_;obtain ⟨h41,hF⟩:=bJ hF;refine wz ?_;obtain ⟨h42,hF⟩:=bJ hF;refine wz ?_;rcases aa hF with ⟨h43,hF⟩ | ⟨h43,hF⟩
     ·refine ax ?_;cases hF;exact ae () []
     ·refine ax ?_;cases hF;exact ae () [2,3]
   ·refine wz ?_;cases hF;exact ae () []
  ·clear h44;rcases r45 with v28 | _
   ·rintro ⟨⟩;refine wz ?_;obtain rfl:=Option.some.inj hF;exact ar () []
   ·rintro ⟨⟩;refine fm ?_;cases hF;exact ar () []
theorem AV (n l1 l5 a2 c3 a6 c7 r) (hF:BA n l1 l5=some r) (m) (h4:Rd m a2 c3 1 l1.length (l1.map (eN .u64))) (h8:Rd m a6 c7 1 l5.length (l5.map (eN .u64))):
  ay aj 143 [.slice a2 l1.length c3,.slice a6 l5.length c7] m (fun v m'=>∃ x:Option Addr × Nat,v = .slice x.1 x.2 x.2∧Hp m m' [.sl x.1 1 x.2 (r.map (eN .u64))]):=by
 unfold BA at hF;refine cw Tryz.func143 (((Hp.start m).i h4).i h8) ?_;refine ax ?_;obtain ⟨h9,hF⟩:=aq hF;obtain ⟨h10,hF⟩:=aq hF;refine Wo.x (mG (f:=eN .u64) (z0:=(0:Nat)) rR rfl h9 h10 IV rfl rfl) gn rfl fun b11=>?_;refine fm ?_;refine Wk.block ?_;obtain ⟨l132,h188,hF⟩:=J hF;refine ct (fun l132 (_:Unit)=>⟨(.exit 0),[(5,.slice (some ⟨b11,0,none⟩) ((l1.length:Int).toNat) ((l1.length:Int).toNat))],[.arr b11 1 ((l1.length:Int).toNat) (l132.map (eN .u64)) .own]⟩) l132 ?_ ?_
 ·refine lo h188 () [1,0,2] (fun (l71,v72,v73) _=>⟨.normal,[(1,.slice a6 l5.length c7),(5,.slice (some ⟨b11,0,none⟩) ((l1.length:Int).toNat) ((l1.length:Int).toNat)),(6,.int .u64 ((v72:Nat):Int)),(13,.slice a2 l1.length c3),(14,.int .i64 (l1.length:Int)),(15,.int .i64 v73)],[.rd a6 c7 1 l5.length (l5.map (eN .u64)),.arr b11 1 ((l1.length:Int).toNat) (l71.map (eN .u64)) .own,.rd a2 c3 1 l1.length (l1.map (eN .u64))]⟩) ?_;clear hF h188;rintro ⟨l71,v72,v73⟩ ⟨⟩ r hF;unfold nh at hF;refine wz ?_;refine Wk.seq ?_;rcases aa hF with ⟨h133,hF⟩ | ⟨h133,hF⟩
  ·refine ax ?_;obtain ⟨h161,hF⟩:=bJ hF;refine Wo.bO (k:=2) rfl (aT h161) ?_;rintro b162 o163 rfl;refine wz ?_;obtain ⟨x164,h165,hF⟩:=J hF;refine ax ?_;refine Wk.seq ?_;obtain ⟨v172,h179,hF⟩:=J hF;refine ct (fun v172 (_:Unit)=>⟨.normal,[(1,.slice a6 l5.length c7),(5,.slice (some ⟨b11,0,none⟩) ((l1.length:Int).toNat) ((l1.length:Int).toNat)),(6,.int .u64 ((v72:Nat):Int)),(7,.int .i64 v73),(8,.int .u64 ((x164:Nat):Int)),(9,.int .u64 ((v172:Nat):Int)),(13,.slice (some ⟨b162,o163,none⟩) l1.length c3),(14,.int .i64 (l1.length:Int)),(15,.int .i64 v73)],[.rd a6 c7 1 l5.length (l5.map (eN .u64)),.arr b11 1 ((l1.length:Int).toNat) (l71.map (eN .u64)) .own,.ro b162 o163 1 l1.length (l1.map (eN .u64)),.rd (some ⟨b162,o163,none⟩) c3 1 l1.length (l1.map (eN .u64))]⟩) v172 ?_ ?_
   ·clear hF;revert v172;intro r hF;refine wz ?_;rcases aa hF with ⟨h173,hF⟩ | ⟨h173,hF⟩
    ·refine wz ?_;obtain ⟨h174,hF⟩:=bJ hF;refine Wo.bO (k:=1) rfl (aT h174) ?_;rintro b175 o176 rfl;refine wz ?_;obtain ⟨x177,h178,hF⟩:=J hF;refine wz ?_;obtain rfl:=Option.some.inj hF;exact ae () [2,3,1,4]
    ·refine wz ?_;cases hF;exact ae () [1,2,0,3]
   ·clear h179;rintro ⟨⟩;refine ax ?_;obtain ⟨⟨r182,r183⟩,h181,hF⟩:=J hF;refine wc gn (fun m hm=>AX n x164 v172 v72  _ h181 m) ?_;rintro ⟨⟩;refine wz ?_;obtain ⟨h184,hF⟩:=bJ hF;refine wz ?_;obtain ⟨x185,h186,hF⟩:=J hF;refine Wo.o0 (ey (k:=1) (x1:=x185) (x2:=r182) t26 rfl rfl rfl h186 rfl) ?_;refine ax ?_;cases hF;exact ae () [0,1,3]
  ·refine wz ?_;cases hF;exact ae () [1]
 ·clear h188;rintro ⟨⟩;refine fm ?_;obtain rfl:=Option.some.inj hF;exact At.ret (.tmp rfl .nil) fun m' hm=>⟨((some ⟨b11,0,none⟩),((l1.length:Int).toNat)),rfl,(al.trans (al.close (k:=0) rfl) (al.aC [0] rfl rfl)) m' hm⟩
theorem jk (n x1 l2 x7 l8 a3 c4 a9 c10 r) (hF:oj n x1 l2 x7 l8=some r) (m) {H:Nat→Prop} (hH:∀ b,H b→b<m.next) (h5:Rd m a3 c4 1 l2.length (l2.map (eN .u64))) (h6:∀ b,dm a3=some b→¬ H b) (h11:Rd m a9 c10 1 l8.length (l8.map (eN .u64))) (h12:∀ b,dm a9=some b→¬ H b):
  ay aj 111 [.agg #[.bool x1,.slice a3 l2.length c4],.agg #[.bool x7,.slice a9 l8.length c10]] m (fun v m'=>∃ x:Option Addr × Nat × Nat,v = .agg #[.bool r.1,.slice x.1 x.2.2 x.2.1]∧Hp m m' [.rd x.1 x.2.1 1 x.2.2 (r.2.map (eN .u64)),.gen (bA H)]):=by
 unfold oj at hF;refine cw Tryz.func111 (Hp.dy (l0:=[.rd a3 c4 1 l2.length (l2.map (eN .u64))]) (Hp.dy (l0:=[]) (Hp.bT m hH) rfl h5 h6) rfl h11 h12) ?_;refine wz ?_;refine wb fun b13=>?_;refine wb fun b14=>?_;refine wa eH fun b15=>?_;refine ax ?_;refine Wo.od (aE rfl rfl (IN u4)) rfl ?_;refine wz ?_;rcases aa hF with ⟨h16,hF⟩ | ⟨h16,hF⟩
 ·refine Wk.cT rfl h16 <| Wk.seq <| Wk.cD (prs:=[(1,6)]) (by kernel_rfl) <| Wn.od (cm (r:=ptr b13 0) rfl (gH _ _)) rfl <| Wn.od (bz (k:=2) t4 rfl rfl rfl) rfl <| Wn.od (cm (r:=ptr b13 1) rfl (iK _ _)) rfl <| Wn.od (bz (k:=2) t76 rfl rfl rfl) rfl <| Wn.od (cm (r:=ptr b14 1) rfl (iK _ _)) rfl <| Wn.od (bz (k:=1) t76 rfl rfl rfl) rfl ?_
  obtain ⟨l18,h17,hF⟩:=J hF;refine nc gn (fun m hm=>HK n l2 l8 a3 c4 a9 c10 _ h17 m (hm.q 4) (hm.q 3)) ?_;rintro ⟨a19,n20⟩;refine Wn.len (k:=0) (xs:=l18) rfl ?_;rintro rfl;obtain ⟨⟨r22,l23⟩,h21,hF⟩:=J hF;refine Wn.dK (al.freeze (k:=0) rfl) <| nv gn (fun m hm=>e9 n x1 l18 a19 l18.length _ h21 m hm.aw (hm.q 0) (hm.no 0)) ?_;rintro ⟨a24,c25,n26⟩;refine Wn.bj (k:=0) rfl ?_;rintro rfl;refine Wn.o0 (fx (k:=2) t103 rfl rfl rfl rfl rfl) <| Wn.nil (fun m hm=>dv.all rfl) ?_;refine ax ?_;cases hF;exact ar (a24,c25,l23.length) [0,7]
 ·refine wz ?_;refine Wk.seq ?_;obtain ⟨r42,h41,hF⟩:=J hF;refine ct (fun (v30,l31,v34,l35) ((a32,c33,a36,c37):Option Addr × Nat × Option Addr × Nat)=>⟨.normal,[(2,ptr b13 0),(3,ptr b14 0),(4,ptr b15 0)],[.obj b13 (.cells [.bool v30,.slice a32 l31.length c33] .own),.rd a32 c33 1 l31.length (l31.map (eN .u64)),.obj b14 (.cells [.bool v34,.slice a36 l35.length c37] .own),.rd a36 c37 1 l35.length (l35.map (eN .u64)),.obj b15 (.cells [.bool false,.slice none 0 0] .own),.gen (bA H)]⟩) r42 ?_ ?_
  ·clear hF;revert r42;intro r hF;refine wz ?_;obtain ⟨r39,h38,hF⟩:=J hF;refine wc gn (fun m hm=>zP n l2 l8 a3 c4 a9 c10 _ h38 m (hm.q 4) (hm.q 3)) ?_;rintro ⟨⟩;refine wz ?_;rcases aa hF with ⟨h40,hF⟩ | ⟨h40,hF⟩
   ·refine wz ?_;cases hF;exact ae (a9,c10,a3,c4) [2,3,1,4,0,5]
   ·refine wz ?_;cases hF;exact ae (a3,c4,a9,c10) [2,4,1,3,0,5]
  ·clear h41;obtain ⟨v30,l31,v34,l35⟩:=r42;rintro ⟨a32,c33,a36,c37⟩;refine At.tn <| Wk.seq <| Wk.cD (prs:=[(1,6)]) (by kernel_rfl) <| Wn.od (cm (r:=ptr b13 0) rfl (gH _ _)) rfl <| Wn.od (bz (k:=0) t4 rfl rfl rfl) rfl <| Wn.od (cm (r:=ptr b13 1) rfl (iK _ _)) rfl <| Wn.od (bz (k:=0) t76 rfl rfl rfl) rfl <| Wn.od (cm (r:=ptr b14 1) rfl (iK _ _)) rfl <| Wn.od (bz (k:=2) t76 rfl rfl rfl) rfl ?_
   obtain ⟨l44,h43,hF⟩:=J hF;refine nc gn (fun m hm=>AV n l31 l35 a32 c33 a36 c37 _ h43 m (hm.q 1) (hm.q 3)) ?_;rintro ⟨a45,n46⟩;refine Wn.len (k:=0) (xs:=l44) rfl ?_;rintro rfl;obtain ⟨⟨r48,l49⟩,h47,hF⟩:=J hF;refine Wn.dK (al.freeze (k:=0) rfl) <| nv gn (fun m hm=>e9 n v30 l44 a45 l44.length _ h47 m hm.aw (hm.q 0) (hm.no 0)) ?_;rintro ⟨a50,c51,n52⟩;refine Wn.bj (k:=0) rfl ?_;rintro rfl;refine Wn.o0 (fx (k:=6) t103 rfl rfl rfl rfl rfl) <| Wn.nil (fun m hm=>dv.all rfl) ?_;refine ax ?_;cases hF;exact ar (a50,c51,l49.length) [0,7]
theorem D0 (n x1 l2 a3 c4 r) (hF:Le n x1 l2=some r) (m) (h5:Rd m a3 c4 1 l2.length (l2.map (eN .u64))):
  ay aj 60 [.agg #[.bool x1,.slice a3 l2.length c4]] m (fun v m'=>∃ x:Unit,v = .int .i64 r∧Hp m m' []):=by
 unfold Le at hF;refine cw Tryz.func60 ((Hp.start m).i h5) ?_;refine wz ?_;refine wb fun b6=>?_;refine ax ?_;rcases aa hF with ⟨h7,hF⟩ | ⟨h7,hF⟩
 ·refine ax ?_;cases hF;exact ar () []
 ·refine wz ?_;rcases aa hF with ⟨h8,hF⟩ | ⟨h8,hF⟩
  ·refine ax ?_;cases hF;exact ar () []
  ·refine fm ?_;cases hF;exact ar () []
theorem Hu (n x1 x2 r) (hF:E9 n x1 x2=some r) (m):
  ay aj 167 [.int .u64 ((x1:Nat):Int),.int .u64 ((x2:Nat):Int)] m (fun v m'=>∃ x:Unit,v = .tuple #[.int .u64 ((r.1:Nat):Int),.int .u64 ((r.2:Nat):Int)]∧Hp m m' []):=by
 unfold E9 at hF;refine cw Tryz.func167 (Hp.start m) <| Wk.seq <| Wk.region <| Wo.od (bG rfl) rfl <| Wo.od (bG rfl) rfl <| Wo.nil <| At.tn <| Wk.seq <| Wk.region <| Wo.od (az rfl) rfl <| Wo.od (aE rfl rfl (tR rfl _ _)) rfl <| Wo.od (bG rfl) rfl <| Wo.nil <| At.tn <| Wk.seq <| Wk.region <| Wo.od (az rfl) rfl <| Wo.od (aE rfl rfl (da _ _ rfl)) rfl <| Wo.od (bG rfl) rfl <| Wo.nil <| At.tn <| Wk.seq <| Wk.region <| Wo.od (az rfl) rfl ?_;refine Wo.od (aE rfl rfl (tR rfl _ _)) rfl <| Wo.od (bG rfl) rfl <| Wo.nil <| At.tn <| Wk.seq <| Wk.region <| Wo.od (az rfl) rfl <| Wo.od (aE rfl rfl (da _ _ rfl)) rfl <| Wo.od (bG rfl) rfl <| Wo.nil <| At.tn <| Wk.seq <| Wk.region <| Wo.od (az rfl) rfl <| Wo.od (az rfl) rfl ?_;obtain ⟨y3,h4,hF⟩:=J hF;refine Wo.od (aE rfl rfl ((dO rfl _ _).trans (cN h4))) rfl <| Wo.od (bG rfl) rfl <| Wo.nil <| At.tn <| Wk.seq <| Wk.region <| Wo.od (az rfl) rfl <| Wo.od (az rfl) rfl ?_;obtain ⟨y5,h6,hF⟩:=J hF;refine Wo.od (aE rfl rfl ((dO rfl _ _).trans (cN h6))) rfl <| Wo.od (az rfl) rfl <| Wo.od (aE rfl rfl (da _ _ rfl)) rfl <| Wo.od (aE rfl rfl (qS rfl _ _)) rfl <| Wo.od (bG rfl) rfl <| Wo.nil <| At.tn <| Wk.seq <| Wk.region <| Wo.od (az rfl) rfl ?_;obtain ⟨y7,h8,hF⟩:=J hF;refine Wo.od (aE rfl rfl ((tR rfl _ _).trans (cN h8))) rfl <| Wo.od (bG rfl) rfl <| Wo.nil <| At.tn <| Wk.seq <| Wk.region <| Wo.od (az rfl) rfl <| Wo.od (aE rfl rfl (da _ _ rfl)) rfl <| Wo.od (bG rfl) rfl <| Wo.nil <| At.tn <| Wk.seq <| Wk.region <| Wo.od (az rfl) rfl <| Wo.od (az rfl) rfl <| Wo.od (az rfl) rfl ?_;obtain ⟨y9,h10,hF⟩:=J hF;refine Wo.od (aE rfl rfl ((dO rfl _ _).trans (cN h10))) rfl <| Wo.od (aE rfl rfl (qS rfl _ _)) rfl <| Wo.od (bG rfl) rfl <| Wo.nil <| At.tn <| Wk.seq <| Wk.region <| Wo.od (az rfl) rfl <| Wo.od (az rfl) rfl <| Wo.od (aE rfl rfl (dO rfl _ _)) rfl <| Wo.od (az rfl) rfl ?_;obtain ⟨y11,h12,hF⟩:=J hF;refine Wo.od (aE rfl rfl ((qS rfl _ _).trans (cN h12))) rfl <| Wo.od (az rfl) rfl <| Wo.od (aE rfl rfl (da _ _ rfl)) rfl <| Wo.od (aE rfl rfl (qS rfl _ _)) rfl <| Wo.od (bG rfl) rfl <| Wo.nil <| At.tn <| Wk.seq <| Wk.region <| Wo.od (az rfl) rfl <| Wo.od (az rfl) rfl <| Wo.od (aE rfl rfl (dO rfl _ _)) rfl <| Wo.od (bG rfl) rfl <| Wo.nil <| At.tn <| Wk.ret ?_;cases hF;exact ar () []
end Go.Proofs.YtookeaakpiefjaaGreatDoor
end

section
namespace Go.Proofs.YtookeaakpiefjaaGreatDoor
open Go Go.Ab Go.Ab.W
set_option maxRecDepth 10000
set_option maxHeartbeats 4000000
attribute [local irreducible] Wo Wk At Wn Od Ox aV aL
attribute [local irreducible] Tm.at Trie.set Trie.get AMem.get AMem.set AMem.alloc AMem.ww AMem.kill
theorem GC (n l1 l5 a2 c3 a6 c7 r) (hF:EG n l1 l5=some r) (m) (h4:Rd m a2 c3 1 l1.length (l1.map (eN .u64))) (h8:Rd m a6 c7 1 l5.length (l5.map (eN .u64))):
  ay aj 153 [.slice a2 l1.length c3,.slice a6 l5.length c7] m (fun v m'=>∃ x:Option Addr × Nat,v = .slice x.1 x.2 x.2∧Hp m m' [.sl x.1 1 x.2 (r.map (eN .u64))]):=by
 unfold EG at hF;refine cw Tryz.func153 (((Hp.start m).i h4).i h8) ?_;refine ax ?_;obtain ⟨h9,hF⟩:=aq hF;obtain ⟨h10,hF⟩:=aq hF;refine Wo.x (mG (f:=eN .u64) (z0:=(0:Nat)) rR rfl h9 h10 IV rfl rfl) gn rfl fun b11=>?_;refine ax ?_;refine Wk.block ?_;obtain ⟨r217,h216,hF⟩:=J hF;refine ct (fun (l117,n119) (a118:Option Addr)=>⟨(.exit 0),[(5,.slice a118 n119 n119)],[.sl a118 1 n119 (l117.map (eN .u64))]⟩) r217 ?_ ?_
 ·refine Wk.iV (fs':=[(1,.slice a6 l5.length c7),(5,.slice (some ⟨b11,0,none⟩) ((IntKind.wrap .i64 ((l1.length:Int)+(l5.length:Int))).toNat) ((IntKind.wrap .i64 ((l1.length:Int)+(l5.length:Int))).toNat)),(22,.slice a2 l1.length c3),(23,.int .i64 (l1.length:Int)),(24,.int .i64 0)]) (ps':=[.rd a6 c7 1 l5.length (l5.map (eN .u64)),.sl (some ⟨b11,0,none⟩) 1 ((IntKind.wrap .i64 ((l1.length:Int)+(l5.length:Int))).toNat) ((List.replicate (IntKind.wrap .i64 ((l1.length:Int)+(l5.length:Int))).toNat (0:Nat)).map (eN .u64)),.rd a2 c3 1 l1.length (l1.map (eN .u64))]) (sc rfl (sc rfl (sc rfl (sc rfl (sc rfl sn))))) (al.trans (al.close (k:=0) rfl) (al.aC [1,0,2] rfl rfl)) <| Wk.loop (σ:=List (Nat) × Nat × Int) (ρ:=List (Nat) × Nat) (γ:=Option Addr) (δ:=fun _=>Option Addr) _ (fun (s:List (Nat) × Nat × Int) (g:Option Addr)=>match s,g with | (l13,n15,v16),a14=>⟨.normal,[(1,.slice a6 l5.length c7),(5,.slice a14 n15 n15),(22,.slice a2 l1.length c3),(23,.int .i64 (l1.length:Int)),(24,.int .i64 v16)],[.rd a6 c7 1 l5.length (l5.map (eN .u64)),.sl a14 1 n15 (l13.map (eN .u64)),.rd a2 c3 1 l1.length (l1.map (eN .u64))]⟩) (fun (r:List (Nat) × Nat) (g:Option Addr)=>match r,g with | (l117,n119),a118=>⟨(.exit 0),[(5,.slice a118 n119 n119)],[.sl a118 1 n119 (l117.map (eN .u64))]⟩) ?_ (fun _ _=>rfl) (fun r d=>by intro e; cases e) _ _ _ h216 (some ⟨b11,0,none⟩)
  clear hF h216;rintro ⟨l13,n15,v16⟩ a14 r hF;unfold mN at hF;refine wz ?_;refine Wk.seq ?_;rcases aa hF with ⟨h120,hF⟩ | ⟨h120,hF⟩
  ·refine ax ?_;obtain ⟨h121,hF⟩:=bJ hF;refine Wo.bO (k:=2) rfl (aT h121) ?_;rintro b122 o123 rfl;refine wz ?_;obtain ⟨x124,h125,hF⟩:=J hF;refine fm ?_;refine Wk.block ?_;obtain ⟨r208,h207,hF⟩:=J hF;refine ct (fun (l182,v183) (_:Unit)=>⟨(.exit 2),[(1,.slice a6 l5.length c7),(5,.slice a14 n15 n15),(6,.int .i64 v16),(8,.int .u64 ((v183:Nat):Int)),(22,.slice (some ⟨b122,o123,none⟩) l1.length c3),(23,.int .i64 (l1.length:Int)),(24,.int .i64 v16)],[.rd a6 c7 1 l5.length (l5.map (eN .u64)),.sl a14 1 n15 (l182.map (eN .u64)),.ro b122 o123 1 l1.length (l1.map (eN .u64)),.rd (some ⟨b122,o123,none⟩) c3 1 l1.length (l1.map (eN .u64))]⟩) r208 ?_ ?_
   ·refine lo h207 () [1,2,0,3] (fun (l153,v154,v155) _=>⟨.normal,[(1,.slice a6 l5.length c7),(5,.slice a14 n15 n15),(6,.int .i64 v16),(7,.int .u64 ((x124:Nat):Int)),(8,.int .u64 ((v154:Nat):Int)),(22,.slice (some ⟨b122,o123,none⟩) l1.length c3),(23,.int .i64 (l1.length:Int)),(24,.int .i64 v16),(29,.slice a6 l5.length c7),(30,.int .i64 (l5.length:Int)),(31,.int .i64 v155)],[.rd a6 c7 1 l5.length (l5.map (eN .u64)),.sl a14 1 n15 (l153.map (eN .u64)),.ro b122 o123 1 l1.length (l1.map (eN .u64)),.rd (some ⟨b122,o123,none⟩) c3 1 l1.length (l1.map (eN .u64))]⟩) ?_;clear hF h207;rintro ⟨l153,v154,v155⟩ ⟨⟩ r hF;unfold nq at hF;refine wz ?_;refine Wk.seq ?_;rcases aa hF with ⟨h184,hF⟩ | ⟨h184,hF⟩
    ·refine ax ?_;obtain ⟨h185,hF⟩:=bJ hF;refine Wo.bO (k:=0) rfl (aT h185) ?_;rintro b186 o187 rfl;refine wz ?_;obtain ⟨x188,h189,hF⟩:=J hF;refine ax ?_;obtain ⟨⟨r191,r192⟩,h190,hF⟩:=J hF;refine wc gn (fun m hm=>Hu n x124 x188  _ h190 m) ?_;rintro ⟨⟩;refine ax ?_;obtain ⟨h193,hF⟩:=bJ hF;refine Wo.open (k:=2) rfl (aT h193) ?_;rintro b194 tg195 rfl h196;refine wz ?_;obtain ⟨x197,h198,hF⟩:=J hF;refine wz ?_;obtain ⟨⟨r200,r201⟩,h199,hF⟩:=J hF;refine wc gn (fun m hm=>tM n x197 r192 0  _ h199 m) ?_;rintro ⟨⟩;refine ax ?_;obtain ⟨⟨r203,r204⟩,h202,hF⟩:=J hF;refine wc gn (fun m hm=>tM n r200 v154 0  _ h202 m) ?_;rintro ⟨⟩;refine ax ?_;obtain ⟨h205,hF⟩:=bJ hF;refine wz ?_;refine Wo.o0 (ey (k:=2) (x1:=x197) (x2:=r203) t26 rfl rfl rfl h198 rfl) ?_;refine ax ?_;cases hF;exact At.en () rfl (sc rfl (sc rfl (sc rfl (sc rfl (sc rfl (sc rfl (sc rfl (sc rfl (sc rfl (sc rfl (sc rfl sn))))))))))) (al.trans (al.close (k:=2) rfl) (al.aC [1,2,3,4] rfl rfl))
    ·refine wz ?_;cases hF;exact ae () [0,1,2,3]
   ·clear h207;obtain ⟨l182,v183⟩:=r208;rintro ⟨⟩;refine ax ?_;obtain ⟨h209,hF⟩:=bJ hF;refine Wo.open (k:=1) rfl (aT h209) ?_;rintro b210 tg211 rfl h212;refine wz ?_;obtain ⟨x213,h214,hF⟩:=J hF;refine Wo.o0 (ey (k:=1) (x1:=x213) (x2:=v183) t26 rfl rfl rfl h214 rfl) ?_;refine ax ?_;cases hF;exact At.en (some ⟨b210,0,none⟩) rfl (sc rfl (sc rfl (sc rfl (sc rfl (sc rfl sn))))) (al.trans (al.close (k:=1) rfl) (al.aC [0,1,3] rfl rfl))
  ·refine wz ?_;cases hF;exact ae a14 [1]
 ·clear h216;obtain ⟨l117,n119⟩:=r217;rintro a118;refine fm ?_;obtain rfl:=Option.some.inj hF;exact ar (a118,n119) [0]
theorem AK (n x1 l2 x7 l8 a3 c4 a9 c10 r) (hF:BT n x1 l2 x7 l8=some r) (m) {H:Nat→Prop} (hH:∀ b,H b→b<m.next) (h5:Rd m a3 c4 1 l2.length (l2.map (eN .u64))) (h6:∀ b,dm a3=some b→¬ H b) (h11:Rd m a9 c10 1 l8.length (l8.map (eN .u64))) (h12:∀ b,dm a9=some b→¬ H b):
  ay aj 139 [.agg #[.bool x1,.slice a3 l2.length c4],.agg #[.bool x7,.slice a9 l8.length c10]] m (fun v m'=>∃ x:Option Addr × Nat × Nat,v = .agg #[.bool r.1,.slice x.1 x.2.2 x.2.1]∧Hp m m' [.rd x.1 x.2.1 1 x.2.2 (r.2.map (eN .u64)),.gen (bA H)]):=by
 unfold BT at hF;refine cw Tryz.func139 (Hp.dy (l0:=[.rd a3 c4 1 l2.length (l2.map (eN .u64))]) (Hp.dy (l0:=[]) (Hp.bT m hH) rfl h5 h6) rfl h11 h12) ?_;refine wz ?_;refine wb fun b13=>?_;refine wb fun b14=>?_;refine wa eH fun b15=>?_;refine wz ?_;refine Wk.seq <| Wk.cD (prs:=[(1,9),(3,9)]) (by kernel_rfl) <| Wn.od (cm (r:=ptr b13 0) rfl (gH _ _)) rfl <| Wn.od (bz (k:=2) t4 rfl rfl rfl) rfl <| Wn.od (cm (r:=ptr b14 0) rfl (gH _ _)) rfl <| Wn.od (bz (k:=1) t4 rfl rfl rfl) rfl <| Wn.od (aE rfl rfl (E6 u4)) rfl <| Wn.od (cm (r:=ptr b13 1) rfl (iK _ _)) rfl <| Wn.od (bz (k:=2) t76 rfl rfl rfl) rfl <| Wn.od (cm (r:=ptr b14 1) rfl (iK _ _)) rfl <| Wn.od (bz (k:=1) t76 rfl rfl rfl) rfl ?_
 obtain ⟨l17,h16,hF⟩:=J hF;refine nc gn (fun m hm=>GC n l2 l8 a3 c4 a9 c10 _ h16 m (hm.q 4) (hm.q 3)) ?_;rintro ⟨a18,n19⟩;refine Wn.len (k:=0) (xs:=l17) rfl ?_;rintro rfl;obtain ⟨⟨r21,l22⟩,h20,hF⟩:=J hF;refine Wn.dK (al.freeze (k:=0) rfl) <| nv gn (fun m hm=>e9 n (!(x1 == x7)) l17 a18 l17.length _ h20 m hm.aw (hm.q 0) (hm.no 0)) ?_;rintro ⟨a23,c24,n25⟩;refine Wn.bj (k:=0) rfl ?_;rintro rfl;refine Wn.o0 (fx (k:=2) t103 rfl rfl rfl rfl rfl) <| Wn.nil (fun m hm=>dv.all rfl) ?_;refine ax ?_;cases hF;exact ar (a23,c24,l22.length) [0,7]
theorem sN (n x1 l2 a3 c4 r) (hF:yA n x1 l2=some r) (m) {H:Nat→Prop} (hH:∀ b,H b→b<m.next) (h5:Rd m a3 c4 1 l2.length (l2.map (eN .u64))) (h6:∀ b,dm a3=some b→¬ H b):
  ay aj 118 [.agg #[.bool x1,.slice a3 l2.length c4]] m (fun v m'=>∃ x:Option Addr × Nat × Nat,v = .agg #[.bool r.1,.slice x.1 x.2.2 x.2.1]∧Hp m m' [.rd x.1 x.2.1 1 x.2.2 (r.2.map (eN .u64)),.gen (bA H)]):=by
 unfold yA at hF;refine cw Tryz.func118 (Hp.dy (l0:=[]) (Hp.bT m hH) rfl h5 h6) ?_;refine wz ?_;refine wb fun b7=>?_;refine wa eH fun b8=>?_;refine ax ?_;obtain ⟨⟨r10,l11⟩,h9,hF⟩:=J hF;refine wv gn (fun m hm=>e9 n (!x1) l2 a3 c4 _ h9 m hm.aw (hm.q 2) (hm.no 2)) ?_;rintro ⟨a12,c13,n14⟩;refine Wo.bj (k:=0) rfl ?_;rintro rfl;refine ax ?_;cases hF;exact ar (a12,c13,l11.length) [0,4]
theorem Kx (n x1 l2 x7 l8 a3 c4 a9 c10 r) (hF:MO n x1 l2 x7 l8=some r) (m) {H:Nat→Prop} (hH:∀ b,H b→b<m.next) (h5:Rd m a3 c4 1 l2.length (l2.map (eN .u64))) (h6:∀ b,dm a3=some b→¬ H b) (h11:Rd m a9 c10 1 l8.length (l8.map (eN .u64))) (h12:∀ b,dm a9=some b→¬ H b):
  ay aj 70 [.agg #[.bool x1,.slice a3 l2.length c4],.agg #[.bool x7,.slice a9 l8.length c10]] m (fun v m'=>∃ x:Option Addr × Nat × Nat,v = .agg #[.bool r.1,.slice x.1 x.2.2 x.2.1]∧Hp m m' [.rd x.1 x.2.1 1 x.2.2 (r.2.map (eN .u64)),.gen (bA H)]):=by
 unfold MO at hF;refine cw Tryz.func70 (Hp.dy (l0:=[.rd a3 c4 1 l2.length (l2.map (eN .u64))]) (Hp.dy (l0:=[]) (Hp.bT m hH) rfl h5 h6) rfl h11 h12) ?_;refine wz ?_;refine wb fun b13=>?_;refine wb fun b14=>?_;refine wa eH fun b15=>?_;refine wz ?_;refine Wk.seq <| Wk.cD (prs:=[(0,2)]) (by kernel_rfl) <| Wn.od (bz (k:=2) t103 rfl rfl rfl) rfl <| Wn.od (bz (k:=1) t103 rfl rfl rfl) rfl ?_
 obtain ⟨⟨r17,l18⟩,h16,hF⟩:=J hF;refine nv gn (fun m hm=>sN n x7 l8 a9 c10 _ h16 m hm.aw (hm.q 3) (hm.no 3)) ?_;rintro ⟨a19,c20,n21⟩;refine Wn.bj (k:=0) rfl ?_;rintro rfl;obtain ⟨⟨r23,l24⟩,h22,hF⟩:=J hF;refine nv gn (fun m hm=>jk n x1 l2 r17 l18 a3 c4 a19 c20 _ h22 m hm.aw (hm.q 5) (hm.no 5) (hm.q 0) (hm.no 0)) ?_;rintro ⟨a25,c26,n27⟩;refine Wn.bj (k:=0) rfl ?_;rintro rfl;refine Wn.o0 (fx (k:=2) t103 rfl rfl rfl rfl rfl) <| Wn.nil (fun m hm=>dv.all rfl) ?_;refine ax ?_;cases hF;exact ar (a25,c26,l24.length) [0,7]
theorem zh (n x1 r) (hF:BN n x1=some r) (m):
  ay aj 169 [.int .u64 ((x1:Nat):Int)] m (fun v m'=>∃ x:Unit,v = .int .i64 r∧Hp m m' []):=by
 unfold BN at hF;refine cw Tryz.func169 (Hp.start m) ?_;refine ax ?_;obtain ⟨r3,h2,hF⟩:=J hF;refine wc gn (fun m hm=>zY n x1  _ h2 m) ?_;rintro ⟨⟩;refine ax ?_;cases hF;exact ar () []
theorem HD (n x1 x2 x3 r) (hF:Ev n x1 x2 x3=some r) (m):
  ay aj 156 [.int .u64 ((x1:Nat):Int),.int .u64 ((x2:Nat):Int),.int .u64 ((x3:Nat):Int)] m (fun v m'=>∃ x:Unit,v = .tuple #[.int .u64 ((r.1:Nat):Int),.int .u64 ((r.2:Nat):Int)]∧Hp m m' []):=by
 unfold Ev at hF;refine cw Tryz.func156 (Hp.start m) ?_;refine ax ?_;rcases aa hF with ⟨h5,hF⟩ | ⟨h5,hF⟩
 ·refine Wk.cT rfl h5 ?_;cases hF
 ·refine ax ?_;rcases aa hF with ⟨h7,hF⟩ | ⟨h7,hF⟩
  ·refine Wk.cT rfl h7 ?_;cases hF
  ·refine ax ?_;rcases aa hF with ⟨h8,hF⟩ | ⟨h8,hF⟩
   ·refine wz ?_;obtain ⟨h9,hF⟩:=aq hF;refine Wo.od (aE rfl rfl (s8 rfl _ _ (of_decide_eq_true h9))) rfl ?_;refine wz ?_;obtain ⟨h10,hF⟩:=aq hF;refine Wo.od (aE rfl rfl (la _ _ (of_decide_eq_true h10))) rfl ?_;refine ax ?_;cases hF;exact ar () []
   ·refine ax ?_;obtain ⟨r12,h11,hF⟩:=J hF;refine wc gn (fun m hm=>zh n x3  _ h11 m) ?_;rintro ⟨⟩;refine Wo.od (gC rfl (nd (by rw [u3]; rfl) CH rfl)) rfl ?_
    refine ax ?_;refine Wo.od (aE rfl rfl (kY rfl _ _ (nn _))) rfl ?_;refine ax ?_;refine Wo.od (aE rfl rfl (da _ _ rfl)) rfl ?_;refine fm ?_;refine Wo.od (aE rfl rfl (kY rfl _ _ (nn _))) rfl ?_;refine wz ?_;refine Wo.od (aE rfl rfl (da _ _ (nn _))) rfl ?_;obtain ⟨y13,h14,hF⟩:=J hF;refine Wo.od (aE rfl rfl ((rK rfl _ _).trans (cN h14))) rfl ?_;refine ax ?_;refine Wo.od (aE rfl rfl (kY rfl _ _ (nn _))) rfl ?_;refine ax ?_;refine Wo.od (aE rfl rfl (da _ _ rfl)) rfl ?_;refine fm ?_;obtain ⟨h15,hF⟩:=aq hF;refine Wo.od (aE rfl rfl (s8 rfl _ _ (of_decide_eq_true h15))) rfl ?_;refine ax ?_;obtain ⟨y16,h17,hF⟩:=J hF;refine Wo.od (aE rfl rfl ((dO rfl _ _).trans (cN h17))) rfl ?_;refine wz ?_;refine Wk.seq <| Wk.block ?_;obtain ⟨r70,h69,hF⟩:=J hF;refine ct (fun (v49,v50,v51,v52,v53,v54,v55) (_:Unit)=>⟨(.exit 0),[(2,.int .u64 ((v49:Nat):Int)),(8,.int .u64 ((v50:Nat):Int)),(9,.int .u64 ((v51:Nat):Int)),(10,.int .u64 ((v52:Nat):Int)),(11,.int .u64 ((y13:Nat):Int)),(13,.int .u64 ((v53:Nat):Int)),(14,.int .u64 ((v54:Nat):Int)),(15,.int .u64 ((v55:Nat):Int))],[]⟩) r70 ?_ ?_
    ·refine lo h69 () [] (fun (v20,v21,v22,v23,v24,v25,v26,v27) _=>⟨.normal,[(2,.int .u64 ((v20:Nat):Int)),(8,.int .u64 ((v21:Nat):Int)),(9,.int .u64 ((v22:Nat):Int)),(10,.int .u64 ((v23:Nat):Int)),(11,.int .u64 ((y13:Nat):Int)),(13,.int .u64 ((v24:Nat):Int)),(14,.int .u64 ((v25:Nat):Int)),(15,.int .u64 ((v26:Nat):Int)),(16,.int .u64 ((v27:Nat):Int))],[]⟩) ?_;clear hF h69;rintro ⟨v20,v21,v22,v23,v24,v25,v26,v27⟩ ⟨⟩ r hF;unfold qD at hF;refine Wk.seq <| Wk.seq ?_;obtain ⟨v63,h65,hF⟩:=J hF;refine ct (fun v63 (_:Unit)=>⟨.normal,[(2,.int .u64 ((v20:Nat):Int)),(8,.int .u64 ((v21:Nat):Int)),(9,.int .u64 ((v22:Nat):Int)),(10,.int .u64 ((v23:Nat):Int)),(11,.int .u64 ((y13:Nat):Int)),(13,.int .u64 ((v24:Nat):Int)),(14,.int .u64 ((v25:Nat):Int)),(15,.int .u64 ((v26:Nat):Int)),(16,.int .u64 ((v27:Nat):Int)),(78,.bool v63)],[]⟩) v63 ?_ ?_
     ·clear hF;revert v63;intro r hF;refine wz ?_;rcases aa hF with ⟨h64,hF⟩ | ⟨h64,hF⟩
      ·refine wz ?_;cases hF;exact ae () []
      ·refine wz ?_;refine Wo.og (aE rfl rfl (dO rfl _ _)) (gg rfl rfl (eD h64)) rfl ?_;refine wz ?_;refine Wo.og (aE rfl rfl (dO rfl _ _)) (gg rfl rfl (eD h64)) rfl ?_;refine wz ?_;cases hF;exact ae () []
     ·clear h65;rintro ⟨⟩;refine At.tn ?_;rcases aa hF with ⟨h67,hF⟩ | ⟨h67,hF⟩
      ·refine Ni ?_;rcases aa hF with ⟨h68,hF⟩ | ⟨h68,hF⟩
       ·refine wz ?_;cases hF;exact ae () []
       ·refine wz ?_;cases hF;exact ae () []
      ·refine wz ?_;cases hF;exact ae () []
    ·clear h69;obtain ⟨v49,v50,v51,v52,v53,v54,v55⟩:=r70;rintro ⟨⟩;refine ax ?_;refine Wo.od (aE rfl rfl (dO rfl _ _)) rfl ?_;refine wz ?_;refine Wo.od (aE rfl rfl (dO rfl _ _)) rfl ?_;obtain ⟨y71,h72,hF⟩:=J hF;refine Wo.od (aE rfl rfl ((ur rfl _ _).trans (cN h72))) rfl ?_;refine ax ?_;obtain ⟨h73,hF⟩:=aq hF;refine Wo.od (aE rfl rfl (s8 rfl _ _ (of_decide_eq_true h73))) rfl ?_;refine ax ?_;refine Wo.od (aE rfl rfl (dO rfl _ _)) rfl ?_;refine wz ?_;refine Wk.seq <| Wk.block ?_;obtain ⟨v93,h107,hF⟩:=J hF;refine ct (fun v93 (_:Unit)=>⟨(.exit 2),[(2,.int .u64 ((v49:Nat):Int)),(8,.int .u64 ((v50:Nat):Int)),(14,.int .u64 ((v54:Nat):Int)),(15,.int .u64 ((v55:Nat):Int)),(17,.int .u64 ((y71:Nat):Int)),(18,.int .u64 ((v93:Nat):Int))],[]⟩) v93 ?_ ?_
     ·refine lo h107 () [] (fun (v76,v77) _=>⟨.normal,[(2,.int .u64 ((v49:Nat):Int)),(8,.int .u64 ((v50:Nat):Int)),(9,.int .u64 ((v51:Nat):Int)),(10,.int .u64 ((v52:Nat):Int)),(14,.int .u64 ((v54:Nat):Int)),(15,.int .u64 ((v55:Nat):Int)),(16,.int .u64 ((v76:Nat):Int)),(17,.int .u64 ((y71:Nat):Int)),(18,.int .u64 ((v77:Nat):Int))],[]⟩) ?_;clear hF h107;rintro ⟨v76,v77⟩ ⟨⟩ r hF;unfold ew at hF;refine Wk.seq <| Wk.seq ?_;obtain ⟨v101,h103,hF⟩:=J hF;refine ct (fun v101 (_:Unit)=>⟨.normal,[(2,.int .u64 ((v49:Nat):Int)),(8,.int .u64 ((v50:Nat):Int)),(9,.int .u64 ((v51:Nat):Int)),(10,.int .u64 ((v52:Nat):Int)),(14,.int .u64 ((v54:Nat):Int)),(15,.int .u64 ((v55:Nat):Int)),(16,.int .u64 ((v76:Nat):Int)),(17,.int .u64 ((y71:Nat):Int)),(18,.int .u64 ((v77:Nat):Int)),(113,.bool v101)],[]⟩) v101 ?_ ?_
      ·clear hF;revert v101;intro r hF;refine wz ?_;rcases aa hF with ⟨h102,hF⟩ | ⟨h102,hF⟩
       ·refine wz ?_;cases hF;exact ae () []
       ·refine wz ?_;refine Wo.og (aE rfl rfl (dO rfl _ _)) (gg rfl rfl (eD h102)) rfl ?_;refine wz ?_;refine Wo.og (aE rfl rfl (dO rfl _ _)) (gg rfl rfl (eD h102)) rfl ?_;refine wz ?_;cases hF;exact ae () []
      ·clear h103;rintro ⟨⟩;refine At.tn ?_;rcases aa hF with ⟨h105,hF⟩ | ⟨h105,hF⟩
       ·refine Ni ?_;rcases aa hF with ⟨h106,hF⟩ | ⟨h106,hF⟩
        ·refine wz ?_;cases hF;exact ae () []
        ·refine wz ?_;cases hF;exact ae () []
       ·refine wz ?_;cases hF;exact ae () []
     ·clear h107;rintro ⟨⟩;refine ax ?_;refine Wo.od (aE rfl rfl (dO rfl _ _)) rfl ?_;refine wz ?_;refine Wo.od (aE rfl rfl (dO rfl _ _)) rfl ?_;refine wz ?_;refine Wo.od (aE rfl rfl (dO rfl _ _)) rfl ?_;obtain ⟨y109,h110,hF⟩:=J hF;refine Wo.od (aE rfl rfl ((ur rfl _ _).trans (cN h110))) rfl ?_;refine wz ?_;refine Wo.od (aE rfl rfl (da _ _ (nn _))) rfl ?_;refine ax ?_;cases hF;exact ar () []
theorem z2 (n l1 a2 c3 r) (hF:Iu n l1=some r) (m) (h4:Rd m a2 c3 1 l1.length (l1.map (eN .u64))):
  ay aj 157 [.slice a2 l1.length c3] m (fun v m'=>∃ x:Unit,v = .int .i64 r∧Hp m m' []):=by
 unfold Iu at hF;refine cw Tryz.func157 ((Hp.start m).i h4) ?_;refine ax ?_;rcases aa hF with ⟨h5,hF⟩ | ⟨h5,hF⟩
 ·refine ax ?_;cases hF;exact ar () []
 ·refine ax ?_;refine Wo.od (aE rfl rfl (ml _ _ _)) rfl ?_;refine wz ?_;obtain ⟨h6,hF⟩:=bJ hF;refine Wo.bO (k:=0) rfl (aT h6) ?_;rintro b7 o8 rfl;refine wz ?_;obtain ⟨x9,h10,hF⟩:=J hF;refine wz ?_;obtain ⟨r12,h11,hF⟩:=J hF;refine wc gn (fun m hm=>zh n x9  _ h11 m) ?_;rintro ⟨⟩;refine ax ?_;cases hF;exact ar () []
theorem Gw (n:Nat) (l1:List (Nat)) (x6:Int) (a2:Option Addr) (c3:Nat) (r:List Nat) (hF:K0 n l1 x6=some r) (m:AMem) {H:Nat→Prop} (hH:∀ b,H b→b<m.next) (h4:Rd m a2 c3 1 l1.length (l1.map (eN .u64))) (h5:∀ b,dm a2=some b→¬ H b) :
  ay aj 158 [.slice a2 l1.length c3,.int .i64 x6] m (fun v m'=>∃ x:Option Addr × Nat × Nat,v = .slice x.1 x.2.2 x.2.1∧Hp m m' [.rd x.1 x.2.1 1 x.2.2 (r.map (eN .u64)),.gen (bA H)]):=by
 unfold K0 at hF;refine bV (m0:=m) (ps:=[.rd a2 c3 1 l1.length (l1.map (eN .u64)),.gen (bA H)]) (N:=54) (rs:=[.tmp 4]) rfl Tryz.func158 rfl rfl rfl (Hp.dy (l0:=[]) (Hp.bT m hH) rfl h4 h5) <| Wk.seq <| Wk.region <| Wo.od (bG rfl) rfl <| Wo.nil <| At.tn <| Wk.seq <| Wk.region <| Wo.od (az rfl) rfl <| Wo.od (pJ (k:=0) Nd rfl rfl (.inl rfl)) rfl <| Wo.od (az rfl) rfl <| Wo.od (aE rfl rfl (iF _ _ (by decide))) rfl ?_
 obtain ⟨y7,h8,hF⟩:=J hF;refine Wo.od (aE rfl rfl ((dL _ _ _).trans (cI h8))) rfl <| Wo.od (aE rfl rfl (dL _ _ _)) rfl ?_;obtain ⟨h9,hF⟩:=aq hF;obtain ⟨h10,hF⟩:=aq hF;refine Wo.x (mG (f:=eN .u64) (z0:=(0:Nat)) rR rfl h9 h10 IV rfl rfl) gn rfl fun b11=>?_;refine Wo.od (bG rfl) rfl <| Wo.nil <| At.tn <| Wk.seq <| Wk.seq <| Wk.region <| Wo.od (az rfl) rfl <| Wo.od (pJ (k:=1) Nd rfl rfl (.inl rfl)) rfl <| Wo.od (az rfl) rfl <| Wo.nil <| At.tn <| Wk.block ?_;obtain ⟨r129,h128,hF⟩:=J hF;refine Wk.cut (G:=(fun (r:List (Nat) × Nat) (g:Option Addr)=>match r,g with | (l73,n75),a74=>⟨(.exit 0),[(5,.slice a74 n75 n75)],[.sl a74 1 n75 (l73.map (eN .u64)),.gen (bA H)]⟩) r129) ?_ ?_
 ·refine Wk.iV (fs':=[(1,.int .i64 x6),(5,.slice (some ⟨b11,0,none⟩) ((IntKind.wrap .i64 (y7+1)).toNat) ((IntKind.wrap .i64 (y7+1)).toNat)),(15,.slice a2 l1.length c3),(16,.int .i64 (l1.length:Int)),(17,.int .i64 0)]) (ps':=[.sl (some ⟨b11,0,none⟩) 1 ((IntKind.wrap .i64 (y7+1)).toNat) ((List.replicate (IntKind.wrap .i64 (y7+1)).toNat (0:Nat)).map (eN .u64)),.rd a2 c3 1 l1.length (l1.map (eN .u64)),.gen (bA H)]) (sc rfl (sc rfl (sc rfl (sc rfl (sc rfl sn))))) (al.trans (al.close (k:=0) rfl) (al.aC [0,1,2] rfl rfl)) ?_;refine Wk.loop (σ:=List (Nat) × Nat × Int) (ρ:=List (Nat) × Nat) (γ:=Option Addr) (δ:=fun _=>Option Addr) _ (fun (s:List (Nat) × Nat × Int) (g:Option Addr)=>match s,g with | (l13,n15,v16),a14=>⟨.normal,[(1,.int .i64 x6),(5,.slice a14 n15 n15),(15,.slice a2 l1.length c3),(16,.int .i64 (l1.length:Int)),(17,.int .i64 v16)],[.sl a14 1 n15 (l13.map (eN .u64)),.rd a2 c3 1 l1.length (l1.map (eN .u64)),.gen (bA H)]⟩) (fun (r:List (Nat) × Nat) (g:Option Addr)=>match r,g with | (l73,n75),a74=>⟨(.exit 0),[(5,.slice a74 n75 n75)],[.sl a74 1 n75 (l73.map (eN .u64)),.gen (bA H)]⟩) ?_ (fun _ _=>rfl) (fun r d=>by intro e; cases e) _ _ _ h128 (some ⟨b11,0,none⟩)
  clear hF h128;rintro ⟨l13,n15,v16⟩ a14 r hF;unfold Dd at hF;refine Wk.seq <| Wk.region <| Wo.od (aE rfl rfl (fF _ _ _)) rfl <| Wo.nil <| At.tn <| Wk.seq ?_;rcases aa hF with ⟨h76,hF⟩ | ⟨h76,hF⟩
  ·refine Wk.cT rfl h76 <| Wk.skip <| At.tn <| Wk.seq ?_;obtain ⟨l101,h126,hF⟩:=J hF;refine Wk.cut (G:=(fun (r:List (Nat)) (g:Unit)=>match r,g with | l101,_=>⟨.normal,[(1,.int .i64 x6),(5,.slice a14 n15 n15),(15,.slice a2 l1.length c3),(16,.int .i64 (l1.length:Int)),(17,.int .i64 v16)],[.sl a14 1 n15 (l101.map (eN .u64)),.rd a2 c3 1 l1.length (l1.map (eN .u64)),.gen (bA H)]⟩) l101) ?_ ?_
   ·clear hF;revert l101;intro r hF;refine Wk.block <| Wk.seq <| Wk.region <| Wo.od (az rfl) rfl ?_;obtain ⟨h102,hF⟩:=bJ hF;refine Wo.bO (k:=1) rfl (aT h102) ?_;rintro b103 o104 rfl;refine Wo.og (gv rR rfl rfl h102) gn rfl ?_;obtain ⟨x105,h106,hF⟩:=J hF;refine Wo.od (gF (k:=0) t26 rfl rfl (cX h106) rfl rfl) rfl <| Wo.od (bG rfl) rfl <| Wo.od (bG rfl) rfl <| Wo.nil <| At.tn <| Wk.seq <| Wk.draw (by kernel_rfl) <| Wo.od (az rfl) rfl <| Wo.od (az rfl) rfl <| Wo.od (az rfl) rfl <| Wo.od (aE rfl rfl (iF _ _ (by decide))) rfl <| Wo.od (aE rfl rfl (dL _ _ _)) rfl ?_
    obtain ⟨h107,hF⟩:=bJ hF;refine Wo.open (k:=1) rfl (aT h107) ?_;rintro b108 tg109 rfl h110;refine Wo.og (bW rR rfl rfl h107) gn rfl ?_;obtain ⟨x111,h112,hF⟩:=J hF;refine Wo.od (uZ (k:=1) t26 rfl rfl (cX h112) rfl rfl) rfl <| Wo.od (az rfl) rfl <| Wo.od (az rfl) rfl <| Wo.od (aE rfl rfl (eT _ _ (by decide))) rfl ?_
    obtain ⟨h113,hF⟩:=aq hF;refine Wo.od (aE rfl rfl (kY rfl _ _ h113)) rfl ?_;obtain ⟨y114,h115,hF⟩:=J hF;refine Wo.od (aE rfl rfl ((rK rfl _ _).trans (cN h115))) rfl ?_;obtain ⟨h116,hF⟩:=bJ hF;refine Wo.og (bW rR rfl rfl h116) gn rfl <| Wo.o0 (ey (k:=1) (x1:=x111) (x2:=y114) t26 rfl rfl rfl h112 rfl) <| Wo.nil <| At.tn <| Wk.seq <| Wk.region <| Wo.od (az rfl) rfl <| Wo.od (aE rfl rfl (eT _ _ (by decide))) rfl <| Wo.od (aE rfl rfl (fH _ _ _)) rfl <| Wo.nil <| At.tn ?_
    rcases aa hF with ⟨h118,hF⟩ | ⟨h118,hF⟩
    ·refine Wk.cT rfl h118 <| Wk.region <| Wo.od (az rfl) rfl <| Wo.od (az rfl) rfl <| Wo.od (az rfl) rfl <| Wo.od (aE rfl rfl (iF _ _ (by decide))) rfl <| Wo.od (aE rfl rfl (dL _ _ _)) rfl ?_
     obtain ⟨y119,h120,hF⟩:=J hF;refine Wo.od (aE rfl rfl ((dL _ _ _).trans (cI h120))) rfl <| Wo.od (az rfl) rfl <| Wo.od (az rfl) rfl <| Wo.od (aE rfl rfl (eT _ _ (by decide))) rfl <| Wo.od (aE rfl rfl (dw _ _ _)) rfl ?_
     obtain ⟨h121,hF⟩:=aq hF;refine Wo.od (aE rfl rfl (da _ _ h121)) rfl ?_;obtain ⟨h122,hF⟩:=bJ hF;refine Wo.og (bW rR rfl rfl h122) gn rfl ?_;obtain ⟨x123,h124,hF⟩:=J hF;refine Wo.o0 (ey (k:=1) (x1:=x123) (x2:=cx .u64 x105 (IntKind.wrap .i64 (64-(Int.tmod x6 64))).toNat) t26 rfl rfl rfl h124 rfl) <| Wo.nil <| At.bn ?_;cases hF;exact At.en () rfl (sc rfl (sc rfl (sc rfl (sc rfl (sc rfl sn))))) (al.trans (al.close (k:=1) rfl) (al.aC [1,2,3] rfl rfl))
    ·refine Wk.eJ rfl h118 <| Wk.skip <| At.bn ?_;cases hF;exact At.en () rfl (sc rfl (sc rfl (sc rfl (sc rfl (sc rfl sn))))) (al.trans (al.close (k:=1) rfl) (al.aC [1,2,3] rfl rfl))
   ·clear h126;rintro ⟨⟩;refine At.tn <| Wk.region <| Wo.od (aE rfl rfl (dL _ _ _)) rfl <| Wo.od (az rfl) rfl <| Wo.nil ?_;cases hF;exact At.en a14 rfl (sc rfl (sc rfl (sc rfl (sc rfl (sc rfl sn))))) (al.aC [0,1,2] rfl rfl)
  ·refine Wk.eJ rfl h76 <| Wk.exit <| At.te ?_;cases hF;exact At.en a14 rfl (sc rfl sn) (al.aC [0,2] rfl rfl)
 ·clear h128;obtain ⟨l73,n75⟩:=r129;rintro a74;refine At.be <| At.tn <| Wk.seq <| Wk.region <| Wo.od (az rfl) rfl ?_;obtain ⟨⟨r131,l132⟩,h130,hF⟩:=J hF;refine Wo.dK (al.freeze (k:=0) rfl) ?_;have hFx:=hF;refine Wo.bj (k:=0) (xs:=(l73:List (Nat))) rfl ?_;rintro rfl;replace hF:=hFx;clear hFx;refine Wo.x (jt (N:=(fun x:Option Addr × Nat × Nat=>[.rd x.1 x.2.1 1 x.2.2 (l132.map (eN .u64))])) rfl rfl (fun m hm=>e9 n false l73 a74 l73.length _ h130 m hm.aw (hm.rd (k:=0) rfl (.rd _ _ _ _ _)) (hm.IG (k:=0) rfl)) fun _=>rfl) gn rfl ?_;rintro ⟨a133,c134,n135⟩;refine Wo.bj (k:=0) (xs:=l132) rfl ?_;rintro rfl;refine Wo.od (JU rfl ((s7 _).trans (pz t76 rfl))) rfl <| Wo.od (bG rfl) rfl <| Wo.nil <| At.tn <| Wk.ret ?_;obtain rfl:=Option.some.inj hF;exact At.ret (.tmp rfl .nil) fun m' hm=>⟨(a133,c134,l132.length),rfl,(al.aC [0,2] rfl rfl) m' hm⟩
theorem zz (n l1 l6 a2 c3 a7 c8 r) (hF:BP n l1 l6=some r) (m) {H:Nat→Prop} (hH:∀ b,H b→b<m.next) (h4:Rd m a2 c3 1 l1.length (l1.map (eN .u64))) (h5:∀ b,dm a2=some b→¬ H b) (h9:Rd m a7 c8 1 l6.length (l6.map (eN .u64))) (h10:∀ b,dm a7=some b→¬ H b):
  ay aj 145 [.slice a2 l1.length c3,.slice a7 l6.length c8] m (fun v m'=>∃ x:Option Addr × Nat × Nat × Option Addr × Nat × Nat,v = .tuple #[.slice x.1 x.2.2.1 x.2.1,.slice x.2.2.2.1 x.2.2.2.2.2 x.2.2.2.2.1]∧Hp m m' [.rd x.1 x.2.1 1 x.2.2.1 (r.1.map (eN .u64)),.rd x.2.2.2.1 x.2.2.2.2.1 1 x.2.2.2.2.2 (r.2.map (eN .u64)),.gen (bA H)]):=by
 unfold BP at hF;refine cw Tryz.func145 (Hp.dy (l0:=[.rd a2 c3 1 l1.length (l1.map (eN .u64))]) (Hp.dy (l0:=[]) (Hp.bT m hH) rfl h4 h5) rfl h9 h10) ?_;refine ax ?_;obtain ⟨h11,hF⟩:=aq hF;obtain ⟨h12,hF⟩:=aq hF;refine Wo.x (mG (f:=eN .u64) (z0:=(0:Nat)) rR rfl h11 h12 IV rfl rfl) gn rfl fun b13=>?_;refine ax ?_;rcases aa hF with ⟨h14,hF⟩ | ⟨h14,hF⟩
 ·refine ax ?_;refine Wk.block ?_;obtain ⟨r82,h81,hF⟩:=J hF;refine ct (fun (l61,v62) (_:Unit)=>⟨(.exit 0),[(4,.slice (some ⟨b13,0,none⟩) ((l1.length:Int).toNat) ((l1.length:Int).toNat)),(6,.int .u64 ((v62:Nat):Int))],[.arr b13 1 ((l1.length:Int).toNat) (l61.map (eN .u64)) .own,.gen (bA H)]⟩) r82 ?_ ?_
  ·refine lo h81 () [2,1,0,3] (fun (l37,v38,v39) _=>⟨.normal,[(0,.slice a2 l1.length c3),(1,.slice a7 l6.length c8),(4,.slice (some ⟨b13,0,none⟩) ((l1.length:Int).toNat) ((l1.length:Int).toNat)),(6,.int .u64 ((v38:Nat):Int)),(7,.int .i64 v39)],[.rd a2 c3 1 l1.length (l1.map (eN .u64)),.rd a7 c8 1 l6.length (l6.map (eN .u64)),.arr b13 1 ((l1.length:Int).toNat) (l37.map (eN .u64)) .own,.gen (bA H)]⟩) ?_;clear hF h81;rintro ⟨l37,v38,v39⟩ ⟨⟩ r hF;unfold mZ at hF;refine wz ?_;rcases aa hF with ⟨h63,hF⟩ | ⟨h63,hF⟩
   ·refine ax ?_;obtain ⟨h64,hF⟩:=bJ hF;refine Wo.bO (k:=0) rfl (aT h64) ?_;rintro b65 o66 rfl;refine wz ?_;obtain ⟨x67,h68,hF⟩:=J hF;refine wz ?_;obtain ⟨h69,hF⟩:=bJ hF;refine Wo.bO (k:=2) rfl (aT h69) ?_;rintro b70 o71 rfl;refine wz ?_;obtain ⟨x72,h73,hF⟩:=J hF;refine wz ?_;obtain ⟨⟨r75,r76⟩,h74,hF⟩:=J hF;refine wc gn (fun m hm=>HD n v38 x67 x72  _ h74 m) ?_;rintro ⟨⟩;refine wz ?_;obtain ⟨h77,hF⟩:=bJ hF;refine wz ?_;obtain ⟨x78,h79,hF⟩:=J hF;refine Wo.o0 (ey (k:=4) (x1:=x78) (x2:=r75) t26 rfl rfl rfl h79 rfl) ?_;refine ax ?_;cases hF;exact ae () [2,3,4,5]
   ·refine wz ?_;cases hF;exact ae () [2,3]
  ·clear h81;obtain ⟨l61,v62⟩:=r82;rintro ⟨⟩;refine ax ?_;refine Wo.x (jv (es:=([v62]:List (Nat)).map (eN .u64)) rR rfl (ju rR IV rfl rfl) rfl rfl) gn rfl fun b83=>?_;obtain ⟨⟨r85,l86⟩,h84,hF⟩:=J hF;refine Wo.dK (al.close (k:=0) rfl) <| Wo.dK (al.freeze (k:=0) rfl) <| wv gn (fun m hm=>e9 n false ([v62]) (some ⟨b83,0,none⟩) 1 _ h84 m hm.aw (hm.q 0) (hm.no 0)) ?_;rintro ⟨a87,c88,n89⟩;refine Wo.bj (k:=0) rfl ?_;rintro rfl;refine Wo.od (JU rfl ((s7 _).trans (pz t76 rfl))) rfl ?_;refine ax ?_;cases hF;exact At.ret (.tmp rfl (.tmp rfl .nil)) fun m' hm=>⟨((some ⟨b13,0,none⟩),((l1.length:Int).toNat),((l1.length:Int).toNat),a87,c88,l86.length),rfl,(al.trans (al.close (k:=2) rfl) (al.trans (al.freeze (k:=2) rfl) (al.aC [2,0,3] rfl rfl))) m' hm⟩
 ·refine fm ?_;obtain ⟨r91,h90,hF⟩:=J hF;refine wc gn (fun m hm=>z2 n l1 a2 c3 _ h90 m (hm.q 2)) ?_;rintro ⟨⟩;refine wz ?_;obtain ⟨r93,h92,hF⟩:=J hF;refine wc gn (fun m hm=>z2 n l6 a7 c8 _ h92 m (hm.q 1)) ?_;rintro ⟨⟩;refine wz ?_;refine Wk.block ?_;obtain ⟨r288,h287,hF⟩:=J hF;refine ct (fun (l224,l225) ((a226,c227):Option Addr × Nat)=>⟨(.exit 2),[(4,.slice (some ⟨b13,0,none⟩) ((l1.length:Int).toNat) ((l1.length:Int).toNat)),(5,.slice a226 l225.length c227)],[.arr b13 1 ((l1.length:Int).toNat) (l224.map (eN .u64)) .own,.rd a226 c227 1 l225.length (l225.map (eN .u64)),.gen (bA H)]⟩) r288 ?_ ?_
  ·refine lo h287 (a2,c3) [1,0,2,3] (fun (l155,l156,v159) ((a157,c158):Option Addr × Nat)=>⟨.normal,[(1,.slice a7 l6.length c8),(4,.slice (some ⟨b13,0,none⟩) ((l1.length:Int).toNat) ((l1.length:Int).toNat)),(5,.slice a157 l156.length c158),(8,.int .i64 v159)],[.rd a7 c8 1 l6.length (l6.map (eN .u64)),.arr b13 1 ((l1.length:Int).toNat) (l155.map (eN .u64)) .own,.rd a157 c158 1 l156.length (l156.map (eN .u64)),.gen (bA H)]⟩) ?_;clear hF h287;rintro ⟨l155,l156,v159⟩ ⟨a157,c158⟩ r hF;unfold D4 at hF;refine wz ?_;rcases aa hF with ⟨h228,hF⟩ | ⟨h228,hF⟩
   ·refine wz ?_;refine Wk.seq ?_;obtain ⟨r286,h285,hF⟩:=J hF;refine ct (fun (l255,l256) ((a257,c258):Option Addr × Nat)=>⟨.normal,[(1,.slice a7 l6.length c8),(4,.slice (some ⟨b13,0,none⟩) ((l1.length:Int).toNat) ((l1.length:Int).toNat)),(5,.slice a257 l256.length c258),(8,.int .i64 v159)],[.rd a7 c8 1 l6.length (l6.map (eN .u64)),.arr b13 1 ((l1.length:Int).toNat) (l255.map (eN .u64)) .own,.rd a257 c258 1 l256.length (l256.map (eN .u64)),.gen (bA H)]⟩) r286 ?_ ?_
    ·clear hF;revert r286;intro r hF;refine wz ?_;obtain ⟨l260,h259,hF⟩:=J hF;refine wv gn (fun m hm=>Gw n l6 v159 a7 c8 _ h259 m hm.aw (hm.q 0) (hm.no 0)) ?_;rintro ⟨a261,c262,n263⟩;refine Wo.bj (k:=0) rfl ?_;rintro rfl;refine ax ?_;obtain ⟨r265,h264,hF⟩:=J hF;refine wc gn (fun m hm=>zP n l156 l260 a157 c158 a261 c262 _ h264 m (hm.q 3) (hm.q 0)) ?_;rintro ⟨⟩;refine wz ?_;rcases aa hF with ⟨h266,hF⟩ | ⟨h266,hF⟩
     ·refine wz ?_;obtain ⟨l268,h267,hF⟩:=J hF;refine wc gn (fun m hm=>AV n l156 l260 a157 c158 a261 c262 _ h267 m (hm.q 3) (hm.q 0)) ?_;rintro ⟨a269,n270⟩;refine Wo.len (k:=0) (xs:=l268) rfl ?_;rintro rfl;obtain ⟨⟨r272,l273⟩,h271,hF⟩:=J hF;refine Wo.dK (al.freeze (k:=0) rfl) <| wv gn (fun m hm=>e9 n false l268 a269 l268.length _ h271 m hm.aw (hm.q 0) (hm.no 0)) ?_;rintro ⟨a274,c275,n276⟩;refine Wo.bj (k:=0) rfl ?_;rintro rfl;refine Wo.od (JU rfl ((s7 _).trans (pz t76 rfl))) rfl ?_;refine ax ?_;refine Wo.od (aE rfl rfl (iF _ _ (by decide))) rfl ?_
      obtain ⟨h277,hF⟩:=bJ hF;refine wz ?_;obtain ⟨x278,h279,hF⟩:=J hF;refine wz ?_;refine Wo.od (aE rfl rfl (eT _ _ (by decide))) rfl ?_
      obtain ⟨h280,hF⟩:=aq hF;refine Wo.od (aE rfl rfl (kY rfl _ _ h280)) rfl ?_;obtain ⟨y281,h282,hF⟩:=J hF;refine Wo.od (aE rfl rfl ((rK rfl _ _).trans (cN h282))) rfl ?_;obtain ⟨h283,hF⟩:=bJ hF;refine wz ?_;refine Wo.o0 (ey (k:=4) (x1:=x278) (x2:=y281) t26 rfl rfl rfl h279 rfl) ?_;refine wz ?_;cases hF;exact ae (a274,c275) [3,4,0,6]
     ·refine wz ?_;cases hF;exact ae (a157,c158) [1,2,3,4]
    ·clear h285;obtain ⟨l255,l256⟩:=r286;rintro ⟨a257,c258⟩;refine ax ?_;cases hF;exact ae (a257,c258) [0,1,2,3]
   ·refine wz ?_;cases hF;exact ae (a157,c158) [1,2,3]
  ·clear h287;obtain ⟨l224,l225⟩:=r288;rintro ⟨a226,c227⟩;refine fm ?_;cases hF;exact At.ret (.tmp rfl (.tmp rfl .nil)) fun m' hm=>⟨((some ⟨b13,0,none⟩),((l1.length:Int).toNat),((l1.length:Int).toNat),a226,c227,l225.length),rfl,(al.trans (al.close (k:=0) rfl) (al.trans (al.freeze (k:=0) rfl) (al.aC [0,1,2] rfl rfl))) m' hm⟩
theorem tJ (n x1 l2 x7 l8 a3 c4 a9 c10 r) (hF:yX n x1 l2 x7 l8=some r) (m) {H:Nat→Prop} (hH:∀ b,H b→b<m.next) (h5:Rd m a3 c4 1 l2.length (l2.map (eN .u64))) (h6:∀ b,dm a3=some b→¬ H b) (h11:Rd m a9 c10 1 l8.length (l8.map (eN .u64))) (h12:∀ b,dm a9=some b→¬ H b):
  ay aj 117 [.agg #[.bool x1,.slice a3 l2.length c4],.agg #[.bool x7,.slice a9 l8.length c10]] m (fun v m'=>∃ x:Option Addr × Nat × Nat × Option Addr × Nat × Nat,v = .tuple #[.agg #[.bool r.1,.slice x.1 x.2.2.1 x.2.1],.agg #[.bool r.2.2.1,.slice x.2.2.2.1 x.2.2.2.2.2 x.2.2.2.2.1]]∧Hp m m' [.rd x.1 x.2.1 1 x.2.2.1 (r.2.1.map (eN .u64)),.rd x.2.2.2.1 x.2.2.2.2.1 1 x.2.2.2.2.2 (r.2.2.2.map (eN .u64)),.gen (bA H)]):=by
 unfold yX at hF;refine cw Tryz.func117 (Hp.dy (l0:=[.rd a3 c4 1 l2.length (l2.map (eN .u64))]) (Hp.dy (l0:=[]) (Hp.bT m hH) rfl h5 h6) rfl h11 h12) ?_;refine wz ?_;refine wb fun b13=>?_;refine wb fun b14=>?_;refine wa eH fun b15=>?_;refine wa eH fun b16=>?_;refine ax ?_;obtain ⟨⟨l18,l22⟩,h17,hF⟩:=J hF;refine Wo.x (jt (N:=(fun x:Option Addr × Nat × Nat × Option Addr × Nat × Nat=>[.rd x.1 x.2.1 1 x.2.2.1 (l18.map (eN .u64)),.rd x.2.2.2.1 x.2.2.2.2.1 1 x.2.2.2.2.2 (l22.map (eN .u64))])) rfl rfl (fun m hm=>zz n l2 l8 a3 c4 a9 c10 _ h17 m hm.aw (hm.q 5) (hm.no 5) (hm.q 4) (hm.no 4)) fun _=>rfl) gn rfl ?_;rintro ⟨a19,c20,n21,a23,c24,n25⟩;refine Wo.bj (k:=0) rfl ?_;rintro rfl;refine Wo.bj (k:=1) rfl ?_;rintro rfl;refine wz ?_;refine Wk.seq <| Wk.cD (prs:=[(6,8)]) (by kernel_rfl) <| Wn.od (cm (r:=ptr b13 0) rfl (gH _ _)) rfl <| Wn.od (bz (k:=5) t4 rfl rfl rfl) rfl <| Wn.od (cm (r:=ptr b14 0) rfl (gH _ _)) rfl <| Wn.od (bz (k:=4) t4 rfl rfl rfl) rfl ?_
 refine Wn.od (aE rfl rfl (E6 u4)) rfl <| Wn.od (az rfl) rfl ?_;obtain ⟨⟨r27,l28⟩,h26,hF⟩:=J hF;refine nv gn (fun m hm=>e9 n (!(x1 == x7)) l18 a19 c20 _ h26 m hm.aw (hm.q 0) (hm.no 0)) ?_;rintro ⟨a29,c30,n31⟩;refine Wn.bj (k:=0) rfl ?_;rintro rfl;refine Wn.od (cm (r:=ptr b13 0) rfl (gH _ _)) rfl <| Wn.od (bz (k:=6) t4 rfl rfl rfl) rfl <| Wn.od (az rfl) rfl ?_;obtain ⟨⟨r33,l34⟩,h32,hF⟩:=J hF;refine nv gn (fun m hm=>e9 n x1 l22 a23 c24 _ h32 m hm.aw (hm.q 2) (hm.no 2)) ?_;rintro ⟨a35,c36,n37⟩;refine Wn.bj (k:=0) rfl ?_;rintro rfl;refine Wn.o0 (fx (k:=5) t103 rfl rfl rfl rfl rfl) <| Wn.o0 (fx (k:=4) t103 rfl rfl rfl rfl rfl) <| Wn.nil (fun m hm=>dv.all rfl) <| At.tn <| Wk.seq ?_;obtain ⟨r79,h78,hF⟩:=J hF;refine ct (fun (v54,l55,v58,l59) ((a56,c57,a60,c61):Option Addr × Nat × Option Addr × Nat)=>⟨.normal,[(4,ptr b15 0),(5,ptr b16 0)],[.obj b15 (.cells [.bool v54,.slice a56 l55.length c57] .own),.rd a56 c57 1 l55.length (l55.map (eN .u64)),.obj b16 (.cells [.bool v58,.slice a60 l59.length c61] .own),.rd a60 c61 1 l59.length (l59.map (eN .u64)),.gen (bA H)]⟩) r79 ?_ ?_
 ·clear hF;revert r79;intro r hF;refine wz ?_;rcases aa hF with ⟨h62,hF⟩ | ⟨h62,hF⟩
  ·refine wz ?_;refine Wo.od (de rfl eH rfl (cY wA rfl rfl rfl)) rfl <| wa eH fun b63=>?_;refine ax ?_;obtain ⟨⟨r65,l66⟩,h64,hF⟩:=J hF;refine wv gn (fun m hm=>jk n r33 l34 false l8 a35 c36 a9 c10 _ h64 m hm.aw (hm.q 1) (hm.no 1) (hm.q 9) (hm.no 9)) ?_;rintro ⟨a67,c68,n69⟩;refine Wo.bj (k:=0) rfl ?_;rintro rfl;refine ax ?_;refine Wo.x (jv (es:=([1]:List (Nat)).map (eN .u64)) rR rfl (ju rR IV rfl rfl) rfl rfl) gn rfl fun b70=>?_;refine Wo.od (de rfl eH rfl (cY wA rfl rfl rfl)) rfl <| wa eH fun b71=>?_;refine ax ?_;obtain ⟨⟨r73,l74⟩,h72,hF⟩:=J hF;refine Wo.dK (al.close (k:=1) rfl) <| Wo.dK (al.freeze (k:=1) rfl) <| wv gn (fun m hm=>jk n r27 l28 (!x7) ([1]) a29 c30 (some ⟨b70,0,none⟩) 1 _ h72 m hm.aw (hm.q 5) (hm.no 5) (hm.q 1) (hm.no 1)) ?_;rintro ⟨a75,c76,n77⟩;refine Wo.bj (k:=0) rfl ?_;rintro rfl;refine wz ?_;cases hF;exact ae (a75,c76,a67,c68) [10,0,9,3,15]
  ·refine wz ?_;cases hF;exact ae (a29,c30,a35,c36) [5,1,4,0,10]
 ·clear h78;obtain ⟨v54,l55,v58,l59⟩:=r79;rintro ⟨a56,c57,a60,c61⟩;refine At.tn <| Wk.seq <| Wk.cD (prs:=[(1,2)]) (by kernel_rfl) <| Wn.od (bz (k:=0) t103 rfl rfl rfl) rfl <| Wn.GO rfl (bz (k:=2) t103 rfl rfl rfl) rfl <| Wn.NS rfl (fx (k:=0) t103 rfl rfl rfl rfl rfl) <| Wn.o0 (fx (k:=2) t103 rfl rfl rfl rfl rfl) <| Wn.nil (fun m hm=>(dv.rw rfl rfl rfl (hm.ne (i:=2) (j:=0) rfl rfl rfl rfl (by decide) rfl) dv.nil)) ?_
  refine ax ?_;cases hF;exact ar (a56,c57,l55.length,a60,c61,l59.length) [1,3,4]
end Go.Proofs.YtookeaakpiefjaaGreatDoor
end
