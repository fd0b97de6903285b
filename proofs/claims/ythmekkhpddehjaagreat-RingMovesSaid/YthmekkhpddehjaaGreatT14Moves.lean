/- Chapter 14: RingMoves (function 11) returns true for all arguments. -/
import Derived.Test.YthmekkhpddehjaaGreatRm8
namespace Go.Proofs.YthmekkhpddehjaaGreat
set_option maxRecDepth 100000
open Go Go.ChangeShapes Go.WideShapes Go.ChangeAt Go.WideMaps Go.WideElems Go.RowKit Go.Ab Go.Ab.W

abbrev qV:Array Value:=#[.agg #[.slice none 0 0,.int .i16 0,.int .i16 0,.int .u8 0,.bool false,.bool false],.agg #[.int .i16 0,.int .i16 0],.agg #[.int .i16 0,.int .i16 0]]
theorem nk (os:Os) (started:os.Started) (H:Type) (enc:TypeId × Value→H) :
  ReturnsInHanded {} Tryz.checked os 11 .any (Rows.ringMovesSpec.pre6 enc Tryz.prog Tryz.f11 [] false) (Rows.ringMovesSpec.post enc Tryz.prog Tryz.f11 false true false false):=by
 refine returnsInHanded_of_change_shaped (C:=Tryz.checked) Ku started (by kernel_rfl) Tryz.func11
  (ChangeSpec.witness6 (enc:=enc) (C:=Tryz.checked) (os:=os) false ⟨#[],qV,[]⟩ 8 (by kernel_rfl) (by kernel_rfl) (by kernel_rfl) (by kernel_rfl)) ?_
 intro W base args ds gs before hval hW _ _ hS _;have hs:=CW hS;have hW':=hW;obtain⟨p,q,hA,hV,_⟩:=hW;obtain⟨rfl,_⟩:=trodVars_none hV;have hA:DataW.TrodAll enc Tryz.prog W 0 (fun _=>true) true Tryz.f11.params.toList args.toList ds p:=hA;rw[Tryz.params11] at hA;obtain⟨v1,w1,d1,e1,p1,q1,hargs1,rfl,rfl,h1,g1⟩:=trodAll_cons hA;obtain⟨v2,w2,d2,e2,p2,q2,hargs2,rfl,rfl,h2,g2⟩:=trodAll_cons g1;obtain⟨v3,w3,d3,e3,p3,q3,hargs3,rfl,rfl,h3,g3⟩:=trodAll_cons g2;obtain⟨hnil,rfl,rfl⟩:=trodAll_nil g3;have hargs:args=#[v1,v2,v3]:=by apply Array.toList_inj.1; rw[hargs1,hargs2,hargs3,hnil]
 subst hargs;obtain⟨l1,a2,c3,x5,x6,x7,x8,x9,r1,b1_l,b1_x,b1_y,b1_s,m1⟩:=Kq (hval 0 28 v1 (by rw[Tryz.params11]; rfl) rfl) hs h1
 obtain⟨x10,x11,r2,b2⟩:=Hw (hval 1 26 v2 (by rw[Tryz.params11]; rfl) rfl) h2
 obtain⟨x12,x13,r3,b3⟩:=Hw (hval 2 26 v3 (by rw[Tryz.params11]; rfl) rfl) h3
 have hF:=EH 30000 (l:=l1) (x5:=x5) (x6:=x6) (x7:=x7) ⟨b1_l,b1_x,b1_y,b1_s⟩ x8 x9 (x10:=x10) (x11:=x11) b2.1 b2.2 (x12:=x12) (x13:=x13) b3.1 b3.2 (by omega)
 exact AW (fn:=Tryz.f11) (tb:=4) rfl rfl (by kernel_rfl) (by kernel_rfl) (by kernel_rfl) (by rw[Tryz.params11]; decide +kernel) rfl hW' (.cons r1 (.cons r2 (.cons r3 (.nil _))))
  (Iv 30000 l1 x5 x6 x7 x8 x9 x10 x11 x12 x13 a2 c3 true hF (eO W) m1)
theorem ringMoves_said:Rows.RingMovesSaid :=
 OpenClaim.holds_of_wide 11 Tryz.f11 rfl rfl rfl rfl rfl rfl rfl ⟨rfl,rfl,rfl,rfl,rfl⟩ rfl rfl rfl rfl rfl (by kernel_rfl) Tryz.func11 (by kernel_rfl)
  (of_decide_eq_true (by kernel_rfl)) (by unfold Func.isWrapper; first | (rw[if_pos (by decide +kernel)]; kernel_rfl) | (rw[if_neg (by decide +kernel)]; exact⟨rfl,rfl⟩))
  (fun os started H enc _=>nk os started H enc)
#print axioms ringMoves_said
end Go.Proofs.YthmekkhpddehjaaGreat
