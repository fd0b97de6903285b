/- Chapter 15: ComplexPlaces (function 5) returns true at all arguments. -/
import Derived.Test.YtmndpgfbkicndaaCp8
namespace Go.Proofs.Ytmndpgfbkicndaa
set_option maxRecDepth 100000
open Go Go.ChangeShapes Go.WideShapes Go.ChangeAt Go.WideMaps Go.WideElems Go.RowKit Go.Ab Go.Ab.W
abbrev oF:TW SX:=#[.agg #[.int .u8 0,.int .u8 0,.slice none 0 0,.slice none 0 0,.bool false],.agg #[.int .u8 0,.int .u8 0,.int .u8 0,.int .i64 0,.int .i64 0,.int .i64 0,.int .u8 0,.int .u8 0,.int .u8 0,.int .i64 0,.int .i64 0,.int .i64 0],.int .u8 0,.int .u8 0]
theorem lF(os:Os)(started:os.Started)(H:Type)(enc:SY×SX->H) :
  ReturnsInHanded {} Try.checked os 5 .any (Rows.complexPlacesSpec.pre6 enc Try.prog Try.f5 [] false) (Rows.complexPlacesSpec.post enc Try.prog Try.f5 false true false false):=by
 refine returnsInHanded_of_change_shaped (C:=Try.checked) N2 started (by kernel_rfl) Try.func5
  (ChangeSpec.witness6 (enc:=enc) (C:=Try.checked) (os:=os) false ⟨#[],oF,[]⟩ 8 (by kernel_rfl) (by kernel_rfl) (by kernel_rfl) (by kernel_rfl)) ?_
 intro W base args ds gs before hval hW _ _ hS _;have hs:=EF hS;have hW':=hW;obtain⟨p,q,hA,hV,_⟩:=hW;obtain⟨rfl,_⟩:=trodVars_none hV;have hA:DataW.TrodAll enc Try.prog W 0 (fun _=>true) true Try.f5.params.toList args.toList ds p:=hA;rw[Try.params5] at hA;obtain⟨v1,w1,d1,e1,p1,q1,hargs1,rfl,rfl,h1,g1⟩:=trodAll_cons hA;obtain⟨v2,w2,d2,e2,p2,q2,hargs2,rfl,rfl,h2,g2⟩:=trodAll_cons g1;obtain⟨v3,w3,d3,e3,p3,q3,hargs3,rfl,rfl,h3,g3⟩:=trodAll_cons g2;obtain⟨v4,w4,d4,e4,p4,q4,hargs4,rfl,rfl,h4,g4⟩:=trodAll_cons g3;obtain⟨hnil,rfl,rfl⟩:=trodAll_nil g4;have hargs:args=#[v1,v2,v3,v4]:=by apply RT.1; rw[hargs1,hargs2,hargs3,hargs4,hnil]
 subst hargs;obtain⟨x1,x2,l3,l4,x5,a6,c7,a8,c9,r1,b1_1,b1_2,b1_3,b1_4,m1a,m1b⟩:=Ni (hval 0 24 v1 (by rw[Try.params5]; rfl) rfl) hs h1
 obtain⟨x10,x11,x12,x13,x14,x15,x16,x17,x18,x19,x20,x21,r2,b2_1,b2_2⟩:=Nn (hval 1 29 v2 (by rw[Try.params5]; rfl) rfl) h2
 obtain⟨x22,rfl,b3⟩:=Om (hval 2 5 v3 (by rw[Try.params5]; rfl) rfl) h3
 obtain⟨x23,rfl,b4⟩:=Om (hval 3 5 v4 (by rw[Try.params5]; rfl) rfl) h4
 have hF:F5 200000 x1 x2 l3 l4 x5 x10 x11 x12 x13 x14 x15 x16 x17 x18 x19 x20 x21 x22 x23=some true:=IP 200000 x1 x2 l3 l4 x5 x10 x11 x12 x13 x14 x15 x16 x17 x18 x19 x20 x21 x22 x23 b2_1.1 b2_1.2 b2_2.1 b2_2.2 (by decide) IJ
 exact CF (fn:=Try.f5) (tb:=4) rfl rfl (by kernel_rfl) (by kernel_rfl) (by kernel_rfl) (by rw[Try.params5]; decide +kernel) rfl hW' (.cons r1 (.cons r2 (.cons (.int _ _) (.cons (.int _ _) (.nil _)))))
  (On 200000 x1 x2 l3 l4 x5 x10 x11 x12 x13 x14 x15 x16 x17 x18 x19 x20 x21 x22 x23 a6 c7 a8 c9 true hF (eR W) m1a m1b)
theorem complexPlaces_said:Rows.ComplexPlacesSaid :=
 OpenClaim.holds_of_wide 5 Try.f5 rfl rfl rfl rfl rfl rfl rfl ⟨rfl,rfl,rfl,rfl,rfl⟩ rfl rfl rfl rfl rfl (by kernel_rfl) Try.func5 (by kernel_rfl)
  (of_decide_eq_true (by kernel_rfl)) (by unfold Func.isWrapper; first |(rw[QH (by decide +kernel)]; kernel_rfl) |(rw[QF (by decide +kernel)]; exact⟨rfl,rfl⟩))
  (fun os started H enc _=>lF os started H enc)
#print axioms complexPlaces_said
end Go.Proofs.Ytmndpgfbkicndaa
