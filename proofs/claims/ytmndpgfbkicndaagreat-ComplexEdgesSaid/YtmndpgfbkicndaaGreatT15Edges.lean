/- Chapter 15: ComplexEdges (function 4) returns true at all arguments. -/
import Derived.Test.YtmndpgfbkicndaaGreatCe8
namespace Go.Proofs.YtmndpgfbkicndaaGreat
set_option maxRecDepth 100000
open Go Go.ChangeShapes Go.WideShapes Go.ChangeAt Go.WideMaps Go.WideElems Go.RowKit Go.Ab Go.Ab.W
abbrev p6:WD Vs:=#[.agg #[.int .u8 0,.int .u8 0,.slice none 0 0,.slice none 0 0,.bool false],.agg #[.int .u8 0,.int .u8 0,.int .u8 0,.int .i64 0,.int .i64 0,.int .i64 0,.int .u8 0,.int .u8 0,.int .u8 0,.int .i64 0,.int .i64 0,.int .i64 0]]
theorem nM(os:Os)(started:os.Started)(H:Type)(enc:Vt×Vs->H) :
  ReturnsInHanded {} Tryz.checked os 4 .any (Rows.complexEdgesSpec.pre6 enc Tryz.prog Tryz.f4 [] false) (Rows.complexEdgesSpec.post enc Tryz.prog Tryz.f4 false true false false):=by
 refine returnsInHanded_of_change_shaped (C:=Tryz.checked) QO started (by kernel_rfl) Tryz.func4
  (ChangeSpec.witness6 (enc:=enc) (C:=Tryz.checked) (os:=os) false ⟨#[],p6,[]⟩ 8 (by kernel_rfl) (by kernel_rfl) (by kernel_rfl) (by kernel_rfl)) ?_
 intro W base args ds gs before hval hW _ _ hS _;have hs:=I3 hS;have hW':=hW;obtain⟨p,q,hA,hV,_⟩:=hW;obtain⟨rfl,_⟩:=trodVars_none hV;have hA:DataW.TrodAll enc Tryz.prog W 0 (fun _=>true) true Tryz.f4.params.toList args.toList ds p:=hA;rw[Tryz.params4] at hA;obtain⟨v1,w1,d1,e1,p1,q1,hargs1,rfl,rfl,h1,g1⟩:=trodAll_cons hA;obtain⟨v2,w2,d2,e2,p2,q2,hargs2,rfl,rfl,h2,g2⟩:=trodAll_cons g1;obtain⟨hnil,rfl,rfl⟩:=trodAll_nil g2;have hargs:args=#[v1,v2]:=by apply Uh.1; rw[hargs1,hargs2,hnil]
 subst hargs;obtain⟨x1,x2,l3,l4,x5,a6,c7,a8,c9,r1,b1_1,b1_2,b1_3,b1_4,m1a,m1b⟩:=QZ (hval 0 51 v1 (by rw[Tryz.params4]; rfl) rfl) hs h1
 obtain⟨x10,x11,x12,x13,x14,x15,x16,x17,x18,x19,x20,x21,r2,b2_1,b2_2⟩:=P0 (hval 1 54 v2 (by rw[Tryz.params4]; rfl) rfl) h2
 have hF:F4 100000 x1 x2 l3 l4 x5 x10 x11 x12 x13 x14 x15 x16 x17 x18 x19 x20 x21=some true:=J1 x1 x2 l3 l4 x5 x10 x11 x12 x13 x14 x15 x16 x17 x18 x19 x20 x21 b2_1.1 b2_1.2 b2_2.1 b2_2.2 Jy;exact Et (fn:=Tryz.f4) (tb:=4) rfl rfl (by kernel_rfl) (by kernel_rfl) (by kernel_rfl) (by rw[Tryz.params4]; decide +kernel) rfl hW' (.cons r1 (.cons r2 (.nil _)))
  (QG 100000 x1 x2 l3 l4 x5 x10 x11 x12 x13 x14 x15 x16 x17 x18 x19 x20 x21 a6 c7 a8 c9 true hF (fu W) m1a m1b)
theorem complexEdges_said:Rows.ComplexEdgesSaid :=
 OpenClaim.holds_of_wide 4 Tryz.f4 rfl rfl rfl rfl rfl rfl rfl ⟨rfl,rfl,rfl,rfl,rfl⟩ rfl rfl rfl rfl rfl (by kernel_rfl) Tryz.func4 (by kernel_rfl)
  (of_decide_eq_true (by kernel_rfl)) (by unfold Func.isWrapper; first |(rw[SU (by decide +kernel)]; kernel_rfl) |(rw[SS (by decide +kernel)]; exact⟨rfl,rfl⟩))
  (fun os started H enc _=>nM os started H enc)
#print axioms complexEdges_said
end Go.Proofs.YtmndpgfbkicndaaGreat
