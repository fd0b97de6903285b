/- Chapter 15: ComplexFinds (function 5) returns true at all arguments. -/
import Derived.Test.YtmndpgfbkicndaaGreatCf8
namespace Go.Proofs.YtmndpgfbkicndaaGreat
set_option maxRecDepth 100000
open Go Go.ChangeShapes Go.WideShapes Go.ChangeAt Go.WideMaps Go.WideElems Go.RowKit Go.Ab Go.Ab.W
abbrev pR:Array Uy:=#[.agg #[.int .u8 0,.int .u8 0,.slice none 0 0,.slice none 0 0,.bool false],.agg #[.int .u8 0,.int .u8 0,.int .u8 0,.int .i64 0,.int .i64 0,.int .i64 0,.int .u8 0,.int .u8 0,.int .u8 0,.int .i64 0,.int .i64 0,.int .i64 0],.int .i64 0,.int .i64 0,.agg #[.int .u8 0,.int .u8 0],.agg #[.int .i64 0,.int .i64 0]]
theorem nJ(os:Os)(started:os.Started)(H:Type)(enc:Uz×Uy->H) :
  ReturnsInHanded {} Tryz.checked os 5 .any (Rows.complexFindsSpec.pre6 enc Tryz.prog Tryz.f5 [] false) (Rows.complexFindsSpec.post enc Tryz.prog Tryz.f5 false true false false):=by
 refine returnsInHanded_of_change_shaped (C:=Tryz.checked) OI started (by kernel_rfl) Tryz.func5
  (ChangeSpec.witness6 (enc:=enc) (C:=Tryz.checked) (os:=os) false ⟨#[],pR,[]⟩ 8 (by kernel_rfl) (by kernel_rfl) (by kernel_rfl) (by kernel_rfl)) ?_
 intro W base args ds gs before hval hW _ _ hS _;have hs:=Fx hS;have hW':=hW;obtain⟨p,q,hA,hV,_⟩:=hW;obtain⟨rfl,_⟩:=trodVars_none hV;have hA:DataW.TrodAll enc Tryz.prog W 0 (fun _=>true) true Tryz.f5.params.toList args.toList ds p:=hA;rw[Tryz.params5] at hA;obtain⟨v1,w1,d1,e1,p1,q1,hargs1,rfl,rfl,h1,g1⟩:=trodAll_cons hA;obtain⟨v2,w2,d2,e2,p2,q2,hargs2,rfl,rfl,h2,g2⟩:=trodAll_cons g1;obtain⟨v3,w3,d3,e3,p3,q3,hargs3,rfl,rfl,h3,g3⟩:=trodAll_cons g2;obtain⟨v4,w4,d4,e4,p4,q4,hargs4,rfl,rfl,h4,g4⟩:=trodAll_cons g3;obtain⟨v5,w5,d5,e5,p5,q5,hargs5,rfl,rfl,h5,g5⟩:=trodAll_cons g4;obtain⟨v6,w6,d6,e6,p6,q6,hargs6,rfl,rfl,h6,g6⟩:=trodAll_cons g5;obtain⟨hnil,rfl,rfl⟩:=trodAll_nil g6;have hargs:args=#[v1,v2,v3,v4,v5,v6]:=by apply Tq.1; rw[hargs1,hargs2,hargs3,hargs4,hargs5,hargs6,hnil]
 subst hargs;obtain⟨x1,x2,l3,l4,x5,a6,c7,a8,c9,r1,b1_1,b1_2,b1_3,b1_4,m1a,m1b⟩:=O9 (hval 0 51 v1 (by rw[Tryz.params5]; rfl) rfl) hs h1
 obtain⟨x10,x11,x12,x13,x14,x15,x16,x17,x18,x19,x20,x21,r2,b2_1,b2_2⟩:=PT (hval 1 54 v2 (by rw[Tryz.params5]; rfl) rfl) h2
 obtain⟨x22,rfl⟩:=Pd (hval 2 3 v3 (by rw[Tryz.params5]; rfl) rfl) h3
 obtain⟨x23,rfl⟩:=Pd (hval 3 3 v4 (by rw[Tryz.params5]; rfl) rfl) h4
 obtain⟨x24,x25,r5,b5⟩:=OK (hval 4 66 v5 (by rw[Tryz.params5]; rfl) rfl) h5
 obtain⟨x26,x27,r6,b6⟩:=O6 (hval 5 38 v6 (by rw[Tryz.params5]; rfl) rfl) h6
 have hF:F5 200000 x1 x2 l3 l4 x5 x10 x11 x12 x13 x14 x15 x16 x17 x18 x19 x20 x21 x22 x23 x24 x25 x26 x27=some true:=Ji 200000 x1 x2 l3 l4 x5 x10 x11 x12 x13 x14 x15 x16 x17 x18 x19 x20 x21 x22 x23 x24 x25 x26 x27 b2_1.1 b2_1.2 b2_2.1 b2_2.2 (by decide) Kb
 exact Ds (fn:=Tryz.f5) (tb:=4) rfl rfl (by kernel_rfl) (by kernel_rfl) (by kernel_rfl) (by rw[Tryz.params5]; decide +kernel) rfl hW' (.cons r1 (.cons r2 (.cons (.int _ _) (.cons (.int _ _) (.cons r5 (.cons r6 (.nil _)))))))
  (Ov 200000 x1 x2 l3 l4 x5 x10 x11 x12 x13 x14 x15 x16 x17 x18 x19 x20 x21 x22 x23 x24 x25 x26 x27 a6 c7 a8 c9 true hF (fm W) m1a m1b)
theorem complexFinds_said:Rows.ComplexFindsSaid :=
 OpenClaim.holds_of_wide 5 Tryz.f5 rfl rfl rfl rfl rfl rfl rfl ⟨rfl,rfl,rfl,rfl,rfl⟩ rfl rfl rfl rfl rfl (by kernel_rfl) Tryz.func5 (by kernel_rfl)
  (of_decide_eq_true (by kernel_rfl)) (by unfold Func.isWrapper; first |(rw[R7 (by decide +kernel)]; kernel_rfl) |(rw[R6 (by decide +kernel)]; exact⟨rfl,rfl⟩))
  (fun os started H enc _=>nJ os started H enc)
#print axioms complexFinds_said
end Go.Proofs.YtmndpgfbkicndaaGreat
