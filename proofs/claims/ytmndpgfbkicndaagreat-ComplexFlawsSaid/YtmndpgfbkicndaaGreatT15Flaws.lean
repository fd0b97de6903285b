/- Chapter 15: ComplexFlaws (function 6) returns true at all arguments. -/
import Derived.Test.YtmndpgfbkicndaaGreatCx8
namespace Go.Proofs.YtmndpgfbkicndaaGreat
set_option maxRecDepth 100000
open Go Go.ChangeShapes Go.WideShapes Go.ChangeAt Go.WideMaps Go.WideElems Go.RowKit Go.Ab Go.Ab.W
abbrev qg:Array Us:=#[.agg #[.int .u8 0,.int .u8 0,.slice none 0 0,.slice none 0 0,.bool false],.agg #[.int .u8 0,.int .u8 0,.int .u8 0,.int .i64 0,.int .i64 0,.int .i64 0,.int .u8 0,.int .u8 0,.int .u8 0,.int .i64 0,.int .i64 0,.int .i64 0],.slice none 0 0,.slice none 0 0]
theorem nK (os:Os) (started:os.Started) (H:Type) (enc:Ut × Us->H) :
  ReturnsInHanded {} Tryz.checked os 6 .any (Rows.complexFlawsSpec.pre6 enc Tryz.prog Tryz.f6 [] false) (Rows.complexFlawsSpec.post enc Tryz.prog Tryz.f6 false true false false):=by
 refine returnsInHanded_of_change_shaped (C:=Tryz.checked) Pe started (by kernel_rfl) Tryz.func6
  (ChangeSpec.witness6 (enc:=enc) (C:=Tryz.checked) (os:=os) false ⟨#[],qg,[]⟩ 8 (by kernel_rfl) (by kernel_rfl) (by kernel_rfl) (by kernel_rfl)) ?_
 intro W base args ds gs before hval hW _ _ hS _;have hs:=GY hS;have hW':=hW;obtain⟨p,q,hA,hV,_⟩:=hW;obtain⟨rfl,_⟩:=trodVars_none hV;have hA:DataW.TrodAll enc Tryz.prog W 0 (fun _=>true) true Tryz.f6.params.toList args.toList ds p:=hA;rw[Tryz.params6] at hA;obtain⟨v0,w1,d0,e1,p0,q1,hargs1,rfl,rfl,h0,g0⟩:=trodAll_cons hA;obtain⟨v1,w2,d1,e2,p1,q2,hargs2,rfl,rfl,h1,g1⟩:=trodAll_cons g0;obtain⟨v2,w3,d2,e3,p2,q3,hargs3,rfl,rfl,h2,g2⟩:=trodAll_cons g1;obtain⟨v3,w4,d3,e4,p3,q4,hargs4,rfl,rfl,h3,g3⟩:=trodAll_cons g2;obtain⟨hnil,rfl,rfl⟩:=trodAll_nil g3;have hargs:args=#[v0,v1,v2,v3]:=by apply Ti.1; rw[hargs1,hargs2,hargs3,hargs4,hnil]
 subst hargs;obtain⟨x1,x2,l1,l2,x5,a0,c0,a1,c1,r0,b1_1,b1_2,b1_3,b1_4,m1a,m1b⟩:=PS (hval 0 51 v0 (by rw[Tryz.params6]; rfl) rfl) hs h0
 obtain⟨x3,x4,x10,x11,x12,x13,x14,x15,x16,x17,x18,x19,r2,b2_1,b2_2⟩:=OH (hval 1 54 v1 (by rw[Tryz.params6]; rfl) rfl) h1
 obtain⟨l3,a2,c2,r1,b0,m2⟩:=PQ (hval 2 23 v2 (by rw[Tryz.params6]; rfl) rfl) hs h2
 obtain⟨l4,a3,c3,e0,r3,m4a,m4b⟩:=Ob (hval 3 71 v3 (by rw[Tryz.params6]; rfl) rfl) hs h3
 have hF:F6 200000 x1 x2 l1 l2 x5 x3 x4 x10 x11 x12 x13 x14 x15 x16 x17 x18 x19 l3 l4=some true:=I9 200000 x1 x2 l1 l2 x5 x3 x4 x10 x11 x12 x13 x14 x15 x16 x17 x18 x19 l3 l4 b2_1.1 b2_1.2 b2_2.1 b2_2.2 (by decide) Iw
 exact DW (fn:=Tryz.f6) (tb:=4) rfl rfl (by kernel_rfl) (by kernel_rfl) (by kernel_rfl) (by rw[Tryz.params6]; decide +kernel) rfl hW' (.cons r0 (.cons r2 (.cons r1 (.cons r3 (.nil _)))))
  (OM 200000 x1 x2 l1 l2 x5 x3 x4 x10 x11 x12 x13 x14 x15 x16 x17 x18 x19 l3 l4 a0 c0 a1 c1 a2 c2 a3 c3 _ e0 true hF (dP W) m1a m1b m2 m4a m4b)
theorem complexFlaws_said:Rows.ComplexFlawsSaid :=
 OpenClaim.holds_of_wide 6 Tryz.f6 rfl rfl rfl rfl rfl rfl rfl ⟨rfl,rfl,rfl,rfl,rfl⟩ rfl rfl rfl rfl rfl (by kernel_rfl) Tryz.func6 (by kernel_rfl)
  (of_decide_eq_true (by kernel_rfl)) (by unfold Func.isWrapper; first | (rw[R0 (by decide +kernel)]; kernel_rfl) | (rw[RZ (by decide +kernel)]; exact⟨rfl,rfl⟩))
  (fun os started H enc _=>nK os started H enc)
#print axioms complexFlaws_said
end Go.Proofs.YtmndpgfbkicndaaGreat
