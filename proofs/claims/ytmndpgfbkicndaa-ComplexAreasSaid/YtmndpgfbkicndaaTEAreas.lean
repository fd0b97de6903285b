/- Chapter 15: ComplexAreas (function 3) returns true at all arguments. -/
import Derived.Test.YtmndpgfbkicndaaCa8
namespace Go.Proofs.Ytmndpgfbkicndaa
set_option maxRecDepth 100000
open Go Go.ChangeShapes Go.WideShapes Go.ChangeAt Go.WideMaps Go.WideElems Go.RowKit Go.Ab Go.Ab.W
abbrev qf:VD Uz:=#[.agg #[.int .u8 0,.int .u8 0,.slice none 0 0,.slice none 0 0,.bool false],.agg #[.int .u8 0,.int .u8 0,.int .u8 0,.int .i64 0,.int .i64 0,.int .i64 0,.int .u8 0,.int .u8 0,.int .u8 0,.int .i64 0,.int .i64 0,.int .i64 0]]
theorem nZ(os:Os)(started:os.Started)(H:Type)(enc:UA×Uz->H) :
  ReturnsInHanded {} Try.checked os 3 .any (Rows.complexAreasSpec.pre6 enc Try.prog Try.f3 [] false) (Rows.complexAreasSpec.post enc Try.prog Try.f3 false true false false):=by
 refine returnsInHanded_of_change_shaped (C:=Try.checked) P3 started (by kernel_rfl) Try.func3
  (ChangeSpec.witness6 (enc:=enc) (C:=Try.checked) (os:=os) false ⟨#[],qf,[]⟩ 8 (by kernel_rfl) (by kernel_rfl) (by kernel_rfl) (by kernel_rfl)) ?_
 intro W base args ds gs before hval hW _ _ hS _;have hs:=G8 hS;have hW':=hW;obtain⟨p,q,hA,hV,_⟩:=hW;obtain⟨rfl,_⟩:=trodVars_none hV;have hA:DataW.TrodAll enc Try.prog W 0 (fun _=>true) true Try.f3.params.toList args.toList ds p:=hA;rw[Try.params3] at hA;obtain⟨v1,w1,d1,e1,p1,q1,hargs1,rfl,rfl,h1,g1⟩:=trodAll_cons hA;obtain⟨v2,w2,d2,e2,p2,q2,hargs2,rfl,rfl,h2,g2⟩:=trodAll_cons g1;obtain⟨hnil,rfl,rfl⟩:=trodAll_nil g2;have hargs:args=#[v1,v2]:=by apply Tz.1; rw[hargs1,hargs2,hnil]
 subst hargs;obtain⟨x1,x2,l3,l4,x5,a6,c7,a8,c9,r1,b1_1,b1_2,b1_3,b1_4,m1a,m1b⟩:=Pf (hval 0 24 v1 (by rw[Try.params3]; rfl) rfl) hs h1
 obtain⟨x10,x11,x12,x13,x14,x15,x16,x17,x18,x19,x20,x21,r2,b2_1,b2_2⟩:=OJ (hval 1 29 v2 (by rw[Try.params3]; rfl) rfl) h2
 have hF:F3 200000 x1 x2 l3 l4 x5 x10 x11 x12 x13 x14 x15 x16 x17 x18 x19 x20 x21=some true:=J6 200000 x1 x2 l3 l4 x5 x10 x11 x12 x13 x14 x15 x16 x17 x18 x19 x20 x21 b2_1.1 b2_1.2 b2_2.1 b2_2.2 (by decide) KG
 exact DN (fn:=Try.f3) (tb:=4) rfl rfl (by kernel_rfl) (by kernel_rfl) (by kernel_rfl) (by rw[Try.params3]; decide +kernel) rfl hW' (.cons r1 (.cons r2 (.nil _)))
  (PG 200000 x1 x2 l3 l4 x5 x10 x11 x12 x13 x14 x15 x16 x17 x18 x19 x20 x21 a6 c7 a8 c9 true hF (fh W) m1a m1b)
theorem complexAreas_said:Rows.ComplexAreasSaid :=
 OpenClaim.holds_of_wide 3 Try.f3 rfl rfl rfl rfl rfl rfl rfl ⟨rfl,rfl,rfl,rfl,rfl⟩ rfl rfl rfl rfl rfl (by kernel_rfl) Try.func3 (by kernel_rfl)
  (of_decide_eq_true (by kernel_rfl)) (by unfold Func.isWrapper; first |(rw[R7 (by decide +kernel)]; kernel_rfl) |(rw[R5 (by decide +kernel)]; exact⟨rfl,rfl⟩))
  (fun os started H enc _=>nZ os started H enc)
#print axioms complexAreas_said
end Go.Proofs.Ytmndpgfbkicndaa
