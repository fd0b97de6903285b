/- Chapter 15: ComplexEuler (function 4) returns true at all arguments. -/
import Derived.Test.YtmndpgfbkicndaaCe8
namespace Go.Proofs.Ytmndpgfbkicndaa
set_option maxRecDepth 100000
open Go Go.ChangeShapes Go.WideShapes Go.ChangeAt Go.WideMaps Go.WideElems Go.RowKit Go.Ab Go.Ab.W
abbrev rW:YD XI:=#[.agg #[.int .u8 0,.int .u8 0,.slice none 0 0,.slice none 0 0,.bool false],.agg #[.int .u8 0,.int .u8 0,.int .u8 0,.int .i64 0,.int .i64 0,.int .i64 0,.int .u8 0,.int .u8 0,.int .u8 0,.int .i64 0,.int .i64 0,.int .i64 0]]
theorem pB(os:Os)(started:os.Started)(H:Type)(enc:XJ×XI->H) :
  ReturnsInHanded {} Try.checked os 4 .any (Rows.complexEulerSpec.pre6 enc Try.prog Try.f4 [] false) (Rows.complexEulerSpec.post enc Try.prog Try.f4 false true false false):=by
 refine returnsInHanded_of_change_shaped (C:=Try.checked) R3 started (by kernel_rfl) Try.func4
  (ChangeSpec.witness6 (enc:=enc) (C:=Try.checked) (os:=os) false ⟨#[],rW,[]⟩ 8 (by kernel_rfl) (by kernel_rfl) (by kernel_rfl) (by kernel_rfl)) ?_
 intro W base args ds gs before hval hW _ hZ hS _;have hs:=GS hS;have hW':=hW;obtain⟨p,q,hA,hV,_⟩:=hW;obtain⟨rfl,_⟩:=trodVars_none hV;have hA:DataW.TrodAll enc Try.prog W 0 (fun _=>true) true Try.f4.params.toList args.toList ds p:=hA;rw[Try.params4] at hA;obtain⟨v1,w1,d1,e1,p1,q1,hargs1,rfl,rfl,h1,g1⟩:=trodAll_cons hA;obtain⟨v2,w2,d2,e2,p2,q2,hargs2,rfl,rfl,h2,g2⟩:=trodAll_cons g1;obtain⟨hnil,rfl,rfl⟩:=trodAll_nil g2;have hargs:args=#[v1,v2]:=by apply Wx.1; rw[hargs1,hargs2,hnil]
 subst hargs;obtain⟨x1,x2,l3,l4,x5,a6,c7,a8,c9,r1,b1_1,b1_2,b1_3,b1_4,m1a,m1b⟩:=QP (hval 0 24 v1 (by rw[Try.params4]; rfl) rfl) hs h1
 obtain⟨x10,x11,x12,x13,x14,x15,x16,x17,x18,x19,x20,x21,r2,b2_1,b2_2⟩:=SI (hval 1 29 v2 (by rw[Try.params4]; rfl) rfl) h2
 have hF:F4 (l3.length+100000) x1 x2 l3 l4 x5 x10 x11 x12 x13 x14 x15 x16 x17 x18 x19 x20 x21=some true:=MH (l3.length+100000) x1 x2 l3 l4 x5 x10 x11 x12 x13 x14 x15 x16 x17 x18 x19 x20 x21 b2_1.1 b2_1.2 b2_2.1 b2_2.2 b1_3 b1_4 (by omega) (by omega) (Rk r1 h1 fun x hx=>of_decide_eq_true (Vo.1 hZ x (DataW.weights_mem_each (j:=0) (t:=24) (by rw[Try.params4]; rfl) rfl x hx))) (TC _)
 exact FU (fn:=Try.f4) (tb:=4) rfl rfl (by kernel_rfl) (by kernel_rfl) (by kernel_rfl) (by rw[Try.params4]; decide +kernel) rfl hW' (.cons r1 (.cons r2 (.nil _)))
  (QN (l3.length+100000) x1 x2 l3 l4 x5 x10 x11 x12 x13 x14 x15 x16 x17 x18 x19 x20 x21 a6 c7 a8 c9 true hF (fI W) m1a m1b)
theorem complexEuler_said:Rows.ComplexEulerSaid :=
 OpenClaim.holds_of_wide 4 Try.f4 rfl rfl rfl rfl rfl rfl rfl ⟨rfl,rfl,rfl,rfl,rfl⟩ rfl rfl rfl rfl rfl (by kernel_rfl) Try.func4 (by kernel_rfl)
  (of_decide_eq_true (by kernel_rfl)) (by unfold Func.isWrapper; first |(rw[U5 (by decide +kernel)]; kernel_rfl) |(rw[U3 (by decide +kernel)]; exact⟨rfl,rfl⟩))
  (fun os started H enc _=>pB os started H enc)
#print axioms complexEuler_said
end Go.Proofs.Ytmndpgfbkicndaa
