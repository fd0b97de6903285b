/- Chapter 14: RingHulls (function 3) returns true for all arguments. -/
import Derived.Test.YthmekkhpddehjaaGreatRh7
namespace Go.Proofs.YthmekkhpddehjaaGreat
set_option maxRecDepth 100000
open Go Go.ChangeShapes Go.WideShapes Go.ChangeAt Go.WideMaps Go.WideElems Go.RowKit Go.Ab Go.Ab.W

abbrev qt:Array Value:=#[.slice none 0 0,.slice none 0 0,.agg #[.slice none 0 0,.int .i16 0,.int .i16 0,.int .u8 0,.bool false,.bool false],.agg #[.int .i8 0,.int .i8 0,.int .i8 0,.int .i8 0,.int .i8 0,.int .i8 0,.int .i8 0,.int .i8 0],.int .u8 0]
theorem lU (os:Os) (started:os.Started) (H:Type) (enc:TypeId × Value→H) :
  ReturnsInHanded {} Tryz.checked os 3 .any (Rows.ringHullsSpec.pre6 enc Tryz.prog Tryz.f3 [] false) (Rows.ringHullsSpec.post enc Tryz.prog Tryz.f3 false true false false):=by
 refine returnsInHanded_of_change_shaped (C:=Tryz.checked) G8 started (by kernel_rfl) Tryz.func3
  (ChangeSpec.witness6 (enc:=enc) (C:=Tryz.checked) (os:=os) false ⟨#[],qt,[]⟩ 8 (by kernel_rfl) (by kernel_rfl) (by kernel_rfl) (by kernel_rfl)) ?_
 intro W base args ds gs before hval hW _ _ hS _;have hs:=AF hS;have hW':=hW;obtain⟨p,q,hA,hV,_⟩:=hW;obtain⟨rfl,_⟩:=trodVars_none hV;have hA:DataW.TrodAll enc Tryz.prog W 0 (fun _=>true) true Tryz.f3.params.toList args.toList ds p:=hA;rw[Tryz.params3] at hA;obtain⟨v1,w1,d1,e1,p1,q1,hargs1,rfl,rfl,h1,g1⟩:=trodAll_cons hA;obtain⟨v2,w2,d2,e2,p2,q2,hargs2,rfl,rfl,h2,g2⟩:=trodAll_cons g1;obtain⟨v3,w3,d3,e3,p3,q3,hargs3,rfl,rfl,h3,g3⟩:=trodAll_cons g2;obtain⟨v4,w4,d4,e4,p4,q4,hargs4,rfl,rfl,h4,g4⟩:=trodAll_cons g3;obtain⟨v5,w5,d5,e5,p5,q5,hargs5,rfl,rfl,h5,g5⟩:=trodAll_cons g4;obtain⟨hnil,rfl,rfl⟩:=trodAll_nil g5;have hargs:args=#[v1,v2,v3,v4,v5]:=by apply Array.toList_inj.1; rw[hargs1,hargs2,hargs3,hargs4,hargs5,hnil]
 subst hargs;obtain⟨l1,a2,c3,r1,b1,b1_n,m1⟩:=Ii (hval 0 22 v1 (by rw[Tryz.params3]; rfl) rfl) hs h1
 obtain⟨l5,a6,c7,r2,b2,b2_n,m2⟩:=HO (hval 1 23 v2 (by rw[Tryz.params3]; rfl) rfl) hs h2
 obtain⟨l9,a10,c11,x13,x14,x15,x16,x17,r3,b3_l,b3_x,b3_y,b3_s,m3⟩:=Iu (hval 2 28 v3 (by rw[Tryz.params3]; rfl) rfl) hs h3
 obtain⟨x18,x19,x20,x21,x22,x23,x24,x25,r4,b4⟩:=Hb (hval 3 31 v4 (by rw[Tryz.params3]; rfl) rfl) h4
 obtain⟨x26,rfl,b5⟩:=I5 (hval 4 5 v5 (by rw[Tryz.params3]; rfl) rfl) h5
 have w:∀{q:Int},(-9223372036854775808≤q∧q≤9223372036854775807)→fh q:=fun h=>by unfold fh; omega
 have hF:=Dg 600 (l1:=l1) (fun q hq=>⟨w (b1 q hq).1,w (b1 q hq).2⟩) (l5:=l5) b2 (l:=l9) (x13:=x13) (x14:=x14) (x15:=x15) ⟨b3_l,b3_x,b3_y,b3_s⟩ x16 x17 x18 x19 x20 x21 x22 x23 x24 x25 (x26:=x26) b5 (by decide)
 exact zv (fn:=Tryz.f3) (tb:=4) rfl rfl (by kernel_rfl) (by kernel_rfl) (by kernel_rfl) (by rw[Tryz.params3]; decide +kernel) rfl hW' (.cons r1 (.cons r2 (.cons r3 (.cons r4 (.cons (.int _ _) (.nil _))))))
  (HK 600 l1 l5 l9 x13 x14 x15 x16 x17 x18 x19 x20 x21 x22 x23 x24 x25 x26 a2 c3 a6 c7 a10 c11 true hF (dD W) m1 m2 m3)
theorem ringHulls_said:Rows.RingHullsSaid :=
 OpenClaim.holds_of_wide 3 Tryz.f3 rfl rfl rfl rfl rfl rfl rfl ⟨rfl,rfl,rfl,rfl,rfl⟩ rfl rfl rfl rfl rfl (by kernel_rfl) Tryz.func3 (by kernel_rfl)
  (of_decide_eq_true (by kernel_rfl)) (by unfold Func.isWrapper; first | (rw[if_pos (by decide +kernel)]; kernel_rfl) | (rw[if_neg (by decide +kernel)]; exact⟨rfl,rfl⟩))
  (fun os started H enc _=>lU os started H enc)
#print axioms ringHulls_said
end Go.Proofs.YthmekkhpddehjaaGreat
