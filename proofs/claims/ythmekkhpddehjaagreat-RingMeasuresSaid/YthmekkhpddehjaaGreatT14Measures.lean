/- RingMeasures returns true for every list of points, draft, pair of changes, point and pair of small numbers: its walk by the abstract machine, which is proved to follow the model, comes to a plain Lean function, and that is true (areas do not depend on the place from which they are taken; a point off a valid ring is inside by its winding number just if a ray from it crosses an odd number of edges, ars the winding number of a simple polygon is 0, 1 or -1); works() is evaluated once, where a map's keys come sorted by the library's contract. Conditions: none beyond those of the row. -/
import Derived.Test.YthmekkhpddehjaaGreatRs6
namespace Go.Proofs.YthmekkhpddehjaaGreat
set_option maxRecDepth 100000
open Go Go.ChangeShapes Go.WideShapes Go.ChangeAt Go.WideMaps Go.WideElems Go.RowKit Go.Ab Go.Ab.W

abbrev mF:Array Value:=#[.slice none 0 0,.agg #[.slice none 0 0,.int .i16 0,.int .i16 0,.int .u8 0,.bool false,.bool false],.agg #[.int .u8 0,.int .u8 0,.int .u8 0,.int .i64 0,.int .i64 0,.int .u8 0,.int .u8 0,.int .u8 0,.int .i64 0,.int .i64 0],.agg #[.int .i64 0,.int .i64 0],.agg #[.int .i8 0,.int .i8 0]]
theorem jQ (os:Os) (started:os.Started) (H:Type) (enc:TypeId × Value→H) :
  ReturnsInHanded {} Tryz.checked os 8 .any (Rows.ringMeasuresSpec.pre6 enc Tryz.prog Tryz.f8 [] false) (Rows.ringMeasuresSpec.post enc Tryz.prog Tryz.f8 false true false false):=by
 refine returnsInHanded_of_change_shaped (C:=Tryz.checked) Hz started (by kernel_rfl) Tryz.func8
  (ChangeSpec.witness6 (enc:=enc) (C:=Tryz.checked) (os:=os) false ⟨#[],mF,[]⟩ 8 (by kernel_rfl) (by kernel_rfl) (by kernel_rfl) (by kernel_rfl)) ?_
 intro W base args ds gs before hval hW _ _ hS _;have hs:=zU hS;have hW':=hW;obtain⟨p,q,hA,hV,_⟩:=hW;obtain⟨rfl,_⟩:=trodVars_none hV;have hA:DataW.TrodAll enc Tryz.prog W 0 (fun _=>true) true Tryz.f8.params.toList args.toList ds p:=hA;rw[Tryz.params8] at hA;obtain⟨v1,w1,d1,e1,p1,q1,hargs1,rfl,rfl,h1,g1⟩:=trodAll_cons hA;obtain⟨v2,w2,d2,e2,p2,q2,hargs2,rfl,rfl,h2,g2⟩:=trodAll_cons g1;obtain⟨v3,w3,d3,e3,p3,q3,hargs3,rfl,rfl,h3,g3⟩:=trodAll_cons g2;obtain⟨v4,w4,d4,e4,p4,q4,hargs4,rfl,rfl,h4,g4⟩:=trodAll_cons g3;obtain⟨v5,w5,d5,e5,p5,q5,hargs5,rfl,rfl,h5,g5⟩:=trodAll_cons g4;obtain⟨hnil,rfl,rfl⟩:=trodAll_nil g5;have hargs:args=#[v1,v2,v3,v4,v5]:=by apply Array.toList_inj.1; rw[hargs1,hargs2,hargs3,hargs4,hargs5,hnil]
 subst hargs;obtain⟨l1,a2,c3,r1,b1,b1_n,m1⟩:=Hf (hval 0 34 v1 (by rw[Tryz.params8]; rfl) rfl) hs h1
 obtain⟨l5,a6,c7,x9,x10,x11,x12,x13,r2,b2_l,b2_x,b2_y,b2_s,m2⟩:=Hr (hval 1 28 v2 (by rw[Tryz.params8]; rfl) rfl) hs h2
 obtain⟨x14,x15,x16,x17,x18,x19,x20,x21,x22,x23,r3,b3⟩:=GY (hval 2 69 v3 (by rw[Tryz.params8]; rfl) rfl) h3
 obtain⟨x24,x25,r4,b4⟩:=Hu (hval 3 33 v4 (by rw[Tryz.params8]; rfl) rfl) h4
 obtain⟨x26,x27,r5,b5⟩:=Gp (hval 4 30 v5 (by rw[Tryz.params8]; rfl) rfl) h5
 have w:∀{q:Int},(-9223372036854775808≤q∧q≤9223372036854775807)→fQ q:=fun h=>by unfold fQ; omega
 have hF:=CM 300 (raw:=l1) (fun q hq=>⟨w (b1 q hq).1,w (b1 q hq).2⟩) (l:=l5) (x5:=x9) (x6:=x10) (x7:=x11) ⟨b2_l,b2_x,b2_y,b2_s⟩ x12 x13 (w1:=x14) (w2:=x19) (b1:=⟨b3.1.1,b3.1.2.1,w b3.1.2.2.1,w b3.1.2.2.2⟩) (b2:=⟨b3.2.1,b3.2.2.1,w b3.2.2.2.1,w b3.2.2.2.2⟩) (px:=x24) (py:=x25) (u:=x26) (v:=x27) (w b4.1) (w b4.2) (by decide)
 exact yI (fn:=Tryz.f8) (tb:=4) rfl rfl (by kernel_rfl) (by kernel_rfl) (by kernel_rfl) (by rw[Tryz.params8]; decide +kernel) rfl hW' (.cons r1 (.cons r2 (.cons r3 (.cons r4 (.cons r5 (.nil _))))))
  (GN 300 l1 l5 x9 x10 x11 x12 x13 x14 x15 x16 x17 x18 x19 x20 x21 x22 x23 x24 x25 x26 x27 a2 c3 a6 c7 true hF (dY W) m1 m2)
theorem ringMeasures_said:Rows.RingMeasuresSaid :=
 OpenClaim.holds_of_wide 8 Tryz.f8 rfl rfl rfl rfl rfl rfl rfl ⟨rfl,rfl,rfl,rfl,rfl⟩ rfl rfl rfl rfl rfl (by kernel_rfl) Tryz.func8 (by kernel_rfl)
  (of_decide_eq_true (by kernel_rfl)) (by unfold Func.isWrapper; first | (rw[if_pos (by decide +kernel)]; kernel_rfl) | (rw[if_neg (by decide +kernel)]; exact⟨rfl,rfl⟩))
  (fun os started H enc _=>jQ os started H enc)
#print axioms ringMeasures_said
end Go.Proofs.YthmekkhpddehjaaGreat
