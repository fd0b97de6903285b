/- RingLengths returns true for every list of points, draft and pair of changes: its walk by the abstract machine, which is proved to follow the model, comes to a plain Lean function, and that is true (a perimeter is a sum of roots with squarefree radicands, and that form is unique); works() is evaluated once, where a map's keys come sorted by the library's contract. Conditions: none beyond those of the row. -/
import Derived.Test.YthmekkhpddehjaaGreatRl8
namespace Go.Proofs.YthmekkhpddehjaaGreat
set_option maxRecDepth 100000
open Go Go.ChangeShapes Go.WideShapes Go.ChangeAt Go.WideMaps Go.WideElems Go.RowKit Go.Ab Go.Ab.W
abbrev pL:SD Rx:=#[.slice none 0 0,.agg #[.slice none 0 0,.int .i16 0,.int .i16 0,.int .u8 0,.bool false,.bool false],.agg #[.int .u8 0,.int .u8 0,.int .u8 0,.int .i64 0,.int .i64 0,.int .u8 0,.int .u8 0,.int .u8 0,.int .i64 0,.int .i64 0]]
theorem lP(os:Os)(started:os.Started)(H:Type)(enc:Ry×Rx->H) :
  ReturnsInHanded {} Tryz.checked os 9 .any (Rows.ringLengthsSpec.pre6 enc Tryz.prog Tryz.f9 [] false) (Rows.ringLengthsSpec.post enc Tryz.prog Tryz.f9 false true false false):=by
 refine returnsInHanded_of_change_shaped (C:=Tryz.checked) Mb started (by kernel_rfl) Tryz.func9
  (ChangeSpec.witness6 (enc:=enc) (C:=Tryz.checked) (os:=os) false ⟨#[],pL,[]⟩ 8 (by kernel_rfl) (by kernel_rfl) (by kernel_rfl) (by kernel_rfl)) ?_
 intro W base args ds gs before hval hW _ _ hS _;have hs:=Fc hS;have hW':=hW;obtain⟨p,q,hA,hV,_⟩:=hW;obtain⟨rfl,_⟩:=trodVars_none hV;have hA:DataW.TrodAll enc Tryz.prog W 0 (fun _=>true) true Tryz.f9.params.toList args.toList ds p:=hA;rw[Tryz.params9] at hA;obtain⟨v1,w1,d1,e1,p1,q1,hargs1,rfl,rfl,h1,g1⟩:=trodAll_cons hA;obtain⟨v2,w2,d2,e2,p2,q2,hargs2,rfl,rfl,h2,g2⟩:=trodAll_cons g1;obtain⟨v3,w3,d3,e3,p3,q3,hargs3,rfl,rfl,h3,g3⟩:=trodAll_cons g2;obtain⟨hnil,rfl,rfl⟩:=trodAll_nil g3;have hargs:args=#[v1,v2,v3]:=by apply Ql.1; rw[hargs1,hargs2,hargs3,hnil]
 subst hargs;obtain⟨l1,a2,c3,r1,b1,b1_n,m1⟩:=Nq (hval 0 34 v1 (by rw[Tryz.params9]; rfl) rfl) hs h1
 obtain⟨l5,a6,c7,x9,x10,x11,x12,x13,r2,b2_l,b2_x,b2_y,b2_s,m2⟩:=MJ (hval 1 28 v2 (by rw[Tryz.params9]; rfl) rfl) hs h2
 obtain⟨x14,x15,x16,x17,x18,x19,x20,x21,x22,x23,r3,b3⟩:=NF (hval 2 69 v3 (by rw[Tryz.params9]; rfl) rfl) h3
 have w:∀{q:Int},(-9223372036854775808<=q/\q<=9223372036854775807)->j4 q:=fun h=>by unfold j4; omega
 have hF:=Iv 30000 (raw:=l1) (fun q hq=>⟨w (b1 q hq).1,w (b1 q hq).2⟩) (l:=l5) (x5:=x9) (x6:=x10) (x7:=x11) ⟨b2_l,b2_x,b2_y,b2_s⟩ x12 x13 (w1:=x14) (w2:=x19) (b1:=⟨b3.1.1,b3.1.2.1,w b3.1.2.2.1,w b3.1.2.2.2⟩) (b2:=⟨b3.2.1,b3.2.2.1,w b3.2.2.2.1,w b3.2.2.2.2⟩) (by decide)
 exact CV (fn:=Tryz.f9) (tb:=4) rfl rfl (by kernel_rfl) (by kernel_rfl) (by kernel_rfl) (by rw[Tryz.params9]; decide +kernel) rfl hW' (.cons r1 (.cons r2 (.cons r3 (.nil _))))
  (Nz 30000 l1 l5 x9 x10 x11 x12 x13 x14 x15 x16 x17 x18 x19 x20 x21 x22 x23 a2 c3 a6 c7 true hF (eF W) m1 m2)
theorem ringLengths_said:Rows.RingLengthsSaid :=
 OpenClaim.holds_of_wide 9 Tryz.f9 rfl rfl rfl rfl rfl rfl rfl ⟨rfl,rfl,rfl,rfl,rfl⟩ rfl rfl rfl rfl rfl (by kernel_rfl) Tryz.func9 (by kernel_rfl)
  (of_decide_eq_true (by kernel_rfl)) (by unfold Func.isWrapper; first |(rw[Ph (by decide +kernel)]; kernel_rfl) |(rw[Pb (by decide +kernel)]; exact⟨rfl,rfl⟩))
  (fun os started H enc _=>lP os started H enc)
#print axioms ringLengths_said
end Go.Proofs.YthmekkhpddehjaaGreat
