/- Chapter 14: RingHolds (function 5) returns true for all arguments. -/
import Derived.Test.YthmekkhpddehjaaGreatRo6
namespace Go.Proofs.YthmekkhpddehjaaGreat
set_option maxRecDepth 100000
open Go Go.ChangeShapes Go.WideShapes Go.ChangeAt Go.WideMaps Go.WideElems Go.RowKit Go.Ab Go.Ab.W

abbrev o6:Array Value:=#[.slice none 0 0,.int .u8 0]
theorem lE (os:Os) (started:os.Started) (H:Type) (enc:TypeId × Value→H) :
  ReturnsInHanded {} Tryz.checked os 5 .any (Rows.ringHoldsSpec.pre6 enc Tryz.prog Tryz.f5 [] false) (Rows.ringHoldsSpec.post enc Tryz.prog Tryz.f5 false true false false):=by
 refine returnsInHanded_of_change_shaped (C:=Tryz.checked) Fp started (by kernel_rfl) Tryz.func5
  (ChangeSpec.witness6 (enc:=enc) (C:=Tryz.checked) (os:=os) false ⟨#[],o6,[]⟩ 8 (by kernel_rfl) (by kernel_rfl) (by kernel_rfl) (by kernel_rfl)) ?_
 intro W base args ds gs before hval hW _ _ hS _;have hs:=y7 hS;have hW':=hW;obtain⟨p,q,hA,hV,_⟩:=hW;obtain⟨rfl,_⟩:=trodVars_none hV;have hA:DataW.TrodAll enc Tryz.prog W 0 (fun _=>true) true Tryz.f5.params.toList args.toList ds p:=hA;rw[Tryz.params5] at hA;obtain⟨v1,w1,d1,e1,p1,q1,hargs1,rfl,rfl,h1,g1⟩:=trodAll_cons hA;obtain⟨v2,w2,d2,e2,p2,q2,hargs2,rfl,rfl,h2,g2⟩:=trodAll_cons g1;obtain⟨hnil,rfl,rfl⟩:=trodAll_nil g2;have hargs:args=#[v1,v2]:=by apply Array.toList_inj.1; rw[hargs1,hargs2,hnil]
 subst hargs;obtain⟨l1,a2,c3,r1,b1,b1_n,m1⟩:=EI (hval 0 23 v1 (by rw[Tryz.params5]; rfl) rfl) hs h1
 obtain⟨x5,rfl,b2⟩:=GG (hval 1 5 v2 (by rw[Tryz.params5]; rfl) rfl) h2
 have hF:=Bi 600 (l1:=l1) b1 (x5:=x5) b2 (by decide)
 exact xc (fn:=Tryz.f5) (tb:=4) rfl rfl (by kernel_rfl) (by kernel_rfl) (by kernel_rfl) (by rw[Tryz.params5]; decide +kernel) rfl hW' (.cons r1 (.cons (.int _ _) (.nil _)))
  (EL 600 l1 x5 a2 c3 true hF (ec W) m1)
theorem ringHolds_said:Rows.RingHoldsSaid :=
 OpenClaim.holds_of_wide 5 Tryz.f5 rfl rfl rfl rfl rfl rfl rfl ⟨rfl,rfl,rfl,rfl,rfl⟩ rfl rfl rfl rfl rfl (by kernel_rfl) Tryz.func5 (by kernel_rfl)
  (of_decide_eq_true (by kernel_rfl)) (by unfold Func.isWrapper; first | (rw[if_pos (by decide +kernel)]; kernel_rfl) | (rw[if_neg (by decide +kernel)]; exact⟨rfl,rfl⟩))
  (fun os started H enc _=>lE os started H enc)
#print axioms ringHolds_said
end Go.Proofs.YthmekkhpddehjaaGreat
