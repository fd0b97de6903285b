/- Chapter 14: RingPick (function 4) returns true for all arguments. -/
import Derived.Test.YthmekkhpddehjaaGreatRp7
namespace Go.Proofs.YthmekkhpddehjaaGreat
set_option maxRecDepth 100000
open Go Go.ChangeShapes Go.WideShapes Go.ChangeAt Go.WideMaps Go.WideElems Go.RowKit Go.Ab Go.Ab.W

abbrev tq:Array Value:=#[.agg #[.slice none 0 0,.int .i16 0,.int .i16 0,.int .u8 0,.bool false,.bool false]]
theorem nP (os:Os) (started:os.Started) (H:Type) (enc:TypeId × Value→H) :
  ReturnsInHanded {} Tryz.checked os 4 .any (Rows.ringPickSpec.pre6 enc Tryz.prog Tryz.f4 [] false) (Rows.ringPickSpec.post enc Tryz.prog Tryz.f4 false true false false):=by
 refine returnsInHanded_of_change_shaped (C:=Tryz.checked) HD started (by kernel_rfl) Tryz.func4
  (ChangeSpec.witness6 (enc:=enc) (C:=Tryz.checked) (os:=os) false ⟨#[],tq,[]⟩ 8 (by kernel_rfl) (by kernel_rfl) (by kernel_rfl) (by kernel_rfl)) ?_
 intro W base args ds gs before hval hW _ _ hS _;have hs:=Cy hS;have hW':=hW;obtain⟨p,q,hA,hV,_⟩:=hW;obtain⟨rfl,_⟩:=trodVars_none hV;have hA:DataW.TrodAll enc Tryz.prog W 0 (fun _=>true) true Tryz.f4.params.toList args.toList ds p:=hA;rw[Tryz.params4] at hA;obtain⟨v1,w1,d1,e1,p1,q1,hargs1,rfl,rfl,h1,g1⟩:=trodAll_cons hA;obtain⟨hnil,rfl,rfl⟩:=trodAll_nil g1;have hargs:args=#[v1]:=by apply Array.toList_inj.1; rw[hargs1,hnil]
 subst hargs;obtain⟨l1,a2,c3,x5,x6,x7,x8,x9,r1,b1_l,b1_x,b1_y,b1_s,m1⟩:=Hm (hval 0 28 v1 (by rw[Tryz.params4]; rfl) rfl) hs h1
 have hF:=EE 600 (l:=l1) (x5:=x5) (x6:=x6) (x7:=x7) ⟨b1_l,b1_x,b1_y,b1_s⟩ x8 x9 (by decide)
 exact Ap (fn:=Tryz.f4) (tb:=4) rfl rfl (by kernel_rfl) (by kernel_rfl) (by kernel_rfl) (by rw[Tryz.params4]; decide +kernel) rfl hW' (.cons r1 (.nil _))
  (H7 600 l1 x5 x6 x7 x8 x9 a2 c3 true hF (eB W) m1)
theorem ringPick_said:Rows.RingPickSaid :=
 OpenClaim.holds_of_wide 4 Tryz.f4 rfl rfl rfl rfl rfl rfl rfl ⟨rfl,rfl,rfl,rfl,rfl⟩ rfl rfl rfl rfl rfl (by kernel_rfl) Tryz.func4 (by kernel_rfl)
  (of_decide_eq_true (by kernel_rfl)) (by unfold Func.isWrapper; first | (rw[if_pos (by decide +kernel)]; kernel_rfl) | (rw[if_neg (by decide +kernel)]; exact⟨rfl,rfl⟩))
  (fun os started H enc _=>nP os started H enc)
#print axioms ringPick_said
end Go.Proofs.YthmekkhpddehjaaGreat
