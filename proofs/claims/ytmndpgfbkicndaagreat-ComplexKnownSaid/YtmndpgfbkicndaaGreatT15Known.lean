/- Chapter 15: ComplexKnown (function 3) returns true. -/
import Derived.Test.YtmndpgfbkicndaaGreatCk8
namespace Go.Proofs.YtmndpgfbkicndaaGreat
set_option maxRecDepth 100000
open Go Go.ChangeShapes Go.WideShapes Go.ChangeAt Go.WideMaps Go.WideElems Go.RowKit Go.Ab Go.Ab.W

abbrev jQ:Array Value:=#[]
theorem iP (os:Os) (started:os.Started) (H:Type) (enc:TypeId × Value→H) :
  ReturnsInHanded {} Tryz.checked os 3 .any (Rows.complexKnownSpec.pre6 enc Tryz.prog Tryz.f3 [] false) (Rows.complexKnownSpec.post enc Tryz.prog Tryz.f3 false true false false):=by
 refine returnsInHanded_of_change_shaped (C:=Tryz.checked) yO started (by kernel_rfl) Tryz.func3
  (ChangeSpec.witness6 (enc:=enc) (C:=Tryz.checked) (os:=os) false ⟨#[],jQ,[]⟩ 8 (by kernel_rfl) (by kernel_rfl) (by kernel_rfl) (by kernel_rfl)) ?_
 intro W base args ds gs before hval hW _ _ hS _;have hs:=sP hS;have hW':=hW;obtain⟨p,q,hA,hV,_⟩:=hW;obtain⟨rfl,_⟩:=trodVars_none hV;have hA:DataW.TrodAll enc Tryz.prog W 0 (fun _=>true) true Tryz.f3.params.toList args.toList ds p:=hA;rw[Tryz.params3] at hA;obtain⟨ha,rfl,rfl⟩:=trodAll_nil hA;obtain rfl:args=#[]:=by apply Array.toList_inj.1; exact ha
 have hF:F3 30000=some true:=vd;exact rH (fn:=Tryz.f3) (tb:=4) rfl rfl (by kernel_rfl) (by kernel_rfl) (by kernel_rfl) (by rw[Tryz.params3]; decide +kernel) rfl hW' (.nil _)
  (yU 30000   true hF (fx W))
theorem complexKnown_said:Rows.ComplexKnownSaid :=
 OpenClaim.holds_of_wide 3 Tryz.f3 rfl rfl rfl rfl rfl rfl rfl ⟨rfl,rfl,rfl,rfl,rfl⟩ rfl rfl rfl rfl rfl (by kernel_rfl) Tryz.func3 (by kernel_rfl)
  (of_decide_eq_true (by kernel_rfl)) (by unfold Func.isWrapper; first | (rw[if_pos (by decide +kernel)]; kernel_rfl) | (rw[if_neg (by decide +kernel)]; exact⟨rfl,rfl⟩))
  (fun os started H enc _=>iP os started H enc)
#print axioms complexKnown_said
end Go.Proofs.YtmndpgfbkicndaaGreat
