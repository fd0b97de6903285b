/- Chapter 14: RingKnown (function 7) returns true. -/
import Derived.Test.YthmekkhpddehjaaGreatRk7
namespace Go.Proofs.YthmekkhpddehjaaGreat
set_option maxRecDepth 100000
open Go Go.ChangeShapes Go.WideShapes Go.ChangeAt Go.WideMaps Go.WideElems Go.RowKit Go.Ab Go.Ab.W

abbrev oV:Array Value:=#[]
theorem kU (os:Os) (started:os.Started) (H:Type) (enc:TypeId × Value→H) :
  ReturnsInHanded {} Tryz.checked os 7 .any (Rows.ringKnownSpec.pre6 enc Tryz.prog Tryz.f7 [] false) (Rows.ringKnownSpec.post enc Tryz.prog Tryz.f7 false true false false):=by
 refine returnsInHanded_of_change_shaped (C:=Tryz.checked) D8 started (by kernel_rfl) Tryz.func7
  (ChangeSpec.witness6 (enc:=enc) (C:=Tryz.checked) (os:=os) false ⟨#[],oV,[]⟩ 8 (by kernel_rfl) (by kernel_rfl) (by kernel_rfl) (by kernel_rfl)) ?_
 intro W base args ds gs before hval hW _ _ hS _;have hs:=xF hS;have hW':=hW;obtain⟨p,q,hA,hV,_⟩:=hW;obtain⟨rfl,_⟩:=trodVars_none hV;have hA:DataW.TrodAll enc Tryz.prog W 0 (fun _=>true) true Tryz.f7.params.toList args.toList ds p:=hA;rw[Tryz.params7] at hA;obtain⟨ha,rfl,rfl⟩:=trodAll_nil hA;obtain rfl:args=#[]:=by apply Array.toList_inj.1; exact ha
 have hF:F7 30000=some true:=zF;exact vo (fn:=Tryz.f7) (tb:=4) rfl rfl (by kernel_rfl) (by kernel_rfl) (by kernel_rfl) (by rw[Tryz.params7]; decide +kernel) rfl hW' (.nil _)
  (Dz 30000   true hF (fJ W))
theorem ringKnown_said:Rows.RingKnownSaid :=
 OpenClaim.holds_of_wide 7 Tryz.f7 rfl rfl rfl rfl rfl rfl rfl ⟨rfl,rfl,rfl,rfl,rfl⟩ rfl rfl rfl rfl rfl (by kernel_rfl) Tryz.func7 (by kernel_rfl)
  (of_decide_eq_true (by kernel_rfl)) (by unfold Func.isWrapper; first | (rw[if_pos (by decide +kernel)]; kernel_rfl) | (rw[if_neg (by decide +kernel)]; exact⟨rfl,rfl⟩))
  (fun os started H enc _=>kU os started H enc)
#print axioms ringKnown_said
end Go.Proofs.YthmekkhpddehjaaGreat
