/- Chapter 30: the call TreesKnown() returns true; no condition. -/
import Derived.Test.YtookeaakpiefjaaDoorTk7
namespace Go.Proofs.YtookeaakpiefjaaDoor
set_option maxRecDepth 100000
open Go Go.ChangeShapes Go.WideShapes Go.ChangeAt Go.WideMaps Go.WideElems Go.RowKit Go.Ab Go.Ab.W

abbrev qq:Array Value:=#[]
theorem mG (os:Os) (started:os.Started) (H:Type) (enc:TypeId × Value→H) :
  ReturnsInHanded {} Tryd.checked os 5 .any (fun w args=>(Rows.treesKnownSpec.pre enc Tryd.prog Tryd.f5 [] false w args∧laidMetH Tryd.prog pj w)∧sizedMet enc Tryd.prog Tryd.f5 (OpenSpec.ofChange Rows.treesKnownSpec) false w args)
   (Rows.treesKnownSpec.post enc Tryd.prog Tryd.f5 false true false false):=by
 refine returnsInHanded_of_change_and (C:=Tryd.checked) (X:=fun w _=>laidMetH Tryd.prog pj w) (fun _ _ _ hh h=>h.of_heap hh) Jl started (by kernel_rfl) Tryd.func5
  (ChangeSpec.witness_shaped (enc:=enc) (C:=Tryd.checked) (os:=os) (X:=fun w _=>laidMetH Tryd.prog pj w) false (World.doorLaid Tryd.prog 400 os) qq 8 rfl (World.shaped_of_RefB (by kernel_rfl) (by kernel_rfl)) (by kernel_rfl) (by kernel_rfl) (by kernel_rfl) (xu os _)) ?_
 intro W base args ds gs before hval hW _ _ hL _;obtain⟨hG,hs⟩:=HG hL;have hW':=hW;obtain⟨p,q,hA,hV,_⟩:=hW;obtain⟨rfl,_⟩:=trodVars_none hV;have hA:DataW.TrodAll enc Tryd.prog W 0 (fun _=>true) true Tryd.f5.params.toList args.toList ds p:=hA;rw[Tryd.params5] at hA;obtain⟨ha,rfl,rfl⟩:=trodAll_nil hA;obtain rfl:args=#[]:=by apply Array.toList_inj.1; exact ha
 have hF:=E9;exact Al (fn:=Tryd.f5) (tb:=4) rfl rfl (by kernel_rfl) (by kernel_rfl) (by kernel_rfl) (by rw[Tryd.params5]; decide +kernel) rfl hW' hs (.nil _)
  (Jr 2000   true hF (fh W) hG)
theorem treesKnown_said:Rows.TreesKnownSaid :=
 OpenClaim.holds_of_wide 5 Tryd.f5 rfl rfl rfl rfl rfl rfl rfl ⟨rfl,rfl,rfl,rfl,rfl⟩ rfl rfl rfl rfl rfl (by kernel_rfl) Tryd.func5 (by kernel_rfl)
  (of_decide_eq_true (by kernel_rfl)) (by unfold Func.isWrapper; first | (rw[if_pos (by decide +kernel)]; kernel_rfl) | (rw[if_neg (by decide +kernel)]; exact⟨rfl,rfl⟩))
  (fun os started H enc _=>mG os started H enc)
theorem treesKnown_card:Rows.TreesKnownCardSaid :=
 Claim7.holds_tied_plain_at .later [] [.data] true (true, "fe0425c8b9ab35d353fcad2463514087474ca18f9c5000a39413c419cfe71391") false
  treesKnown_said (fun _ h=>by cases h) (by kernel_rfl) (fun _ h=>by cases h) treesKnown_row_tie rfl ⟨rfl,rfl⟩ (by kernel_rfl) rfl
  (fun f fn hf hfn=>by
   obtain rfl : f = 5 := Option.some.inj ((show Tryd.prog.funcNamed "wardmote/wardmotelaw30.TreesKnown" = some 5 by kernel_rfl).symm.trans hf) |>.symm
   obtain rfl:fn=Tryd.f5:=(Option.some.inj (Tryd.func5.symm.trans hfn)).symm;exact⟨by kernel_rfl,fun j t ht=>by rw[Tryd.params5] at ht; simp at ht⟩)
  (by kernel_rfl)
#print axioms treesKnown_card
end Go.Proofs.YtookeaakpiefjaaDoor
