/- KernelClasses returns true for every draft of a kernel: its walk by the abstract machine, which is proved to follow the model, comes to a plain Lean function, and that is true (Warshall's closure over bits is what can be reached; classes are numbered by their first states). Conditions: none beyond the statement's own. -/
import Derived.Test.YtpkadoocdgdcfaaGreatDoorKc7
set_option linter.all false
namespace Go.Proofs.YtpkadoocdgdcfaaGreatDoor
set_option maxRecDepth 100000
open Go Go.ChangeShapes Go.WideShapes Go.ChangeAt Go.WideMaps Go.WideElems Go.RowKit Go.Ab Go.Ab.W

abbrev mX:Array Value:=#[.agg #[.int .u8 0,.slice none 0 0]]
theorem kK (os:Os) (started:os.Started) (H:Type) (enc:TypeId × Value→H) :
  ReturnsInHanded {} Tryz.checked os 4 .any (fun w args=>(Rows.kernelClassesSpec.pre enc Tryz.prog Tryz.f4 [] false w args∧laidMetH Tryz.prog pB w)∧sizedMet enc Tryz.prog Tryz.f4 (OpenSpec.ofChange Rows.kernelClassesSpec) false w args)
   (Rows.kernelClassesSpec.post enc Tryz.prog Tryz.f4 false true false false):=by
 refine returnsInHanded_of_change_and (C:=Tryz.checked) (X:=fun w _=>laidMetH Tryz.prog pB w) (fun _ _ _ hh h=>h.of_heap hh) Jw started (by kernel_rfl) Tryz.func4
  (ChangeSpec.witness_shaped (enc:=enc) (C:=Tryz.checked) (os:=os) (X:=fun w _=>laidMetH Tryz.prog pB w) false (World.doorLaid Tryz.prog 400 os) mX 8 rfl (World.shaped_of_RefB (by kernel_rfl) (by kernel_rfl)) (by kernel_rfl) (by kernel_rfl) (by kernel_rfl) (w5 os _)) ?_
 intro W base args ds gs before hval hW _ _ hL _;obtain⟨hG,hs⟩:=G1 hL;have hW':=hW;obtain⟨p,q,hA,hV,_⟩:=hW;obtain⟨rfl,_⟩:=trodVars_none hV;have hA:DataW.TrodAll enc Tryz.prog W 0 (fun _=>true) true Tryz.f4.params.toList args.toList ds p:=hA;rw[Tryz.params4] at hA;obtain⟨v1,d1,rfl,rfl,h1⟩:=trodAll_one hA;obtain⟨x1,l2,a3,c4,r1,b1_1,b1_2,b1_3,m1⟩:=JJ (hval 0 61 v1 (by rw[Tryz.params4]; rfl) rfl) hs h1
 have hF:=E9 1606938044258990275541962092341162602522202993782792835301377 x1 l2 (by decide)
 exact zY (fn:=Tryz.f4) (tb:=4) rfl rfl (by kernel_rfl) (by kernel_rfl) (by kernel_rfl) (by rw[Tryz.params4]; decide +kernel) rfl hW' hs (.cons r1 (.nil _))
  (Jj 1606938044258990275541962092341162602522202993782792835301377 x1 l2 a3 c4 true hF (eK W) hG m1)
theorem mg:Rows.KernelClassesSaid :=
 OpenClaim.holds_of_wide 4 Tryz.f4 rfl rfl rfl rfl rfl rfl rfl ⟨rfl,rfl,rfl,rfl,rfl⟩ rfl rfl rfl rfl rfl (by kernel_rfl) Tryz.func4 EA
  (of_decide_eq_true (by kernel_rfl)) (by unfold Func.isWrapper; first | (rw[if_pos (by decide +kernel)]; kernel_rfl) | (rw[if_neg (by decide +kernel)]; exact⟨rfl,rfl⟩))
  (fun os started H enc _=>kK os started H enc)
theorem kernelClasses_card:Rows.KernelClassesCardSaid :=
 Claim7.holds_tied_plain_at .later [] [.data] true (true, "7ed4efec7082863ae92dc7b4ea49dae50f3f88a22c1d752c4aaf162593c22787") false
  mg (fun _ h=>by cases h) (by kernel_rfl) (fun _ h=>by cases h) kernelClasses_row_tie rfl ⟨rfl,rfl⟩ (by kernel_rfl) rfl
  (fun f fn hf hfn=>by
   obtain rfl : f = 4 := Option.some.inj ((show Tryz.prog.funcNamed "wardmote/wardmotelaw33.KernelClasses" = some 4 by kernel_rfl).symm.trans hf) |>.symm
   obtain rfl:fn=Tryz.f4:=(Option.some.inj (Tryz.func4.symm.trans hfn)).symm;exact⟨Il,fun j t ht=>by
    rw[Tryz.params4] at ht;have h3:t ∈ ([61]:List Nat):=by
     rcases j with _|j
     ·have:t=61:=by simpa using ht.symm
      subst this; decide
     ·simp at ht
    simp only[List.mem_cons,List.not_mem_nil,or_false] at h3;rcases h3 with rfl
    ·exact(show Tryz.prog.wantsStandIn 61=false by kernel_rfl)
    ⟩)
  GG
#print axioms kernelClasses_card
end Go.Proofs.YtpkadoocdgdcfaaGreatDoor
