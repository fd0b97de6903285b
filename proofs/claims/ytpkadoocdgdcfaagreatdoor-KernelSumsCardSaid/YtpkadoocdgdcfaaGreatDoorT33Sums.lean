/- KernelSums returns true for every draft of a kernel and all numbers of steps: its walk by the abstract machine, which is proved to follow the model, comes to a plain Lean function, and that is true (shares are fractions in lowest terms, which are exact; steps of a kernel are linear). Conditions: none beyond the statement's own. -/
import Derived.Test.YtpkadoocdgdcfaaGreatDoorKs8
set_option linter.all false
namespace Go.Proofs.YtpkadoocdgdcfaaGreatDoor
set_option maxRecDepth 100000
open Go Go.ChangeShapes Go.WideShapes Go.ChangeAt Go.WideMaps Go.WideElems Go.RowKit Go.Ab Go.Ab.W
abbrev qR:PO ON:=#[.agg #[.int .u8 0,.slice none 0 0],.int .u8 0,.int .u8 0]
theorem mH(os:Os)(started:os.Started)(H:Type)(enc:OO×ON->H) :
  ReturnsInHanded {} Tryz.checked os 10 .any (fun w args=>(Rows.kernelSumsSpec.pre enc Tryz.prog Tryz.f10 [] false w args/\laidMetH Tryz.prog qc w)/\sizedMet enc Tryz.prog Tryz.f10 (OpenSpec.ofChange Rows.kernelSumsSpec) false w args)
   (Rows.kernelSumsSpec.post enc Tryz.prog Tryz.f10 false true false false):=by
 refine returnsInHanded_of_change_and (C:=Tryz.checked) (X:=fun w _=>laidMetH Tryz.prog qc w) (fun _ _ _ hh h=>h.of_heap hh) Ks started (by kernel_rfl) Tryz.func10
  (ChangeSpec.witness_shaped (enc:=enc) (C:=Tryz.checked) (os:=os) (X:=fun w _=>laidMetH Tryz.prog qc w) false (World.doorLaid Tryz.prog 400 os) qR 8 rfl (World.shaped_of_RefB (by kernel_rfl) (by kernel_rfl)) (by kernel_rfl) (by kernel_rfl) (by kernel_rfl) (zI os _)) ?_
 intro W base args ds gs before hval hW _ _ hL _;obtain⟨hG,hs⟩:=Jq hL;have hW':=hW;obtain⟨p,q,hA,hV,_⟩:=hW;obtain⟨rfl,_⟩:=trodVars_none hV;have hA:DataW.TrodAll enc Tryz.prog W 0 (fun _=>true) true Tryz.f10.params.toList args.toList ds p:=hA;rw[Tryz.params10] at hA;obtain⟨v1,v2,v3,d1,d2,d3,p1,p2,p3,rfl,rfl,_,h1,h2,h3⟩:=trodAll_three hA;obtain⟨x1,l2,a3,c4,r1,b1_1,b1_2,b1_3,m1⟩:=Lp (hval 0 61 v1 (by rw[Tryz.params10]; rfl) rfl) hs h1
 obtain⟨x6,rfl,b2_1⟩:=KH (hval 1 5 v2 (by rw[Tryz.params10]; rfl) rfl) h2
 obtain⟨x7,rfl,b3_1⟩:=KH (hval 2 5 v3 (by rw[Tryz.params10]; rfl) rfl) h3
 have hF:=CN IG x1 l2 x6 x7 Fw;exact BQ (fn:=Tryz.f10) (tb:=4) rfl rfl (by kernel_rfl) (by kernel_rfl) (by kernel_rfl) (by rw[Tryz.params10]; decide +kernel) rfl hW' hs (.cons r1 (.cons (.int _ _) (.cons (.int _ _) (.nil _))))
  (Jt IG x1 l2 x6 x7 a3 c4 true hF (eG W) hG m1)
theorem ph:Rows.KernelSumsSaid :=
 OpenClaim.holds_of_wide 10 Tryz.f10 rfl rfl rfl rfl rfl rfl rfl ⟨rfl,rfl,rfl,rfl,rfl⟩ rfl rfl rfl rfl rfl (by kernel_rfl) Tryz.func10 C5
  (of_decide_eq_true (by kernel_rfl)) (by unfold Func.isWrapper; first |(rw[MG (by decide +kernel)]; kernel_rfl) |(rw[ME (by decide +kernel)]; exact⟨rfl,rfl⟩))
  (fun os started H enc _=>mH os started H enc)
theorem kernelSums_card:Rows.KernelSumsCardSaid :=
 Claim7.holds_tied_plain_at .later [] [.data] true (true, "7ed4efec7082863ae92dc7b4ea49dae50f3f88a22c1d752c4aaf162593c22787") false
  ph (fun _ h=>by cases h) (by kernel_rfl) (fun _ h=>by cases h) kernelSums_row_tie rfl ⟨rfl,rfl⟩ (by kernel_rfl) rfl
  (fun f fn hf hfn=>by
   obtain rfl : f = 10 := MH ((show Tryz.prog.funcNamed "wardmote/wardmotelaw33.KernelSums" = some 10 by kernel_rfl).symm.trans hf) |>.symm
   obtain rfl:fn=Tryz.f10:=(MH (Tryz.func10.symm.trans hfn)).symm;exact⟨Gs,fun j t ht=>by
    rw[Tryz.params10] at ht;have h3:t ∈([61,5,5]:PM Nat):=by
     rcases j with _|_|_|j
     have:t=61:=by simpa using ht.symm
     subst this; decide
     have:t=5:=by simpa using ht.symm
     subst this; decide
     have:t=5:=by simpa using ht.symm
     subst this; decide
     simp at ht
    simp only[M0,List.not_mem_nil,or_false] at h3;rcases h3 with rfl|rfl|rfl
    exact(show Tryz.prog.wantsStandIn 61=false by kernel_rfl)
    exact(show Tryz.prog.wantsStandIn 5=false by kernel_rfl)
    exact(show Tryz.prog.wantsStandIn 5=false by kernel_rfl)
    ⟩)
  FV
#print axioms kernelSums_card
end Go.Proofs.YtpkadoocdgdcfaaGreatDoor
