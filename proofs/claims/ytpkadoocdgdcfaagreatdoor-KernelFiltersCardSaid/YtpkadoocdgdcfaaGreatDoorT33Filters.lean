/- KernelFilters returns true for every draft of a kernel and all weights: its walk by the abstract machine, which is proved to follow the model, comes to a plain Lean function, and that is true (shares are fractions in lowest terms, which are exact; filtering makes a kernel reversible). Conditions: none beyond the statement's own. -/
import Derived.Test.YtpkadoocdgdcfaaGreatDoorKf9
namespace Go.Proofs.YtpkadoocdgdcfaaGreatDoor
set_option maxRecDepth 100000
open Go Go.ChangeShapes Go.WideShapes Go.ChangeAt Go.WideMaps Go.WideElems Go.RowKit Go.Ab Go.Ab.W
abbrev nG:RU QP:=#[.agg #[.int .u8 0,.slice none 0 0],.agg #[.int .u8 0,.slice none 0 0]]
theorem kX(os:Os)(started:os.Started)(H:Type)(enc:QQ×QP->H) :
  ReturnsInHanded {} Tryz.checked os 7 .any (fun w args=>(Rows.kernelFiltersSpec.pre enc Tryz.prog Tryz.f7 [] false w args/\laidMetH Tryz.prog qS w)/\sizedMet enc Tryz.prog Tryz.f7 (OpenSpec.ofChange Rows.kernelFiltersSpec) false w args)
   (Rows.kernelFiltersSpec.post enc Tryz.prog Tryz.f7 false true false false):=by
 refine returnsInHanded_of_change_and (C:=Tryz.checked) (X:=fun w _=>laidMetH Tryz.prog qS w) (fun _ _ _ hh h=>h.of_heap hh) My started (by kernel_rfl) Tryz.func7
  (ChangeSpec.witness_shaped (enc:=enc) (C:=Tryz.checked) (os:=os) (X:=fun w _=>laidMetH Tryz.prog qS w) false (World.doorLaid Tryz.prog 400 os) nG 8 rfl (World.shaped_of_RefB (by kernel_rfl) (by kernel_rfl)) (by kernel_rfl) (by kernel_rfl) (by kernel_rfl) (zm os _)) ?_
 intro W base args ds gs before hval hW _ _ hL _;obtain⟨hG,hs⟩:=KI hL;have hW':=hW;obtain⟨p,q,hA,hV,_⟩:=hW;obtain⟨rfl,_⟩:=trodVars_none hV;have hA:DataW.TrodAll enc Tryz.prog W 0 (fun _=>true) true Tryz.f7.params.toList args.toList ds p:=hA;rw[Tryz.params7] at hA;obtain⟨v1,v2,d1,d2,p1,p2,rfl,rfl,_,h1,h2⟩:=trodAll_two hA;obtain⟨x1,l2,a3,c4,r1,b1_1,b1_2,b1_3,m1⟩:=J9 (hval 0 61 v1 (by rw[Tryz.params7]; rfl) rfl) hs h1
 obtain⟨x6,l7,a8,c9,r2,b2_1,b2_2,b2_3,m2⟩:=J9 (hval 1 61 v2 (by rw[Tryz.params7]; rfl) rfl) hs h2
 have hF:=G6 LP x1 l2 x6 l7 Hm;exact Dj (fn:=Tryz.f7) (tb:=4) rfl rfl (by kernel_rfl) (by kernel_rfl) (by kernel_rfl) (by rw[Tryz.params7]; decide +kernel) rfl hW' hs (.cons r1 (.cons r2 (.nil _)))
  (MF LP x1 l2 x6 l7 a3 c4 a8 c9 true hF (eZ W) hG m1 m2)
theorem nk:Rows.KernelFiltersSaid :=
 OpenClaim.holds_of_wide 7 Tryz.f7 rfl rfl rfl rfl rfl rfl rfl ⟨rfl,rfl,rfl,rfl,rfl⟩ rfl rfl rfl rfl rfl (by kernel_rfl) Tryz.func7 Jy
  (of_decide_eq_true (by kernel_rfl)) (by unfold Func.isWrapper; first |(rw[OM (by decide +kernel)]; kernel_rfl) |(rw[OJ (by decide +kernel)]; exact⟨rfl,rfl⟩))
  (fun os started H enc _=>kX os started H enc)
theorem kernelFilters_card:Rows.KernelFiltersCardSaid :=
 Claim7.holds_tied_plain_at .later [] [.data] true (true, "7ed4efec7082863ae92dc7b4ea49dae50f3f88a22c1d752c4aaf162593c22787") false
  nk (fun _ h=>by cases h) (by kernel_rfl) (fun _ h=>by cases h) kernelFilters_row_tie rfl ⟨rfl,rfl⟩ (by kernel_rfl) rfl
  (fun f fn hf hfn=>by
   obtain rfl : f = 7 := OK ((show Tryz.prog.funcNamed "wardmote/wardmotelaw33.KernelFilters" = some 7 by kernel_rfl).symm.trans hf) |>.symm
   obtain rfl:fn=Tryz.f7:=(OK (Tryz.func7.symm.trans hfn)).symm;exact⟨KJ,fun j t ht=>by
    rw[Tryz.params7] at ht;have h3:t ∈([61,61]:RR Nat):=by
     rcases j with _|_|j
     have:t=61:=by simpa using ht.symm
     subst this; decide
     have:t=61:=by simpa using ht.symm
     subst this; decide
     simp at ht
    simp only[Pb,List.not_mem_nil,or_false] at h3;rcases h3 with rfl|rfl
    exact(show Tryz.prog.wantsStandIn 61=false by kernel_rfl)
    exact(show Tryz.prog.wantsStandIn 61=false by kernel_rfl)
    ⟩)
  Ks
#print axioms kernelFilters_card
end Go.Proofs.YtpkadoocdgdcfaaGreatDoor
