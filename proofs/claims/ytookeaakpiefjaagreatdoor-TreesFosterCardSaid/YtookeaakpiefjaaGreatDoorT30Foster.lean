/- TreesFoster returns true for every draft and set: its walk by the abstract machine, which is proved to follow the model, comes to a plain Lean function, and that is true (the counts of trees by their edges add up to the trees times the nodes less one, bridges are the edges that all trees have, and shares add up exactly); works() is evaluated once. Conditions: none beyond those of the row. -/
import Derived.Test.YtookeaakpiefjaaGreatDoorTf8
namespace Go.Proofs.YtookeaakpiefjaaGreatDoor
set_option maxRecDepth 100000
open Go Go.ChangeShapes Go.WideShapes Go.ChangeAt Go.WideMaps Go.WideElems Go.RowKit Go.Ab Go.Ab.W

abbrev qc:Array Value:=#[.agg #[.int .u8 0,.int .u8 0,.int .u16 0,.slice none 0 0],.int .u64 0]
theorem m5 (os:Os) (started:os.Started) (H:Type) (enc:TypeId × Value→H) :
  ReturnsInHanded {} Tryz.checked os 7 .any (fun w args=>(Rows.treesFosterSpec.pre enc Tryz.prog Tryz.f7 [] false w args∧laidMetH Tryz.prog rN w)∧sizedMet enc Tryz.prog Tryz.f7 (OpenSpec.ofChange Rows.treesFosterSpec) false w args)
   (Rows.treesFosterSpec.post enc Tryz.prog Tryz.f7 false true false false):=by
 refine returnsInHanded_of_change_and (C:=Tryz.checked) (X:=fun w _=>laidMetH Tryz.prog rN w) (fun _ _ _ hh h=>h.of_heap hh) OG started (by kernel_rfl) Tryz.func7
  (ChangeSpec.witness_shaped (enc:=enc) (C:=Tryz.checked) (os:=os) (X:=fun w _=>laidMetH Tryz.prog rN w) false (World.doorLaid Tryz.prog 400 os) qc 8 rfl (World.shaped_of_RefB (by kernel_rfl) (by kernel_rfl)) (by kernel_rfl) (by kernel_rfl) (by kernel_rfl) (AV os _)) ?_
 intro W base args ds gs before hval hW _ _ hL _;obtain⟨hG,hs⟩:=NB hL;have hW':=hW;obtain⟨p,q,hA,hV,_⟩:=hW;obtain⟨rfl,_⟩:=trodVars_none hV;have hA:DataW.TrodAll enc Tryz.prog W 0 (fun _=>true) true Tryz.f7.params.toList args.toList ds p:=hA;rw[Tryz.params7] at hA;obtain⟨v1,v2,d1,d2,p1,p2,rfl,rfl,_,h1,h2⟩:=trodAll_two hA;obtain⟨x1,x2,x3,l4,a5,c6,r1,b1_1,b1_2,b1_3,b1_4,b1_5,m1⟩:=O3 (hval 0 25 v1 (by rw[Tryz.params7]; rfl) rfl) hs h1
 obtain⟨x8,rfl,b2_1⟩:=Qg (hval 1 26 v2 (by rw[Tryz.params7]; rfl) rfl) h2
 have hF:=JY 1606938044258990275541962092341162602522202993782792835301377 x1 x2 x3 l4 x8 b2_1 (by decide)
 exact Eg (fn:=Tryz.f7) (tb:=4) rfl rfl (by kernel_rfl) (by kernel_rfl) (by kernel_rfl) (by rw[Tryz.params7]; decide +kernel) rfl hW' hs (.cons r1 (.cons (.int _ _) (.nil _)))
  (OI 1606938044258990275541962092341162602522202993782792835301377 x1 x2 x3 l4 x8 a5 c6 true hF (eZ W) hG m1)
theorem treesFoster_said:Rows.TreesFosterSaid :=
 OpenClaim.holds_of_wide 7 Tryz.f7 rfl rfl rfl rfl rfl rfl rfl ⟨rfl,rfl,rfl,rfl,rfl⟩ rfl rfl rfl rfl rfl (by kernel_rfl) Tryz.func7 (by kernel_rfl)
  (of_decide_eq_true (by kernel_rfl)) (by unfold Func.isWrapper; first | (rw[if_pos (by decide +kernel)]; kernel_rfl) | (rw[if_neg (by decide +kernel)]; exact⟨rfl,rfl⟩))
  (fun os started H enc _=>m5 os started H enc)
theorem treesFoster_card:Rows.TreesFosterCardSaid :=
 Claim7.holds_tied_plain_at .later [] [.data] true (true, "da391aed69708a87184de248f62d22afaad89e8d8ec5aee204e6099af0b59a27") false
  treesFoster_said (fun _ h=>by cases h) (by kernel_rfl) (fun _ h=>by cases h) treesFoster_row_tie rfl ⟨rfl,rfl⟩ (by kernel_rfl) rfl
  (fun f fn hf hfn=>by
   obtain rfl : f = 7 := Option.some.inj ((show Tryz.prog.funcNamed "wardmote/wardmotelaw30.TreesFoster" = some 7 by kernel_rfl).symm.trans hf) |>.symm
   obtain rfl:fn=Tryz.f7:=(Option.some.inj (Tryz.func7.symm.trans hfn)).symm;exact⟨by kernel_rfl,fun j t ht=>by
    rw[Tryz.params7] at ht;have h3:t ∈ ([25,26]:List Nat):=by
     rcases j with _|_|j
     ·have:t=25:=by simpa using ht.symm
      subst this; decide
     ·have:t=26:=by simpa using ht.symm
      subst this; decide
     ·simp at ht
    simp only[List.mem_cons,List.not_mem_nil,or_false] at h3;rcases h3 with rfl|rfl
    ·exact(show Tryz.prog.wantsStandIn 25=false by kernel_rfl)
    ·exact(show Tryz.prog.wantsStandIn 26=false by kernel_rfl)
    ⟩)
  (by kernel_rfl)
#print axioms treesFoster_card
end Go.Proofs.YtookeaakpiefjaaGreatDoor
