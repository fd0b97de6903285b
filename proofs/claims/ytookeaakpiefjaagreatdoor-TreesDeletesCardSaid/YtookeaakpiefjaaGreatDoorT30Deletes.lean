/- TreesDeletes returns true for every draft, set and number: its walk by the abstract machine, which is proved to follow the model, comes to a plain Lean function, and that is true (the trees without an edge are those of the less graph, an edge is a bridge just if no tree stays, and a tree less an edge falls into two sides); works() is evaluated once. Conditions: none beyond those of the row. -/
import Derived.Test.YtookeaakpiefjaaGreatDoorTd7
namespace Go.Proofs.YtookeaakpiefjaaGreatDoor
set_option maxRecDepth 100000
open Go Go.ChangeShapes Go.WideShapes Go.ChangeAt Go.WideMaps Go.WideElems Go.RowKit Go.Ab Go.Ab.W

abbrev om:Array Value:=#[.agg #[.int .u8 0,.int .u8 0,.int .u16 0,.slice none 0 0],.int .u8 0]
theorem kY (os:Os) (started:os.Started) (H:Type) (enc:TypeId × Value→H) :
  ReturnsInHanded {} Tryz.checked os 6 .any (fun w args=>(Rows.treesDeletesSpec.pre enc Tryz.prog Tryz.f6 [] false w args∧laidMetH Tryz.prog qc w)∧sizedMet enc Tryz.prog Tryz.f6 (OpenSpec.ofChange Rows.treesDeletesSpec) false w args)
   (Rows.treesDeletesSpec.post enc Tryz.prog Tryz.f6 false true false false):=by
 refine returnsInHanded_of_change_and (C:=Tryz.checked) (X:=fun w _=>laidMetH Tryz.prog qc w) (fun _ _ _ hh h=>h.of_heap hh) LX started (by kernel_rfl) Tryz.func6
  (ChangeSpec.witness_shaped (enc:=enc) (C:=Tryz.checked) (os:=os) (X:=fun w _=>laidMetH Tryz.prog qc w) false (World.doorLaid Tryz.prog 400 os) om 8 rfl (World.shaped_of_RefB (by kernel_rfl) (by kernel_rfl)) (by kernel_rfl) (by kernel_rfl) (by kernel_rfl) (yM os _)) ?_
 intro W base args ds gs before hval hW _ _ hL _;obtain⟨hG,hs⟩:=Kj hL;have hW':=hW;obtain⟨p,q,hA,hV,_⟩:=hW;obtain⟨rfl,_⟩:=trodVars_none hV;have hA:DataW.TrodAll enc Tryz.prog W 0 (fun _=>true) true Tryz.f6.params.toList args.toList ds p:=hA;rw[Tryz.params6] at hA;obtain⟨v1,v2,d1,d2,p1,p2,rfl,rfl,_,h1,h2⟩:=trodAll_two hA;obtain⟨x1,x2,x3,l4,a5,c6,r1,b1_1,b1_2,b1_3,b1_4,b1_5,m1⟩:=Mc (hval 0 25 v1 (by rw[Tryz.params6]; rfl) rfl) hs h1
 obtain⟨x8,rfl,b2_1⟩:=N4 (hval 1 5 v2 (by rw[Tryz.params6]; rfl) rfl) h2
 have hF:=Gw 18446744073709551617 x1 x2 x3 l4 x8 b2_1 (by decide)
 exact B4 (fn:=Tryz.f6) (tb:=4) rfl rfl (by kernel_rfl) (by kernel_rfl) (by kernel_rfl) (by rw[Tryz.params6]; decide +kernel) rfl hW' hs (.cons r1 (.cons (.int _ _) (.nil _)))
  (L7 18446744073709551617 x1 x2 x3 l4 x8 a5 c6 true hF (ey W) hG m1)
theorem treesDeletes_said:Rows.TreesDeletesSaid :=
 OpenClaim.holds_of_wide 6 Tryz.f6 rfl rfl rfl rfl rfl rfl rfl ⟨rfl,rfl,rfl,rfl,rfl⟩ rfl rfl rfl rfl rfl (by kernel_rfl) Tryz.func6 (by kernel_rfl)
  (of_decide_eq_true (by kernel_rfl)) (by unfold Func.isWrapper; first | (rw[if_pos (by decide +kernel)]; kernel_rfl) | (rw[if_neg (by decide +kernel)]; exact⟨rfl,rfl⟩))
  (fun os started H enc _=>kY os started H enc)
theorem treesDeletes_card:Rows.TreesDeletesCardSaid :=
 Claim7.holds_tied_plain_at .later [] [.data] true (true, "da391aed69708a87184de248f62d22afaad89e8d8ec5aee204e6099af0b59a27") false
  treesDeletes_said (fun _ h=>by cases h) (by kernel_rfl) (fun _ h=>by cases h) treesDeletes_row_tie rfl ⟨rfl,rfl⟩ (by kernel_rfl) rfl
  (fun f fn hf hfn=>by
   obtain rfl : f = 6 := Option.some.inj ((show Tryz.prog.funcNamed "wardmote/wardmotelaw30.TreesDeletes" = some 6 by kernel_rfl).symm.trans hf) |>.symm
   obtain rfl:fn=Tryz.f6:=(Option.some.inj (Tryz.func6.symm.trans hfn)).symm;exact⟨by kernel_rfl,fun j t ht=>by
    rw[Tryz.params6] at ht;have h3:t ∈ ([25,5]:List Nat):=by
     rcases j with _|_|j
     ·have:t=25:=by simpa using ht.symm
      subst this; decide
     ·have:t=5:=by simpa using ht.symm
      subst this; decide
     ·simp at ht
    simp only[List.mem_cons,List.not_mem_nil,or_false] at h3;rcases h3 with rfl|rfl
    ·exact(show Tryz.prog.wantsStandIn 25=false by kernel_rfl)
    ·exact(show Tryz.prog.wantsStandIn 5=false by kernel_rfl)
    ⟩)
  (by kernel_rfl)
#print axioms treesDeletes_card
end Go.Proofs.YtookeaakpiefjaaGreatDoor
