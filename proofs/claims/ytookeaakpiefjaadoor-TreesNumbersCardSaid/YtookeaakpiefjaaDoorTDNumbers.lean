/- Chapter 30: the call TreesNumbers(d, set, a, b) returns true, whatever the draft, the set and the two numbers are; no condition. -/
import Derived.Test.YtookeaakpiefjaaDoorTn8
namespace Go.Proofs.YtookeaakpiefjaaDoor
set_option maxRecDepth 100000
open Go Go.ChangeShapes Go.WideShapes Go.ChangeAt Go.WideMaps Go.WideElems Go.RowKit Go.Ab Go.Ab.W

abbrev m6:Array Value:=#[.agg #[.int .u8 0,.int .u8 0,.int .u16 0,.slice none 0 0],.int .u64 0,.int .u32 0,.int .u32 0]
theorem kL (os:Os) (started:os.Started) (H:Type) (enc:TypeId × Value→H) :
  ReturnsInHanded {} Tryd.checked os 3 .any (fun w args=>(Rows.treesNumbersSpec.pre enc Tryd.prog Tryd.f3 [] false w args∧laidMetH Tryd.prog qv w)∧sizedMet enc Tryd.prog Tryd.f3 (OpenSpec.ofChange Rows.treesNumbersSpec) false w args)
   (Rows.treesNumbersSpec.post enc Tryd.prog Tryd.f3 false true false false):=by
 refine returnsInHanded_of_change_and (C:=Tryd.checked) (X:=fun w _=>laidMetH Tryd.prog qv w) (fun _ _ _ hh h=>h.of_heap hh) JC started (by kernel_rfl) Tryd.func3
  (ChangeSpec.witness_shaped (enc:=enc) (C:=Tryd.checked) (os:=os) (X:=fun w _=>laidMetH Tryd.prog qv w) false (World.doorLaid Tryd.prog 400 os) m6 8 rfl (World.shaped_of_RefB (by kernel_rfl) (by kernel_rfl)) (by kernel_rfl) (by kernel_rfl) (by kernel_rfl) (xW os _)) ?_
 intro W base args ds gs before hval hW _ _ hL _;obtain⟨hG,hs⟩:=Hl hL;have hW':=hW;obtain⟨p,q,hA,hV,_⟩:=hW;obtain⟨rfl,_⟩:=trodVars_none hV;have hA:DataW.TrodAll enc Tryd.prog W 0 (fun _=>true) true Tryd.f3.params.toList args.toList ds p:=hA;rw[Tryd.params3] at hA;obtain⟨v1,v2,v3,v4,d1,d2,d3,d4,p1,p2,p3,p4,rfl,rfl,_,h1,h2,h3,h4⟩:=yp hA;obtain⟨x1,x2,x3,l4,a5,c6,r1,b1_1,b1_2,b1_3,b1_4,b1_5,m1⟩:=Kx (hval 0 25 v1 (by rw[Tryd.params3]; rfl) rfl) hs h1
 obtain⟨x8,rfl,b2_1⟩:=JU (hval 1 26 v2 (by rw[Tryd.params3]; rfl) rfl) h2
 obtain⟨x9,rfl,b3_1⟩:=G0 (hval 2 27 v3 (by rw[Tryd.params3]; rfl) rfl) h3
 obtain⟨x10,rfl,b4_1⟩:=G0 (hval 3 27 v4 (by rw[Tryd.params3]; rfl) rfl) h4
 have hF:=Ga 2000000000 x1 x2 x3 l4 x8 x9 x10 b2_1 b3_1 b4_1 (by omega)
 exact Bl (fn:=Tryd.f3) (tb:=4) rfl rfl (by kernel_rfl) (by kernel_rfl) (by kernel_rfl) (by rw[Tryd.params3]; decide +kernel) rfl hW' hs (.cons r1 (.cons (.int _ _) (.cons (.int _ _) (.cons (.int _ _) (.nil _)))))
  (Jq 2000000000 x1 x2 x3 l4 x8 x9 x10 a5 c6 true hF (ew W) hG m1)
theorem treesNumbers_said:Rows.TreesNumbersSaid :=
 OpenClaim.holds_of_wide 3 Tryd.f3 rfl rfl rfl rfl rfl rfl rfl ⟨rfl,rfl,rfl,rfl,rfl⟩ rfl rfl rfl rfl rfl (by kernel_rfl) Tryd.func3 (by kernel_rfl)
  (of_decide_eq_true (by kernel_rfl)) (by unfold Func.isWrapper; first | (rw[if_pos (by decide +kernel)]; kernel_rfl) | (rw[if_neg (by decide +kernel)]; exact⟨rfl,rfl⟩))
  (fun os started H enc _=>kL os started H enc)
theorem treesNumbers_card:Rows.TreesNumbersCardSaid :=
 Claim7.holds_tied_plain_at .later [] [.data] true (true, "fe0425c8b9ab35d353fcad2463514087474ca18f9c5000a39413c419cfe71391") false
  treesNumbers_said (fun _ h=>by cases h) (by kernel_rfl) (fun _ h=>by cases h) treesNumbers_row_tie rfl ⟨rfl,rfl⟩ (by kernel_rfl) rfl
  (fun f fn hf hfn=>by
   obtain rfl : f = 3 := Option.some.inj ((show Tryd.prog.funcNamed "wardmote/wardmotelaw30.TreesNumbers" = some 3 by kernel_rfl).symm.trans hf) |>.symm
   obtain rfl:fn=Tryd.f3:=(Option.some.inj (Tryd.func3.symm.trans hfn)).symm;exact⟨by kernel_rfl,fun j t ht=>by
    rw[Tryd.params3] at ht;have h3:t ∈ ([25,26,27,27]:List Nat):=by
     rcases j with _|_|_|_|j
     ·have:t=25:=by simpa using ht.symm
      subst this; decide
     ·have:t=26:=by simpa using ht.symm
      subst this; decide
     ·have:t=27:=by simpa using ht.symm
      subst this; decide
     ·have:t=27:=by simpa using ht.symm
      subst this; decide
     ·simp at ht
    simp only[List.mem_cons,List.not_mem_nil,or_false] at h3;rcases h3 with rfl|rfl|rfl|rfl
    ·exact(show Tryd.prog.wantsStandIn 25=false by kernel_rfl)
    ·exact(show Tryd.prog.wantsStandIn 26=false by kernel_rfl)
    ·exact(show Tryd.prog.wantsStandIn 27=false by kernel_rfl)
    ·exact(show Tryd.prog.wantsStandIn 27=false by kernel_rfl)
    ⟩)
  (by kernel_rfl)
#print axioms treesNumbers_card
end Go.Proofs.YtookeaakpiefjaaDoor
