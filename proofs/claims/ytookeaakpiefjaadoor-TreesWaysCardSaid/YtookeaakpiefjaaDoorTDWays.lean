/- Chapter 30: the call TreesWays(d, set, n, at, from, to) returns true, whatever the draft, the set and the four numbers are; no condition. -/
import Derived.Test.YtookeaakpiefjaaDoorTy7
namespace Go.Proofs.YtookeaakpiefjaaDoor
set_option maxRecDepth 100000
open Go Go.ChangeShapes Go.WideShapes Go.ChangeAt Go.WideMaps Go.WideElems Go.RowKit Go.Ab Go.Ab.W

abbrev sW:Array Value:=#[.agg #[.int .u8 0,.int .u8 0,.int .u16 0,.slice none 0 0],.int .u64 0,.int .u32 0,.int .u8 0,.int .u8 0,.int .u8 0]
theorem oV (os:Os) (started:os.Started) (H:Type) (enc:TypeId × Value→H) :
    ReturnsInHanded {} Tryd.checked os 4 .any (fun w args=>(Rows.treesWaysSpec.pre enc Tryd.prog Tryd.f4 [] false w args∧laidMetH Tryd.prog sE w)∧sizedMet enc Tryd.prog Tryd.f4 (OpenSpec.ofChange Rows.treesWaysSpec) false w args)
      (Rows.treesWaysSpec.post enc Tryd.prog Tryd.f4 false true false false):=by
  refine returnsInHanded_of_change_and (C:=Tryd.checked) (X:=fun w _=>laidMetH Tryd.prog sE w) (fun _ _ _ hh h=>h.of_heap hh) NZ started (by kernel_rfl) Tryd.func4
    (ChangeSpec.witness_shaped (enc:=enc) (C:=Tryd.checked) (os:=os) (X:=fun w _=>laidMetH Tryd.prog sE w) false (World.doorLaid Tryd.prog 400 os) sW 8 rfl (World.shaped_of_RefB (by kernel_rfl) (by kernel_rfl)) (by kernel_rfl) (by kernel_rfl) (by kernel_rfl) (zM os _)) ?_
  intro W base args ds gs before hval hW _ _ hL _;obtain⟨hG,hs⟩:=MW hL;have hW':=hW;obtain⟨p,q,hA,hV,_⟩:=hW;obtain⟨rfl,_⟩:=trodVars_none hV;have hA:DataW.TrodAll enc Tryd.prog W 0 (fun _=>true) true Tryd.f4.params.toList args.toList ds p:=hA;rw[Tryd.params4] at hA;obtain⟨v1,v2,v3,v4,v5,v6,d1,d2,d3,d4,d5,d6,p1,p2,p3,p4,p5,p6,rfl,rfl,_,h1,h2,h3,h4,h5,h6⟩:=Bc hA;obtain⟨x1,x2,x3,l4,a5,c6,r1,b1_1,b1_2,b1_3,b1_4,b1_5,m1⟩:=OM (hval 0 25 v1 (by rw[Tryd.params4]; rfl) rfl) hs h1
  obtain⟨x8,rfl,b2_1⟩:=Nz (hval 1 26 v2 (by rw[Tryd.params4]; rfl) rfl) h2
  obtain⟨x9,rfl,b3_1⟩:=Ns (hval 2 27 v3 (by rw[Tryd.params4]; rfl) rfl) h3
  obtain⟨x10,rfl,b4_1⟩:=Lz (hval 3 5 v4 (by rw[Tryd.params4]; rfl) rfl) h4
  obtain⟨x11,rfl,b5_1⟩:=Lz (hval 4 5 v5 (by rw[Tryd.params4]; rfl) rfl) h5
  obtain⟨x12,rfl,b6_1⟩:=Lz (hval 5 5 v6 (by rw[Tryd.params4]; rfl) rfl) h6
  have hF:=Ji 2000000000 x1 x2 x3 l4 x8 x9 x10 x11 x12 b2_1 b3_1 b4_1 b5_1 b6_1 (by omega)
  exact C6 (fn:=Tryd.f4) (tb:=4) rfl rfl (by kernel_rfl) (by kernel_rfl) (by kernel_rfl) (by rw[Tryd.params4]; decide +kernel) rfl hW' hs (.cons r1 (.cons (.int _ _) (.cons (.int _ _) (.cons (.int _ _) (.cons (.int _ _) (.cons (.int _ _) (.nil _)))))))
    (Nw 2000000000 x1 x2 x3 l4 x8 x9 x10 x11 x12 a5 c6 true hF (ez W) hG m1)
theorem treesWays_said:Rows.TreesWaysSaid :=
  OpenClaim.holds_of_wide 4 Tryd.f4 rfl rfl rfl rfl rfl rfl rfl ⟨rfl,rfl,rfl,rfl,rfl⟩ rfl rfl rfl rfl rfl (by kernel_rfl) Tryd.func4 (by kernel_rfl)
    (of_decide_eq_true (by kernel_rfl)) (by unfold Func.isWrapper; first | (rw[if_pos (by decide +kernel)]; kernel_rfl) | (rw[if_neg (by decide +kernel)]; exact⟨rfl,rfl⟩))
    (fun os started H enc _=>oV os started H enc)
theorem treesWays_card:Rows.TreesWaysCardSaid :=
  Claim7.holds_tied_plain_at .later [] [.data] true (true, "fe0425c8b9ab35d353fcad2463514087474ca18f9c5000a39413c419cfe71391") false
    treesWays_said (fun _ h=>by cases h) (by kernel_rfl) (fun _ h=>by cases h) treesWays_row_tie rfl ⟨rfl,rfl⟩ (by kernel_rfl) rfl
    (fun f fn hf hfn=>by
      obtain rfl : f = 4 := Option.some.inj ((show Tryd.prog.funcNamed "wardmote/wardmotelaw30.TreesWays" = some 4 by kernel_rfl).symm.trans hf) |>.symm
      obtain rfl:fn=Tryd.f4:=(Option.some.inj (Tryd.func4.symm.trans hfn)).symm;exact⟨by kernel_rfl,fun j t ht=>by
        rw[Tryd.params4] at ht;have h3:t ∈ ([25,26,27,5,5,5]:List Nat):=by
          rcases j with _|_|_|_|_|_|j
          · have:t=25:=by simpa using ht.symm
            subst this; decide
          · have:t=26:=by simpa using ht.symm
            subst this; decide
          · have:t=27:=by simpa using ht.symm
            subst this; decide
          · have:t=5:=by simpa using ht.symm
            subst this; decide
          · have:t=5:=by simpa using ht.symm
            subst this; decide
          · have:t=5:=by simpa using ht.symm
            subst this; decide
          · simp at ht
        simp only[List.mem_cons,List.not_mem_nil,or_false] at h3;rcases h3 with rfl|rfl|rfl|rfl|rfl|rfl
        · exact(show Tryd.prog.wantsStandIn 25=false by kernel_rfl)
        · exact(show Tryd.prog.wantsStandIn 26=false by kernel_rfl)
        · exact(show Tryd.prog.wantsStandIn 27=false by kernel_rfl)
        · exact(show Tryd.prog.wantsStandIn 5=false by kernel_rfl)
        · exact(show Tryd.prog.wantsStandIn 5=false by kernel_rfl)
        · exact(show Tryd.prog.wantsStandIn 5=false by kernel_rfl)
        ⟩)
    (by kernel_rfl)
#print axioms treesWays_card
end Go.Proofs.YtookeaakpiefjaaDoor
