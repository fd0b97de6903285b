/- TreesRanks returns true for every draft, set, change, number, list and place: its walk by the abstract machine, which is proved to follow the model, comes to a plain Lean function, and that is true; works() is evaluated once. Conditions: none beyond those of the row. -/
import Derived.Test.YtookeaakpiefjaaGreatDoorTr8
namespace Go.Proofs.YtookeaakpiefjaaGreatDoor
set_option maxRecDepth 100000
open Go Go.ChangeShapes Go.WideShapes Go.ChangeAt Go.WideMaps Go.WideElems Go.RowKit Go.Ab Go.Ab.W

abbrev tS:Array Value:=#[.agg #[.int .u8 0,.int .u8 0,.int .u16 0,.slice none 0 0],.int .u64 0,.agg #[.int .u8 0,.int .i64 0,.int .u64 0],.int .i64 0,.slice none 0 0,.int .u8 0]
theorem oC (os:Os) (started:os.Started) (H:Type) (enc:TypeId × Value→H) :
  ReturnsInHanded {} Tryz.checked os 4 .any (fun w args=>(Rows.treesRanksSpec.pre enc Tryz.prog Tryz.f4 [] false w args∧laidMetH Tryz.prog rL w)∧sizedMet enc Tryz.prog Tryz.f4 (OpenSpec.ofChange Rows.treesRanksSpec) false w args)
   (Rows.treesRanksSpec.post enc Tryz.prog Tryz.f4 false true false false):=by
 refine returnsInHanded_of_change_and (C:=Tryz.checked) (X:=fun w _=>laidMetH Tryz.prog rL w) (fun _ _ _ hh h=>h.of_heap hh) Qe started (by kernel_rfl) Tryz.func4
  (ChangeSpec.witness_shaped (enc:=enc) (C:=Tryz.checked) (os:=os) (X:=fun w _=>laidMetH Tryz.prog rL w) false (World.doorLaid Tryz.prog 400 os) tS 8 rfl (World.shaped_of_RefB (by kernel_rfl) (by kernel_rfl)) (by kernel_rfl) (by kernel_rfl) (by kernel_rfl) (B6 os _)) ?_
 intro W base args ds gs before hval hW _ _ hL _;obtain⟨hG,hs⟩:=Oo hL;have hW':=hW;obtain⟨p,q,hA,hV,_⟩:=hW;obtain⟨rfl,_⟩:=trodVars_none hV;have hA:DataW.TrodAll enc Tryz.prog W 0 (fun _=>true) true Tryz.f4.params.toList args.toList ds p:=hA;rw[Tryz.params4] at hA;obtain⟨v1,v2,v3,v4,v5,v6,d1,d2,d3,d4,d5,d6,p1,p2,p3,p4,p5,p6,rfl,rfl,_,h1,h2,h3,h4,h5,h6⟩:=BO hA;obtain⟨x1,x2,x3,l4,a5,c6,r1,b1_1,b1_2,b1_3,b1_4,b1_5,m1⟩:=PJ (hval 0 25 v1 (by rw[Tryz.params4]; rfl) rfl) hs h1
 obtain⟨x8,rfl,b2_1⟩:=Qq (hval 1 26 v2 (by rw[Tryz.params4]; rfl) rfl) h2
 obtain⟨x9,x10,x11,r3,b3_1,b3_2,b3_3⟩:=P3 (hval 2 28 v3 (by rw[Tryz.params4]; rfl) rfl) h3
 obtain⟨x12,rfl,b4_1,b4_2⟩:=Re (hval 3 3 v4 (by rw[Tryz.params4]; rfl) rfl) h4
 obtain⟨l13,a14,c15,r5,b5_1,b5_2,m5⟩:=Qb (hval 4 49 v5 (by rw[Tryz.params4]; rfl) rfl) hs h5
 obtain⟨x17,rfl,b6_1⟩:=RO (hval 5 5 v6 (by rw[Tryz.params4]; rfl) rfl) h6
 have hF:=Jk 2000000000 x1 x2 x3 l4 x8 x9 x10 x11 x12 l13 x17 b2_1 b4_1 (by omega) (by omega) (by omega)
 exact Fe (fn:=Tryz.f4) (tb:=4) rfl rfl (by kernel_rfl) (by kernel_rfl) (by kernel_rfl) (by rw[Tryz.params4]; decide +kernel) rfl hW' hs (.cons r1 (.cons (.int _ _) (.cons r3 (.cons (.int _ _) (.cons r5 (.cons (.int _ _) (.nil _)))))))
  (PG 2000000000 x1 x2 x3 l4 x8 x9 x10 x11 x12 l13 x17 a5 c6 a14 c15 true hF (eh W) hG m1 m5)
theorem treesRanks_said:Rows.TreesRanksSaid :=
 OpenClaim.holds_of_wide 4 Tryz.f4 rfl rfl rfl rfl rfl rfl rfl ⟨rfl,rfl,rfl,rfl,rfl⟩ rfl rfl rfl rfl rfl (by kernel_rfl) Tryz.func4 (by kernel_rfl)
  (of_decide_eq_true (by kernel_rfl)) (by unfold Func.isWrapper; first | (rw[if_pos (by decide +kernel)]; kernel_rfl) | (rw[if_neg (by decide +kernel)]; exact⟨rfl,rfl⟩))
  (fun os started H enc _=>oC os started H enc)
theorem treesRanks_card:Rows.TreesRanksCardSaid :=
 Claim7.holds_tied_plain_at .later [] [.data] true (true, "da391aed69708a87184de248f62d22afaad89e8d8ec5aee204e6099af0b59a27") false
  treesRanks_said (fun _ h=>by cases h) (by kernel_rfl) (fun _ h=>by cases h) treesRanks_row_tie rfl ⟨rfl,rfl⟩ (by kernel_rfl) rfl
  (fun f fn hf hfn=>by
   obtain rfl : f = 4 := Option.some.inj ((show Tryz.prog.funcNamed "wardmote/wardmotelaw30.TreesRanks" = some 4 by kernel_rfl).symm.trans hf) |>.symm
   obtain rfl:fn=Tryz.f4:=(Option.some.inj (Tryz.func4.symm.trans hfn)).symm;exact⟨by kernel_rfl,fun j t ht=>by
    rw[Tryz.params4] at ht;have h3:t ∈ ([25,26,28,3,49,5]:List Nat):=by
     rcases j with _|_|_|_|_|_|j
     ·have:t=25:=by simpa using ht.symm
      subst this; decide
     ·have:t=26:=by simpa using ht.symm
      subst this; decide
     ·have:t=28:=by simpa using ht.symm
      subst this; decide
     ·have:t=3:=by simpa using ht.symm
      subst this; decide
     ·have:t=49:=by simpa using ht.symm
      subst this; decide
     ·have:t=5:=by simpa using ht.symm
      subst this; decide
     ·simp at ht
    simp only[List.mem_cons,List.not_mem_nil,or_false] at h3;rcases h3 with rfl|rfl|rfl|rfl|rfl|rfl
    ·exact(show Tryz.prog.wantsStandIn 25=false by kernel_rfl)
    ·exact(show Tryz.prog.wantsStandIn 26=false by kernel_rfl)
    ·exact(show Tryz.prog.wantsStandIn 28=false by kernel_rfl)
    ·exact(show Tryz.prog.wantsStandIn 3=false by kernel_rfl)
    ·exact(show Tryz.prog.wantsStandIn 49=false by kernel_rfl)
    ·exact(show Tryz.prog.wantsStandIn 5=false by kernel_rfl)
    ⟩)
  (by kernel_rfl)
#print axioms treesRanks_card
end Go.Proofs.YtookeaakpiefjaaGreatDoor
