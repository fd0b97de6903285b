/- KernelTurns returns true for every kernel, draft, change, list of weights and length: its walk by the abstract machine, which is proved to follow the model, comes to a plain Lean function, and that is true (the program and the reference compute with fractions of any length, which are the same numbers). Conditions: none beyond the statement's own. -/
import Derived.Test.YtpkadoocdgdcfaaGreatDoorKt8
set_option linter.all false
namespace Go.Proofs.YtpkadoocdgdcfaaGreatDoor
set_option maxRecDepth 100000
open Go Go.ChangeShapes Go.WideShapes Go.ChangeAt Go.WideMaps Go.WideElems Go.RowKit Go.Ab Go.Ab.W
abbrev rD:XD WJ:=#[.slice none 0 0,.agg #[.int .u8 0,.slice none 0 0],.agg #[.int .u8 0,.int .u8 0,.int .u64 0,.int .u64 0,.int .u64 0,.int .u64 0,.int .u64 0,.int .u64 0,.int .u64 0,.int .u64 0,.int .u64 0,.int .u64 0,.int .u64 0,.int .u64 0,.int .u64 0,.int .u64 0,.int .u64 0,.int .u64 0],.slice none 0 0,.int .u16 0]
theorem oq(os:Os)(started:os.Started)(H:Type)(enc:WK×WJ->H) :
  ReturnsInHanded {} Tryz.checked os 5 .any (fun w args=>(Rows.kernelTurnsSpec.pre enc Tryz.prog Tryz.f5 [] false w args/\laidMetH Tryz.prog uf w)/\sizedMet enc Tryz.prog Tryz.f5 (OpenSpec.ofChange Rows.kernelTurnsSpec) false w args)
   (Rows.kernelTurnsSpec.post enc Tryz.prog Tryz.f5 false true false false):=by
 refine returnsInHanded_of_change_and (C:=Tryz.checked) (X:=fun w _=>laidMetH Tryz.prog uf w) (fun _ _ _ hh h=>h.of_heap hh) QX started (by kernel_rfl) Tryz.func5
  (ChangeSpec.witness_shaped (enc:=enc) (C:=Tryz.checked) (os:=os) (X:=fun w _=>laidMetH Tryz.prog uf w) false (World.doorLaid Tryz.prog 400 os) rD 8 rfl (World.shaped_of_RefB (by kernel_rfl) (by kernel_rfl)) (by kernel_rfl) (by kernel_rfl) (by kernel_rfl) (CQ os _)) ?_
 intro W base args ds gs before hval hW _ _ hL _;obtain⟨hG,hs⟩:=OI hL;have hW':=hW;obtain⟨p,q,hA,hV,_⟩:=hW;obtain⟨rfl,_⟩:=trodVars_none hV;have hA:DataW.TrodAll enc Tryz.prog W 0 (fun _=>true) true Tryz.f5.params.toList args.toList ds p:=hA;rw[Tryz.params5] at hA;obtain⟨v1,v2,v3,v4,v5,d1,d2,d3,d4,d5,p1,p2,p3,p4,p5,rfl,rfl,_,h1,h2,h3,h4,h5⟩:=CN hA;obtain⟨l1,a2,c3,es5,r1,b1_1,m1,nm1⟩:=QG (hval 0 46 v1 (by rw[Tryz.params5]; rfl) rfl) hs h1
 obtain⟨x8,l9,a10,c11,r2,b2_1,b2_2,b2_3,m2⟩:=Q6 (hval 1 61 v2 (by rw[Tryz.params5]; rfl) rfl) hs h2
 obtain⟨x13,x14,x15,x16,x17,x18,x19,x20,x21,x22,x23,x24,x25,x26,x27,x28,x29,x30,r3,b3_1,b3_2⟩:=Qg (hval 2 70 v3 (by rw[Tryz.params5]; rfl) rfl) h3
 obtain⟨l31,a32,c33,r4,b4_1,m4⟩:=Ri (hval 3 71 v4 (by rw[Tryz.params5]; rfl) rfl) hs h4
 obtain⟨x35,rfl,b5_1⟩:=Rm (hval 4 22 v5 (by rw[Tryz.params5]; rfl) rfl) h5
 have hF:=Lb l1 x8 l9 (x13:=x13) l31 b1_1 b3_1 b3_2 b4_1 b5_1;exact Gg (fn:=Tryz.f5) (tb:=4) rfl rfl (by kernel_rfl) (by kernel_rfl) (by kernel_rfl) (by rw[Tryz.params5]; decide +kernel) rfl hW' hs (.cons r1 (.cons r2 (.cons r3 (.cons r4 (.cons (.int _ _) (.nil _))))))
  (Ru fu6 l1 x8 l9 x13 x14 x15 x16 x17 x18 x19 x20 x21 x22 x23 x24 x25 x26 x27 x28 x29 x30 l31 x35 a2 c3 (fun b=>b<W.heap.size) es5 a10 c11 a32 c33 true hF (dP W) hG m1 nm1 m2 m4)
theorem qa:Rows.KernelTurnsSaid :=
 OpenClaim.holds_of_wide 5 Tryz.f5 rfl rfl rfl rfl rfl rfl rfl ⟨rfl,rfl,rfl,rfl,rfl⟩ rfl rfl rfl rfl rfl (by kernel_rfl) Tryz.func5 LV
  (of_decide_eq_true (by kernel_rfl)) (by unfold Func.isWrapper; first |(rw[Ui (by decide +kernel)]; kernel_rfl) |(rw[Uk (by decide +kernel)]; exact⟨rfl,rfl⟩))
  (fun os started H enc _=>oq os started H enc)
theorem kernelTurns_card:Rows.KernelTurnsCardSaid :=
 Claim7.holds_tied_plain_at .later [] [.data] true (true, "7ed4efec7082863ae92dc7b4ea49dae50f3f88a22c1d752c4aaf162593c22787") false
  qa (fun _ h=>by cases h) (by kernel_rfl) (fun _ h=>by cases h) kernelTurns_row_tie rfl ⟨rfl,rfl⟩ (by kernel_rfl) rfl
  (fun f fn hf hfn=>by
   obtain rfl : f = 5 := Ug ((show Tryz.prog.funcNamed "wardmote/wardmotelaw33.KernelTurns" = some 5 by kernel_rfl).symm.trans hf) |>.symm
   obtain rfl:fn=Tryz.f5:=(Ug (Tryz.func5.symm.trans hfn)).symm;exact⟨Ol,fun j t ht=>by
    rw[Tryz.params5] at ht;have h3:t ∈([46,61,70,71,22]:XB Nat):=by
     rcases j with _|_|_|_|_|j
     have:t=46:=by simpa using ht.symm
     subst this; decide
     have:t=61:=by simpa using ht.symm
     subst this; decide
     have:t=70:=by simpa using ht.symm
     subst this; decide
     have:t=71:=by simpa using ht.symm
     subst this; decide
     have:t=22:=by simpa using ht.symm
     subst this; decide
     simp at ht
    simp only[UC,List.not_mem_nil,or_false] at h3;rcases h3 with rfl|rfl|rfl|rfl|rfl
    exact(show Tryz.prog.wantsStandIn 46=false by kernel_rfl)
    exact(show Tryz.prog.wantsStandIn 61=false by kernel_rfl)
    exact(show Tryz.prog.wantsStandIn 70=false by kernel_rfl)
    exact(show Tryz.prog.wantsStandIn 71=false by kernel_rfl)
    exact(show Tryz.prog.wantsStandIn 22=false by kernel_rfl)
    ⟩)
  Ny
#print axioms kernelTurns_card
end Go.Proofs.YtpkadoocdgdcfaaGreatDoor
