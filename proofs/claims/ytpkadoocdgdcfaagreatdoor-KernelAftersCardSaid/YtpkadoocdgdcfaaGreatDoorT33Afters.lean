/- KernelAfters returns true for every kernel, draft, change, start and number of steps: its walk by the abstract machine, which is proved to follow the model, comes to a plain Lean function, and that is true (the program's and the reference's fractions of any length are the same numbers, and so are the classes). Conditions: none beyond the statement's own. -/
import Derived.Test.YtpkadoocdgdcfaaGreatDoorKa7
set_option linter.all false
namespace Go.Proofs.YtpkadoocdgdcfaaGreatDoor
set_option maxRecDepth 100000
open Go Go.ChangeShapes Go.WideShapes Go.ChangeAt Go.WideMaps Go.WideElems Go.RowKit Go.Ab Go.Ab.W
abbrev pw:WD Vs:=#[.slice none 0 0,.agg #[.int .u8 0,.slice none 0 0],.agg #[.int .u8 0,.int .u8 0,.int .u64 0,.int .u64 0,.int .u64 0,.int .u64 0,.int .u64 0,.int .u64 0,.int .u64 0,.int .u64 0,.int .u64 0,.int .u64 0,.int .u64 0,.int .u64 0,.int .u64 0,.int .u64 0,.int .u64 0,.int .u64 0],.slice none 0 0,.int .i64 0]
theorem mE(os:Os)(started:os.Started)(H:Type)(enc:Vt×Vs->H) :
  ReturnsInHanded {} Tryz.checked os 6 .any (fun w args=>(Rows.kernelAftersSpec.pre enc Tryz.prog Tryz.f6 [] false w args/\laidMetH Tryz.prog sX w)/\sizedMet enc Tryz.prog Tryz.f6 (OpenSpec.ofChange Rows.kernelAftersSpec) false w args)
   (Rows.kernelAftersSpec.post enc Tryz.prog Tryz.f6 false true false false):=by
 refine returnsInHanded_of_change_and (C:=Tryz.checked) (X:=fun w _=>laidMetH Tryz.prog sX w) (fun _ _ _ hh h=>h.of_heap hh) Pq started (by kernel_rfl) Tryz.func6
  (ChangeSpec.witness_shaped (enc:=enc) (C:=Tryz.checked) (os:=os) (X:=fun w _=>laidMetH Tryz.prog sX w) false (World.doorLaid Tryz.prog 400 os) pw 8 rfl (World.shaped_of_RefB (by kernel_rfl) (by kernel_rfl)) (by kernel_rfl) (by kernel_rfl) (by kernel_rfl) (Bc os _)) ?_
 intro W base args ds gs before hval hW _ _ hL _;obtain⟨hG,hs⟩:=On hL;have hW':=hW;obtain⟨p,q,hA,hV,_⟩:=hW;obtain⟨rfl,_⟩:=trodVars_none hV;have hA:DataW.TrodAll enc Tryz.prog W 0 (fun _=>true) true Tryz.f6.params.toList args.toList ds p:=hA;rw[Tryz.params6] at hA;obtain⟨v1,v2,v3,v4,v5,d1,d2,d3,d4,d5,p1,p2,p3,p4,p5,rfl,rfl,_,h1,h2,h3,h4,h5⟩:=AW hA;obtain⟨l1,a2,c3,es5,r1,b1_1,m1,nm1⟩:=Qg (hval 0 46 v1 (by rw[Tryz.params6]; rfl) rfl) hs h1
 obtain⟨x8,l9,a10,c11,r2,b2_1,b2_2,b2_3,m2⟩:=QP (hval 1 61 v2 (by rw[Tryz.params6]; rfl) rfl) hs h2
 obtain⟨x13,x14,x15,x16,x17,x18,x19,x20,x21,x22,x23,x24,x25,x26,x27,x28,x29,x30,r3,b3_1,b3_2⟩:=P1 (hval 2 70 v3 (by rw[Tryz.params6]; rfl) rfl) h3
 obtain⟨l31,a32,c33,r4,b4_1,m4⟩:=Pr (hval 3 72 v4 (by rw[Tryz.params6]; rfl) rfl) hs h4
 obtain⟨x35,rfl⟩:=RZ (hval 4 3 v5 (by rw[Tryz.params6]; rfl) rfl) h5
 have hF:=Lw l1 x8 l9 (x13:=x13) l31 x35 b1_1 b3_1 b3_2 b4_1;exact Ez (fn:=Tryz.f6) (tb:=4) rfl rfl (by kernel_rfl) (by kernel_rfl) (by kernel_rfl) (by rw[Tryz.params6]; decide +kernel) rfl hW' hs (.cons r1 (.cons r2 (.cons r3 (.cons r4 (.cons (.int _ _) (.nil _))))))
  (QX fu6 l1 x8 l9 x13 x14 x15 x16 x17 x18 x19 x20 x21 x22 x23 x24 x25 x26 x27 x28 x29 x30 l31 x35 a2 c3 (fun b=>b<W.heap.size) es5 a10 c11 a32 c33 true hF (dE W) hG m1 nm1 m2 m4)
theorem oU:Rows.KernelAftersSaid :=
 OpenClaim.holds_of_wide 6 Tryz.f6 rfl rfl rfl rfl rfl rfl rfl ⟨rfl,rfl,rfl,rfl,rfl⟩ rfl rfl rfl rfl rfl (by kernel_rfl) Tryz.func6 JU
  (of_decide_eq_true (by kernel_rfl)) (by unfold Func.isWrapper; first |(rw[S7 (by decide +kernel)]; kernel_rfl) |(rw[S8 (by decide +kernel)]; exact⟨rfl,rfl⟩))
  (fun os started H enc _=>mE os started H enc)
theorem kernelAfters_card:Rows.KernelAftersCardSaid :=
 Claim7.holds_tied_plain_at .later [] [.data] true (true, "7ed4efec7082863ae92dc7b4ea49dae50f3f88a22c1d752c4aaf162593c22787") false
  oU (fun _ h=>by cases h) (by kernel_rfl) (fun _ h=>by cases h) kernelAfters_row_tie rfl ⟨rfl,rfl⟩ (by kernel_rfl) rfl
  (fun f fn hf hfn=>by
   obtain rfl : f = 6 := S3 ((show Tryz.prog.funcNamed "wardmote/wardmotelaw33.KernelAfters" = some 6 by kernel_rfl).symm.trans hf) |>.symm
   obtain rfl:fn=Tryz.f6:=(S3 (Tryz.func6.symm.trans hfn)).symm;exact⟨Nj,fun j t ht=>by
    rw[Tryz.params6] at ht;have h3:t ∈([46,61,70,72,3]:WB Nat):=by
     rcases j with _|_|_|_|_|j
     have:t=46:=by simpa using ht.symm
     subst this; decide
     have:t=61:=by simpa using ht.symm
     subst this; decide
     have:t=70:=by simpa using ht.symm
     subst this; decide
     have:t=72:=by simpa using ht.symm
     subst this; decide
     have:t=3:=by simpa using ht.symm
     subst this; decide
     simp at ht
    simp only[Tt,List.not_mem_nil,or_false] at h3;rcases h3 with rfl|rfl|rfl|rfl|rfl
    exact(show Tryz.prog.wantsStandIn 46=false by kernel_rfl)
    exact(show Tryz.prog.wantsStandIn 61=false by kernel_rfl)
    exact(show Tryz.prog.wantsStandIn 70=false by kernel_rfl)
    exact(show Tryz.prog.wantsStandIn 72=false by kernel_rfl)
    exact(show Tryz.prog.wantsStandIn 3=false by kernel_rfl)
    ⟩)
  Ob
#print axioms kernelAfters_card
end Go.Proofs.YtpkadoocdgdcfaaGreatDoor
