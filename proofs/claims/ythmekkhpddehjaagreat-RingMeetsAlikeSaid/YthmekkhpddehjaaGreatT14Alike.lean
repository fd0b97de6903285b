/- RingMeetsAlike returns true for every four pairs of small numbers: its walk by the abstract machine, which is proved to follow the model, comes to a plain Lean function, and that is true (how two segments meet does not depend on their order, and tells how many whole points they have in common); works() is evaluated once, where a map's keys come sorted by the library's contract. Conditions: none beyond those of the row. -/
import Derived.Test.YthmekkhpddehjaaGreatRm4
namespace Go.Proofs.YthmekkhpddehjaaGreat
set_option maxRecDepth 100000
open Go Go.ChangeShapes Go.WideShapes Go.ChangeAt Go.WideMaps Go.WideElems Go.RowKit Go.Ab Go.Ab.W

abbrev hJ:Array Value:=#[.agg #[.int .i8 0,.int .i8 0,.int .i8 0,.int .i8 0,.int .i8 0,.int .i8 0,.int .i8 0,.int .i8 0]]
theorem fy (os:Os) (started:os.Started) (H:Type) (enc:TypeId × Value→H) :
  ReturnsInHanded {} Tryz.checked os 6 .any (Rows.ringMeetsAlikeSpec.pre6 enc Tryz.prog Tryz.f6 [] false) (Rows.ringMeetsAlikeSpec.post enc Tryz.prog Tryz.f6 false true false false):=by
 refine returnsInHanded_of_change (C:=Tryz.checked) zb started (by kernel_rfl) Tryz.func6
  (ChangeSpec.witness6 (enc:=enc) (C:=Tryz.checked) (os:=os) false ⟨#[],hJ,[]⟩ 8 (by kernel_rfl) (by kernel_rfl) (by kernel_rfl) (by kernel_rfl)) ?_
 intro W base args ds gs before hval hW _ _;have hW':=hW;obtain⟨p,q,hA,hV,_⟩:=hW;obtain⟨rfl,_⟩:=trodVars_none hV;have hA:DataW.TrodAll enc Tryz.prog W 0 (fun _=>true) true Tryz.f6.params.toList args.toList ds p:=hA;rw[Tryz.params6] at hA;obtain⟨v1,w1,d1,e1,p1,q1,hargs,rfl,rfl,h1,g1⟩:=trodAll_cons hA;obtain⟨rfl,rfl,rfl⟩:=trodAll_nil g1;have hargs':args=#[v1]:=by apply Array.toList_inj.1; rw[hargs]
 subst hargs';obtain⟨x1,x2,x3,x4,x5,x6,x7,x8,r1,hb⟩:=zi (hval 0 31 v1 (by rw[Tryz.params6]; rfl) rfl) h1
 have b:∀q ∈ [x1,x2,x3,x4,x5,x6,x7,x8],jk q:=fun q hq=>by have:=hb q hq; unfold jk; omega
 have hF:=vI 100 x1 x2 x3 x4 x5 x6 x7 x8 (b _ (by simp)) (b _ (by simp)) (b _ (by simp)) (b _ (by simp)) (b _ (by simp)) (b _ (by simp)) (b _ (by simp)) (b _ (by simp)) (by decide)
 exact sD (fn:=Tryz.f6) (tb:=4) rfl rfl (by kernel_rfl) (by kernel_rfl) (by kernel_rfl) (by rw[Tryz.params6]; decide +kernel) rfl hW' (.cons r1 (.nil _))
  (zt 100 x1 x2 x3 x4 x5 x6 x7 x8 true hF (dI W))
theorem ringMeetsAlike_said:Rows.RingMeetsAlikeSaid :=
 OpenClaim.holds_of_wide 6 Tryz.f6 rfl rfl rfl rfl rfl rfl rfl ⟨rfl,rfl,rfl,rfl,rfl⟩ rfl rfl rfl rfl rfl (by kernel_rfl) Tryz.func6 (by kernel_rfl)
  (of_decide_eq_true (by kernel_rfl)) (by unfold Func.isWrapper; first | (rw[if_pos (by decide +kernel)]; kernel_rfl) | (rw[if_neg (by decide +kernel)]; exact⟨rfl,rfl⟩))
  (fun os started H enc _=>fy os started H enc)
 #print axioms ringMeetsAlike_said
end Go.Proofs.YthmekkhpddehjaaGreat
