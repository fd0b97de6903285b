/- GraphCuts returns true for every draft, every two changes, every set and all numbers: its walk by the abstract machine, which is proved to follow the model, comes to a plain Lean function, and that is true. Conditions: none beyond those of the row. -/
import Derived.Test.YtpclggcpobakhaaDoorGk7
namespace Go.Proofs.YtpclggcpobakhaaDoor
set_option maxRecDepth 100000
open Go Go.ChangeShapes Go.WideShapes Go.ChangeAt Go.WideMaps Go.WideElems Go.RowKit Go.Ab Go.Ab.W

abbrev graphCutsArgs : Array Value := #[.agg #[.int .u8 0, .int .u8 0, .int .u16 0, .slice none 0 0], .agg #[.int .u8 0, .int .u8 0, .int .i64 0, .int .i64 0, .int .i64 0, .int .u8 0, .int .u8 0, .int .i64 0, .int .i64 0, .int .i64 0], .int .u64 0, .int .i64 0, .int .u8 0]
theorem graphCuts_lifted (os : Os) (started : os.Started) (H : Type) (enc : TypeId × Value → H) :
  ReturnsInHanded {} Tryd.checked os 5 .any (fun w args => (Rows.graphCutsSpec.pre enc Tryd.prog Tryd.f5 [] false w args ∧ laidMetH Tryd.prog laid18 w) ∧ sizedMet enc Tryd.prog Tryd.f5 (OpenSpec.ofChange Rows.graphCutsSpec) false w args)
   (Rows.graphCutsSpec.post enc Tryd.prog Tryd.f5 false true false false) := by
 refine returnsInHanded_of_change_and (C := Tryd.checked) (X := fun w _ => laidMetH Tryd.prog laid18 w) (fun _ _ _ hh h => h.of_heap hh) own18 started (by kernel_rfl) Tryd.func5
  (ChangeSpec.witness_shaped (enc := enc) (C := Tryd.checked) (os := os) (X := fun w _ => laidMetH Tryd.prog laid18 w) false (World.doorLaid Tryd.prog 400 os) graphCutsArgs 8 rfl (World.shaped_of_RefB (by kernel_rfl) (by kernel_rfl)) (by kernel_rfl) (by kernel_rfl) (by kernel_rfl) (door_met18 os _)) ?_
 intro W base args ds gs before hval hW _ _ hL _
 obtain ⟨hG, hs⟩ := gl_all hL
 have hW' := hW
 obtain ⟨p, q, hA, hV, _⟩ := hW
 obtain ⟨rfl, _⟩ := trodVars_none hV
 have hA : DataW.TrodAll enc Tryd.prog W 0 (fun _ => true) true Tryd.f5.params.toList args.toList ds p := hA
 rw [Tryd.params5] at hA
 obtain ⟨v1, v2, v3, v4, v5, d1, d2, d3, d4, d5, p1, p2, p3, p4, p5, rfl, rfl, _, h1, h2, h3, h4, h5⟩ := trodAll_n5 hA
 obtain ⟨x1, x2, x3, l4, a5, c6, r1, b1_1, b1_2, b1_3, b1_4, b1_5, m1⟩ := abs55 (hval 0 55 v1 (by rw [Tryd.params5]; rfl) rfl) hs h1
 obtain ⟨x8, x9, x10, x11, x12, x13, x14, x15, x16, x17, r2, b2_1, b2_2, b2_3, b2_4, b2_5⟩ := abs58 (hval 1 58 v2 (by rw [Tryd.params5]; rfl) rfl) h2
 obtain ⟨x18, rfl, b3_1⟩ := abs28 (hval 2 28 v3 (by rw [Tryd.params5]; rfl) rfl) h3
 obtain ⟨x19, rfl, b4_1, b4_2⟩ := abs3 (hval 3 3 v4 (by rw [Tryd.params5]; rfl) rfl) h4
 obtain ⟨x20, rfl, b5_1⟩ := abs5 (hval 4 5 v5 (by rw [Tryd.params5]; rfl) rfl) h5
 have hF := F5_true 301 x1 x2 x3 l4 x8 x9 x10 x11 x12 x13 x14 x15 x16 x17 x18 x19 x20 b2_2 b2_4 b3_1 (by omega)
 exact law_calls (fn := Tryd.f5) (tb := 4) rfl rfl (by kernel_rfl) (by kernel_rfl) (by kernel_rfl) (by rw [Tryd.params5]; decide +kernel) rfl hW' hs (.cons r1 (.cons r2 (.cons (.int _ _) (.cons (.int _ _) (.cons (.int _ _) (.nil _))))))
  (W5.f5_ok 301 x1 x2 x3 l4 x8 x9 x10 x11 x12 x13 x14 x15 x16 x17 x18 x19 x20 a5 c6 true hF (memAll W) hG m1)
theorem graphCuts_said : Rows.GraphCutsSaid :=
 OpenClaim.holds_of_wide 5 Tryd.f5 rfl rfl rfl rfl rfl rfl rfl ⟨rfl, rfl, rfl, rfl, rfl⟩ rfl rfl rfl rfl rfl (by kernel_rfl) Tryd.func5 (by kernel_rfl)
  (of_decide_eq_true (by kernel_rfl)) (by unfold Func.isWrapper; first | (rw [if_pos (by decide +kernel)]; kernel_rfl) | (rw [if_neg (by decide +kernel)]; exact ⟨rfl, rfl⟩))
  (fun os started H enc _ => graphCuts_lifted os started H enc)
theorem graphCuts_card : Rows.GraphCutsCardSaid :=
 Claim7.holds_tied_plain_at .later [] [.data] true (true, "82ce1e74de2c2fd0550f480b8e22d74a151c28bcdbfc0d49ae058a53b969b62b") false
  graphCuts_said (fun _ h => by cases h) (by kernel_rfl) (fun _ h => by cases h) graphCuts_row_tie rfl ⟨rfl, rfl⟩ (by kernel_rfl) rfl
  (fun f fn hf hfn => by
   obtain rfl : f = 5 := Option.some.inj ((show Tryd.prog.funcNamed "wardmote/wardmotelaw18.GraphCuts" = some 5 by kernel_rfl).symm.trans hf) |>.symm
   obtain rfl : fn = Tryd.f5 := (Option.some.inj (Tryd.func5.symm.trans hfn)).symm
   exact ⟨by kernel_rfl, fun j t ht => by
    rw [Tryd.params5] at ht
    have h3 : t ∈ ([55, 58, 28, 3, 5] : List Nat) := by
     rcases j with _ | _ | _ | _ | _ | j
     ·have : t = 55 := by simpa using ht.symm
      subst this; decide
     ·have : t = 58 := by simpa using ht.symm
      subst this; decide
     ·have : t = 28 := by simpa using ht.symm
      subst this; decide
     ·have : t = 3 := by simpa using ht.symm
      subst this; decide
     ·have : t = 5 := by simpa using ht.symm
      subst this; decide
     ·simp at ht
    simp only [List.mem_cons, List.not_mem_nil, or_false] at h3
    rcases h3 with rfl | rfl | rfl | rfl | rfl
    ·exact (show Tryd.prog.wantsStandIn 55 = false by kernel_rfl)
    ·exact (show Tryd.prog.wantsStandIn 58 = false by kernel_rfl)
    ·exact (show Tryd.prog.wantsStandIn 28 = false by kernel_rfl)
    ·exact (show Tryd.prog.wantsStandIn 3 = false by kernel_rfl)
    ·exact (show Tryd.prog.wantsStandIn 5 = false by kernel_rfl)
    ⟩)
  (by kernel_rfl)
#print axioms graphCuts_card
end Go.Proofs.YtpclggcpobakhaaDoor
