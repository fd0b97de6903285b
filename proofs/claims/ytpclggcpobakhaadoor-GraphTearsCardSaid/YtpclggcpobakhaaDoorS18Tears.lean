/- GraphTears returns true for every draft, every two changes and every set: its walk by the abstract machine, which is proved to follow the model, comes to a plain Lean function, and that is true. Conditions: none beyond those of the row. -/
import Derived.Test.YtpclggcpobakhaaDoorGt6
namespace Go.Proofs.YtpclggcpobakhaaDoor
set_option maxRecDepth 100000
open Go Go.ChangeShapes Go.WideShapes Go.ChangeAt Go.WideMaps Go.WideElems Go.RowKit Go.Ab Go.Ab.W

abbrev graphTearsArgs : Array Value := #[.agg #[.int .u8 0, .int .u8 0, .int .u16 0, .slice none 0 0], .agg #[.int .u8 0, .int .u8 0, .int .i64 0, .int .i64 0, .int .i64 0, .int .u8 0, .int .u8 0, .int .i64 0, .int .i64 0, .int .i64 0], .int .u64 0]
theorem graphTears_lifted (os : Os) (started : os.Started) (H : Type) (enc : TypeId × Value → H) :
  ReturnsInHanded {} Tryd.checked os 10 .any (fun w args => (Rows.graphTearsSpec.pre enc Tryd.prog Tryd.f10 [] false w args ∧ laidMetH Tryd.prog laid18 w) ∧ sizedMet enc Tryd.prog Tryd.f10 (OpenSpec.ofChange Rows.graphTearsSpec) false w args)
   (Rows.graphTearsSpec.post enc Tryd.prog Tryd.f10 false true false false) := by
 refine returnsInHanded_of_change_and (C := Tryd.checked) (X := fun w _ => laidMetH Tryd.prog laid18 w) (fun _ _ _ hh h => h.of_heap hh) own18 started (by kernel_rfl) Tryd.func10
  (ChangeSpec.witness_shaped (enc := enc) (C := Tryd.checked) (os := os) (X := fun w _ => laidMetH Tryd.prog laid18 w) false (World.doorLaid Tryd.prog 400 os) graphTearsArgs 8 rfl (World.shaped_of_RefB (by kernel_rfl) (by kernel_rfl)) (by kernel_rfl) (by kernel_rfl) (by kernel_rfl) (door_met18 os _)) ?_
 intro W base args ds gs before hval hW _ _ hL _
 obtain ⟨hG, hs⟩ := gl_all hL
 have hW' := hW
 obtain ⟨p, q, hA, hV, _⟩ := hW
 obtain ⟨rfl, _⟩ := trodVars_none hV
 have hA : DataW.TrodAll enc Tryd.prog W 0 (fun _ => true) true Tryd.f10.params.toList args.toList ds p := hA
 rw [Tryd.params10] at hA
 obtain ⟨v1, v2, v3, d1, d2, d3, p1, p2, p3, rfl, rfl, _, h1, h2, h3⟩ := trodAll_three hA
 obtain ⟨x1, x2, x3, l4, a5, c6, r1, b1_1, b1_2, b1_3, b1_4, b1_5, m1⟩ := abs55 (hval 0 55 v1 (by rw [Tryd.params10]; rfl) rfl) hs h1
 obtain ⟨x8, x9, x10, x11, x12, x13, x14, x15, x16, x17, r2, b2_1, b2_2, b2_3, b2_4, b2_5⟩ := abs58 (hval 1 58 v2 (by rw [Tryd.params10]; rfl) rfl) h2
 obtain ⟨x18, rfl, b3_1⟩ := abs28 (hval 2 28 v3 (by rw [Tryd.params10]; rfl) rfl) h3
 have hF := F10_true 301 x1 x2 x3 l4 x8 x9 x10 x11 x12 x13 x14 x15 x16 x17 x18 b2_2 b2_4 b3_1 (by omega)
 exact law_calls (fn := Tryd.f10) (tb := 4) rfl rfl (by kernel_rfl) (by kernel_rfl) (by kernel_rfl) (by rw [Tryd.params10]; decide +kernel) rfl hW' hs (.cons r1 (.cons r2 (.cons (.int _ _) (.nil _))))
  (W10.f10_ok 301 x1 x2 x3 l4 x8 x9 x10 x11 x12 x13 x14 x15 x16 x17 x18 a5 c6 true hF (memAll W) hG m1)
theorem graphTears_said : Rows.GraphTearsSaid :=
 OpenClaim.holds_of_wide 10 Tryd.f10 rfl rfl rfl rfl rfl rfl rfl ⟨rfl, rfl, rfl, rfl, rfl⟩ rfl rfl rfl rfl rfl (by kernel_rfl) Tryd.func10 (by kernel_rfl)
  (of_decide_eq_true (by kernel_rfl)) (by unfold Func.isWrapper; first | (rw [if_pos (by decide +kernel)]; kernel_rfl) | (rw [if_neg (by decide +kernel)]; exact ⟨rfl, rfl⟩))
  (fun os started H enc _ => graphTears_lifted os started H enc)
theorem graphTears_card : Rows.GraphTearsCardSaid :=
 Claim7.holds_tied_plain_at .later [] [.data] true (true, "82ce1e74de2c2fd0550f480b8e22d74a151c28bcdbfc0d49ae058a53b969b62b") false
  graphTears_said (fun _ h => by cases h) (by kernel_rfl) (fun _ h => by cases h) graphTears_row_tie rfl ⟨rfl, rfl⟩ (by kernel_rfl) rfl
  (fun f fn hf hfn => by
   obtain rfl : f = 10 := Option.some.inj ((show Tryd.prog.funcNamed "wardmote/wardmotelaw18.GraphTears" = some 10 by kernel_rfl).symm.trans hf) |>.symm
   obtain rfl : fn = Tryd.f10 := (Option.some.inj (Tryd.func10.symm.trans hfn)).symm
   exact ⟨by kernel_rfl, fun j t ht => by
    rw [Tryd.params10] at ht
    have h3 : t ∈ ([55, 58, 28] : List Nat) := by
     rcases j with _ | _ | _ | j
     ·have : t = 55 := by simpa using ht.symm
      subst this; decide
     ·have : t = 58 := by simpa using ht.symm
      subst this; decide
     ·have : t = 28 := by simpa using ht.symm
      subst this; decide
     ·simp at ht
    simp only [List.mem_cons, List.not_mem_nil, or_false] at h3
    rcases h3 with rfl | rfl | rfl
    ·exact (show Tryd.prog.wantsStandIn 55 = false by kernel_rfl)
    ·exact (show Tryd.prog.wantsStandIn 58 = false by kernel_rfl)
    ·exact (show Tryd.prog.wantsStandIn 28 = false by kernel_rfl)
    ⟩)
  (by kernel_rfl)
#print axioms graphTears_card
end Go.Proofs.YtpclggcpobakhaaDoor
