/- GraphChecks returns true for every draft, every two changes and every graph: its walk by the abstract machine, which is proved to follow the model, comes to a plain Lean function, and that is true. Conditions: none beyond those of the row. -/
import Derived.Test.YtpclggcpobakhaaDoorGc5
namespace Go.Proofs.YtpclggcpobakhaaDoor
set_option maxRecDepth 100000
open Go Go.ChangeShapes Go.WideShapes Go.ChangeAt Go.WideMaps Go.WideElems Go.RowKit Go.Ab Go.Ab.W

theorem checks_met (os : Os) (args : Array Value) : laidMetH Tryd.prog laid18 ((World.doorLaid Tryd.prog 400 os).forCall (fun _ _ => 0) ⟨#[], args, []⟩).memory := door_met18 os args
abbrev checksArgs : Array Value := #[.agg #[.int .u8 0, .int .u8 0, .int .u16 0, .slice none 0 0], .agg #[.int .u8 0, .int .u8 0, .int .i64 0, .int .i64 0, .int .i64 0, .int .u8 0, .int .u8 0, .int .i64 0, .int .i64 0, .int .i64 0], .agg #[.int .i64 0, .slice none 0 0]]
theorem checks_lifted (os : Os) (started : os.Started) (H : Type) (enc : TypeId × Value → H) :
    ReturnsInHanded {} Tryd.checked os 7 .any (fun w args => (Rows.graphChecksSpec.pre enc Tryd.prog Tryd.f7 [] false w args ∧ laidMetH Tryd.prog laid18 w) ∧ sizedMet enc Tryd.prog Tryd.f7 (OpenSpec.ofChange Rows.graphChecksSpec) false w args)
      (Rows.graphChecksSpec.post enc Tryd.prog Tryd.f7 false true false false) := by
  refine returnsInHanded_of_change_and (C := Tryd.checked) (X := fun w _ => laidMetH Tryd.prog laid18 w) (fun _ _ _ hh h => h.of_heap hh) own18 started (by kernel_rfl) Tryd.func7
    (ChangeSpec.witness_shaped (enc := enc) (C := Tryd.checked) (os := os) (X := fun w _ => laidMetH Tryd.prog laid18 w) false (World.doorLaid Tryd.prog 400 os) checksArgs 8 rfl (World.shaped_of_RefB (by kernel_rfl) (by kernel_rfl)) (by kernel_rfl) (by kernel_rfl) (by kernel_rfl) (door_met18 os _)) ?_
  intro W base args ds gs before hval hW _ _ hL _
  obtain ⟨hG, hs⟩ := gl_all hL
  have hW' := hW
  obtain ⟨p, q, hA, hV, _⟩ := hW
  obtain ⟨rfl, _⟩ := trodVars_none hV
  have hA : DataW.TrodAll enc Tryd.prog W 0 (fun _ => true) true Tryd.f7.params.toList args.toList ds p := hA
  rw [Tryd.params7] at hA
  obtain ⟨v1, v2, v3, d1, d2, d3, p1, p2, p3, rfl, rfl, _, h1, h2, h3⟩ := trodAll_three hA
  obtain ⟨x1, x2, x3, l4, a5, c6, r1, _, _, _, _, _, m1⟩ := abs55 (hval 0 55 v1 (by rw [Tryd.params7]; rfl) rfl) hs h1
  obtain ⟨x8, x9, x10, x11, x12, x13, x14, x15, x16, x17, r2, _, g9, _, g14, _⟩ := abs58 (hval 1 58 v2 (by rw [Tryd.params7]; rfl) rfl) h2
  obtain ⟨x18, l19, a20, c21, r3, _, _, _, m3⟩ := abs25 (hval 2 25 v3 (by rw [Tryd.params7]; rfl) rfl) hs h3
  have hF := F7_true 301 x1 x2 x3 l4 x8 x9 x10 x11 x12 x13 x14 x15 x16 x17 x18 l19 g9 g14 (by omega)
  exact law_calls (fn := Tryd.f7) (tb := 4) rfl rfl (by kernel_rfl) (by kernel_rfl) (by kernel_rfl) (by rw [Tryd.params7]; decide +kernel) rfl hW' hs (.cons r1 (.cons r2 (.cons r3 (.nil _))))
    (W7.f7_ok 301 x1 x2 x3 l4 x8 x9 x10 x11 x12 x13 x14 x15 x16 x17 x18 l19 a5 c6 a20 c21 true hF (memAll W) hG m1 m3)
theorem graphChecks_said : Rows.GraphChecksSaid :=
  OpenClaim.holds_of_wide 7 Tryd.f7 rfl rfl rfl rfl rfl rfl rfl ⟨rfl, rfl, rfl, rfl, rfl⟩ rfl rfl rfl rfl rfl (by kernel_rfl) Tryd.func7 (by kernel_rfl)
    (of_decide_eq_true (by kernel_rfl)) (by unfold Func.isWrapper; first | (rw [if_pos (by decide +kernel)]; kernel_rfl) | (rw [if_neg (by decide +kernel)]; exact ⟨rfl, rfl⟩))
    (fun os started H enc _ => checks_lifted os started H enc)
theorem graphChecks_card : Rows.GraphChecksCardSaid :=
  Claim7.holds_tied_plain_at .later [] [.data] true (true, "82ce1e74de2c2fd0550f480b8e22d74a151c28bcdbfc0d49ae058a53b969b62b") false
    graphChecks_said (fun _ h => by cases h) (by kernel_rfl) (fun _ h => by cases h) graphChecks_row_tie rfl ⟨rfl, rfl⟩ (by kernel_rfl) rfl
    (fun f fn hf hfn => by
      obtain rfl : f = 7 := Option.some.inj ((show Tryd.prog.funcNamed "wardmote/wardmotelaw18.GraphChecks" = some 7 by kernel_rfl).symm.trans hf) |>.symm
      obtain rfl : fn = Tryd.f7 := (Option.some.inj (Tryd.func7.symm.trans hfn)).symm
      exact ⟨by kernel_rfl, fun j t ht => by
        rw [Tryd.params7] at ht
        have h3 : t = 55 ∨ t = 58 ∨ t = 25 := by
          rcases j with _ | _ | _ | j
          · exact .inl (by simpa using ht.symm)
          · exact .inr (.inl (by simpa using ht.symm))
          · exact .inr (.inr (by simpa using ht.symm))
          · simp at ht
        rcases h3 with rfl | rfl | rfl
        · exact (show Tryd.prog.wantsStandIn 55 = false by kernel_rfl)
        · exact (show Tryd.prog.wantsStandIn 58 = false by kernel_rfl)
        · exact (show Tryd.prog.wantsStandIn 25 = false by kernel_rfl)⟩)
    (by kernel_rfl)
#print axioms graphChecks_card
end Go.Proofs.YtpclggcpobakhaaDoor
