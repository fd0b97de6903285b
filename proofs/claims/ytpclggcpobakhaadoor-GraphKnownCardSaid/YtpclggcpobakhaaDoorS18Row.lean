/-
  Chapter 18: rows of closed laws, out of a run of the interpreter.
-/
import Derived.Test.YtpclggcpobakhaaDoorAbsPrim
import Derived.Test.YtpclggcpobakhaaDoorRows
import Derived.Test.YtpclggcpobakhaaDoorTie
import Derived.Test.YtpclggcpobakhaaDoorCards
import Derived.ProofKit
import Derived.LaidMore
import Derived.OpenShut
import Derived.Stop.Joined
import Derived.SevenTiedAt
namespace Go.Proofs.YtpclggcpobakhaaDoor
open Go.ChangeShapes Go.WideShapes Go.ChangeAt Go.WideMaps Go.WideElems Go.RowKit Go.Ab

theorem own18 : ownKnob Tryd.prog.godebug = none := by kernel_rfl
theorem gTab : Tryd.prog.globalNamed "math/bits.deBruijn64tab" = some 0 := by kernel_rfl

def tabInts : List Int := [0, 1, 56, 2, 57, 49, 28, 3, 61, 58, 42, 50, 38, 29, 17, 4, 62, 47, 59, 36, 45, 43, 51, 22, 53, 39, 33, 30, 24, 18, 12, 5, 63, 55, 48, 27, 60, 41, 37, 16, 46, 35, 44, 21, 52, 32, 23, 11, 54, 26, 40, 15, 34, 20, 31, 10, 25, 14, 19, 9, 13, 8, 7, 6]
abbrev laid18 : List (String × DataW Unit) := [("math/bits.deBruijn64tab", Rows.laid_math_bits_deBruijn64tab)]
def tab18 : Nat → Option (List Value) := fun b => if b = 0 then some (tabInts.map (.int .u8)) else none
def m18 : AMem := memG 1 tab18
noncomputable def E18 : Env := { P := Tryd.prog, glob := 1, prim := fun _ => none }

theorem progOk18 : progOk Tryd.prog = true := by kernel_rfl
theorem E18ok : EnvOk E18 := envOk_of progOk18 (fun f p h => by cases h)

theorem of_laid18 {W : World} (h : laidMetH Tryd.prog laid18 W) : MR E18 (injG 1) m18 W := by
  rw [MakeChecks.laidMetH_plain _ _ _ (by kernel_rfl)] at h
  obtain ⟨ps, hL, _⟩ := h
  have ht : (Tryd.prog.globals[0]?).map (·.type) = some 104 := by kernel_rfl
  obtain ⟨c, ty, fz, h1, h2⟩ := laid_ints (L := tabInts) (k := .u8) (N := 64) (t := 104) (e := 5) gTab ht (by kernel_rfl) (by kernel_rfl) (by kernel_rfl) (by kernel_rfl) rfl hL
  refine mr_memG (Nat.le_refl _) (Array.getElem?_eq_some_iff.1 h1).1 fun b cs hb hb1 => ?_
  have : b = 0 := by omega
  subst this
  simp only [tab18, if_true, Option.some.injEq] at hb
  subst hb
  refine ⟨c, ty, fz, h1, ?_⟩
  rw [h2]
  exact LR.plain (by decide)

theorem door_met18 (os : Os) (args : Array Value) : laidMetH Tryd.prog laid18 ((World.doorLaid Tryd.prog 400 os).forCall (fun _ _ => 0) ⟨#[], args, []⟩).memory :=
  laidMetH_of_parts3 (fuel := 8) (laidMet_of_run' 8 (by kernel_rfl) (by kernel_rfl)) (by kernel_rfl) (by kernel_rfl)

set_option maxRecDepth 100000 in
theorem known_lifted {pr : FuncId → Option Prim} (hE : EnvOk { E18 with prim := pr }) (h3 : pr 3 = none) {fuel : Nat} {m' : AMem} (hrun : run { E18 with prim := pr } fuel (.call 3 [] m18) = some (.val (.bool true) m')) (hwl : 1 ≤ m'.wl) (os : Os) (started : os.Started) (H : Type) (enc : TypeId × Value → H) :
    ReturnsInHanded {} Tryd.checked os 3 .any (fun w args => (Rows.graphKnownSpec.pre enc Tryd.prog Tryd.f3 [] false w args ∧ laidMetH Tryd.prog laid18 w) ∧ sizedMet enc Tryd.prog Tryd.f3 (OpenSpec.ofChange Rows.graphKnownSpec) false w args)
      (Rows.graphKnownSpec.post enc Tryd.prog Tryd.f3 false true false false) := by
  refine returnsInHanded_of_change_and (C := Tryd.checked) (X := fun w _ => laidMetH Tryd.prog laid18 w) (fun _ _ _ hh h => h.of_heap hh) own18 started (by kernel_rfl) Tryd.func3
    (ChangeSpec.witness_shaped (enc := enc) (C := Tryd.checked) (os := os) (X := fun w _ => laidMetH Tryd.prog laid18 w) false (World.doorLaid Tryd.prog 400 os) #[] 8 rfl (World.shaped_of_RefB (by kernel_rfl) (by kernel_rfl)) (by kernel_rfl) (by kernel_rfl) (by kernel_rfl) (door_met18 os _)) ?_
  intro W base args ds gs before hval0 hW _ _ hL _
  have hW' := hW
  obtain ⟨p, q, hA0, hV, rfl, hfz, hnd⟩ := hW
  have hA : DataW.TrodAll enc Tryd.prog W 0 (fun _ => true) true Tryd.f3.params.toList args.toList ds p := hA0
  rw [Tryd.params3] at hA
  obtain ⟨ha, rfl, rfl⟩ := trodAll_nil hA
  obtain ⟨rfl, rfl⟩ := trodVars_none hV
  obtain rfl : args = #[] := by apply Array.toList_inj.1; exact ha
  simp only [List.append_nil] at hW'
  have hm : MR { E18 with prim := pr } (injG 1) m18 W := MR.env (E := E18) rfl (of_laid18 hL)
  have hc := callsIn_wide.1 (calls_of_run hE hrun h3 hm (LR.nil _))
  refine hc.mono fun e W' ⟨v', he, j', s, hv⟩ => ?_
  have hv' : v' = .bool true := plain1_eq rfl hv
  subst hv'
  refine ⟨_, he, ?_⟩
  have hg := s.grown hm hwl
  exact ⟨_, _, _, [], [], [], hW', trodAll_mk1 (shut_bool (by kernel_rfl) true), trodAll_mk0, rfl, keptBut_of_same s.calm hg _, fun h => by cases h⟩

theorem known_holds {pr : FuncId → Option Prim} (hE : EnvOk { E18 with prim := pr }) (h3 : pr 3 = none) {fuel : Nat} {m' : AMem} (hrun : run { E18 with prim := pr } fuel (.call 3 [] m18) = some (.val (.bool true) m')) (hwl : 1 ≤ m'.wl) : Rows.GraphKnownSaid :=
  OpenClaim.holds_of_wide 3 Tryd.f3 rfl rfl rfl rfl rfl rfl rfl ⟨rfl, rfl, rfl, rfl, rfl⟩ rfl rfl rfl rfl rfl (by kernel_rfl) Tryd.func3 (by kernel_rfl)
    (of_decide_eq_true (by kernel_rfl)) (by unfold Func.isWrapper; first | (rw [if_pos (by decide +kernel)]; kernel_rfl) | (rw [if_neg (by decide +kernel)]; exact ⟨rfl, rfl⟩))
    (fun os started H enc _ => known_lifted hE h3 hrun hwl os started H enc)

theorem known_card (h : Rows.GraphKnownSaid) : Rows.GraphKnownCardSaid :=
  Claim7.holds_tied_plain_at .later [] [.data] true (true, "82ce1e74de2c2fd0550f480b8e22d74a151c28bcdbfc0d49ae058a53b969b62b") false
    h (fun _ h => by cases h) (by kernel_rfl) (fun _ h => by cases h) graphKnown_row_tie rfl ⟨rfl, rfl⟩ (by kernel_rfl) rfl
    (fun f fn hf hfn => by
      obtain rfl : f = 3 := Option.some.inj ((show Tryd.prog.funcNamed "wardmote/wardmotelaw18.GraphKnown" = some 3 by kernel_rfl).symm.trans hf) |>.symm
      obtain rfl : fn = Tryd.f3 := (Option.some.inj (Tryd.func3.symm.trans hfn)).symm
      exact ⟨by kernel_rfl, fun j t ht => by
        rw [Tryd.params3] at ht
        simp at ht⟩)
    (by kernel_rfl)
end Go.Proofs.YtpclggcpobakhaaDoor
