/- GraphKnown returns true: the kernel evaluates the law by the abstract machine, which is proved to follow the model; two functions are evaluated by their contracts, four calls have been evaluated before. Conditions: none beyond those of the row. -/
import Derived.Test.YtpclggcpobakhaaDoorS18M20
import Derived.Test.YtpclggcpobakhaaDoorS18M18
import Derived.Test.YtpclggcpobakhaaDoorS18M19
import Derived.Test.YtpclggcpobakhaaDoorS18M25
namespace Go.Proofs.YtpclggcpobakhaaDoor
open Go Go.Ab
set_option maxRecDepth 100000

def run20 (args : List Value) (m : AMem) : Option (Value × AMem) :=
  match args with
  | [x, .int .u64 s, .int .i64 a] => match rowArg m x with
    | some _ => if s == 18446744073709551615 && a == 0 then some (.tuple #[.slice (some ⟨m.next, 0, none⟩) 64 64, .int .i64 0], m.alloc (.cells (ints upI) .own)) else none
    | none => none
  | _ => none
def run18 (args : List Value) (m : AMem) : Option (Value × AMem) :=
  match args with
  | [x, .int .u64 s] => match rowArg m x with
    | some _ => if s == 18446744073709551615 then some (.tuple #[.slice (some ⟨m.next, 0, none⟩) 63 63, .int .i64 0], m.alloc (.cells (ints rowI) (.more 2))) else none
    | none => none
  | _ => none
def run19 (args : List Value) (m : AMem) : Option (Value × AMem) :=
  match args with
  | [x, .int .u64 s] => match rowArg m x with
    | some _ => if s == 18446744073709551615 then some (.tuple #[.int .u64 9223372036854775806, .int .i64 0], m) else none
    | none => none
  | _ => none
def run25 (args : List Value) (m : AMem) : Option (Value × AMem) :=
  match args with
  | [x, .int .u64 s] => match rowArg m x with
    | some _ => if s == 6148914691236517205 then some (.int .i64 32, m) else none
    | none => none
  | _ => none
def pr18m (f : FuncId) : Option Prim := if f = 20 then some ⟨run20⟩ else if f = 18 then some ⟨run18⟩ else if f = 19 then some ⟨run19⟩ else if f = 25 then some ⟨run25⟩ else pr18 f
theorem E18m_ok : EnvOk { E18 with prim := pr18m } := envOk_more (E := E18p) E18p_ok (pr := pr18m) fun f p hp => by
  unfold pr18m at hp
  split at hp
  · rename_i e
    cases hp
    refine .inr fun args m v m' h => ?_
    subst e
    replace h : run20 args m = some (v, m') := h
    unfold run20 at h
    split at h
    · split at h
      · rename_i b hb
        split at h
        · rename_i hc
          cases h
          simp only [Bool.and_eq_true, beq_iff_eq] at hc
          obtain ⟨h1, h2, h3, h4⟩ := rowArg_true hb
          rw [h1, hc.1, hc.2]
          exact listMemo A20_leads fast_20 h2 h3 h4
        · cases h
      · cases h
    · cases h
  · split at hp
    · rename_i e
      cases hp
      refine .inr fun args m v m' h => ?_
      subst e
      replace h : run18 args m = some (v, m') := h
      unfold run18 at h
      split at h
      · split at h
        · rename_i b hb
          split at h
          · rename_i hc
            cases h
            simp only [beq_iff_eq] at hc
            obtain ⟨h1, h2, h3, h4⟩ := rowArg_true hb
            rw [h1, hc]
            exact listMemo A18_leads fast_18 h2 h3 h4
          · cases h
        · cases h
      · cases h
    · split at hp
      · rename_i e
        cases hp
        refine .inr fun args m v m' h => ?_
        subst e
        replace h : run19 args m = some (v, m') := h
        unfold run19 at h
        split at h
        · split at h
          · rename_i b hb
            split at h
            · rename_i hc
              cases h
              simp only [beq_iff_eq] at hc
              obtain ⟨h1, h2, h3, h4⟩ := rowArg_true hb
              rw [h1, hc]
              exact plainMemo A18_leads rfl isWord_true fast_19 h2 h3 h4
            · cases h
          · cases h
        · cases h
      · split at hp
        · rename_i e
          cases hp
          refine .inr fun args m v m' h => ?_
          subst e
          replace h : run25 args m = some (v, m') := h
          unfold run25 at h
          split at h
          · split at h
            · rename_i b hb
              split at h
              · rename_i hc
                cases h
                simp only [beq_iff_eq] at hc
                obtain ⟨h1, h2, h3, h4⟩ := rowArg_true hb
                rw [h1, hc]
                exact plainMemo A25_leads rfl isInt_true fast_25 h2 h3 h4
              · cases h
            · cases h
          · cases h
        · exact .inl hp
noncomputable abbrev E18m : Env := { E18 with prim := pr18m }
theorem fast18m_ok : FOk E18m fast18 := by
  intro f S hS
  unfold fast18 at hS
  split at hS
  · rename_i e; cases hS; subst e
    exact ⟨⟨tzRun⟩, rfl, fun h => tzK_ok h⟩
  · split at hS
    · rename_i e; cases hS; subst e
      exact ⟨⟨aroundRun⟩, rfl, fun h => aroundK_ok h⟩
    · cases hS
set_option maxHeartbeats 0 in
theorem known_fast : (hand E18m fast18 1000).call 3 [] m18 (yesK 1) = true := by decide +kernel
theorem pr18m_3 : pr18m 3 = none := by
  unfold pr18m pr18
  simp
theorem known_run : ∃ fuel m', run { E18 with prim := pr18m } fuel (.call 3 [] m18) = some (.val (.bool true) m') ∧ 1 ≤ m'.wl := yes_of_fast (E := E18m) (F := fast18) (n := 1000) (g := 1) fast18m_ok known_fast
theorem graphKnown_said : Rows.GraphKnownSaid := by
  obtain ⟨fuel, m', h1, h2⟩ := known_run
  exact known_holds (pr := pr18m) E18m_ok pr18m_3 h1 h2
theorem graphKnown_card : Rows.GraphKnownCardSaid := known_card graphKnown_said
end Go.Proofs.YtpclggcpobakhaaDoor
