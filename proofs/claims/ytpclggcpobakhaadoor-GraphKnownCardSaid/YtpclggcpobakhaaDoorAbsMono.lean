/-
  The abstract machine: more fuel does no harm; runs as a relation, and its rules.
-/
import Derived.Test.YtpclggcpobakhaaDoorAbsCtl
namespace Go.Ab
open Go

section
variable {E : Env} {k k' : K}

def KLe (k k' : K) : Prop := ∀ tk r, k tk = some r → k' tk = some r

theorem oper1_mono (h : KLe k k') {t : Tm} {m : AMem} {o : Op} {x : Value × AMem} (e : oper1 k E t m o = some x) : oper1 k' E t m o = some x := by
  unfold oper1 at e ⊢
  split at e
  · rename_i c
    try simp only
    split at e
    · rename_i f hc
      try simp only
      split at e
      · rename_i g first captured args h1 h2
        try simp only [h1, h2]
        split at e
        · rename_i v m' hk
          rw [h _ _ hk]; exact e
        · cases e
      · rename_i l first cap args h1 h2
        try simp only [h1, h2]
        split at e
        · rename_i v m' hk
          rw [h _ _ hk]; exact e
        · cases e
      · cases e
    · rename_i hne
      first
        | exact e
        | (split
           · rename_i f hc; exact (hne f hc).elim
           · exact e)
  · rename_i hne
    first
      | exact e
      | (split
         · rename_i c; exact (hne c rfl).elim
         · exact e)

theorem runOps_mono (h : KLe k k') {n : Nat} {ops : Array Oper} : ∀ {os : List Oper} {t : Tm} {m : AMem} {x : Tm × AMem}, runOps k E n ops os t m = some x → runOps k' E n ops os t m = some x
  | [], t, m, x, e => e
  | o :: os, t, m, x, e => by
    simp only [runOps] at e ⊢
    split at e
    · rename_i hw
      rw [if_pos hw]
      split at e
      · rename_i v m' ho
        rw [oper1_mono h ho]
        try simp only
        split at e
        · rename_i t' hp
          try simp only [hp]
          exact runOps_mono h e
        · cases e
      · cases e
    · rename_i hw
      rw [if_neg hw]
      split at e
      · rename_i t' hp
        try simp only [hp]
        exact runOps_mono h e
      · cases e

theorem runNoted_mono (h : KLe k k') {n : Nat} {ops : Array Oper} : ∀ {os : List Oper} {t : Tm} {m : AMem} {x : Tm × AMem × List Note}, runNoted k E n ops os t m = some x → runNoted k' E n ops os t m = some x
  | [], t, m, x, e => e
  | o :: os, t, m, x, e => by
    simp only [runNoted] at e ⊢
    split at e
    · rename_i hw
      rw [if_pos hw]
      split at e
      · rename_i v m' ho
        rw [oper1_mono h ho]
        try simp only
        split at e
        · rename_i t' hp
          try simp only [hp]
          split at e
          · rename_i a b c hr
            rw [runNoted_mono h hr]; exact e
          · cases e
        · cases e
      · cases e
    · rename_i hw
      rw [if_neg hw]
      split at e
      · rename_i t' hp
        try simp only [hp]
        split at e
        · rename_i a b c hr
          rw [runNoted_mono h hr]; exact e
        · cases e
      · cases e

theorem step_mono (h : KLe k k') {tk : Task} {r : Res} (e : step E k tk = some r) : step E k' tk = some r := by
  cases tk with
  | code c fr m =>
    cases c with
    | seq a b =>
      simp only [step] at e ⊢
      split at e
      · rename_i t1 m1 h1
        rw [h _ _ h1]; exact h _ _ e
      · rename_i e1 t1 m1 hne h1
        rw [h _ _ h1]
        cases e1 with
        | normal => exact (hne rfl).elim
        | exit id => exact e
        | ret => exact e
      · cases e
    | cond x a b =>
      simp only [step] at e ⊢
      split at e
      · rename_i hx; try simp only [hx]
        exact h _ _ e
      · rename_i hx; try simp only [hx]
        exact h _ _ e
      · cases e
    | block id a =>
      simp only [step] at e ⊢
      split at e
      · rename_i id' t1 m1 h1
        rw [h _ _ h1]; exact e
      · rename_i e1 t1 m1 hne h1
        rw [h _ _ h1]
        cases e1 with
        | exit id' => exact (hne _ rfl).elim
        | normal => exact e
        | ret => exact e
      · cases e
    | loop a => simp only [step] at e ⊢; exact h _ _ e
    | scope a =>
      simp only [step] at e ⊢
      split at e
      · rename_i e1 t1 m1 h1
        rw [h _ _ h1]; exact e
      · cases e
    | region id ops draw =>
      simp only [step] at e ⊢
      split at e
      · rename_i hd
        rw [if_pos hd]
        split at e
        · rename_i ps hps
          try simp only [hps]
          split at e
          · rename_i t1 m1 ns hr
            rw [runNoted_mono h hr]; exact e
          · cases e
        · cases e
      · rename_i hd
        rw [if_neg hd]
        split at e
        · rename_i t1 m1 hr
          rw [runOps_mono h hr]; exact e
        · cases e
    | rangeFunc f ps as bd =>
      simp only [step] at e ⊢
      split at e
      · rename_i g first captured hg har
        try simp only [hg, har]
        split at e
        · rename_i v m2 hk
          rw [h _ _ hk]
          try simp only
          split at e
          · rename_i r2 hl
            try simp only [hl]
            split at e
            · cases e
            · rename_i hb
              revert e
              cases hs : r2.state
              case busy => exact (hb hs).elim
              all_goals
                cases hp : r2.pending with
                | none => intro e; exact e
                | some c =>
                  intro e
                  simp only at e ⊢
                  split at e
                  · rename_i e1 t1 m1 hk2
                    rw [h _ _ hk2]; exact e
                  · cases e
          · cases e
        · cases e
      · cases e
    | _ => exact e
  | loop c fr m =>
    simp only [step] at e ⊢
    split at e
    · rename_i t1 m1 h1
      rw [h _ _ h1]; exact h _ _ e
    · rename_i e1 t1 m1 hne h1
      rw [h _ _ h1]
      cases e1 with
      | normal => exact (hne rfl).elim
      | exit id => exact e
      | ret => exact e
    · cases e
  | call f args m =>
    simp only [step] at e ⊢
    split at e
    · rename_i p hp
      try simp only [hp]
      exact e
    · rename_i hp
      try simp only [hp]
      split at e
      · rename_i fn hf
        try simp only [hf]
        split at e
        · rename_i c hb
          try simp only [hb]
          split at e
          · cases e
          · rename_i e1 t1 m1 hne h1
            rw [h _ _ h1]
            cases e1 with
            | exit id => exact (hne _ rfl).elim
            | normal => exact e
            | ret => exact e
          · cases e
        · cases e
      · cases e
  | round l args m =>
    simp only [step] at e ⊢
    split at e
    · rename_i r1 hl
      try simp only [hl]
      split at e
      · rename_i hs
        try simp only [hs]
        split at e
        · cases e
        · rename_i hlen
          rw [if_neg hlen]
          split at e
          · cases e
          · rename_i t0 hsp
            try simp only [hsp]
            split at e
            · rename_i t1 m1 h1
              rw [h _ _ h1]
              try simp only
              split at e
              · rename_i r2 hl2
                try simp only [hl2]
                split at e
                · rename_i hs2
                  try simp only [hs2]
                  split at e
                  · rename_i e2 t2 m2 h2
                    rw [h _ _ h2]; exact e
                  · cases e
                · cases e
              · cases e
            · cases e
      · cases e
    · cases e

theorem run_succ {n : Nat} {tk : Task} {r : Res} : run E n tk = some r → run E (n + 1) tk = some r := by
  induction n generalizing tk r with
  | zero => intro h; cases h
  | succ n ih => intro h; exact step_mono (fun _ _ => ih) h

theorem run_le {n n' : Nat} (hn : n ≤ n') {tk : Task} {r : Res} (h : run E n tk = some r) : run E n' tk = some r := by
  induction hn with
  | refl => exact h
  | step _ ih => exact run_succ ih

/-! ### Runs -/
def Runs (E : Env) (tk : Task) (r : Res) : Prop := ∃ n, run E n tk = some r
end
end Go.Ab
