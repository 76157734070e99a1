/-
  The order of paths: total, strict; a path's pieces below another. Plain lemmas; no program in sight.
-/
import Derived.Test.YtgmomhdammdjgaaGreatSort
set_option linter.unusedVariables false
set_option linter.unusedSimpArgs false
namespace Go.Proofs.YtgmomhdammdjgaaGreat
open Go Go.Proofs Go.RowKit

theorem less_ne {a b : Str} (h : Op.bytesLess a b = true) : a ≠ b := fun e => by subst e; rw [less_irr] at h; cases h
theorem cmpL_refl : ∀ (x : List Str), cmpL x x = 0
  | [] => rfl
  | a :: x => by simp [cmpL, less_irr, cmpL_refl x]
theorem cmpL_zero : ∀ {x y : List Str}, cmpL x y = 0 → x = y := by
  intro x
  induction x with
  | nil => intro y h; cases y with
    | nil => rfl
    | cons b y => simp [cmpL] at h
  | cons a x ih =>
    intro y h
    cases y with
    | nil => simp [cmpL] at h
    | cons b y =>
      simp only [cmpL] at h
      by_cases h1 : Op.bytesLess a b = true
      · simp [h1] at h
      · by_cases h2 : Op.bytesLess b a = true
        · simp [h1, h2] at h
        · simp only [h1, h2, if_false, Bool.false_eq_true] at h
          have e1 : a = b := less_tri (by simpa using h1) (by simpa using h2)
          rw [e1, ih h]
theorem cmpL_swap : ∀ (x y : List Str), cmpL y x = - cmpL x y := by
  intro x
  induction x with
  | nil => intro y; cases y <;> simp [cmpL]
  | cons a x ih =>
    intro y
    cases y with
    | nil => simp [cmpL]
    | cons b y =>
      simp only [cmpL]
      by_cases h1 : Op.bytesLess a b = true
      · have := less_asym h1
        simp [h1, this]
      · by_cases h2 : Op.bytesLess b a = true
        · simp [h1, h2]
        · simp [h1, h2, ih y]
theorem cmpL_range : ∀ (x y : List Str), cmpL x y = -1 ∨ cmpL x y = 0 ∨ cmpL x y = 1 := by
  intro x
  induction x with
  | nil => intro y; cases y <;> simp [cmpL]
  | cons a x ih =>
    intro y
    cases y with
    | nil => simp [cmpL]
    | cons b y =>
      simp only [cmpL]
      split
      · exact .inl rfl
      · split
        · exact .inr (.inr rfl)
        · exact ih y
theorem cmpL_trans : ∀ {x y z : List Str}, cmpL x y < 0 → cmpL y z < 0 → cmpL x z < 0 := by
  intro x
  induction x with
  | nil =>
    intro y z h1 h2
    cases z with
    | nil => cases y <;> simp [cmpL] at h1 h2
    | cons c z => simp [cmpL]
  | cons a x ih =>
    intro y z h1 h2
    cases y with
    | nil => simp [cmpL] at h1
    | cons b y =>
      cases z with
      | nil => simp [cmpL] at h2
      | cons c z =>
        simp only [cmpL] at h1 h2 ⊢
        by_cases hab : Op.bytesLess a b = true
        · by_cases hbc : Op.bytesLess b c = true
          · rw [if_pos (less_trans hab hbc)]; omega
          · rw [if_neg hbc] at h2
            by_cases hcb : Op.bytesLess c b = true
            · rw [if_pos hcb] at h2; omega
            · have : b = c := less_tri (by simpa using hbc) (by simpa using hcb)
              subst this
              rw [if_pos hab]; omega
        · rw [if_neg hab] at h1
          by_cases hba : Op.bytesLess b a = true
          · rw [if_pos hba] at h1; omega
          · rw [if_neg hba] at h1
            have : a = b := less_tri (by simpa using hab) (by simpa using hba)
            subst this
            by_cases hbc : Op.bytesLess a c = true
            · rw [if_pos hbc]; omega
            · rw [if_neg hbc] at h2 ⊢
              by_cases hcb : Op.bytesLess c a = true
              · rw [if_pos hcb] at h2; omega
              · rw [if_neg hcb] at h2 ⊢
                exact ih h1 h2
theorem cmpL_le_trans {x y z : List Str} (h1 : cmpL x y ≤ 0) (h2 : cmpL y z ≤ 0) : cmpL x z ≤ 0 := by
  rcases Int.lt_or_le (cmpL x y) 0 with a | a
  · rcases Int.lt_or_le (cmpL y z) 0 with b | b
    · have := cmpL_trans a b; omega
    · have := cmpL_zero (x := y) (y := z) (by omega); subst this; omega
  · have := cmpL_zero (x := x) (y := y) (by omega); subst this; omega
/-- behind equal names -/
theorem cmpL_cons (n : Str) (x y : List Str) : cmpL (n :: x) (n :: y) = cmpL x y := by simp [cmpL, less_irr]
theorem cmpL_app (q x y : List Str) : cmpL (q ++ x) (q ++ y) = cmpL x y := by
  induction q with
  | nil => rfl
  | cons n q ih => rw [List.cons_append, List.cons_append, cmpL_cons, ih]
theorem cmpL_self_app (q x : List Str) (h : x ≠ []) : cmpL q (q ++ x) = -1 := by
  have := cmpL_app q [] x
  rw [List.append_nil] at this
  rw [this]
  cases x with
  | nil => exact absurd rfl h
  | cons a x => rfl
theorem pieces_inj {a b : Str} (h : pieces a = pieces b) : a = b := by
  have := congrArg joinP h
  rwa [joinP_pieces, joinP_pieces] at this
theorem cmpP_zero {a b : Str} (h : cmpP a b = 0) : a = b := pieces_inj (cmpL_zero h)
theorem cmpP_refl (a : Str) : cmpP a a = 0 := cmpL_refl _
theorem cmpP_swap (a b : Str) : cmpP b a = - cmpP a b := cmpL_swap _ _
theorem cmpP_trans {a b c : Str} (h1 : cmpP a b < 0) (h2 : cmpP b c < 0) : cmpP a c < 0 := cmpL_trans h1 h2
theorem swoP {α : Type} (f : α → Str) : Go.Sort.SWO (ltOf fun x y : α => cmpP (f x) (f y)) where
  irrefl x := by simp [ltOf, cmpP_refl]
  trans x y z h1 h2 := by
    simp only [ltOf, decide_eq_true_eq] at *
    exact cmpP_trans h1 h2
  ntrans x y z h1 h2 := by
    simp only [ltOf, decide_eq_false_iff_not, Int.not_lt] at *
    have a := cmpP_swap (f x) (f y)
    have b := cmpP_swap (f y) (f z)
    have c := cmpP_swap (f x) (f z)
    have : cmpP (f z) (f x) ≤ 0 := cmpL_le_trans (x := pieces (f z)) (y := pieces (f y)) (by show cmpP _ _ ≤ 0; omega) (by show cmpP _ _ ≤ 0; omega)
    omega
end Go.Proofs.YtgmomhdammdjgaaGreat
