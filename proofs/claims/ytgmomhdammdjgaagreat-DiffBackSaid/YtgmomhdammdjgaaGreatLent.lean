/-
  The statements' room: one list, lent, with marks behind it. Plain definitions and lemmas; no program in sight.
-/
import Derived.Test.YtgmomhdammdjgaaGreatGrow
set_option linter.unusedVariables false
set_option linter.unusedSimpArgs false
namespace Go.Proofs.YtgmomhdammdjgaaGreat
open Go Go.Proofs Go.RowKit

abbrev nilS : Value := .slice none 0 0
/-- a room's cells: the list of lists of changes, and how much of each is no room -/
def roomCells (x y : Value) : List Value := [nilS, nilS, nilS, nilS, nilS, nilS, x, y, nilS, nilS, nilS, nilS, nilS, nilS, nilS, nilS, nilS, nilS, nilS, nilS, nilS, nilS, nilS, nilS, nilS, nilS]
/-- a room that holds one list: of tot places, the first n of which are lent, in the block bf -/
structure RoomAt (M : PMem) (br bf n tot capf : Nat) : Prop where
  ex : ∃ (bc c1 ba c2 el elc ela : Nat) (fr frc fra : Nat × Nat) (csc csa : List Value), M br = some (.cells (List.toArray (roomCells (.slice (some ⟨bc, 0, none⟩) 1 c1) (.slice (some ⟨ba, 0, none⟩) 1 c2))) el fr) ∧
    M bc = some (.cells (List.toArray csc) elc frc) ∧ csc[0]? = some (.slice (some ⟨bf, 0, none⟩) tot capf) ∧ M ba = some (.cells (List.toArray csa) ela fra) ∧ csa[0]? = some (I n)
theorem RoomAt.le {M M' : PMem} {br bf n tot capf : Nat} (h : RoomAt M br bf n tot capf) (hM : PMem.le M M') : RoomAt M' br bf n tot capf := by
  obtain ⟨bc, c1, ba, c2, el, elc, ela, fr, frc, fra, csc, csa, h1, h2, h3, h4, h5⟩ := h.ex
  exact ⟨bc, c1, ba, c2, el, elc, ela, fr, frc, fra, csc, csa, hM _ _ h1, hM _ _ h2, h3, hM _ _ h4, h5⟩
/-- the marks lie -/
def MarksAt (csf : List Value) (n tot : Nat) : Prop := ∀ k, n ≤ k → k < tot → chunk csf 0 71 k = (markC (k - n)).cells
theorem mark_eq {k n : Nat} (h : n ≤ k) : markC (k - n) = ⟨wordS ((k : Int) - (n : Int)), Val.zero, Val.zero⟩ := by
  unfold markC
  rw [Int.ofNat_sub h]
def markL (n : Nat) : List Change := (List.range n).map markC
theorem markL_succ (n : Nat) : markL (n + 1) = markL n ++ [markC n] := by simp [markL, List.range_succ]
theorem markL_len (n : Nat) : (markL n).length = n := by simp [markL]
end Go.Proofs.YtgmomhdammdjgaaGreat
