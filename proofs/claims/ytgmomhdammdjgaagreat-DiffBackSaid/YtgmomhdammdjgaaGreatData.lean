/-
  The program's plain data as Lean sees them, and the cells in which they lie. No condition: plain definitions.
-/
import Derived.Test.YtgmomhdammdjgaaGreatDraw
set_option linter.unusedVariables false
namespace Go.Proofs.YtgmomhdammdjgaaGreat
open Go Go.RowKit

abbrev Sum32 := Vector UInt8 32
abbrev U8 (c : UInt8) : Value := .int .u8 c.toNat
def sumCells (s : Sum32) : List Value :=
  [U8 s[0], U8 s[1], U8 s[2], U8 s[3], U8 s[4], U8 s[5], U8 s[6], U8 s[7], U8 s[8], U8 s[9], U8 s[10], U8 s[11], U8 s[12], U8 s[13], U8 s[14], U8 s[15],
   U8 s[16], U8 s[17], U8 s[18], U8 s[19], U8 s[20], U8 s[21], U8 s[22], U8 s[23], U8 s[24], U8 s[25], U8 s[26], U8 s[27], U8 s[28], U8 s[29], U8 s[30], U8 s[31]]
theorem sumCells_len (s : Sum32) : (sumCells s).length = 32 := rfl
theorem u8_inj {a b : UInt8} (h : U8 a = U8 b) : a = b := by
  injection h with _ h
  exact UInt8.toNat_inj.1 (by omega)
theorem sumCells_at (s : Sum32) (i : Nat) (h : i < 32) : (sumCells s)[i]? = some (U8 s[i]) := by
  match i, h with
  | 0, _ => rfl
  | 1, _ => rfl
  | 2, _ => rfl
  | 3, _ => rfl
  | 4, _ => rfl
  | 5, _ => rfl
  | 6, _ => rfl
  | 7, _ => rfl
  | 8, _ => rfl
  | 9, _ => rfl
  | 10, _ => rfl
  | 11, _ => rfl
  | 12, _ => rfl
  | 13, _ => rfl
  | 14, _ => rfl
  | 15, _ => rfl
  | 16, _ => rfl
  | 17, _ => rfl
  | 18, _ => rfl
  | 19, _ => rfl
  | 20, _ => rfl
  | 21, _ => rfl
  | 22, _ => rfl
  | 23, _ => rfl
  | 24, _ => rfl
  | 25, _ => rfl
  | 26, _ => rfl
  | 27, _ => rfl
  | 28, _ => rfl
  | 29, _ => rfl
  | 30, _ => rfl
  | 31, _ => rfl
  | n + 32, h => omega
theorem sumCells_inj {s t : Sum32} (h : sumCells s = sumCells t) : s = t := by
  refine Vector.ext fun i hi => ?_
  have h1 := sumCells_at s i hi
  rw [h, sumCells_at t i hi] at h1
  exact (u8_inj (Option.some.inj h1)).symm

/-- api.Value -/
@[ext] structure Val where
  kind : Int
  mode : Int
  size : Int
  sum : Sum32
deriving DecidableEq
def Val.cells (v : Val) : List Value := I v.kind :: I v.mode :: I v.size :: sumCells v.sum
abbrev Val.val (v : Val) : Value := .agg v.cells.toArray
def Val.zero : Val := ⟨0, 0, 0, Vector.replicate 32 0⟩
theorem Val.len (v : Val) : v.cells.length = 35 := rfl
/-- api.Mark -/
@[ext] structure Mark where
  number : Int
  stamp : Int
deriving DecidableEq
def Mark.cells (m : Mark) : List Value := [I m.number, I m.stamp]
abbrev Mark.val (m : Mark) : Value := .agg m.cells.toArray
def Mark.zero : Mark := ⟨0, 0⟩
/-- [2]api.Mark -/
@[ext] structure Marks where
  a : Mark
  b : Mark
deriving DecidableEq
def Marks.cells (m : Marks) : List Value := [I m.a.number, I m.a.stamp, I m.b.number, I m.b.stamp]
abbrev Marks.val (m : Marks) : Value := .agg m.cells.toArray
def Marks.zero : Marks := ⟨Mark.zero, Mark.zero⟩
/-- api.Node as it lies: its list of children is a slice's value -/
@[ext] structure NodeC where
  name : Str
  value : Val
  marks : Marks
  kids : Value
def NodeC.cells (n : NodeC) : List Value := S n.name :: (n.value.cells ++ (n.marks.cells ++ [n.kids]))
abbrev NodeC.val (n : NodeC) : Value := .agg n.cells.toArray
def NodeC.zero : NodeC := ⟨[], Val.zero, Marks.zero, .slice none 0 0⟩
theorem NodeC.len (n : NodeC) : n.cells.length = 41 := rfl
/-- api.Change -/
@[ext] structure Change where
  path : Str
  old : Val
  new : Val
deriving DecidableEq
def Change.cells (c : Change) : List Value := S c.path :: (c.old.cells ++ c.new.cells)
abbrev Change.val (c : Change) : Value := .agg c.cells.toArray
def Change.zero : Change := ⟨[], Val.zero, Val.zero⟩
theorem Change.len (c : Change) : c.cells.length = 71 := rfl
/-- twineref13.Entry, twineref4.Spot -/
@[ext] structure Entry where
  path : Str
  value : Val
  marks : Marks
deriving DecidableEq
def Entry.cells (c : Entry) : List Value := S c.path :: (c.value.cells ++ c.marks.cells)
abbrev Entry.val (c : Entry) : Value := .agg c.cells.toArray
def Entry.zero : Entry := ⟨[], Val.zero, Marks.zero⟩
/-- diff.spot -/
@[ext] structure Spot where
  path : Str
  value : Val
deriving DecidableEq
def Spot.cells (c : Spot) : List Value := S c.path :: c.value.cells
abbrev Spot.val (c : Spot) : Value := .agg c.cells.toArray
def Spot.zero : Spot := ⟨[], Val.zero⟩
/-- tree.Tree as it lies -/
@[ext] structure TreeC where
  value : Val
  marks : Marks
  names : Value
  kids : Value
  count : Int
  depth : Int
def TreeC.cells (t : TreeC) : List Value := t.value.cells ++ (t.marks.cells ++ [t.names, t.kids, I t.count, I t.depth])
abbrev TreeC.val (t : TreeC) : Value := .agg t.cells.toArray
def TreeC.zero : TreeC := ⟨Val.zero, Marks.zero, .slice none 0 0, .slice none 0 0, 0, 0⟩

/-- a tree as data: api.Node -/
inductive Node where
  | mk (name : Str) (value : Val) (marks : Marks) (kids : List Node)
def Node.name : Node → Str | .mk n _ _ _ => n
def Node.value : Node → Val | .mk _ v _ _ => v
def Node.marks : Node → Marks | .mk _ _ m _ => m
def Node.kids : Node → List Node | .mk _ _ _ k => k
/-- n elements of sz cells each, from offset o of a block's cells on -/
def chunk (cs : List Value) (o sz i : Nat) : List Value := (cs.drop (o + i * sz)).take sz
mutual
/-- these cells are a node -/
inductive NodeAt (M : PMem) : List Value → Node → Prop
  | mk {name : Str} {v : Val} {m : Marks} {ks : Value} {kids : List Node} : KidsAt M ks kids → NodeAt M (NodeC.cells ⟨name, v, m, ks⟩) (Node.mk name v m kids)
/-- this slice holds these nodes -/
inductive KidsAt (M : PMem) : Value → List Node → Prop
  | none {a : Option Addr} {c : Nat} : KidsAt M (.slice a 0 c) []
  | some {b o n c el : Nat} {cs : List Value} {fr : Nat × Nat} {kids : List Node} : kids.length = n → 0 < n → n ≤ c → M b = some (.cells cs.toArray el fr) →
      (∀ i k, kids[i]? = some k → NodeAt M (chunk cs o 41 i) k) → KidsAt M (.slice (some ⟨b, o, none⟩) n c) kids
end
end Go.Proofs.YtgmomhdammdjgaaGreat
