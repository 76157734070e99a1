/-
  Stores into a block of one's own; aggregates compared; the greater and the less of two ints. No condition: over any program.
-/
import Derived.Test.YtgmomhdammdjgaaGreatData
import Derived.Laws.StructEq
set_option linter.unusedVariables false
set_option linter.unusedSimpArgs false
namespace Go.Proofs.YtgmomhdammdjgaaGreat
open Go Go.RowKit

theorem setCell_row (w : World) (b off : Nat) (cs : List Value) (el : Nat) (v : Value) (hb : w.heap[b]? = some (.cells cs.toArray el)) : w.setCell ⟨b, off, none⟩ v = w.setRow b (cs.set off v).toArray := by
  have : ∀ (f g : Obj → Obj), f (.cells cs.toArray el) = g (.cells cs.toArray el) → w.heap.modify b f = w.heap.modify b g := fun f g hfg => by
    apply Array.ext_getElem?
    intro i
    simp only [Array.getElem?_modify]
    by_cases h : b = i
    · subst h; simp [hb, hfg]
    · simp [h]
  unfold World.setCell World.setRow
  simp only
  congr 1
  apply this
  simp
theorem Wr.one {P : Program} {t : Nat} {cs cs' : List Value} {off : Nat} {v : Value} (hs : ∀ w, (sizeOf t).run P w = .ok 1 w) (h1 : v.oneCell' = true) (hc : cs.set off v = cs') (hlt : Nat.ble (off + 1) cs.length = true) : Wr P t cs off v cs' := fun w b el hb => by
  have hlt := Nat.le_of_ble_eq_true hlt
  have hcell : w.cell? ⟨b, off, none⟩ = some (cs[off]'(by omega)) := by
    rw [cell_of_row w b off _ el (0, 0) hb]; simp
  have hfr : w.frozen? ⟨b, off, none⟩ = false := by simp [World.frozen?, hb]
  have hcells : v.cells = #[v] := by cases v <;> first | rfl | simp [Value.oneCell'] at h1
  subst hc
  rw [← setCell_row w b off cs el v hb]
  cases v <;> first | (simp [Value.oneCell'] at h1; done) | simp [storeVar, hcells, hs, storeCells, store, Sem.run, add_none, hcell, hfr]
theorem setCells_row (b : Nat) (el : Nat) : ∀ (vs : List Value) (off : Nat) (w : World) (cs : List Value), w.heap[b]? = some (.cells cs.toArray el) → off + vs.length ≤ cs.length →
    w.setCells b off vs = w.setRow b (cs.take off ++ vs ++ cs.drop (off + vs.length)).toArray := by
  intro vs
  induction vs with
  | nil =>
    intro off w cs hb hle
    simp only [World.setCells, List.length_nil, Nat.add_zero, List.append_nil, List.take_append_drop]
    have hh : (w.setRow b cs.toArray).heap = w.heap := by
      apply Array.ext_getElem?
      intro i
      simp only [World.setRow, Array.getElem?_modify]
      by_cases h : b = i
      · subst h; simp [hb]
      · simp [h]
    have hw0 : w.setRow b cs.toArray = { w with heap := (w.setRow b cs.toArray).heap } := rfl
    have hw : w.setRow b cs.toArray = w := by rw [hw0, hh]
    exact hw.symm
  | cons v vs ih =>
    intro off w cs hb hle
    simp only [List.length_cons] at hle
    have hb' : (w.setCell ⟨b, off, none⟩ v).heap[b]? = some (.cells (cs.set off v).toArray el) := by
      simp only [World.setCell, Array.getElem?_modify, if_true, hb, Option.map_some]
      simp
    have h1 := ih (off + 1) (w.setCell ⟨b, off, none⟩ v) (cs.set off v) hb' (by simp; omega)
    show World.setCells (w.setCell ⟨b, off, none⟩ v) b (off + 1) vs = _
    rw [h1, setCell_row w b off cs el v hb]
    have hset : ∀ (x y : Array Value), (w.setRow b x).setRow b y = w.setRow b y := fun x y => by
      unfold World.setRow
      simp only
      congr 1
      apply Array.ext_getElem?
      intro i
      simp only [Array.getElem?_modify]
      by_cases h : b = i
      · subst h; simp [hb]
      · simp [h]
    rw [hset]
    congr 2
    have e1 : (cs.set off v).take (off + 1) = cs.take off ++ [v] := by
      rw [List.take_set, List.take_succ_eq_append_getElem (by omega)]
      have hl : (cs.take off).length = off := by simp; omega
      rw [List.set_append, if_neg (by omega), hl]
      simp
    have e2 : (cs.set off v).drop (off + 1 + vs.length) = cs.drop (off + (vs.length + 1)) := by
      rw [List.drop_set_of_lt (by omega)]
      congr 1; omega
    rw [e1, e2, List.length_cons]
    simp
theorem Wr.agg {P : Program} {t : Nat} {cs cs' vs : List Value} {off n : Nat} (hs : ∀ w, (sizeOf t).run P w = .ok n w) (hn : vs.length = n) (hc : cs.take off ++ vs ++ cs.drop (off + n) = cs') (hlt : Nat.ble (off + n) cs.length = true) (h1 : vs.all (·.oneCell') = true := by rfl) :
    Wr P t cs off (.agg vs.toArray) cs' := fun w b el hb => by
  have hlt := Nat.le_of_ble_eq_true hlt
  subst hn
  subst hc
  have ht : w.there b off vs.toArray.size := fun j hj => by
    have hj' : j < vs.length := by simpa using hj
    refine ⟨?_, by simp [World.frozen?, hb]⟩
    rw [cell_of_row w b (off + j) _ el (0, 0) hb]
    simp
    omega
  have hrun := run_storeCells_cells (P := P) b off vs 0 w (fun j hj => by simpa using (ht j (by simpa using hj)).1) (fun j hj => by simpa using (ht j (by simpa using hj)).2) (fun v hv => List.all_eq_true.1 h1 v hv)
  simp only [Nat.add_zero] at hrun
  rw [← setCells_row b el vs off w cs hb hlt]
  simp [storeVar, hs, Value.cells, hrun]

section
variable {P : Program} {e : Env} {M : PMem} {H : List Res}
theorem D_max {x y : Operand} {a b : Int} {t : Array TypeId} (hx : e.val x = some (I a)) (hy : e.val y = some (I b)) : Dv P e M H (.call ⟨.builtin .max, #[x, y], t⟩) (I (max a b)) :=
  ⟨(fun _ h => by cases h), fun _ a' w _ ty _ _ _ hk hs => by
    have h1 : (if b > a then b else a) = max a b := by
      rw [Int.max_def]; split <;> split <;> omega
    simp [execOp, resolve, invoke, builtin, hk.eval hx, hk.eval hy, Builtin.max_, Builtin.max2, h1]⟩
theorem D_min {x y : Operand} {a b : Int} {t : Array TypeId} (hx : e.val x = some (I a)) (hy : e.val y = some (I b)) : Dv P e M H (.call ⟨.builtin .min, #[x, y], t⟩) (I (min a b)) :=
  ⟨(fun _ h => by cases h), fun _ a' w _ ty _ _ _ hk hs => by
    have h1 : (if b < a then b else a) = min a b := by
      rw [Int.min_def]; split <;> split <;> omega
    simp [execOp, resolve, invoke, builtin, hk.eval hx, hk.eval hy, Builtin.min_, Builtin.min2, h1]⟩
/-- two values of a type compared: as what they hold -/
def EqA (P : Program) (t : Nat) (x y : Value) (b : Bool) : Prop := ∀ (w : World), (Op.equal t x y).run P w = .ok b w
theorem D_eqA {x y : Operand} {t t' : Nat} {xs ys : Array Value} {b : Bool} (hm : P.eqGuardType P.depth t = false) (hx : e.val x = some (.agg xs)) (hy : e.val y = some (.agg ys)) (h : EqA P t (.agg xs) (.agg ys) b) : Dv P e M H (.binOp .eql t x y t') (.bool b) :=
  ⟨(fun _ h => by cases h), fun _ a' w _ _ _ _ _ hk hs => by
    simp [execOp, hk.eval hx, hk.eval hy, run_eqGuard_agg w _ t x y xs ys hm, binOp, h w]⟩
theorem D_neA {x y : Operand} {t t' : Nat} {xs ys : Array Value} {b : Bool} (hm : P.eqGuardType P.depth t = false) (hx : e.val x = some (.agg xs)) (hy : e.val y = some (.agg ys)) (h : EqA P t (.agg xs) (.agg ys) b) : Dv P e M H (.binOp .neq t x y t') (.bool (!b)) :=
  ⟨(fun _ h => by cases h), fun _ a' w _ _ _ _ _ hk hs => by
    simp [execOp, hk.eval hx, hk.eval hy, run_eqGuard_agg w _ t x y xs ys hm, binOp, h w]⟩
end
end Go.Proofs.YtgmomhdammdjgaaGreat
