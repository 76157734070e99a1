/-
  A row of one's own, sorted by the library's contract. No condition: over any program.
-/
import Derived.Test.YtgmomhdammdjgaaGreatMap
import Derived.Shelf.SlSortCmp.WholeK
set_option linter.unusedVariables false
set_option linter.unusedSimpArgs false
namespace Go.Proofs.YtgmomhdammdjgaaGreat
open Go Go.Proofs Go.RowKit Go.Sort Go.Shelf

section
variable {α : Type} [Inhabited α] {enc : α → List Value} {k : Nat}
theorem flatK_list (hk : ∀ x, (enc x).length = k) (hk0 : 0 < k) (d : Array α) : (flatK enc k d).toList = d.toList.flatMap enc := by
  refine List.ext_getElem? fun t => ?_
  by_cases ht : t < d.size * k
  · have h1 := get_flatK enc k d t ht
    have h2 : t < (flatK enc k d).size := by simpa using ht
    rw [getElem!_pos _ t h2] at h1
    have h3 : (flatK enc k d).toList[t]? = some ((enc d[t / k]!)[t % k]!) := by
      rw [List.getElem?_eq_getElem (by simpa using h2)]
      simpa using h1
    have hdv : t / k < d.size := Nat.div_lt_of_lt_mul (by rw [Nat.mul_comm]; exact ht)
    have hmod : t % k < (enc d[t / k]!).length := by rw [hk]; exact Nat.mod_lt _ hk0
    have h4 : ((d.toList.flatMap enc).drop (t / k * k)) = (d.toList.drop (t / k)).flatMap enc := by
      generalize t / k = q
      generalize d.toList = l
      clear h1 h2 h3 ht hdv hmod
      induction q generalizing l with
      | zero => simp
      | succ q ih =>
        cases l with
        | nil => simp
        | cons x l =>
          have : (q + 1) * k = (enc x).length + q * k := by rw [hk, Nat.add_mul]; omega
          rw [List.flatMap_cons, this, List.drop_append, ← List.drop_drop]
          simp only [List.drop_length, List.nil_append]
          have e1 : (enc x).length + q * k - (enc x).length = q * k := by omega
          rw [e1]
          have e2 : ((enc x).drop (enc x).length).drop (q * k) = [] := by simp
          simp only [List.drop_succ_cons]
          rw [show List.drop (q * k) ([] : List Value) = [] from List.drop_nil] 
          simpa using ih l
    have h5 : (d.toList.flatMap enc)[t]? = ((d.toList.flatMap enc).drop (t / k * k))[t % k]? := by
      rw [List.getElem?_drop]
      congr 1
      have := Nat.div_add_mod t k
      rw [Nat.mul_comm] at this
      omega
    have h6 : d.toList.drop (t / k) = d[t / k]! :: d.toList.drop (t / k + 1) := by
      rw [List.drop_eq_getElem_cons (by simpa using hdv), getElem!_pos d (t / k) hdv]
      simp
    rw [h3, h5, h4, h6, List.flatMap_cons, List.getElem?_append_left hmod, getElem!_pos (enc d[t / k]!) (t % k) hmod, List.getElem?_eq_getElem hmod]
  · rw [List.getElem?_eq_none (by simpa using Nat.le_of_not_lt ht), List.getElem?_eq_none]
    rw [len_flat (enc := enc) (n := k) hk]
    simpa using Nat.le_of_not_lt ht
theorem putCells_front (F c : Array Value) (h : F.size ≤ c.size) : (putCells id 0 F c).toList = F.toList ++ c.toList.drop F.size := by
  refine List.ext_getElem? fun i => ?_
  simp only [putCells, Array.toList_mapIdx, List.getElem?_mapIdx, Nat.zero_le, Nat.zero_add, true_and, Nat.sub_zero, id]
  by_cases hi : i < F.size
  · rw [List.getElem?_append_left (by simpa using hi)]
    have hc : i < c.toList.length := by simp; omega
    rw [List.getElem?_eq_getElem hc, List.getElem?_eq_getElem (by simpa using hi)]
    simp [hi]
  · rw [List.getElem?_append_right (by simpa using Nat.le_of_not_lt hi)]
    simp only [Array.length_toList, List.getElem?_drop]
    rw [show F.size + (i - F.size) = i by omega]
    cases hq : c.toList[i]? with
    | none => rfl
    | some y => simp [hi]
theorem holdsK_row (hk : ∀ x, (enc x).length = k) (hk0 : 0 < k) {w : World} {b el : Nat} {cs : List Value} {d : Array α} (hb : w.heap[b]? = some (.cells cs.toArray el)) (ht : cs.take (d.size * k) = d.toList.flatMap enc) : HoldsK enc k w b 0 d := by
  intro j hj
  rw [size_flatK] at hj
  have h1 : cs[j]? = some (flatK enc k d)[j]! := by
    have h2 : (d.toList.flatMap enc)[j]? = some (flatK enc k d)[j]! := by
      rw [← flatK_list hk hk0 d, getElem!_pos _ j (by simpa using hj)]
      simp [hj]
    rw [← ht, List.getElem?_take, if_pos hj] at h2
    exact h2
  refine ⟨?_, ?_⟩
  · rw [cell_of_row w b (0 + j) _ el (0, 0) hb, Nat.zero_add]; simpa using h1
  · unfold World.frozen?
    simp [hb]
theorem sortWorldK_at {w : World} {b el m : Nat} {cs : List Value} {d : Array α} {os : Array Obj} (hk : ∀ x, (enc x).length = k) (hk0 : 0 < k) (hb : w.heap[b]? = some (.cells cs.toArray el)) (hle : d.size * k ≤ cs.length) :
    (sortWorldK enc k w b 0 m d os).heap[b]? = some (.cells (List.toArray (d.toList.flatMap enc ++ cs.drop (d.size * k))) el) ∧ w.grownBy (sortWorldK enc k w b 0 m d os) (some b) ∧ w.drawn ≤ (sortWorldK enc k w b 0 m d os).drawn := by
  have hlt : b < w.heap.size := (Array.getElem?_eq_some_iff.1 hb).1
  have hsz : (putRowK enc k (Sort.ahead w m) b 0 d).heap.size = w.heap.size := by unfold putRowK; rw [size_putRow]; rfl
  have hat : ∀ i, i < w.heap.size → (sortWorldK enc k w b 0 m d os).heap[i]? = (putRowK enc k (Sort.ahead w m) b 0 d).heap[i]? := fun i hi => by
    show ((putRowK enc k (Sort.ahead w m) b 0 d).heap ++ os)[i]? = _
    rw [Array.getElem?_append_left (by rw [hsz]; exact hi)]
  have hmod : ∀ i, (putRowK enc k (Sort.ahead w m) b 0 d).heap[i]? = if b = i then (w.heap[i]?).map (onCells (putCells id 0 (flatK enc k d))) else w.heap[i]? := fun i => by
    show (w.heap.modify b (onCells (putCells id 0 (flatK enc k d))))[i]? = _
    rw [Array.getElem?_modify]
  refine ⟨?_, ⟨rfl, rfl, rfl, ?_, ?_⟩, Nat.le_add_right _ _⟩
  · rw [hat b hlt, hmod, if_pos rfl, hb]
    simp only [Option.map_some, onCells]
    congr 2
    have h1 := putCells_front (flatK enc k d) cs.toArray (by simpa using hle)
    rw [flatK_list hk hk0, size_flatK] at h1
    rw [← h1]
  · show w.heap.size ≤ ((putRowK enc k (Sort.ahead w m) b 0 d).heap ++ os).size
    rw [Array.size_append, hsz]; omega
  · intro i hi hne
    rw [hat i hi, hmod, if_neg (fun e => hne (by rw [e]))]
end
end Go.Proofs.YtgmomhdammdjgaaGreat
