/-
  An argument of type api.Node and one of type []api.Change opened into memory that lies; the form's word behind a call that turns nothing. Condition: the form's own reach.
-/
import Derived.Test.YtgmomhdammdjgaaGreatSortP
import Derived.Test.YtgmomhdammdjgaaGreatRead
import Derived.Test.YtgmomhdammdjgaaGreatRows
import Derived.ChangeSame
import Derived.JoinedOf
import Derived.JoinedAt
import Derived.RowKit
import Derived.ProofKit
import Derived.Carry
set_option linter.unusedVariables false
set_option linter.unusedSimpArgs false
set_option maxRecDepth 20000
set_option maxHeartbeats 4000000
namespace Go.Proofs.YtgmomhdammdjgaaGreat
open Go Go.Proofs Go.RowKit


theorem Tryz.ownG : ownKnob Tryz.prog.godebug = none := by kernel_rfl
theorem laidG : laidOutB Tryz.prog = true := by kernel_rfl
theorem valTy : ValTy Tryz.prog 24 := ⟨_, _, _, _, _, _, _, _, _, Tryz.underlying24, by kernel_rfl, rfl, rfl, rfl, rfl, rfl, rfl, rfl, rfl, Tryz.underlying3, Tryz.underlying3, Tryz.underlying3, by kernel_rfl, by kernel_rfl, by kernel_rfl, Tryz.underlying22, Tryz.underlying5, by kernel_rfl, by kernel_rfl⟩
theorem markTy : MarkTy Tryz.prog 26 := ⟨_, _, Tryz.underlying26, by kernel_rfl, rfl, rfl, Tryz.underlying3, Tryz.underlying3, by kernel_rfl, by kernel_rfl⟩
theorem marksTy : MarksTy Tryz.prog 27 := ⟨_, Tryz.underlying27, by kernel_rfl, by kernel_rfl, markTy⟩
theorem changeTy : ChangeTy Tryz.prog 66 := ⟨_, _, _, Tryz.underlying66, by kernel_rfl, rfl, rfl, rfl, Tryz.underlying9, by kernel_rfl, valTy, by kernel_rfl, valTy, by kernel_rfl⟩
theorem nodeTy : NodeTy Tryz.prog 30 := ⟨_, _, _, _, Tryz.underlying30, by kernel_rfl, rfl, rfl, rfl, rfl, Tryz.underlying9, by kernel_rfl, valTy, by kernel_rfl, marksTy, by kernel_rfl, Tryz.underlying28, by kernel_rfl, of_decide_eq_true (by kernel_rfl)⟩
section
variable {H : Type} {enc : TypeId × Value → H} {W : World}
/-- an argument of type api.Node, opened -/
theorem openNode {base : Nat} {v : Value} {d : DataW H} {p : List MemPlace} (hok : Value.okWide Tryz.prog W .any base 30 v) (h : DataW.Trod enc Tryz.prog W 0 (fun _ => true) true 30 v d p) (hw : ∀ n ∈ d.weights Tryz.prog 30, n ≤ reachBytes) :
    ∃ (x : Node) (a : Option Addr) (c : Nat), v = NodeC.val ⟨x.name, x.value, x.marks, .slice a x.kids.length c⟩ ∧ x.kids.length ≤ c ∧ NdA (memOf W) a x.kids ∧ x.Small := by
  have hag : ∃ cs, v = .agg cs := by
    unfold Value.okWide at hok
    rw [Tryz.underlying30] at hok
    obtain ⟨cs, h, _⟩ := hok
    exact ⟨cs, h⟩
  obtain ⟨cs, rfl⟩ := hag
  obtain ⟨fuel, hf⟩ := h
  obtain ⟨x, hx, hs⟩ := rd_node nodeTy fuel _ _ hf hw
  obtain ⟨ks, hk, hka⟩ := hx.open
  obtain ⟨a, c, rfl, hc, hA⟩ := hka.sl
  refine ⟨x, a, c, ?_, hc, hA, hs⟩
  have hk2 : cs.toList = NodeC.cells ⟨x.name, x.value, x.marks, .slice a x.kids.length c⟩ := hk
  have : cs = (NodeC.cells ⟨x.name, x.value, x.marks, .slice a x.kids.length c⟩).toArray := by rw [← hk2]
  rw [this]
/-- an argument of type []api.Change, opened -/
theorem openChanges {base : Nat} {v : Value} {d : DataW H} {p : List MemPlace} (hok : Value.okWide Tryz.prog W .any base 31 v) (h : DataW.Trod enc Tryz.prog W 0 (fun _ => true) true 31 v d p) (hw : ∀ n ∈ d.weights Tryz.prog 31, n ≤ reachBytes) :
    ∃ (l : List Change) (a : Option Addr) (c : Nat), v = .slice a l.length c ∧ l.length ≤ c ∧ SlA (memOf W) 71 (byEnc Change.cells) a l ∧ l.length ≤ 4611686018427387904 ∧ ∀ e ∈ l, e.path.length ≤ 4611686018427387904 := by
  obtain ⟨a0, len, cap, rfl⟩ := WideShapes.okWide_slice Tryz.underlying31 hok
  obtain ⟨fuel, hf⟩ := h
  obtain ⟨a, c, l, e, hc, hl, hsl⟩ := rd_slice (sz := 71) (fun c (k : Change) => byEnc Change.cells c k ∧ k.path.length ≤ 4611686018427387904) Tryz.underlying31 (by kernel_rfl) (by omega) (of_decide_eq_true (by kernel_rfl)) hf hw fun m c y _ h1 h2 => rd_change changeTy h1 h2
  have e2 : [Value.slice a0 len cap] = [Value.slice a l.length c] := e
  refine ⟨l, a, c, (List.cons.inj e2).1, hc, SlA.mono hsl (PMem.le_refl _) (fun _ _ _ h => h.1), hl, fun k hk => ?_⟩
  obtain ⟨i, hi, rfl⟩ := List.getElem_of_mem hk
  rcases hsl with rfl | ⟨bk, o, cs', el, fr, _, _, hx⟩
  · simp at hi
  · exact (hx i _ (List.getElem?_eq_getElem hi)).2
/-- what a call leaves that turns nothing that stood: the form's word -/
theorem post_kept {P : Program} {f : Func} {s : ChangeSpec} {apart fresh handsOn : Bool} {W W' : World} {args : Array Value} {v : Value} {ds gs : List (DataW H)} {before : List MemPlace}
    (hW : DataW.Whole enc P f.params.toList s.vars apart W args.toList ds gs before) (hv : s.vars = []) (hvs : (s.fn H (ds ++ gs)).vars = [])
    (hres : DataW.TrodAll enc P W' (match fresh with | true => W.heap.size | false => 0) (fun _ => false) handsOn f.resultTypes.toList (v.resultList f.resultTypes.size) (s.fn H (ds ++ gs)).results [])
    (hargs : DataW.TrodAll enc P W' 0 (fun b => decide (b < W.heap.size)) true f.params.toList args.toList (s.fn H (ds ++ gs)).args before) (hb : Below W.heap.size W W') : s.post enc P f apart fresh handsOn false W args v W' :=
  ⟨ds, gs, before, [], before, [], hW, hres, hargs, by rw [hv, hvs]; rfl, hb.frame _, fun h => by cases h⟩
end

end Go.Proofs.YtgmomhdammdjgaaGreat
