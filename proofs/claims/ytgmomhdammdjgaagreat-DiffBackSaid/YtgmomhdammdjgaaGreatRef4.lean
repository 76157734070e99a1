/-
  The document's trees (twineref4), walked: checks of values, marks and nodes, copies, comparison. Conditions: names and paths within 2^30 bytes.
-/
import Derived.Test.YtgmomhdammdjgaaGreatRef3
set_option linter.unusedVariables false
set_option linter.unusedSimpArgs false
set_option maxRecDepth 20000
set_option maxHeartbeats 4000000
namespace Go.Proofs.YtgmomhdammdjgaaGreat
open Go Go.Proofs Go.RowKit

theorem fa26_0 : Fa Tryz.prog 26 0 0 := Fa.mk Tryz.underlying26 rfl rfl (fun w => ⟨0, Tryz.sizeOf3 w⟩)
theorem fa26_1 : Fa Tryz.prog 26 1 1 := Fa.mk Tryz.underlying26 rfl rfl (fun w => ⟨0, Tryz.sizeOf3 w⟩)
theorem en101 : ∀ (args : Array Value) (w : World), (callFunc 101 args).run Tryz.prog w = .ok (.enter 101 args) w := enters_fn Tryz.func101 (by kernel_rfl) rfl
theorem fa24_0 : Fa Tryz.prog 24 0 0 := Fa.mk Tryz.underlying24 rfl rfl (fun w => ⟨0, Tryz.sizeOf3 w⟩)
theorem fa24_1 : Fa Tryz.prog 24 1 1 := Fa.mk Tryz.underlying24 rfl rfl (fun w => ⟨0, Tryz.sizeOf3 w⟩)
theorem fa24_2 : Fa Tryz.prog 24 2 2 := Fa.mk Tryz.underlying24 rfl rfl (fun w => ⟨0, Tryz.sizeOf3 w⟩)
theorem fa24_3 : Fa Tryz.prog 24 3 3 := Fa.mk Tryz.underlying24 rfl rfl (fun w => ⟨31, Tryz.sizeOf22 w⟩)
theorem inf22 : (Tryz.prog.info? 22).map (·.size) = some 32 := by kernel_rfl
theorem rd22_Val_3 (x : Val) : Rd Tryz.prog 22 x.cells 3 (Sum32.val x.sum) := Rd.agg Tryz.underlying22 rfl inf22 rfl rfl
theorem bd22_ : Bd Tryz.prog 22 [] (Sum32.val Sum32.zero) := fun w => by kernel_rfl
theorem eg22 : Tryz.prog.eqGuardType Tryz.prog.depth 22 = false := by kernel_rfl
theorem eqi22 {d : Nat} (x y : Sum32) : EqI Tryz.prog (d + 2) 22 (Sum32.val x) (Sum32.val y) (decide (x = y)) := Sum32.eq x y Tryz.underlying22 Tryz.underlying5 Tryz.sizeOf5 Tryz.isAgg5
theorem eqa22 (x y : Sum32) : EqA Tryz.prog 22 (Sum32.val x) (Sum32.val y) (decide (x = y)) := (eqi22 (d := 9998) x y).to
theorem en83 : ∀ (args : Array Value) (w : World), (callFunc 83 args).run Tryz.prog w = .ok (.enter 83 args) w := enters_fn Tryz.func83 (by kernel_rfl) rfl
theorem inf24 : (Tryz.prog.info? 24).map (·.size) = some 35 := by kernel_rfl
theorem rd24_Val_0 (x : Val) : Rd Tryz.prog 24 x.cells 0 (Val.val x) := Rd.agg Tryz.underlying24 rfl inf24 rfl rfl
theorem inf26 : (Tryz.prog.info? 26).map (·.size) = some 2 := by kernel_rfl
theorem rd26_Marks_0 (x : Marks) : Rd Tryz.prog 26 x.cells 0 (Mark.val x.a) := Rd.agg Tryz.underlying26 rfl inf26 rfl rfl
theorem rd26_Marks_2 (x : Marks) : Rd Tryz.prog 26 x.cells 2 (Mark.val x.b) := Rd.agg Tryz.underlying26 rfl inf26 rfl rfl
theorem inf27 : (Tryz.prog.info? 27).map (·.size) = some 4 := by kernel_rfl
theorem rd27_Marks_0 (x : Marks) : Rd Tryz.prog 27 x.cells 0 (Marks.val x) := Rd.agg Tryz.underlying27 rfl inf27 rfl rfl
theorem bd27_ : Bd Tryz.prog 27 [] (Marks.val Marks.zero) := fun w => by kernel_rfl
theorem eg27 : Tryz.prog.eqGuardType Tryz.prog.depth 27 = false := by kernel_rfl
theorem eqi26 {d : Nat} (x y : Mark) : EqI Tryz.prog (d + 2) 26 (Mark.val x) (Mark.val y) (decide (x = y)) := Mark.eq_iff x y ▸ EqI.struct Tryz.underlying26 (by kernel_rfl) (EqF.cons rfl (Pt.one Tryz.isAgg3 rfl) (Pt.one Tryz.isAgg3 rfl) (EqI.int Tryz.underlying3) (EqF.cons rfl (Pt.one Tryz.isAgg3 rfl) (Pt.one Tryz.isAgg3 rfl) (EqI.int Tryz.underlying3) (EqF.nil)))
theorem eqi27 {d : Nat} (x y : Marks) : EqI Tryz.prog (d + 3) 27 (Marks.val x) (Marks.val y) (decide (x = y)) := Marks.eq x y Tryz.underlying27 Tryz.sizeOf26 Tryz.isAgg26 (fun a b => eqi26 a b)
theorem eqa27 (x y : Marks) : EqA Tryz.prog 27 (Marks.val x) (Marks.val y) (decide (x = y)) := (eqi27 (d := 9997) x y).to
theorem en73 : ∀ (args : Array Value) (w : World), (callFunc 73 args).run Tryz.prog w = .ok (.enter 73 args) w := enters_fn Tryz.func73 (by kernel_rfl) rfl
theorem en74 : ∀ (args : Array Value) (w : World), (callFunc 74 args).run Tryz.prog w = .ok (.enter 74 args) w := enters_fn Tryz.func74 (by kernel_rfl) rfl
theorem fa30_3 : Fa Tryz.prog 30 3 40 := Fa.mk Tryz.underlying30 rfl rfl (fun w => ⟨0, Tryz.sizeOf28 w⟩)
theorem inf30 : (Tryz.prog.info? 30).map (·.size) = some 41 := by kernel_rfl
theorem fa30_0 : Fa Tryz.prog 30 0 0 := Fa.mk Tryz.underlying30 rfl rfl (fun w => ⟨0, Tryz.sizeOf9 w⟩)
theorem fa30_1 : Fa Tryz.prog 30 1 1 := Fa.mk Tryz.underlying30 rfl rfl (fun w => ⟨34, Tryz.sizeOf24 w⟩)
theorem rd24_NodeC_1 (x : NodeC) : Rd Tryz.prog 24 x.cells 1 (Val.val x.value) := Rd.agg Tryz.underlying24 rfl inf24 rfl rfl
theorem fa30_2 : Fa Tryz.prog 30 2 36 := Fa.mk Tryz.underlying30 rfl rfl (fun w => ⟨3, Tryz.sizeOf27 w⟩)
theorem rd27_NodeC_36 (x : NodeC) : Rd Tryz.prog 27 x.cells 36 (Marks.val x.marks) := Rd.agg Tryz.underlying27 rfl inf27 rfl rfl
theorem rd30_NodeC_0 (x : NodeC) : Rd Tryz.prog 30 x.cells 0 (NodeC.val x) := Rd.agg Tryz.underlying30 rfl inf30 rfl rfl
theorem en31 : ∀ (args : Array Value) (w : World), (callFunc 31 args).run Tryz.prog w = .ok (.enter 31 args) w := enters_fn Tryz.func31 (by kernel_rfl) rfl
theorem en59 : ∀ (args : Array Value) (w : World), (callFunc 59 args).run Tryz.prog w = .ok (.enter 59 args) w := enters_fn Tryz.func59 (by kernel_rfl) rfl
theorem bs28_1 (x0 : NodeC) : Bs Tryz.prog 28 30 1 [(0, NodeC.val x0)] (NodeC.cells x0) := fun w => by kernel_rfl
theorem el30 : ElemOk Tryz.prog 30 41 128 := ElemOk.mk' (by kernel_rfl) (by omega)
theorem en18 : ∀ (args : Array Value) (w : World), (callFunc 18 args).run Tryz.prog w = .ok (.enter 18 args) w := enters_fn Tryz.func18 (by kernel_rfl) rfl
theorem en16 : ∀ (args : Array Value) (w : World), (callFunc 16 args).run Tryz.prog w = .ok (.enter 16 args) w := enters_fn Tryz.func16 (by kernel_rfl) rfl
theorem eg24 : Tryz.prog.eqGuardType Tryz.prog.depth 24 = false := by kernel_rfl
theorem eqi24 {d : Nat} (x y : Val) : EqI Tryz.prog (d + 3) 24 (Val.val x) (Val.val y) (decide (x = y)) := Val.eq_iff x y ▸ EqI.struct Tryz.underlying24 (by kernel_rfl) (EqF.cons rfl (Pt.one Tryz.isAgg3 rfl) (Pt.one Tryz.isAgg3 rfl) (EqI.int Tryz.underlying3) (EqF.cons rfl (Pt.one Tryz.isAgg3 rfl) (Pt.one Tryz.isAgg3 rfl) (EqI.int Tryz.underlying3) (EqF.cons rfl (Pt.one Tryz.isAgg3 rfl) (Pt.one Tryz.isAgg3 rfl) (EqI.int Tryz.underlying3) (EqF.cons rfl (Pt.agg Tryz.isAgg22 Tryz.sizeOf22 rfl) (Pt.agg Tryz.isAgg22 Tryz.sizeOf22 rfl) (eqi22 _ _) (EqF.nil)))))
theorem eqa24 (x y : Val) : EqA Tryz.prog 24 (Val.val x) (Val.val y) (decide (x = y)) := (eqi24 (d := 9997) x y).to
theorem mark_C (m : Mark) (M : PMem) (w : World) (hM : Lies M w) : Ends Tryz.prog 101 [Mark.val m] w [] M (fun v' M' H' => v' = .bool m.ok ∧ M' = M ∧ H' = []) := by
  refine Ends.enter (H := []) Tryz.func101 rfl Tryz.ntmps101 rfl (St.start hM) ?_
  refine R_seq ?_
  refine R_region ?_
  refine R_o (E_box (Mark.cells m) rfl rfl (fun b1 => ?_))
  refine R_r (D_assign rfl) ?_
  refine R_nil ?_
  refine R_seq ?_
  refine R_seq ?_
  refine R_join [(0, Mark.val m), (1, P_ b1 0), (2, .bool false), (10, .bool ((decide (m.number = 0)) && (decide (m.stamp = 0))))] (M' := M) (H' := [.blk b1 (.cells (List.toArray (Mark.cells m)) 26)]) ?_ ?_
  ·
    refine R_region ?_
    refine R_r (D_fieldAddr fa26_0 rfl) ?_
    refine R_r (D_load rfl (Has.own 0 rfl) (Rd.one Tryz.isAgg3 rfl)) ?_
    refine R_r (D_eq rfl rfl) ?_
    refine R_r (D_move rfl) ?_
    refine R_split 6 rfl (fun h1 => ?_) (fun h1 => ?_)
    ·
      have h1p := of_decide_eq_true h1
      refine R_r (D_fieldAddr fa26_1 rfl) ?_
      refine R_r (D_load rfl (Has.own 0 rfl) (Rd.one Tryz.isAgg3 rfl)) ?_
      refine R_r (D_eq rfl rfl) ?_
      refine R_r (D_pick true rfl rfl) ?_
      refine R_nil ?_
      exact R_at (Env.sub_cons rfl <| Env.sub_cons rfl <| Env.sub_cons rfl <| Env.sub_cons (by first | (show some (Value.bool _) = some (Value.bool _); simp only [h1, Bool.true_and, Bool.false_and, Bool.true_or, Bool.false_or, Bool.and_true, Bool.and_false, Bool.or_true, Bool.or_false]; done) | (show some (Value.bool _) = some (Value.bool _); (try rw [h1]); first | done | rfl) | simp [h1, Env.find]) <| Env.sub_nil _)
    ·
      have h1p := of_decide_eq_false h1
      refine R_skipop rfl rfl rfl ?_
      refine R_skipop rfl rfl rfl ?_
      refine R_skipop rfl rfl rfl ?_
      refine R_r (D_pick false rfl rfl) ?_
      refine R_nil ?_
      exact R_at (Env.sub_cons rfl <| Env.sub_cons rfl <| Env.sub_cons rfl <| Env.sub_cons (by first | (show some (Value.bool _) = some (Value.bool _); simp only [h1, Bool.true_and, Bool.false_and, Bool.true_or, Bool.false_or, Bool.and_true, Bool.and_false, Bool.or_true, Bool.or_false]; done) | (show some (Value.bool _) = some (Value.bool _); (try rw [h1]); first | done | rfl) | simp [h1, Env.find]) <| Env.sub_nil _)
  ·
    refine R_cond rfl (fun h1 => ?_) (fun h1 => ?_)
    ·
      have h1p := h1; simp only [Bool.and_eq_true, Bool.or_eq_true, Bool.not_eq_true', Bool.and_eq_false_imp, Bool.or_eq_false_iff, Bool.not_eq_false', decide_eq_true_eq, decide_eq_false_iff_not] at h1p
      refine R_seq ?_
      refine R_region ?_
      refine R_r (D_assign rfl) ?_
      refine R_nil ?_
      refine R_ret ?_
      refine R_drop (List.nil_sublist _) ?_
      refine R_fin1 rfl rfl ?_
      exact ⟨by simp_all [Mark.ok], rfl, rfl⟩
    ·
      have h1p := h1; simp only [Bool.and_eq_true, Bool.or_eq_true, Bool.not_eq_true', Bool.and_eq_false_imp, Bool.or_eq_false_iff, Bool.not_eq_false', decide_eq_true_eq, decide_eq_false_iff_not] at h1p
      refine R_skip ?_
      refine R_seq ?_
      refine R_join [(0, Mark.val m), (1, P_ b1 0), (2, .bool ((((decide (1 ≤ m.number)) && (decide (m.number ≤ 72057594037927935))) && (decide (1 ≤ m.stamp))) && (decide (m.stamp ≤ 72057594037927935)))), (10, .bool ((decide (m.number = 0)) && (decide (m.stamp = 0))))] (M' := M) (H' := [.blk b1 (.cells (List.toArray (Mark.cells m)) 26)]) ?_ ?_
      ·
        refine R_region ?_
        refine R_r (D_fieldAddr fa26_0 rfl) ?_
        refine R_r (D_load rfl (Has.own 0 rfl) (Rd.one Tryz.isAgg3 rfl)) ?_
        refine R_r (D_ge rfl rfl) ?_
        refine R_r (D_move rfl) ?_
        refine R_split 14 rfl (fun h2 => ?_) (fun h2 => ?_)
        ·
          have h2p := of_decide_eq_true h2
          refine R_r (D_fieldAddr fa26_0 rfl) ?_
          refine R_r (D_load rfl (Has.own 0 rfl) (Rd.one Tryz.isAgg3 rfl)) ?_
          refine R_r (D_le rfl rfl) ?_
          refine R_r (D_pick true rfl rfl) ?_
          refine R_r (D_move rfl) ?_
          refine R_split 19 rfl (fun h3 => ?_) (fun h3 => ?_)
          ·
            have h3p := of_decide_eq_true h3
            refine R_r (D_fieldAddr fa26_1 rfl) ?_
            refine R_r (D_load rfl (Has.own 0 rfl) (Rd.one Tryz.isAgg3 rfl)) ?_
            refine R_r (D_ge rfl rfl) ?_
            refine R_r (D_pick true rfl rfl) ?_
            refine R_r (D_move rfl) ?_
            refine R_split 24 rfl (fun h4 => ?_) (fun h4 => ?_)
            ·
              have h4p := of_decide_eq_true h4
              refine R_r (D_fieldAddr fa26_1 rfl) ?_
              refine R_r (D_load rfl (Has.own 0 rfl) (Rd.one Tryz.isAgg3 rfl)) ?_
              refine R_r (D_le rfl rfl) ?_
              refine R_r (D_pick true rfl rfl) ?_
              refine R_r (D_assign rfl) ?_
              refine R_nil ?_
              exact R_at (Env.sub_cons rfl <| Env.sub_cons rfl <| Env.sub_cons (by first | (show some (Value.bool _) = some (Value.bool _); simp only [h2, h3, h4, Bool.true_and, Bool.false_and, Bool.true_or, Bool.false_or, Bool.and_true, Bool.and_false, Bool.or_true, Bool.or_false]; done) | (show some (Value.bool _) = some (Value.bool _); (try rw [h2]); (try rw [h3]); (try rw [h4]); first | done | rfl) | simp [h2, h3, h4, Env.find]) <| Env.sub_cons rfl <| Env.sub_nil _)
            ·
              have h4p := of_decide_eq_false h4
              refine R_skipop rfl rfl rfl ?_
              refine R_skipop rfl rfl rfl ?_
              refine R_skipop rfl rfl rfl ?_
              refine R_r (D_pick false rfl rfl) ?_
              refine R_r (D_assign rfl) ?_
              refine R_nil ?_
              exact R_at (Env.sub_cons rfl <| Env.sub_cons rfl <| Env.sub_cons (by first | (show some (Value.bool _) = some (Value.bool _); simp only [h2, h3, h4, Bool.true_and, Bool.false_and, Bool.true_or, Bool.false_or, Bool.and_true, Bool.and_false, Bool.or_true, Bool.or_false]; done) | (show some (Value.bool _) = some (Value.bool _); (try rw [h2]); (try rw [h3]); (try rw [h4]); first | done | rfl) | simp [h2, h3, h4, Env.find]) <| Env.sub_cons rfl <| Env.sub_nil _)
          ·
            have h3p := of_decide_eq_false h3
            refine R_skipop rfl rfl rfl ?_
            refine R_skipop rfl rfl rfl ?_
            refine R_skipop rfl rfl rfl ?_
            refine R_r (D_pick false rfl rfl) ?_
            refine R_r (D_move rfl) ?_
            refine R_skipop rfl rfl rfl ?_
            refine R_skipop rfl rfl rfl ?_
            refine R_skipop rfl rfl rfl ?_
            refine R_r (D_pick false rfl rfl) ?_
            refine R_r (D_assign rfl) ?_
            refine R_nil ?_
            exact R_at (Env.sub_cons rfl <| Env.sub_cons rfl <| Env.sub_cons (by first | (show some (Value.bool _) = some (Value.bool _); simp only [h2, h3, Bool.true_and, Bool.false_and, Bool.true_or, Bool.false_or, Bool.and_true, Bool.and_false, Bool.or_true, Bool.or_false]; done) | (show some (Value.bool _) = some (Value.bool _); (try rw [h2]); (try rw [h3]); first | done | rfl) | simp [h2, h3, Env.find]) <| Env.sub_cons rfl <| Env.sub_nil _)
        ·
          have h2p := of_decide_eq_false h2
          refine R_skipop rfl rfl rfl ?_
          refine R_skipop rfl rfl rfl ?_
          refine R_skipop rfl rfl rfl ?_
          refine R_r (D_pick false rfl rfl) ?_
          refine R_r (D_move rfl) ?_
          refine R_skipop rfl rfl rfl ?_
          refine R_skipop rfl rfl rfl ?_
          refine R_skipop rfl rfl rfl ?_
          refine R_r (D_pick false rfl rfl) ?_
          refine R_r (D_move rfl) ?_
          refine R_skipop rfl rfl rfl ?_
          refine R_skipop rfl rfl rfl ?_
          refine R_skipop rfl rfl rfl ?_
          refine R_r (D_pick false rfl rfl) ?_
          refine R_r (D_assign rfl) ?_
          refine R_nil ?_
          exact R_at (Env.sub_cons rfl <| Env.sub_cons rfl <| Env.sub_cons (by first | (show some (Value.bool _) = some (Value.bool _); simp only [h2, Bool.true_and, Bool.false_and, Bool.true_or, Bool.false_or, Bool.and_true, Bool.and_false, Bool.or_true, Bool.or_false]; done) | (show some (Value.bool _) = some (Value.bool _); (try rw [h2]); first | done | rfl) | simp [h2, Env.find]) <| Env.sub_cons rfl <| Env.sub_nil _)
      ·
        refine R_ret ?_
        refine R_drop (List.nil_sublist _) ?_
        refine R_fin1 rfl rfl ?_
        exact ⟨by simp_all [Mark.ok], rfl, rfl⟩

theorem Right_C (v : Val) (M : PMem) (w : World) (hM : Lies M w) : Ends Tryz.prog 83 [Val.val v] w [] M (fun v' M' H' => v' = .bool v.ok ∧ M' = M ∧ H' = []) := by
  refine Ends.enter (H := []) Tryz.func83 rfl Tryz.ntmps83 rfl (St.start hM) ?_
  refine R_seq ?_
  refine R_region ?_
  refine R_o (E_box (Val.cells v) rfl rfl (fun b1 => ?_))
  refine R_r (D_assign rfl) ?_
  refine R_nil ?_
  refine R_seq ?_
  refine R_seq ?_
  refine R_region ?_
  refine R_r (D_fieldAddr fa24_0 rfl) ?_
  refine R_r (D_load rfl (Has.own 0 rfl) (Rd.one Tryz.isAgg3 rfl)) ?_
  refine R_nil ?_
  refine R_block ?_
  refine R_seq ?_
  refine R_region ?_
  refine R_r (D_eq rfl rfl) ?_
  refine R_r (D_assign rfl) ?_
  refine R_nil ?_
  refine R_cond rfl (fun h1 => ?_) (fun h1 => ?_)
  ·
    have h1p := of_decide_eq_true h1
    refine R_seq ?_
    refine R_join [(0, Val.val v), (1, P_ b1 0), (2, .bool ((((decide (0 ≤ v.mode)) && (decide (v.mode ≤ 8))) && (decide (v.size = 0))) && (decide (v.sum = Sum32.zero)))), (3, P_ b1 0), (4, I v.kind), (5, .bool (decide (v.kind = 1))), (6, .bool (decide (v.kind = 1)))] (M' := M) (H' := [.blk b1 (.cells (List.toArray (Val.cells v)) 24)]) ?_ ?_
    ·
      refine R_region ?_
      refine R_r (D_fieldAddr fa24_1 rfl) ?_
      refine R_r (D_load rfl (Has.own 0 rfl) (Rd.one Tryz.isAgg3 rfl)) ?_
      refine R_r (D_ge rfl rfl) ?_
      refine R_r (D_move rfl) ?_
      refine R_split 10 rfl (fun h2 => ?_) (fun h2 => ?_)
      ·
        have h2p := of_decide_eq_true h2
        refine R_r (D_fieldAddr fa24_1 rfl) ?_
        refine R_r (D_load rfl (Has.own 0 rfl) (Rd.one Tryz.isAgg3 rfl)) ?_
        refine R_r (D_le rfl rfl) ?_
        refine R_r (D_pick true rfl rfl) ?_
        refine R_r (D_move rfl) ?_
        refine R_split 15 rfl (fun h3 => ?_) (fun h3 => ?_)
        ·
          have h3p := of_decide_eq_true h3
          refine R_r (D_fieldAddr fa24_2 rfl) ?_
          refine R_r (D_load rfl (Has.own 0 rfl) (Rd.one Tryz.isAgg3 rfl)) ?_
          refine R_r (D_eq rfl rfl) ?_
          refine R_r (D_pick true rfl rfl) ?_
          refine R_r (D_move rfl) ?_
          refine R_split 20 rfl (fun h4 => ?_) (fun h4 => ?_)
          ·
            have h4p := of_decide_eq_true h4
            refine R_r (D_fieldAddr fa24_3 rfl) ?_
            refine R_r (D_load rfl (Has.own 0 rfl) (rd22_Val_3 v)) ?_
            refine R_r (D_build rfl bd22_) ?_
            refine R_r (D_eqA eg22 rfl rfl (eqa22 _ _)) ?_
            refine R_r (D_pick true rfl rfl) ?_
            refine R_r (D_assign rfl) ?_
            refine R_nil ?_
            exact R_at (Env.sub_cons rfl <| Env.sub_cons rfl <| Env.sub_cons (by first | (show some (Value.bool _) = some (Value.bool _); simp only [h2, h3, h4, Bool.true_and, Bool.false_and, Bool.true_or, Bool.false_or, Bool.and_true, Bool.and_false, Bool.or_true, Bool.or_false]; done) | (show some (Value.bool _) = some (Value.bool _); (try rw [h2]); (try rw [h3]); (try rw [h4]); first | done | rfl) | simp [h2, h3, h4, Env.find]) <| Env.sub_cons rfl <| Env.sub_cons rfl <| Env.sub_cons rfl <| Env.sub_cons rfl <| Env.sub_nil _)
          ·
            have h4p := of_decide_eq_false h4
            refine R_skipop rfl rfl rfl ?_
            refine R_skipop rfl rfl rfl ?_
            refine R_skipop rfl rfl rfl ?_
            refine R_skipop rfl rfl rfl ?_
            refine R_r (D_pick false rfl rfl) ?_
            refine R_r (D_assign rfl) ?_
            refine R_nil ?_
            exact R_at (Env.sub_cons rfl <| Env.sub_cons rfl <| Env.sub_cons (by first | (show some (Value.bool _) = some (Value.bool _); simp only [h2, h3, h4, Bool.true_and, Bool.false_and, Bool.true_or, Bool.false_or, Bool.and_true, Bool.and_false, Bool.or_true, Bool.or_false]; done) | (show some (Value.bool _) = some (Value.bool _); (try rw [h2]); (try rw [h3]); (try rw [h4]); first | done | rfl) | simp [h2, h3, h4, Env.find]) <| Env.sub_cons rfl <| Env.sub_cons rfl <| Env.sub_cons rfl <| Env.sub_cons rfl <| Env.sub_nil _)
        ·
          have h3p := of_decide_eq_false h3
          refine R_skipop rfl rfl rfl ?_
          refine R_skipop rfl rfl rfl ?_
          refine R_skipop rfl rfl rfl ?_
          refine R_r (D_pick false rfl rfl) ?_
          refine R_r (D_move rfl) ?_
          refine R_skipop rfl rfl rfl ?_
          refine R_skipop rfl rfl rfl ?_
          refine R_skipop rfl rfl rfl ?_
          refine R_skipop rfl rfl rfl ?_
          refine R_r (D_pick false rfl rfl) ?_
          refine R_r (D_assign rfl) ?_
          refine R_nil ?_
          exact R_at (Env.sub_cons rfl <| Env.sub_cons rfl <| Env.sub_cons (by first | (show some (Value.bool _) = some (Value.bool _); simp only [h2, h3, Bool.true_and, Bool.false_and, Bool.true_or, Bool.false_or, Bool.and_true, Bool.and_false, Bool.or_true, Bool.or_false]; done) | (show some (Value.bool _) = some (Value.bool _); (try rw [h2]); (try rw [h3]); first | done | rfl) | simp [h2, h3, Env.find]) <| Env.sub_cons rfl <| Env.sub_cons rfl <| Env.sub_cons rfl <| Env.sub_cons rfl <| Env.sub_nil _)
      ·
        have h2p := of_decide_eq_false h2
        refine R_skipop rfl rfl rfl ?_
        refine R_skipop rfl rfl rfl ?_
        refine R_skipop rfl rfl rfl ?_
        refine R_r (D_pick false rfl rfl) ?_
        refine R_r (D_move rfl) ?_
        refine R_skipop rfl rfl rfl ?_
        refine R_skipop rfl rfl rfl ?_
        refine R_skipop rfl rfl rfl ?_
        refine R_r (D_pick false rfl rfl) ?_
        refine R_r (D_move rfl) ?_
        refine R_skipop rfl rfl rfl ?_
        refine R_skipop rfl rfl rfl ?_
        refine R_skipop rfl rfl rfl ?_
        refine R_skipop rfl rfl rfl ?_
        refine R_r (D_pick false rfl rfl) ?_
        refine R_r (D_assign rfl) ?_
        refine R_nil ?_
        exact R_at (Env.sub_cons rfl <| Env.sub_cons rfl <| Env.sub_cons (by first | (show some (Value.bool _) = some (Value.bool _); simp only [h2, Bool.true_and, Bool.false_and, Bool.true_or, Bool.false_or, Bool.and_true, Bool.and_false, Bool.or_true, Bool.or_false]; done) | (show some (Value.bool _) = some (Value.bool _); (try rw [h2]); first | done | rfl) | simp [h2, Env.find]) <| Env.sub_cons rfl <| Env.sub_cons rfl <| Env.sub_cons rfl <| Env.sub_cons rfl <| Env.sub_nil _)
    ·
      refine R_ret ?_
      refine R_drop (List.nil_sublist _) ?_
      refine R_fin1 rfl rfl ?_
      exact ⟨by simp_all [Val.ok], rfl, rfl⟩
  ·
    have h1p := of_decide_eq_false h1
    refine R_seq ?_
    refine R_region ?_
    refine R_r (D_eq rfl rfl) ?_
    refine R_r (D_assign rfl) ?_
    refine R_nil ?_
    refine R_cond rfl (fun h2 => ?_) (fun h2 => ?_)
    ·
      have h2p := of_decide_eq_true h2
      refine R_seq ?_
      refine R_join [(0, Val.val v), (1, P_ b1 0), (2, .bool ((((decide (0 ≤ v.mode)) && (decide (v.mode ≤ 8))) && (decide (0 ≤ v.size))) && (decide (v.size ≤ 1099511627775)))), (3, P_ b1 0), (4, I v.kind), (5, .bool (decide (v.kind = 1))), (6, .bool (decide (v.kind = 1))), (26, .bool (decide (v.kind = 2))), (27, .bool (decide (v.kind = 2)))] (M' := M) (H' := [.blk b1 (.cells (List.toArray (Val.cells v)) 24)]) ?_ ?_
      ·
        refine R_region ?_
        refine R_r (D_fieldAddr fa24_1 rfl) ?_
        refine R_r (D_load rfl (Has.own 0 rfl) (Rd.one Tryz.isAgg3 rfl)) ?_
        refine R_r (D_ge rfl rfl) ?_
        refine R_r (D_move rfl) ?_
        refine R_split 31 rfl (fun h3 => ?_) (fun h3 => ?_)
        ·
          have h3p := of_decide_eq_true h3
          refine R_r (D_fieldAddr fa24_1 rfl) ?_
          refine R_r (D_load rfl (Has.own 0 rfl) (Rd.one Tryz.isAgg3 rfl)) ?_
          refine R_r (D_le rfl rfl) ?_
          refine R_r (D_pick true rfl rfl) ?_
          refine R_r (D_move rfl) ?_
          refine R_split 36 rfl (fun h4 => ?_) (fun h4 => ?_)
          ·
            have h4p := of_decide_eq_true h4
            refine R_r (D_fieldAddr fa24_2 rfl) ?_
            refine R_r (D_load rfl (Has.own 0 rfl) (Rd.one Tryz.isAgg3 rfl)) ?_
            refine R_r (D_ge rfl rfl) ?_
            refine R_r (D_pick true rfl rfl) ?_
            refine R_r (D_move rfl) ?_
            refine R_split 41 rfl (fun h5 => ?_) (fun h5 => ?_)
            ·
              have h5p := of_decide_eq_true h5
              refine R_r (D_fieldAddr fa24_2 rfl) ?_
              refine R_r (D_load rfl (Has.own 0 rfl) (Rd.one Tryz.isAgg3 rfl)) ?_
              refine R_r (D_le rfl rfl) ?_
              refine R_r (D_pick true rfl rfl) ?_
              refine R_r (D_assign rfl) ?_
              refine R_nil ?_
              exact R_at (Env.sub_cons rfl <| Env.sub_cons rfl <| Env.sub_cons (by first | (show some (Value.bool _) = some (Value.bool _); simp only [h3, h4, h5, Bool.true_and, Bool.false_and, Bool.true_or, Bool.false_or, Bool.and_true, Bool.and_false, Bool.or_true, Bool.or_false]; done) | (show some (Value.bool _) = some (Value.bool _); (try rw [h3]); (try rw [h4]); (try rw [h5]); first | done | rfl) | simp [h3, h4, h5, Env.find]) <| Env.sub_cons rfl <| Env.sub_cons rfl <| Env.sub_cons rfl <| Env.sub_cons rfl <| Env.sub_cons rfl <| Env.sub_cons rfl <| Env.sub_nil _)
            ·
              have h5p := of_decide_eq_false h5
              refine R_skipop rfl rfl rfl ?_
              refine R_skipop rfl rfl rfl ?_
              refine R_skipop rfl rfl rfl ?_
              refine R_r (D_pick false rfl rfl) ?_
              refine R_r (D_assign rfl) ?_
              refine R_nil ?_
              exact R_at (Env.sub_cons rfl <| Env.sub_cons rfl <| Env.sub_cons (by first | (show some (Value.bool _) = some (Value.bool _); simp only [h3, h4, h5, Bool.true_and, Bool.false_and, Bool.true_or, Bool.false_or, Bool.and_true, Bool.and_false, Bool.or_true, Bool.or_false]; done) | (show some (Value.bool _) = some (Value.bool _); (try rw [h3]); (try rw [h4]); (try rw [h5]); first | done | rfl) | simp [h3, h4, h5, Env.find]) <| Env.sub_cons rfl <| Env.sub_cons rfl <| Env.sub_cons rfl <| Env.sub_cons rfl <| Env.sub_cons rfl <| Env.sub_cons rfl <| Env.sub_nil _)
          ·
            have h4p := of_decide_eq_false h4
            refine R_skipop rfl rfl rfl ?_
            refine R_skipop rfl rfl rfl ?_
            refine R_skipop rfl rfl rfl ?_
            refine R_r (D_pick false rfl rfl) ?_
            refine R_r (D_move rfl) ?_
            refine R_skipop rfl rfl rfl ?_
            refine R_skipop rfl rfl rfl ?_
            refine R_skipop rfl rfl rfl ?_
            refine R_r (D_pick false rfl rfl) ?_
            refine R_r (D_assign rfl) ?_
            refine R_nil ?_
            exact R_at (Env.sub_cons rfl <| Env.sub_cons rfl <| Env.sub_cons (by first | (show some (Value.bool _) = some (Value.bool _); simp only [h3, h4, Bool.true_and, Bool.false_and, Bool.true_or, Bool.false_or, Bool.and_true, Bool.and_false, Bool.or_true, Bool.or_false]; done) | (show some (Value.bool _) = some (Value.bool _); (try rw [h3]); (try rw [h4]); first | done | rfl) | simp [h3, h4, Env.find]) <| Env.sub_cons rfl <| Env.sub_cons rfl <| Env.sub_cons rfl <| Env.sub_cons rfl <| Env.sub_cons rfl <| Env.sub_cons rfl <| Env.sub_nil _)
        ·
          have h3p := of_decide_eq_false h3
          refine R_skipop rfl rfl rfl ?_
          refine R_skipop rfl rfl rfl ?_
          refine R_skipop rfl rfl rfl ?_
          refine R_r (D_pick false rfl rfl) ?_
          refine R_r (D_move rfl) ?_
          refine R_skipop rfl rfl rfl ?_
          refine R_skipop rfl rfl rfl ?_
          refine R_skipop rfl rfl rfl ?_
          refine R_r (D_pick false rfl rfl) ?_
          refine R_r (D_move rfl) ?_
          refine R_skipop rfl rfl rfl ?_
          refine R_skipop rfl rfl rfl ?_
          refine R_skipop rfl rfl rfl ?_
          refine R_r (D_pick false rfl rfl) ?_
          refine R_r (D_assign rfl) ?_
          refine R_nil ?_
          exact R_at (Env.sub_cons rfl <| Env.sub_cons rfl <| Env.sub_cons (by first | (show some (Value.bool _) = some (Value.bool _); simp only [h3, Bool.true_and, Bool.false_and, Bool.true_or, Bool.false_or, Bool.and_true, Bool.and_false, Bool.or_true, Bool.or_false]; done) | (show some (Value.bool _) = some (Value.bool _); (try rw [h3]); first | done | rfl) | simp [h3, Env.find]) <| Env.sub_cons rfl <| Env.sub_cons rfl <| Env.sub_cons rfl <| Env.sub_cons rfl <| Env.sub_cons rfl <| Env.sub_cons rfl <| Env.sub_nil _)
      ·
        refine R_ret ?_
        refine R_drop (List.nil_sublist _) ?_
        refine R_fin1 rfl rfl ?_
        exact ⟨by simp_all [Val.ok], rfl, rfl⟩
    ·
      have h2p := of_decide_eq_false h2
      refine R_seq ?_
      refine R_region ?_
      refine R_r (D_eq rfl rfl) ?_
      refine R_r (D_assign rfl) ?_
      refine R_nil ?_
      refine R_cond rfl (fun h3 => ?_) (fun h3 => ?_)
      ·
        have h3p := of_decide_eq_true h3
        refine R_seq ?_
        refine R_join [(0, Val.val v), (1, P_ b1 0), (2, .bool (((decide (v.mode = 0)) && (decide (1 ≤ v.size))) && (decide (v.size ≤ 4095)))), (3, P_ b1 0), (4, I v.kind), (5, .bool (decide (v.kind = 1))), (6, .bool (decide (v.kind = 1))), (26, .bool (decide (v.kind = 2))), (27, .bool (decide (v.kind = 2))), (46, .bool (decide (v.kind = 3))), (47, .bool (decide (v.kind = 3)))] (M' := M) (H' := [.blk b1 (.cells (List.toArray (Val.cells v)) 24)]) ?_ ?_
        ·
          refine R_region ?_
          refine R_r (D_fieldAddr fa24_1 rfl) ?_
          refine R_r (D_load rfl (Has.own 0 rfl) (Rd.one Tryz.isAgg3 rfl)) ?_
          refine R_r (D_eq rfl rfl) ?_
          refine R_r (D_move rfl) ?_
          refine R_split 51 rfl (fun h4 => ?_) (fun h4 => ?_)
          ·
            have h4p := of_decide_eq_true h4
            refine R_r (D_fieldAddr fa24_2 rfl) ?_
            refine R_r (D_load rfl (Has.own 0 rfl) (Rd.one Tryz.isAgg3 rfl)) ?_
            refine R_r (D_ge rfl rfl) ?_
            refine R_r (D_pick true rfl rfl) ?_
            refine R_r (D_move rfl) ?_
            refine R_split 56 rfl (fun h5 => ?_) (fun h5 => ?_)
            ·
              have h5p := of_decide_eq_true h5
              refine R_r (D_fieldAddr fa24_2 rfl) ?_
              refine R_r (D_load rfl (Has.own 0 rfl) (Rd.one Tryz.isAgg3 rfl)) ?_
              refine R_r (D_le rfl rfl) ?_
              refine R_r (D_pick true rfl rfl) ?_
              refine R_r (D_assign rfl) ?_
              refine R_nil ?_
              exact R_at (Env.sub_cons rfl <| Env.sub_cons rfl <| Env.sub_cons (by first | (show some (Value.bool _) = some (Value.bool _); simp only [h4, h5, Bool.true_and, Bool.false_and, Bool.true_or, Bool.false_or, Bool.and_true, Bool.and_false, Bool.or_true, Bool.or_false]; done) | (show some (Value.bool _) = some (Value.bool _); (try rw [h4]); (try rw [h5]); first | done | rfl) | simp [h4, h5, Env.find]) <| Env.sub_cons rfl <| Env.sub_cons rfl <| Env.sub_cons rfl <| Env.sub_cons rfl <| Env.sub_cons rfl <| Env.sub_cons rfl <| Env.sub_cons rfl <| Env.sub_cons rfl <| Env.sub_nil _)
            ·
              have h5p := of_decide_eq_false h5
              refine R_skipop rfl rfl rfl ?_
              refine R_skipop rfl rfl rfl ?_
              refine R_skipop rfl rfl rfl ?_
              refine R_r (D_pick false rfl rfl) ?_
              refine R_r (D_assign rfl) ?_
              refine R_nil ?_
              exact R_at (Env.sub_cons rfl <| Env.sub_cons rfl <| Env.sub_cons (by first | (show some (Value.bool _) = some (Value.bool _); simp only [h4, h5, Bool.true_and, Bool.false_and, Bool.true_or, Bool.false_or, Bool.and_true, Bool.and_false, Bool.or_true, Bool.or_false]; done) | (show some (Value.bool _) = some (Value.bool _); (try rw [h4]); (try rw [h5]); first | done | rfl) | simp [h4, h5, Env.find]) <| Env.sub_cons rfl <| Env.sub_cons rfl <| Env.sub_cons rfl <| Env.sub_cons rfl <| Env.sub_cons rfl <| Env.sub_cons rfl <| Env.sub_cons rfl <| Env.sub_cons rfl <| Env.sub_nil _)
          ·
            have h4p := of_decide_eq_false h4
            refine R_skipop rfl rfl rfl ?_
            refine R_skipop rfl rfl rfl ?_
            refine R_skipop rfl rfl rfl ?_
            refine R_r (D_pick false rfl rfl) ?_
            refine R_r (D_move rfl) ?_
            refine R_skipop rfl rfl rfl ?_
            refine R_skipop rfl rfl rfl ?_
            refine R_skipop rfl rfl rfl ?_
            refine R_r (D_pick false rfl rfl) ?_
            refine R_r (D_assign rfl) ?_
            refine R_nil ?_
            exact R_at (Env.sub_cons rfl <| Env.sub_cons rfl <| Env.sub_cons (by first | (show some (Value.bool _) = some (Value.bool _); simp only [h4, Bool.true_and, Bool.false_and, Bool.true_or, Bool.false_or, Bool.and_true, Bool.and_false, Bool.or_true, Bool.or_false]; done) | (show some (Value.bool _) = some (Value.bool _); (try rw [h4]); first | done | rfl) | simp [h4, Env.find]) <| Env.sub_cons rfl <| Env.sub_cons rfl <| Env.sub_cons rfl <| Env.sub_cons rfl <| Env.sub_cons rfl <| Env.sub_cons rfl <| Env.sub_cons rfl <| Env.sub_cons rfl <| Env.sub_nil _)
        ·
          refine R_ret ?_
          refine R_drop (List.nil_sublist _) ?_
          refine R_fin1 rfl rfl ?_
          exact ⟨by simp_all [Val.ok], rfl, rfl⟩
      ·
        have h3p := of_decide_eq_false h3
        refine R_skip ?_
        refine R_seq ?_
        refine R_region ?_
        refine R_r (D_assign rfl) ?_
        refine R_nil ?_
        refine R_ret ?_
        refine R_drop (List.nil_sublist _) ?_
        refine R_fin1 rfl rfl ?_
        exact ⟨by simp_all [Val.ok], rfl, rfl⟩

theorem own_C (v : Val) (m : Marks) (k : Nat) (M : PMem) (w : World) (hM : Lies M w) : Ends Tryz.prog 73 [Val.val v, Marks.val m, I (k : Int)] w [] M (fun v' M' H' => v' = I (ownE v m k) ∧ M' = M ∧ H' = []) := by
  refine Ends.enter (H := []) Tryz.func73 rfl Tryz.ntmps73 rfl (St.start hM) ?_
  refine R_seq ?_
  refine R_region ?_
  refine R_o (E_box (Val.cells v) rfl rfl (fun b1 => ?_))
  refine R_o (E_box (Marks.cells m) rfl rfl (fun b2 => ?_))
  refine R_r (D_assign rfl) ?_
  refine R_nil ?_
  refine R_seq ?_
  refine R_seq ?_
  refine R_join [(0, Val.val v), (1, Marks.val m), (2, I (k : Int)), (3, P_ b1 0), (4, P_ b2 0), (6, I 0), (23, .bool (((decide (v.kind < 1)) || (decide (3 < v.kind))) || ((!decide (v.kind = 1)) && (decide (0 < (k : Int))))))] (M' := M) (H' := [.blk b2 (.cells (List.toArray (Marks.cells m)) 27), .blk b1 (.cells (List.toArray (Val.cells v)) 24)]) ?_ ?_
  ·
    refine R_region ?_
    refine R_r (D_fieldAddr fa24_0 rfl) ?_
    refine R_r (D_load rfl (Has.own 1 rfl) (Rd.one Tryz.isAgg3 rfl)) ?_
    refine R_r (D_lt rfl rfl) ?_
    refine R_r (D_move rfl) ?_
    refine R_split 10 rfl (fun h1 => ?_) (fun h1 => ?_)
    ·
      have h1p := of_decide_eq_true h1
      refine R_skipop rfl rfl rfl ?_
      refine R_skipop rfl rfl rfl ?_
      refine R_skipop rfl rfl rfl ?_
      refine R_r (D_pick true rfl rfl) ?_
      refine R_r (D_move rfl) ?_
      refine R_skipop rfl rfl rfl ?_
      refine R_skipop rfl rfl rfl ?_
      refine R_skipop rfl rfl rfl ?_
      refine R_skipop rfl rfl rfl ?_
      refine R_skipop rfl rfl rfl ?_
      refine R_skipop rfl rfl rfl ?_
      refine R_skipop rfl rfl rfl ?_
      refine R_r (D_pick true rfl rfl) ?_
      refine R_nil ?_
      exact R_at (Env.sub_cons rfl <| Env.sub_cons rfl <| Env.sub_cons rfl <| Env.sub_cons rfl <| Env.sub_cons rfl <| Env.sub_cons rfl <| Env.sub_cons (by first | (show some (Value.bool _) = some (Value.bool _); simp only [h1, Bool.true_and, Bool.false_and, Bool.true_or, Bool.false_or, Bool.and_true, Bool.and_false, Bool.or_true, Bool.or_false]; done) | (show some (Value.bool _) = some (Value.bool _); (try rw [h1]); first | done | rfl) | simp [h1, Env.find]) <| Env.sub_nil _)
    ·
      have h1p := of_decide_eq_false h1
      refine R_r (D_fieldAddr fa24_0 rfl) ?_
      refine R_r (D_load rfl (Has.own 1 rfl) (Rd.one Tryz.isAgg3 rfl)) ?_
      refine R_r (D_gt rfl rfl) ?_
      refine R_r (D_pick false rfl rfl) ?_
      refine R_r (D_move rfl) ?_
      refine R_split 15 rfl (fun h2 => ?_) (fun h2 => ?_)
      ·
        have h2p := of_decide_eq_true h2
        refine R_skipop rfl rfl rfl ?_
        refine R_skipop rfl rfl rfl ?_
        refine R_skipop rfl rfl rfl ?_
        refine R_skipop rfl rfl rfl ?_
        refine R_skipop rfl rfl rfl ?_
        refine R_skipop rfl rfl rfl ?_
        refine R_skipop rfl rfl rfl ?_
        refine R_r (D_pick true rfl rfl) ?_
        refine R_nil ?_
        exact R_at (Env.sub_cons rfl <| Env.sub_cons rfl <| Env.sub_cons rfl <| Env.sub_cons rfl <| Env.sub_cons rfl <| Env.sub_cons rfl <| Env.sub_cons (by first | (show some (Value.bool _) = some (Value.bool _); simp only [h1, h2, Bool.true_and, Bool.false_and, Bool.true_or, Bool.false_or, Bool.and_true, Bool.and_false, Bool.or_true, Bool.or_false]; done) | (show some (Value.bool _) = some (Value.bool _); (try rw [h1]); (try rw [h2]); first | done | rfl) | simp [h1, h2, Env.find]) <| Env.sub_nil _)
      ·
        have h2p := of_decide_eq_false h2
        refine R_r (D_fieldAddr fa24_0 rfl) ?_
        refine R_r (D_load rfl (Has.own 1 rfl) (Rd.one Tryz.isAgg3 rfl)) ?_
        refine R_r (D_ne rfl rfl) ?_
        refine R_r (D_move rfl) ?_
        refine R_split 19 rfl (fun h3 => ?_) (fun h3 => ?_)
        ·
          have h3p : ¬ (v.kind = 1) := by simpa using h3
          refine R_r (D_move rfl) ?_
          refine R_r (D_gt rfl rfl) ?_
          refine R_r (D_pick true rfl rfl) ?_
          refine R_r (D_pick false rfl rfl) ?_
          refine R_nil ?_
          exact R_at (Env.sub_cons rfl <| Env.sub_cons rfl <| Env.sub_cons rfl <| Env.sub_cons rfl <| Env.sub_cons rfl <| Env.sub_cons rfl <| Env.sub_cons (by first | (show some (Value.bool _) = some (Value.bool _); simp only [h1, h2, h3, Bool.true_and, Bool.false_and, Bool.true_or, Bool.false_or, Bool.and_true, Bool.and_false, Bool.or_true, Bool.or_false]; done) | (show some (Value.bool _) = some (Value.bool _); (try rw [h1]); (try rw [h2]); (try rw [h3]); first | done | rfl) | simp [h1, h2, h3, Env.find]) <| Env.sub_nil _)
        ·
          have h3p : (v.kind = 1) := by simpa using h3
          refine R_skipop rfl rfl rfl ?_
          refine R_skipop rfl rfl rfl ?_
          refine R_r (D_pick false rfl rfl) ?_
          refine R_r (D_pick false rfl rfl) ?_
          refine R_nil ?_
          exact R_at (Env.sub_cons rfl <| Env.sub_cons rfl <| Env.sub_cons rfl <| Env.sub_cons rfl <| Env.sub_cons rfl <| Env.sub_cons rfl <| Env.sub_cons (by first | (show some (Value.bool _) = some (Value.bool _); simp only [h1, h2, h3, Bool.true_and, Bool.false_and, Bool.true_or, Bool.false_or, Bool.and_true, Bool.and_false, Bool.or_true, Bool.or_false]; done) | (show some (Value.bool _) = some (Value.bool _); (try rw [h1]); (try rw [h2]); (try rw [h3]); first | done | rfl) | simp [h1, h2, h3, Env.find]) <| Env.sub_nil _)
  ·
    refine R_cond rfl (fun h1 => ?_) (fun h1 => ?_)
    ·
      have h1p := h1; simp only [Bool.and_eq_true, Bool.or_eq_true, Bool.not_eq_true', Bool.and_eq_false_imp, Bool.or_eq_false_iff, Bool.not_eq_false', decide_eq_true_eq, decide_eq_false_iff_not] at h1p
      refine R_seq ?_
      refine R_region ?_
      refine R_r (D_assign rfl) ?_
      refine R_nil ?_
      refine R_ret ?_
      refine R_drop (List.nil_sublist _) ?_
      refine R_fin1 rfl rfl ?_
      have e : ownE v m k = 40 := by unfold ownE; rw [if_pos h1]
      exact ⟨by rw [e], rfl, rfl⟩
    ·
      have h1p := h1; simp only [Bool.and_eq_true, Bool.or_eq_true, Bool.not_eq_true', Bool.and_eq_false_imp, Bool.or_eq_false_iff, Bool.not_eq_false', decide_eq_true_eq, decide_eq_false_iff_not] at h1p
      refine R_skip ?_
      refine R_seq ?_
      refine R_seq ?_
      refine R_join [(0, Val.val v), (1, Marks.val m), (2, I (k : Int)), (3, P_ b1 0), (4, P_ b2 0), (6, I 0), (23, .bool (((decide (v.kind < 1)) || (decide (3 < v.kind))) || ((!decide (v.kind = 1)) && (decide (0 < (k : Int)))))), (48, .bool ((((!(Val.ok v)) || (!(Mark.ok m.a))) || (!(Mark.ok m.b))) || ((!decide (v.kind = 2)) && (!decide (m = Marks.zero)))))] (M' := M) (H' := [.blk b2 (.cells (List.toArray (Marks.cells m)) 27), .blk b1 (.cells (List.toArray (Val.cells v)) 24)]) ?_ ?_
      ·
        refine R_region ?_
        refine R_r (D_load rfl (Has.own 1 rfl) (rd24_Val_0 v)) ?_
        refine R_o (E_callV (v := .bool (Val.ok v)) rfl rfl en83 (fun w hM => Right_C v M w hM ) ?_)
        refine R_r (D_not rfl) ?_
        refine R_r (D_move rfl) ?_
        refine R_split 27 rfl (fun h2 => ?_) (fun h2 => ?_)
        ·
          refine R_skipop rfl rfl rfl ?_
          refine R_skipop rfl rfl rfl ?_
          refine R_skipop rfl rfl rfl ?_
          refine R_skipop rfl rfl rfl ?_
          refine R_r (D_pick true rfl rfl) ?_
          refine R_r (D_move rfl) ?_
          refine R_skipop rfl rfl rfl ?_
          refine R_skipop rfl rfl rfl ?_
          refine R_skipop rfl rfl rfl ?_
          refine R_skipop rfl rfl rfl ?_
          refine R_r (D_pick true rfl rfl) ?_
          refine R_r (D_move rfl) ?_
          refine R_skipop rfl rfl rfl ?_
          refine R_skipop rfl rfl rfl ?_
          refine R_skipop rfl rfl rfl ?_
          refine R_skipop rfl rfl rfl ?_
          refine R_skipop rfl rfl rfl ?_
          refine R_skipop rfl rfl rfl ?_
          refine R_skipop rfl rfl rfl ?_
          refine R_skipop rfl rfl rfl ?_
          refine R_r (D_pick true rfl rfl) ?_
          refine R_nil ?_
          exact R_at (Env.sub_cons rfl <| Env.sub_cons rfl <| Env.sub_cons rfl <| Env.sub_cons rfl <| Env.sub_cons rfl <| Env.sub_cons rfl <| Env.sub_cons rfl <| Env.sub_cons (by first | (show some (Value.bool _) = some (Value.bool _); simp only [h2, Bool.true_and, Bool.false_and, Bool.true_or, Bool.false_or, Bool.and_true, Bool.and_false, Bool.or_true, Bool.or_false]; done) | (show some (Value.bool _) = some (Value.bool _); (try rw [h2]); first | done | rfl) | simp [h2, Env.find]) <| Env.sub_nil _)
        ·
          refine R_r (D_indexA Tryz.underlying27 Tryz.sizeOf26 rfl rfl (by omega) (by omega)) ?_
          refine R_r (D_load rfl (Has.own 0 rfl) (rd26_Marks_0 m)) ?_
          refine R_o (E_callV (v := .bool (Mark.ok m.a)) rfl rfl en101 (fun w hM => mark_C m.a M w hM ) ?_)
          refine R_r (D_not rfl) ?_
          refine R_r (D_pick false rfl rfl) ?_
          refine R_r (D_move rfl) ?_
          refine R_split 33 rfl (fun h3 => ?_) (fun h3 => ?_)
          ·
            refine R_skipop rfl rfl rfl ?_
            refine R_skipop rfl rfl rfl ?_
            refine R_skipop rfl rfl rfl ?_
            refine R_skipop rfl rfl rfl ?_
            refine R_r (D_pick true rfl rfl) ?_
            refine R_r (D_move rfl) ?_
            refine R_skipop rfl rfl rfl ?_
            refine R_skipop rfl rfl rfl ?_
            refine R_skipop rfl rfl rfl ?_
            refine R_skipop rfl rfl rfl ?_
            refine R_skipop rfl rfl rfl ?_
            refine R_skipop rfl rfl rfl ?_
            refine R_skipop rfl rfl rfl ?_
            refine R_skipop rfl rfl rfl ?_
            refine R_r (D_pick true rfl rfl) ?_
            refine R_nil ?_
            exact R_at (Env.sub_cons rfl <| Env.sub_cons rfl <| Env.sub_cons rfl <| Env.sub_cons rfl <| Env.sub_cons rfl <| Env.sub_cons rfl <| Env.sub_cons rfl <| Env.sub_cons (by first | (show some (Value.bool _) = some (Value.bool _); simp only [h2, h3, Bool.true_and, Bool.false_and, Bool.true_or, Bool.false_or, Bool.and_true, Bool.and_false, Bool.or_true, Bool.or_false]; done) | (show some (Value.bool _) = some (Value.bool _); (try rw [h2]); (try rw [h3]); first | done | rfl) | simp [h2, h3, Env.find]) <| Env.sub_nil _)
          ·
            refine R_r (D_indexA Tryz.underlying27 Tryz.sizeOf26 rfl rfl (by omega) (by omega)) ?_
            refine R_r (D_load rfl (Has.own 0 rfl) (rd26_Marks_2 m)) ?_
            refine R_o (E_callV (v := .bool (Mark.ok m.b)) rfl rfl en101 (fun w hM => mark_C m.b M w hM ) ?_)
            refine R_r (D_not rfl) ?_
            refine R_r (D_pick false rfl rfl) ?_
            refine R_r (D_move rfl) ?_
            refine R_split 39 rfl (fun h4 => ?_) (fun h4 => ?_)
            ·
              refine R_skipop rfl rfl rfl ?_
              refine R_skipop rfl rfl rfl ?_
              refine R_skipop rfl rfl rfl ?_
              refine R_skipop rfl rfl rfl ?_
              refine R_skipop rfl rfl rfl ?_
              refine R_skipop rfl rfl rfl ?_
              refine R_skipop rfl rfl rfl ?_
              refine R_skipop rfl rfl rfl ?_
              refine R_r (D_pick true rfl rfl) ?_
              refine R_nil ?_
              exact R_at (Env.sub_cons rfl <| Env.sub_cons rfl <| Env.sub_cons rfl <| Env.sub_cons rfl <| Env.sub_cons rfl <| Env.sub_cons rfl <| Env.sub_cons rfl <| Env.sub_cons (by first | (show some (Value.bool _) = some (Value.bool _); simp only [h2, h3, h4, Bool.true_and, Bool.false_and, Bool.true_or, Bool.false_or, Bool.and_true, Bool.and_false, Bool.or_true, Bool.or_false]; done) | (show some (Value.bool _) = some (Value.bool _); (try rw [h2]); (try rw [h3]); (try rw [h4]); first | done | rfl) | simp [h2, h3, h4, Env.find]) <| Env.sub_nil _)
            ·
              refine R_r (D_fieldAddr fa24_0 rfl) ?_
              refine R_r (D_load rfl (Has.own 1 rfl) (Rd.one Tryz.isAgg3 rfl)) ?_
              refine R_r (D_ne rfl rfl) ?_
              refine R_r (D_move rfl) ?_
              refine R_split 43 rfl (fun h5 => ?_) (fun h5 => ?_)
              ·
                have h5p : ¬ (v.kind = 2) := by simpa using h5
                refine R_r (D_load rfl (Has.own 0 rfl) (rd27_Marks_0 m)) ?_
                refine R_r (D_build rfl bd27_) ?_
                refine R_r (D_neA eg27 rfl rfl (eqa27 _ _)) ?_
                refine R_r (D_pick true rfl rfl) ?_
                refine R_r (D_pick false rfl rfl) ?_
                refine R_nil ?_
                exact R_at (Env.sub_cons rfl <| Env.sub_cons rfl <| Env.sub_cons rfl <| Env.sub_cons rfl <| Env.sub_cons rfl <| Env.sub_cons rfl <| Env.sub_cons rfl <| Env.sub_cons (by first | (show some (Value.bool _) = some (Value.bool _); simp only [h2, h3, h4, h5, Bool.true_and, Bool.false_and, Bool.true_or, Bool.false_or, Bool.and_true, Bool.and_false, Bool.or_true, Bool.or_false]; done) | (show some (Value.bool _) = some (Value.bool _); (try rw [h2]); (try rw [h3]); (try rw [h4]); (try rw [h5]); first | done | rfl) | simp [h2, h3, h4, h5, Env.find]) <| Env.sub_nil _)
              ·
                have h5p : (v.kind = 2) := by simpa using h5
                refine R_skipop rfl rfl rfl ?_
                refine R_skipop rfl rfl rfl ?_
                refine R_skipop rfl rfl rfl ?_
                refine R_r (D_pick false rfl rfl) ?_
                refine R_r (D_pick false rfl rfl) ?_
                refine R_nil ?_
                exact R_at (Env.sub_cons rfl <| Env.sub_cons rfl <| Env.sub_cons rfl <| Env.sub_cons rfl <| Env.sub_cons rfl <| Env.sub_cons rfl <| Env.sub_cons rfl <| Env.sub_cons (by first | (show some (Value.bool _) = some (Value.bool _); simp only [h2, h3, h4, h5, Bool.true_and, Bool.false_and, Bool.true_or, Bool.false_or, Bool.and_true, Bool.and_false, Bool.or_true, Bool.or_false]; done) | (show some (Value.bool _) = some (Value.bool _); (try rw [h2]); (try rw [h3]); (try rw [h4]); (try rw [h5]); first | done | rfl) | simp [h2, h3, h4, h5, Env.find]) <| Env.sub_nil _)
      ·
        refine R_cond rfl (fun h2 => ?_) (fun h2 => ?_)
        ·
          have h2p := h2; simp only [Bool.and_eq_true, Bool.or_eq_true, Bool.not_eq_true', Bool.and_eq_false_imp, Bool.or_eq_false_iff, Bool.not_eq_false', decide_eq_true_eq, decide_eq_false_iff_not] at h2p
          refine R_seq ?_
          refine R_region ?_
          refine R_r (D_assign rfl) ?_
          refine R_nil ?_
          refine R_ret ?_
          refine R_drop (List.nil_sublist _) ?_
          refine R_fin1 rfl rfl ?_
          have e : ownE v m k = 41 := by unfold ownE; rw [if_neg (by rw [h1]; simp)]; rw [if_pos h2]
          exact ⟨by rw [e], rfl, rfl⟩
        ·
          have h2p := h2; simp only [Bool.and_eq_true, Bool.or_eq_true, Bool.not_eq_true', Bool.and_eq_false_imp, Bool.or_eq_false_iff, Bool.not_eq_false', decide_eq_true_eq, decide_eq_false_iff_not] at h2p
          refine R_skip ?_
          refine R_seq ?_
          refine R_region ?_
          refine R_r (D_assign rfl) ?_
          refine R_nil ?_
          refine R_ret ?_
          refine R_drop (List.nil_sublist _) ?_
          refine R_fin1 rfl rfl ?_
          have e : ownE v m k = 0 := by unfold ownE; rw [if_neg (by rw [h1]; simp)]; rw [if_neg (by rw [h2]; simp)]
          exact ⟨by rw [e], rfl, rfl⟩

theorem check_S (x : Node) (a : Option Addr) (c : Nat) (p : Str) (lv : Nat) (M : PMem) (w : World) (hM : Lies M w) (ih : ∀ y : Node, y.size < x.size → ∀ (a : Option Addr) (c : Nat) (p : Str) (lv : Nat) (M : PMem) (w : World) (hM : Lies M w), y.kids.length ≤ c → NdA M a y.kids → p.length + Node.wtL y.kids ≤ 1073741824 → lv ≤ 64 → Ends Tryz.prog 74 [NodeC.val ⟨y.name, y.value, y.marks, .slice a y.kids.length c⟩, S p, I lv] w [] M (fun v' M' H' => v' = .tuple #[S (Node.checkB y p lv).1, I (Node.checkB y p lv).2] ∧ M' = M ∧ H' = [])) (hc : x.kids.length ≤ c) (hkx : NdA M a x.kids) (hp : p.length + Node.wtL x.kids ≤ 1073741824) (hlv : lv ≤ 64) : Ends Tryz.prog 74 [NodeC.val (⟨x.name, x.value, x.marks, .slice a x.kids.length c⟩ : NodeC), S p, I (lv : Int)] w [] M (fun v' M' H' => v' = .tuple #[S (Node.checkB x p lv).1, I (Node.checkB x p lv).2] ∧ M' = M ∧ H' = []) := by
  have hwk := Node.wt_kids (l := x.kids)
  have hwx := Node.wt_eq x
  refine Ends.enter (H := []) Tryz.func74 rfl Tryz.ntmps74 rfl (St.start hM) ?_
  refine R_seq ?_
  refine R_region ?_
  refine R_o (E_box (NodeC.cells (⟨x.name, x.value, x.marks, .slice a x.kids.length c⟩ : NodeC)) rfl rfl (fun b1 => ?_))
  refine R_r (D_assign rfl) ?_
  refine R_r (D_assign rfl) ?_
  refine R_nil ?_
  refine R_seq ?_
  refine R_seq ?_
  refine R_region ?_
  refine R_r (D_assign rfl) ?_
  refine R_nil ?_
  refine R_block ?_
  refine R_loop (σ := (Nat)) (fun gs => ([(1, S p), (2, I (lv : Int)), (3, P_ b1 0), (8, I (gs : Int))], M, [.blk b1 (.cells (List.toArray (NodeC.cells (⟨x.name, x.value, x.marks, .slice a x.kids.length c⟩ : NodeC))) 30)])) (fun gs => gs ≤ x.kids.length ∧ Node.checkL x.kids p lv false [] = Node.checkL (x.kids.drop gs) p lv (decide (0 < (gs : Int))) (pvOf x.kids gs)) (fun gs => x.kids.length - gs) 0 ?_ (Env.sub_cons rfl <| Env.sub_cons rfl <| Env.sub_cons rfl <| Env.sub_cons rfl <| Env.sub_nil _) rfl rfl ?_
  · show 0 ≤ x.kids.length ∧ Node.checkL x.kids p lv false [] = Node.checkL (x.kids.drop 0) p lv (decide (0 < (0 : Int))) (pvOf x.kids 0); exact ⟨by omega, Node.checkL_start _ _ _⟩
  rintro i hok
  replace hok : i ≤ x.kids.length ∧ Node.checkL x.kids p lv false [] = Node.checkL (x.kids.drop i) p lv (decide (0 < (i : Int))) (pvOf x.kids i) := hok
  show Cx.R _ _ _ [(1, S p), (2, I (lv : Int)), (3, P_ b1 0), (8, I (i : Int))] M [.blk b1 (.cells (List.toArray (NodeC.cells (⟨x.name, x.value, x.marks, .slice a x.kids.length c⟩ : NodeC))) 30)]
  obtain ⟨hi, hck⟩ := hok
  refine R_seq ?_
  refine R_seq ?_
  refine R_region ?_
  refine R_r (D_move rfl) ?_
  refine R_r (D_fieldAddr fa30_3 rfl) ?_
  refine R_r (D_load rfl (Has.own 0 rfl) (Rd.one Tryz.isAgg28 rfl)) ?_
  refine R_r (D_lenL Tryz.underlying28 rfl) ?_
  refine R_r (D_lt rfl rfl) ?_
  refine R_nil ?_
  refine R_cond rfl (fun h1 => ?_) (fun h1 => ?_)
  ·
    have h1p := of_decide_eq_true h1
    refine R_skip ?_
    refine R_seq ?_
    refine R_block ?_
    refine R_seq ?_
    refine R_region ?_
    refine R_r (D_fieldAddr fa30_3 rfl) ?_
    refine R_r (D_load rfl (Has.own 0 rfl) (Rd.one Tryz.isAgg28 rfl)) ?_
    refine R_r (D_move rfl) ?_
    obtain ⟨b2, ob2, csb2, elb2, frb2, rfl, hmb2, hxb2⟩ := hkx.at (i := i) (by first | omega | (simp; omega))
    obtain ⟨x3, hx3⟩ : ∃ e_, x.kids[i]? = some e_ := ⟨_, List.getElem?_eq_getElem (by first | omega | (simp; omega))⟩
    obtain ⟨ksx3, hex3, hkx3⟩ := (hxb2 i x3 hx3).open
    obtain ⟨ax3, cx3, rfl, hcx3, hkx3⟩ := hkx3.sl
    refine R_r (D_indexLn (i) Tryz.underlying28 Tryz.sizeOf30 rfl rfl (by first | rfl | omega) (by first | omega | (simp <;> omega))) ?_
    refine R_r (D_load rfl (Has.mem hmb2) (Rd.elemA (i := i) hex3 Tryz.underlying30 rfl inf30 rfl)) ?_
    refine R_o (E_alloc (NodeC.cells NodeC.zero) Tryz.zeroValue30 rfl (fun b4 => ?_))
    refine R_o (E_store (cs' := (NodeC.cells (⟨x3.name, x3.value, x3.marks, .slice ax3 x3.kids.length cx3⟩ : NodeC))) 0 rfl rfl rfl (Wr.agg Tryz.sizeOf30 rfl rfl rfl rfl) ?_)
    refine R_nil ?_
    refine R_seq ?_
    refine R_region ?_
    refine R_r (D_fieldAddr fa30_0 rfl) ?_
    refine R_r (D_load rfl (Has.own 0 rfl) (Rd.one Tryz.isAgg9 rfl)) ?_
    refine R_r (D_assign rfl) ?_
    refine R_nil ?_
    refine R_seq ?_
    refine R_seq ?_
    refine R_region ?_
    refine R_r (D_move rfl) ?_
    refine R_r (D_gt rfl rfl) ?_
    refine R_nil ?_
    refine R_join [(1, S p), (2, I (lv : Int)), (3, P_ b1 0), (8, I (i : Int)), (9, P_ b4 0), (10, S (qpath p x3.name lv))] (M' := M) (H' := [.blk b4 (.cells (List.toArray (NodeC.cells (⟨x3.name, x3.value, x3.marks, .slice ax3 x3.kids.length cx3⟩ : NodeC))) 30), .blk b1 (.cells (List.toArray (NodeC.cells (⟨x.name, x.value, x.marks, .slice (some ⟨b2, ob2, none⟩) x.kids.length c⟩ : NodeC))) 30)]) ?_ ?_
    ·
      refine R_cond rfl (fun h2 => ?_) (fun h2 => ?_)
      ·
        have h2p := of_decide_eq_true h2
        refine R_region ?_
        refine R_r (D_move rfl) ?_
        refine R_r (D_addS rfl rfl (by simp; omega)) ?_
        refine R_r (D_fieldAddr fa30_0 rfl) ?_
        refine R_r (D_load rfl (Has.own 0 rfl) (Rd.one Tryz.isAgg9 rfl)) ?_
        refine R_r (D_addS rfl rfl (by have := Node.wt_mem (List.mem_of_getElem? hx3); have := Node.wt_eq x3; simp only [List.length_append, List.length_cons, List.length_nil]; omega)) ?_
        refine R_r (D_assign rfl) ?_
        refine R_nil ?_
        exact R_at (Env.sub_cons rfl <| Env.sub_cons rfl <| Env.sub_cons rfl <| Env.sub_cons rfl <| Env.sub_cons rfl <| Env.sub_cons (by show some (S _) = some (S _); rw [qpath, if_pos h2p]) <| Env.sub_nil _)
      ·
        have h2p := of_decide_eq_false h2
        refine R_skip ?_
        exact R_at (Env.sub_cons rfl <| Env.sub_cons rfl <| Env.sub_cons rfl <| Env.sub_cons rfl <| Env.sub_cons rfl <| Env.sub_cons (by show some (S _) = some (S _); rw [qpath, if_neg h2p]) <| Env.sub_nil _)
    ·
      refine R_seq ?_
      refine R_seq ?_
      refine R_region ?_
      refine R_r (D_move rfl) ?_
      refine R_r (D_add rfl rfl rfl (by omega) (by omega)) ?_
      refine R_r (D_gt rfl rfl) ?_
      refine R_nil ?_
      refine R_cond rfl (fun h2 => ?_) (fun h2 => ?_)
      ·
        have h2p := of_decide_eq_true h2
        refine R_seq ?_
        refine R_region ?_
        refine R_r (D_move rfl) ?_
        refine R_r (D_assign rfl) ?_
        refine R_r (D_assign rfl) ?_
        refine R_nil ?_
        refine R_ret ?_
        refine R_drop (List.nil_sublist _) ?_
        refine R_fin2 rfl rfl rfl ?_
        obtain ⟨y, hy⟩ : ∃ y, x.kids[i - 1]? = some y := ⟨_, List.getElem?_eq_getElem (by omega)⟩
        exact ⟨by rw [Node.checkB_eq x p lv, hck, Node.checkL_step (i := i) (x := y) (by assumption) hy, if_pos (show 64 < lv + 1 by omega)], rfl, rfl⟩
      ·
        have h2p := of_decide_eq_false h2
        refine R_skip ?_
        refine R_seq ?_
        refine R_region ?_
        refine R_r (D_fieldAddr fa30_0 rfl) ?_
        refine R_r (D_load rfl (Has.own 0 rfl) (Rd.one Tryz.isAgg9 rfl)) ?_
        refine R_o (E_callV (v := I (if nameOk x3.name then 0 else 30 : Int)) rfl rfl en102 (fun w hM => Check3_C x3.name M w hM (by have := Node.wt_mem (List.mem_of_getElem? hx3); have := Node.wt_eq x3; omega)) ?_)
        refine R_r (D_assign rfl) ?_
        refine R_nil ?_
        refine R_seq ?_
        refine R_seq ?_
        obtain ⟨x5, hx5⟩ : ∃ e_, x.kids[i - 1]? = some e_ := ⟨_, List.getElem?_eq_getElem (by first | omega | (simp; omega))⟩
        obtain ⟨ksx5, hex5, hkx5⟩ := (hxb2 (i - 1) x5 hx5).open
        obtain ⟨ax5, cx5, rfl, hcx5, hkx5⟩ := hkx5.sl
        refine R_join [(1, S p), (2, I (lv : Int)), (3, P_ b1 0), (8, I (i : Int)), (9, P_ b4 0), (10, S (qpath p x3.name lv)), (11, I (if nameOk x3.name then 0 else 30 : Int)), (35, I (lv : Int)), (36, I ((lv : Int) + 1)), (37, .bool (decide (64 < ((lv : Int) + 1)))), (39, P_ b4 0), (40, S x3.name), (41, I (if nameOk x3.name then 0 else 30 : Int)), (59, .bool (((decide ((if nameOk x3.name then 0 else 30 : Int) = 0)) && (decide (0 < (i : Int)))) && (!Op.bytesLess x5.name x3.name)))] (M' := M) (H' := [.blk b4 (.cells (List.toArray (NodeC.cells (⟨x3.name, x3.value, x3.marks, .slice ax3 x3.kids.length cx3⟩ : NodeC))) 30), .blk b1 (.cells (List.toArray (NodeC.cells (⟨x.name, x.value, x.marks, .slice (some ⟨b2, ob2, none⟩) x.kids.length c⟩ : NodeC))) 30)]) ?_ ?_
        ·
          refine Y_region [.blk b4 (.cells (List.toArray (NodeC.cells (⟨x3.name, x3.value, x3.marks, .slice ax3 x3.kids.length cx3⟩ : NodeC))) 30), .blk b1 (.cells (List.toArray (NodeC.cells (⟨x.name, x.value, x.marks, .slice (some ⟨b2, ob2, none⟩) x.kids.length c⟩ : NodeC))) 30)] mixed ?_
          refine Y_r 0 rfl (D_move rfl) ?_
          refine Y_r 1 rfl (D_eq rfl rfl) ?_
          refine Y_r 2 rfl (D_move rfl) ?_
          refine R_split 44 rfl (fun h3 => ?_) (fun h3 => ?_)
          ·
            have h3p := of_decide_eq_true h3
            refine Y_r 3 rfl (D_move rfl) ?_
            refine Y_r 4 rfl (D_gt rfl rfl) ?_
            refine Y_r 5 rfl (D_pick true rfl rfl) ?_
            refine Y_r 6 rfl (D_move rfl) ?_
            refine R_split 48 rfl (fun h4 => ?_) (fun h4 => ?_)
            ·
              have h4p := of_decide_eq_true h4
              refine Y_r 7 rfl (D_fieldAddr fa30_3 rfl) ?_
              refine Y_r 8 rfl (D_load rfl (Has.own 1 rfl) (Rd.one Tryz.isAgg28 rfl)) ?_
              refine Y_r 9 rfl (D_move rfl) ?_
              refine Y_r 10 rfl (D_subI rfl rfl rfl (by omega) (by omega)) ?_
              refine Y_r 11 rfl (D_indexLn (i - 1) Tryz.underlying28 Tryz.sizeOf30 rfl rfl (by first | rfl | omega) (by first | omega | (simp <;> omega))) ?_
              refine Y_r 12 rfl (D_fieldAddr fa30_0 rfl) ?_
              refine Y_r 13 rfl (D_load rfl (Has.mem hmb2) (Rd.elem0 (i := (i - 1)) hex5 Tryz.isAgg9 rfl rfl)) ?_
              refine Y_r 14 rfl (D_fieldAddr fa30_0 rfl) ?_
              refine Y_r 15 rfl (D_load rfl (Has.own 0 rfl) (Rd.one Tryz.isAgg9 rfl)) ?_
              refine Y_r 16 rfl (D_geS rfl rfl) ?_
              refine Y_r 17 rfl (D_pick true rfl rfl) ?_
              refine Y_nil ?_ (PMem.le_refl _) (fun _ h => List.Sublist.subset (.cons_cons _ (.cons_cons _ (.slnil))) h)
              exact R_at (Env.sub_cons rfl <| Env.sub_cons rfl <| Env.sub_cons rfl <| Env.sub_cons rfl <| Env.sub_cons rfl <| Env.sub_cons rfl <| Env.sub_cons rfl <| Env.sub_cons rfl <| Env.sub_cons rfl <| Env.sub_cons rfl <| Env.sub_cons rfl <| Env.sub_cons rfl <| Env.sub_cons rfl <| Env.sub_cons (by first | (show some (Value.bool _) = some (Value.bool _); simp only [h3, h4, Bool.true_and, Bool.false_and, Bool.true_or, Bool.false_or, Bool.and_true, Bool.and_false, Bool.or_true, Bool.or_false]; done) | (show some (Value.bool _) = some (Value.bool _); (try rw [h3]); (try rw [h4]); first | done | rfl) | simp [h3, h4, Env.find]) <| Env.sub_nil _)
            ·
              have h4p := of_decide_eq_false h4
              refine Y_skip 7 rfl rfl ?_
              refine Y_skip 8 rfl rfl ?_
              refine Y_skip 9 rfl rfl ?_
              refine Y_skip 10 rfl rfl ?_
              refine Y_skip 11 rfl rfl ?_
              refine Y_skip 12 rfl rfl ?_
              refine Y_skip 13 rfl rfl ?_
              refine Y_skip 14 rfl rfl ?_
              refine Y_skip 15 rfl rfl ?_
              refine Y_skip 16 rfl rfl ?_
              refine Y_r 17 rfl (D_pick false rfl rfl) ?_
              refine Y_nil ?_ (PMem.le_refl _) (fun _ h => List.Sublist.subset (.cons_cons _ (.cons_cons _ (.slnil))) h)
              exact R_at (Env.sub_cons rfl <| Env.sub_cons rfl <| Env.sub_cons rfl <| Env.sub_cons rfl <| Env.sub_cons rfl <| Env.sub_cons rfl <| Env.sub_cons rfl <| Env.sub_cons rfl <| Env.sub_cons rfl <| Env.sub_cons rfl <| Env.sub_cons rfl <| Env.sub_cons rfl <| Env.sub_cons rfl <| Env.sub_cons (by first | (show some (Value.bool _) = some (Value.bool _); simp only [h3, h4, Bool.true_and, Bool.false_and, Bool.true_or, Bool.false_or, Bool.and_true, Bool.and_false, Bool.or_true, Bool.or_false]; done) | (show some (Value.bool _) = some (Value.bool _); (try rw [h3]); (try rw [h4]); first | done | rfl) | simp [h3, h4, Env.find]) <| Env.sub_nil _)
          ·
            have h3p := of_decide_eq_false h3
            refine Y_skip 3 rfl rfl ?_
            refine Y_skip 4 rfl rfl ?_
            refine Y_r 5 rfl (D_pick false rfl rfl) ?_
            refine Y_r 6 rfl (D_move rfl) ?_
            refine Y_skip 7 rfl rfl ?_
            refine Y_skip 8 rfl rfl ?_
            refine Y_skip 9 rfl rfl ?_
            refine Y_skip 10 rfl rfl ?_
            refine Y_skip 11 rfl rfl ?_
            refine Y_skip 12 rfl rfl ?_
            refine Y_skip 13 rfl rfl ?_
            refine Y_skip 14 rfl rfl ?_
            refine Y_skip 15 rfl rfl ?_
            refine Y_skip 16 rfl rfl ?_
            refine Y_r 17 rfl (D_pick false rfl rfl) ?_
            refine Y_nil ?_ (PMem.le_refl _) (fun _ h => List.Sublist.subset (.cons_cons _ (.cons_cons _ (.slnil))) h)
            exact R_at (Env.sub_cons rfl <| Env.sub_cons rfl <| Env.sub_cons rfl <| Env.sub_cons rfl <| Env.sub_cons rfl <| Env.sub_cons rfl <| Env.sub_cons rfl <| Env.sub_cons rfl <| Env.sub_cons rfl <| Env.sub_cons rfl <| Env.sub_cons rfl <| Env.sub_cons rfl <| Env.sub_cons rfl <| Env.sub_cons (by first | (show some (Value.bool _) = some (Value.bool _); simp only [h3, Bool.true_and, Bool.false_and, Bool.true_or, Bool.false_or, Bool.and_true, Bool.and_false, Bool.or_true, Bool.or_false]; done) | (show some (Value.bool _) = some (Value.bool _); (try rw [h3]); first | done | rfl) | simp [h3, Env.find]) <| Env.sub_nil _)
        ·
          refine R_join [(1, S p), (2, I (lv : Int)), (3, P_ b1 0), (8, I (i : Int)), (9, P_ b4 0), (10, S (qpath p x3.name lv)), (11, I (e1E x3.name (decide (0 < (i : Int))) x5.name))] (M' := M) (H' := [.blk b4 (.cells (List.toArray (NodeC.cells (⟨x3.name, x3.value, x3.marks, .slice ax3 x3.kids.length cx3⟩ : NodeC))) 30), .blk b1 (.cells (List.toArray (NodeC.cells (⟨x.name, x.value, x.marks, .slice (some ⟨b2, ob2, none⟩) x.kids.length c⟩ : NodeC))) 30)]) ?_ ?_
          ·
            refine R_cond rfl (fun h3 => ?_) (fun h3 => ?_)
            ·
              have h3p := h3; simp only [Bool.and_eq_true, Bool.or_eq_true, Bool.not_eq_true', Bool.and_eq_false_imp, Bool.or_eq_false_iff, Bool.not_eq_false', decide_eq_true_eq, decide_eq_false_iff_not] at h3p
              refine R_region ?_
              refine R_r (D_assign rfl) ?_
              refine R_nil ?_
              exact R_at (Env.sub_cons rfl <| Env.sub_cons rfl <| Env.sub_cons rfl <| Env.sub_cons rfl <| Env.sub_cons rfl <| Env.sub_cons rfl <| Env.sub_cons (by show some (I _) = some (I _); rw [e1E, if_pos h3]) <| Env.sub_nil _)
            ·
              have h3p := h3; simp only [Bool.and_eq_true, Bool.or_eq_true, Bool.not_eq_true', Bool.and_eq_false_imp, Bool.or_eq_false_iff, Bool.not_eq_false', decide_eq_true_eq, decide_eq_false_iff_not] at h3p
              refine R_skip ?_
              exact R_at (Env.sub_cons rfl <| Env.sub_cons rfl <| Env.sub_cons rfl <| Env.sub_cons rfl <| Env.sub_cons rfl <| Env.sub_cons rfl <| Env.sub_cons (by show some (I _) = some (I _); rw [e1E, if_neg (Bool.eq_false_iff.1 h3)]) <| Env.sub_nil _)
          ·
            refine R_seq ?_
            refine R_seq ?_
            refine R_region ?_
            refine R_r (D_move rfl) ?_
            refine R_r (D_eq rfl rfl) ?_
            refine R_nil ?_
            refine R_join [(1, S p), (2, I (lv : Int)), (3, P_ b1 0), (8, I (i : Int)), (9, P_ b4 0), (10, S (qpath p x3.name lv)), (11, I (e2E x3 (e1E x3.name (decide (0 < (i : Int))) x5.name)))] (M' := M) (H' := [.blk b4 (.cells (List.toArray (NodeC.cells (⟨x3.name, x3.value, x3.marks, .slice ax3 x3.kids.length cx3⟩ : NodeC))) 30), .blk b1 (.cells (List.toArray (NodeC.cells (⟨x.name, x.value, x.marks, .slice (some ⟨b2, ob2, none⟩) x.kids.length c⟩ : NodeC))) 30)]) ?_ ?_
            ·
              refine R_cond rfl (fun h3 => ?_) (fun h3 => ?_)
              ·
                have h3p := of_decide_eq_true h3
                refine R_region ?_
                refine R_r (D_fieldAddr fa30_1 rfl) ?_
                refine R_r (D_load rfl (Has.own 0 rfl) (rd24_NodeC_1 (⟨x3.name, x3.value, x3.marks, .slice ax3 x3.kids.length cx3⟩ : NodeC))) ?_
                refine R_r (D_fieldAddr fa30_2 rfl) ?_
                refine R_r (D_load rfl (Has.own 0 rfl) (rd27_NodeC_36 (⟨x3.name, x3.value, x3.marks, .slice ax3 x3.kids.length cx3⟩ : NodeC))) ?_
                refine R_r (D_fieldAddr fa30_3 rfl) ?_
                refine R_r (D_load rfl (Has.own 0 rfl) (Rd.one Tryz.isAgg28 rfl)) ?_
                refine R_r (D_lenL Tryz.underlying28 rfl) ?_
                refine R_o (E_callV (v := I (ownE x3.value x3.marks x3.kids.length)) rfl rfl en73 (fun w hM => own_C x3.value x3.marks x3.kids.length M w hM ) ?_)
                refine R_r (D_assign rfl) ?_
                refine R_nil ?_
                exact R_at (Env.sub_cons rfl <| Env.sub_cons rfl <| Env.sub_cons rfl <| Env.sub_cons rfl <| Env.sub_cons rfl <| Env.sub_cons rfl <| Env.sub_cons (by show some (I _) = some (I _); rw [e2E, if_pos h3p]) <| Env.sub_nil _)
              ·
                have h3p := of_decide_eq_false h3
                refine R_skip ?_
                exact R_at (Env.sub_cons rfl <| Env.sub_cons rfl <| Env.sub_cons rfl <| Env.sub_cons rfl <| Env.sub_cons rfl <| Env.sub_cons rfl <| Env.sub_cons (by show some (I _) = some (I _); rw [e2E, if_neg h3p]) <| Env.sub_nil _)
            ·
              refine R_seq ?_
              refine R_seq ?_
              refine R_region ?_
              refine R_r (D_move rfl) ?_
              refine R_r (D_ne rfl rfl) ?_
              refine R_nil ?_
              refine R_cond rfl (fun h3 => ?_) (fun h3 => ?_)
              ·
                have h3p : ¬ ((e2E x3 (e1E x3.name (decide (0 < (i : Int))) x5.name)) = 0) := by simpa using h3
                refine R_seq ?_
                refine R_region ?_
                refine R_r (D_move rfl) ?_
                refine R_r (D_move rfl) ?_
                refine R_r (D_assign rfl) ?_
                refine R_r (D_assign rfl) ?_
                refine R_nil ?_
                refine R_ret ?_
                refine R_drop (List.nil_sublist _) ?_
                refine R_fin2 rfl rfl rfl ?_
                exact ⟨by rw [Node.checkB_eq x p lv, hck, Node.checkL_step (i := i) (by assumption) (by assumption), if_neg (show ¬ 64 < lv + 1 by omega), if_neg h3p], rfl, rfl⟩
              ·
                have h3p : ((e2E x3 (e1E x3.name (decide (0 < (i : Int))) x5.name)) = 0) := by simpa using h3
                refine R_skip ?_
                refine R_seq ?_
                refine R_region ?_
                refine R_r (D_load rfl (Has.own 0 rfl) (rd30_NodeC_0 (⟨x3.name, x3.value, x3.marks, .slice ax3 x3.kids.length cx3⟩ : NodeC))) ?_
                refine R_r (D_move rfl) ?_
                refine R_r (D_move rfl) ?_
                refine R_r (D_add rfl rfl rfl (by omega) (by omega)) ?_
                refine R_o (E_callV (v := .tuple #[S (Node.checkB x3 (qpath p x3.name lv) (lv + 1)).1, I (Node.checkB x3 (qpath p x3.name lv) (lv + 1)).2]) rfl rfl en74 (fun w hM => ih x3 (Node.size_kid (List.mem_of_getElem? hx3)) ax3 cx3 (qpath p x3.name lv) (lv + 1) M w hM (by omega) hkx3 (by have := Node.wt_mem (List.mem_of_getElem? hx3); have := qpath_len p x3.name lv; have := Node.wt_eq x3; omega) (by omega)) ?_)
                refine R_r (D_move rfl) ?_
                refine R_r (D_extract rfl rfl) ?_
                refine R_r (D_extract rfl rfl) ?_
                refine R_r (D_assign rfl) ?_
                refine R_r (D_assign rfl) ?_
                refine R_nil ?_
                refine R_seq ?_
                refine R_region ?_
                refine R_r (D_move rfl) ?_
                refine R_r (D_ne rfl rfl) ?_
                refine R_nil ?_
                refine R_cond rfl (fun h4 => ?_) (fun h4 => ?_)
                ·
                  have h4p : ¬ (((Node.checkB x3 (qpath p x3.name lv) (lv + 1)).2) = 0) := by simpa using h4
                  refine R_seq ?_
                  refine R_region ?_
                  refine R_r (D_move rfl) ?_
                  refine R_r (D_move rfl) ?_
                  refine R_r (D_assign rfl) ?_
                  refine R_r (D_assign rfl) ?_
                  refine R_nil ?_
                  refine R_ret ?_
                  refine R_drop (List.nil_sublist _) ?_
                  refine R_fin2 rfl rfl rfl ?_
                  refine ⟨?_, rfl, rfl⟩
                  show Value.tuple #[S ((Node.checkB x3 (qpath p x3.name lv) (lv + 1)).1), I ((Node.checkB x3 (qpath p x3.name lv) (lv + 1)).2)] = _
                  rw [Node.checkB_eq x p lv, hck, Node.checkL_step (i := i) (by assumption) (by assumption), if_neg (show ¬ 64 < lv + 1 by omega), if_pos h3p, if_neg h4p]
                ·
                  have h4p : (((Node.checkB x3 (qpath p x3.name lv) (lv + 1)).2) = 0) := by simpa using h4
                  refine R_skip ?_
                  refine R_region ?_
                  refine R_r (D_move rfl) ?_
                  refine R_r (D_add rfl rfl rfl (by omega) (by omega)) ?_
                  refine R_r (D_assign rfl) ?_
                  refine R_nil ?_
                  refine R_drop (H' := [.blk b1 (.cells (List.toArray (NodeC.cells (⟨x.name, x.value, x.marks, .slice (some ⟨b2, ob2, none⟩) x.kids.length c⟩ : NodeC))) 30)]) (.cons _ (List.Sublist.refl _)) ?_
                  exact R_back (i + 1) (by show (i + 1) ≤ x.kids.length ∧ Node.checkL x.kids p lv false [] = Node.checkL (x.kids.drop (i + 1)) p lv (decide (0 < ((i + 1) : Int))) (pvOf x.kids (i + 1)); exact ⟨by omega, by rw [hck, Node.checkL_step (by assumption) (by assumption), if_neg (show ¬ 64 < lv + 1 by omega), if_pos h3p, if_pos h4p]; first | rfl | simp⟩) (by show x.kids.length - (i + 1) < x.kids.length - i; omega) (Env.sub_cons rfl <| Env.sub_cons rfl <| Env.sub_cons rfl <| Env.sub_cons rfl <| Env.sub_nil _) rfl rfl
  ·
    have h1p := of_decide_eq_false h1
    refine R_exit rfl ?_
    refine R_seq ?_
    refine R_region ?_
    refine R_r (D_assign rfl) ?_
    refine R_r (D_assign rfl) ?_
    refine R_nil ?_
    refine R_ret ?_
    refine R_drop (List.nil_sublist _) ?_
    refine R_fin2 rfl rfl rfl ?_
    exact ⟨by rw [Node.checkB_eq x p lv, hck, List.drop_eq_nil_of_le (by omega)]; rfl, rfl, rfl⟩

theorem check4_C : ∀ (n : Nat) (x : Node), x.size = n → ∀ (a : Option Addr) (c : Nat) (p : Str) (lv : Nat) (M : PMem) (w : World) (hM : Lies M w), x.kids.length ≤ c → NdA M a x.kids → p.length + Node.wtL x.kids ≤ 1073741824 → lv ≤ 64 → Ends Tryz.prog 74 [NodeC.val ⟨x.name, x.value, x.marks, .slice a x.kids.length c⟩, S p, I lv] w [] M (fun v' M' H' => v' = .tuple #[S (Node.checkB x p lv).1, I (Node.checkB x p lv).2] ∧ M' = M ∧ H' = []) := by
  intro n
  induction n using Nat.strongRecOn with
  | _ n IH => exact fun x hx a c p lv M w hM hc hk hp hl => check_S x a c p lv M w hM (fun y hy a c p lv M w hM h1 h2 h3 h4 => IH y.size (by omega) y rfl a c p lv M w hM h1 h2 h3 h4) hc hk hp hl

theorem Check4_C (x : Node) (a : Option Addr) (c : Nat) (M : PMem) (w : World) (hM : Lies M w) (hc : x.kids.length ≤ c) (hkx : NdA M a x.kids) (hwl : Node.wtL x.kids ≤ 1073741824) : Ends Tryz.prog 31 [NodeC.val (⟨x.name, x.value, x.marks, .slice a x.kids.length c⟩ : NodeC)] w [] M (fun v' M' H' => v' = .tuple #[S (Node.check x).1, I (Node.check x).2] ∧ M' = M ∧ H' = []) := by
  refine Ends.enter (H := []) Tryz.func31 rfl Tryz.ntmps31 rfl (St.start hM) ?_
  refine R_seq ?_
  refine R_region ?_
  refine R_o (E_box (NodeC.cells (⟨x.name, x.value, x.marks, .slice a x.kids.length c⟩ : NodeC)) rfl rfl (fun b1 => ?_))
  refine R_r (D_assign rfl) ?_
  refine R_r (D_assign rfl) ?_
  refine R_nil ?_
  refine R_seq ?_
  refine R_region ?_
  refine R_r (D_fieldAddr fa30_1 rfl) ?_
  refine R_r (D_load rfl (Has.own 0 rfl) (rd24_NodeC_1 (⟨x.name, x.value, x.marks, .slice a x.kids.length c⟩ : NodeC))) ?_
  refine R_r (D_fieldAddr fa30_2 rfl) ?_
  refine R_r (D_load rfl (Has.own 0 rfl) (rd27_NodeC_36 (⟨x.name, x.value, x.marks, .slice a x.kids.length c⟩ : NodeC))) ?_
  refine R_r (D_fieldAddr fa30_3 rfl) ?_
  refine R_r (D_load rfl (Has.own 0 rfl) (Rd.one Tryz.isAgg28 rfl)) ?_
  refine R_r (D_lenL Tryz.underlying28 rfl) ?_
  refine R_o (E_callV (v := I (ownE x.value x.marks x.kids.length)) rfl rfl en73 (fun w hM => own_C x.value x.marks x.kids.length M w hM ) ?_)
  refine R_r (D_assign rfl) ?_
  refine R_nil ?_
  refine R_seq ?_
  refine R_seq ?_
  refine R_region ?_
  refine R_r (D_move rfl) ?_
  refine R_r (D_ne rfl rfl) ?_
  refine R_nil ?_
  refine R_cond rfl (fun h1 => ?_) (fun h1 => ?_)
  ·
    have h1p : ¬ ((ownE x.value x.marks x.kids.length) = 0) := by simpa using h1
    refine R_seq ?_
    refine R_region ?_
    refine R_r (D_move rfl) ?_
    refine R_r (D_assign rfl) ?_
    refine R_r (D_assign rfl) ?_
    refine R_nil ?_
    refine R_ret ?_
    refine R_drop (List.nil_sublist _) ?_
    refine R_fin2 rfl rfl rfl ?_
    have e : Node.check x = ([], ownE x.value x.marks x.kids.length) := by unfold Node.check; rw [if_neg h1p]
    exact ⟨by rw [e]; rfl, rfl, rfl⟩
  ·
    have h1p : ((ownE x.value x.marks x.kids.length) = 0) := by simpa using h1
    refine R_skip ?_
    refine R_seq ?_
    refine R_region ?_
    refine R_r (D_load rfl (Has.own 0 rfl) (rd30_NodeC_0 (⟨x.name, x.value, x.marks, .slice a x.kids.length c⟩ : NodeC))) ?_
    refine R_o (E_callV (v := .tuple #[S (Node.checkB x [] 0).1, I (Node.checkB x [] 0).2]) rfl rfl en74 (fun w hM => check4_C _ x rfl a c [] 0 M w hM hc hkx (by simpa using hwl) (by omega)) ?_)
    refine R_r (D_extract rfl rfl) ?_
    refine R_r (D_extract rfl rfl) ?_
    refine R_r (D_assign rfl) ?_
    refine R_r (D_assign rfl) ?_
    refine R_nil ?_
    refine R_ret ?_
    refine R_drop (List.nil_sublist _) ?_
    refine R_fin2 rfl rfl rfl ?_
    have e : Node.check x = Node.checkB x [] 0 := by unfold Node.check; rw [if_pos h1p]
    exact ⟨by rw [e]; rfl, rfl, rfl⟩

theorem Copy_S (x : Node) (a : Option Addr) (c : Nat) (M : PMem) (w : World) (hM : Lies M w) (ih : ∀ y : Node, y.size < x.size → ∀ (a : Option Addr) (c : Nat) (M : PMem) (w : World) (hM : Lies M w), y.kids.length ≤ c → NdA M a y.kids → Node.wtL y.kids ≤ 1073741824 → Ends Tryz.prog 59 [NodeC.val ⟨y.name, y.value, y.marks, .slice a y.kids.length c⟩] w [] M (fun v M' H' => H' = [] ∧ ∃ ks, v = NodeC.val ⟨y.name, y.value, y.marks, ks⟩ ∧ KidsAt M' ks y.kids)) (hc : x.kids.length ≤ c) (hkx : NdA M a x.kids) (hwl : Node.wtL x.kids ≤ 1073741824) : Ends Tryz.prog 59 [NodeC.val (⟨x.name, x.value, x.marks, .slice a x.kids.length c⟩ : NodeC)] w [] M (fun v M' H' => H' = [] ∧ ∃ ks, v = NodeC.val ⟨x.name, x.value, x.marks, ks⟩ ∧ KidsAt M' ks x.kids) := by
  have hwk := Node.wt_kids (l := x.kids)
  refine Ends.enter (H := []) Tryz.func59 rfl Tryz.ntmps59 rfl (St.start hM) ?_
  refine R_seq ?_
  refine R_region ?_
  refine R_o (E_box (NodeC.cells (⟨x.name, x.value, x.marks, .slice a x.kids.length c⟩ : NodeC)) rfl rfl (fun b1 => ?_))
  refine R_o (E_alloc (NodeC.cells NodeC.zero) Tryz.zeroValue30 rfl (fun b2 => ?_))
  refine R_nil ?_
  refine R_seq ?_
  refine R_region ?_
  refine R_r (D_assign rfl) ?_
  refine R_nil ?_
  refine R_seq ?_
  refine R_seq ?_
  refine R_region ?_
  refine R_r (D_assign rfl) ?_
  refine R_nil ?_
  refine R_block ?_
  refine R_row0 30 41 ?_
  refine R_loop (σ := (Value) × (List NodeC) × (Nat) × (PMem)) (fun gs => ([(1, P_ b1 0), (2, P_ b2 0), (3, gs.1), (4, I (gs.2.2.1 : Int))], gs.2.2.2, [.row gs.1 30 41 gs.2.1.length (gs.2.1.flatMap NodeC.cells), .blk b2 (.cells (List.toArray (NodeC.cells NodeC.zero)) 30), .blk b1 (.cells (List.toArray (NodeC.cells (⟨x.name, x.value, x.marks, .slice a x.kids.length c⟩ : NodeC))) 30)])) (fun gs => gs.2.2.1 ≤ x.kids.length ∧ PMem.le M gs.2.2.2 ∧ NodesIs gs.2.2.2 gs.2.1 (x.kids.take gs.2.2.1)) (fun gs => x.kids.length - gs.2.2.1) (.slice none 0 0, [], 0, M) ?_ (Env.sub_cons rfl <| Env.sub_cons rfl <| Env.sub_cons rfl <| Env.sub_cons rfl <| Env.sub_nil _) rfl rfl ?_
  · show 0 ≤ x.kids.length ∧ PMem.le M M ∧ NodesIs M ([]) (x.kids.take 0); exact ⟨by omega, PMem.le_refl _, NodesIs.nil _⟩
  rintro ⟨v, l, i, Mv⟩ hok
  replace hok : i ≤ x.kids.length ∧ PMem.le M Mv ∧ NodesIs Mv l (x.kids.take i) := hok
  show Cx.R _ _ _ [(1, P_ b1 0), (2, P_ b2 0), (3, v), (4, I (i : Int))] Mv [.row v 30 41 l.length (l.flatMap NodeC.cells), .blk b2 (.cells (List.toArray (NodeC.cells NodeC.zero)) 30), .blk b1 (.cells (List.toArray (NodeC.cells (⟨x.name, x.value, x.marks, .slice a x.kids.length c⟩ : NodeC))) 30)]
  obtain ⟨hi, hleV, hns⟩ := hok
  have q3 := NdA.le hkx hleV
  have hll : l.length = i := by rw [hns.1]; simp; omega
  refine R_seq ?_
  refine R_seq ?_
  refine R_region ?_
  refine R_r (D_move rfl) ?_
  refine R_r (D_fieldAddr fa30_3 rfl) ?_
  refine R_r (D_load rfl (Has.own 2 rfl) (Rd.one Tryz.isAgg28 rfl)) ?_
  refine R_r (D_lenL Tryz.underlying28 rfl) ?_
  refine R_r (D_lt rfl rfl) ?_
  refine R_nil ?_
  refine R_cond rfl (fun h1 => ?_) (fun h1 => ?_)
  ·
    have h1p := of_decide_eq_true h1
    refine R_skip ?_
    refine R_seq ?_
    refine R_block ?_
    refine R_region ?_
    refine R_r (D_move rfl) ?_
    refine R_r (D_fieldAddr fa30_3 rfl) ?_
    refine R_r (D_load rfl (Has.own 2 rfl) (Rd.one Tryz.isAgg28 rfl)) ?_
    refine R_r (D_move rfl) ?_
    obtain ⟨b4, ob4, csb4, elb4, frb4, rfl, hmb4, hxb4⟩ := q3.at (i := i) (by first | omega | (simp; omega))
    obtain ⟨x5, hx5⟩ : ∃ e_, x.kids[i]? = some e_ := ⟨_, List.getElem?_eq_getElem (by omega)⟩
    obtain ⟨ksx5, hex5, hkx5⟩ := (hxb4 i x5 hx5).open
    obtain ⟨ax5, cx5, rfl, hcx5, hkx5⟩ := hkx5.sl
    refine R_r (D_indexLn (i) Tryz.underlying28 Tryz.sizeOf30 rfl rfl (by first | rfl | omega) (by first | omega | (simp <;> omega))) ?_
    refine R_r (D_load rfl (Has.mem hmb4) (Rd.elemA (i := i) hex5 Tryz.underlying30 rfl inf30 rfl)) ?_
    refine R_o (E_callP rfl rfl en59 (fun w hM => ih x5 (Node.size_kid (List.mem_of_getElem? hx5)) ax5 cx5 Mv w hM (by omega) hkx5 (by have := Node.wt_mem (List.mem_of_getElem? hx5); have := Node.wt_eq x5; omega)) (fun vr6 Mr6 Hr6 hler6 hpr6 => ?_))
    have q7 := NdA.le q3 hler6
    have q8 := hler6 _ _ hmb4
    have q9 := fun i x h => NodeAt.le hler6 (hxb4 i x h)
    have q10 := NdA.le hkx5 hler6
    obtain ⟨rfl, ksr6, rfl, hksr6⟩ := hpr6
    obtain ⟨ar6, cr6, rfl, hccr6, hAr6⟩ := hksr6.sl
    refine R_o (E_buildSlice (ps := [(0, .tmp 18)]) (vs := [(0, NodeC.val (⟨x5.name, x5.value, x5.marks, .slice ar6 x5.kids.length cr6⟩ : NodeC))]) (cs := (NodeC.cells (⟨x5.name, x5.value, x5.marks, .slice ar6 x5.kids.length cr6⟩ : NodeC))) rfl (bs28_1 _) (fun b11 => ?_))
    refine R_o (E_append (news := (NodeC.cells (⟨x5.name, x5.value, x5.marks, .slice ar6 x5.kids.length cr6⟩ : NodeC))) 1 Tryz.underlying28 el30 rfl rfl rfl (Has.own 0 rfl) rfl rfl (by exact ones_NodeC _ rfl) (by unfold maxLen; omega) (by omega) (fun v12 hv12 => ?_))
    refine R_r (D_assign rfl) ?_
    refine R_nil ?_
    refine R_region ?_
    refine R_r (D_move rfl) ?_
    refine R_r (D_add rfl rfl rfl (by omega) (by omega)) ?_
    refine R_r (D_assign rfl) ?_
    refine R_nil ?_
    refine R_drop (H' := [.row v12 30 41 (l.length + 1) ((l.flatMap NodeC.cells) ++ (NodeC.cells (⟨x5.name, x5.value, x5.marks, .slice ar6 x5.kids.length cr6⟩ : NodeC))), .blk b2 (.cells (List.toArray (NodeC.cells NodeC.zero)) 30), .blk b1 (.cells (List.toArray (NodeC.cells (⟨x.name, x.value, x.marks, .slice (some ⟨b4, ob4, none⟩) x.kids.length c⟩ : NodeC))) 30)]) (.cons _ (List.Sublist.refl _)) ?_
    exact R_back (v12, l ++ [(⟨x5.name, x5.value, x5.marks, .slice ar6 x5.kids.length cr6⟩ : NodeC)], i + 1, Mr6) (by show (i + 1) ≤ x.kids.length ∧ PMem.le M Mr6 ∧ NodesIs Mr6 (l ++ [(⟨x5.name, x5.value, x5.marks, .slice ar6 x5.kids.length cr6⟩ : NodeC)]) (x.kids.take (i + 1)); refine ⟨by omega, by first | assumption | (exact PMem.le_trans hleV (by assumption)), ?_⟩; rw [take_snoc (by assumption)]; exact (hns.le (by assumption)).snoc ⟨rfl, rfl, rfl, by assumption⟩) (by show x.kids.length - (i + 1) < x.kids.length - i; omega) (Env.sub_cons rfl <| Env.sub_cons rfl <| Env.sub_cons rfl <| Env.sub_cons rfl <| Env.sub_nil _) rfl (by simp)
  ·
    have h1p := of_decide_eq_false h1
    refine R_exit rfl ?_
    refine R_seq ?_
    refine R_freezeRow (fun M13 hleM13 hrowM13 => ?_)
    have q14 := NdA.le q3 hleM13
    rw [List.take_of_length_le (by omega)] at hns
    obtain ⟨av, cv, rfl, hcv, hkv, hkd⟩ := hrowM13.kids (hns.le hleM13)
    refine R_region ?_
    refine R_r (D_move rfl) ?_
    refine R_r (D_fieldAddr fa30_3 rfl) ?_
    refine R_o (E_store (cs' := (NodeC.cells (⟨x.name, x.value, x.marks, .slice av x.kids.length cv⟩ : NodeC))) 1 rfl rfl rfl (Wr.one Tryz.sizeOf28 rfl rfl rfl) ?_)
    refine R_nil ?_
    refine R_seq ?_
    refine R_region ?_
    refine R_r (D_load rfl (Has.own 1 rfl) (rd30_NodeC_0 (⟨x.name, x.value, x.marks, .slice av x.kids.length cv⟩ : NodeC))) ?_
    refine R_o (E_store (cs' := (NodeC.cells (⟨x.name, x.value, x.marks, .slice av x.kids.length cv⟩ : NodeC))) 0 rfl rfl rfl (Wr.agg Tryz.sizeOf30 rfl rfl rfl rfl) ?_)
    refine R_nil ?_
    refine R_ret ?_
    refine R_finC rfl rfl (Has.own 0 rfl) (rd30_NodeC_0 (⟨x.name, x.value, x.marks, .slice av x.kids.length cv⟩ : NodeC)) [] (by simp) ?_
    exact ⟨rfl, _, rfl, hkd⟩

theorem Copy_C : ∀ (n : Nat) (x : Node), x.size = n → ∀ (a : Option Addr) (c : Nat) (M : PMem) (w : World) (hM : Lies M w), x.kids.length ≤ c → NdA M a x.kids → Node.wtL x.kids ≤ 1073741824 → Ends Tryz.prog 59 [NodeC.val ⟨x.name, x.value, x.marks, .slice a x.kids.length c⟩] w [] M (fun v M' H' => H' = [] ∧ ∃ ks, v = NodeC.val ⟨x.name, x.value, x.marks, ks⟩ ∧ KidsAt M' ks x.kids) := by
  intro n
  induction n using Nat.strongRecOn with
  | _ n IH => exact fun x hx a c M w hM hc hk hp => Copy_S x a c M w hM (fun y hy a c M w hM h1 h2 h3 => IH y.size (by omega) y rfl a c M w hM h1 h2 h3) hc hk hp

theorem Plain_C (x : Node) (a : Option Addr) (c : Nat) (M : PMem) (w : World) (hM : Lies M w) (hc : x.kids.length ≤ c) (hkx : NdA M a x.kids) (hwl : Node.wtL x.kids ≤ 1073741824) : Ends Tryz.prog 18 [NodeC.val (⟨x.name, x.value, x.marks, .slice a x.kids.length c⟩ : NodeC)] w [] M (fun v M' H' => H' = [] ∧ ∃ ks, v = NodeC.val ⟨[], x.value, x.marks, ks⟩ ∧ KidsAt M' ks x.kids) := by
  refine Ends.enter (H := []) Tryz.func18 rfl Tryz.ntmps18 rfl (St.start hM) ?_
  refine R_seq ?_
  refine R_region ?_
  refine R_o (E_box (NodeC.cells (⟨x.name, x.value, x.marks, .slice a x.kids.length c⟩ : NodeC)) rfl rfl (fun b1 => ?_))
  refine R_o (E_alloc (NodeC.cells NodeC.zero) Tryz.zeroValue30 rfl (fun b2 => ?_))
  refine R_nil ?_
  refine R_seq ?_
  refine R_region ?_
  refine R_r (D_load rfl (Has.own 1 rfl) (rd30_NodeC_0 (⟨x.name, x.value, x.marks, .slice a x.kids.length c⟩ : NodeC))) ?_
  refine R_o (E_callP rfl rfl en59 (fun w hM => Copy_C _ x rfl a c M w hM (by omega) hkx (by omega)) (fun vr3 Mr3 Hr3 hler3 hpr3 => ?_))
  have q4 := NdA.le hkx hler3
  obtain ⟨rfl, ksr3, rfl, hksr3⟩ := hpr3
  obtain ⟨ar3, cr3, rfl, hccr3, hAr3⟩ := hksr3.sl
  refine R_o (E_store (cs' := (NodeC.cells (⟨x.name, x.value, x.marks, .slice ar3 x.kids.length cr3⟩ : NodeC))) 1 rfl rfl rfl (Wr.agg Tryz.sizeOf30 rfl rfl rfl rfl) ?_)
  refine R_nil ?_
  refine R_seq ?_
  refine R_region ?_
  refine R_r (D_fieldAddr fa30_0 rfl) ?_
  refine R_o (E_store (cs' := (NodeC.cells (⟨([] : Str), x.value, x.marks, .slice ar3 x.kids.length cr3⟩ : NodeC))) 1 rfl rfl rfl (Wr.one Tryz.sizeOf9 rfl rfl rfl) ?_)
  refine R_nil ?_
  refine R_seq ?_
  refine R_region ?_
  refine R_r (D_load rfl (Has.own 1 rfl) (rd30_NodeC_0 (⟨([] : Str), x.value, x.marks, .slice ar3 x.kids.length cr3⟩ : NodeC))) ?_
  refine R_o (E_store (cs' := (NodeC.cells (⟨([] : Str), x.value, x.marks, .slice ar3 x.kids.length cr3⟩ : NodeC))) 0 rfl rfl rfl (Wr.agg Tryz.sizeOf30 rfl rfl rfl rfl) ?_)
  refine R_nil ?_
  refine R_ret ?_
  refine R_finC rfl rfl (Has.own 0 rfl) (rd30_NodeC_0 (⟨([] : Str), x.value, x.marks, .slice ar3 x.kids.length cr3⟩ : NodeC)) [] (by simp) ?_
  exact ⟨rfl, _, rfl, hksr3⟩

theorem same_bad {x y : Node} (h : ((!decide (x.value = y.value) || !decide (x.marks = y.marks)) || !decide ((x.kids.length : Int) = (y.kids.length : Int))) = true) : (decide (x.value = y.value) && decide (x.marks = y.marks) && Node.sameL x.kids y.kids) = false := by
  by_cases h1 : x.value = y.value
  · by_cases h2 : x.marks = y.marks
    · by_cases h3 : Node.sameL x.kids y.kids = true
      · have := Node.sameL_len h3
        simp [h1, h2, this] at h
      · simp [h3]
    · simp [h2]
  · simp [h1]
theorem same_all {x y : Node} (h : ((!decide (x.value = y.value) || !decide (x.marks = y.marks)) || !decide ((x.kids.length : Int) = (y.kids.length : Int))) = false) (hk : Node.sameL x.kids y.kids = true) : Node.same x y = true := by
  simp only [Bool.or_eq_false_iff, Bool.not_eq_false', decide_eq_true_eq] at h
  rw [Node.same_eq]; simp [h.1.1, h.1.2, hk]
theorem same_at {x y : Node} {i : Nat} {a b : Node} (h : Node.sameL (x.kids.take i) (y.kids.take i) = true) (ha : x.kids[i]? = some a) (hb : y.kids[i]? = some b) (hne : ((!decide (a.name = b.name)) || (!Node.same a b)) = true) : Node.same x y = false := by
  rw [Node.same_eq, Node.sameL_bad (i := i + 1), Bool.and_false]
  rw [Node.sameL_take ha hb, h]
  revert hne
  cases decide (a.name = b.name) <;> cases Node.same a b <;> simp
theorem same_go {l r : List Node} {i : Nat} {a b : Node} (h : Node.sameL (l.take i) (r.take i) = true) (ha : l[i]? = some a) (hb : r[i]? = some b) (hne : ((!decide (a.name = b.name)) || (!Node.same a b)) = false) : Node.sameL (l.take (i + 1)) (r.take (i + 1)) = true := by
  rw [Node.sameL_take ha hb, h]
  revert hne
  cases decide (a.name = b.name) <;> cases Node.same a b <;> simp

theorem Equal_S (x y : Node) (a : Option Addr) (c : Nat) (b : Option Addr) (d : Nat) (M : PMem) (w : World) (hM : Lies M w) (ih : ∀ p : Node, p.size < x.size → ∀ (q : Node) (a : Option Addr) (c : Nat) (b : Option Addr) (d : Nat) (M : PMem) (w : World) (hM : Lies M w) (hcp : p.kids.length ≤ c) (hkp : NdA M a p.kids) (hwp : Node.wtL p.kids ≤ 1073741824) (hdp : q.kids.length ≤ d) (hlp : NdA M b q.kids) (hvp : Node.wtL q.kids ≤ 1073741824), Ends Tryz.prog 16 [NodeC.val ⟨p.name, p.value, p.marks, .slice a p.kids.length c⟩, NodeC.val ⟨q.name, q.value, q.marks, .slice b q.kids.length d⟩] w [] M (fun v' M' H' => v' = .bool (Node.same p q) ∧ M' = M ∧ H' = [])) (hcx : x.kids.length ≤ c) (hkx : NdA M a x.kids) (hwx : Node.wtL x.kids ≤ 1073741824) (hdx : y.kids.length ≤ d) (hlx : NdA M b y.kids) (hvx : Node.wtL y.kids ≤ 1073741824) : Ends Tryz.prog 16 [NodeC.val (⟨x.name, x.value, x.marks, .slice a x.kids.length c⟩ : NodeC), NodeC.val (⟨y.name, y.value, y.marks, .slice b y.kids.length d⟩ : NodeC)] w [] M (fun v' M' H' => v' = .bool (Node.same x y) ∧ M' = M ∧ H' = []) := by
  have hwk := Node.wt_kids (l := x.kids)
  have hwj := Node.wt_kids (l := y.kids)
  refine Ends.enter (H := []) Tryz.func16 rfl Tryz.ntmps16 rfl (St.start hM) ?_
  refine R_seq ?_
  refine R_region ?_
  refine R_o (E_box (NodeC.cells (⟨x.name, x.value, x.marks, .slice a x.kids.length c⟩ : NodeC)) rfl rfl (fun b1 => ?_))
  refine R_o (E_box (NodeC.cells (⟨y.name, y.value, y.marks, .slice b y.kids.length d⟩ : NodeC)) rfl rfl (fun b2 => ?_))
  refine R_r (D_assign rfl) ?_
  refine R_nil ?_
  refine R_seq ?_
  refine R_seq ?_
  refine R_join [(0, NodeC.val (⟨x.name, x.value, x.marks, .slice a x.kids.length c⟩ : NodeC)), (1, NodeC.val (⟨y.name, y.value, y.marks, .slice b y.kids.length d⟩ : NodeC)), (2, P_ b1 0), (3, P_ b2 0), (4, .bool false), (26, .bool (((!decide (x.value = y.value)) || (!decide (x.marks = y.marks))) || (!decide ((x.kids.length : Int) = (y.kids.length : Int)))))] (M' := M) (H' := [.blk b2 (.cells (List.toArray (NodeC.cells (⟨y.name, y.value, y.marks, .slice b y.kids.length d⟩ : NodeC))) 30), .blk b1 (.cells (List.toArray (NodeC.cells (⟨x.name, x.value, x.marks, .slice a x.kids.length c⟩ : NodeC))) 30)]) ?_ ?_
  ·
    refine R_region ?_
    refine R_r (D_fieldAddr fa30_1 rfl) ?_
    refine R_r (D_load rfl (Has.own 1 rfl) (rd24_NodeC_1 (⟨x.name, x.value, x.marks, .slice a x.kids.length c⟩ : NodeC))) ?_
    refine R_r (D_fieldAddr fa30_1 rfl) ?_
    refine R_r (D_load rfl (Has.own 0 rfl) (rd24_NodeC_1 (⟨y.name, y.value, y.marks, .slice b y.kids.length d⟩ : NodeC))) ?_
    refine R_r (D_neA eg24 rfl rfl (eqa24 _ _)) ?_
    refine R_r (D_move rfl) ?_
    refine R_split 11 rfl (fun h1 => ?_) (fun h1 => ?_)
    ·
      have h1p : ¬ (x.value = y.value) := by simpa using h1
      refine R_skipop rfl rfl rfl ?_
      refine R_skipop rfl rfl rfl ?_
      refine R_skipop rfl rfl rfl ?_
      refine R_skipop rfl rfl rfl ?_
      refine R_skipop rfl rfl rfl ?_
      refine R_r (D_pick true rfl rfl) ?_
      refine R_r (D_move rfl) ?_
      refine R_skipop rfl rfl rfl ?_
      refine R_skipop rfl rfl rfl ?_
      refine R_skipop rfl rfl rfl ?_
      refine R_skipop rfl rfl rfl ?_
      refine R_skipop rfl rfl rfl ?_
      refine R_skipop rfl rfl rfl ?_
      refine R_skipop rfl rfl rfl ?_
      refine R_r (D_pick true rfl rfl) ?_
      refine R_nil ?_
      exact R_at (Env.sub_cons rfl <| Env.sub_cons rfl <| Env.sub_cons rfl <| Env.sub_cons rfl <| Env.sub_cons rfl <| Env.sub_cons (by first | (show some (Value.bool _) = some (Value.bool _); simp only [h1, Bool.true_and, Bool.false_and, Bool.true_or, Bool.false_or, Bool.and_true, Bool.and_false, Bool.or_true, Bool.or_false]; done) | (show some (Value.bool _) = some (Value.bool _); (try rw [h1]); first | done | rfl) | simp [h1, Env.find]) <| Env.sub_nil _)
    ·
      have h1p : (x.value = y.value) := by simpa using h1
      refine R_r (D_fieldAddr fa30_2 rfl) ?_
      refine R_r (D_load rfl (Has.own 1 rfl) (rd27_NodeC_36 (⟨x.name, x.value, x.marks, .slice a x.kids.length c⟩ : NodeC))) ?_
      refine R_r (D_fieldAddr fa30_2 rfl) ?_
      refine R_r (D_load rfl (Has.own 0 rfl) (rd27_NodeC_36 (⟨y.name, y.value, y.marks, .slice b y.kids.length d⟩ : NodeC))) ?_
      refine R_r (D_neA eg27 rfl rfl (eqa27 _ _)) ?_
      refine R_r (D_pick false rfl rfl) ?_
      refine R_r (D_move rfl) ?_
      refine R_split 18 rfl (fun h2 => ?_) (fun h2 => ?_)
      ·
        have h2p : ¬ (x.marks = y.marks) := by simpa using h2
        refine R_skipop rfl rfl rfl ?_
        refine R_skipop rfl rfl rfl ?_
        refine R_skipop rfl rfl rfl ?_
        refine R_skipop rfl rfl rfl ?_
        refine R_skipop rfl rfl rfl ?_
        refine R_skipop rfl rfl rfl ?_
        refine R_skipop rfl rfl rfl ?_
        refine R_r (D_pick true rfl rfl) ?_
        refine R_nil ?_
        exact R_at (Env.sub_cons rfl <| Env.sub_cons rfl <| Env.sub_cons rfl <| Env.sub_cons rfl <| Env.sub_cons rfl <| Env.sub_cons (by first | (show some (Value.bool _) = some (Value.bool _); simp only [h1, h2, Bool.true_and, Bool.false_and, Bool.true_or, Bool.false_or, Bool.and_true, Bool.and_false, Bool.or_true, Bool.or_false]; done) | (show some (Value.bool _) = some (Value.bool _); (try rw [h1]); (try rw [h2]); first | done | rfl) | simp [h1, h2, Env.find]) <| Env.sub_nil _)
      ·
        have h2p : (x.marks = y.marks) := by simpa using h2
        refine R_r (D_fieldAddr fa30_3 rfl) ?_
        refine R_r (D_load rfl (Has.own 1 rfl) (Rd.one Tryz.isAgg28 rfl)) ?_
        refine R_r (D_lenL Tryz.underlying28 rfl) ?_
        refine R_r (D_fieldAddr fa30_3 rfl) ?_
        refine R_r (D_load rfl (Has.own 0 rfl) (Rd.one Tryz.isAgg28 rfl)) ?_
        refine R_r (D_lenL Tryz.underlying28 rfl) ?_
        refine R_r (D_ne rfl rfl) ?_
        refine R_r (D_pick false rfl rfl) ?_
        refine R_nil ?_
        exact R_at (Env.sub_cons rfl <| Env.sub_cons rfl <| Env.sub_cons rfl <| Env.sub_cons rfl <| Env.sub_cons rfl <| Env.sub_cons (by first | (show some (Value.bool _) = some (Value.bool _); simp only [h1, h2, Bool.true_and, Bool.false_and, Bool.true_or, Bool.false_or, Bool.and_true, Bool.and_false, Bool.or_true, Bool.or_false]; done) | (show some (Value.bool _) = some (Value.bool _); (try rw [h1]); (try rw [h2]); first | done | rfl) | simp [h1, h2, Env.find]) <| Env.sub_nil _)
  ·
    refine R_cond rfl (fun h1 => ?_) (fun h1 => ?_)
    ·
      have h1p := h1; simp only [Bool.and_eq_true, Bool.or_eq_true, Bool.not_eq_true', Bool.and_eq_false_imp, Bool.or_eq_false_iff, Bool.not_eq_false', decide_eq_true_eq, decide_eq_false_iff_not] at h1p
      refine R_seq ?_
      refine R_region ?_
      refine R_r (D_assign rfl) ?_
      refine R_nil ?_
      refine R_ret ?_
      refine R_drop (List.nil_sublist _) ?_
      refine R_fin1 rfl rfl ?_
      exact ⟨by rw [Node.same_eq, same_bad h1], rfl, rfl⟩
    ·
      have h1p := h1; simp only [Bool.and_eq_true, Bool.or_eq_true, Bool.not_eq_true', Bool.and_eq_false_imp, Bool.or_eq_false_iff, Bool.not_eq_false', decide_eq_true_eq, decide_eq_false_iff_not] at h1p
      refine R_skip ?_
      refine R_seq ?_
      refine R_seq ?_
      refine R_region ?_
      refine R_r (D_assign rfl) ?_
      refine R_nil ?_
      refine R_block ?_
      refine R_loop (σ := (Nat)) (fun gs => ([(2, P_ b1 0), (3, P_ b2 0), (5, I (gs : Int))], M, [.blk b2 (.cells (List.toArray (NodeC.cells (⟨y.name, y.value, y.marks, .slice b y.kids.length d⟩ : NodeC))) 30), .blk b1 (.cells (List.toArray (NodeC.cells (⟨x.name, x.value, x.marks, .slice a x.kids.length c⟩ : NodeC))) 30)])) (fun gs => gs ≤ x.kids.length ∧ x.kids.length = y.kids.length ∧ Node.sameL (x.kids.take gs) (y.kids.take gs) = true) (fun gs => x.kids.length - gs) 0 ?_ (Env.sub_cons rfl <| Env.sub_cons rfl <| Env.sub_cons rfl <| Env.sub_nil _) rfl rfl ?_
      · show 0 ≤ x.kids.length ∧ x.kids.length = y.kids.length ∧ Node.sameL (x.kids.take 0) (y.kids.take 0) = true; exact ⟨by omega, by omega, by simp [Node.sameL]⟩
      rintro i hok
      replace hok : i ≤ x.kids.length ∧ x.kids.length = y.kids.length ∧ Node.sameL (x.kids.take i) (y.kids.take i) = true := hok
      show Cx.R _ _ _ [(2, P_ b1 0), (3, P_ b2 0), (5, I (i : Int))] M [.blk b2 (.cells (List.toArray (NodeC.cells (⟨y.name, y.value, y.marks, .slice b y.kids.length d⟩ : NodeC))) 30), .blk b1 (.cells (List.toArray (NodeC.cells (⟨x.name, x.value, x.marks, .slice a x.kids.length c⟩ : NodeC))) 30)]
      obtain ⟨hi, hle, hsm⟩ := hok
      refine R_seq ?_
      refine R_seq ?_
      refine R_region ?_
      refine R_r (D_move rfl) ?_
      refine R_r (D_fieldAddr fa30_3 rfl) ?_
      refine R_r (D_load rfl (Has.own 1 rfl) (Rd.one Tryz.isAgg28 rfl)) ?_
      refine R_r (D_lenL Tryz.underlying28 rfl) ?_
      refine R_r (D_lt rfl rfl) ?_
      refine R_nil ?_
      refine R_cond rfl (fun h2 => ?_) (fun h2 => ?_)
      ·
        have h2p := of_decide_eq_true h2
        refine R_skip ?_
        refine R_seq ?_
        refine R_block ?_
        refine R_seq ?_
        obtain ⟨b3, ob3, csb3, elb3, frb3, rfl, hmb3, hxb3⟩ := hkx.at (i := i) (by first | omega | (simp; omega))
        obtain ⟨x4, hx4⟩ : ∃ e_, x.kids[i]? = some e_ := ⟨_, List.getElem?_eq_getElem (by omega)⟩
        obtain ⟨ksx4, hex4, hkx4⟩ := (hxb3 i x4 hx4).open
        obtain ⟨ax4, cx4, rfl, hcx4, hkx4⟩ := hkx4.sl
        obtain ⟨b5, ob5, csb5, elb5, frb5, rfl, hmb5, hxb5⟩ := hlx.at (i := i) (by first | omega | (simp; omega))
        obtain ⟨x6, hx6⟩ : ∃ e_, y.kids[i]? = some e_ := ⟨_, List.getElem?_eq_getElem (by omega)⟩
        obtain ⟨ksx6, hex6, hkx6⟩ := (hxb5 i x6 hx6).open
        obtain ⟨ax6, cx6, rfl, hcx6, hkx6⟩ := hkx6.sl
        refine R_join [(2, P_ b1 0), (3, P_ b2 0), (5, I (i : Int)), (27, I (i : Int)), (28, P_ b1 40), (29, .slice (some ⟨b3, ob3, none⟩) x.kids.length c), (30, I (x.kids.length : Int)), (31, .bool (decide ((i : Int) < (x.kids.length : Int)))), (60, .bool ((!decide (x4.name = x6.name)) || (!(Node.same x4 x6))))] (M' := M) (H' := [.blk b2 (.cells (List.toArray (NodeC.cells (⟨y.name, y.value, y.marks, .slice (some ⟨b5, ob5, none⟩) y.kids.length d⟩ : NodeC))) 30), .blk b1 (.cells (List.toArray (NodeC.cells (⟨x.name, x.value, x.marks, .slice (some ⟨b3, ob3, none⟩) x.kids.length c⟩ : NodeC))) 30)]) ?_ ?_
        ·
          refine Y_region [.blk b2 (.cells (List.toArray (NodeC.cells (⟨y.name, y.value, y.marks, .slice (some ⟨b5, ob5, none⟩) y.kids.length d⟩ : NodeC))) 30), .blk b1 (.cells (List.toArray (NodeC.cells (⟨x.name, x.value, x.marks, .slice (some ⟨b3, ob3, none⟩) x.kids.length c⟩ : NodeC))) 30)] mixed ?_
          refine Y_r 0 rfl (D_fieldAddr fa30_3 rfl) ?_
          refine Y_r 1 rfl (D_load rfl (Has.own 1 rfl) (Rd.one Tryz.isAgg28 rfl)) ?_
          refine Y_r 2 rfl (D_move rfl) ?_
          refine Y_r 3 rfl (D_indexLn (i) Tryz.underlying28 Tryz.sizeOf30 rfl rfl (by first | rfl | omega) (by first | omega | (simp <;> omega))) ?_
          refine Y_r 4 rfl (D_fieldAddr fa30_0 rfl) ?_
          refine Y_r 5 rfl (D_load rfl (Has.mem hmb3) (Rd.elem0 (i := i) hex4 Tryz.isAgg9 rfl rfl)) ?_
          refine Y_r 6 rfl (D_fieldAddr fa30_3 rfl) ?_
          refine Y_r 7 rfl (D_load rfl (Has.own 0 rfl) (Rd.one Tryz.isAgg28 rfl)) ?_
          refine Y_r 8 rfl (D_move rfl) ?_
          refine Y_r 9 rfl (D_indexLn (i) Tryz.underlying28 Tryz.sizeOf30 rfl rfl (by first | rfl | omega) (by first | omega | (simp <;> omega))) ?_
          refine Y_r 10 rfl (D_fieldAddr fa30_0 rfl) ?_
          refine Y_r 11 rfl (D_load rfl (Has.mem hmb5) (Rd.elem0 (i := i) hex6 Tryz.isAgg9 rfl rfl)) ?_
          refine Y_r 12 rfl (D_neS rfl rfl) ?_
          refine Y_r 13 rfl (D_move rfl) ?_
          refine R_split 47 rfl (fun h3 => ?_) (fun h3 => ?_)
          ·
            have h3p : ¬ (x4.name = x6.name) := by simpa using h3
            refine Y_skip 14 rfl rfl ?_
            refine Y_skip 15 rfl rfl ?_
            refine Y_skip 16 rfl rfl ?_
            refine Y_skip 17 rfl rfl ?_
            refine Y_skip 18 rfl rfl ?_
            refine Y_skip 19 rfl rfl ?_
            refine Y_skip 20 rfl rfl ?_
            refine Y_skip 21 rfl rfl ?_
            refine Y_skip 22 rfl rfl ?_
            refine Y_skip 23 rfl rfl ?_
            refine Y_skip 24 rfl rfl ?_
            refine Y_skip 25 rfl rfl ?_
            refine Y_r 26 rfl (D_pick true rfl rfl) ?_
            refine Y_nil ?_ (PMem.le_refl _) (fun _ h => List.Sublist.subset (.cons_cons _ (.cons_cons _ (.slnil))) h)
            exact R_at (Env.sub_cons rfl <| Env.sub_cons rfl <| Env.sub_cons rfl <| Env.sub_cons rfl <| Env.sub_cons rfl <| Env.sub_cons rfl <| Env.sub_cons rfl <| Env.sub_cons rfl <| Env.sub_cons (by first | (show some (Value.bool _) = some (Value.bool _); simp only [h3, Bool.true_and, Bool.false_and, Bool.true_or, Bool.false_or, Bool.and_true, Bool.and_false, Bool.or_true, Bool.or_false]; done) | (show some (Value.bool _) = some (Value.bool _); (try rw [h3]); first | done | rfl) | simp [h3, Env.find]) <| Env.sub_nil _)
          ·
            have h3p : (x4.name = x6.name) := by simpa using h3
            refine Y_r 14 rfl (D_fieldAddr fa30_3 rfl) ?_
            refine Y_r 15 rfl (D_load rfl (Has.own 1 rfl) (Rd.one Tryz.isAgg28 rfl)) ?_
            refine Y_r 16 rfl (D_move rfl) ?_
            refine Y_r 17 rfl (D_indexLn (i) Tryz.underlying28 Tryz.sizeOf30 rfl rfl (by first | rfl | omega) (by first | omega | (simp <;> omega))) ?_
            refine Y_r 18 rfl (D_load rfl (Has.mem hmb3) (Rd.elemA (i := i) hex4 Tryz.underlying30 rfl inf30 rfl)) ?_
            refine Y_r 19 rfl (D_fieldAddr fa30_3 rfl) ?_
            refine Y_r 20 rfl (D_load rfl (Has.own 0 rfl) (Rd.one Tryz.isAgg28 rfl)) ?_
            refine Y_r 21 rfl (D_move rfl) ?_
            refine Y_r 22 rfl (D_indexLn (i) Tryz.underlying28 Tryz.sizeOf30 rfl rfl (by first | rfl | omega) (by first | omega | (simp <;> omega))) ?_
            refine Y_r 23 rfl (D_load rfl (Has.mem hmb5) (Rd.elemA (i := i) hex6 Tryz.underlying30 rfl inf30 rfl)) ?_
            refine Y_o 24 rfl (E_callV (v := .bool (Node.same x4 x6)) rfl rfl en16 (fun w hM => ih x4 (Node.size_kid (List.mem_of_getElem? hx4)) x6 ax4 cx4 ax6 cx6 M w hM (by omega) hkx4 (by have := Node.wt_mem (List.mem_of_getElem? hx4); have := Node.wt_eq x4; omega) (by omega) hkx6 (by have := Node.wt_mem (List.mem_of_getElem? hx6); have := Node.wt_eq x6; omega)) ?_) (PMem.le_refl _) (fun _ h => List.Sublist.subset (.cons_cons _ (.cons_cons _ (.slnil))) h)
            refine Y_go _ (PMem.le_refl _) (fun _ h => List.Sublist.subset (.cons_cons _ (.cons_cons _ (.slnil))) h) (fun _ h => h) ?_
            refine Y_r 25 rfl (D_not rfl) ?_
            refine Y_r 26 rfl (D_pick false rfl rfl) ?_
            refine Y_nil ?_ (PMem.le_refl _) (fun _ h => List.Sublist.subset (.cons_cons _ (.cons_cons _ (.slnil))) h)
            exact R_at (Env.sub_cons rfl <| Env.sub_cons rfl <| Env.sub_cons rfl <| Env.sub_cons rfl <| Env.sub_cons rfl <| Env.sub_cons rfl <| Env.sub_cons rfl <| Env.sub_cons rfl <| Env.sub_cons (by first | (show some (Value.bool _) = some (Value.bool _); simp only [h3, Bool.true_and, Bool.false_and, Bool.true_or, Bool.false_or, Bool.and_true, Bool.and_false, Bool.or_true, Bool.or_false]; done) | (show some (Value.bool _) = some (Value.bool _); (try rw [h3]); first | done | rfl) | simp [h3, Env.find]) <| Env.sub_nil _)
        ·
          refine R_cond rfl (fun h3 => ?_) (fun h3 => ?_)
          ·
            have h3p := h3; simp only [Bool.and_eq_true, Bool.or_eq_true, Bool.not_eq_true', Bool.and_eq_false_imp, Bool.or_eq_false_iff, Bool.not_eq_false', decide_eq_true_eq, decide_eq_false_iff_not] at h3p
            refine R_seq ?_
            refine R_region ?_
            refine R_r (D_assign rfl) ?_
            refine R_nil ?_
            refine R_ret ?_
            refine R_drop (List.nil_sublist _) ?_
            refine R_fin1 rfl rfl ?_
            exact ⟨by rw [same_at hsm (by assumption) (by assumption) h3], rfl, rfl⟩
          ·
            have h3p := h3; simp only [Bool.and_eq_true, Bool.or_eq_true, Bool.not_eq_true', Bool.and_eq_false_imp, Bool.or_eq_false_iff, Bool.not_eq_false', decide_eq_true_eq, decide_eq_false_iff_not] at h3p
            refine R_skip ?_
            refine R_region ?_
            refine R_r (D_move rfl) ?_
            refine R_r (D_add rfl rfl rfl (by omega) (by omega)) ?_
            refine R_r (D_assign rfl) ?_
            refine R_nil ?_
            exact R_back (i + 1) (by show (i + 1) ≤ x.kids.length ∧ x.kids.length = y.kids.length ∧ Node.sameL (x.kids.take (i + 1)) (y.kids.take (i + 1)) = true; exact ⟨by omega, by omega, same_go hsm (by assumption) (by assumption) h3⟩) (by show x.kids.length - (i + 1) < x.kids.length - i; omega) (Env.sub_cons rfl <| Env.sub_cons rfl <| Env.sub_cons rfl <| Env.sub_nil _) rfl rfl
      ·
        have h2p := of_decide_eq_false h2
        refine R_exit rfl ?_
        refine R_seq ?_
        refine R_region ?_
        refine R_r (D_assign rfl) ?_
        refine R_nil ?_
        refine R_ret ?_
        refine R_drop (List.nil_sublist _) ?_
        refine R_fin1 rfl rfl ?_
        exact ⟨by rw [same_all h1 (by rw [List.take_of_length_le (by omega), List.take_of_length_le (by omega)] at hsm; exact hsm)], rfl, rfl⟩

theorem Equal_C : ∀ (n : Nat) (x : Node), x.size = n → ∀ (y : Node) (a : Option Addr) (c : Nat) (b : Option Addr) (d : Nat) (M : PMem) (w : World) (hM : Lies M w) (hcx : x.kids.length ≤ c) (hkx : NdA M a x.kids) (hwx : Node.wtL x.kids ≤ 1073741824) (hdx : y.kids.length ≤ d) (hlx : NdA M b y.kids) (hvx : Node.wtL y.kids ≤ 1073741824), Ends Tryz.prog 16 [NodeC.val ⟨x.name, x.value, x.marks, .slice a x.kids.length c⟩, NodeC.val ⟨y.name, y.value, y.marks, .slice b y.kids.length d⟩] w [] M (fun v' M' H' => v' = .bool (Node.same x y) ∧ M' = M ∧ H' = []) := by
  intro n
  induction n using Nat.strongRecOn with
  | _ n IH => exact fun x hx y a c b d M w hM h1 h2 h3 h4 h5 h6 => Equal_S x y a c b d M w hM (fun p hp q a c b d M w hM h1 h2 h3 h4 h5 h6 => IH p.size (by omega) p rfl q a c b d M w hM h1 h2 h3 h4 h5 h6) h1 h2 h3 h4 h5 h6

end Go.Proofs.YtgmomhdammdjgaaGreat
