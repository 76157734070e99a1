/-
  The program's checks of a tree (package tree), walked: they answer as the document's do. Conditions: names and paths within 2^30 bytes.
-/
import Derived.Test.YtgmomhdammdjgaaGreatPath
set_option linter.unusedVariables false
set_option linter.unusedSimpArgs false
set_option maxRecDepth 20000
set_option maxHeartbeats 4000000
namespace Go.Proofs.YtgmomhdammdjgaaGreat
open Go Go.Proofs Go.RowKit

theorem rd26_Mark_0 (x : Mark) : Rd Tryz.prog 26 x.cells 0 (Mark.val x) := Rd.agg Tryz.underlying26 rfl inf26 rfl rfl
theorem bd26_ : Bd Tryz.prog 26 [] (Mark.val Mark.zero) := fun w => by kernel_rfl
theorem eg26 : Tryz.prog.eqGuardType Tryz.prog.depth 26 = false := by kernel_rfl
theorem eqa26 (x y : Mark) : EqA Tryz.prog 26 (Mark.val x) (Mark.val y) (decide (x = y)) := (eqi26 (d := 9998) x y).to
theorem en140 : ∀ (args : Array Value) (w : World), (callFunc 140 args).run Tryz.prog w = .ok (.enter 140 args) w := enters_fn Tryz.func140 (by kernel_rfl) rfl
theorem en123 : ∀ (args : Array Value) (w : World), (callFunc 123 args).run Tryz.prog w = .ok (.enter 123 args) w := enters_fn Tryz.func123 (by kernel_rfl) rfl
theorem en103 : ∀ (args : Array Value) (w : World), (callFunc 103 args).run Tryz.prog w = .ok (.enter 103 args) w := enters_fn Tryz.func103 (by kernel_rfl) rfl
theorem markable_C (m : Mark) (M : PMem) (w : World) (hM : Lies M w) : Ends Tryz.prog 140 [Mark.val m] w [] M (fun v' M' H' => v' = .bool m.okT ∧ M' = M ∧ H' = []) := by
  refine Ends.enter (H := []) Tryz.func140 rfl Tryz.ntmps140 rfl (St.start hM) ?_
  refine R_seq ?_
  refine R_region ?_
  refine R_o (E_box (Mark.cells m) rfl rfl (fun b1 => ?_))
  refine R_r (D_assign rfl) ?_
  refine R_nil ?_
  refine R_seq ?_
  refine R_join [(0, Mark.val m), (1, P_ b1 0), (2, .bool ((decide (m = Mark.zero)) || ((decide (1 ≤ (min m.number m.stamp))) && (decide ((max m.number m.stamp) ≤ 72057594037927935)))))] (M' := M) (H' := [.blk b1 (.cells (List.toArray (Mark.cells m)) 26)]) ?_ ?_
  ·
    refine R_region ?_
    refine R_r (D_load rfl (Has.own 0 rfl) (rd26_Mark_0 m)) ?_
    refine R_r (D_build rfl bd26_) ?_
    refine R_r (D_eqA eg26 rfl rfl (eqa26 _ _)) ?_
    refine R_r (D_move rfl) ?_
    refine R_split 6 rfl (fun h1 => ?_) (fun h1 => ?_)
    ·
      have h1p := of_decide_eq_true h1
      refine R_skipop rfl rfl rfl ?_
      refine R_skipop rfl rfl rfl ?_
      refine R_skipop rfl rfl rfl ?_
      refine R_skipop rfl rfl rfl ?_
      refine R_skipop rfl rfl rfl ?_
      refine R_skipop rfl rfl rfl ?_
      refine R_skipop rfl rfl rfl ?_
      refine R_skipop rfl rfl rfl ?_
      refine R_skipop rfl rfl rfl ?_
      refine R_skipop rfl rfl rfl ?_
      refine R_skipop rfl rfl rfl ?_
      refine R_skipop rfl rfl rfl ?_
      refine R_skipop rfl rfl rfl ?_
      refine R_skipop rfl rfl rfl ?_
      refine R_r (D_pick true rfl rfl) ?_
      refine R_r (D_assign rfl) ?_
      refine R_nil ?_
      exact R_at (Env.sub_cons rfl <| Env.sub_cons rfl <| Env.sub_cons (by first | (show some (Value.bool _) = some (Value.bool _); simp only [h1, Bool.true_and, Bool.false_and, Bool.true_or, Bool.false_or, Bool.and_true, Bool.and_false, Bool.or_true, Bool.or_false]; done) | (show some (Value.bool _) = some (Value.bool _); (try rw [h1]); first | done | rfl) | simp [h1, Env.find]) <| Env.sub_nil _)
    ·
      have h1p := of_decide_eq_false h1
      refine R_r (D_fieldAddr fa26_0 rfl) ?_
      refine R_r (D_load rfl (Has.own 0 rfl) (Rd.one Tryz.isAgg3 rfl)) ?_
      refine R_r (D_fieldAddr fa26_1 rfl) ?_
      refine R_r (D_load rfl (Has.own 0 rfl) (Rd.one Tryz.isAgg3 rfl)) ?_
      refine R_r (D_min rfl rfl) ?_
      refine R_r (D_ge rfl rfl) ?_
      refine R_r (D_move rfl) ?_
      refine R_split 13 rfl (fun h2 => ?_) (fun h2 => ?_)
      ·
        have h2p := of_decide_eq_true h2
        refine R_r (D_fieldAddr fa26_0 rfl) ?_
        refine R_r (D_load rfl (Has.own 0 rfl) (Rd.one Tryz.isAgg3 rfl)) ?_
        refine R_r (D_fieldAddr fa26_1 rfl) ?_
        refine R_r (D_load rfl (Has.own 0 rfl) (Rd.one Tryz.isAgg3 rfl)) ?_
        refine R_r (D_max rfl rfl) ?_
        refine R_r (D_le rfl rfl) ?_
        refine R_r (D_pick true rfl rfl) ?_
        refine R_r (D_pick false rfl rfl) ?_
        refine R_r (D_assign rfl) ?_
        refine R_nil ?_
        exact R_at (Env.sub_cons rfl <| Env.sub_cons rfl <| Env.sub_cons (by first | (show some (Value.bool _) = some (Value.bool _); simp only [h1, h2, Bool.true_and, Bool.false_and, Bool.true_or, Bool.false_or, Bool.and_true, Bool.and_false, Bool.or_true, Bool.or_false]; done) | (show some (Value.bool _) = some (Value.bool _); (try rw [h1]); (try rw [h2]); first | done | rfl) | simp [h1, h2, Env.find]) <| Env.sub_nil _)
      ·
        have h2p := of_decide_eq_false h2
        refine R_skipop rfl rfl rfl ?_
        refine R_skipop rfl rfl rfl ?_
        refine R_skipop rfl rfl rfl ?_
        refine R_skipop rfl rfl rfl ?_
        refine R_skipop rfl rfl rfl ?_
        refine R_skipop rfl rfl rfl ?_
        refine R_r (D_pick false rfl rfl) ?_
        refine R_r (D_pick false rfl rfl) ?_
        refine R_r (D_assign rfl) ?_
        refine R_nil ?_
        exact R_at (Env.sub_cons rfl <| Env.sub_cons rfl <| Env.sub_cons (by first | (show some (Value.bool _) = some (Value.bool _); simp only [h1, h2, Bool.true_and, Bool.false_and, Bool.true_or, Bool.false_or, Bool.and_true, Bool.and_false, Bool.or_true, Bool.or_false]; done) | (show some (Value.bool _) = some (Value.bool _); (try rw [h1]); (try rw [h2]); first | done | rfl) | simp [h1, h2, Env.find]) <| Env.sub_nil _)
  ·
    refine R_ret ?_
    refine R_drop (List.nil_sublist _) ?_
    refine R_fin1 rfl rfl ?_
    exact ⟨rfl, rfl, rfl⟩

theorem possible_C (v : Val) (m : Marks) (M : PMem) (w : World) (hM : Lies M w) : Ends Tryz.prog 123 [Val.val v, Marks.val m] w [] M (fun v' M' H' => v' = I (possE v m) ∧ M' = M ∧ H' = []) := by
  refine Ends.enter (H := []) Tryz.func123 rfl Tryz.ntmps123 rfl (St.start hM) ?_
  refine R_seq ?_
  refine R_region ?_
  refine R_o (E_box (Val.cells v) rfl rfl (fun b1 => ?_))
  refine R_o (E_box (Marks.cells m) rfl rfl (fun b2 => ?_))
  refine R_r (D_assign rfl) ?_
  refine R_nil ?_
  refine R_seq ?_
  refine R_join [(0, Val.val v), (1, Marks.val m), (2, P_ b1 0), (3, P_ b2 0), (4, I 0), (5, .bool ((decide (v.size = 0)) && (decide (v.sum = Sum32.zero))))] (M' := M) (H' := [.blk b2 (.cells (List.toArray (Marks.cells m)) 27), .blk b1 (.cells (List.toArray (Val.cells v)) 24)]) ?_ ?_
  ·
    refine R_region ?_
    refine R_r (D_fieldAddr fa24_2 rfl) ?_
    refine R_r (D_load rfl (Has.own 1 rfl) (Rd.one Tryz.isAgg3 rfl)) ?_
    refine R_r (D_eq rfl rfl) ?_
    refine R_r (D_move rfl) ?_
    refine R_split 11 rfl (fun h1 => ?_) (fun h1 => ?_)
    ·
      have h1p := of_decide_eq_true h1
      refine R_r (D_fieldAddr fa24_3 rfl) ?_
      refine R_r (D_load rfl (Has.own 1 rfl) (rd22_Val_3 v)) ?_
      refine R_r (D_build rfl bd22_) ?_
      refine R_r (D_eqA eg22 rfl rfl (eqa22 _ _)) ?_
      refine R_r (D_pick true rfl rfl) ?_
      refine R_r (D_assign rfl) ?_
      refine R_nil ?_
      exact R_at (Env.sub_cons rfl <| Env.sub_cons rfl <| Env.sub_cons rfl <| Env.sub_cons rfl <| Env.sub_cons rfl <| Env.sub_cons (by first | (show some (Value.bool _) = some (Value.bool _); simp only [h1, Bool.true_and, Bool.false_and, Bool.true_or, Bool.false_or, Bool.and_true, Bool.and_false, Bool.or_true, Bool.or_false]; done) | (show some (Value.bool _) = some (Value.bool _); (try rw [h1]); first | done | rfl) | simp [h1, Env.find]) <| Env.sub_nil _)
    ·
      have h1p := of_decide_eq_false h1
      refine R_skipop rfl rfl rfl ?_
      refine R_skipop rfl rfl rfl ?_
      refine R_skipop rfl rfl rfl ?_
      refine R_skipop rfl rfl rfl ?_
      refine R_r (D_pick false rfl rfl) ?_
      refine R_r (D_assign rfl) ?_
      refine R_nil ?_
      exact R_at (Env.sub_cons rfl <| Env.sub_cons rfl <| Env.sub_cons rfl <| Env.sub_cons rfl <| Env.sub_cons rfl <| Env.sub_cons (by first | (show some (Value.bool _) = some (Value.bool _); simp only [h1, Bool.true_and, Bool.false_and, Bool.true_or, Bool.false_or, Bool.and_true, Bool.and_false, Bool.or_true, Bool.or_false]; done) | (show some (Value.bool _) = some (Value.bool _); (try rw [h1]); first | done | rfl) | simp [h1, Env.find]) <| Env.sub_nil _)
  ·
    refine R_seq ?_
    refine R_join [(0, Val.val v), (1, Marks.val m), (2, P_ b1 0), (3, P_ b2 0), (4, I 0), (5, .bool ((decide (v.size = 0)) && (decide (v.sum = Sum32.zero)))), (6, .bool ((decide (0 ≤ v.mode)) && (decide (v.mode ≤ 8))))] (M' := M) (H' := [.blk b2 (.cells (List.toArray (Marks.cells m)) 27), .blk b1 (.cells (List.toArray (Val.cells v)) 24)]) ?_ ?_
    ·
      refine R_region ?_
      refine R_r (D_fieldAddr fa24_1 rfl) ?_
      refine R_r (D_load rfl (Has.own 1 rfl) (Rd.one Tryz.isAgg3 rfl)) ?_
      refine R_r (D_ge rfl rfl) ?_
      refine R_r (D_move rfl) ?_
      refine R_split 20 rfl (fun h1 => ?_) (fun h1 => ?_)
      ·
        have h1p := of_decide_eq_true h1
        refine R_r (D_fieldAddr fa24_1 rfl) ?_
        refine R_r (D_load rfl (Has.own 1 rfl) (Rd.one Tryz.isAgg3 rfl)) ?_
        refine R_r (D_le rfl rfl) ?_
        refine R_r (D_pick true rfl rfl) ?_
        refine R_r (D_assign rfl) ?_
        refine R_nil ?_
        exact R_at (Env.sub_cons rfl <| Env.sub_cons rfl <| Env.sub_cons rfl <| Env.sub_cons rfl <| Env.sub_cons rfl <| Env.sub_cons rfl <| Env.sub_cons (by first | (show some (Value.bool _) = some (Value.bool _); simp only [h1, Bool.true_and, Bool.false_and, Bool.true_or, Bool.false_or, Bool.and_true, Bool.and_false, Bool.or_true, Bool.or_false]; done) | (show some (Value.bool _) = some (Value.bool _); (try rw [h1]); first | done | rfl) | simp [h1, Env.find]) <| Env.sub_nil _)
      ·
        have h1p := of_decide_eq_false h1
        refine R_skipop rfl rfl rfl ?_
        refine R_skipop rfl rfl rfl ?_
        refine R_skipop rfl rfl rfl ?_
        refine R_r (D_pick false rfl rfl) ?_
        refine R_r (D_assign rfl) ?_
        refine R_nil ?_
        exact R_at (Env.sub_cons rfl <| Env.sub_cons rfl <| Env.sub_cons rfl <| Env.sub_cons rfl <| Env.sub_cons rfl <| Env.sub_cons rfl <| Env.sub_cons (by first | (show some (Value.bool _) = some (Value.bool _); simp only [h1, Bool.true_and, Bool.false_and, Bool.true_or, Bool.false_or, Bool.and_true, Bool.and_false, Bool.or_true, Bool.or_false]; done) | (show some (Value.bool _) = some (Value.bool _); (try rw [h1]); first | done | rfl) | simp [h1, Env.find]) <| Env.sub_nil _)
    ·
      refine R_seq ?_
      refine R_region ?_
      refine R_r (D_load rfl (Has.own 0 rfl) (rd27_Marks_0 m)) ?_
      refine R_r (D_build rfl bd27_) ?_
      refine R_r (D_eqA eg27 rfl rfl (eqa27 _ _)) ?_
      refine R_r (D_assign rfl) ?_
      refine R_nil ?_
      refine R_seq ?_
      refine R_seq ?_
      refine R_region ?_
      refine R_r (D_fieldAddr fa24_0 rfl) ?_
      refine R_r (D_load rfl (Has.own 1 rfl) (Rd.one Tryz.isAgg3 rfl)) ?_
      refine R_nil ?_
      refine R_block ?_
      refine R_seq ?_
      refine R_region ?_
      refine R_r (D_eq rfl rfl) ?_
      refine R_r (D_assign rfl) ?_
      refine R_nil ?_
      refine R_cond rfl (fun h1 => ?_) (fun h1 => ?_)
      ·
        have h1p := of_decide_eq_true h1
        refine R_join [(0, Val.val v), (1, Marks.val m), (2, P_ b1 0), (3, P_ b2 0), (4, I 0), (5, .bool ((decide (v.size = 0)) && (decide (v.sum = Sum32.zero)))), (6, .bool ((decide (0 ≤ v.mode)) && (decide (v.mode ≤ 8)))), (7, .bool (((decide (m = Marks.zero)) && ((decide (v.size = 0)) && (decide (v.sum = Sum32.zero)))) && ((decide (0 ≤ v.mode)) && (decide (v.mode ≤ 8))))), (25, Marks.val m), (26, Marks.val Marks.zero), (27, .bool (decide (m = Marks.zero))), (28, P_ b1 0), (29, I v.kind), (30, .bool (decide (v.kind = 1))), (31, .bool (decide (v.kind = 1)))] (M' := M) (H' := [.blk b2 (.cells (List.toArray (Marks.cells m)) 27), .blk b1 (.cells (List.toArray (Val.cells v)) 24)]) ?_ ?_
        ·
          refine R_region ?_
          refine R_r (D_move rfl) ?_
          refine R_r (D_move rfl) ?_
          refine R_split 33 rfl (fun h2 => ?_) (fun h2 => ?_)
          ·
            have h2p := of_decide_eq_true h2
            refine R_r (D_move rfl) ?_
            refine R_r (D_pick true rfl rfl) ?_
            refine R_r (D_move rfl) ?_
            refine R_split 36 rfl (fun h3 => ?_) (fun h3 => ?_)
            ·
              have h3p := h3; simp only [Bool.and_eq_true, Bool.or_eq_true, Bool.not_eq_true', Bool.and_eq_false_imp, Bool.or_eq_false_iff, Bool.not_eq_false', decide_eq_true_eq, decide_eq_false_iff_not] at h3p
              refine R_r (D_move rfl) ?_
              refine R_r (D_pick true rfl rfl) ?_
              refine R_r (D_assign rfl) ?_
              refine R_nil ?_
              exact R_at (Env.sub_cons rfl <| Env.sub_cons rfl <| Env.sub_cons rfl <| Env.sub_cons rfl <| Env.sub_cons rfl <| Env.sub_cons rfl <| Env.sub_cons rfl <| Env.sub_cons (by first | (show some (Value.bool _) = some (Value.bool _); simp only [h2, h3, Bool.true_and, Bool.false_and, Bool.true_or, Bool.false_or, Bool.and_true, Bool.and_false, Bool.or_true, Bool.or_false]; done) | (show some (Value.bool _) = some (Value.bool _); (try rw [h2]); (try rw [h3]); first | done | rfl) | simp [h2, h3, Env.find]) <| Env.sub_cons rfl <| Env.sub_cons rfl <| Env.sub_cons rfl <| Env.sub_cons rfl <| Env.sub_cons rfl <| Env.sub_cons rfl <| Env.sub_cons rfl <| Env.sub_nil _)
            ·
              have h3p := h3; simp only [Bool.and_eq_true, Bool.or_eq_true, Bool.not_eq_true', Bool.and_eq_false_imp, Bool.or_eq_false_iff, Bool.not_eq_false', decide_eq_true_eq, decide_eq_false_iff_not] at h3p
              refine R_skipop rfl rfl rfl ?_
              refine R_r (D_pick false rfl rfl) ?_
              refine R_r (D_assign rfl) ?_
              refine R_nil ?_
              exact R_at (Env.sub_cons rfl <| Env.sub_cons rfl <| Env.sub_cons rfl <| Env.sub_cons rfl <| Env.sub_cons rfl <| Env.sub_cons rfl <| Env.sub_cons rfl <| Env.sub_cons (by first | (show some (Value.bool _) = some (Value.bool _); simp only [h2, h3, Bool.true_and, Bool.false_and, Bool.true_or, Bool.false_or, Bool.and_true, Bool.and_false, Bool.or_true, Bool.or_false]; done) | (show some (Value.bool _) = some (Value.bool _); (try rw [h2]); (try rw [h3]); first | done | rfl) | simp [h2, h3, Env.find]) <| Env.sub_cons rfl <| Env.sub_cons rfl <| Env.sub_cons rfl <| Env.sub_cons rfl <| Env.sub_cons rfl <| Env.sub_cons rfl <| Env.sub_cons rfl <| Env.sub_nil _)
          ·
            have h2p := of_decide_eq_false h2
            refine R_skipop rfl rfl rfl ?_
            refine R_r (D_pick false rfl rfl) ?_
            refine R_r (D_move rfl) ?_
            refine R_skipop rfl rfl rfl ?_
            refine R_r (D_pick false rfl rfl) ?_
            refine R_r (D_assign rfl) ?_
            refine R_nil ?_
            exact R_at (Env.sub_cons rfl <| Env.sub_cons rfl <| Env.sub_cons rfl <| Env.sub_cons rfl <| Env.sub_cons rfl <| Env.sub_cons rfl <| Env.sub_cons rfl <| Env.sub_cons (by first | (show some (Value.bool _) = some (Value.bool _); simp only [h2, Bool.true_and, Bool.false_and, Bool.true_or, Bool.false_or, Bool.and_true, Bool.and_false, Bool.or_true, Bool.or_false]; done) | (show some (Value.bool _) = some (Value.bool _); (try rw [h2]); first | done | rfl) | simp [h2, Env.find]) <| Env.sub_cons rfl <| Env.sub_cons rfl <| Env.sub_cons rfl <| Env.sub_cons rfl <| Env.sub_cons rfl <| Env.sub_cons rfl <| Env.sub_cons rfl <| Env.sub_nil _)
        ·
          refine R_seq ?_
          refine R_seq ?_
          refine R_region ?_
          refine R_r (D_move rfl) ?_
          refine R_r (D_not rfl) ?_
          refine R_nil ?_
          refine R_cond rfl (fun h2 => ?_) (fun h2 => ?_)
          ·
            have h2p := h2; simp only [Bool.and_eq_true, Bool.or_eq_true, Bool.not_eq_true', Bool.and_eq_false_imp, Bool.or_eq_false_iff, Bool.not_eq_false', decide_eq_true_eq, decide_eq_false_iff_not] at h2p
            refine R_seq ?_
            refine R_region ?_
            refine R_r (D_assign rfl) ?_
            refine R_nil ?_
            refine R_ret ?_
            refine R_drop (List.nil_sublist _) ?_
            refine R_fin1 rfl rfl ?_
            exact ⟨by rw [possE, if_pos h1p, if_neg (by intro hq; rw [hq] at h2; cases h2)], rfl, rfl⟩
          ·
            have h2p := h2; simp only [Bool.and_eq_true, Bool.or_eq_true, Bool.not_eq_true', Bool.and_eq_false_imp, Bool.or_eq_false_iff, Bool.not_eq_false', decide_eq_true_eq, decide_eq_false_iff_not] at h2p
            refine R_skip ?_
            refine R_seq ?_
            refine R_region ?_
            refine R_r (D_assign rfl) ?_
            refine R_nil ?_
            refine R_ret ?_
            refine R_drop (List.nil_sublist _) ?_
            refine R_fin1 rfl rfl ?_
            exact ⟨by rw [possE, if_pos h1p, if_pos (by simpa using h2)], rfl, rfl⟩
      ·
        have h1p := of_decide_eq_false h1
        refine R_seq ?_
        refine R_region ?_
        refine R_r (D_eq rfl rfl) ?_
        refine R_r (D_assign rfl) ?_
        refine R_nil ?_
        refine R_cond rfl (fun h2 => ?_) (fun h2 => ?_)
        ·
          have h2p := of_decide_eq_true h2
          refine R_join [(0, Val.val v), (1, Marks.val m), (2, P_ b1 0), (3, P_ b2 0), (4, I 0), (5, .bool ((decide (v.size = 0)) && (decide (v.sum = Sum32.zero)))), (6, .bool ((decide (0 ≤ v.mode)) && (decide (v.mode ≤ 8)))), (7, .bool (((((Mark.okT m.a) && (Mark.okT m.b)) && ((decide (0 ≤ v.mode)) && (decide (v.mode ≤ 8)))) && (decide (0 ≤ v.size))) && (decide (v.size ≤ 1099511627775)))), (25, Marks.val m), (26, Marks.val Marks.zero), (27, .bool (decide (m = Marks.zero))), (28, P_ b1 0), (29, I v.kind), (30, .bool (decide (v.kind = 1))), (31, .bool (decide (v.kind = 1))), (39, .bool (decide (v.kind = 2))), (40, .bool (decide (v.kind = 2)))] (M' := M) (H' := [.blk b2 (.cells (List.toArray (Marks.cells m)) 27), .blk b1 (.cells (List.toArray (Val.cells v)) 24)]) ?_ ?_
          ·
            refine R_region ?_
            refine R_r (D_indexA Tryz.underlying27 Tryz.sizeOf26 rfl rfl (by omega) (by omega)) ?_
            refine R_r (D_load rfl (Has.own 0 rfl) (rd26_Marks_0 m)) ?_
            refine R_o (E_callV (v := .bool (Mark.okT m.a)) rfl rfl en140 (fun w hM => markable_C m.a M w hM ) ?_)
            refine R_r (D_move rfl) ?_
            refine R_split 44 rfl (fun h3 => ?_) (fun h3 => ?_)
            ·
              refine R_r (D_indexA Tryz.underlying27 Tryz.sizeOf26 rfl rfl (by omega) (by omega)) ?_
              refine R_r (D_load rfl (Has.own 0 rfl) (rd26_Marks_2 m)) ?_
              refine R_o (E_callV (v := .bool (Mark.okT m.b)) rfl rfl en140 (fun w hM => markable_C m.b M w hM ) ?_)
              refine R_r (D_pick true rfl rfl) ?_
              refine R_r (D_move rfl) ?_
              refine R_split 49 rfl (fun h4 => ?_) (fun h4 => ?_)
              ·
                refine R_r (D_move rfl) ?_
                refine R_r (D_pick true rfl rfl) ?_
                refine R_r (D_move rfl) ?_
                refine R_split 52 rfl (fun h5 => ?_) (fun h5 => ?_)
                ·
                  have h5p := h5; simp only [Bool.and_eq_true, Bool.or_eq_true, Bool.not_eq_true', Bool.and_eq_false_imp, Bool.or_eq_false_iff, Bool.not_eq_false', decide_eq_true_eq, decide_eq_false_iff_not] at h5p
                  refine R_r (D_fieldAddr fa24_2 rfl) ?_
                  refine R_r (D_load rfl (Has.own 1 rfl) (Rd.one Tryz.isAgg3 rfl)) ?_
                  refine R_r (D_ge rfl rfl) ?_
                  refine R_r (D_pick true rfl rfl) ?_
                  refine R_r (D_move rfl) ?_
                  refine R_split 57 rfl (fun h6 => ?_) (fun h6 => ?_)
                  ·
                    have h6p := of_decide_eq_true h6
                    refine R_r (D_fieldAddr fa24_2 rfl) ?_
                    refine R_r (D_load rfl (Has.own 1 rfl) (Rd.one Tryz.isAgg3 rfl)) ?_
                    refine R_r (D_le rfl rfl) ?_
                    refine R_r (D_pick true rfl rfl) ?_
                    refine R_r (D_assign rfl) ?_
                    refine R_nil ?_
                    exact R_at (Env.sub_cons rfl <| Env.sub_cons rfl <| Env.sub_cons rfl <| Env.sub_cons rfl <| Env.sub_cons rfl <| Env.sub_cons rfl <| Env.sub_cons rfl <| Env.sub_cons (by first | (show some (Value.bool _) = some (Value.bool _); simp only [h3, h4, h5, h6, Bool.true_and, Bool.false_and, Bool.true_or, Bool.false_or, Bool.and_true, Bool.and_false, Bool.or_true, Bool.or_false]; done) | (show some (Value.bool _) = some (Value.bool _); (try rw [h3]); (try rw [h4]); (try rw [h5]); (try rw [h6]); first | done | rfl) | simp [h3, h4, h5, h6, Env.find]) <| Env.sub_cons rfl <| Env.sub_cons rfl <| Env.sub_cons rfl <| Env.sub_cons rfl <| Env.sub_cons rfl <| Env.sub_cons rfl <| Env.sub_cons rfl <| Env.sub_cons rfl <| Env.sub_cons rfl <| Env.sub_nil _)
                  ·
                    have h6p := of_decide_eq_false h6
                    refine R_skipop rfl rfl rfl ?_
                    refine R_skipop rfl rfl rfl ?_
                    refine R_skipop rfl rfl rfl ?_
                    refine R_r (D_pick false rfl rfl) ?_
                    refine R_r (D_assign rfl) ?_
                    refine R_nil ?_
                    exact R_at (Env.sub_cons rfl <| Env.sub_cons rfl <| Env.sub_cons rfl <| Env.sub_cons rfl <| Env.sub_cons rfl <| Env.sub_cons rfl <| Env.sub_cons rfl <| Env.sub_cons (by first | (show some (Value.bool _) = some (Value.bool _); simp only [h3, h4, h5, h6, Bool.true_and, Bool.false_and, Bool.true_or, Bool.false_or, Bool.and_true, Bool.and_false, Bool.or_true, Bool.or_false]; done) | (show some (Value.bool _) = some (Value.bool _); (try rw [h3]); (try rw [h4]); (try rw [h5]); (try rw [h6]); first | done | rfl) | simp [h3, h4, h5, h6, Env.find]) <| Env.sub_cons rfl <| Env.sub_cons rfl <| Env.sub_cons rfl <| Env.sub_cons rfl <| Env.sub_cons rfl <| Env.sub_cons rfl <| Env.sub_cons rfl <| Env.sub_cons rfl <| Env.sub_cons rfl <| Env.sub_nil _)
                ·
                  have h5p := h5; simp only [Bool.and_eq_true, Bool.or_eq_true, Bool.not_eq_true', Bool.and_eq_false_imp, Bool.or_eq_false_iff, Bool.not_eq_false', decide_eq_true_eq, decide_eq_false_iff_not] at h5p
                  refine R_skipop rfl rfl rfl ?_
                  refine R_skipop rfl rfl rfl ?_
                  refine R_skipop rfl rfl rfl ?_
                  refine R_r (D_pick false rfl rfl) ?_
                  refine R_r (D_move rfl) ?_
                  refine R_skipop rfl rfl rfl ?_
                  refine R_skipop rfl rfl rfl ?_
                  refine R_skipop rfl rfl rfl ?_
                  refine R_r (D_pick false rfl rfl) ?_
                  refine R_r (D_assign rfl) ?_
                  refine R_nil ?_
                  exact R_at (Env.sub_cons rfl <| Env.sub_cons rfl <| Env.sub_cons rfl <| Env.sub_cons rfl <| Env.sub_cons rfl <| Env.sub_cons rfl <| Env.sub_cons rfl <| Env.sub_cons (by first | (show some (Value.bool _) = some (Value.bool _); simp only [h3, h4, h5, Bool.true_and, Bool.false_and, Bool.true_or, Bool.false_or, Bool.and_true, Bool.and_false, Bool.or_true, Bool.or_false]; done) | (show some (Value.bool _) = some (Value.bool _); (try rw [h3]); (try rw [h4]); (try rw [h5]); first | done | rfl) | simp [h3, h4, h5, Env.find]) <| Env.sub_cons rfl <| Env.sub_cons rfl <| Env.sub_cons rfl <| Env.sub_cons rfl <| Env.sub_cons rfl <| Env.sub_cons rfl <| Env.sub_cons rfl <| Env.sub_cons rfl <| Env.sub_cons rfl <| Env.sub_nil _)
              ·
                refine R_skipop rfl rfl rfl ?_
                refine R_r (D_pick false rfl rfl) ?_
                refine R_r (D_move rfl) ?_
                refine R_skipop rfl rfl rfl ?_
                refine R_skipop rfl rfl rfl ?_
                refine R_skipop rfl rfl rfl ?_
                refine R_r (D_pick false rfl rfl) ?_
                refine R_r (D_move rfl) ?_
                refine R_skipop rfl rfl rfl ?_
                refine R_skipop rfl rfl rfl ?_
                refine R_skipop rfl rfl rfl ?_
                refine R_r (D_pick false rfl rfl) ?_
                refine R_r (D_assign rfl) ?_
                refine R_nil ?_
                exact R_at (Env.sub_cons rfl <| Env.sub_cons rfl <| Env.sub_cons rfl <| Env.sub_cons rfl <| Env.sub_cons rfl <| Env.sub_cons rfl <| Env.sub_cons rfl <| Env.sub_cons (by first | (show some (Value.bool _) = some (Value.bool _); simp only [h3, h4, Bool.true_and, Bool.false_and, Bool.true_or, Bool.false_or, Bool.and_true, Bool.and_false, Bool.or_true, Bool.or_false]; done) | (show some (Value.bool _) = some (Value.bool _); (try rw [h3]); (try rw [h4]); first | done | rfl) | simp [h3, h4, Env.find]) <| Env.sub_cons rfl <| Env.sub_cons rfl <| Env.sub_cons rfl <| Env.sub_cons rfl <| Env.sub_cons rfl <| Env.sub_cons rfl <| Env.sub_cons rfl <| Env.sub_cons rfl <| Env.sub_cons rfl <| Env.sub_nil _)
            ·
              refine R_skipop rfl rfl rfl ?_
              refine R_skipop rfl rfl rfl ?_
              refine R_skipop rfl rfl rfl ?_
              refine R_r (D_pick false rfl rfl) ?_
              refine R_r (D_move rfl) ?_
              refine R_skipop rfl rfl rfl ?_
              refine R_r (D_pick false rfl rfl) ?_
              refine R_r (D_move rfl) ?_
              refine R_skipop rfl rfl rfl ?_
              refine R_skipop rfl rfl rfl ?_
              refine R_skipop rfl rfl rfl ?_
              refine R_r (D_pick false rfl rfl) ?_
              refine R_r (D_move rfl) ?_
              refine R_skipop rfl rfl rfl ?_
              refine R_skipop rfl rfl rfl ?_
              refine R_skipop rfl rfl rfl ?_
              refine R_r (D_pick false rfl rfl) ?_
              refine R_r (D_assign rfl) ?_
              refine R_nil ?_
              exact R_at (Env.sub_cons rfl <| Env.sub_cons rfl <| Env.sub_cons rfl <| Env.sub_cons rfl <| Env.sub_cons rfl <| Env.sub_cons rfl <| Env.sub_cons rfl <| Env.sub_cons (by first | (show some (Value.bool _) = some (Value.bool _); simp only [h3, Bool.true_and, Bool.false_and, Bool.true_or, Bool.false_or, Bool.and_true, Bool.and_false, Bool.or_true, Bool.or_false]; done) | (show some (Value.bool _) = some (Value.bool _); (try rw [h3]); first | done | rfl) | simp [h3, Env.find]) <| Env.sub_cons rfl <| Env.sub_cons rfl <| Env.sub_cons rfl <| Env.sub_cons rfl <| Env.sub_cons rfl <| Env.sub_cons rfl <| Env.sub_cons rfl <| Env.sub_cons rfl <| Env.sub_cons rfl <| Env.sub_nil _)
          ·
            refine R_seq ?_
            refine R_seq ?_
            refine R_region ?_
            refine R_r (D_move rfl) ?_
            refine R_r (D_not rfl) ?_
            refine R_nil ?_
            refine R_cond rfl (fun h3 => ?_) (fun h3 => ?_)
            ·
              have h3p := h3; simp only [Bool.and_eq_true, Bool.or_eq_true, Bool.not_eq_true', Bool.and_eq_false_imp, Bool.or_eq_false_iff, Bool.not_eq_false', decide_eq_true_eq, decide_eq_false_iff_not] at h3p
              refine R_seq ?_
              refine R_region ?_
              refine R_r (D_assign rfl) ?_
              refine R_nil ?_
              refine R_ret ?_
              refine R_drop (List.nil_sublist _) ?_
              refine R_fin1 rfl rfl ?_
              exact ⟨by rw [possE, if_neg h1p, if_pos h2p, if_neg (by intro hq; rw [hq] at h3; cases h3)], rfl, rfl⟩
            ·
              have h3p := h3; simp only [Bool.and_eq_true, Bool.or_eq_true, Bool.not_eq_true', Bool.and_eq_false_imp, Bool.or_eq_false_iff, Bool.not_eq_false', decide_eq_true_eq, decide_eq_false_iff_not] at h3p
              refine R_skip ?_
              refine R_seq ?_
              refine R_region ?_
              refine R_r (D_assign rfl) ?_
              refine R_nil ?_
              refine R_ret ?_
              refine R_drop (List.nil_sublist _) ?_
              refine R_fin1 rfl rfl ?_
              exact ⟨by rw [possE, if_neg h1p, if_pos h2p, if_pos (by simpa using h3)], rfl, rfl⟩
        ·
          have h2p := of_decide_eq_false h2
          refine R_seq ?_
          refine R_region ?_
          refine R_r (D_eq rfl rfl) ?_
          refine R_r (D_assign rfl) ?_
          refine R_nil ?_
          refine R_cond rfl (fun h3 => ?_) (fun h3 => ?_)
          ·
            have h3p := of_decide_eq_true h3
            refine R_join [(0, Val.val v), (1, Marks.val m), (2, P_ b1 0), (3, P_ b2 0), (4, I 0), (5, .bool ((decide (v.size = 0)) && (decide (v.sum = Sum32.zero)))), (6, .bool ((decide (0 ≤ v.mode)) && (decide (v.mode ≤ 8)))), (7, .bool ((((decide (m = Marks.zero)) && (decide (v.mode = 0))) && (decide (1 ≤ v.size))) && (decide (v.size ≤ 4095)))), (25, Marks.val m), (26, Marks.val Marks.zero), (27, .bool (decide (m = Marks.zero))), (28, P_ b1 0), (29, I v.kind), (30, .bool (decide (v.kind = 1))), (31, .bool (decide (v.kind = 1))), (39, .bool (decide (v.kind = 2))), (40, .bool (decide (v.kind = 2))), (62, .bool (decide (v.kind = 3))), (63, .bool (decide (v.kind = 3)))] (M' := M) (H' := [.blk b2 (.cells (List.toArray (Marks.cells m)) 27), .blk b1 (.cells (List.toArray (Val.cells v)) 24)]) ?_ ?_
            ·
              refine R_region ?_
              refine R_r (D_move rfl) ?_
              refine R_r (D_move rfl) ?_
              refine R_split 65 rfl (fun h4 => ?_) (fun h4 => ?_)
              ·
                have h4p := of_decide_eq_true h4
                refine R_r (D_fieldAddr fa24_1 rfl) ?_
                refine R_r (D_load rfl (Has.own 1 rfl) (Rd.one Tryz.isAgg3 rfl)) ?_
                refine R_r (D_eq rfl rfl) ?_
                refine R_r (D_pick true rfl rfl) ?_
                refine R_r (D_move rfl) ?_
                refine R_split 70 rfl (fun h5 => ?_) (fun h5 => ?_)
                ·
                  have h5p := of_decide_eq_true h5
                  refine R_r (D_fieldAddr fa24_2 rfl) ?_
                  refine R_r (D_load rfl (Has.own 1 rfl) (Rd.one Tryz.isAgg3 rfl)) ?_
                  refine R_r (D_ge rfl rfl) ?_
                  refine R_r (D_pick true rfl rfl) ?_
                  refine R_r (D_move rfl) ?_
                  refine R_split 75 rfl (fun h6 => ?_) (fun h6 => ?_)
                  ·
                    have h6p := of_decide_eq_true h6
                    refine R_r (D_fieldAddr fa24_2 rfl) ?_
                    refine R_r (D_load rfl (Has.own 1 rfl) (Rd.one Tryz.isAgg3 rfl)) ?_
                    refine R_r (D_le rfl rfl) ?_
                    refine R_r (D_pick true rfl rfl) ?_
                    refine R_r (D_assign rfl) ?_
                    refine R_nil ?_
                    exact R_at (Env.sub_cons rfl <| Env.sub_cons rfl <| Env.sub_cons rfl <| Env.sub_cons rfl <| Env.sub_cons rfl <| Env.sub_cons rfl <| Env.sub_cons rfl <| Env.sub_cons (by first | (show some (Value.bool _) = some (Value.bool _); simp only [h4, h5, h6, Bool.true_and, Bool.false_and, Bool.true_or, Bool.false_or, Bool.and_true, Bool.and_false, Bool.or_true, Bool.or_false]; done) | (show some (Value.bool _) = some (Value.bool _); (try rw [h4]); (try rw [h5]); (try rw [h6]); first | done | rfl) | simp [h4, h5, h6, Env.find]) <| Env.sub_cons rfl <| Env.sub_cons rfl <| Env.sub_cons rfl <| Env.sub_cons rfl <| Env.sub_cons rfl <| Env.sub_cons rfl <| Env.sub_cons rfl <| Env.sub_cons rfl <| Env.sub_cons rfl <| Env.sub_cons rfl <| Env.sub_cons rfl <| Env.sub_nil _)
                  ·
                    have h6p := of_decide_eq_false h6
                    refine R_skipop rfl rfl rfl ?_
                    refine R_skipop rfl rfl rfl ?_
                    refine R_skipop rfl rfl rfl ?_
                    refine R_r (D_pick false rfl rfl) ?_
                    refine R_r (D_assign rfl) ?_
                    refine R_nil ?_
                    exact R_at (Env.sub_cons rfl <| Env.sub_cons rfl <| Env.sub_cons rfl <| Env.sub_cons rfl <| Env.sub_cons rfl <| Env.sub_cons rfl <| Env.sub_cons rfl <| Env.sub_cons (by first | (show some (Value.bool _) = some (Value.bool _); simp only [h4, h5, h6, Bool.true_and, Bool.false_and, Bool.true_or, Bool.false_or, Bool.and_true, Bool.and_false, Bool.or_true, Bool.or_false]; done) | (show some (Value.bool _) = some (Value.bool _); (try rw [h4]); (try rw [h5]); (try rw [h6]); first | done | rfl) | simp [h4, h5, h6, Env.find]) <| Env.sub_cons rfl <| Env.sub_cons rfl <| Env.sub_cons rfl <| Env.sub_cons rfl <| Env.sub_cons rfl <| Env.sub_cons rfl <| Env.sub_cons rfl <| Env.sub_cons rfl <| Env.sub_cons rfl <| Env.sub_cons rfl <| Env.sub_cons rfl <| Env.sub_nil _)
                ·
                  have h5p := of_decide_eq_false h5
                  refine R_skipop rfl rfl rfl ?_
                  refine R_skipop rfl rfl rfl ?_
                  refine R_skipop rfl rfl rfl ?_
                  refine R_r (D_pick false rfl rfl) ?_
                  refine R_r (D_move rfl) ?_
                  refine R_skipop rfl rfl rfl ?_
                  refine R_skipop rfl rfl rfl ?_
                  refine R_skipop rfl rfl rfl ?_
                  refine R_r (D_pick false rfl rfl) ?_
                  refine R_r (D_assign rfl) ?_
                  refine R_nil ?_
                  exact R_at (Env.sub_cons rfl <| Env.sub_cons rfl <| Env.sub_cons rfl <| Env.sub_cons rfl <| Env.sub_cons rfl <| Env.sub_cons rfl <| Env.sub_cons rfl <| Env.sub_cons (by first | (show some (Value.bool _) = some (Value.bool _); simp only [h4, h5, Bool.true_and, Bool.false_and, Bool.true_or, Bool.false_or, Bool.and_true, Bool.and_false, Bool.or_true, Bool.or_false]; done) | (show some (Value.bool _) = some (Value.bool _); (try rw [h4]); (try rw [h5]); first | done | rfl) | simp [h4, h5, Env.find]) <| Env.sub_cons rfl <| Env.sub_cons rfl <| Env.sub_cons rfl <| Env.sub_cons rfl <| Env.sub_cons rfl <| Env.sub_cons rfl <| Env.sub_cons rfl <| Env.sub_cons rfl <| Env.sub_cons rfl <| Env.sub_cons rfl <| Env.sub_cons rfl <| Env.sub_nil _)
              ·
                have h4p := of_decide_eq_false h4
                refine R_skipop rfl rfl rfl ?_
                refine R_skipop rfl rfl rfl ?_
                refine R_skipop rfl rfl rfl ?_
                refine R_r (D_pick false rfl rfl) ?_
                refine R_r (D_move rfl) ?_
                refine R_skipop rfl rfl rfl ?_
                refine R_skipop rfl rfl rfl ?_
                refine R_skipop rfl rfl rfl ?_
                refine R_r (D_pick false rfl rfl) ?_
                refine R_r (D_move rfl) ?_
                refine R_skipop rfl rfl rfl ?_
                refine R_skipop rfl rfl rfl ?_
                refine R_skipop rfl rfl rfl ?_
                refine R_r (D_pick false rfl rfl) ?_
                refine R_r (D_assign rfl) ?_
                refine R_nil ?_
                exact R_at (Env.sub_cons rfl <| Env.sub_cons rfl <| Env.sub_cons rfl <| Env.sub_cons rfl <| Env.sub_cons rfl <| Env.sub_cons rfl <| Env.sub_cons rfl <| Env.sub_cons (by first | (show some (Value.bool _) = some (Value.bool _); simp only [h4, Bool.true_and, Bool.false_and, Bool.true_or, Bool.false_or, Bool.and_true, Bool.and_false, Bool.or_true, Bool.or_false]; done) | (show some (Value.bool _) = some (Value.bool _); (try rw [h4]); first | done | rfl) | simp [h4, Env.find]) <| Env.sub_cons rfl <| Env.sub_cons rfl <| Env.sub_cons rfl <| Env.sub_cons rfl <| Env.sub_cons rfl <| Env.sub_cons rfl <| Env.sub_cons rfl <| Env.sub_cons rfl <| Env.sub_cons rfl <| Env.sub_cons rfl <| Env.sub_cons rfl <| Env.sub_nil _)
            ·
              refine R_seq ?_
              refine R_seq ?_
              refine R_region ?_
              refine R_r (D_move rfl) ?_
              refine R_r (D_not rfl) ?_
              refine R_nil ?_
              refine R_cond rfl (fun h4 => ?_) (fun h4 => ?_)
              ·
                have h4p := h4; simp only [Bool.and_eq_true, Bool.or_eq_true, Bool.not_eq_true', Bool.and_eq_false_imp, Bool.or_eq_false_iff, Bool.not_eq_false', decide_eq_true_eq, decide_eq_false_iff_not] at h4p
                refine R_seq ?_
                refine R_region ?_
                refine R_r (D_assign rfl) ?_
                refine R_nil ?_
                refine R_ret ?_
                refine R_drop (List.nil_sublist _) ?_
                refine R_fin1 rfl rfl ?_
                exact ⟨by rw [possE, if_neg h1p, if_neg h2p, if_pos h3p, if_neg (by intro hq; rw [hq] at h4; cases h4)], rfl, rfl⟩
              ·
                have h4p := h4; simp only [Bool.and_eq_true, Bool.or_eq_true, Bool.not_eq_true', Bool.and_eq_false_imp, Bool.or_eq_false_iff, Bool.not_eq_false', decide_eq_true_eq, decide_eq_false_iff_not] at h4p
                refine R_skip ?_
                refine R_seq ?_
                refine R_region ?_
                refine R_r (D_assign rfl) ?_
                refine R_nil ?_
                refine R_ret ?_
                refine R_drop (List.nil_sublist _) ?_
                refine R_fin1 rfl rfl ?_
                exact ⟨by rw [possE, if_neg h1p, if_neg h2p, if_pos h3p, if_pos (by simpa using h4)], rfl, rfl⟩
          ·
            have h3p := of_decide_eq_false h3
            refine R_seq ?_
            refine R_region ?_
            refine R_r (D_assign rfl) ?_
            refine R_nil ?_
            refine R_ret ?_
            refine R_drop (List.nil_sublist _) ?_
            refine R_fin1 rfl rfl ?_
            exact ⟨by rw [possE, if_neg h1p, if_neg h2p, if_neg h3p], rfl, rfl⟩

theorem tcheck_S (x : Node) (a : Option Addr) (c : Nat) (p : Str) (lv : Nat) (M : PMem) (w : World) (hM : Lies M w) (ih : ∀ y : Node, y.size < x.size → ∀ (a : Option Addr) (c : Nat) (p : Str) (lv : Nat) (M : PMem) (w : World) (hM : Lies M w), y.kids.length ≤ c → NdA M a y.kids → p.length + Node.wtL y.kids ≤ 1073741824 → lv ≤ 64 → Ends Tryz.prog 103 [NodeC.val ⟨y.name, y.value, y.marks, .slice a y.kids.length c⟩, S p, I lv] w [] M (fun v' M' H' => v' = .tuple #[S (tcheck y p lv).1, I (tcheck y p lv).2] ∧ M' = M ∧ H' = [])) (hc : x.kids.length ≤ c) (hkx : NdA M a x.kids) (hp : p.length + Node.wtL x.kids ≤ 1073741824) (hlv : lv ≤ 64) : Ends Tryz.prog 103 [NodeC.val (⟨x.name, x.value, x.marks, .slice a x.kids.length c⟩ : NodeC), S p, I (lv : Int)] w [] M (fun v' M' H' => v' = .tuple #[S (tcheck x p lv).1, I (tcheck x p lv).2] ∧ M' = M ∧ H' = []) := by
  have hwk := Node.wt_kids (l := x.kids)
  have hwx := Node.wt_eq x
  refine Ends.enter (H := []) Tryz.func103 rfl Tryz.ntmps103 rfl (St.start hM) ?_
  refine R_seq ?_
  refine R_region ?_
  refine R_o (E_box (NodeC.cells (⟨x.name, x.value, x.marks, .slice a x.kids.length c⟩ : NodeC)) rfl rfl (fun b1 => ?_))
  refine R_r (D_assign rfl) ?_
  refine R_r (D_assign rfl) ?_
  refine R_nil ?_
  refine R_seq ?_
  refine R_seq ?_
  refine R_join [(0, NodeC.val (⟨x.name, x.value, x.marks, .slice a x.kids.length c⟩ : NodeC)), (1, S p), (2, I (lv : Int)), (3, P_ b1 0), (6, S ([] : Str)), (7, I 0), (36, .bool (((decide (x.value.kind < 1)) || (decide (3 < x.value.kind))) || ((!decide (x.value.kind = 1)) && (decide (0 < (x.kids.length : Int))))))] (M' := M) (H' := [.blk b1 (.cells (List.toArray (NodeC.cells (⟨x.name, x.value, x.marks, .slice a x.kids.length c⟩ : NodeC))) 30)]) ?_ ?_
  ·
    refine R_region ?_
    refine R_r (D_fieldAddr fa30_1 rfl) ?_
    refine R_r (D_fieldAddr fa24_0 rfl) ?_
    refine R_r (D_load rfl (Has.own 0 rfl) (Rd.one Tryz.isAgg3 rfl)) ?_
    refine R_r (D_lt rfl rfl) ?_
    refine R_r (D_move rfl) ?_
    refine R_split 19 rfl (fun h1 => ?_) (fun h1 => ?_)
    ·
      have h1p := of_decide_eq_true h1
      refine R_skipop rfl rfl rfl ?_
      refine R_skipop rfl rfl rfl ?_
      refine R_skipop rfl rfl rfl ?_
      refine R_skipop rfl rfl rfl ?_
      refine R_r (D_pick true rfl rfl) ?_
      refine R_r (D_move rfl) ?_
      refine R_skipop rfl rfl rfl ?_
      refine R_skipop rfl rfl rfl ?_
      refine R_skipop rfl rfl rfl ?_
      refine R_skipop rfl rfl rfl ?_
      refine R_skipop rfl rfl rfl ?_
      refine R_skipop rfl rfl rfl ?_
      refine R_skipop rfl rfl rfl ?_
      refine R_skipop rfl rfl rfl ?_
      refine R_skipop rfl rfl rfl ?_
      refine R_skipop rfl rfl rfl ?_
      refine R_r (D_pick true rfl rfl) ?_
      refine R_nil ?_
      exact R_at (Env.sub_cons rfl <| Env.sub_cons rfl <| Env.sub_cons rfl <| Env.sub_cons rfl <| Env.sub_cons rfl <| Env.sub_cons rfl <| Env.sub_cons (by first | (show some (Value.bool _) = some (Value.bool _); simp only [h1, Bool.true_and, Bool.false_and, Bool.true_or, Bool.false_or, Bool.and_true, Bool.and_false, Bool.or_true, Bool.or_false]; done) | (show some (Value.bool _) = some (Value.bool _); (try rw [h1]); first | done | rfl) | simp [h1, Env.find]) <| Env.sub_nil _)
    ·
      have h1p := of_decide_eq_false h1
      refine R_r (D_fieldAddr fa30_1 rfl) ?_
      refine R_r (D_fieldAddr fa24_0 rfl) ?_
      refine R_r (D_load rfl (Has.own 0 rfl) (Rd.one Tryz.isAgg3 rfl)) ?_
      refine R_r (D_gt rfl rfl) ?_
      refine R_r (D_pick false rfl rfl) ?_
      refine R_r (D_move rfl) ?_
      refine R_split 25 rfl (fun h2 => ?_) (fun h2 => ?_)
      ·
        have h2p := of_decide_eq_true h2
        refine R_skipop rfl rfl rfl ?_
        refine R_skipop rfl rfl rfl ?_
        refine R_skipop rfl rfl rfl ?_
        refine R_skipop rfl rfl rfl ?_
        refine R_skipop rfl rfl rfl ?_
        refine R_skipop rfl rfl rfl ?_
        refine R_skipop rfl rfl rfl ?_
        refine R_skipop rfl rfl rfl ?_
        refine R_skipop rfl rfl rfl ?_
        refine R_skipop rfl rfl rfl ?_
        refine R_r (D_pick true rfl rfl) ?_
        refine R_nil ?_
        exact R_at (Env.sub_cons rfl <| Env.sub_cons rfl <| Env.sub_cons rfl <| Env.sub_cons rfl <| Env.sub_cons rfl <| Env.sub_cons rfl <| Env.sub_cons (by first | (show some (Value.bool _) = some (Value.bool _); simp only [h1, h2, Bool.true_and, Bool.false_and, Bool.true_or, Bool.false_or, Bool.and_true, Bool.and_false, Bool.or_true, Bool.or_false]; done) | (show some (Value.bool _) = some (Value.bool _); (try rw [h1]); (try rw [h2]); first | done | rfl) | simp [h1, h2, Env.find]) <| Env.sub_nil _)
      ·
        have h2p := of_decide_eq_false h2
        refine R_r (D_fieldAddr fa30_1 rfl) ?_
        refine R_r (D_fieldAddr fa24_0 rfl) ?_
        refine R_r (D_load rfl (Has.own 0 rfl) (Rd.one Tryz.isAgg3 rfl)) ?_
        refine R_r (D_ne rfl rfl) ?_
        refine R_r (D_move rfl) ?_
        refine R_split 30 rfl (fun h3 => ?_) (fun h3 => ?_)
        ·
          have h3p : ¬ (x.value.kind = 1) := by simpa using h3
          refine R_r (D_fieldAddr fa30_3 rfl) ?_
          refine R_r (D_load rfl (Has.own 0 rfl) (Rd.one Tryz.isAgg28 rfl)) ?_
          refine R_r (D_lenL Tryz.underlying28 rfl) ?_
          refine R_r (D_gt rfl rfl) ?_
          refine R_r (D_pick true rfl rfl) ?_
          refine R_r (D_pick false rfl rfl) ?_
          refine R_nil ?_
          exact R_at (Env.sub_cons rfl <| Env.sub_cons rfl <| Env.sub_cons rfl <| Env.sub_cons rfl <| Env.sub_cons rfl <| Env.sub_cons rfl <| Env.sub_cons (by first | (show some (Value.bool _) = some (Value.bool _); simp only [h1, h2, h3, Bool.true_and, Bool.false_and, Bool.true_or, Bool.false_or, Bool.and_true, Bool.and_false, Bool.or_true, Bool.or_false]; done) | (show some (Value.bool _) = some (Value.bool _); (try rw [h1]); (try rw [h2]); (try rw [h3]); first | done | rfl) | simp [h1, h2, h3, Env.find]) <| Env.sub_nil _)
        ·
          have h3p : (x.value.kind = 1) := by simpa using h3
          refine R_skipop rfl rfl rfl ?_
          refine R_skipop rfl rfl rfl ?_
          refine R_skipop rfl rfl rfl ?_
          refine R_skipop rfl rfl rfl ?_
          refine R_r (D_pick false rfl rfl) ?_
          refine R_r (D_pick false rfl rfl) ?_
          refine R_nil ?_
          exact R_at (Env.sub_cons rfl <| Env.sub_cons rfl <| Env.sub_cons rfl <| Env.sub_cons rfl <| Env.sub_cons rfl <| Env.sub_cons rfl <| Env.sub_cons (by first | (show some (Value.bool _) = some (Value.bool _); simp only [h1, h2, h3, Bool.true_and, Bool.false_and, Bool.true_or, Bool.false_or, Bool.and_true, Bool.and_false, Bool.or_true, Bool.or_false]; done) | (show some (Value.bool _) = some (Value.bool _); (try rw [h1]); (try rw [h2]); (try rw [h3]); first | done | rfl) | simp [h1, h2, h3, Env.find]) <| Env.sub_nil _)
  ·
    refine R_cond rfl (fun h1 => ?_) (fun h1 => ?_)
    ·
      have h1p := h1; simp only [Bool.and_eq_true, Bool.or_eq_true, Bool.not_eq_true', Bool.and_eq_false_imp, Bool.or_eq_false_iff, Bool.not_eq_false', decide_eq_true_eq, decide_eq_false_iff_not] at h1p
      have hown1 : ownE x.value x.marks x.kids.length = 40 := by rw [ownE, if_pos h1]
      refine R_seq ?_
      refine R_region ?_
      refine R_r (D_move rfl) ?_
      refine R_r (D_assign rfl) ?_
      refine R_r (D_assign rfl) ?_
      refine R_nil ?_
      refine R_ret ?_
      refine R_drop (List.nil_sublist _) ?_
      refine R_fin2 rfl rfl rfl ?_
      exact ⟨by rw [tcheck, if_neg (by rw [hown1]; decide), hown1], rfl, rfl⟩
    ·
      have h1p := h1; simp only [Bool.and_eq_true, Bool.or_eq_true, Bool.not_eq_true', Bool.and_eq_false_imp, Bool.or_eq_false_iff, Bool.not_eq_false', decide_eq_true_eq, decide_eq_false_iff_not] at h1p
      have hpo := possE_own (m := x.marks) h1
      refine R_skip ?_
      refine R_seq ?_
      refine R_seq ?_
      refine R_region ?_
      refine R_r (D_fieldAddr fa30_1 rfl) ?_
      refine R_r (D_load rfl (Has.own 0 rfl) (rd24_NodeC_1 (⟨x.name, x.value, x.marks, .slice a x.kids.length c⟩ : NodeC))) ?_
      refine R_r (D_fieldAddr fa30_2 rfl) ?_
      refine R_r (D_load rfl (Has.own 0 rfl) (rd27_NodeC_36 (⟨x.name, x.value, x.marks, .slice a x.kids.length c⟩ : NodeC))) ?_
      refine R_o (E_callV (v := I (possE x.value x.marks)) rfl rfl en123 (fun w hM => possible_C x.value x.marks M w hM ) ?_)
      refine R_r (D_assign rfl) ?_
      refine R_nil ?_
      refine R_seq ?_
      refine R_region ?_
      refine R_r (D_move rfl) ?_
      refine R_r (D_ne rfl rfl) ?_
      refine R_nil ?_
      refine R_cond rfl (fun h2 => ?_) (fun h2 => ?_)
      ·
        have h2p : ¬ ((possE x.value x.marks) = 0) := by simpa using h2
        rw [hpo] at h2p
        have hown := h2p
        refine R_seq ?_
        refine R_region ?_
        refine R_r (D_move rfl) ?_
        refine R_r (D_move rfl) ?_
        refine R_r (D_assign rfl) ?_
        refine R_r (D_assign rfl) ?_
        refine R_nil ?_
        refine R_ret ?_
        refine R_drop (List.nil_sublist _) ?_
        refine R_fin2 rfl rfl rfl ?_
        exact ⟨by rw [tcheck, if_neg hown, ← hpo], rfl, rfl⟩
      ·
        have h2p : ((possE x.value x.marks) = 0) := by simpa using h2
        rw [hpo] at h2p
        have hown := h2p
        refine R_skip ?_
        refine R_seq ?_
        refine R_seq ?_
        refine R_region ?_
        refine R_r (D_fieldAddr fa30_3 rfl) ?_
        refine R_r (D_load rfl (Has.own 0 rfl) (Rd.one Tryz.isAgg28 rfl)) ?_
        refine R_r (D_lenL Tryz.underlying28 rfl) ?_
        refine R_r (D_move rfl) ?_
        refine R_nil ?_
        refine R_block ?_
        refine R_loop (σ := (Nat)) (fun gs => ([(1, S p), (2, I (lv : Int)), (3, P_ b1 0), (48, .slice a x.kids.length c), (49, I (x.kids.length : Int)), (50, I (gs : Int))], M, [.blk b1 (.cells (List.toArray (NodeC.cells (⟨x.name, x.value, x.marks, .slice a x.kids.length c⟩ : NodeC))) 30)])) (fun gs => gs ≤ x.kids.length ∧ Node.checkL x.kids p lv false [] = Node.checkL (x.kids.drop gs) p lv (decide (0 < (gs : Int))) (pvOf x.kids gs)) (fun gs => x.kids.length - gs) 0 ?_ (Env.sub_cons rfl <| Env.sub_cons rfl <| Env.sub_cons rfl <| Env.sub_cons rfl <| Env.sub_cons rfl <| Env.sub_cons rfl <| Env.sub_nil _) rfl rfl ?_
        · show 0 ≤ x.kids.length ∧ Node.checkL x.kids p lv false [] = Node.checkL (x.kids.drop 0) p lv (decide (0 < (0 : Int))) (pvOf x.kids 0); exact ⟨by omega, Node.checkL_start _ _ _⟩
        rintro i hok
        replace hok : i ≤ x.kids.length ∧ Node.checkL x.kids p lv false [] = Node.checkL (x.kids.drop i) p lv (decide (0 < (i : Int))) (pvOf x.kids i) := hok
        show Cx.R _ _ _ [(1, S p), (2, I (lv : Int)), (3, P_ b1 0), (48, .slice a x.kids.length c), (49, I (x.kids.length : Int)), (50, I (i : Int))] M [.blk b1 (.cells (List.toArray (NodeC.cells (⟨x.name, x.value, x.marks, .slice a x.kids.length c⟩ : NodeC))) 30)]
        obtain ⟨hi, hck⟩ := hok
        refine R_seq ?_
        refine R_region ?_
        refine R_r (D_lt rfl rfl) ?_
        refine R_nil ?_
        refine R_seq ?_
        refine R_cond rfl (fun h3 => ?_) (fun h3 => ?_)
        ·
          have h3p := of_decide_eq_true h3
          refine R_skip ?_
          refine R_seq ?_
          refine R_block ?_
          refine R_seq ?_
          refine R_region ?_
          refine R_r (D_move rfl) ?_
          obtain ⟨b2, ob2, csb2, elb2, frb2, rfl, hmb2, hxb2⟩ := hkx.at (i := i) (by first | omega | (simp; omega))
          obtain ⟨x3, hx3⟩ : ∃ e_, x.kids[i]? = some e_ := ⟨_, List.getElem?_eq_getElem (by first | omega | (simp; omega))⟩
          obtain ⟨ksx3, hex3, hkx3⟩ := (hxb2 i x3 hx3).open
          obtain ⟨ax3, cx3, rfl, hcx3, hkx3⟩ := hkx3.sl
          refine R_r (D_indexLn (i) Tryz.underlying28 Tryz.sizeOf30 rfl rfl (by first | rfl | omega) (by first | omega | (simp <;> omega))) ?_
          refine R_r (D_load rfl (Has.mem hmb2) (Rd.elemA (i := i) hex3 Tryz.underlying30 rfl inf30 rfl)) ?_
          refine R_o (E_alloc (NodeC.cells NodeC.zero) Tryz.zeroValue30 rfl (fun b4 => ?_))
          refine R_r (D_assign rfl) ?_
          refine R_o (E_store (cs' := (NodeC.cells (⟨x3.name, x3.value, x3.marks, .slice ax3 x3.kids.length cx3⟩ : NodeC))) 0 rfl rfl rfl (Wr.agg Tryz.sizeOf30 rfl rfl rfl rfl) ?_)
          refine R_nil ?_
          refine R_seq ?_
          refine R_region ?_
          refine R_r (D_move rfl) ?_
          refine R_r (D_addS rfl rfl (by simp; omega)) ?_
          refine R_r (D_fieldAddr fa30_0 rfl) ?_
          refine R_r (D_load rfl (Has.own 0 rfl) (Rd.one Tryz.isAgg9 rfl)) ?_
          refine R_r (D_addS rfl rfl (by have := Node.wt_mem (List.mem_of_getElem? hx3); have := Node.wt_eq x3; simp only [List.length_append, List.length_cons, List.length_nil]; omega)) ?_
          refine R_r (D_assign rfl) ?_
          refine R_nil ?_
          refine R_seq ?_
          refine R_seq ?_
          refine R_region ?_
          refine R_r (D_move rfl) ?_
          refine R_r (D_eq rfl rfl) ?_
          refine R_nil ?_
          refine R_join [(1, S p), (2, I (lv : Int)), (3, P_ b1 0), (9, I (i : Int)), (10, P_ b4 0), (11, S (qpath p x3.name lv)), (48, .slice (some ⟨b2, ob2, none⟩) x.kids.length c), (49, I (x.kids.length : Int)), (50, I (i : Int))] (M' := M) (H' := [.blk b4 (.cells (List.toArray (NodeC.cells (⟨x3.name, x3.value, x3.marks, .slice ax3 x3.kids.length cx3⟩ : NodeC))) 30), .blk b1 (.cells (List.toArray (NodeC.cells (⟨x.name, x.value, x.marks, .slice (some ⟨b2, ob2, none⟩) x.kids.length c⟩ : NodeC))) 30)]) ?_ ?_
          ·
            refine R_cond rfl (fun h4 => ?_) (fun h4 => ?_)
            ·
              have h4p := of_decide_eq_true h4
              refine R_region ?_
              refine R_r (D_fieldAddr fa30_0 rfl) ?_
              refine R_r (D_load rfl (Has.own 0 rfl) (Rd.one Tryz.isAgg9 rfl)) ?_
              refine R_r (D_assign rfl) ?_
              refine R_nil ?_
              exact R_at (Env.sub_cons rfl <| Env.sub_cons rfl <| Env.sub_cons rfl <| Env.sub_cons rfl <| Env.sub_cons rfl <| Env.sub_cons (by show some (S _) = some (S _); rw [qpath, if_neg (show ¬ 0 < (lv : Int) by omega)]) <| Env.sub_cons rfl <| Env.sub_cons rfl <| Env.sub_cons rfl <| Env.sub_nil _)
            ·
              have h4p := of_decide_eq_false h4
              refine R_skip ?_
              exact R_at (Env.sub_cons rfl <| Env.sub_cons rfl <| Env.sub_cons rfl <| Env.sub_cons rfl <| Env.sub_cons rfl <| Env.sub_cons (by show some (S _) = some (S _); rw [qpath, if_pos (show 0 < (lv : Int) by omega)]) <| Env.sub_cons rfl <| Env.sub_cons rfl <| Env.sub_cons rfl <| Env.sub_nil _)
          ·
            refine R_seq ?_
            refine R_seq ?_
            refine R_region ?_
            refine R_r (D_move rfl) ?_
            refine R_r (D_eq rfl rfl) ?_
            refine R_nil ?_
            refine R_cond rfl (fun h4 => ?_) (fun h4 => ?_)
            ·
              have h4p := of_decide_eq_true h4
              refine R_seq ?_
              refine R_region ?_
              refine R_r (D_move rfl) ?_
              refine R_r (D_assign rfl) ?_
              refine R_r (D_assign rfl) ?_
              refine R_nil ?_
              refine R_ret ?_
              refine R_drop (List.nil_sublist _) ?_
              refine R_fin2 rfl rfl rfl ?_
              exact ⟨by rw [tcheck_deep hck hx3 hown (by omega)], rfl, rfl⟩
            ·
              have h4p := of_decide_eq_false h4
              refine R_skip ?_
              refine R_seq ?_
              refine R_seq ?_
              refine R_region ?_
              refine R_r (D_fieldAddr fa30_0 rfl) ?_
              refine R_r (D_load rfl (Has.own 0 rfl) (Rd.one Tryz.isAgg9 rfl)) ?_
              refine R_o (E_callV (v := I (if nameOk x3.name then 0 else 30 : Int)) rfl rfl en110 (fun w hM => Check_C x3.name M w hM (by have := Node.wt_mem (List.mem_of_getElem? hx3); have := Node.wt_eq x3; omega)) ?_)
              refine R_r (D_assign rfl) ?_
              refine R_nil ?_
              refine R_seq ?_
              refine R_region ?_
              refine R_r (D_move rfl) ?_
              refine R_r (D_ne rfl rfl) ?_
              refine R_nil ?_
              refine R_cond rfl (fun h5 => ?_) (fun h5 => ?_)
              ·
                have h5p : ¬ ((if nameOk x3.name then 0 else 30 : Int) = 0) := by simpa using h5
                refine R_seq ?_
                refine R_region ?_
                refine R_r (D_move rfl) ?_
                refine R_r (D_move rfl) ?_
                refine R_r (D_assign rfl) ?_
                refine R_r (D_assign rfl) ?_
                refine R_nil ?_
                refine R_ret ?_
                refine R_drop (List.nil_sublist _) ?_
                refine R_fin2 rfl rfl rfl ?_
                obtain ⟨y, hy⟩ : ∃ y, x.kids[i - 1]? = some y := ⟨_, List.getElem?_eq_getElem (by omega)⟩
                have hne : nameOk x3.name = false := by cases hq : nameOk x3.name with | false => rfl | true => (rw [hq] at h5p; exact absurd rfl h5p)
                exact ⟨by rw [tcheck_e hck hx3 hy hown (by omega) (e1E_name hne) (by decide), hne]; rfl, rfl, rfl⟩
              ·
                have h5p : ((if nameOk x3.name then 0 else 30 : Int) = 0) := by simpa using h5
                refine R_skip ?_
                refine R_seq ?_
                refine R_seq ?_
                obtain ⟨x5, hx5⟩ : ∃ e_, x.kids[i - 1]? = some e_ := ⟨_, List.getElem?_eq_getElem (by first | omega | (simp; omega))⟩
                obtain ⟨ksx5, hex5, hkx5⟩ := (hxb2 (i - 1) x5 hx5).open
                obtain ⟨ax5, cx5, rfl, hcx5, hkx5⟩ := hkx5.sl
                refine R_join [(1, S p), (2, I (lv : Int)), (3, P_ b1 0), (9, I (i : Int)), (10, P_ b4 0), (11, S (qpath p x3.name lv)), (12, I (if nameOk x3.name then 0 else 30 : Int)), (48, .slice (some ⟨b2, ob2, none⟩) x.kids.length c), (49, I (x.kids.length : Int)), (50, I (i : Int)), (64, I (lv : Int)), (65, .bool (decide ((lv : Int) = 64))), (67, P_ b4 0), (68, S x3.name), (69, I (if nameOk x3.name then 0 else 30 : Int)), (70, I (if nameOk x3.name then 0 else 30 : Int)), (71, .bool (!decide ((if nameOk x3.name then 0 else 30 : Int) = 0))), (87, .bool ((decide (0 < (i : Int))) && (Op.bytesLess x3.name x5.name || decide (x3.name = x5.name))))] (M' := M) (H' := [.blk b4 (.cells (List.toArray (NodeC.cells (⟨x3.name, x3.value, x3.marks, .slice ax3 x3.kids.length cx3⟩ : NodeC))) 30), .blk b1 (.cells (List.toArray (NodeC.cells (⟨x.name, x.value, x.marks, .slice (some ⟨b2, ob2, none⟩) x.kids.length c⟩ : NodeC))) 30)]) ?_ ?_
                ·
                  refine Y_region [.blk b4 (.cells (List.toArray (NodeC.cells (⟨x3.name, x3.value, x3.marks, .slice ax3 x3.kids.length cx3⟩ : NodeC))) 30), .blk b1 (.cells (List.toArray (NodeC.cells (⟨x.name, x.value, x.marks, .slice (some ⟨b2, ob2, none⟩) x.kids.length c⟩ : NodeC))) 30)] mixed ?_
                  refine Y_r 0 rfl (D_move rfl) ?_
                  refine Y_r 1 rfl (D_gt rfl rfl) ?_
                  refine Y_r 2 rfl (D_move rfl) ?_
                  refine R_split 76 rfl (fun h6 => ?_) (fun h6 => ?_)
                  ·
                    have h6p := of_decide_eq_true h6
                    refine Y_r 3 rfl (D_fieldAddr fa30_0 rfl) ?_
                    refine Y_r 4 rfl (D_load rfl (Has.own 0 rfl) (Rd.one Tryz.isAgg9 rfl)) ?_
                    refine Y_r 5 rfl (D_fieldAddr fa30_3 rfl) ?_
                    refine Y_r 6 rfl (D_load rfl (Has.own 1 rfl) (Rd.one Tryz.isAgg28 rfl)) ?_
                    refine Y_r 7 rfl (D_move rfl) ?_
                    refine Y_r 8 rfl (D_subI rfl rfl rfl (by omega) (by omega)) ?_
                    refine Y_r 9 rfl (D_indexLn (i - 1) Tryz.underlying28 Tryz.sizeOf30 rfl rfl (by first | rfl | omega) (by first | omega | (simp <;> omega))) ?_
                    refine Y_r 10 rfl (D_fieldAddr fa30_0 rfl) ?_
                    refine Y_r 11 rfl (D_load rfl (Has.mem hmb2) (Rd.elem0 (i := (i - 1)) hex5 Tryz.isAgg9 rfl rfl)) ?_
                    refine Y_r 12 rfl (D_leS rfl rfl) ?_
                    refine Y_r 13 rfl (D_pick true rfl rfl) ?_
                    refine Y_nil ?_ (PMem.le_refl _) (fun _ h => List.Sublist.subset (.cons_cons _ (.cons_cons _ (.slnil))) h)
                    exact R_at (Env.sub_cons rfl <| Env.sub_cons rfl <| Env.sub_cons rfl <| Env.sub_cons rfl <| Env.sub_cons rfl <| Env.sub_cons rfl <| Env.sub_cons rfl <| Env.sub_cons rfl <| Env.sub_cons rfl <| Env.sub_cons rfl <| Env.sub_cons rfl <| Env.sub_cons rfl <| Env.sub_cons rfl <| Env.sub_cons rfl <| Env.sub_cons rfl <| Env.sub_cons rfl <| Env.sub_cons rfl <| Env.sub_cons (by first | (show some (Value.bool _) = some (Value.bool _); simp only [h6, Bool.true_and, Bool.false_and, Bool.true_or, Bool.false_or, Bool.and_true, Bool.and_false, Bool.or_true, Bool.or_false]; done) | (show some (Value.bool _) = some (Value.bool _); (try rw [h6]); first | done | rfl) | simp [h6, Env.find]) <| Env.sub_nil _)
                  ·
                    have h6p := of_decide_eq_false h6
                    refine Y_skip 3 rfl rfl ?_
                    refine Y_skip 4 rfl rfl ?_
                    refine Y_skip 5 rfl rfl ?_
                    refine Y_skip 6 rfl rfl ?_
                    refine Y_skip 7 rfl rfl ?_
                    refine Y_skip 8 rfl rfl ?_
                    refine Y_skip 9 rfl rfl ?_
                    refine Y_skip 10 rfl rfl ?_
                    refine Y_skip 11 rfl rfl ?_
                    refine Y_skip 12 rfl rfl ?_
                    refine Y_r 13 rfl (D_pick false rfl rfl) ?_
                    refine Y_nil ?_ (PMem.le_refl _) (fun _ h => List.Sublist.subset (.cons_cons _ (.cons_cons _ (.slnil))) h)
                    exact R_at (Env.sub_cons rfl <| Env.sub_cons rfl <| Env.sub_cons rfl <| Env.sub_cons rfl <| Env.sub_cons rfl <| Env.sub_cons rfl <| Env.sub_cons rfl <| Env.sub_cons rfl <| Env.sub_cons rfl <| Env.sub_cons rfl <| Env.sub_cons rfl <| Env.sub_cons rfl <| Env.sub_cons rfl <| Env.sub_cons rfl <| Env.sub_cons rfl <| Env.sub_cons rfl <| Env.sub_cons rfl <| Env.sub_cons (by first | (show some (Value.bool _) = some (Value.bool _); simp only [h6, Bool.true_and, Bool.false_and, Bool.true_or, Bool.false_or, Bool.and_true, Bool.and_false, Bool.or_true, Bool.or_false]; done) | (show some (Value.bool _) = some (Value.bool _); (try rw [h6]); first | done | rfl) | simp [h6, Env.find]) <| Env.sub_nil _)
                ·
                  refine R_cond rfl (fun h6 => ?_) (fun h6 => ?_)
                  ·
                    have h6p := h6; simp only [Bool.and_eq_true, Bool.or_eq_true, Bool.not_eq_true', Bool.and_eq_false_imp, Bool.or_eq_false_iff, Bool.not_eq_false', decide_eq_true_eq, decide_eq_false_iff_not] at h6p
                    refine R_seq ?_
                    refine R_region ?_
                    refine R_r (D_move rfl) ?_
                    refine R_r (D_assign rfl) ?_
                    refine R_r (D_assign rfl) ?_
                    refine R_nil ?_
                    refine R_ret ?_
                    refine R_drop (List.nil_sublist _) ?_
                    refine R_fin2 rfl rfl rfl ?_
                    have hne : nameOk x3.name = true := by cases hq : nameOk x3.name with | true => rfl | false => (rw [hq] at h5p; exact absurd h5p (by decide))
                    exact ⟨by rw [tcheck_e hck hx3 hx5 hown (by omega) (e1E_order hne h6) (by decide)], rfl, rfl⟩
                  ·
                    have h6p := h6; simp only [Bool.and_eq_true, Bool.or_eq_true, Bool.not_eq_true', Bool.and_eq_false_imp, Bool.or_eq_false_iff, Bool.not_eq_false', decide_eq_true_eq, decide_eq_false_iff_not] at h6p
                    refine R_skip ?_
                    refine R_seq ?_
                    refine R_region ?_
                    refine R_r (D_load rfl (Has.own 0 rfl) (rd30_NodeC_0 (⟨x3.name, x3.value, x3.marks, .slice ax3 x3.kids.length cx3⟩ : NodeC))) ?_
                    refine R_r (D_move rfl) ?_
                    refine R_r (D_move rfl) ?_
                    refine R_r (D_add rfl rfl rfl (by omega) (by omega)) ?_
                    refine R_o (E_callV (v := .tuple #[S (tcheck x3 (qpath p x3.name lv) (lv + 1)).1, I (tcheck x3 (qpath p x3.name lv) (lv + 1)).2]) rfl rfl en103 (fun w hM => ih x3 (Node.size_kid (List.mem_of_getElem? hx3)) ax3 cx3 (qpath p x3.name lv) (lv + 1) M w hM (by omega) hkx3 (by have := Node.wt_mem (List.mem_of_getElem? hx3); have := qpath_len p x3.name lv; have := Node.wt_eq x3; omega) (by omega)) ?_)
                    refine R_r (D_move rfl) ?_
                    refine R_r (D_extract rfl rfl) ?_
                    refine R_r (D_extract rfl rfl) ?_
                    refine R_r (D_assign rfl) ?_
                    refine R_r (D_assign rfl) ?_
                    refine R_nil ?_
                    refine R_seq ?_
                    refine R_region ?_
                    refine R_r (D_move rfl) ?_
                    refine R_r (D_ne rfl rfl) ?_
                    refine R_nil ?_
                    refine R_cond rfl (fun h7 => ?_) (fun h7 => ?_)
                    ·
                      have h7p : ¬ (((tcheck x3 (qpath p x3.name lv) (lv + 1)).2) = 0) := by simpa using h7
                      refine R_seq ?_
                      refine R_region ?_
                      refine R_r (D_move rfl) ?_
                      refine R_r (D_move rfl) ?_
                      refine R_r (D_assign rfl) ?_
                      refine R_r (D_assign rfl) ?_
                      refine R_nil ?_
                      refine R_ret ?_
                      refine R_drop (List.nil_sublist _) ?_
                      refine R_fin2 rfl rfl rfl ?_
                      have hne : nameOk x3.name = true := by cases hq : nameOk x3.name with | true => rfl | false => (rw [hq] at h5p; exact absurd h5p (by decide))
                      refine ⟨?_, rfl, rfl⟩
                      show Value.tuple #[S ((tcheck x3 (qpath p x3.name lv) (lv + 1)).1), I ((tcheck x3 (qpath p x3.name lv) (lv + 1)).2)] = _
                      rw [tcheck_kid hck hx3 hx5 hown (by omega) (e1E_ok hne h6) h7p]
                    ·
                      have h7p : (((tcheck x3 (qpath p x3.name lv) (lv + 1)).2) = 0) := by simpa using h7
                      refine R_skip ?_
                      refine R_region ?_
                      refine R_r (D_add rfl rfl rfl (by omega) (by omega)) ?_
                      refine R_r (D_move rfl) ?_
                      refine R_nil ?_
                      refine R_drop (H' := [.blk b1 (.cells (List.toArray (NodeC.cells (⟨x.name, x.value, x.marks, .slice (some ⟨b2, ob2, none⟩) x.kids.length c⟩ : NodeC))) 30)]) (.cons _ (List.Sublist.refl _)) ?_
                      exact R_back (i + 1) (by show (i + 1) ≤ x.kids.length ∧ Node.checkL x.kids p lv false [] = Node.checkL (x.kids.drop (i + 1)) p lv (decide (0 < ((i + 1) : Int))) (pvOf x.kids (i + 1)); have hne : nameOk x3.name = true := (by cases hq : nameOk x3.name with | true => rfl | false => (rw [hq] at h5p; exact absurd h5p (by decide))); exact ⟨by omega, tcheck_step hck hx3 hx5 (by omega) (e1E_ok hne h6) h7p⟩) (by show x.kids.length - (i + 1) < x.kids.length - i; omega) (Env.sub_cons rfl <| Env.sub_cons rfl <| Env.sub_cons rfl <| Env.sub_cons rfl <| Env.sub_cons rfl <| Env.sub_cons rfl <| Env.sub_nil _) rfl rfl
        ·
          have h3p := of_decide_eq_false h3
          refine R_exit rfl ?_
          refine R_seq ?_
          refine R_region ?_
          refine R_r (D_assign rfl) ?_
          refine R_r (D_assign rfl) ?_
          refine R_nil ?_
          refine R_ret ?_
          refine R_drop (List.nil_sublist _) ?_
          refine R_fin2 rfl rfl rfl ?_
          exact ⟨by rw [tcheck, if_pos hown, Node.checkB_eq, hck, List.drop_eq_nil_of_le (by omega)]; rfl, rfl, rfl⟩

end Go.Proofs.YtgmomhdammdjgaaGreat
