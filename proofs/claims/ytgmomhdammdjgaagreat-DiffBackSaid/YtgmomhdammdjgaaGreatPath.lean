/-
  The program's paths (package path), walked: they answer as the document's do. Conditions: texts of at most 2^30 bytes.
-/
import Derived.Test.YtgmomhdammdjgaaGreatRoom
set_option linter.unusedVariables false
set_option linter.unusedSimpArgs false
set_option maxRecDepth 20000
set_option maxHeartbeats 4000000
namespace Go.Proofs.YtgmomhdammdjgaaGreat
open Go Go.Proofs Go.RowKit

theorem en109 : ∀ (args : Array Value) (w : World), (callFunc 109 args).run Tryz.prog w = .ok (.enter 109 args) w := enters_fn Tryz.func109 (by kernel_rfl) rfl
theorem en110 : ∀ (args : Array Value) (w : World), (callFunc 110 args).run Tryz.prog w = .ok (.enter 110 args) w := enters_fn Tryz.func110 (by kernel_rfl) rfl
theorem en86 : ∀ (args : Array Value) (w : World), (callFunc 86 args).run Tryz.prog w = .ok (.enter 86 args) w := enters_fn Tryz.func86 (by kernel_rfl) rfl
theorem en141 : ∀ (args : Array Value) (w : World), (callFunc 141 args).run Tryz.prog w = .ok (.enter 141 args) w := enters_fn Tryz.func141 (by kernel_rfl) rfl
theorem en124 : ∀ (args : Array Value) (w : World), (callFunc 124 args).run Tryz.prog w = .ok (.enter 124 args) w := enters_fn Tryz.func124 (by kernel_rfl) rfl
theorem en111 : ∀ (args : Array Value) (w : World), (callFunc 111 args).run Tryz.prog w = .ok (.enter 111 args) w := enters_fn Tryz.func111 (by kernel_rfl) rfl
theorem en87 : ∀ (args : Array Value) (w : World), (callFunc 87 args).run Tryz.prog w = .ok (.enter 87 args) w := enters_fn Tryz.func87 (by kernel_rfl) rfl
theorem en120 : ∀ (args : Array Value) (w : World), (callFunc 120 args).run Tryz.prog w = .ok (.enter 120 args) w := enters_fn Tryz.func120 (by kernel_rfl) rfl
theorem en98 : ∀ (args : Array Value) (w : World), (callFunc 98 args).run Tryz.prog w = .ok (.enter 98 args) w := enters_fn Tryz.func98 (by kernel_rfl) rfl
theorem en91 : ∀ (args : Array Value) (w : World), (callFunc 91 args).run Tryz.prog w = .ok (.enter 91 args) w := enters_fn Tryz.func91 (by kernel_rfl) rfl
theorem pieces_C (s : Str) (M : PMem) (w : World) (hM : Lies M w) (hs : s.length ≤ 1073741824) : Ends Tryz.prog 109 [S s] w [] M (fun v M' H' => H' = [] ∧ StrsAt M' v (pieces s)) := by
  refine Ends.enter (H := []) Tryz.func109 rfl Tryz.ntmps109 rfl (St.start hM) ?_
  refine R_seq ?_
  refine R_region ?_
  refine R_r (D_assign rfl) ?_
  refine R_nil ?_
  refine R_seq ?_
  refine R_seq ?_
  refine R_region ?_
  refine R_r (D_move rfl) ?_
  refine R_r (D_eqS rfl rfl) ?_
  refine R_nil ?_
  refine R_cond rfl (fun h1 => ?_) (fun h1 => ?_)
  ·
    have h1p := of_decide_eq_true h1
    refine R_seq ?_
    refine R_region ?_
    refine R_r (D_assign rfl) ?_
    refine R_nil ?_
    refine R_ret ?_
    refine R_fin1 rfl rfl ?_
    exact ⟨rfl, by subst h1p; exact Sl.nil _ _ _⟩
  ·
    have h1p := of_decide_eq_false h1
    refine R_skip ?_
    refine R_seq ?_
    refine R_region ?_
    refine R_r (D_assign rfl) ?_
    refine R_nil ?_
    refine R_seq ?_
    refine R_region ?_
    refine R_r (D_assign rfl) ?_
    refine R_nil ?_
    refine R_seq ?_
    refine R_seq ?_
    refine R_region ?_
    refine R_r (D_move rfl) ?_
    refine R_o (E_range Tryz.underlying9 rfl (fun b1 => ?_))
    refine R_nil ?_
    refine R_block ?_
    refine R_row0 9 1 ?_
    refine R_loop (σ := (Value) × (List Str) × (Nat) × (Nat)) (fun gs => ([(0, S s), (3, gs.1), (4, I (gs.2.2.1 : Int)), (10, P_ b1 0)], M, [.row gs.1 9 1 gs.2.1.length (gs.2.1.flatMap fun q => [S q]), .blk b1 (.stringIter ⟨List.toArray s⟩ gs.2.2.2)])) (fun gs => PInv s gs.2.1 gs.2.2.1 gs.2.2.2) (fun gs => s.length - gs.2.2.2) (.slice none 0 0, [], 0, 0) ?_ (Env.sub_cons rfl <| Env.sub_cons rfl <| Env.sub_cons rfl <| Env.sub_cons rfl <| Env.sub_nil _) rfl rfl ?_
    · show PInv s ([]) 0 0; exact PInv.start s
    rintro ⟨v, l, f, i⟩ hok
    replace hok : PInv s l f i := hok
    show Cx.R _ _ _ [(0, S s), (3, v), (4, I (f : Int)), (10, P_ b1 0)] M [.row v 9 1 l.length (l.flatMap fun q => [S q]), .blk b1 (.stringIter ⟨List.toArray s⟩ i)]
    have hfi := hok.fi
    have his := hok.is_
    have hlf := hok.lf
    refine R_seq ?_
    refine R_region ?_
    refine R_o (E_next 1 rfl rfl (fun cn2 wn2 hln2 hdn2 => ?_) (fun hgn2 => ?_))
    ·
      refine R_r (D_extract rfl rfl) ?_
      refine R_nil ?_
      refine R_seq ?_
      refine R_cond_t rfl ?_
      refine R_skip ?_
      refine R_block ?_
      refine R_seq ?_
      refine R_region ?_
      refine R_r (D_extract rfl rfl) ?_
      refine R_r (D_extract rfl rfl) ?_
      refine R_r (D_assign rfl) ?_
      refine R_r (D_assign rfl) ?_
      refine R_nil ?_
      refine R_seq ?_
      refine R_region ?_
      refine R_r (D_move rfl) ?_
      refine R_r (D_eq rfl rfl) ?_
      refine R_nil ?_
      refine R_cond rfl (fun h2 => ?_) (fun h2 => ?_)
      ·
        have h2p := of_decide_eq_true h2
        refine R_seq ?_
        refine R_region ?_
        refine R_r (D_move rfl) ?_
        refine R_r (D_move rfl) ?_
        refine R_r (D_move rfl) ?_
        refine R_r (D_move rfl) ?_
        refine R_r (D_sliceS Tryz.underlying9 rfl rfl rfl (by omega) (by omega) (by omega)) ?_
        refine R_o (E_buildSlice (ps := [(0, .tmp 21)]) (vs := [(0, S ((s.drop (f : Int).toNat).take ((i : Int).toNat - (f : Int).toNat)))]) (cs := [S ((s.drop (f : Int).toNat).take ((i : Int).toNat - (f : Int).toNat))]) rfl (bs109_1_str _) (fun b3 => ?_))
        refine R_o (E_append (news := [S ((s.drop (f : Int).toNat).take ((i : Int).toNat - (f : Int).toNat))]) 1 Tryz.underlying109 el9 rfl rfl rfl (Has.own 0 rfl) rfl rfl (by intro u hu; simp at hu; (first | (rcases hu with rfl | hu) | subst hu) <;> rfl) (by unfold maxLen; omega) (by omega) (fun v4 hv4 => ?_))
        refine R_r (D_assign rfl) ?_
        refine R_nil ?_
        refine R_region ?_
        refine R_r (D_move rfl) ?_
        refine R_r (D_add rfl rfl rfl (by omega) (by omega)) ?_
        refine R_r (D_assign rfl) ?_
        refine R_nil ?_
        refine R_drop (H' := [.row v4 9 1 (l.length + 1) ((l.flatMap fun q => [S q]) ++ [S ((s.drop (f : Int).toNat).take ((i : Int).toNat - (f : Int).toNat))]), .blk b1 (.stringIter ⟨List.toArray s⟩ (i + wn2))]) (.cons _ (List.Sublist.refl _)) ?_
        exact R_back (v4, l ++ [(s.drop f).take (i - f)], i + 1, i + wn2) (by show PInv s (l ++ [(s.drop f).take (i - f)]) (i + 1) (i + wn2); exact hok.runeCut hdn2 h2p) (by show s.length - (i + wn2) < s.length - i; have := hdn2.lt; omega) (Env.sub_cons rfl <| Env.sub_cons rfl <| Env.sub_cons rfl <| Env.sub_cons rfl <| Env.sub_nil _) rfl (by simp)
      ·
        have h2p := of_decide_eq_false h2
        refine R_skip ?_
        exact R_back (v, l, f, i + wn2) (by show PInv s l f (i + wn2); exact hok.runeKeep hdn2 h2p) (by show s.length - (i + wn2) < s.length - i; have := hdn2.lt; omega) (Env.sub_cons rfl <| Env.sub_cons rfl <| Env.sub_cons rfl <| Env.sub_cons rfl <| Env.sub_nil _) rfl (by simp)
    ·
      refine R_r (D_extract rfl rfl) ?_
      refine R_nil ?_
      refine R_seq ?_
      refine R_cond_f rfl ?_
      refine R_exit rfl ?_
      refine R_seq ?_
      refine R_region ?_
      refine R_r (D_move rfl) ?_
      refine R_r (D_move rfl) ?_
      refine R_r (D_move rfl) ?_
      refine R_r (D_sliceS Tryz.underlying9 rfl rfl rfl (by omega) (by omega) (by omega)) ?_
      refine R_o (E_buildSlice (ps := [(0, .tmp 29)]) (vs := [(0, S ((s.drop (f : Int).toNat).take ((s.length : Int).toNat - (f : Int).toNat)))]) (cs := [S ((s.drop (f : Int).toNat).take ((s.length : Int).toNat - (f : Int).toNat))]) rfl (bs109_1_str _) (fun b5 => ?_))
      refine R_o (E_append (news := [S ((s.drop (f : Int).toNat).take ((s.length : Int).toNat - (f : Int).toNat))]) 1 Tryz.underlying109 el9 rfl rfl rfl (Has.own 0 rfl) rfl rfl (by intro u hu; simp at hu; (first | (rcases hu with rfl | hu) | subst hu) <;> rfl) (by unfold maxLen; omega) (by omega) (fun v6 hv6 => ?_))
      refine R_r (D_assign rfl) ?_
      refine R_nil ?_
      refine R_ret ?_
      refine R_drop (H' := [.row v6 9 1 (l.length + 1) ((l.flatMap fun q => [S q]) ++ [S ((s.drop (f : Int).toNat).take ((s.length : Int).toNat - (f : Int).toNat))])]) (.cons _ (.cons_cons _ (.cons _ (.slnil)))) ?_
      refine R_freezeRow (fun M7 hleM7 hrowM7 => ?_)
      refine R_fin1 rfl rfl ?_
      obtain rfl : i = s.length := by omega
      have hl := hok.last
      have e1 : (l.flatMap fun q => [S q]) ++ [S ((s.drop (f : Int).toNat).take ((s.length : Int).toNat - (f : Int).toNat))] = (l ++ [s.drop f]).flatMap fun q => [S q] := by simp [List.take_of_length_le]
      rw [e1] at hrowM7
      have := (hrowM7.sl (fun q => [S q]) (fun _ => rfl) (Nat.one_pos)).2
      exact ⟨rfl, by rw [pieces, if_neg h1p, hl]; exact this⟩

theorem Check_C (s : Str) (M : PMem) (w : World) (hM : Lies M w) (hs : s.length ≤ 4611686018427387904) : Ends Tryz.prog 110 [S s] w [] M (fun v' M' H' => v' = I (if nameOk s then 0 else 30) ∧ M' = M ∧ H' = []) := by
  refine Ends.enter (H := []) Tryz.func110 rfl Tryz.ntmps110 rfl (St.start hM) ?_
  refine R_seq ?_
  refine R_region ?_
  refine R_r (D_assign rfl) ?_
  refine R_nil ?_
  refine R_seq ?_
  refine R_seq ?_
  refine R_join [(0, S s), (2, I 0), (20, .bool ((((decide ((s.length : Int) < 1)) || (decide (255 < (s.length : Int)))) || (decide (s = ([46] : Str)))) || (decide (s = ([46, 46] : Str)))))] (M' := M) (H' := []) ?_ ?_
  ·
    refine R_region ?_
    refine R_r (D_move rfl) ?_
    refine R_r (D_lenS Tryz.underlying9 rfl) ?_
    refine R_r (D_lt rfl rfl) ?_
    refine R_r (D_move rfl) ?_
    refine R_split 8 rfl (fun h1 => ?_) (fun h1 => ?_)
    ·
      have h1p := of_decide_eq_true h1
      refine R_skipop rfl rfl rfl ?_
      refine R_skipop rfl rfl rfl ?_
      refine R_skipop rfl rfl rfl ?_
      refine R_r (D_pick true rfl rfl) ?_
      refine R_r (D_move rfl) ?_
      refine R_skipop rfl rfl rfl ?_
      refine R_skipop rfl rfl rfl ?_
      refine R_r (D_pick true rfl rfl) ?_
      refine R_r (D_move rfl) ?_
      refine R_skipop rfl rfl rfl ?_
      refine R_skipop rfl rfl rfl ?_
      refine R_r (D_pick true rfl rfl) ?_
      refine R_nil ?_
      exact R_at (Env.sub_cons rfl <| Env.sub_cons rfl <| Env.sub_cons (by first | (show some (Value.bool _) = some (Value.bool _); simp only [h1, Bool.true_and, Bool.false_and, Bool.true_or, Bool.false_or, Bool.and_true, Bool.and_false, Bool.or_true, Bool.or_false]; done) | (show some (Value.bool _) = some (Value.bool _); (try rw [h1]); first | done | rfl) | simp [h1, Env.find]) <| Env.sub_nil _)
    ·
      have h1p := of_decide_eq_false h1
      refine R_r (D_move rfl) ?_
      refine R_r (D_lenS Tryz.underlying9 rfl) ?_
      refine R_r (D_gt rfl rfl) ?_
      refine R_r (D_pick false rfl rfl) ?_
      refine R_r (D_move rfl) ?_
      refine R_split 13 rfl (fun h2 => ?_) (fun h2 => ?_)
      ·
        have h2p := of_decide_eq_true h2
        refine R_skipop rfl rfl rfl ?_
        refine R_skipop rfl rfl rfl ?_
        refine R_r (D_pick true rfl rfl) ?_
        refine R_r (D_move rfl) ?_
        refine R_skipop rfl rfl rfl ?_
        refine R_skipop rfl rfl rfl ?_
        refine R_r (D_pick true rfl rfl) ?_
        refine R_nil ?_
        exact R_at (Env.sub_cons rfl <| Env.sub_cons rfl <| Env.sub_cons (by first | (show some (Value.bool _) = some (Value.bool _); simp only [h1, h2, Bool.true_and, Bool.false_and, Bool.true_or, Bool.false_or, Bool.and_true, Bool.and_false, Bool.or_true, Bool.or_false]; done) | (show some (Value.bool _) = some (Value.bool _); (try rw [h1]); (try rw [h2]); first | done | rfl) | simp [h1, h2, Env.find]) <| Env.sub_nil _)
      ·
        have h2p := of_decide_eq_false h2
        refine R_r (D_move rfl) ?_
        refine R_r (D_eqS rfl rfl) ?_
        refine R_r (D_pick false rfl rfl) ?_
        refine R_r (D_move rfl) ?_
        refine R_split 17 rfl (fun h3 => ?_) (fun h3 => ?_)
        ·
          have h3p := of_decide_eq_true h3
          refine R_skipop rfl rfl rfl ?_
          refine R_skipop rfl rfl rfl ?_
          refine R_r (D_pick true rfl rfl) ?_
          refine R_nil ?_
          exact R_at (Env.sub_cons rfl <| Env.sub_cons rfl <| Env.sub_cons (by first | (show some (Value.bool _) = some (Value.bool _); simp only [h1, h2, h3, Bool.true_and, Bool.false_and, Bool.true_or, Bool.false_or, Bool.and_true, Bool.and_false, Bool.or_true, Bool.or_false]; done) | (show some (Value.bool _) = some (Value.bool _); (try rw [h1]); (try rw [h2]); (try rw [h3]); first | done | rfl) | simp [h1, h2, h3, Env.find]) <| Env.sub_nil _)
        ·
          have h3p := of_decide_eq_false h3
          refine R_r (D_move rfl) ?_
          refine R_r (D_eqS rfl rfl) ?_
          refine R_r (D_pick false rfl rfl) ?_
          refine R_nil ?_
          exact R_at (Env.sub_cons rfl <| Env.sub_cons rfl <| Env.sub_cons (by first | (show some (Value.bool _) = some (Value.bool _); simp only [h1, h2, h3, Bool.true_and, Bool.false_and, Bool.true_or, Bool.false_or, Bool.and_true, Bool.and_false, Bool.or_true, Bool.or_false]; done) | (show some (Value.bool _) = some (Value.bool _); (try rw [h1]); (try rw [h2]); (try rw [h3]); first | done | rfl) | simp [h1, h2, h3, Env.find]) <| Env.sub_nil _)
  ·
    refine R_cond rfl (fun h1 => ?_) (fun h1 => ?_)
    ·
      have h1p := h1; simp only [Bool.and_eq_true, Bool.or_eq_true, Bool.not_eq_true', Bool.and_eq_false_imp, Bool.or_eq_false_iff, Bool.not_eq_false', decide_eq_true_eq, decide_eq_false_iff_not] at h1p
      refine R_seq ?_
      refine R_region ?_
      refine R_r (D_assign rfl) ?_
      refine R_nil ?_
      refine R_ret ?_
      refine R_fin1 rfl rfl ?_
      exact ⟨by rw [nameOk_early h1]; rfl, rfl, rfl⟩
    ·
      have h1p := h1; simp only [Bool.and_eq_true, Bool.or_eq_true, Bool.not_eq_true', Bool.and_eq_false_imp, Bool.or_eq_false_iff, Bool.not_eq_false', decide_eq_true_eq, decide_eq_false_iff_not] at h1p
      refine R_skip ?_
      refine R_seq ?_
      refine R_seq ?_
      refine R_region ?_
      refine R_r (D_move rfl) ?_
      refine R_o (E_range Tryz.underlying9 rfl (fun b1 => ?_))
      refine R_nil ?_
      refine R_block ?_
      refine R_loop (σ := (Nat)) (fun gs => ([(22, P_ b1 0)], M, [.blk b1 (.stringIter ⟨List.toArray s⟩ gs)])) (fun gs => gs ≤ s.length ∧ (s.take gs).all (fun c => !decide (c = 47) && !decide (c = 0)) = true) (fun gs => s.length - gs) 0 ?_ (Env.sub_cons rfl <| Env.sub_nil _) rfl rfl ?_
      · show 0 ≤ s.length ∧ (s.take 0).all (fun c => !decide (c = 47) && !decide (c = 0)) = true; exact ⟨by omega, by simp⟩
      rintro i hok
      replace hok : i ≤ s.length ∧ (s.take i).all (fun c => !decide (c = 47) && !decide (c = 0)) = true := hok
      show Cx.R _ _ _ [(22, P_ b1 0)] M [.blk b1 (.stringIter ⟨List.toArray s⟩ i)]
      obtain ⟨hi, hall⟩ := hok
      refine R_seq ?_
      refine R_region ?_
      refine R_o (E_next 0 rfl rfl (fun cn2 wn2 hln2 hdn2 => ?_) (fun hgn2 => ?_))
      ·
        refine R_r (D_extract rfl rfl) ?_
        refine R_nil ?_
        refine R_seq ?_
        refine R_cond_t rfl ?_
        refine R_skip ?_
        refine R_block ?_
        refine R_seq ?_
        refine R_region ?_
        refine R_r (D_extract rfl rfl) ?_
        refine R_r (D_assign rfl) ?_
        refine R_nil ?_
        refine R_seq ?_
        refine R_join [(4, .int .i32 (cn2 : Int)), (22, P_ b1 0), (23, .tuple #[.bool true, I (i : Int), .int .i32 (cn2 : Int)]), (24, .bool true), (25, .int .i32 (cn2 : Int)), (31, .bool ((decide ((cn2 : Int) = 47)) || (decide ((cn2 : Int) = 0))))] (M' := M) (H' := [.blk b1 (.stringIter ⟨List.toArray s⟩ (i + wn2))]) ?_ ?_
        ·
          refine R_region ?_
          refine R_r (D_move rfl) ?_
          refine R_r (D_eq rfl rfl) ?_
          refine R_r (D_move rfl) ?_
          refine R_split 28 rfl (fun h2 => ?_) (fun h2 => ?_)
          ·
            have h2p := of_decide_eq_true h2
            refine R_skipop rfl rfl rfl ?_
            refine R_skipop rfl rfl rfl ?_
            refine R_r (D_pick true rfl rfl) ?_
            refine R_nil ?_
            exact R_at (Env.sub_cons rfl <| Env.sub_cons rfl <| Env.sub_cons rfl <| Env.sub_cons rfl <| Env.sub_cons rfl <| Env.sub_cons (by first | (show some (Value.bool _) = some (Value.bool _); simp only [h2, Bool.true_and, Bool.false_and, Bool.true_or, Bool.false_or, Bool.and_true, Bool.and_false, Bool.or_true, Bool.or_false]; done) | (show some (Value.bool _) = some (Value.bool _); (try rw [h2]); first | done | rfl) | simp [h2, Env.find]) <| Env.sub_nil _)
          ·
            have h2p := of_decide_eq_false h2
            refine R_r (D_move rfl) ?_
            refine R_r (D_eq rfl rfl) ?_
            refine R_r (D_pick false rfl rfl) ?_
            refine R_nil ?_
            exact R_at (Env.sub_cons rfl <| Env.sub_cons rfl <| Env.sub_cons rfl <| Env.sub_cons rfl <| Env.sub_cons rfl <| Env.sub_cons (by first | (show some (Value.bool _) = some (Value.bool _); simp only [h2, Bool.true_and, Bool.false_and, Bool.true_or, Bool.false_or, Bool.and_true, Bool.and_false, Bool.or_true, Bool.or_false]; done) | (show some (Value.bool _) = some (Value.bool _); (try rw [h2]); first | done | rfl) | simp [h2, Env.find]) <| Env.sub_nil _)
        ·
          refine R_cond rfl (fun h2 => ?_) (fun h2 => ?_)
          ·
            have h2p := h2; simp only [Bool.and_eq_true, Bool.or_eq_true, Bool.not_eq_true', Bool.and_eq_false_imp, Bool.or_eq_false_iff, Bool.not_eq_false', decide_eq_true_eq, decide_eq_false_iff_not] at h2p
            refine R_seq ?_
            refine R_region ?_
            refine R_r (D_assign rfl) ?_
            refine R_nil ?_
            refine R_ret ?_
            refine R_drop (List.nil_sublist _) ?_
            refine R_fin1 rfl rfl ?_
            exact ⟨by rw [runeBad hdn2 h2p]; rfl, rfl, rfl⟩
          ·
            have h2p := h2; simp only [Bool.and_eq_true, Bool.or_eq_true, Bool.not_eq_true', Bool.and_eq_false_imp, Bool.or_eq_false_iff, Bool.not_eq_false', decide_eq_true_eq, decide_eq_false_iff_not] at h2p
            refine R_skip ?_
            exact R_back (i + wn2) (by show (i + wn2) ≤ s.length ∧ (s.take (i + wn2)).all (fun c => !decide (c = 47) && !decide (c = 0)) = true; exact ⟨by have := hdn2.lt; omega, runeOk hall hdn2 h2p.1 h2p.2⟩) (by show s.length - (i + wn2) < s.length - i; have := hdn2.lt; omega) (Env.sub_cons rfl <| Env.sub_nil _) rfl rfl
      ·
        refine R_r (D_extract rfl rfl) ?_
        refine R_nil ?_
        refine R_seq ?_
        refine R_cond_f rfl ?_
        refine R_exit rfl ?_
        refine R_seq ?_
        refine R_region ?_
        refine R_r (D_assign rfl) ?_
        refine R_nil ?_
        refine R_ret ?_
        refine R_drop (List.nil_sublist _) ?_
        refine R_fin1 rfl rfl ?_
        exact ⟨by rw [nameOk_good h1 (by rw [List.take_of_length_le (by omega)] at hall; exact hall)]; rfl, rfl, rfl⟩

theorem Split_C (s : Str) (most : Int) (M : PMem) (w : World) (hM : Lies M w) (hs : s.length ≤ 1073741824) : Ends Tryz.prog 86 [S s, I most] w [] M (fun v M' H' => H' = [] ∧ ∃ x, v = .tuple #[x, I (splitP s most).2] ∧ StrsAt M' x (splitP s most).1) := by
  have hpc := pieces_count s
  refine Ends.enter (H := []) Tryz.func86 rfl Tryz.ntmps86 rfl (St.start hM) ?_
  refine R_seq ?_
  refine R_region ?_
  refine R_r (D_assign rfl) ?_
  refine R_r (D_assign rfl) ?_
  refine R_nil ?_
  refine R_seq ?_
  refine R_region ?_
  refine R_r (D_move rfl) ?_
  refine R_o (E_callP rfl rfl en109 (fun w hM => pieces_C s M w hM (by omega)) (fun vr1 Mr1 Hr1 hler1 hpr1 => ?_))
  obtain ⟨rfl, hpr1⟩ := hpr1
  obtain ⟨ar1, cr1, rfl, hcr1, hsr1⟩ := hpr1.op
  refine R_r (D_assign rfl) ?_
  refine R_nil ?_
  refine R_seq ?_
  refine R_seq ?_
  refine R_region ?_
  refine R_r (D_move rfl) ?_
  refine R_r (D_lenL Tryz.underlying109 rfl) ?_
  refine R_r (D_move rfl) ?_
  refine R_r (D_max rfl rfl) ?_
  refine R_r (D_gt rfl rfl) ?_
  refine R_nil ?_
  refine R_cond rfl (fun h1 => ?_) (fun h1 => ?_)
  ·
    have h1p := of_decide_eq_true h1
    refine R_seq ?_
    refine R_region ?_
    refine R_r (D_assign rfl) ?_
    refine R_r (D_assign rfl) ?_
    refine R_nil ?_
    refine R_ret ?_
    refine R_fin2 rfl rfl rfl ?_
    exact ⟨rfl, _, by rw [splitP, if_pos h1p], by rw [splitP, if_pos h1p]; exact Sl.nil _ _ _⟩
  ·
    have h1p := of_decide_eq_false h1
    refine R_skip ?_
    refine R_seq ?_
    refine R_seq ?_
    refine R_region ?_
    refine R_r (D_move rfl) ?_
    refine R_r (D_lenL Tryz.underlying109 rfl) ?_
    refine R_r (D_move rfl) ?_
    refine R_nil ?_
    refine R_block ?_
    refine R_loop (σ := (Nat)) (fun gs => ([(6, .slice ar1 ((pieces s).length) cr1), (17, .slice ar1 ((pieces s).length) cr1), (18, I ((pieces s).length : Int)), (19, I (gs : Int))], Mr1, [])) (fun gs => gs ≤ (pieces s).length ∧ ((pieces s).take gs).all nameOk = true) (fun gs => (pieces s).length - gs) 0 ?_ (Env.sub_cons rfl <| Env.sub_cons rfl <| Env.sub_cons rfl <| Env.sub_cons rfl <| Env.sub_nil _) rfl rfl ?_
    · show 0 ≤ (pieces s).length ∧ ((pieces s).take 0).all nameOk = true; exact ⟨by omega, by simp⟩
    rintro i hok
    replace hok : i ≤ (pieces s).length ∧ ((pieces s).take i).all nameOk = true := hok
    show Cx.R _ _ _ [(6, .slice ar1 ((pieces s).length) cr1), (17, .slice ar1 ((pieces s).length) cr1), (18, I ((pieces s).length : Int)), (19, I (i : Int))] Mr1 []
    obtain ⟨hi, hall⟩ := hok
    refine R_seq ?_
    refine R_region ?_
    refine R_r (D_lt rfl rfl) ?_
    refine R_nil ?_
    refine R_seq ?_
    refine R_cond rfl (fun h2 => ?_) (fun h2 => ?_)
    ·
      have h2p := of_decide_eq_true h2
      refine R_skip ?_
      refine R_seq ?_
      refine R_block ?_
      refine R_seq ?_
      refine R_region ?_
      obtain ⟨b2, ob2, csb2, elb2, frb2, rfl, hmb2, hxb2⟩ := hsr1.at (i := i) (by first | omega | (simp; omega))
      obtain ⟨x3, hx3⟩ : ∃ e_, (pieces s)[i]? = some e_ := ⟨_, List.getElem?_eq_getElem (by omega)⟩
      have hex3 := hxb2 i x3 hx3
      refine R_r (D_indexLn (i) Tryz.underlying109 Tryz.sizeOf9 rfl rfl (by first | rfl | omega) (by first | omega | (simp <;> omega))) ?_
      refine R_r (D_load rfl (Has.mem hmb2) (Rd.elem0 (i := i) hex3 Tryz.isAgg9 rfl rfl)) ?_
      refine R_r (D_assign rfl) ?_
      refine R_nil ?_
      refine R_seq ?_
      refine R_region ?_
      refine R_r (D_move rfl) ?_
      refine R_o (E_callV (v := I (if nameOk x3 then 0 else 30 : Int)) rfl rfl en110 (fun w hM => Check_C x3 Mr1 w hM (by have := pieces_le (List.mem_of_getElem? hx3); omega)) ?_)
      refine R_r (D_assign rfl) ?_
      refine R_nil ?_
      refine R_seq ?_
      refine R_region ?_
      refine R_r (D_move rfl) ?_
      refine R_r (D_ne rfl rfl) ?_
      refine R_nil ?_
      refine R_cond rfl (fun h3 => ?_) (fun h3 => ?_)
      ·
        have h3p : ¬ ((if nameOk x3 then 0 else 30 : Int) = 0) := by simpa using h3
        refine R_seq ?_
        refine R_region ?_
        refine R_r (D_move rfl) ?_
        refine R_r (D_assign rfl) ?_
        refine R_r (D_assign rfl) ?_
        refine R_nil ?_
        refine R_ret ?_
        refine R_fin2 rfl rfl rfl ?_
        have hne : nameOk x3 = false := by cases hq : nameOk x3 with | false => rfl | true => (rw [hq] at h3p; exact absurd rfl h3p)
        have hb := all_bad (List.mem_of_getElem? hx3) hne
        exact ⟨rfl, _, by rw [splitP, if_neg h1p, hb, hne]; rfl, by rw [splitP, if_neg h1p, hb]; exact Sl.nil _ _ _⟩
      ·
        have h3p : ((if nameOk x3 then 0 else 30 : Int) = 0) := by simpa using h3
        refine R_skip ?_
        refine R_region ?_
        refine R_r (D_add rfl rfl rfl (by omega) (by omega)) ?_
        refine R_r (D_move rfl) ?_
        refine R_nil ?_
        exact R_back (i + 1) (by show (i + 1) ≤ (pieces s).length ∧ ((pieces s).take (i + 1)).all nameOk = true; exact ⟨by omega, by rw [all_take hx3, hall]; cases hq : nameOk x3 with | true => rfl | false => (rw [hq] at h3p; exact absurd h3p (by decide))⟩) (by show (pieces s).length - (i + 1) < (pieces s).length - i; omega) (Env.sub_cons rfl <| Env.sub_cons rfl <| Env.sub_cons rfl <| Env.sub_cons rfl <| Env.sub_nil _) rfl rfl
    ·
      have h2p := of_decide_eq_false h2
      refine R_exit rfl ?_
      refine R_seq ?_
      refine R_region ?_
      refine R_r (D_move rfl) ?_
      refine R_r (D_assign rfl) ?_
      refine R_r (D_assign rfl) ?_
      refine R_nil ?_
      refine R_ret ?_
      refine R_fin2 rfl rfl rfl ?_
      have hb : (pieces s).all nameOk = true := by rw [List.take_of_length_le (by omega)] at hall; exact hall
      exact ⟨rfl, _, by rw [splitP, if_neg h1p, if_pos hb], by rw [splitP, if_neg h1p, if_pos hb]; exact hsr1.sl (by omega)⟩

theorem isNaNS_C (s : Str) (M : PMem) (w : World) (hM : Lies M w) : Ends Tryz.prog 141 [S s] w [] M (fun v' M' H' => v' = .bool false ∧ M' = M ∧ H' = []) := by
  refine Ends.enter (H := []) Tryz.func141 rfl Tryz.ntmps141 rfl (St.start hM) ?_
  refine R_seq ?_
  refine R_region ?_
  refine R_r (D_assign rfl) ?_
  refine R_nil ?_
  refine R_seq ?_
  refine R_region ?_
  refine R_r (D_move rfl) ?_
  refine R_r (D_move rfl) ?_
  refine R_r (D_neS rfl rfl) ?_
  refine R_r (D_assign rfl) ?_
  refine R_nil ?_
  refine R_ret ?_
  refine R_fin1 rfl rfl ?_
  exact ⟨by simp, rfl, rfl⟩

theorem cmpCompare_C (a b : Str) (M : PMem) (w : World) (hM : Lies M w) : Ends Tryz.prog 124 [S a, S b] w [] M (fun v' M' H' => v' = I (cmpS a b) ∧ M' = M ∧ H' = []) := by
  refine Ends.enter (H := []) Tryz.func124 rfl Tryz.ntmps124 rfl (St.start hM) ?_
  refine R_seq ?_
  refine R_region ?_
  refine R_r (D_assign rfl) ?_
  refine R_nil ?_
  refine R_seq ?_
  refine R_region ?_
  refine R_r (D_move rfl) ?_
  refine R_o (E_callV (v := .bool false) rfl rfl en141 (fun w hM => isNaNS_C a M w hM ) ?_)
  refine R_r (D_assign rfl) ?_
  refine R_nil ?_
  refine R_seq ?_
  refine R_region ?_
  refine R_r (D_move rfl) ?_
  refine R_o (E_callV (v := .bool false) rfl rfl en141 (fun w hM => isNaNS_C b M w hM ) ?_)
  refine R_r (D_assign rfl) ?_
  refine R_nil ?_
  refine R_seq ?_
  refine R_seq ?_
  refine R_region ?_
  refine R_r (D_move rfl) ?_
  refine R_nil ?_
  refine R_cond_f rfl ?_
  refine R_skip ?_
  refine R_seq ?_
  refine R_seq ?_
  refine R_region ?_
  refine R_r (D_move rfl) ?_
  refine R_nil ?_
  refine R_cond_f rfl ?_
  refine R_skip ?_
  refine R_seq ?_
  refine R_seq ?_
  refine R_region ?_
  refine R_r (D_move rfl) ?_
  refine R_r (D_move rfl) ?_
  refine R_r (D_ltS rfl rfl) ?_
  refine R_nil ?_
  refine R_cond rfl (fun h1 => ?_) (fun h1 => ?_)
  ·
    refine R_seq ?_
    refine R_region ?_
    refine R_r (D_assign rfl) ?_
    refine R_nil ?_
    refine R_ret ?_
    refine R_fin1 rfl rfl ?_
    exact ⟨by rw [cmpS, if_pos h1], rfl, rfl⟩
  ·
    refine R_skip ?_
    refine R_seq ?_
    refine R_seq ?_
    refine R_region ?_
    refine R_r (D_move rfl) ?_
    refine R_r (D_move rfl) ?_
    refine R_r (D_gtS rfl rfl) ?_
    refine R_nil ?_
    refine R_cond rfl (fun h2 => ?_) (fun h2 => ?_)
    ·
      have h2p := h2; simp only [Bool.and_eq_true, Bool.or_eq_true, Bool.not_eq_true', Bool.and_eq_false_imp, Bool.or_eq_false_iff, Bool.not_eq_false', decide_eq_true_eq, decide_eq_false_iff_not] at h2p
      refine R_seq ?_
      refine R_region ?_
      refine R_r (D_assign rfl) ?_
      refine R_nil ?_
      refine R_ret ?_
      refine R_fin1 rfl rfl ?_
      exact ⟨by rw [cmpS, if_neg (Bool.eq_false_iff.1 h1), if_pos (by rw [← cmpS_gt h1]; exact h2)], rfl, rfl⟩
    ·
      have h2p := h2; simp only [Bool.and_eq_true, Bool.or_eq_true, Bool.not_eq_true', Bool.and_eq_false_imp, Bool.or_eq_false_iff, Bool.not_eq_false', decide_eq_true_eq, decide_eq_false_iff_not] at h2p
      refine R_skip ?_
      refine R_seq ?_
      refine R_region ?_
      refine R_r (D_assign rfl) ?_
      refine R_nil ?_
      refine R_ret ?_
      refine R_fin1 rfl rfl ?_
      exact ⟨by rw [cmpS, if_neg (Bool.eq_false_iff.1 h1), if_neg (by rw [← cmpS_gt h1, h2]; simp)], rfl, rfl⟩

theorem slicesCompare_C (x y : List Str) (a : Option Addr) (c : Nat) (b : Option Addr) (d : Nat) (M : PMem) (w : World) (hM : Lies M w) (hc : x.length ≤ c) (ha : SlA M 1 (byEnc fun s : Str => [S s]) a x) (hd : y.length ≤ d) (hb : SlA M 1 (byEnc fun s : Str => [S s]) b y) (hx : x.length ≤ 4294967296) : Ends Tryz.prog 111 [.slice a x.length c, .slice b y.length d] w [] M (fun v' M' H' => v' = I (cmpL x y) ∧ M' = M ∧ H' = []) := by
  refine Ends.enter (H := []) Tryz.func111 rfl Tryz.ntmps111 rfl (St.start hM) ?_
  refine R_seq ?_
  refine R_region ?_
  refine R_r (D_assign rfl) ?_
  refine R_nil ?_
  refine R_seq ?_
  refine R_seq ?_
  refine R_region ?_
  refine R_r (D_move rfl) ?_
  refine R_r (D_lenL Tryz.underlying109 rfl) ?_
  refine R_r (D_move rfl) ?_
  refine R_nil ?_
  refine R_block ?_
  refine R_loop (σ := (Nat)) (fun gs => ([(0, .slice a x.length c), (1, .slice b y.length d), (9, .slice a x.length c), (10, I (x.length : Int)), (11, I (gs : Int))], M, [])) (fun gs => gs ≤ x.length ∧ gs ≤ y.length ∧ x.take gs = y.take gs) (fun gs => x.length - gs) 0 ?_ (Env.sub_cons rfl <| Env.sub_cons rfl <| Env.sub_cons rfl <| Env.sub_cons rfl <| Env.sub_cons rfl <| Env.sub_nil _) rfl rfl ?_
  · show 0 ≤ x.length ∧ 0 ≤ y.length ∧ x.take 0 = y.take 0; exact ⟨by omega, by omega, by simp⟩
  rintro i hok
  replace hok : i ≤ x.length ∧ i ≤ y.length ∧ x.take i = y.take i := hok
  show Cx.R _ _ _ [(0, .slice a x.length c), (1, .slice b y.length d), (9, .slice a x.length c), (10, I (x.length : Int)), (11, I (i : Int))] M []
  obtain ⟨hi, hi2, ht⟩ := hok
  refine R_seq ?_
  refine R_region ?_
  refine R_r (D_lt rfl rfl) ?_
  refine R_nil ?_
  refine R_seq ?_
  refine R_cond rfl (fun h1 => ?_) (fun h1 => ?_)
  ·
    have h1p := of_decide_eq_true h1
    refine R_skip ?_
    refine R_seq ?_
    refine R_block ?_
    refine R_seq ?_
    refine R_region ?_
    refine R_r (D_move rfl) ?_
    obtain ⟨b1, ob1, csb1, elb1, frb1, rfl, hmb1, hxb1⟩ := ha.at (i := i) (by first | omega | (simp; omega))
    obtain ⟨x2, hx2⟩ : ∃ e_, x[i]? = some e_ := ⟨_, List.getElem?_eq_getElem (by omega)⟩
    have hex2 := hxb1 i x2 hx2
    refine R_r (D_indexLn (i) Tryz.underlying109 Tryz.sizeOf9 rfl rfl (by first | rfl | omega) (by first | omega | (simp <;> omega))) ?_
    refine R_r (D_load rfl (Has.mem hmb1) (Rd.elem0 (i := i) hex2 Tryz.isAgg9 rfl rfl)) ?_
    refine R_r (D_assign rfl) ?_
    refine R_r (D_assign rfl) ?_
    refine R_nil ?_
    refine R_seq ?_
    refine R_seq ?_
    refine R_region ?_
    refine R_r (D_move rfl) ?_
    refine R_r (D_move rfl) ?_
    refine R_r (D_lenL Tryz.underlying109 rfl) ?_
    refine R_r (D_ge rfl rfl) ?_
    refine R_nil ?_
    refine R_cond rfl (fun h2 => ?_) (fun h2 => ?_)
    ·
      have h2p := of_decide_eq_true h2
      refine R_seq ?_
      refine R_region ?_
      refine R_r (D_assign rfl) ?_
      refine R_nil ?_
      refine R_ret ?_
      refine R_fin1 rfl rfl ?_
      exact ⟨by rw [cmpL_more ht (by omega) (by omega)], rfl, rfl⟩
    ·
      have h2p := of_decide_eq_false h2
      refine R_skip ?_
      refine R_seq ?_
      refine R_region ?_
      refine R_r (D_move rfl) ?_
      refine R_r (D_move rfl) ?_
      obtain ⟨b3, ob3, csb3, elb3, frb3, rfl, hmb3, hxb3⟩ := hb.at (i := i) (by first | omega | (simp; omega))
      obtain ⟨x4, hx4⟩ : ∃ e_, y[i]? = some e_ := ⟨_, List.getElem?_eq_getElem (by omega)⟩
      have hex4 := hxb3 i x4 hx4
      refine R_r (D_indexLn (i) Tryz.underlying109 Tryz.sizeOf9 rfl rfl (by first | rfl | omega) (by first | omega | (simp <;> omega))) ?_
      refine R_r (D_load rfl (Has.mem hmb3) (Rd.elem0 (i := i) hex4 Tryz.isAgg9 rfl rfl)) ?_
      refine R_r (D_assign rfl) ?_
      refine R_nil ?_
      refine R_seq ?_
      refine R_region ?_
      refine R_r (D_move rfl) ?_
      refine R_r (D_move rfl) ?_
      refine R_o (E_callV (v := I (cmpS x2 x4)) rfl rfl en124 (fun w hM => cmpCompare_C x2 x4 M w hM ) ?_)
      refine R_r (D_assign rfl) ?_
      refine R_nil ?_
      refine R_seq ?_
      refine R_region ?_
      refine R_r (D_move rfl) ?_
      refine R_r (D_ne rfl rfl) ?_
      refine R_nil ?_
      refine R_cond rfl (fun h3 => ?_) (fun h3 => ?_)
      ·
        have h3p : ¬ ((cmpS x2 x4) = 0) := by simpa using h3
        refine R_seq ?_
        refine R_region ?_
        refine R_r (D_move rfl) ?_
        refine R_r (D_assign rfl) ?_
        refine R_nil ?_
        refine R_ret ?_
        refine R_fin1 rfl rfl ?_
        exact ⟨by rw [cmpL_cmpS ht hx2 hx4 h3p], rfl, rfl⟩
      ·
        have h3p : ((cmpS x2 x4) = 0) := by simpa using h3
        refine R_skip ?_
        refine R_region ?_
        refine R_r (D_add rfl rfl rfl (by omega) (by omega)) ?_
        refine R_r (D_move rfl) ?_
        refine R_nil ?_
        exact R_back (i + 1) (by show (i + 1) ≤ x.length ∧ (i + 1) ≤ y.length ∧ x.take (i + 1) = y.take (i + 1); exact ⟨by omega, by omega, take_step ht hx2 (by have e := cmpS_zero h3p; subst e; exact hx4)⟩) (by show x.length - (i + 1) < x.length - i; omega) (Env.sub_cons rfl <| Env.sub_cons rfl <| Env.sub_cons rfl <| Env.sub_cons rfl <| Env.sub_cons rfl <| Env.sub_nil _) rfl rfl
  ·
    have h1p := of_decide_eq_false h1
    refine R_exit rfl ?_
    refine R_seq ?_
    refine R_seq ?_
    refine R_region ?_
    refine R_r (D_move rfl) ?_
    refine R_r (D_lenL Tryz.underlying109 rfl) ?_
    refine R_r (D_move rfl) ?_
    refine R_r (D_lenL Tryz.underlying109 rfl) ?_
    refine R_r (D_lt rfl rfl) ?_
    refine R_nil ?_
    refine R_cond rfl (fun h2 => ?_) (fun h2 => ?_)
    ·
      have h2p := of_decide_eq_true h2
      refine R_seq ?_
      refine R_region ?_
      refine R_r (D_assign rfl) ?_
      refine R_nil ?_
      refine R_ret ?_
      refine R_fin1 rfl rfl ?_
      exact ⟨by rw [cmpL_end (by rw [show min x.length y.length = i from by omega]; exact ht), if_pos (by omega)], rfl, rfl⟩
    ·
      have h2p := of_decide_eq_false h2
      refine R_skip ?_
      refine R_seq ?_
      refine R_region ?_
      refine R_r (D_assign rfl) ?_
      refine R_nil ?_
      refine R_ret ?_
      refine R_fin1 rfl rfl ?_
      exact ⟨by rw [cmpL_end (by rw [show min x.length y.length = i from by omega]; exact ht), if_neg (by omega), if_neg (by omega)], rfl, rfl⟩

theorem Compare_C (a b : Str) (M : PMem) (w : World) (hM : Lies M w) (ha : a.length ≤ 1073741824) (hb : b.length ≤ 1073741824) : Ends Tryz.prog 87 [S a, S b] w [] M (fun v' M' H' => v' = I (cmpP a b) ∧ M' = M ∧ H' = []) := by
  have hpa := pieces_count a
  have hpb := pieces_count b
  refine Ends.enter (H := []) Tryz.func87 rfl Tryz.ntmps87 rfl (St.start hM) ?_
  refine R_seq ?_
  refine R_region ?_
  refine R_r (D_assign rfl) ?_
  refine R_nil ?_
  refine R_seq ?_
  refine R_region ?_
  refine R_r (D_move rfl) ?_
  refine R_o (E_callP rfl rfl en109 (fun w hM => pieces_C a M w hM (by omega)) (fun vr1 Mr1 Hr1 hler1 hpr1 => ?_))
  obtain ⟨rfl, hpr1⟩ := hpr1
  obtain ⟨ar1, cr1, rfl, hcr1, hsr1⟩ := hpr1.op
  refine R_r (D_move rfl) ?_
  refine R_o (E_callP rfl rfl en109 (fun w hM => pieces_C b Mr1 w hM (by omega)) (fun vr2 Mr2 Hr2 hler2 hpr2 => ?_))
  have q3 := SlA.le hsr1 hler2
  obtain ⟨rfl, hpr2⟩ := hpr2
  obtain ⟨ar2, cr2, rfl, hcr2, hsr2⟩ := hpr2.op
  refine R_o (E_callV (v := I (cmpL (pieces a) (pieces b))) rfl rfl en111 (fun w hM => slicesCompare_C (pieces a) (pieces b) ar1 cr1 ar2 cr2 Mr2 w hM (by omega) q3 (by omega) hsr2 (by omega)) ?_)
  refine R_r (D_assign rfl) ?_
  refine R_nil ?_
  refine R_ret ?_
  refine R_less (M := M) (PMem.le_refl _) (PMem.le_trans hler1 hler2) ?_
  refine R_fin1 rfl rfl ?_
  exact ⟨rfl, rfl, rfl⟩

theorem lastIB_C (s : Str) (c : UInt8) (M : PMem) (w : World) (hM : Lies M w) (hs : s.length ≤ 1073741824) : Ends Tryz.prog 120 [S s, .int .u8 (c.toNat : Int)] w [] M (fun v' M' H' => v' = I (lastI s c) ∧ M' = M ∧ H' = []) := by
  refine Ends.enter (H := []) Tryz.func120 rfl Tryz.ntmps120 rfl (St.start hM) ?_
  refine R_seq ?_
  refine R_region ?_
  refine R_r (D_assign rfl) ?_
  refine R_nil ?_
  refine R_seq ?_
  refine R_seq ?_
  refine R_region ?_
  refine R_r (D_move rfl) ?_
  refine R_r (D_lenS Tryz.underlying9 rfl) ?_
  refine R_r (D_subI rfl rfl rfl (by omega) (by omega)) ?_
  refine R_r (D_assign rfl) ?_
  refine R_nil ?_
  refine R_block ?_
  refine R_loop (σ := (Nat)) (fun gs => ([(0, S s), (1, .int .u8 (c.toNat : Int)), (5, I ((gs : Int) - 1))], M, [])) (fun gs => gs ≤ s.length ∧ ∀ k : Nat, gs ≤ k → s[k]? ≠ some c) (fun gs => gs) s.length ?_ (Env.sub_cons rfl <| Env.sub_cons rfl <| Env.sub_cons rfl <| Env.sub_nil _) rfl rfl ?_
  · show s.length ≤ s.length ∧ ∀ k : Nat, s.length ≤ k → s[k]? ≠ some c; exact ⟨by omega, fun k h => by rw [List.getElem?_eq_none h]; simp⟩
  rintro j hok
  replace hok : j ≤ s.length ∧ ∀ k : Nat, j ≤ k → s[k]? ≠ some c := hok
  show Cx.R _ _ _ [(0, S s), (1, .int .u8 (c.toNat : Int)), (5, I ((j : Int) - 1))] M []
  obtain ⟨hj, hk⟩ := hok
  refine R_seq ?_
  refine R_seq ?_
  refine R_region ?_
  refine R_r (D_move rfl) ?_
  refine R_r (D_ge rfl rfl) ?_
  refine R_nil ?_
  refine R_cond rfl (fun h1 => ?_) (fun h1 => ?_)
  ·
    have h1p := of_decide_eq_true h1
    refine R_skip ?_
    refine R_seq ?_
    refine R_block ?_
    refine R_seq ?_
    refine R_region ?_
    refine R_r (D_move rfl) ?_
    refine R_r (D_move rfl) ?_
    obtain ⟨c1, hc1⟩ : ∃ e_, s[j - 1]? = some e_ := ⟨_, List.getElem?_eq_getElem (by omega)⟩
    refine R_r (D_indexN (j - 1) Tryz.underlying9 rfl rfl (by first | rfl | omega) hc1) ?_
    refine R_r (D_move rfl) ?_
    refine R_r (D_eq rfl rfl) ?_
    refine R_nil ?_
    refine R_cond rfl (fun h2 => ?_) (fun h2 => ?_)
    ·
      have h2p := of_decide_eq_true h2
      refine R_seq ?_
      refine R_region ?_
      refine R_r (D_move rfl) ?_
      refine R_r (D_assign rfl) ?_
      refine R_nil ?_
      refine R_ret ?_
      refine R_fin1 rfl rfl ?_
      exact ⟨by rw [lastI_at (i := j - 1) (by rw [hc1]; congr 1; exact UInt8.toNat_inj.1 (Int.ofNat_inj.1 h2p)) (fun k h => hk k (by omega))]; congr 1; omega, rfl, rfl⟩
    ·
      have h2p := of_decide_eq_false h2
      refine R_skip ?_
      refine R_region ?_
      refine R_r (D_move rfl) ?_
      refine R_r (D_subI rfl rfl rfl (by omega) (by omega)) ?_
      refine R_r (D_assign rfl) ?_
      refine R_nil ?_
      exact R_back (j - 1) (by show (j - 1) ≤ s.length ∧ ∀ k : Nat, (j - 1) ≤ k → s[k]? ≠ some c; exact ⟨by omega, fun k hk2 => by
            by_cases hkj : k = j - 1
            · subst hkj; rw [hc1]; intro e; cases e; exact h2p rfl
            · exact hk k (by omega)⟩) (by show (j - 1) < j; omega) (Env.sub_cons rfl <| Env.sub_cons rfl <| Env.sub_cons (by show some (I _) = some (I _); exact congrArg (fun q : Int => some (I q)) (by omega)) <| Env.sub_nil _) rfl rfl
  ·
    have h1p := of_decide_eq_false h1
    refine R_exit rfl ?_
    refine R_seq ?_
    refine R_region ?_
    refine R_r (D_assign rfl) ?_
    refine R_nil ?_
    refine R_ret ?_
    refine R_fin1 rfl rfl ?_
    exact ⟨by rw [lastI_none (fun k => hk k (by omega))], rfl, rfl⟩

theorem lastIndexByte_C (s : Str) (c : UInt8) (M : PMem) (w : World) (hM : Lies M w) (hs : s.length ≤ 1073741824) : Ends Tryz.prog 98 [S s, .int .u8 (c.toNat : Int)] w [] M (fun v' M' H' => v' = I (lastI s c) ∧ M' = M ∧ H' = []) := by
  refine Ends.enter (H := []) Tryz.func98 rfl Tryz.ntmps98 rfl (St.start hM) ?_
  refine R_seq ?_
  refine R_region ?_
  refine R_r (D_assign rfl) ?_
  refine R_nil ?_
  refine R_seq ?_
  refine R_region ?_
  refine R_r (D_move rfl) ?_
  refine R_r (D_move rfl) ?_
  refine R_o (E_callV (v := I (lastI s c)) rfl rfl en120 (fun w hM => lastIB_C s c M w hM (by omega)) ?_)
  refine R_r (D_assign rfl) ?_
  refine R_nil ?_
  refine R_ret ?_
  refine R_fin1 rfl rfl ?_
  exact ⟨rfl, rfl, rfl⟩

theorem Above_C (s : Str) (M : PMem) (w : World) (hM : Lies M w) (hs : s.length ≤ 1073741824) : Ends Tryz.prog 91 [S s] w [] M (fun v' M' H' => v' = .tuple #[S (aboveP s).1, S (aboveP s).2] ∧ M' = M ∧ H' = []) := by
  refine Ends.enter (H := []) Tryz.func91 rfl Tryz.ntmps91 rfl (St.start hM) ?_
  refine R_seq ?_
  refine R_region ?_
  refine R_r (D_assign rfl) ?_
  refine R_r (D_assign rfl) ?_
  refine R_nil ?_
  refine R_seq ?_
  refine R_region ?_
  refine R_r (D_move rfl) ?_
  refine R_o (E_callV (v := I (lastI s 47)) rfl rfl en98 (fun w hM => lastIndexByte_C s 47 M w hM (by omega)) ?_)
  refine R_r (D_assign rfl) ?_
  refine R_nil ?_
  refine R_seq ?_
  refine R_seq ?_
  refine R_region ?_
  refine R_r (D_move rfl) ?_
  refine R_r (D_lt rfl rfl) ?_
  refine R_nil ?_
  refine R_cond rfl (fun h1 => ?_) (fun h1 => ?_)
  ·
    have h1p := of_decide_eq_true h1
    refine R_seq ?_
    refine R_region ?_
    refine R_r (D_move rfl) ?_
    refine R_r (D_assign rfl) ?_
    refine R_r (D_assign rfl) ?_
    refine R_nil ?_
    refine R_ret ?_
    refine R_fin2 rfl rfl rfl ?_
    exact ⟨by rw [aboveP_one h1p]; rfl, rfl, rfl⟩
  ·
    have h1p := of_decide_eq_false h1
    obtain ⟨i, hi, hi1, hi2, hi3⟩ : ∃ i : Nat, lastI s 47 = i ∧ s[i]? = some 47 ∧ i < s.length ∧ ∀ k : Nat, i < k → s[k]? ≠ some 47 := by rcases lastI_spec s 47 with h | h; (have := h.1; omega); exact h
    refine R_skip ?_
    refine R_seq ?_
    refine Y_region [] mixed ?_
    refine Y_r 0 rfl (D_move rfl) ?_
    refine Y_r 1 rfl (D_move rfl) ?_
    refine Y_r 2 rfl (D_sliceS Tryz.underlying9 rfl rfl rfl (by omega) (by omega) (by omega)) ?_
    refine Y_r 3 rfl (D_move rfl) ?_
    refine Y_r 4 rfl (D_move rfl) ?_
    refine Y_r 5 rfl (D_add rfl rfl rfl (by omega) (by omega)) ?_
    refine Y_r 6 rfl (D_sliceS Tryz.underlying9 rfl rfl rfl (by omega) (by omega) (by omega)) ?_
    refine Y_r 7 rfl (D_assign rfl) ?_
    refine Y_r 8 rfl (D_assign rfl) ?_
    refine Y_nil ?_ (PMem.le_refl _) (fun _ h => List.Sublist.subset (.slnil) h)
    refine R_ret ?_
    refine R_fin2 rfl rfl rfl ?_
    exact ⟨by rw [aboveP_last hi, hi]; simp [List.take_of_length_le], rfl, rfl⟩

end Go.Proofs.YtgmomhdammdjgaaGreat
