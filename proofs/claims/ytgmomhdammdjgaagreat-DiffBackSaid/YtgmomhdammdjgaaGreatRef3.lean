/-
  The document's paths (twineref3), walked: what each function answers. Conditions: texts of at most 2^30 bytes.
-/
import Derived.Test.YtgmomhdammdjgaaGreatFacts
import Derived.Test.YtgmomhdammdjgaaGreatEq
set_option linter.unusedVariables false
set_option linter.unusedSimpArgs false
set_option maxRecDepth 20000
set_option maxHeartbeats 4000000
namespace Go.Proofs.YtgmomhdammdjgaaGreat
open Go Go.Proofs Go.RowKit

theorem bs109_1_str (x0 : Str) : Bs Tryz.prog 109 9 1 [(0, S x0)] [S x0] := fun w => by kernel_rfl
theorem el9 : ElemOk Tryz.prog 9 1 16 := ElemOk.mk' (by kernel_rfl) (by omega)
theorem en81 : ∀ (args : Array Value) (w : World), (callFunc 81 args).run Tryz.prog w = .ok (.enter 81 args) w := enters_fn Tryz.func81 (by kernel_rfl) rfl
theorem en122 : ∀ (args : Array Value) (w : World), (callFunc 122 args).run Tryz.prog w = .ok (.enter 122 args) w := enters_fn Tryz.func122 (by kernel_rfl) rfl
theorem en102 : ∀ (args : Array Value) (w : World), (callFunc 102 args).run Tryz.prog w = .ok (.enter 102 args) w := enters_fn Tryz.func102 (by kernel_rfl) rfl
theorem en105 : ∀ (args : Array Value) (w : World), (callFunc 105 args).run Tryz.prog w = .ok (.enter 105 args) w := enters_fn Tryz.func105 (by kernel_rfl) rfl
theorem en78 : ∀ (args : Array Value) (w : World), (callFunc 78 args).run Tryz.prog w = .ok (.enter 78 args) w := enters_fn Tryz.func78 (by kernel_rfl) rfl
theorem en107 : ∀ (args : Array Value) (w : World), (callFunc 107 args).run Tryz.prog w = .ok (.enter 107 args) w := enters_fn Tryz.func107 (by kernel_rfl) rfl
theorem en82 : ∀ (args : Array Value) (w : World), (callFunc 82 args).run Tryz.prog w = .ok (.enter 82 args) w := enters_fn Tryz.func82 (by kernel_rfl) rfl
theorem en38 : ∀ (args : Array Value) (w : World), (callFunc 38 args).run Tryz.prog w = .ok (.enter 38 args) w := enters_fn Tryz.func38 (by kernel_rfl) rfl
theorem en108 : ∀ (args : Array Value) (w : World), (callFunc 108 args).run Tryz.prog w = .ok (.enter 108 args) w := enters_fn Tryz.func108 (by kernel_rfl) rfl
theorem en84 : ∀ (args : Array Value) (w : World), (callFunc 84 args).run Tryz.prog w = .ok (.enter 84 args) w := enters_fn Tryz.func84 (by kernel_rfl) rfl
theorem Pieces_C (s : Str) (M : PMem) (w : World) (hM : Lies M w) (hs : s.length ≤ 1073741824) : Ends Tryz.prog 81 [S s] w [] M (fun v M' H' => H' = [] ∧ StrsAt M' v (pieces s)) := by
  refine Ends.enter (H := []) Tryz.func81 rfl Tryz.ntmps81 rfl (St.start hM) ?_
  refine R_seq ?_
  refine R_region ?_
  refine R_r (D_assign rfl) ?_
  refine R_nil ?_
  refine R_seq ?_
  refine R_seq ?_
  refine R_region ?_
  refine R_r (D_move rfl) ?_
  refine R_r (D_eqS rfl rfl) ?_
  refine R_nil ?_
  refine R_cond rfl (fun h1 => ?_) (fun h1 => ?_)
  ·
    have h1p := of_decide_eq_true h1
    refine R_seq ?_
    refine R_region ?_
    refine R_r (D_assign rfl) ?_
    refine R_nil ?_
    refine R_ret ?_
    refine R_fin1 rfl rfl ?_
    exact ⟨rfl, by subst h1p; exact Sl.nil _ _ _⟩
  ·
    have h1p := of_decide_eq_false h1
    refine R_skip ?_
    refine R_seq ?_
    refine R_region ?_
    refine R_r (D_assign rfl) ?_
    refine R_nil ?_
    refine R_seq ?_
    refine R_region ?_
    refine R_r (D_assign rfl) ?_
    refine R_nil ?_
    refine R_seq ?_
    refine R_seq ?_
    refine R_region ?_
    refine R_r (D_assign rfl) ?_
    refine R_nil ?_
    refine R_block ?_
    refine R_row0 9 1 ?_
    refine R_loop (σ := (Value) × (List Str) × (Nat) × (Nat)) (fun gs => ([(0, S s), (3, gs.1), (4, I (gs.2.2.1 : Int)), (5, I (gs.2.2.2 : Int))], M, [.row gs.1 9 1 gs.2.1.length (gs.2.1.flatMap fun q => [S q])])) (fun gs => PInv s gs.2.1 gs.2.2.1 gs.2.2.2) (fun gs => s.length - gs.2.2.2) (.slice none 0 0, [], 0, 0) ?_ (Env.sub_cons rfl <| Env.sub_cons rfl <| Env.sub_cons rfl <| Env.sub_cons rfl <| Env.sub_nil _) rfl rfl ?_
    · show PInv s ([]) 0 0; exact PInv.start s
    rintro ⟨v, l, f, i⟩ hok
    replace hok : PInv s l f i := hok
    show Cx.R _ _ _ [(0, S s), (3, v), (4, I (f : Int)), (5, I (i : Int))] M [.row v 9 1 l.length (l.flatMap fun q => [S q])]
    have hfi := hok.fi
    have his := hok.is_
    have hlf := hok.lf
    refine R_seq ?_
    refine R_seq ?_
    refine R_region ?_
    refine R_r (D_move rfl) ?_
    refine R_r (D_move rfl) ?_
    refine R_r (D_lenS Tryz.underlying9 rfl) ?_
    refine R_r (D_lt rfl rfl) ?_
    refine R_nil ?_
    refine R_cond rfl (fun h2 => ?_) (fun h2 => ?_)
    ·
      have h2p := of_decide_eq_true h2
      refine R_skip ?_
      refine R_seq ?_
      refine R_block ?_
      refine R_seq ?_
      refine R_region ?_
      refine R_r (D_move rfl) ?_
      refine R_r (D_move rfl) ?_
      obtain ⟨c1, hc1⟩ : ∃ e_, s[i]? = some e_ := ⟨_, List.getElem?_eq_getElem (by omega)⟩
      refine R_r (D_indexN (i) Tryz.underlying9 rfl rfl (by first | rfl | omega) hc1) ?_
      refine R_r (D_eq rfl rfl) ?_
      refine R_nil ?_
      refine R_cond rfl (fun h3 => ?_) (fun h3 => ?_)
      ·
        have h3p := of_decide_eq_true h3
        refine R_seq ?_
        refine R_region ?_
        refine R_r (D_move rfl) ?_
        refine R_r (D_move rfl) ?_
        refine R_r (D_move rfl) ?_
        refine R_r (D_move rfl) ?_
        refine R_r (D_sliceS Tryz.underlying9 rfl rfl rfl (by omega) (by omega) (by omega)) ?_
        refine R_o (E_buildSlice (ps := [(0, .tmp 22)]) (vs := [(0, S ((s.drop (f : Int).toNat).take ((i : Int).toNat - (f : Int).toNat)))]) (cs := [S ((s.drop (f : Int).toNat).take ((i : Int).toNat - (f : Int).toNat))]) rfl (bs109_1_str _) (fun b2 => ?_))
        refine R_o (E_append (news := [S ((s.drop (f : Int).toNat).take ((i : Int).toNat - (f : Int).toNat))]) 1 Tryz.underlying109 el9 rfl rfl rfl (Has.own 0 rfl) rfl rfl (by intro u hu; simp at hu; (first | (rcases hu with rfl | hu) | subst hu) <;> rfl) (by unfold maxLen; omega) (by omega) (fun v3 hv3 => ?_))
        refine R_r (D_assign rfl) ?_
        refine R_nil ?_
        refine R_region ?_
        refine R_r (D_move rfl) ?_
        refine R_r (D_add rfl rfl rfl (by omega) (by omega)) ?_
        refine R_r (D_assign rfl) ?_
        refine R_nil ?_
        refine R_region ?_
        refine R_r (D_move rfl) ?_
        refine R_r (D_add rfl rfl rfl (by omega) (by omega)) ?_
        refine R_r (D_assign rfl) ?_
        refine R_nil ?_
        refine R_drop (H' := [.row v3 9 1 (l.length + 1) ((l.flatMap fun q => [S q]) ++ [S ((s.drop (f : Int).toNat).take ((i : Int).toNat - (f : Int).toNat))])]) (.cons _ (List.Sublist.refl _)) ?_
        exact R_back (v3, l ++ [(s.drop f).take (i - f)], i + 1, i + 1) (by show PInv s (l ++ [(s.drop f).take (i - f)]) (i + 1) (i + 1); first | exact hok.keep hc1 (fun e => by subst e; simp at *) | exact hok.cut (by rw [hc1]; congr 1; exact UInt8.toNat_inj.1 (by simp at *; omega))) (by show s.length - (i + 1) < s.length - i; omega) (Env.sub_cons rfl <| Env.sub_cons rfl <| Env.sub_cons rfl <| Env.sub_cons rfl <| Env.sub_nil _) rfl (by simp)
      ·
        have h3p := of_decide_eq_false h3
        refine R_skip ?_
        refine R_region ?_
        refine R_r (D_move rfl) ?_
        refine R_r (D_add rfl rfl rfl (by omega) (by omega)) ?_
        refine R_r (D_assign rfl) ?_
        refine R_nil ?_
        exact R_back (v, l, f, i + 1) (by show PInv s l f (i + 1); first | exact hok.keep hc1 (fun e => by subst e; simp at *) | exact hok.cut (by rw [hc1]; congr 1; exact UInt8.toNat_inj.1 (by simp at *; omega))) (by show s.length - (i + 1) < s.length - i; omega) (Env.sub_cons rfl <| Env.sub_cons rfl <| Env.sub_cons rfl <| Env.sub_cons rfl <| Env.sub_nil _) rfl (by simp)
    ·
      have h2p := of_decide_eq_false h2
      refine R_exit rfl ?_
      refine R_seq ?_
      refine R_region ?_
      refine R_r (D_move rfl) ?_
      refine R_r (D_move rfl) ?_
      refine R_r (D_move rfl) ?_
      refine R_r (D_sliceS Tryz.underlying9 rfl rfl rfl (by omega) (by omega) (by omega)) ?_
      refine R_o (E_buildSlice (ps := [(0, .tmp 30)]) (vs := [(0, S ((s.drop (f : Int).toNat).take ((s.length : Int).toNat - (f : Int).toNat)))]) (cs := [S ((s.drop (f : Int).toNat).take ((s.length : Int).toNat - (f : Int).toNat))]) rfl (bs109_1_str _) (fun b4 => ?_))
      refine R_o (E_append (news := [S ((s.drop (f : Int).toNat).take ((s.length : Int).toNat - (f : Int).toNat))]) 1 Tryz.underlying109 el9 rfl rfl rfl (Has.own 0 rfl) rfl rfl (by intro u hu; simp at hu; (first | (rcases hu with rfl | hu) | subst hu) <;> rfl) (by unfold maxLen; omega) (by omega) (fun v5 hv5 => ?_))
      refine R_r (D_assign rfl) ?_
      refine R_nil ?_
      refine R_ret ?_
      refine R_drop (H' := [.row v5 9 1 (l.length + 1) ((l.flatMap fun q => [S q]) ++ [S ((s.drop (f : Int).toNat).take ((s.length : Int).toNat - (f : Int).toNat))])]) (.cons _ (.cons_cons _ (.slnil))) ?_
      refine R_freezeRow (fun M6 hleM6 hrowM6 => ?_)
      refine R_fin1 rfl rfl ?_
      obtain rfl : i = s.length := by omega
      have hl := hok.last
      have e1 : (l.flatMap fun q => [S q]) ++ [S ((s.drop (f : Int).toNat).take ((s.length : Int).toNat - (f : Int).toNat))] = (l ++ [s.drop f]).flatMap fun q => [S q] := by simp [List.take_of_length_le]
      rw [e1] at hrowM6
      have := (hrowM6.sl (fun q => [S q]) (fun _ => rfl) (Nat.one_pos)).2
      exact ⟨rfl, by rw [pieces, if_neg h1p, hl]; exact this⟩

theorem Name_C (s : Str) (M : PMem) (w : World) (hM : Lies M w) (hs : s.length ≤ 1073741824) : Ends Tryz.prog 122 [S s] w [] M (fun v' M' H' => v' = .bool (nameOk s) ∧ M' = M ∧ H' = []) := by
  refine Ends.enter (H := []) Tryz.func122 rfl Tryz.ntmps122 rfl (St.start hM) ?_
  refine R_seq ?_
  refine R_region ?_
  refine R_r (D_assign rfl) ?_
  refine R_nil ?_
  refine R_seq ?_
  refine R_seq ?_
  refine R_join [(0, S s), (2, .bool false), (19, .bool ((((decide ((s.length : Int) < 1)) || (decide (255 < (s.length : Int)))) || (decide (s = ([46] : Str)))) || (decide (s = ([46, 46] : Str)))))] (M' := M) (H' := []) ?_ ?_
  ·
    refine R_region ?_
    refine R_r (D_move rfl) ?_
    refine R_r (D_lenS Tryz.underlying9 rfl) ?_
    refine R_r (D_lt rfl rfl) ?_
    refine R_r (D_move rfl) ?_
    refine R_split 7 rfl (fun h1 => ?_) (fun h1 => ?_)
    ·
      have h1p := of_decide_eq_true h1
      refine R_skipop rfl rfl rfl ?_
      refine R_skipop rfl rfl rfl ?_
      refine R_skipop rfl rfl rfl ?_
      refine R_r (D_pick true rfl rfl) ?_
      refine R_r (D_move rfl) ?_
      refine R_skipop rfl rfl rfl ?_
      refine R_skipop rfl rfl rfl ?_
      refine R_r (D_pick true rfl rfl) ?_
      refine R_r (D_move rfl) ?_
      refine R_skipop rfl rfl rfl ?_
      refine R_skipop rfl rfl rfl ?_
      refine R_r (D_pick true rfl rfl) ?_
      refine R_nil ?_
      exact R_at (Env.sub_cons rfl <| Env.sub_cons rfl <| Env.sub_cons (by first | (show some (Value.bool _) = some (Value.bool _); simp only [h1, Bool.true_and, Bool.false_and, Bool.true_or, Bool.false_or, Bool.and_true, Bool.and_false, Bool.or_true, Bool.or_false]; done) | (show some (Value.bool _) = some (Value.bool _); (try rw [h1]); first | done | rfl) | simp [h1, Env.find]) <| Env.sub_nil _)
    ·
      have h1p := of_decide_eq_false h1
      refine R_r (D_move rfl) ?_
      refine R_r (D_lenS Tryz.underlying9 rfl) ?_
      refine R_r (D_gt rfl rfl) ?_
      refine R_r (D_pick false rfl rfl) ?_
      refine R_r (D_move rfl) ?_
      refine R_split 12 rfl (fun h2 => ?_) (fun h2 => ?_)
      ·
        have h2p := of_decide_eq_true h2
        refine R_skipop rfl rfl rfl ?_
        refine R_skipop rfl rfl rfl ?_
        refine R_r (D_pick true rfl rfl) ?_
        refine R_r (D_move rfl) ?_
        refine R_skipop rfl rfl rfl ?_
        refine R_skipop rfl rfl rfl ?_
        refine R_r (D_pick true rfl rfl) ?_
        refine R_nil ?_
        exact R_at (Env.sub_cons rfl <| Env.sub_cons rfl <| Env.sub_cons (by first | (show some (Value.bool _) = some (Value.bool _); simp only [h1, h2, Bool.true_and, Bool.false_and, Bool.true_or, Bool.false_or, Bool.and_true, Bool.and_false, Bool.or_true, Bool.or_false]; done) | (show some (Value.bool _) = some (Value.bool _); (try rw [h1]); (try rw [h2]); first | done | rfl) | simp [h1, h2, Env.find]) <| Env.sub_nil _)
      ·
        have h2p := of_decide_eq_false h2
        refine R_r (D_move rfl) ?_
        refine R_r (D_eqS rfl rfl) ?_
        refine R_r (D_pick false rfl rfl) ?_
        refine R_r (D_move rfl) ?_
        refine R_split 16 rfl (fun h3 => ?_) (fun h3 => ?_)
        ·
          have h3p := of_decide_eq_true h3
          refine R_skipop rfl rfl rfl ?_
          refine R_skipop rfl rfl rfl ?_
          refine R_r (D_pick true rfl rfl) ?_
          refine R_nil ?_
          exact R_at (Env.sub_cons rfl <| Env.sub_cons rfl <| Env.sub_cons (by first | (show some (Value.bool _) = some (Value.bool _); simp only [h1, h2, h3, Bool.true_and, Bool.false_and, Bool.true_or, Bool.false_or, Bool.and_true, Bool.and_false, Bool.or_true, Bool.or_false]; done) | (show some (Value.bool _) = some (Value.bool _); (try rw [h1]); (try rw [h2]); (try rw [h3]); first | done | rfl) | simp [h1, h2, h3, Env.find]) <| Env.sub_nil _)
        ·
          have h3p := of_decide_eq_false h3
          refine R_r (D_move rfl) ?_
          refine R_r (D_eqS rfl rfl) ?_
          refine R_r (D_pick false rfl rfl) ?_
          refine R_nil ?_
          exact R_at (Env.sub_cons rfl <| Env.sub_cons rfl <| Env.sub_cons (by first | (show some (Value.bool _) = some (Value.bool _); simp only [h1, h2, h3, Bool.true_and, Bool.false_and, Bool.true_or, Bool.false_or, Bool.and_true, Bool.and_false, Bool.or_true, Bool.or_false]; done) | (show some (Value.bool _) = some (Value.bool _); (try rw [h1]); (try rw [h2]); (try rw [h3]); first | done | rfl) | simp [h1, h2, h3, Env.find]) <| Env.sub_nil _)
  ·
    refine R_cond rfl (fun h1 => ?_) (fun h1 => ?_)
    ·
      have h1p := h1; simp only [Bool.and_eq_true, Bool.or_eq_true, Bool.not_eq_true', Bool.and_eq_false_imp, Bool.or_eq_false_iff, Bool.not_eq_false', decide_eq_true_eq, decide_eq_false_iff_not] at h1p
      refine R_seq ?_
      refine R_region ?_
      refine R_r (D_assign rfl) ?_
      refine R_nil ?_
      refine R_ret ?_
      refine R_fin1 rfl rfl ?_
      exact ⟨by rw [nameOk_early h1], rfl, rfl⟩
    ·
      have h1p := h1; simp only [Bool.and_eq_true, Bool.or_eq_true, Bool.not_eq_true', Bool.and_eq_false_imp, Bool.or_eq_false_iff, Bool.not_eq_false', decide_eq_true_eq, decide_eq_false_iff_not] at h1p
      refine R_skip ?_
      refine R_seq ?_
      refine R_seq ?_
      refine R_region ?_
      refine R_r (D_assign rfl) ?_
      refine R_nil ?_
      refine R_block ?_
      refine R_loop (σ := (Nat)) (fun gs => ([(0, S s), (3, I (gs : Int))], M, [])) (fun gs => gs ≤ s.length ∧ (s.take gs).all (fun c => !decide (c = 47) && !decide (c = 0)) = true) (fun gs => s.length - gs) 0 ?_ (Env.sub_cons rfl <| Env.sub_cons rfl <| Env.sub_nil _) rfl rfl ?_
      · show 0 ≤ s.length ∧ (s.take 0).all (fun c => !decide (c = 47) && !decide (c = 0)) = true; exact ⟨by omega, by simp⟩
      rintro i hok
      replace hok : i ≤ s.length ∧ (s.take i).all (fun c => !decide (c = 47) && !decide (c = 0)) = true := hok
      show Cx.R _ _ _ [(0, S s), (3, I (i : Int))] M []
      obtain ⟨hi, hall⟩ := hok
      refine R_seq ?_
      refine R_seq ?_
      refine R_region ?_
      refine R_r (D_move rfl) ?_
      refine R_r (D_move rfl) ?_
      refine R_r (D_lenS Tryz.underlying9 rfl) ?_
      refine R_r (D_lt rfl rfl) ?_
      refine R_nil ?_
      refine R_cond rfl (fun h2 => ?_) (fun h2 => ?_)
      ·
        have h2p := of_decide_eq_true h2
        refine R_skip ?_
        refine R_seq ?_
        refine R_block ?_
        refine R_seq ?_
        obtain ⟨c1, hc1⟩ : ∃ e_, s[i]? = some e_ := ⟨_, List.getElem?_eq_getElem (by omega)⟩
        refine R_join [(0, S s), (3, I (i : Int)), (20, I (i : Int)), (21, S s), (22, I (s.length : Int)), (23, .bool (decide ((i : Int) < (s.length : Int)))), (35, .bool ((decide ((c1.toNat : Int) = 47)) || (decide ((c1.toNat : Int) = 0))))] (M' := M) (H' := []) ?_ ?_
        ·
          refine R_region ?_
          refine R_r (D_move rfl) ?_
          refine R_r (D_move rfl) ?_
          refine R_r (D_indexN (i) Tryz.underlying9 rfl rfl (by first | rfl | omega) hc1) ?_
          refine R_r (D_eq rfl rfl) ?_
          refine R_r (D_move rfl) ?_
          refine R_split 30 rfl (fun h3 => ?_) (fun h3 => ?_)
          ·
            have h3p := of_decide_eq_true h3
            refine R_skipop rfl rfl rfl ?_
            refine R_skipop rfl rfl rfl ?_
            refine R_skipop rfl rfl rfl ?_
            refine R_skipop rfl rfl rfl ?_
            refine R_r (D_pick true rfl rfl) ?_
            refine R_nil ?_
            exact R_at (Env.sub_cons rfl <| Env.sub_cons rfl <| Env.sub_cons rfl <| Env.sub_cons rfl <| Env.sub_cons rfl <| Env.sub_cons rfl <| Env.sub_cons (by first | (show some (Value.bool _) = some (Value.bool _); simp only [h3, Bool.true_and, Bool.false_and, Bool.true_or, Bool.false_or, Bool.and_true, Bool.and_false, Bool.or_true, Bool.or_false]; done) | (show some (Value.bool _) = some (Value.bool _); (try rw [h3]); first | done | rfl) | simp [h3, Env.find]) <| Env.sub_nil _)
          ·
            have h3p := of_decide_eq_false h3
            refine R_r (D_move rfl) ?_
            refine R_r (D_move rfl) ?_
            refine R_r (D_indexN (i) Tryz.underlying9 rfl rfl (by first | rfl | omega) hc1) ?_
            refine R_r (D_eq rfl rfl) ?_
            refine R_r (D_pick false rfl rfl) ?_
            refine R_nil ?_
            exact R_at (Env.sub_cons rfl <| Env.sub_cons rfl <| Env.sub_cons rfl <| Env.sub_cons rfl <| Env.sub_cons rfl <| Env.sub_cons rfl <| Env.sub_cons (by first | (show some (Value.bool _) = some (Value.bool _); simp only [h3, Bool.true_and, Bool.false_and, Bool.true_or, Bool.false_or, Bool.and_true, Bool.and_false, Bool.or_true, Bool.or_false]; done) | (show some (Value.bool _) = some (Value.bool _); (try rw [h3]); first | done | rfl) | simp [h3, Env.find]) <| Env.sub_nil _)
        ·
          refine R_cond rfl (fun h3 => ?_) (fun h3 => ?_)
          ·
            have h3p := h3; simp only [Bool.and_eq_true, Bool.or_eq_true, Bool.not_eq_true', Bool.and_eq_false_imp, Bool.or_eq_false_iff, Bool.not_eq_false', decide_eq_true_eq, decide_eq_false_iff_not] at h3p
            refine R_seq ?_
            refine R_region ?_
            refine R_r (D_assign rfl) ?_
            refine R_nil ?_
            refine R_ret ?_
            refine R_fin1 rfl rfl ?_
            exact ⟨by rw [nameOk_bad (j := i) hc1 (by simpa only [u8_47, u8_0] using h3)], rfl, rfl⟩
          ·
            have h3p := h3; simp only [Bool.and_eq_true, Bool.or_eq_true, Bool.not_eq_true', Bool.and_eq_false_imp, Bool.or_eq_false_iff, Bool.not_eq_false', decide_eq_true_eq, decide_eq_false_iff_not] at h3p
            refine R_skip ?_
            refine R_region ?_
            refine R_r (D_move rfl) ?_
            refine R_r (D_add rfl rfl rfl (by omega) (by omega)) ?_
            refine R_r (D_assign rfl) ?_
            refine R_nil ?_
            exact R_back (i + 1) (by show (i + 1) ≤ s.length ∧ (s.take (i + 1)).all (fun c => !decide (c = 47) && !decide (c = 0)) = true; exact ⟨by omega, by rw [all_take hc1, hall]; simp only [u8_47, u8_0, Bool.or_eq_false_iff] at h3; simp [h3.1, h3.2]⟩) (by show s.length - (i + 1) < s.length - i; omega) (Env.sub_cons rfl <| Env.sub_cons rfl <| Env.sub_nil _) rfl rfl
      ·
        have h2p := of_decide_eq_false h2
        refine R_exit rfl ?_
        refine R_seq ?_
        refine R_region ?_
        refine R_r (D_assign rfl) ?_
        refine R_nil ?_
        refine R_ret ?_
        refine R_fin1 rfl rfl ?_
        exact ⟨by rw [nameOk_good h1 (by rw [List.take_of_length_le (by omega)] at hall; exact hall)], rfl, rfl⟩

theorem Check3_C (s : Str) (M : PMem) (w : World) (hM : Lies M w) (hs : s.length ≤ 1073741824) : Ends Tryz.prog 102 [S s] w [] M (fun v' M' H' => v' = I (if nameOk s then 0 else 30) ∧ M' = M ∧ H' = []) := by
  refine Ends.enter (H := []) Tryz.func102 rfl Tryz.ntmps102 rfl (St.start hM) ?_
  refine R_seq ?_
  refine R_region ?_
  refine R_r (D_assign rfl) ?_
  refine R_nil ?_
  refine R_seq ?_
  refine R_seq ?_
  refine R_region ?_
  refine R_r (D_move rfl) ?_
  refine R_o (E_callV (v := .bool (nameOk s)) rfl rfl en122 (fun w hM => Name_C s M w hM (by omega)) ?_)
  refine R_r (D_not rfl) ?_
  refine R_nil ?_
  refine R_cond rfl (fun h1 => ?_) (fun h1 => ?_)
  ·
    refine R_seq ?_
    refine R_region ?_
    refine R_r (D_assign rfl) ?_
    refine R_nil ?_
    refine R_ret ?_
    refine R_fin1 rfl rfl ?_
    exact ⟨by simp_all, rfl, rfl⟩
  ·
    refine R_skip ?_
    refine R_seq ?_
    refine R_region ?_
    refine R_r (D_assign rfl) ?_
    refine R_nil ?_
    refine R_ret ?_
    refine R_fin1 rfl rfl ?_
    exact ⟨by simp_all, rfl, rfl⟩

theorem Split3_C (s : Str) (most : Int) (M : PMem) (w : World) (hM : Lies M w) (hs : s.length ≤ 1073741824) : Ends Tryz.prog 105 [S s, I most] w [] M (fun v M' H' => H' = [] ∧ ∃ x, v = .tuple #[x, I (splitP s most).2] ∧ StrsAt M' x (splitP s most).1) := by
  refine Ends.enter (H := []) Tryz.func105 rfl Tryz.ntmps105 rfl (St.start hM) ?_
  refine R_seq ?_
  refine R_region ?_
  refine R_r (D_assign rfl) ?_
  refine R_r (D_assign rfl) ?_
  refine R_nil ?_
  refine R_seq ?_
  refine R_seq ?_
  refine R_region ?_
  refine R_r (D_move rfl) ?_
  refine R_r (D_lt rfl rfl) ?_
  refine R_nil ?_
  refine R_join [(0, S s), (1, I (max most 0))] (M' := M) (H' := []) ?_ ?_
  ·
    refine R_cond rfl (fun h1 => ?_) (fun h1 => ?_)
    ·
      have h1p := of_decide_eq_true h1
      refine R_region ?_
      refine R_r (D_assign rfl) ?_
      refine R_nil ?_
      exact R_at (Env.sub_cons rfl <| Env.sub_cons (by show some (I _) = some (I _); congr 2; omega) <| Env.sub_nil _)
    ·
      have h1p := of_decide_eq_false h1
      refine R_skip ?_
      exact R_at (Env.sub_cons rfl <| Env.sub_cons (by show some (I _) = some (I _); congr 2; omega) <| Env.sub_nil _)
  ·
    refine R_seq ?_
    refine R_region ?_
    refine R_r (D_move rfl) ?_
    refine R_o (E_callP rfl rfl en81 (fun w hM => Pieces_C s M w hM (by omega)) (fun vr1 Mr1 Hr1 hler1 hpr1 => ?_))
    obtain ⟨rfl, hpr1⟩ := hpr1
    obtain ⟨ar1, cr1, rfl, hcr1, hsr1⟩ := hpr1.op
    refine R_r (D_assign rfl) ?_
    refine R_nil ?_
    refine R_seq ?_
    refine R_seq ?_
    refine R_region ?_
    refine R_r (D_move rfl) ?_
    refine R_r (D_lenL Tryz.underlying109 rfl) ?_
    refine R_r (D_move rfl) ?_
    refine R_r (D_gt rfl rfl) ?_
    refine R_nil ?_
    refine R_cond rfl (fun h1 => ?_) (fun h1 => ?_)
    ·
      have h1p := of_decide_eq_true h1
      refine R_seq ?_
      refine R_region ?_
      refine R_r (D_assign rfl) ?_
      refine R_r (D_assign rfl) ?_
      refine R_nil ?_
      refine R_ret ?_
      refine R_fin2 rfl rfl rfl ?_
      exact ⟨rfl, _, by rw [splitP, if_pos h1p], by rw [splitP, if_pos h1p]; exact Sl.nil _ _ _⟩
    ·
      have h1p := of_decide_eq_false h1
      refine R_skip ?_
      refine R_seq ?_
      refine R_seq ?_
      refine R_region ?_
      refine R_r (D_assign rfl) ?_
      refine R_nil ?_
      refine R_block ?_
      refine R_loop (σ := (Nat)) (fun gs => ([(6, .slice ar1 ((pieces s).length) cr1), (7, I (gs : Int))], Mr1, [])) (fun gs => gs ≤ (pieces s).length ∧ ((pieces s).take gs).all nameOk = true) (fun gs => (pieces s).length - gs) 0 ?_ (Env.sub_cons rfl <| Env.sub_cons rfl <| Env.sub_nil _) rfl rfl ?_
      · show 0 ≤ (pieces s).length ∧ ((pieces s).take 0).all nameOk = true; exact ⟨by omega, by simp⟩
      rintro i hok
      replace hok : i ≤ (pieces s).length ∧ ((pieces s).take i).all nameOk = true := hok
      show Cx.R _ _ _ [(6, .slice ar1 ((pieces s).length) cr1), (7, I (i : Int))] Mr1 []
      obtain ⟨hi, hall⟩ := hok
      have hpc := pieces_count s
      refine R_seq ?_
      refine R_seq ?_
      refine R_region ?_
      refine R_r (D_move rfl) ?_
      refine R_r (D_move rfl) ?_
      refine R_r (D_lenL Tryz.underlying109 rfl) ?_
      refine R_r (D_lt rfl rfl) ?_
      refine R_nil ?_
      refine R_cond rfl (fun h2 => ?_) (fun h2 => ?_)
      ·
        have h2p := of_decide_eq_true h2
        refine R_skip ?_
        refine R_seq ?_
        refine R_block ?_
        refine R_seq ?_
        refine R_region ?_
        refine R_r (D_move rfl) ?_
        refine R_r (D_move rfl) ?_
        obtain ⟨b2, ob2, csb2, elb2, frb2, rfl, hmb2, hxb2⟩ := hsr1.at (i := i) (by first | omega | (simp; omega))
        obtain ⟨x3, hx3⟩ : ∃ e_, (pieces s)[i]? = some e_ := ⟨_, List.getElem?_eq_getElem (by omega)⟩
        have hex3 := hxb2 i x3 hx3
        refine R_r (D_indexLn (i) Tryz.underlying109 Tryz.sizeOf9 rfl rfl (by first | rfl | omega) (by first | omega | (simp <;> omega))) ?_
        refine R_r (D_load rfl (Has.mem hmb2) (Rd.elem0 (i := i) hex3 Tryz.isAgg9 rfl rfl)) ?_
        refine R_o (E_callV (v := .bool (nameOk x3)) rfl rfl en122 (fun w hM => Name_C x3 Mr1 w hM (by first | omega | (have := pieces_le (List.mem_of_getElem? hx3); omega))) ?_)
        refine R_r (D_not rfl) ?_
        refine R_nil ?_
        refine R_cond rfl (fun h3 => ?_) (fun h3 => ?_)
        ·
          refine R_seq ?_
          refine R_region ?_
          refine R_r (D_assign rfl) ?_
          refine R_r (D_assign rfl) ?_
          refine R_nil ?_
          refine R_ret ?_
          refine R_fin2 rfl rfl rfl ?_
          have hb := all_bad (List.mem_of_getElem? hx3) (by simpa using h3)
          exact ⟨rfl, _, by rw [splitP, if_neg h1p, hb]; rfl, by rw [splitP, if_neg h1p, hb]; exact Sl.nil _ _ _⟩
        ·
          refine R_skip ?_
          refine R_region ?_
          refine R_r (D_move rfl) ?_
          refine R_r (D_add rfl rfl rfl (by omega) (by omega)) ?_
          refine R_r (D_assign rfl) ?_
          refine R_nil ?_
          exact R_back (i + 1) (by show (i + 1) ≤ (pieces s).length ∧ ((pieces s).take (i + 1)).all nameOk = true; exact ⟨by omega, by rw [all_take (by assumption), hall]; simp_all⟩) (by show (pieces s).length - (i + 1) < (pieces s).length - i; omega) (Env.sub_cons rfl <| Env.sub_cons rfl <| Env.sub_nil _) rfl rfl
      ·
        have h2p := of_decide_eq_false h2
        refine R_exit rfl ?_
        refine R_seq ?_
        refine R_region ?_
        refine R_r (D_move rfl) ?_
        refine R_r (D_assign rfl) ?_
        refine R_r (D_assign rfl) ?_
        refine R_nil ?_
        refine R_ret ?_
        refine R_fin2 rfl rfl rfl ?_
        have hb : (pieces s).all nameOk = true := by rw [List.take_of_length_le (by omega)] at hall; exact hall
        exact ⟨rfl, _, by rw [splitP, if_neg h1p, if_pos hb], by rw [splitP, if_neg h1p, if_pos hb]; exact hsr1.sl (by omega)⟩

theorem Path_C (s : Str) (M : PMem) (w : World) (hM : Lies M w) (hs : s.length ≤ 1073741824) : Ends Tryz.prog 78 [S s] w [] M (fun v' M' H' => v' = .bool (decide ((splitP s 64).2 = 0)) ∧ M' = M ∧ H' = []) := by
  refine Ends.enter (H := []) Tryz.func78 rfl Tryz.ntmps78 rfl (St.start hM) ?_
  refine R_seq ?_
  refine R_region ?_
  refine R_r (D_assign rfl) ?_
  refine R_nil ?_
  refine R_seq ?_
  refine R_region ?_
  refine R_r (D_move rfl) ?_
  refine R_o (E_callP rfl rfl en105 (fun w hM => Split3_C s 64 M w hM (by omega)) (fun vr1 Mr1 Hr1 hler1 hpr1 => ?_))
  obtain ⟨rfl, vr1, rfl, hpr1⟩ := hpr1
  obtain ⟨ar1, cr1, rfl, hcr1, hsr1⟩ := hpr1.op
  refine R_r (D_move rfl) ?_
  refine R_r (D_extract rfl rfl) ?_
  refine R_r (D_extract rfl rfl) ?_
  refine R_r (D_assign rfl) ?_
  refine R_r (D_assign rfl) ?_
  refine R_nil ?_
  refine R_seq ?_
  refine R_region ?_
  refine R_r (D_move rfl) ?_
  refine R_r (D_eq rfl rfl) ?_
  refine R_r (D_assign rfl) ?_
  refine R_nil ?_
  refine R_ret ?_
  refine R_less (M := M) (PMem.le_refl _) hler1 ?_
  refine R_fin1 rfl rfl ?_
  exact ⟨rfl, rfl, rfl⟩

theorem Join_C (l : List Str) (a : Option Addr) (c : Nat) (M : PMem) (w : World) (hM : Lies M w) (hc : l.length ≤ c) (hl : SlA M 1 (byEnc fun s : Str => [S s]) a l) (hn : l.length ≤ 4294967296) (hs : (joinP l).length ≤ 4294967296) : Ends Tryz.prog 107 [.slice a l.length c] w [] M (fun v' M' H' => v' = S (joinP l) ∧ M' = M ∧ H' = []) := by
  refine Ends.enter (H := []) Tryz.func107 rfl Tryz.ntmps107 rfl (St.start hM) ?_
  refine R_seq ?_
  refine R_region ?_
  refine R_r (D_assign rfl) ?_
  refine R_nil ?_
  refine R_seq ?_
  refine R_region ?_
  refine R_r (D_assign rfl) ?_
  refine R_nil ?_
  refine R_seq ?_
  refine R_seq ?_
  refine R_region ?_
  refine R_r (D_assign rfl) ?_
  refine R_nil ?_
  refine R_block ?_
  refine R_loop (σ := (Nat)) (fun gs => ([(0, .slice a l.length c), (3, S (joinP (l.take gs))), (4, I (gs : Int))], M, [])) (fun gs => gs ≤ l.length) (fun gs => l.length - gs) 0 ?_ (Env.sub_cons rfl <| Env.sub_cons rfl <| Env.sub_cons rfl <| Env.sub_nil _) rfl rfl ?_
  · show 0 ≤ l.length; omega
  rintro i hok
  replace hok : i ≤ l.length := hok
  show Cx.R _ _ _ [(0, .slice a l.length c), (3, S (joinP (l.take i))), (4, I (i : Int))] M []
  have hj := joinP_take_le l i
  refine R_seq ?_
  refine R_seq ?_
  refine R_region ?_
  refine R_r (D_move rfl) ?_
  refine R_r (D_move rfl) ?_
  refine R_r (D_lenL Tryz.underlying109 rfl) ?_
  refine R_r (D_lt rfl rfl) ?_
  refine R_nil ?_
  refine R_cond rfl (fun h1 => ?_) (fun h1 => ?_)
  ·
    have h1p := of_decide_eq_true h1
    refine R_skip ?_
    refine R_seq ?_
    refine R_block ?_
    refine R_seq ?_
    refine R_seq ?_
    refine R_region ?_
    refine R_r (D_move rfl) ?_
    refine R_r (D_gt rfl rfl) ?_
    refine R_nil ?_
    refine R_cond rfl (fun h2 => ?_) (fun h2 => ?_)
    ·
      have h2p := of_decide_eq_true h2
      refine R_region ?_
      refine R_r (D_move rfl) ?_
      refine R_r (D_addS rfl rfl (by simp; omega)) ?_
      refine R_r (D_assign rfl) ?_
      refine R_nil ?_
      refine R_region ?_
      refine R_r (D_move rfl) ?_
      refine R_r (D_move rfl) ?_
      refine R_r (D_move rfl) ?_
      obtain ⟨b1, ob1, csb1, elb1, frb1, rfl, hmb1, hxb1⟩ := hl.at (i := i) (by first | omega | (simp; omega))
      obtain ⟨x2, hx2⟩ : ∃ e_, l[i]? = some e_ := ⟨_, List.getElem?_eq_getElem (by omega)⟩
      have hex2 := hxb1 i x2 hx2
      refine R_r (D_indexLn (i) Tryz.underlying109 Tryz.sizeOf9 rfl rfl (by first | rfl | omega) (by first | omega | (simp <;> omega))) ?_
      refine R_r (D_load rfl (Has.mem hmb1) (Rd.elem0 (i := i) hex2 Tryz.isAgg9 rfl rfl)) ?_
      refine R_r (D_addS rfl rfl (by have := joinP_mem_le (List.mem_of_getElem? hx2); simp; omega)) ?_
      refine R_r (D_assign rfl) ?_
      refine R_nil ?_
      refine R_region ?_
      refine R_r (D_move rfl) ?_
      refine R_r (D_add rfl rfl rfl (by omega) (by omega)) ?_
      refine R_r (D_assign rfl) ?_
      refine R_nil ?_
      exact R_back (i + 1) (by show (i + 1) ≤ l.length; omega) (by show l.length - (i + 1) < l.length - i; omega) (Env.sub_cons rfl <| Env.sub_cons (by show some (S _) = some (S _); first | rw [joinP_step (by assumption) (by omega)] | rw [joinP_step0 (by assumption) (by omega)]) <| Env.sub_cons rfl <| Env.sub_nil _) rfl rfl
    ·
      have h2p := of_decide_eq_false h2
      refine R_skip ?_
      refine R_region ?_
      refine R_r (D_move rfl) ?_
      refine R_r (D_move rfl) ?_
      refine R_r (D_move rfl) ?_
      obtain ⟨b3, ob3, csb3, elb3, frb3, rfl, hmb3, hxb3⟩ := hl.at (i := i) (by first | omega | (simp; omega))
      obtain ⟨x4, hx4⟩ : ∃ e_, l[i]? = some e_ := ⟨_, List.getElem?_eq_getElem (by omega)⟩
      have hex4 := hxb3 i x4 hx4
      refine R_r (D_indexLn (i) Tryz.underlying109 Tryz.sizeOf9 rfl rfl (by first | rfl | omega) (by first | omega | (simp <;> omega))) ?_
      refine R_r (D_load rfl (Has.mem hmb3) (Rd.elem0 (i := i) hex4 Tryz.isAgg9 rfl rfl)) ?_
      refine R_r (D_addS rfl rfl (by have := joinP_mem_le (List.mem_of_getElem? hx4); simp; omega)) ?_
      refine R_r (D_assign rfl) ?_
      refine R_nil ?_
      refine R_region ?_
      refine R_r (D_move rfl) ?_
      refine R_r (D_add rfl rfl rfl (by omega) (by omega)) ?_
      refine R_r (D_assign rfl) ?_
      refine R_nil ?_
      exact R_back (i + 1) (by show (i + 1) ≤ l.length; omega) (by show l.length - (i + 1) < l.length - i; omega) (Env.sub_cons rfl <| Env.sub_cons (by show some (S _) = some (S _); first | rw [joinP_step (by assumption) (by omega)] | rw [joinP_step0 (by assumption) (by omega)]) <| Env.sub_cons rfl <| Env.sub_nil _) rfl rfl
  ·
    have h1p := of_decide_eq_false h1
    refine R_exit rfl ?_
    refine R_seq ?_
    refine R_region ?_
    refine R_r (D_move rfl) ?_
    refine R_r (D_assign rfl) ?_
    refine R_nil ?_
    refine R_ret ?_
    refine R_fin1 rfl rfl ?_
    exact ⟨by rw [List.take_of_length_le (by omega)], rfl, rfl⟩

theorem below3_C (a b : Str) (M : PMem) (w : World) (hM : Lies M w) (ha : a.length ≤ 4294967296) (hb : b.length ≤ 4294967296) : Ends Tryz.prog 82 [S a, S b] w [] M (fun v' M' H' => v' = .bool (Op.bytesLess a b) ∧ M' = M ∧ H' = []) := by
  refine Ends.enter (H := []) Tryz.func82 rfl Tryz.ntmps82 rfl (St.start hM) ?_
  refine R_seq ?_
  refine R_region ?_
  refine R_r (D_assign rfl) ?_
  refine R_nil ?_
  refine R_seq ?_
  refine R_seq ?_
  refine R_region ?_
  refine R_r (D_assign rfl) ?_
  refine R_nil ?_
  refine R_block ?_
  refine R_loop (σ := (Nat)) (fun gs => ([(0, S a), (1, S b), (5, I (gs : Int))], M, [])) (fun gs => gs ≤ a.length ∧ gs ≤ b.length ∧ a.take gs = b.take gs) (fun gs => a.length - gs) 0 ?_ (Env.sub_cons rfl <| Env.sub_cons rfl <| Env.sub_cons rfl <| Env.sub_nil _) rfl rfl ?_
  · show 0 ≤ a.length ∧ 0 ≤ b.length ∧ a.take 0 = b.take 0; exact ⟨by omega, by omega, by simp⟩
  rintro i hok
  replace hok : i ≤ a.length ∧ i ≤ b.length ∧ a.take i = b.take i := hok
  show Cx.R _ _ _ [(0, S a), (1, S b), (5, I (i : Int))] M []
  obtain ⟨hi, hi2, ht⟩ := hok
  refine R_seq ?_
  refine R_seq ?_
  refine R_join [(0, S a), (1, S b), (5, I (i : Int)), (15, .bool ((decide ((i : Int) < (a.length : Int))) && (decide ((i : Int) < (b.length : Int)))))] (M' := M) (H' := []) ?_ ?_
  ·
    refine R_region ?_
    refine R_r (D_move rfl) ?_
    refine R_r (D_move rfl) ?_
    refine R_r (D_lenS Tryz.underlying9 rfl) ?_
    refine R_r (D_lt rfl rfl) ?_
    refine R_r (D_move rfl) ?_
    refine R_split 10 rfl (fun h1 => ?_) (fun h1 => ?_)
    ·
      have h1p := of_decide_eq_true h1
      refine R_r (D_move rfl) ?_
      refine R_r (D_move rfl) ?_
      refine R_r (D_lenS Tryz.underlying9 rfl) ?_
      refine R_r (D_lt rfl rfl) ?_
      refine R_r (D_pick true rfl rfl) ?_
      refine R_nil ?_
      exact R_at (Env.sub_cons rfl <| Env.sub_cons rfl <| Env.sub_cons rfl <| Env.sub_cons (by first | (show some (Value.bool _) = some (Value.bool _); simp only [h1, Bool.true_and, Bool.false_and, Bool.true_or, Bool.false_or, Bool.and_true, Bool.and_false, Bool.or_true, Bool.or_false]; done) | (show some (Value.bool _) = some (Value.bool _); (try rw [h1]); first | done | rfl) | simp [h1, Env.find]) <| Env.sub_nil _)
    ·
      have h1p := of_decide_eq_false h1
      refine R_skipop rfl rfl rfl ?_
      refine R_skipop rfl rfl rfl ?_
      refine R_skipop rfl rfl rfl ?_
      refine R_skipop rfl rfl rfl ?_
      refine R_r (D_pick false rfl rfl) ?_
      refine R_nil ?_
      exact R_at (Env.sub_cons rfl <| Env.sub_cons rfl <| Env.sub_cons rfl <| Env.sub_cons (by first | (show some (Value.bool _) = some (Value.bool _); simp only [h1, Bool.true_and, Bool.false_and, Bool.true_or, Bool.false_or, Bool.and_true, Bool.and_false, Bool.or_true, Bool.or_false]; done) | (show some (Value.bool _) = some (Value.bool _); (try rw [h1]); first | done | rfl) | simp [h1, Env.find]) <| Env.sub_nil _)
  ·
    refine R_cond rfl (fun h1 => ?_) (fun h1 => ?_)
    ·
      have h1p := h1; simp only [Bool.and_eq_true, Bool.or_eq_true, Bool.not_eq_true', Bool.and_eq_false_imp, Bool.or_eq_false_iff, Bool.not_eq_false', decide_eq_true_eq, decide_eq_false_iff_not] at h1p
      refine R_skip ?_
      refine R_seq ?_
      refine R_block ?_
      refine R_seq ?_
      refine Y_region [] mixed ?_
      refine Y_r 0 rfl (D_move rfl) ?_
      refine Y_r 1 rfl (D_move rfl) ?_
      obtain ⟨c1, hc1⟩ : ∃ e_, a[i]? = some e_ := ⟨_, List.getElem?_eq_getElem (by omega)⟩
      refine Y_r 2 rfl (D_indexN (i) Tryz.underlying9 rfl rfl (by first | rfl | omega) hc1) ?_
      refine Y_r 3 rfl (D_move rfl) ?_
      refine Y_r 4 rfl (D_move rfl) ?_
      obtain ⟨c2, hc2⟩ : ∃ e_, b[i]? = some e_ := ⟨_, List.getElem?_eq_getElem (by omega)⟩
      refine Y_r 5 rfl (D_indexN (i) Tryz.underlying9 rfl rfl (by first | rfl | omega) hc2) ?_
      refine Y_r 6 rfl (D_ne rfl rfl) ?_
      refine Y_nil ?_ (PMem.le_refl _) (fun _ h => List.Sublist.subset (.slnil) h)
      refine R_cond rfl (fun h2 => ?_) (fun h2 => ?_)
      ·
        have h2p : ¬ ((c1.toNat : Int) = (c2.toNat : Int)) := by simpa using h2
        refine R_seq ?_
        refine Y_region [] mixed ?_
        refine Y_r 0 rfl (D_move rfl) ?_
        refine Y_r 1 rfl (D_move rfl) ?_
        refine Y_r 2 rfl (D_indexN (i) Tryz.underlying9 rfl rfl (by first | rfl | omega) hc1) ?_
        refine Y_r 3 rfl (D_move rfl) ?_
        refine Y_r 4 rfl (D_move rfl) ?_
        refine Y_r 5 rfl (D_indexN (i) Tryz.underlying9 rfl rfl (by first | rfl | omega) hc2) ?_
        refine Y_r 6 rfl (D_lt rfl rfl) ?_
        refine Y_r 7 rfl (D_assign rfl) ?_
        refine Y_nil ?_ (PMem.le_refl _) (fun _ h => List.Sublist.subset (.slnil) h)
        refine R_ret ?_
        refine R_fin1 rfl rfl ?_
        exact ⟨by rw [less_at ht (by assumption) (by assumption) (fun e => h2p (by subst e; rfl))]; simp, rfl, rfl⟩
      ·
        have h2p : ((c1.toNat : Int) = (c2.toNat : Int)) := by simpa using h2
        refine R_skip ?_
        refine R_region ?_
        refine R_r (D_move rfl) ?_
        refine R_r (D_add rfl rfl rfl (by omega) (by omega)) ?_
        refine R_r (D_assign rfl) ?_
        refine R_nil ?_
        exact R_back (i + 1) (by show (i + 1) ≤ a.length ∧ (i + 1) ≤ b.length ∧ a.take (i + 1) = b.take (i + 1); exact ⟨by omega, by omega, take_step ht (by assumption) (by have e := UInt8.toNat_inj.1 (Int.ofNat_inj.1 h2p); subst e; assumption)⟩) (by show a.length - (i + 1) < a.length - i; omega) (Env.sub_cons rfl <| Env.sub_cons rfl <| Env.sub_cons rfl <| Env.sub_nil _) rfl rfl
    ·
      have h1p := h1; simp only [Bool.and_eq_true, Bool.or_eq_true, Bool.not_eq_true', Bool.and_eq_false_imp, Bool.or_eq_false_iff, Bool.not_eq_false', decide_eq_true_eq, decide_eq_false_iff_not] at h1p
      refine R_exit rfl ?_
      refine R_seq ?_
      refine R_region ?_
      refine R_r (D_move rfl) ?_
      refine R_r (D_lenS Tryz.underlying9 rfl) ?_
      refine R_r (D_move rfl) ?_
      refine R_r (D_lenS Tryz.underlying9 rfl) ?_
      refine R_r (D_lt rfl rfl) ?_
      refine R_r (D_assign rfl) ?_
      refine R_nil ?_
      refine R_ret ?_
      refine R_fin1 rfl rfl ?_
      exact ⟨by rw [less_pre (by rw [show min a.length b.length = i from by omega]; exact ht)]; simp, rfl, rfl⟩

theorem Compare3_C (a b : Str) (M : PMem) (w : World) (hM : Lies M w) (ha : a.length ≤ 1073741824) (hb : b.length ≤ 1073741824) : Ends Tryz.prog 38 [S a, S b] w [] M (fun v' M' H' => v' = I (cmpP a b) ∧ M' = M ∧ H' = []) := by
  refine Ends.enter (H := []) Tryz.func38 rfl Tryz.ntmps38 rfl (St.start hM) ?_
  refine R_seq ?_
  refine R_region ?_
  refine R_r (D_assign rfl) ?_
  refine R_nil ?_
  refine R_seq ?_
  refine R_region ?_
  refine R_r (D_move rfl) ?_
  refine R_o (E_callP rfl rfl en81 (fun w hM => Pieces_C a M w hM (by omega)) (fun vr1 Mr1 Hr1 hler1 hpr1 => ?_))
  obtain ⟨rfl, hpr1⟩ := hpr1
  obtain ⟨ar1, cr1, rfl, hcr1, hsr1⟩ := hpr1.op
  refine R_r (D_move rfl) ?_
  refine R_o (E_callP rfl rfl en81 (fun w hM => Pieces_C b Mr1 w hM (by omega)) (fun vr2 Mr2 Hr2 hler2 hpr2 => ?_))
  have q3 := SlA.le hsr1 hler2
  obtain ⟨rfl, hpr2⟩ := hpr2
  obtain ⟨ar2, cr2, rfl, hcr2, hsr2⟩ := hpr2.op
  refine R_r (D_assign rfl) ?_
  refine R_r (D_assign rfl) ?_
  refine R_nil ?_
  refine R_seq ?_
  refine R_seq ?_
  refine R_region ?_
  refine R_r (D_assign rfl) ?_
  refine R_nil ?_
  refine R_block ?_
  refine R_loop (σ := (Nat)) (fun gs => ([(5, .slice ar1 ((pieces a).length) cr1), (6, .slice ar2 ((pieces b).length) cr2), (7, I (gs : Int))], Mr2, [])) (fun gs => gs ≤ (pieces a).length ∧ gs ≤ (pieces b).length ∧ (pieces a).take gs = (pieces b).take gs) (fun gs => (pieces a).length - gs) 0 ?_ (Env.sub_cons rfl <| Env.sub_cons rfl <| Env.sub_cons rfl <| Env.sub_nil _) rfl rfl ?_
  · show 0 ≤ (pieces a).length ∧ 0 ≤ (pieces b).length ∧ (pieces a).take 0 = (pieces b).take 0; exact ⟨by omega, by omega, by simp⟩
  rintro i hok
  replace hok : i ≤ (pieces a).length ∧ i ≤ (pieces b).length ∧ (pieces a).take i = (pieces b).take i := hok
  show Cx.R _ _ _ [(5, .slice ar1 ((pieces a).length) cr1), (6, .slice ar2 ((pieces b).length) cr2), (7, I (i : Int))] Mr2 []
  obtain ⟨hi, hi2, ht⟩ := hok
  have hpa := pieces_count a
  have hpb := pieces_count b
  refine R_seq ?_
  refine R_seq ?_
  refine R_join [(5, .slice ar1 ((pieces a).length) cr1), (6, .slice ar2 ((pieces b).length) cr2), (7, I (i : Int)), (21, .bool ((decide ((i : Int) < ((pieces a).length : Int))) && (decide ((i : Int) < ((pieces b).length : Int)))))] (M' := Mr2) (H' := []) ?_ ?_
  ·
    refine R_region ?_
    refine R_r (D_move rfl) ?_
    refine R_r (D_move rfl) ?_
    refine R_r (D_lenL Tryz.underlying109 rfl) ?_
    refine R_r (D_lt rfl rfl) ?_
    refine R_r (D_move rfl) ?_
    refine R_split 16 rfl (fun h1 => ?_) (fun h1 => ?_)
    ·
      have h1p := of_decide_eq_true h1
      refine R_r (D_move rfl) ?_
      refine R_r (D_move rfl) ?_
      refine R_r (D_lenL Tryz.underlying109 rfl) ?_
      refine R_r (D_lt rfl rfl) ?_
      refine R_r (D_pick true rfl rfl) ?_
      refine R_nil ?_
      exact R_at (Env.sub_cons rfl <| Env.sub_cons rfl <| Env.sub_cons rfl <| Env.sub_cons (by first | (show some (Value.bool _) = some (Value.bool _); simp only [h1, Bool.true_and, Bool.false_and, Bool.true_or, Bool.false_or, Bool.and_true, Bool.and_false, Bool.or_true, Bool.or_false]; done) | (show some (Value.bool _) = some (Value.bool _); (try rw [h1]); first | done | rfl) | simp [h1, Env.find]) <| Env.sub_nil _)
    ·
      have h1p := of_decide_eq_false h1
      refine R_skipop rfl rfl rfl ?_
      refine R_skipop rfl rfl rfl ?_
      refine R_skipop rfl rfl rfl ?_
      refine R_skipop rfl rfl rfl ?_
      refine R_r (D_pick false rfl rfl) ?_
      refine R_nil ?_
      exact R_at (Env.sub_cons rfl <| Env.sub_cons rfl <| Env.sub_cons rfl <| Env.sub_cons (by first | (show some (Value.bool _) = some (Value.bool _); simp only [h1, Bool.true_and, Bool.false_and, Bool.true_or, Bool.false_or, Bool.and_true, Bool.and_false, Bool.or_true, Bool.or_false]; done) | (show some (Value.bool _) = some (Value.bool _); (try rw [h1]); first | done | rfl) | simp [h1, Env.find]) <| Env.sub_nil _)
  ·
    refine R_cond rfl (fun h1 => ?_) (fun h1 => ?_)
    ·
      have h1p := h1; simp only [Bool.and_eq_true, Bool.or_eq_true, Bool.not_eq_true', Bool.and_eq_false_imp, Bool.or_eq_false_iff, Bool.not_eq_false', decide_eq_true_eq, decide_eq_false_iff_not] at h1p
      refine R_skip ?_
      refine R_seq ?_
      refine R_block ?_
      refine R_seq ?_
      refine R_seq ?_
      refine Y_region [] mixed ?_
      refine Y_r 0 rfl (D_move rfl) ?_
      refine Y_r 1 rfl (D_move rfl) ?_
      obtain ⟨b4, ob4, csb4, elb4, frb4, rfl, hmb4, hxb4⟩ := q3.at (i := i) (by first | omega | (simp; omega))
      obtain ⟨x5, hx5⟩ : ∃ e_, (pieces a)[i]? = some e_ := ⟨_, List.getElem?_eq_getElem (by omega)⟩
      have hex5 := hxb4 i x5 hx5
      refine Y_r 2 rfl (D_indexLn (i) Tryz.underlying109 Tryz.sizeOf9 rfl rfl (by first | rfl | omega) (by first | omega | (simp <;> omega))) ?_
      refine Y_r 3 rfl (D_load rfl (Has.mem hmb4) (Rd.elem0 (i := i) hex5 Tryz.isAgg9 rfl rfl)) ?_
      refine Y_r 4 rfl (D_move rfl) ?_
      refine Y_r 5 rfl (D_move rfl) ?_
      obtain ⟨b6, ob6, csb6, elb6, frb6, rfl, hmb6, hxb6⟩ := hsr2.at (i := i) (by first | omega | (simp; omega))
      obtain ⟨x7, hx7⟩ : ∃ e_, (pieces b)[i]? = some e_ := ⟨_, List.getElem?_eq_getElem (by omega)⟩
      have hex7 := hxb6 i x7 hx7
      refine Y_r 6 rfl (D_indexLn (i) Tryz.underlying109 Tryz.sizeOf9 rfl rfl (by first | rfl | omega) (by first | omega | (simp <;> omega))) ?_
      refine Y_r 7 rfl (D_load rfl (Has.mem hmb6) (Rd.elem0 (i := i) hex7 Tryz.isAgg9 rfl rfl)) ?_
      refine Y_o 8 rfl (E_callV (v := .bool (Op.bytesLess x5 x7)) rfl rfl en82 (fun w hM => below3_C x5 x7 Mr2 w hM (by have := pieces_le (List.mem_of_getElem? hx5); omega) (by have := pieces_le (List.mem_of_getElem? hx7); omega)) ?_) (PMem.le_refl _) (fun _ h => List.Sublist.subset (.slnil) h)
      refine Y_go _ (PMem.le_refl _) (fun _ h => List.Sublist.subset (.slnil) h) (fun _ h => h) ?_
      refine Y_nil ?_ (PMem.le_refl _) (fun _ h => List.Sublist.subset (.slnil) h)
      refine R_cond rfl (fun h2 => ?_) (fun h2 => ?_)
      ·
        refine R_seq ?_
        refine R_region ?_
        refine R_r (D_assign rfl) ?_
        refine R_nil ?_
        refine R_ret ?_
        refine R_less (M := M) (PMem.le_refl _) (PMem.le_trans hler1 hler2) ?_
        refine R_fin1 rfl rfl ?_
        exact ⟨by rw [cmpP, cmpL_at ht (by assumption) (by assumption)]; simp_all, rfl, rfl⟩
      ·
        refine R_skip ?_
        refine R_seq ?_
        refine Y_region [] mixed ?_
        refine Y_r 0 rfl (D_move rfl) ?_
        refine Y_r 1 rfl (D_move rfl) ?_
        refine Y_r 2 rfl (D_indexLn (i) Tryz.underlying109 Tryz.sizeOf9 rfl rfl (by first | rfl | omega) (by first | omega | (simp <;> omega))) ?_
        refine Y_r 3 rfl (D_load rfl (Has.mem hmb6) (Rd.elem0 (i := i) hex7 Tryz.isAgg9 rfl rfl)) ?_
        refine Y_r 4 rfl (D_move rfl) ?_
        refine Y_r 5 rfl (D_move rfl) ?_
        refine Y_r 6 rfl (D_indexLn (i) Tryz.underlying109 Tryz.sizeOf9 rfl rfl (by first | rfl | omega) (by first | omega | (simp <;> omega))) ?_
        refine Y_r 7 rfl (D_load rfl (Has.mem hmb4) (Rd.elem0 (i := i) hex5 Tryz.isAgg9 rfl rfl)) ?_
        refine Y_o 8 rfl (E_callV (v := .bool (Op.bytesLess x7 x5)) rfl rfl en82 (fun w hM => below3_C x7 x5 Mr2 w hM (by have := pieces_le (List.mem_of_getElem? hx7); omega) (by have := pieces_le (List.mem_of_getElem? hx5); omega)) ?_) (PMem.le_refl _) (fun _ h => List.Sublist.subset (.slnil) h)
        refine Y_go _ (PMem.le_refl _) (fun _ h => List.Sublist.subset (.slnil) h) (fun _ h => h) ?_
        refine Y_nil ?_ (PMem.le_refl _) (fun _ h => List.Sublist.subset (.slnil) h)
        refine R_cond rfl (fun h3 => ?_) (fun h3 => ?_)
        ·
          refine R_seq ?_
          refine R_region ?_
          refine R_r (D_assign rfl) ?_
          refine R_nil ?_
          refine R_ret ?_
          refine R_less (M := M) (PMem.le_refl _) (PMem.le_trans hler1 hler2) ?_
          refine R_fin1 rfl rfl ?_
          exact ⟨by rw [cmpP, cmpL_at ht (by assumption) (by assumption)]; simp_all, rfl, rfl⟩
        ·
          refine R_skip ?_
          refine R_region ?_
          refine R_r (D_move rfl) ?_
          refine R_r (D_add rfl rfl rfl (by omega) (by omega)) ?_
          refine R_r (D_assign rfl) ?_
          refine R_nil ?_
          exact R_back (i + 1) (by show (i + 1) ≤ (pieces a).length ∧ (i + 1) ≤ (pieces b).length ∧ (pieces a).take (i + 1) = (pieces b).take (i + 1); exact ⟨by omega, by omega, take_step ht (by assumption) (by have e := less_tri h2 h3; subst e; assumption)⟩) (by show (pieces a).length - (i + 1) < (pieces a).length - i; omega) (Env.sub_cons rfl <| Env.sub_cons rfl <| Env.sub_cons rfl <| Env.sub_nil _) rfl rfl
    ·
      have h1p := h1; simp only [Bool.and_eq_true, Bool.or_eq_true, Bool.not_eq_true', Bool.and_eq_false_imp, Bool.or_eq_false_iff, Bool.not_eq_false', decide_eq_true_eq, decide_eq_false_iff_not] at h1p
      refine R_exit rfl ?_
      refine R_seq ?_
      refine R_seq ?_
      refine R_region ?_
      refine R_r (D_move rfl) ?_
      refine R_r (D_lenL Tryz.underlying109 rfl) ?_
      refine R_r (D_move rfl) ?_
      refine R_r (D_lenL Tryz.underlying109 rfl) ?_
      refine R_r (D_lt rfl rfl) ?_
      refine R_nil ?_
      refine R_cond rfl (fun h2 => ?_) (fun h2 => ?_)
      ·
        have h2p := of_decide_eq_true h2
        refine R_seq ?_
        refine R_region ?_
        refine R_r (D_assign rfl) ?_
        refine R_nil ?_
        refine R_ret ?_
        refine R_less (M := M) (PMem.le_refl _) (PMem.le_trans hler1 hler2) ?_
        refine R_fin1 rfl rfl ?_
        exact ⟨by rw [cmpP, cmpL_end (by rw [show min (pieces a).length (pieces b).length = i from by omega]; exact ht)]; congr 1; split <;> (try split) <;> omega, rfl, rfl⟩
      ·
        have h2p := of_decide_eq_false h2
        refine R_skip ?_
        refine R_seq ?_
        refine R_seq ?_
        refine R_region ?_
        refine R_r (D_move rfl) ?_
        refine R_r (D_lenL Tryz.underlying109 rfl) ?_
        refine R_r (D_move rfl) ?_
        refine R_r (D_lenL Tryz.underlying109 rfl) ?_
        refine R_r (D_gt rfl rfl) ?_
        refine R_nil ?_
        refine R_cond rfl (fun h3 => ?_) (fun h3 => ?_)
        ·
          have h3p := of_decide_eq_true h3
          refine R_seq ?_
          refine R_region ?_
          refine R_r (D_assign rfl) ?_
          refine R_nil ?_
          refine R_ret ?_
          refine R_less (M := M) (PMem.le_refl _) (PMem.le_trans hler1 hler2) ?_
          refine R_fin1 rfl rfl ?_
          exact ⟨by rw [cmpP, cmpL_end (by rw [show min (pieces a).length (pieces b).length = i from by omega]; exact ht)]; congr 1; split <;> (try split) <;> omega, rfl, rfl⟩
        ·
          have h3p := of_decide_eq_false h3
          refine R_skip ?_
          refine R_seq ?_
          refine R_region ?_
          refine R_r (D_assign rfl) ?_
          refine R_nil ?_
          refine R_ret ?_
          refine R_less (M := M) (PMem.le_refl _) (PMem.le_trans hler1 hler2) ?_
          refine R_fin1 rfl rfl ?_
          exact ⟨by rw [cmpP, cmpL_end (by rw [show min (pieces a).length (pieces b).length = i from by omega]; exact ht)]; congr 1; split <;> (try split) <;> omega, rfl, rfl⟩

theorem Under_C (a b : Str) (M : PMem) (w : World) (hM : Lies M w) (ha : a.length ≤ 1073741824) (hb : b.length ≤ 1073741824) : Ends Tryz.prog 108 [S a, S b] w [] M (fun v' M' H' => v' = .bool (underP a b) ∧ M' = M ∧ H' = []) := by
  refine Ends.enter (H := []) Tryz.func108 rfl Tryz.ntmps108 rfl (St.start hM) ?_
  refine R_seq ?_
  refine R_region ?_
  refine R_r (D_assign rfl) ?_
  refine R_nil ?_
  refine R_seq ?_
  refine R_region ?_
  refine R_r (D_move rfl) ?_
  refine R_o (E_callP rfl rfl en81 (fun w hM => Pieces_C a M w hM (by omega)) (fun vr1 Mr1 Hr1 hler1 hpr1 => ?_))
  obtain ⟨rfl, hpr1⟩ := hpr1
  obtain ⟨ar1, cr1, rfl, hcr1, hsr1⟩ := hpr1.op
  refine R_r (D_move rfl) ?_
  refine R_o (E_callP rfl rfl en81 (fun w hM => Pieces_C b Mr1 w hM (by omega)) (fun vr2 Mr2 Hr2 hler2 hpr2 => ?_))
  have q3 := SlA.le hsr1 hler2
  obtain ⟨rfl, hpr2⟩ := hpr2
  obtain ⟨ar2, cr2, rfl, hcr2, hsr2⟩ := hpr2.op
  refine R_r (D_assign rfl) ?_
  refine R_r (D_assign rfl) ?_
  refine R_nil ?_
  refine R_seq ?_
  refine R_seq ?_
  refine R_region ?_
  refine R_r (D_move rfl) ?_
  refine R_r (D_lenL Tryz.underlying109 rfl) ?_
  refine R_r (D_move rfl) ?_
  refine R_r (D_lenL Tryz.underlying109 rfl) ?_
  refine R_r (D_gt rfl rfl) ?_
  refine R_nil ?_
  refine R_cond rfl (fun h1 => ?_) (fun h1 => ?_)
  ·
    have h1p := of_decide_eq_true h1
    refine R_seq ?_
    refine R_region ?_
    refine R_r (D_assign rfl) ?_
    refine R_nil ?_
    refine R_ret ?_
    refine R_less (M := M) (PMem.le_refl _) (PMem.le_trans hler1 hler2) ?_
    refine R_fin1 rfl rfl ?_
    exact ⟨by rw [underP_len (by omega)], rfl, rfl⟩
  ·
    have h1p := of_decide_eq_false h1
    refine R_skip ?_
    refine R_seq ?_
    refine R_seq ?_
    refine R_region ?_
    refine R_r (D_assign rfl) ?_
    refine R_nil ?_
    refine R_block ?_
    refine R_loop (σ := (Nat)) (fun gs => ([(5, .slice ar1 ((pieces a).length) cr1), (6, .slice ar2 ((pieces b).length) cr2), (7, I (gs : Int))], Mr2, [])) (fun gs => gs ≤ (pieces b).length ∧ (pieces a).take gs = (pieces b).take gs) (fun gs => (pieces b).length - gs) 0 ?_ (Env.sub_cons rfl <| Env.sub_cons rfl <| Env.sub_cons rfl <| Env.sub_nil _) rfl rfl ?_
    · show 0 ≤ (pieces b).length ∧ (pieces a).take 0 = (pieces b).take 0; exact ⟨by omega, by simp⟩
    rintro i hok
    replace hok : i ≤ (pieces b).length ∧ (pieces a).take i = (pieces b).take i := hok
    show Cx.R _ _ _ [(5, .slice ar1 ((pieces a).length) cr1), (6, .slice ar2 ((pieces b).length) cr2), (7, I (i : Int))] Mr2 []
    obtain ⟨hi, ht⟩ := hok
    have hpa := pieces_count a
    have hpb := pieces_count b
    refine R_seq ?_
    refine R_seq ?_
    refine R_region ?_
    refine R_r (D_move rfl) ?_
    refine R_r (D_move rfl) ?_
    refine R_r (D_lenL Tryz.underlying109 rfl) ?_
    refine R_r (D_lt rfl rfl) ?_
    refine R_nil ?_
    refine R_cond rfl (fun h2 => ?_) (fun h2 => ?_)
    ·
      have h2p := of_decide_eq_true h2
      refine R_skip ?_
      refine R_seq ?_
      refine R_block ?_
      refine R_seq ?_
      refine Y_region [] mixed ?_
      refine Y_r 0 rfl (D_move rfl) ?_
      refine Y_r 1 rfl (D_move rfl) ?_
      obtain ⟨b4, ob4, csb4, elb4, frb4, rfl, hmb4, hxb4⟩ := q3.at (i := i) (by first | omega | (simp; omega))
      obtain ⟨x5, hx5⟩ : ∃ e_, (pieces a)[i]? = some e_ := ⟨_, List.getElem?_eq_getElem (by omega)⟩
      have hex5 := hxb4 i x5 hx5
      refine Y_r 2 rfl (D_indexLn (i) Tryz.underlying109 Tryz.sizeOf9 rfl rfl (by first | rfl | omega) (by first | omega | (simp <;> omega))) ?_
      refine Y_r 3 rfl (D_load rfl (Has.mem hmb4) (Rd.elem0 (i := i) hex5 Tryz.isAgg9 rfl rfl)) ?_
      refine Y_r 4 rfl (D_move rfl) ?_
      refine Y_r 5 rfl (D_move rfl) ?_
      obtain ⟨b6, ob6, csb6, elb6, frb6, rfl, hmb6, hxb6⟩ := hsr2.at (i := i) (by first | omega | (simp; omega))
      obtain ⟨x7, hx7⟩ : ∃ e_, (pieces b)[i]? = some e_ := ⟨_, List.getElem?_eq_getElem (by omega)⟩
      have hex7 := hxb6 i x7 hx7
      refine Y_r 6 rfl (D_indexLn (i) Tryz.underlying109 Tryz.sizeOf9 rfl rfl (by first | rfl | omega) (by first | omega | (simp <;> omega))) ?_
      refine Y_r 7 rfl (D_load rfl (Has.mem hmb6) (Rd.elem0 (i := i) hex7 Tryz.isAgg9 rfl rfl)) ?_
      refine Y_r 8 rfl (D_neS rfl rfl) ?_
      refine Y_nil ?_ (PMem.le_refl _) (fun _ h => List.Sublist.subset (.slnil) h)
      refine R_cond rfl (fun h3 => ?_) (fun h3 => ?_)
      ·
        have h3p : ¬ (x5 = x7) := by simpa using h3
        refine R_seq ?_
        refine R_region ?_
        refine R_r (D_assign rfl) ?_
        refine R_nil ?_
        refine R_ret ?_
        refine R_less (M := M) (PMem.le_refl _) (PMem.le_trans hler1 hler2) ?_
        refine R_fin1 rfl rfl ?_
        exact ⟨by rw [underP_at ht (by assumption) (by assumption) (by simpa using h3)], rfl, rfl⟩
      ·
        have h3p : (x5 = x7) := by simpa using h3
        refine R_skip ?_
        refine R_region ?_
        refine R_r (D_move rfl) ?_
        refine R_r (D_add rfl rfl rfl (by omega) (by omega)) ?_
        refine R_r (D_assign rfl) ?_
        refine R_nil ?_
        exact R_back (i + 1) (by show (i + 1) ≤ (pieces b).length ∧ (pieces a).take (i + 1) = (pieces b).take (i + 1); exact ⟨by omega, take_step ht (by assumption) (by simp_all)⟩) (by show (pieces b).length - (i + 1) < (pieces b).length - i; omega) (Env.sub_cons rfl <| Env.sub_cons rfl <| Env.sub_cons rfl <| Env.sub_nil _) rfl rfl
    ·
      have h2p := of_decide_eq_false h2
      refine R_exit rfl ?_
      refine R_seq ?_
      refine R_region ?_
      refine R_r (D_assign rfl) ?_
      refine R_nil ?_
      refine R_ret ?_
      refine R_less (M := M) (PMem.le_refl _) (PMem.le_trans hler1 hler2) ?_
      refine R_fin1 rfl rfl ?_
      exact ⟨by rw [underP_all (by rw [show (pieces b).length = i from by omega, ht, List.take_of_length_le (by omega)])], rfl, rfl⟩

theorem Above3_C (s : Str) (M : PMem) (w : World) (hM : Lies M w) (hs : s.length ≤ 1073741824) : Ends Tryz.prog 84 [S s] w [] M (fun v' M' H' => v' = .tuple #[S (aboveP s).1, S (aboveP s).2] ∧ M' = M ∧ H' = []) := by
  have hpc := pieces_count s
  refine Ends.enter (H := []) Tryz.func84 rfl Tryz.ntmps84 rfl (St.start hM) ?_
  refine R_seq ?_
  refine R_region ?_
  refine R_r (D_assign rfl) ?_
  refine R_r (D_assign rfl) ?_
  refine R_nil ?_
  refine R_seq ?_
  refine R_region ?_
  refine R_r (D_move rfl) ?_
  refine R_o (E_callP rfl rfl en81 (fun w hM => Pieces_C s M w hM (by omega)) (fun vr1 Mr1 Hr1 hler1 hpr1 => ?_))
  obtain ⟨rfl, hpr1⟩ := hpr1
  obtain ⟨ar1, cr1, rfl, hcr1, hsr1⟩ := hpr1.op
  refine R_r (D_assign rfl) ?_
  refine R_nil ?_
  refine R_seq ?_
  refine R_seq ?_
  refine R_region ?_
  refine R_r (D_move rfl) ?_
  refine R_r (D_lenL Tryz.underlying109 rfl) ?_
  refine R_r (D_eq rfl rfl) ?_
  refine R_nil ?_
  refine R_cond rfl (fun h1 => ?_) (fun h1 => ?_)
  ·
    have h1p := of_decide_eq_true h1
    refine R_seq ?_
    refine R_region ?_
    refine R_r (D_assign rfl) ?_
    refine R_r (D_assign rfl) ?_
    refine R_nil ?_
    refine R_ret ?_
    refine R_less (M := M) (PMem.le_refl _) hler1 ?_
    refine R_fin2 rfl rfl rfl ?_
    exact ⟨by rw [aboveP_nil (by omega)]; rfl, rfl, rfl⟩
  ·
    have h1p := of_decide_eq_false h1
    refine R_skip ?_
    refine R_seq ?_
    refine Y_region [] mixed ?_
    refine Y_r 0 rfl (D_move rfl) ?_
    refine Y_r 1 rfl (D_move rfl) ?_
    refine Y_r 2 rfl (D_lenL Tryz.underlying109 rfl) ?_
    refine Y_r 3 rfl (D_subI rfl rfl rfl (by omega) (by omega)) ?_
    have t2 := hsr1.take ((pieces s).length - 1)
    have t2l : (((pieces s).take ((pieces s).length - 1)).length : Int) = ((pieces s).length : Int) - 1 := by simp <;> omega
    refine Y_r 4 rfl (D_sliceL0 (m := ((pieces s).take ((pieces s).length - 1)).length) Tryz.underlying109 Tryz.sizeOf9 rfl (by rw [t2l]; rfl) (by omega) (by omega)) ?_
    refine Y_r 6 rfl (D_move rfl) ?_
    refine Y_r 7 rfl (D_move rfl) ?_
    refine Y_r 8 rfl (D_lenL Tryz.underlying109 rfl) ?_
    refine Y_r 9 rfl (D_subI rfl rfl rfl (by omega) (by omega)) ?_
    obtain ⟨b3, ob3, csb3, elb3, frb3, rfl, hmb3, hxb3⟩ := hsr1.at (i := (pieces s).length - 1) (by first | omega | (simp; omega))
    obtain ⟨x4, hx4⟩ : ∃ e_, (pieces s)[(pieces s).length - 1]? = some e_ := ⟨_, List.getElem?_eq_getElem (by omega)⟩
    have hex4 := hxb3 ((pieces s).length - 1) x4 hx4
    refine Y_r 10 rfl (D_indexLn ((pieces s).length - 1) Tryz.underlying109 Tryz.sizeOf9 rfl rfl (by first | rfl | omega) (by first | omega | (simp <;> omega))) ?_
    refine Y_r 11 rfl (D_load rfl (Has.mem hmb3) (Rd.elem0 (i := ((pieces s).length - 1)) hex4 Tryz.isAgg9 rfl rfl)) ?_
    refine Y_o 5 rfl (E_callV (v := S (joinP ((pieces s).take ((pieces s).length - 1)))) rfl rfl en107 (fun w hM => Join_C ((pieces s).take ((pieces s).length - 1)) (some ⟨b3, ob3, none⟩) cr1 Mr1 w hM (by simp; omega) t2 (by simp; omega) (by have := joinP_take_le (pieces s) ((pieces s).length - 1); rw [joinP_pieces] at this; omega)) ?_) (PMem.le_refl _) (fun _ h => List.Sublist.subset (.slnil) h)
    refine Y_go _ (PMem.le_refl _) (fun _ h => List.Sublist.subset (.slnil) h) (fun _ h => h) ?_
    refine Y_r 12 rfl (D_assign rfl) ?_
    refine Y_r 13 rfl (D_assign rfl) ?_
    refine Y_nil ?_ (PMem.le_refl _) (fun _ h => List.Sublist.subset (.slnil) h)
    refine R_ret ?_
    refine R_less (M := M) (PMem.le_refl _) hler1 ?_
    refine R_fin2 rfl rfl rfl ?_
    exact ⟨by rw [aboveP_of (by assumption)], rfl, rfl⟩

end Go.Proofs.YtgmomhdammdjgaaGreat
