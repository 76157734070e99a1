/-
  Lists of changes that may be, values that a tree may hold, one thing laid into a tree (package diff), walked. Conditions: paths within 2^30.
-/
import Derived.Test.YtgmomhdammdjgaaGreatNodeT
set_option linter.unusedVariables false
set_option linter.unusedSimpArgs false
set_option maxRecDepth 20000
set_option maxHeartbeats 4000000
namespace Go.Proofs.YtgmomhdammdjgaaGreat
open Go Go.Proofs Go.RowKit

theorem rd24_Change_1 (x : Change) : Rd Tryz.prog 24 x.cells 1 (Val.val x.old) := Rd.agg Tryz.underlying24 rfl inf24 rfl rfl
theorem rd24_Change_36 (x : Change) : Rd Tryz.prog 24 x.cells 36 (Val.val x.new) := Rd.agg Tryz.underlying24 rfl inf24 rfl rfl
theorem en42 : ∀ (args : Array Value) (w : World), (callFunc 42 args).run Tryz.prog w = .ok (.enter 42 args) w := enters_fn Tryz.func42 (by kernel_rfl) rfl
theorem en33 : ∀ (args : Array Value) (w : World), (callFunc 33 args).run Tryz.prog w = .ok (.enter 33 args) w := enters_fn Tryz.func33 (by kernel_rfl) rfl
theorem en43 : ∀ (args : Array Value) (w : World), (callFunc 43 args).run Tryz.prog w = .ok (.enter 43 args) w := enters_fn Tryz.func43 (by kernel_rfl) rfl
theorem bd30_1 (x1 : Val) : Bd Tryz.prog 30 [(1, Val.val x1)] (NodeC.val ⟨[], x1, Marks.zero, .slice none 0 0⟩) := fun w => by kernel_rfl
theorem fa149_0 : Fa Tryz.prog 149 0 0 := Fa.mk Tryz.underlying149 rfl rfl (fun w => ⟨0, Tryz.sizeOf9 w⟩)
theorem en117 : ∀ (args : Array Value) (w : World), (callFunc 117 args).run Tryz.prog w = .ok (.enter 117 args) w := enters_fn Tryz.func117 (by kernel_rfl) rfl
theorem fa149_1 : Fa Tryz.prog 149 1 1 := Fa.mk Tryz.underlying149 rfl rfl (fun w => ⟨34, Tryz.sizeOf24 w⟩)
theorem rd24_Spot_1 (x : Spot) : Rd Tryz.prog 24 x.cells 1 (Val.val x.value) := Rd.agg Tryz.underlying24 rfl inf24 rfl rfl
theorem ordered_C (l : List Change) (a : Option Addr) (c : Nat) (M : PMem) (w : World) (hM : Lies M w) (hc : l.length ≤ c) (hsl : SlA M 71 (byEnc Change.cells) a l) (hn : l.length ≤ 1073741824) (hpl : ∀ e ∈ l, e.path.length ≤ 1073741824) : Ends Tryz.prog 42 [.slice a l.length c] w [] M (fun v' M' H' => v' = I (if risesL l false [] then 0 else 130) ∧ M' = M ∧ H' = []) := by
  refine Ends.enter (H := []) Tryz.func42 rfl Tryz.ntmps42 rfl (St.start hM) ?_
  refine R_seq ?_
  refine R_region ?_
  refine R_r (D_assign rfl) ?_
  refine R_nil ?_
  refine R_seq ?_
  refine R_seq ?_
  refine R_region ?_
  refine R_r (D_move rfl) ?_
  refine R_r (D_lenL Tryz.underlying31 rfl) ?_
  refine R_r (D_move rfl) ?_
  refine R_nil ?_
  refine R_block ?_
  refine R_loop (σ := (Nat)) (fun gs => ([(0, .slice a l.length c), (7, .slice a l.length c), (8, I (l.length : Int)), (9, I (gs : Int))], M, [])) (fun gs => gs ≤ l.length ∧ risesL l false [] = risesL (l.drop gs) (decide (0 < (gs : Int))) (pvC l gs)) (fun gs => l.length - gs) 0 ?_ (Env.sub_cons rfl <| Env.sub_cons rfl <| Env.sub_cons rfl <| Env.sub_cons rfl <| Env.sub_nil _) rfl rfl ?_
  · show 0 ≤ l.length ∧ risesL l false [] = risesL (l.drop 0) (decide (0 < (0 : Int))) (pvC l 0); exact ⟨by omega, risesL_start l⟩
  rintro i hok
  replace hok : i ≤ l.length ∧ risesL l false [] = risesL (l.drop i) (decide (0 < (i : Int))) (pvC l i) := hok
  show Cx.R _ _ _ [(0, .slice a l.length c), (7, .slice a l.length c), (8, I (l.length : Int)), (9, I (i : Int))] M []
  obtain ⟨hi, hr⟩ := hok
  refine R_seq ?_
  refine R_region ?_
  refine R_r (D_lt rfl rfl) ?_
  refine R_nil ?_
  refine R_seq ?_
  refine R_cond rfl (fun h1 => ?_) (fun h1 => ?_)
  ·
    have h1p := of_decide_eq_true h1
    refine R_skip ?_
    refine R_seq ?_
    refine R_block ?_
    refine R_seq ?_
    refine R_region ?_
    refine R_r (D_move rfl) ?_
    obtain ⟨b1, ob1, csb1, elb1, frb1, rfl, hmb1, hxb1⟩ := hsl.at (i := i) (by first | omega | (simp; omega))
    obtain ⟨x2, hx2⟩ : ∃ e_, l[i]? = some e_ := ⟨_, List.getElem?_eq_getElem (by omega)⟩
    have hex2 := hxb1 i x2 hx2
    refine R_r (D_indexLn (i) Tryz.underlying31 Tryz.sizeOf66 rfl rfl (by first | rfl | omega) (by first | omega | (simp <;> omega))) ?_
    refine R_r (D_load rfl (Has.mem hmb1) (Rd.elemA (i := i) hex2 Tryz.underlying66 rfl inf66 rfl)) ?_
    refine R_o (E_alloc (Change.cells Change.zero) Tryz.zeroValue66 rfl (fun b3 => ?_))
    refine R_r (D_assign rfl) ?_
    refine R_o (E_store (cs' := (Change.cells x2)) 0 rfl rfl rfl (Wr.agg Tryz.sizeOf66 rfl rfl rfl rfl) ?_)
    refine R_nil ?_
    refine R_seq ?_
    refine R_region ?_
    refine R_r (D_fieldAddr fa66_0 rfl) ?_
    refine R_r (D_load rfl (Has.own 0 rfl) (Rd.one Tryz.isAgg9 rfl)) ?_
    refine R_o (E_callP rfl rfl en86 (fun w hM => Split_C x2.path 64 M w hM (by exact hpl _ (List.mem_of_getElem? (by assumption)))) (fun vr4 Mr4 Hr4 hler4 hpr4 => ?_))
    have q5 := SlA.le hsl hler4
    have q6 := hler4 _ _ hmb1
    obtain ⟨rfl, vr4, rfl, hpr4⟩ := hpr4
    obtain ⟨ar4, cr4, rfl, hcr4, hsr4⟩ := hpr4.op
    refine R_r (D_move rfl) ?_
    refine R_r (D_extract rfl rfl) ?_
    refine R_r (D_extract rfl rfl) ?_
    refine R_r (D_assign rfl) ?_
    refine R_r (D_assign rfl) ?_
    refine R_nil ?_
    refine R_seq ?_
    obtain ⟨x8, hx8⟩ : ∃ e_, l[i - 1]? = some e_ := ⟨_, List.getElem?_eq_getElem (by omega)⟩
    have hex8 := hxb1 (i - 1) x8 hx8
    refine R_join [(0, .slice (some ⟨b1, ob1, none⟩) l.length c), (3, I (i : Int)), (4, P_ b3 0), (5, .slice ar4 (((splitP x2.path 64).1).length) cr4), (6, I ((splitP x2.path 64).2)), (7, .slice (some ⟨b1, ob1, none⟩) l.length c), (8, I (l.length : Int)), (9, I (i : Int)), (10, .bool (decide ((i : Int) < (l.length : Int)))), (11, I (i : Int)), (12, P_ b1 (ob1 + i * 71)), (13, Change.val x2), (14, .tuple #[.slice ar4 (((splitP x2.path 64).1).length) cr4, I ((splitP x2.path 64).2)]), (15, P_ b3 0), (16, S x2.path), (17, .tuple #[.slice ar4 (((splitP x2.path 64).1).length) cr4, I ((splitP x2.path 64).2)]), (18, .slice ar4 (((splitP x2.path 64).1).length) cr4), (19, I ((splitP x2.path 64).2)), (44, .bool (((!decide (((splitP x2.path 64).2) = 0)) || (decide (x2.old = x2.new))) || ((decide (0 < (i : Int))) && (decide (0 ≤ (cmpP x8.path x2.path))))))] (M' := Mr4) (H' := [.blk b3 (.cells (List.toArray (Change.cells x2)) 66)]) ?_ ?_
    ·
      refine Y_region [.blk b3 (.cells (List.toArray (Change.cells x2)) 66)] mixed ?_
      refine Y_r 0 rfl (D_move rfl) ?_
      refine Y_r 1 rfl (D_ne rfl rfl) ?_
      refine Y_r 2 rfl (D_move rfl) ?_
      refine R_split 22 rfl (fun h2 => ?_) (fun h2 => ?_)
      ·
        have h2p : ¬ (((splitP x2.path 64).2) = 0) := by simpa using h2
        refine Y_skip 3 rfl rfl ?_
        refine Y_skip 4 rfl rfl ?_
        refine Y_skip 5 rfl rfl ?_
        refine Y_skip 6 rfl rfl ?_
        refine Y_skip 7 rfl rfl ?_
        refine Y_r 8 rfl (D_pick true rfl rfl) ?_
        refine Y_r 9 rfl (D_move rfl) ?_
        refine Y_skip 10 rfl rfl ?_
        refine Y_skip 11 rfl rfl ?_
        refine Y_skip 12 rfl rfl ?_
        refine Y_skip 13 rfl rfl ?_
        refine Y_skip 14 rfl rfl ?_
        refine Y_skip 15 rfl rfl ?_
        refine Y_skip 16 rfl rfl ?_
        refine Y_skip 17 rfl rfl ?_
        refine Y_skip 18 rfl rfl ?_
        refine Y_skip 19 rfl rfl ?_
        refine Y_skip 20 rfl rfl ?_
        refine Y_skip 21 rfl rfl ?_
        refine Y_skip 22 rfl rfl ?_
        refine Y_skip 23 rfl rfl ?_
        refine Y_r 24 rfl (D_pick true rfl rfl) ?_
        refine Y_nil ?_ (PMem.le_refl _) (fun _ h => List.Sublist.subset (.cons_cons _ (.slnil)) h)
        exact R_at (Env.sub_cons rfl <| Env.sub_cons rfl <| Env.sub_cons rfl <| Env.sub_cons rfl <| Env.sub_cons rfl <| Env.sub_cons rfl <| Env.sub_cons rfl <| Env.sub_cons rfl <| Env.sub_cons rfl <| Env.sub_cons rfl <| Env.sub_cons rfl <| Env.sub_cons rfl <| Env.sub_cons rfl <| Env.sub_cons rfl <| Env.sub_cons rfl <| Env.sub_cons rfl <| Env.sub_cons rfl <| Env.sub_cons rfl <| Env.sub_cons (by first | (show some (Value.bool _) = some (Value.bool _); simp only [h2, Bool.true_and, Bool.false_and, Bool.true_or, Bool.false_or, Bool.and_true, Bool.and_false, Bool.or_true, Bool.or_false]; done) | (show some (Value.bool _) = some (Value.bool _); (try rw [h2]); first | done | rfl) | simp [h2, Env.find]) <| Env.sub_nil _)
      ·
        have h2p : (((splitP x2.path 64).2) = 0) := by simpa using h2
        refine Y_r 3 rfl (D_fieldAddr fa66_1 rfl) ?_
        refine Y_r 4 rfl (D_load rfl (Has.own 0 rfl) (rd24_Change_1 x2)) ?_
        refine Y_r 5 rfl (D_fieldAddr fa66_2 rfl) ?_
        refine Y_r 6 rfl (D_load rfl (Has.own 0 rfl) (rd24_Change_36 x2)) ?_
        refine Y_r 7 rfl (D_eqA eg24 rfl rfl (eqa24 _ _)) ?_
        refine Y_r 8 rfl (D_pick false rfl rfl) ?_
        refine Y_r 9 rfl (D_move rfl) ?_
        refine R_split 29 rfl (fun h3 => ?_) (fun h3 => ?_)
        ·
          have h3p := of_decide_eq_true h3
          refine Y_skip 10 rfl rfl ?_
          refine Y_skip 11 rfl rfl ?_
          refine Y_skip 12 rfl rfl ?_
          refine Y_skip 13 rfl rfl ?_
          refine Y_skip 14 rfl rfl ?_
          refine Y_skip 15 rfl rfl ?_
          refine Y_skip 16 rfl rfl ?_
          refine Y_skip 17 rfl rfl ?_
          refine Y_skip 18 rfl rfl ?_
          refine Y_skip 19 rfl rfl ?_
          refine Y_skip 20 rfl rfl ?_
          refine Y_skip 21 rfl rfl ?_
          refine Y_skip 22 rfl rfl ?_
          refine Y_skip 23 rfl rfl ?_
          refine Y_r 24 rfl (D_pick true rfl rfl) ?_
          refine Y_nil ?_ (PMem.le_refl _) (fun _ h => List.Sublist.subset (.cons_cons _ (.slnil)) h)
          exact R_at (Env.sub_cons rfl <| Env.sub_cons rfl <| Env.sub_cons rfl <| Env.sub_cons rfl <| Env.sub_cons rfl <| Env.sub_cons rfl <| Env.sub_cons rfl <| Env.sub_cons rfl <| Env.sub_cons rfl <| Env.sub_cons rfl <| Env.sub_cons rfl <| Env.sub_cons rfl <| Env.sub_cons rfl <| Env.sub_cons rfl <| Env.sub_cons rfl <| Env.sub_cons rfl <| Env.sub_cons rfl <| Env.sub_cons rfl <| Env.sub_cons (by first | (show some (Value.bool _) = some (Value.bool _); simp only [h2, h3, Bool.true_and, Bool.false_and, Bool.true_or, Bool.false_or, Bool.and_true, Bool.and_false, Bool.or_true, Bool.or_false]; done) | (show some (Value.bool _) = some (Value.bool _); (try rw [h2]); (try rw [h3]); first | done | rfl) | simp [h2, h3, Env.find]) <| Env.sub_nil _)
        ·
          have h3p := of_decide_eq_false h3
          refine Y_r 10 rfl (D_move rfl) ?_
          refine Y_r 11 rfl (D_gt rfl rfl) ?_
          refine Y_r 12 rfl (D_move rfl) ?_
          refine R_split 32 rfl (fun h4 => ?_) (fun h4 => ?_)
          ·
            have h4p := of_decide_eq_true h4
            refine Y_r 13 rfl (D_move rfl) ?_
            refine Y_r 14 rfl (D_move rfl) ?_
            refine Y_r 15 rfl (D_subI rfl rfl rfl (by omega) (by omega)) ?_
            refine Y_r 16 rfl (D_indexLn (i - 1) Tryz.underlying31 Tryz.sizeOf66 rfl rfl (by first | rfl | omega) (by first | omega | (simp <;> omega))) ?_
            refine Y_r 17 rfl (D_fieldAddr fa66_0 rfl) ?_
            refine Y_r 18 rfl (D_load rfl (Has.mem q6) (Rd.elem0 (i := (i - 1)) hex8 Tryz.isAgg9 rfl rfl)) ?_
            refine Y_r 19 rfl (D_fieldAddr fa66_0 rfl) ?_
            refine Y_r 20 rfl (D_load rfl (Has.own 0 rfl) (Rd.one Tryz.isAgg9 rfl)) ?_
            refine Y_o 21 rfl (E_callV (v := I (cmpP x8.path x2.path)) rfl rfl en87 (fun w hM => Compare_C x8.path x2.path Mr4 w hM (by exact hpl _ (List.mem_of_getElem? (by assumption))) (by exact hpl _ (List.mem_of_getElem? (by assumption)))) ?_) (PMem.le_refl _) (fun _ h => List.Sublist.subset (.cons_cons _ (.slnil)) h)
            refine Y_go _ (PMem.le_refl _) (fun _ h => List.Sublist.subset (.cons_cons _ (.slnil)) h) (fun _ h => h) ?_
            refine Y_r 22 rfl (D_ge rfl rfl) ?_
            refine Y_r 23 rfl (D_pick true rfl rfl) ?_
            refine Y_r 24 rfl (D_pick false rfl rfl) ?_
            refine Y_nil ?_ (PMem.le_refl _) (fun _ h => List.Sublist.subset (.cons_cons _ (.slnil)) h)
            exact R_at (Env.sub_cons rfl <| Env.sub_cons rfl <| Env.sub_cons rfl <| Env.sub_cons rfl <| Env.sub_cons rfl <| Env.sub_cons rfl <| Env.sub_cons rfl <| Env.sub_cons rfl <| Env.sub_cons rfl <| Env.sub_cons rfl <| Env.sub_cons rfl <| Env.sub_cons rfl <| Env.sub_cons rfl <| Env.sub_cons rfl <| Env.sub_cons rfl <| Env.sub_cons rfl <| Env.sub_cons rfl <| Env.sub_cons rfl <| Env.sub_cons (by first | (show some (Value.bool _) = some (Value.bool _); simp only [h2, h3, h4, Bool.true_and, Bool.false_and, Bool.true_or, Bool.false_or, Bool.and_true, Bool.and_false, Bool.or_true, Bool.or_false]; done) | (show some (Value.bool _) = some (Value.bool _); (try rw [h2]); (try rw [h3]); (try rw [h4]); first | done | rfl) | simp [h2, h3, h4, Env.find]) <| Env.sub_nil _)
          ·
            have h4p := of_decide_eq_false h4
            refine Y_skip 13 rfl rfl ?_
            refine Y_skip 14 rfl rfl ?_
            refine Y_skip 15 rfl rfl ?_
            refine Y_skip 16 rfl rfl ?_
            refine Y_skip 17 rfl rfl ?_
            refine Y_skip 18 rfl rfl ?_
            refine Y_skip 19 rfl rfl ?_
            refine Y_skip 20 rfl rfl ?_
            refine Y_skip 21 rfl rfl ?_
            refine Y_skip 22 rfl rfl ?_
            refine Y_r 23 rfl (D_pick false rfl rfl) ?_
            refine Y_r 24 rfl (D_pick false rfl rfl) ?_
            refine Y_nil ?_ (PMem.le_refl _) (fun _ h => List.Sublist.subset (.cons_cons _ (.slnil)) h)
            exact R_at (Env.sub_cons rfl <| Env.sub_cons rfl <| Env.sub_cons rfl <| Env.sub_cons rfl <| Env.sub_cons rfl <| Env.sub_cons rfl <| Env.sub_cons rfl <| Env.sub_cons rfl <| Env.sub_cons rfl <| Env.sub_cons rfl <| Env.sub_cons rfl <| Env.sub_cons rfl <| Env.sub_cons rfl <| Env.sub_cons rfl <| Env.sub_cons rfl <| Env.sub_cons rfl <| Env.sub_cons rfl <| Env.sub_cons rfl <| Env.sub_cons (by first | (show some (Value.bool _) = some (Value.bool _); simp only [h2, h3, h4, Bool.true_and, Bool.false_and, Bool.true_or, Bool.false_or, Bool.and_true, Bool.and_false, Bool.or_true, Bool.or_false]; done) | (show some (Value.bool _) = some (Value.bool _); (try rw [h2]); (try rw [h3]); (try rw [h4]); first | done | rfl) | simp [h2, h3, h4, Env.find]) <| Env.sub_nil _)
    ·
      refine R_cond rfl (fun h2 => ?_) (fun h2 => ?_)
      ·
        have h2p := h2; simp only [Bool.and_eq_true, Bool.or_eq_true, Bool.not_eq_true', Bool.and_eq_false_imp, Bool.or_eq_false_iff, Bool.not_eq_false', decide_eq_true_eq, decide_eq_false_iff_not] at h2p
        refine R_seq ?_
        refine R_region ?_
        refine R_r (D_assign rfl) ?_
        refine R_nil ?_
        refine R_ret ?_
        refine R_less (M := M) (PMem.le_refl _) hler4 ?_
        refine R_drop (List.nil_sublist _) ?_
        refine R_fin1 rfl rfl ?_
        exact ⟨by rw [hr, risesL_step hx2 hx8, if_pos (badC_t (h2))]; rfl, rfl, rfl⟩
      ·
        have h2p := h2; simp only [Bool.and_eq_true, Bool.or_eq_true, Bool.not_eq_true', Bool.and_eq_false_imp, Bool.or_eq_false_iff, Bool.not_eq_false', decide_eq_true_eq, decide_eq_false_iff_not] at h2p
        refine R_skip ?_
        refine R_region ?_
        refine R_r (D_add rfl rfl rfl (by omega) (by omega)) ?_
        refine R_r (D_move rfl) ?_
        refine R_nil ?_
        refine R_less (M := M) (PMem.le_refl _) hler4 ?_
        refine R_drop (H' := []) (.cons _ (List.Sublist.refl _)) ?_
        exact R_back (i + 1) (by show (i + 1) ≤ l.length ∧ risesL l false [] = risesL (l.drop (i + 1)) (decide (0 < ((i + 1) : Int))) (pvC l (i + 1)); exact ⟨by omega, by rw [hr, risesL_step hx2 hx8, if_neg (badC_f h2)]; first | rfl | simp⟩) (by show l.length - (i + 1) < l.length - i; omega) (Env.sub_cons rfl <| Env.sub_cons rfl <| Env.sub_cons rfl <| Env.sub_cons rfl <| Env.sub_nil _) rfl rfl
  ·
    have h1p := of_decide_eq_false h1
    refine R_exit rfl ?_
    refine R_seq ?_
    refine R_region ?_
    refine R_r (D_assign rfl) ?_
    refine R_nil ?_
    refine R_ret ?_
    refine R_fin1 rfl rfl ?_
    exact ⟨by rw [hr, List.drop_eq_nil_of_le (by omega)]; rfl, rfl, rfl⟩

theorem tcheck_leaf (nm : Str) (v : Val) (m : Marks) : (tcheck (Node.mk nm v m []) [] 0).2 = ownE v m 0 := by
  unfold tcheck
  show (if ownE v m 0 = 0 then Node.checkB (Node.mk nm v m []) [] 0 else ([], ownE v m 0)).2 = _
  split
  · rename_i h; rw [h]; rfl
  · rfl
theorem ownE_ok {v : Val} : ownE v Marks.zero 0 = 0 ↔ v.ok = true := by
  have h1 : Marks.zero.a.ok = true := rfl
  have h2 : Marks.zero.b.ok = true := rfl
  unfold ownE Val.ok
  rw [h1, h2]
  by_cases e1 : v.kind = 1
  · simp [e1]
  · by_cases e2 : v.kind = 2
    · simp [e2]
    · by_cases e3 : v.kind = 3
      · simp [e3]
      · have : v.kind < 1 ∨ 3 < v.kind := by omega
        simp [e1, e2, e3, this]
theorem okN_eq (v : Val) : v.okN = (decide (ownE v Marks.zero 0 = 0) || decide (v = Val.zero)) := by
  unfold Val.okN
  by_cases h : v.ok = true
  · have h0 : ¬ v.kind = 0 := fun e => by simp [Val.ok, e] at h
    simp [h, h0, ownE_ok.2 h]
  · have h1 : ¬ ownE v Marks.zero 0 = 0 := fun e => h (ownE_ok.1 e)
    simp [h, h1]

theorem right_C (v : Val) (M : PMem) (w : World) (hM : Lies M w) : Ends Tryz.prog 43 [Val.val v] w [] M (fun v' M' H' => v' = .bool v.okN ∧ M' = M ∧ H' = []) := by
  refine Ends.enter (H := []) Tryz.func43 rfl Tryz.ntmps43 rfl (St.start hM) ?_
  refine R_seq ?_
  refine R_region ?_
  refine R_o (E_box (Val.cells v) rfl rfl (fun b1 => ?_))
  refine R_r (D_assign rfl) ?_
  refine R_nil ?_
  refine R_seq ?_
  refine R_region ?_
  refine R_r (D_load rfl (Has.own 0 rfl) (rd24_Val_0 v)) ?_
  refine R_r (D_build rfl (bd30_1 _)) ?_
  refine R_o (E_callP rfl rfl en33 (fun w hM => Of_C (Node.mk ([]) v Marks.zero []) none 0 M w hM (Nat.le_refl _) (.inl rfl) (by show (0 : Nat) ≤ _; omega)) (fun vr2 Mr2 Hr2 hler2 hpr2 => ?_))
  rw [tcheck_leaf] at hpr2
  obtain ⟨rfl, ⟨her2, rfl⟩ | ⟨her2, br2, rfl, htr2⟩⟩ := hpr2
  ·
    refine R_r (D_move rfl) ?_
    refine R_r (D_extract rfl rfl) ?_
    refine R_r (D_extract rfl rfl) ?_
    refine R_r (D_assign rfl) ?_
    refine R_r (D_assign rfl) ?_
    refine R_nil ?_
    refine R_seq ?_
    refine R_join [(0, Val.val v), (1, P_ b1 0), (2, .bool ((decide ((ownE v Marks.zero 0) = 0)) || (decide (v = Val.zero)))), (3, .pointer none), (4, I (ownE v Marks.zero 0)), (5, .tuple #[.pointer none, I (ownE v Marks.zero 0)]), (6, Val.val v), (7, NodeC.val (⟨[], v, Marks.zero, .slice none 0 0⟩ : NodeC)), (8, .tuple #[.pointer none, I (ownE v Marks.zero 0)]), (9, .pointer none), (10, I (ownE v Marks.zero 0))] (M' := Mr2) (H' := [.blk b1 (.cells (List.toArray (Val.cells v)) 24)]) ?_ ?_
    ·
      refine R_region ?_
      refine R_r (D_move rfl) ?_
      refine R_r (D_eq rfl rfl) ?_
      refine R_r (D_move rfl) ?_
      refine R_split 13 rfl (fun h1 => ?_) (fun h1 => ?_)
      ·
        have h1p := of_decide_eq_true h1
        refine R_skipop rfl rfl rfl ?_
        refine R_skipop rfl rfl rfl ?_
        refine R_skipop rfl rfl rfl ?_
        refine R_r (D_pick true rfl rfl) ?_
        refine R_r (D_assign rfl) ?_
        refine R_nil ?_
        exact R_at (Env.sub_cons rfl <| Env.sub_cons rfl <| Env.sub_cons (by first | (show some (Value.bool _) = some (Value.bool _); simp only [h1, Bool.true_and, Bool.false_and, Bool.true_or, Bool.false_or, Bool.and_true, Bool.and_false, Bool.or_true, Bool.or_false]; done) | (show some (Value.bool _) = some (Value.bool _); (try rw [h1]); first | done | rfl) | simp [h1, Env.find]) <| Env.sub_cons rfl <| Env.sub_cons rfl <| Env.sub_cons rfl <| Env.sub_cons rfl <| Env.sub_cons rfl <| Env.sub_cons rfl <| Env.sub_cons rfl <| Env.sub_cons rfl <| Env.sub_nil _)
      ·
        have h1p := of_decide_eq_false h1
        refine R_r (D_load rfl (Has.own 0 rfl) (rd24_Val_0 v)) ?_
        refine R_r (D_build rfl bd24_) ?_
        refine R_r (D_eqA eg24 rfl rfl (eqa24 _ _)) ?_
        refine R_r (D_pick false rfl rfl) ?_
        refine R_r (D_assign rfl) ?_
        refine R_nil ?_
        exact R_at (Env.sub_cons rfl <| Env.sub_cons rfl <| Env.sub_cons (by first | (show some (Value.bool _) = some (Value.bool _); simp only [h1, Bool.true_and, Bool.false_and, Bool.true_or, Bool.false_or, Bool.and_true, Bool.and_false, Bool.or_true, Bool.or_false]; done) | (show some (Value.bool _) = some (Value.bool _); (try rw [h1]); first | done | rfl) | simp [h1, Env.find]) <| Env.sub_cons rfl <| Env.sub_cons rfl <| Env.sub_cons rfl <| Env.sub_cons rfl <| Env.sub_cons rfl <| Env.sub_cons rfl <| Env.sub_cons rfl <| Env.sub_cons rfl <| Env.sub_nil _)
    ·
      refine R_ret ?_
      refine R_less (M := M) (PMem.le_refl _) hler2 ?_
      refine R_drop (List.nil_sublist _) ?_
      refine R_fin1 rfl rfl ?_
      exact ⟨by rw [okN_eq], rfl, rfl⟩
  ·
    refine R_r (D_move rfl) ?_
    refine R_r (D_extract rfl rfl) ?_
    refine R_r (D_extract rfl rfl) ?_
    refine R_r (D_assign rfl) ?_
    refine R_r (D_assign rfl) ?_
    refine R_nil ?_
    refine R_seq ?_
    refine R_join [(0, Val.val v), (1, P_ b1 0), (2, .bool true), (3, P_ br2 0), (4, I 0), (5, .tuple #[P_ br2 0, I 0]), (6, Val.val v), (7, NodeC.val (⟨[], v, Marks.zero, .slice none 0 0⟩ : NodeC)), (8, .tuple #[P_ br2 0, I 0]), (9, P_ br2 0), (10, I 0)] (M' := Mr2) (H' := [.blk b1 (.cells (List.toArray (Val.cells v)) 24)]) ?_ ?_
    ·
      refine R_region ?_
      refine R_r (D_move rfl) ?_
      refine R_r (D_eq rfl rfl) ?_
      refine R_r (D_move rfl) ?_
      refine R_skipop rfl rfl rfl ?_
      refine R_skipop rfl rfl rfl ?_
      refine R_skipop rfl rfl rfl ?_
      refine R_r (D_pick true rfl rfl) ?_
      refine R_r (D_assign rfl) ?_
      refine R_nil ?_
      exact R_at (Env.sub_cons rfl <| Env.sub_cons rfl <| Env.sub_cons rfl <| Env.sub_cons rfl <| Env.sub_cons rfl <| Env.sub_cons rfl <| Env.sub_cons rfl <| Env.sub_cons rfl <| Env.sub_cons rfl <| Env.sub_cons rfl <| Env.sub_cons rfl <| Env.sub_nil _)
    ·
      refine R_ret ?_
      refine R_less (M := M) (PMem.le_refl _) hler2 ?_
      refine R_drop (List.nil_sublist _) ?_
      refine R_fin1 rfl rfl ?_
      exact ⟨by rw [okN_eq]; simp [her2], rfl, rfl⟩

theorem grow1_C (x y : Spot) (M : PMem) (w : World) (hM : Lies M w) (hx : x.path.length ≤ 1073741824) (hy : y.path.length ≤ 1073741824) : Ends Tryz.prog 90 [Spot.val x, Spot.val y] w [] M (fun v' M' H' => v' = I (cmpP x.path y.path) ∧ M' = M ∧ H' = []) := by
  refine Ends.enter (H := []) Tryz.func90 rfl Tryz.ntmps90 rfl (St.start hM) ?_
  refine R_seq ?_
  refine R_region ?_
  refine R_o (E_box (Spot.cells x) rfl rfl (fun b1 => ?_))
  refine R_o (E_box (Spot.cells y) rfl rfl (fun b2 => ?_))
  refine R_r (D_assign rfl) ?_
  refine R_nil ?_
  refine R_seq ?_
  refine R_region ?_
  refine R_r (D_fieldAddr fa149_0 rfl) ?_
  refine R_r (D_load rfl (Has.own 1 rfl) (Rd.one Tryz.isAgg9 rfl)) ?_
  refine R_r (D_fieldAddr fa149_0 rfl) ?_
  refine R_r (D_load rfl (Has.own 0 rfl) (Rd.one Tryz.isAgg9 rfl)) ?_
  refine R_o (E_callV (v := I (cmpP x.path y.path)) rfl rfl en87 (fun w hM => Compare_C x.path y.path M w hM (by omega) (by omega)) ?_)
  refine R_r (D_assign rfl) ?_
  refine R_nil ?_
  refine R_ret ?_
  refine R_drop (List.nil_sublist _) ?_
  refine R_fin1 rfl rfl ?_
  exact ⟨rfl, rfl, rfl⟩

theorem splitP_few {p : Str} {m : Int} (h : (splitP p m).2 = 0) : ((splitP p m).1.length : Int) ≤ max m 0 := by
  by_cases h1 : (max m 0) < ((pieces p).length : Int)
  · simp [splitP, h1] at h
  · by_cases h2 : (pieces p).all nameOk = true
    · simp only [splitP, if_neg h1, if_pos h2]; omega
    · simp [splitP, h1, h2] at h
theorem Of_leaf (v : Val) (m : Marks) (M : PMem) (w : World) (hM : Lies M w) (h : ownE v m 0 = 0) : Ends Tryz.prog 33 [NodeC.val ⟨[], v, m, .slice none 0 0⟩] w [] M (fun v' M' H' => H' = [] ∧ ∃ b, v' = .tuple #[P_ b 0, I 0] ∧ TreeAt M' b (Node.mk [] v m [])) := by
  refine (Of_C (Node.mk [] v m []) none 0 M w hM (Nat.le_refl _) (.inl rfl) (by show (0 : Nat) ≤ _; omega)).mono ?_
  rintro v' M' H' _ ⟨h1, ⟨h2, _⟩ | ⟨_, h3⟩⟩
  · rw [tcheck_leaf] at h2; exact absurd h h2
  · exact ⟨h1, h3⟩

theorem laid0_C (x : Node) (b : Nat) (s : Spot) (nmd : Bool) (M : PMem) (w : World) (hM : Lies M w) (hb : TreeAt M b x) (hrx : Node.Ris x) (hsz : Node.sizeL x.kids ≤ 2147483648) (hp : s.path.length ≤ 1073741824) (hown : ownE s.value (marksAt x s.path nmd) 0 = 0) : Ends Tryz.prog 92 [.pointer none, P_ b 0, Spot.val s, .bool nmd] w [] M (fun v M' H' => H' = [] ∧ ∃ b', v = P_ b' 0 ∧ TreeAt M' b' (Node.mk [] s.value (marksAt x s.path nmd) [])) := by
  refine Ends.enter (H := []) Tryz.func92 rfl Tryz.ntmps92 rfl (St.start hM) ?_
  refine R_seq ?_
  refine R_region ?_
  refine R_o (E_box (Spot.cells s) rfl rfl (fun b1 => ?_))
  refine R_r (D_assign rfl) ?_
  refine R_nil ?_
  refine R_seq ?_
  refine R_region ?_
  refine R_r (D_fieldAddr fa149_1 rfl) ?_
  refine R_r (D_load rfl (Has.own 0 rfl) (rd24_Spot_1 s)) ?_
  refine R_r (D_build rfl (bd30_1 _)) ?_
  refine R_o (E_alloc (NodeC.cells NodeC.zero) Tryz.zeroValue30 rfl (fun b2 => ?_))
  refine R_o (E_store (cs' := (NodeC.cells (⟨[], s.value, Marks.zero, .slice none 0 0⟩ : NodeC))) 0 rfl rfl rfl (Wr.agg Tryz.sizeOf30 rfl rfl rfl rfl) ?_)
  refine R_nil ?_
  refine R_seq ?_
  refine R_seq ?_
  refine R_region ?_
  refine R_r (D_move rfl) ?_
  refine R_r (D_fieldAddr fa149_0 rfl) ?_
  refine R_r (D_load rfl (Has.own 1 rfl) (Rd.one Tryz.isAgg9 rfl)) ?_
  refine R_o (E_callP rfl rfl en70 (fun w hM => Sub_C x b s.path M w hM hb hrx hsz (by omega)) (fun vr3 Mr3 Hr3 hler3 hpr3 => ?_))
  have q4 := TreeAt.le hler3 hb
  obtain ⟨rfl, hpr3⟩ := hpr3
  rcases hpr3 with ⟨hkr3, rfl⟩ | ⟨kr3, br3, hkr3, rfl, htr3⟩
  ·
    refine R_r (D_move rfl) ?_
    refine R_r (D_extract rfl rfl) ?_
    refine R_r (D_extract rfl rfl) ?_
    refine R_r (D_assign rfl) ?_
    refine R_r (D_assign rfl) ?_
    refine R_nil ?_
    refine R_seq ?_
    refine R_join [(0, .pointer none), (1, P_ b 0), (2, Spot.val s), (3, .bool nmd), (6, P_ b1 0), (8, .pointer none), (9, P_ b2 0), (10, .pointer none), (11, .bool false), (16, P_ b1 1), (17, Val.val s.value), (18, NodeC.val (⟨[], s.value, Marks.zero, .slice none 0 0⟩ : NodeC)), (19, .tuple #[.pointer none, .bool false]), (20, P_ b 0), (21, P_ b1 0), (22, S s.path), (23, .tuple #[.pointer none, .bool false]), (24, .pointer none), (25, .bool false), (30, .bool false)] (M' := Mr3) (H' := [.blk b2 (.cells (List.toArray (NodeC.cells (⟨[], s.value, Marks.zero, .slice none 0 0⟩ : NodeC))) 30), .blk b1 (.cells (List.toArray (Spot.cells s)) 149)]) ?_ ?_
    ·
      refine R_region ?_
      refine R_r (D_move rfl) ?_
      refine R_r (D_move rfl) ?_
      refine R_skipop rfl rfl rfl ?_
      refine R_skipop rfl rfl rfl ?_
      refine R_r (D_pick false rfl rfl) ?_
      refine R_nil ?_
      exact R_at (Env.sub_cons rfl <| Env.sub_cons rfl <| Env.sub_cons rfl <| Env.sub_cons rfl <| Env.sub_cons rfl <| Env.sub_cons rfl <| Env.sub_cons rfl <| Env.sub_cons rfl <| Env.sub_cons rfl <| Env.sub_cons rfl <| Env.sub_cons rfl <| Env.sub_cons rfl <| Env.sub_cons rfl <| Env.sub_cons rfl <| Env.sub_cons rfl <| Env.sub_cons rfl <| Env.sub_cons rfl <| Env.sub_cons rfl <| Env.sub_cons rfl <| Env.sub_cons rfl <| Env.sub_nil _)
    ·
      refine R_cond_f rfl ?_
      refine R_skip ?_
      refine R_seq ?_
      refine R_region ?_
      refine R_r (D_load rfl (Has.own 0 rfl) (rd30_NodeC_0 (⟨[], s.value, Marks.zero, .slice none 0 0⟩ : NodeC))) ?_
      have hmer5 : marksAt x s.path nmd = Marks.zero := by simp only [marksAt, hkr3]; cases nmd <;> rfl
      have hownr5 : ownE s.value Marks.zero 0 = 0 := hmer5 ▸ hown
      refine R_o (E_callP rfl rfl en33 (fun w hM => Of_leaf s.value Marks.zero Mr3 w hM hownr5) (fun vr5 Mr5 Hr5 hler5 hpr5 => ?_))
      have q6 := TreeAt.le hler5 q4
      obtain ⟨rfl, br5, rfl, htr5⟩ := hpr5
      refine R_r (D_move rfl) ?_
      refine R_r (D_extract rfl rfl) ?_
      refine R_r (D_extract rfl rfl) ?_
      refine R_r (D_assign rfl) ?_
      refine R_r (D_assign rfl) ?_
      refine R_nil ?_
      refine R_seq ?_
      refine R_seq ?_
      refine R_region ?_
      refine R_r (D_move rfl) ?_
      refine R_r (D_ptrNil Tryz.underlying34 rfl) ?_
      refine R_nil ?_
      refine R_cond_t rfl ?_
      refine R_seq ?_
      refine R_region ?_
      refine R_r (D_move rfl) ?_
      refine R_r (D_assign rfl) ?_
      refine R_nil ?_
      refine R_ret ?_
      refine R_drop (List.nil_sublist _) ?_
      refine R_fin1 rfl rfl ?_
      exact ⟨rfl, _, rfl, by rw [hmer5]; exact htr5⟩
  ·
    refine R_r (D_move rfl) ?_
    refine R_r (D_extract rfl rfl) ?_
    refine R_r (D_extract rfl rfl) ?_
    refine R_r (D_assign rfl) ?_
    refine R_r (D_assign rfl) ?_
    refine R_nil ?_
    refine R_seq ?_
    refine R_join [(0, .pointer none), (1, P_ b 0), (2, Spot.val s), (3, .bool nmd), (6, P_ b1 0), (8, .pointer none), (9, P_ b2 0), (10, P_ br3 0), (11, .bool true), (16, P_ b1 1), (17, Val.val s.value), (18, NodeC.val (⟨[], s.value, Marks.zero, .slice none 0 0⟩ : NodeC)), (19, .tuple #[P_ br3 0, .bool true]), (20, P_ b 0), (21, P_ b1 0), (22, S s.path), (23, .tuple #[P_ br3 0, .bool true]), (24, P_ br3 0), (25, .bool true), (30, .bool (!nmd))] (M' := Mr3) (H' := [.blk b2 (.cells (List.toArray (NodeC.cells (⟨[], s.value, Marks.zero, .slice none 0 0⟩ : NodeC))) 30), .blk b1 (.cells (List.toArray (Spot.cells s)) 149)]) ?_ ?_
    ·
      refine R_region ?_
      refine R_r (D_move rfl) ?_
      refine R_r (D_move rfl) ?_
      refine R_r (D_move rfl) ?_
      refine R_r (D_not rfl) ?_
      refine R_r (D_pick true rfl rfl) ?_
      refine R_nil ?_
      exact R_at (Env.sub_cons rfl <| Env.sub_cons rfl <| Env.sub_cons rfl <| Env.sub_cons rfl <| Env.sub_cons rfl <| Env.sub_cons rfl <| Env.sub_cons rfl <| Env.sub_cons rfl <| Env.sub_cons rfl <| Env.sub_cons rfl <| Env.sub_cons rfl <| Env.sub_cons rfl <| Env.sub_cons rfl <| Env.sub_cons rfl <| Env.sub_cons rfl <| Env.sub_cons rfl <| Env.sub_cons rfl <| Env.sub_cons rfl <| Env.sub_cons rfl <| Env.sub_cons rfl <| Env.sub_nil _)
    ·
      refine R_cond rfl (fun h1 => ?_) (fun h1 => ?_)
      ·
        refine R_region ?_
        refine R_r (D_move rfl) ?_
        refine R_o (E_callV (v := Marks.val kr3.marks) rfl rfl en116 (fun w hM => MarksT_C kr3 br3 Mr3 w hM htr3) ?_)
        refine R_r (D_fieldAddr fa30_2 rfl) ?_
        refine R_o (E_store (cs' := (NodeC.cells (⟨[], s.value, kr3.marks, .slice none 0 0⟩ : NodeC))) 0 rfl rfl rfl (Wr.agg Tryz.sizeOf27 rfl rfl rfl rfl) ?_)
        refine R_nil ?_
        refine R_seq ?_
        refine R_region ?_
        refine R_r (D_load rfl (Has.own 0 rfl) (rd30_NodeC_0 (⟨[], s.value, kr3.marks, .slice none 0 0⟩ : NodeC))) ?_
        have hmer7 : marksAt x s.path nmd = kr3.marks := by simp only [marksAt, hkr3]; revert h1; cases nmd <;> simp
        have hownr7 : ownE s.value kr3.marks 0 = 0 := hmer7 ▸ hown
        refine R_o (E_callP rfl rfl en33 (fun w hM => Of_leaf s.value kr3.marks Mr3 w hM hownr7) (fun vr7 Mr7 Hr7 hler7 hpr7 => ?_))
        have q8 := TreeAt.le hler7 q4
        have q9 := TreeAt.le hler7 htr3
        obtain ⟨rfl, br7, rfl, htr7⟩ := hpr7
        refine R_r (D_move rfl) ?_
        refine R_r (D_extract rfl rfl) ?_
        refine R_r (D_extract rfl rfl) ?_
        refine R_r (D_assign rfl) ?_
        refine R_r (D_assign rfl) ?_
        refine R_nil ?_
        refine R_seq ?_
        refine R_seq ?_
        refine R_region ?_
        refine R_r (D_move rfl) ?_
        refine R_r (D_ptrNil Tryz.underlying34 rfl) ?_
        refine R_nil ?_
        refine R_cond_t rfl ?_
        refine R_seq ?_
        refine R_region ?_
        refine R_r (D_move rfl) ?_
        refine R_r (D_assign rfl) ?_
        refine R_nil ?_
        refine R_ret ?_
        refine R_drop (List.nil_sublist _) ?_
        refine R_fin1 rfl rfl ?_
        exact ⟨rfl, _, rfl, by rw [hmer7]; exact htr7⟩
      ·
        refine R_skip ?_
        refine R_seq ?_
        refine R_region ?_
        refine R_r (D_load rfl (Has.own 0 rfl) (rd30_NodeC_0 (⟨[], s.value, Marks.zero, .slice none 0 0⟩ : NodeC))) ?_
        have hmer10 : marksAt x s.path nmd = Marks.zero := by simp only [marksAt, hkr3]; revert h1; cases nmd <;> simp
        have hownr10 : ownE s.value Marks.zero 0 = 0 := hmer10 ▸ hown
        refine R_o (E_callP rfl rfl en33 (fun w hM => Of_leaf s.value Marks.zero Mr3 w hM hownr10) (fun vr10 Mr10 Hr10 hler10 hpr10 => ?_))
        have q11 := TreeAt.le hler10 q4
        have q12 := TreeAt.le hler10 htr3
        obtain ⟨rfl, br10, rfl, htr10⟩ := hpr10
        refine R_r (D_move rfl) ?_
        refine R_r (D_extract rfl rfl) ?_
        refine R_r (D_extract rfl rfl) ?_
        refine R_r (D_assign rfl) ?_
        refine R_r (D_assign rfl) ?_
        refine R_nil ?_
        refine R_seq ?_
        refine R_seq ?_
        refine R_region ?_
        refine R_r (D_move rfl) ?_
        refine R_r (D_ptrNil Tryz.underlying34 rfl) ?_
        refine R_nil ?_
        refine R_cond_t rfl ?_
        refine R_seq ?_
        refine R_region ?_
        refine R_r (D_move rfl) ?_
        refine R_r (D_assign rfl) ?_
        refine R_nil ?_
        refine R_ret ?_
        refine R_drop (List.nil_sublist _) ?_
        refine R_fin1 rfl rfl ?_
        exact ⟨rfl, _, rfl, by rw [hmer10]; exact htr10⟩

theorem laid1_C (x : Node) (b : Nat) (s : Spot) (nmd : Bool) (z : Node) (bo : Nat) (M : PMem) (w : World) (hM : Lies M w) (hb : TreeAt M b x) (hrx : Node.Ris x) (hsz : Node.sizeL x.kids ≤ 2147483648) (hp : s.path.length ≤ 1073741824) (hown : ownE s.value (marksAt x s.path nmd) 0 = 0) (hz : TreeAt M bo z) (hrz : Node.Ris z) (he : (splitP s.path 64).2 = 0) (hway : wayB z (splitP s.path 64).1 = true) (hdep : (splitP s.path 64).1.length + 0 ≤ 64) (hadd : Addable z (splitP s.path 64).1) (hszz : Node.sizeL z.kids + 1 ≤ 2147483648) : Ends Tryz.prog 92 [P_ bo 0, P_ b 0, Spot.val s, .bool nmd] w [] M (fun v M' H' => H' = [] ∧ ∃ b', v = P_ b' 0 ∧ TreeAt M' b' (withN z (splitP s.path 64).1 (Node.mk [] s.value (marksAt x s.path nmd) []))) := by
  refine Ends.enter (H := []) Tryz.func92 rfl Tryz.ntmps92 rfl (St.start hM) ?_
  refine R_seq ?_
  refine R_region ?_
  refine R_o (E_box (Spot.cells s) rfl rfl (fun b1 => ?_))
  refine R_r (D_assign rfl) ?_
  refine R_nil ?_
  refine R_seq ?_
  refine R_region ?_
  refine R_r (D_fieldAddr fa149_1 rfl) ?_
  refine R_r (D_load rfl (Has.own 0 rfl) (rd24_Spot_1 s)) ?_
  refine R_r (D_build rfl (bd30_1 _)) ?_
  refine R_o (E_alloc (NodeC.cells NodeC.zero) Tryz.zeroValue30 rfl (fun b2 => ?_))
  refine R_o (E_store (cs' := (NodeC.cells (⟨[], s.value, Marks.zero, .slice none 0 0⟩ : NodeC))) 0 rfl rfl rfl (Wr.agg Tryz.sizeOf30 rfl rfl rfl rfl) ?_)
  refine R_nil ?_
  refine R_seq ?_
  refine R_seq ?_
  refine R_region ?_
  refine R_r (D_move rfl) ?_
  refine R_r (D_fieldAddr fa149_0 rfl) ?_
  refine R_r (D_load rfl (Has.own 1 rfl) (Rd.one Tryz.isAgg9 rfl)) ?_
  refine R_o (E_callP rfl rfl en70 (fun w hM => Sub_C x b s.path M w hM hb hrx hsz (by omega)) (fun vr3 Mr3 Hr3 hler3 hpr3 => ?_))
  have q4 := TreeAt.le hler3 hb
  have q5 := TreeAt.le hler3 hz
  obtain ⟨rfl, hpr3⟩ := hpr3
  rcases hpr3 with ⟨hkr3, rfl⟩ | ⟨kr3, br3, hkr3, rfl, htr3⟩
  ·
    refine R_r (D_move rfl) ?_
    refine R_r (D_extract rfl rfl) ?_
    refine R_r (D_extract rfl rfl) ?_
    refine R_r (D_assign rfl) ?_
    refine R_r (D_assign rfl) ?_
    refine R_nil ?_
    refine R_seq ?_
    refine R_join [(0, P_ bo 0), (1, P_ b 0), (2, Spot.val s), (3, .bool nmd), (6, P_ b1 0), (8, .pointer none), (9, P_ b2 0), (10, .pointer none), (11, .bool false), (16, P_ b1 1), (17, Val.val s.value), (18, NodeC.val (⟨[], s.value, Marks.zero, .slice none 0 0⟩ : NodeC)), (19, .tuple #[.pointer none, .bool false]), (20, P_ b 0), (21, P_ b1 0), (22, S s.path), (23, .tuple #[.pointer none, .bool false]), (24, .pointer none), (25, .bool false), (30, .bool false)] (M' := Mr3) (H' := [.blk b2 (.cells (List.toArray (NodeC.cells (⟨[], s.value, Marks.zero, .slice none 0 0⟩ : NodeC))) 30), .blk b1 (.cells (List.toArray (Spot.cells s)) 149)]) ?_ ?_
    ·
      refine R_region ?_
      refine R_r (D_move rfl) ?_
      refine R_r (D_move rfl) ?_
      refine R_skipop rfl rfl rfl ?_
      refine R_skipop rfl rfl rfl ?_
      refine R_r (D_pick false rfl rfl) ?_
      refine R_nil ?_
      exact R_at (Env.sub_cons rfl <| Env.sub_cons rfl <| Env.sub_cons rfl <| Env.sub_cons rfl <| Env.sub_cons rfl <| Env.sub_cons rfl <| Env.sub_cons rfl <| Env.sub_cons rfl <| Env.sub_cons rfl <| Env.sub_cons rfl <| Env.sub_cons rfl <| Env.sub_cons rfl <| Env.sub_cons rfl <| Env.sub_cons rfl <| Env.sub_cons rfl <| Env.sub_cons rfl <| Env.sub_cons rfl <| Env.sub_cons rfl <| Env.sub_cons rfl <| Env.sub_cons rfl <| Env.sub_nil _)
    ·
      refine R_cond_f rfl ?_
      refine R_skip ?_
      refine R_seq ?_
      refine R_region ?_
      refine R_r (D_load rfl (Has.own 0 rfl) (rd30_NodeC_0 (⟨[], s.value, Marks.zero, .slice none 0 0⟩ : NodeC))) ?_
      have hmer6 : marksAt x s.path nmd = Marks.zero := by simp only [marksAt, hkr3]; cases nmd <;> rfl
      have hownr6 : ownE s.value Marks.zero 0 = 0 := hmer6 ▸ hown
      refine R_o (E_callP rfl rfl en33 (fun w hM => Of_leaf s.value Marks.zero Mr3 w hM hownr6) (fun vr6 Mr6 Hr6 hler6 hpr6 => ?_))
      have q7 := TreeAt.le hler6 q4
      have q8 := TreeAt.le hler6 q5
      obtain ⟨rfl, br6, rfl, htr6⟩ := hpr6
      refine R_r (D_move rfl) ?_
      refine R_r (D_extract rfl rfl) ?_
      refine R_r (D_extract rfl rfl) ?_
      refine R_r (D_assign rfl) ?_
      refine R_r (D_assign rfl) ?_
      refine R_nil ?_
      refine R_seq ?_
      refine R_seq ?_
      refine R_region ?_
      refine R_r (D_move rfl) ?_
      refine R_r (D_ptrNil Tryz.underlying34 rfl) ?_
      refine R_nil ?_
      refine R_cond_f rfl ?_
      refine R_skip ?_
      refine R_seq ?_
      refine R_region ?_
      refine R_r (D_move rfl) ?_
      refine R_r (D_fieldAddr fa149_0 rfl) ?_
      refine R_r (D_load rfl (Has.own 1 rfl) (Rd.one Tryz.isAgg9 rfl)) ?_
      refine R_r (D_move rfl) ?_
      refine R_o (E_callP rfl rfl en117 (fun w hM => Put_C z bo s.path br6 (Node.mk [] s.value Marks.zero []) Mr6 w hM q8 hrz (by omega) htr6 he hway hdep hadd (by show _ + (1 + 0) ≤ _; omega)) (fun vr9 Mr9 Hr9 hler9 hpr9 => ?_))
      have q10 := TreeAt.le hler9 q7
      have q11 := TreeAt.le hler9 q8
      have q12 := TreeAt.le hler9 htr6
      obtain ⟨rfl, br9, rfl, htr9⟩ := hpr9
      refine R_r (D_move rfl) ?_
      refine R_r (D_extract rfl rfl) ?_
      refine R_r (D_extract rfl rfl) ?_
      refine R_r (D_assign rfl) ?_
      refine R_r (D_assign rfl) ?_
      refine R_nil ?_
      refine R_seq ?_
      refine R_region ?_
      refine R_r (D_move rfl) ?_
      refine R_r (D_assign rfl) ?_
      refine R_nil ?_
      refine R_ret ?_
      refine R_drop (List.nil_sublist _) ?_
      refine R_fin1 rfl rfl ?_
      exact ⟨rfl, _, rfl, by rw [hmer6]; exact htr9⟩
  ·
    refine R_r (D_move rfl) ?_
    refine R_r (D_extract rfl rfl) ?_
    refine R_r (D_extract rfl rfl) ?_
    refine R_r (D_assign rfl) ?_
    refine R_r (D_assign rfl) ?_
    refine R_nil ?_
    refine R_seq ?_
    refine R_join [(0, P_ bo 0), (1, P_ b 0), (2, Spot.val s), (3, .bool nmd), (6, P_ b1 0), (8, .pointer none), (9, P_ b2 0), (10, P_ br3 0), (11, .bool true), (16, P_ b1 1), (17, Val.val s.value), (18, NodeC.val (⟨[], s.value, Marks.zero, .slice none 0 0⟩ : NodeC)), (19, .tuple #[P_ br3 0, .bool true]), (20, P_ b 0), (21, P_ b1 0), (22, S s.path), (23, .tuple #[P_ br3 0, .bool true]), (24, P_ br3 0), (25, .bool true), (30, .bool (!nmd))] (M' := Mr3) (H' := [.blk b2 (.cells (List.toArray (NodeC.cells (⟨[], s.value, Marks.zero, .slice none 0 0⟩ : NodeC))) 30), .blk b1 (.cells (List.toArray (Spot.cells s)) 149)]) ?_ ?_
    ·
      refine R_region ?_
      refine R_r (D_move rfl) ?_
      refine R_r (D_move rfl) ?_
      refine R_r (D_move rfl) ?_
      refine R_r (D_not rfl) ?_
      refine R_r (D_pick true rfl rfl) ?_
      refine R_nil ?_
      exact R_at (Env.sub_cons rfl <| Env.sub_cons rfl <| Env.sub_cons rfl <| Env.sub_cons rfl <| Env.sub_cons rfl <| Env.sub_cons rfl <| Env.sub_cons rfl <| Env.sub_cons rfl <| Env.sub_cons rfl <| Env.sub_cons rfl <| Env.sub_cons rfl <| Env.sub_cons rfl <| Env.sub_cons rfl <| Env.sub_cons rfl <| Env.sub_cons rfl <| Env.sub_cons rfl <| Env.sub_cons rfl <| Env.sub_cons rfl <| Env.sub_cons rfl <| Env.sub_cons rfl <| Env.sub_nil _)
    ·
      refine R_cond rfl (fun h1 => ?_) (fun h1 => ?_)
      ·
        refine R_region ?_
        refine R_r (D_move rfl) ?_
        refine R_o (E_callV (v := Marks.val kr3.marks) rfl rfl en116 (fun w hM => MarksT_C kr3 br3 Mr3 w hM htr3) ?_)
        refine R_r (D_fieldAddr fa30_2 rfl) ?_
        refine R_o (E_store (cs' := (NodeC.cells (⟨[], s.value, kr3.marks, .slice none 0 0⟩ : NodeC))) 0 rfl rfl rfl (Wr.agg Tryz.sizeOf27 rfl rfl rfl rfl) ?_)
        refine R_nil ?_
        refine R_seq ?_
        refine R_region ?_
        refine R_r (D_load rfl (Has.own 0 rfl) (rd30_NodeC_0 (⟨[], s.value, kr3.marks, .slice none 0 0⟩ : NodeC))) ?_
        have hmer13 : marksAt x s.path nmd = kr3.marks := by simp only [marksAt, hkr3]; revert h1; cases nmd <;> simp
        have hownr13 : ownE s.value kr3.marks 0 = 0 := hmer13 ▸ hown
        refine R_o (E_callP rfl rfl en33 (fun w hM => Of_leaf s.value kr3.marks Mr3 w hM hownr13) (fun vr13 Mr13 Hr13 hler13 hpr13 => ?_))
        have q14 := TreeAt.le hler13 q4
        have q15 := TreeAt.le hler13 q5
        have q16 := TreeAt.le hler13 htr3
        obtain ⟨rfl, br13, rfl, htr13⟩ := hpr13
        refine R_r (D_move rfl) ?_
        refine R_r (D_extract rfl rfl) ?_
        refine R_r (D_extract rfl rfl) ?_
        refine R_r (D_assign rfl) ?_
        refine R_r (D_assign rfl) ?_
        refine R_nil ?_
        refine R_seq ?_
        refine R_seq ?_
        refine R_region ?_
        refine R_r (D_move rfl) ?_
        refine R_r (D_ptrNil Tryz.underlying34 rfl) ?_
        refine R_nil ?_
        refine R_cond_f rfl ?_
        refine R_skip ?_
        refine R_seq ?_
        refine R_region ?_
        refine R_r (D_move rfl) ?_
        refine R_r (D_fieldAddr fa149_0 rfl) ?_
        refine R_r (D_load rfl (Has.own 1 rfl) (Rd.one Tryz.isAgg9 rfl)) ?_
        refine R_r (D_move rfl) ?_
        refine R_o (E_callP rfl rfl en117 (fun w hM => Put_C z bo s.path br13 (Node.mk [] s.value kr3.marks []) Mr13 w hM q15 hrz (by omega) htr13 he hway hdep hadd (by show _ + (1 + 0) ≤ _; omega)) (fun vr17 Mr17 Hr17 hler17 hpr17 => ?_))
        have q18 := TreeAt.le hler17 q14
        have q19 := TreeAt.le hler17 q15
        have q20 := TreeAt.le hler17 q16
        have q21 := TreeAt.le hler17 htr13
        obtain ⟨rfl, br17, rfl, htr17⟩ := hpr17
        refine R_r (D_move rfl) ?_
        refine R_r (D_extract rfl rfl) ?_
        refine R_r (D_extract rfl rfl) ?_
        refine R_r (D_assign rfl) ?_
        refine R_r (D_assign rfl) ?_
        refine R_nil ?_
        refine R_seq ?_
        refine R_region ?_
        refine R_r (D_move rfl) ?_
        refine R_r (D_assign rfl) ?_
        refine R_nil ?_
        refine R_ret ?_
        refine R_drop (List.nil_sublist _) ?_
        refine R_fin1 rfl rfl ?_
        exact ⟨rfl, _, rfl, by rw [hmer13]; exact htr17⟩
      ·
        refine R_skip ?_
        refine R_seq ?_
        refine R_region ?_
        refine R_r (D_load rfl (Has.own 0 rfl) (rd30_NodeC_0 (⟨[], s.value, Marks.zero, .slice none 0 0⟩ : NodeC))) ?_
        have hmer22 : marksAt x s.path nmd = Marks.zero := by simp only [marksAt, hkr3]; revert h1; cases nmd <;> simp
        have hownr22 : ownE s.value Marks.zero 0 = 0 := hmer22 ▸ hown
        refine R_o (E_callP rfl rfl en33 (fun w hM => Of_leaf s.value Marks.zero Mr3 w hM hownr22) (fun vr22 Mr22 Hr22 hler22 hpr22 => ?_))
        have q23 := TreeAt.le hler22 q4
        have q24 := TreeAt.le hler22 q5
        have q25 := TreeAt.le hler22 htr3
        obtain ⟨rfl, br22, rfl, htr22⟩ := hpr22
        refine R_r (D_move rfl) ?_
        refine R_r (D_extract rfl rfl) ?_
        refine R_r (D_extract rfl rfl) ?_
        refine R_r (D_assign rfl) ?_
        refine R_r (D_assign rfl) ?_
        refine R_nil ?_
        refine R_seq ?_
        refine R_seq ?_
        refine R_region ?_
        refine R_r (D_move rfl) ?_
        refine R_r (D_ptrNil Tryz.underlying34 rfl) ?_
        refine R_nil ?_
        refine R_cond_f rfl ?_
        refine R_skip ?_
        refine R_seq ?_
        refine R_region ?_
        refine R_r (D_move rfl) ?_
        refine R_r (D_fieldAddr fa149_0 rfl) ?_
        refine R_r (D_load rfl (Has.own 1 rfl) (Rd.one Tryz.isAgg9 rfl)) ?_
        refine R_r (D_move rfl) ?_
        refine R_o (E_callP rfl rfl en117 (fun w hM => Put_C z bo s.path br22 (Node.mk [] s.value Marks.zero []) Mr22 w hM q24 hrz (by omega) htr22 he hway hdep hadd (by show _ + (1 + 0) ≤ _; omega)) (fun vr26 Mr26 Hr26 hler26 hpr26 => ?_))
        have q27 := TreeAt.le hler26 q23
        have q28 := TreeAt.le hler26 q24
        have q29 := TreeAt.le hler26 q25
        have q30 := TreeAt.le hler26 htr22
        obtain ⟨rfl, br26, rfl, htr26⟩ := hpr26
        refine R_r (D_move rfl) ?_
        refine R_r (D_extract rfl rfl) ?_
        refine R_r (D_extract rfl rfl) ?_
        refine R_r (D_assign rfl) ?_
        refine R_r (D_assign rfl) ?_
        refine R_nil ?_
        refine R_seq ?_
        refine R_region ?_
        refine R_r (D_move rfl) ?_
        refine R_r (D_assign rfl) ?_
        refine R_nil ?_
        refine R_ret ?_
        refine R_drop (List.nil_sublist _) ?_
        refine R_fin1 rfl rfl ?_
        exact ⟨rfl, _, rfl, by rw [hmer22]; exact htr26⟩

end Go.Proofs.YtgmomhdammdjgaaGreat
