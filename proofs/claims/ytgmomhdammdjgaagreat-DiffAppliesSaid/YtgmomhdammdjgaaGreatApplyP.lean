/-
  Changes applied to a tree (diff.Apply), walked: the order, what each path holds, what may stand, the tree behind. Conditions: trees and lists of at most 2^30 parts; the tree is one that may be.
-/
import Derived.Test.YtgmomhdammdjgaaGreatGrowP
set_option linter.unusedVariables false
set_option linter.unusedSimpArgs false
set_option maxRecDepth 20000
set_option maxHeartbeats 4000000
namespace Go.Proofs.YtgmomhdammdjgaaGreat
open Go Go.Proofs Go.RowKit

theorem en44 : ∀ (args : Array Value) (w : World), (callFunc 44 args).run Tryz.prog w = .ok (.enter 44 args) w := enters_fn Tryz.func44 (by kernel_rfl) rfl
theorem ApplyD_C (x : Node) (b : Nat) (l : List Change) (bl cl : Nat) (csl : List Value) (M : PMem) (w : World) (hM : Lies M w) (hb : TreeAt M b x) (hrx : Node.Ris x) (hpw : Node.wtL x.kids ≤ 1073741823) (hlc : l.length ≤ cl) (hrl : (Res.blk bl (.cells (List.toArray csl) 66)).holds w) (hfl0 : ∀ q, (Res.blk bl (.cells (List.toArray csl) 66)).fp = some q → M q = none) (hxl : ∀ (i : Nat) (x : Change), l[i]? = some x → byEnc Change.cells (chunk csl 0 71 i) x) (hln : l.length ≤ 1073741824) (hpl : ∀ e ∈ l, e.path.length ≤ 1073741824) (hlp : ∀ s ∈ spots x l, s.path.length ≤ 1073741824) (hndS : risesL l false [] = true → l.all (fun c => decide (valAt x c.path = c.old)) = true → ((spots x l).map Spot.path).Nodup) (hokS0 : risesL l false [] = true → l.all (fun c : Change => c.new.okN && !(decide (c.path = []) && decide (c.new.kind = 0))) = true → ∀ s ∈ spots x l, ¬ s.value.kind = 0 → (splitP s.path 64).2 = 0 ∧ ownE s.value (marksAt x s.path (nowOf l s.path).isSome) 0 = 0) : Ends Tryz.prog 12 [P_ b 0, .slice (some ⟨bl, 0, none⟩) l.length cl] w [bl] M (fun v M' H' => H' = [.blk bl (.cells (List.toArray csl) 66)] ∧ ((risesL l false [] = false ∧ v = .tuple #[.pointer none, I 130]) ∨ (risesL l false [] = true ∧ l.all (fun c => decide (valAt x c.path = c.old)) = false ∧ v = .tuple #[.pointer none, I 131]) ∨ (risesL l false [] = true ∧ l.all (fun c => decide (valAt x c.path = c.old)) = true ∧ l.all (fun c : Change => c.new.okN && !(decide (c.path = []) && decide (c.new.kind = 0))) = false ∧ v = .tuple #[.pointer none, I 132]) ∨ (risesL l false [] = true ∧ l.all (fun c => decide (valAt x c.path = c.old)) = true ∧ l.all (fun c : Change => c.new.okN && !(decide (c.path = []) && decide (c.new.kind = 0))) = true ∧ ∃ ls : List Spot, ls.Perm (spots x l) ∧ SortedS ls ∧ ((runG x l ls [] = none ∧ v = .tuple #[.pointer none, I 132]) ∨ ∃ done, runG x l ls [] = some done ∧ ((done = [] ∧ v = .tuple #[.pointer none, I 0]) ∨ ∃ b z, v = .tuple #[P_ b 0, I 0] ∧ TreeAt M' b z ∧ Grown z done))))) := by
  have hxs := Node.size_eq x
  have hwz := Node.sizeL_wt x.kids
  refine Ends.enter (H := [.blk bl (.cells (List.toArray csl) 66)]) Tryz.func12 rfl Tryz.ntmps12 rfl (St.startR hM hrl hfl0) ?_
  refine R_seq ?_
  refine R_region ?_
  refine R_r (D_assign rfl) ?_
  refine R_r (D_assign rfl) ?_
  refine R_nil ?_
  refine R_seq ?_
  refine R_seq ?_
  refine R_region ?_
  refine R_r (D_move rfl) ?_
  refine R_o (E_callL (v := I (if risesL l false [] then 0 else 130 : Int)) 0 rfl rfl rfl en42 (fun w hle hbl hM => ordered_C l (some ⟨bl, 0, none⟩) cl _ w hM hlc (.inr ⟨bl, 0, csl, _, _, rfl, hbl, hxl⟩) hln hpl) ?_)
  refine R_r (D_assign rfl) ?_
  refine R_nil ?_
  refine R_seq ?_
  refine R_region ?_
  refine R_r (D_move rfl) ?_
  refine R_r (D_ne rfl rfl) ?_
  refine R_nil ?_
  refine R_cond rfl (fun h1 => ?_) (fun h1 => ?_)
  ·
    have h1p : ¬ ((if risesL l false [] then 0 else 130 : Int) = 0) := by simpa using h1
    have hr0 : risesL l false [] = false := by cases hq : risesL l false [] with | false => rfl | true => (rw [hq] at h1p; exact absurd rfl h1p)
    refine R_seq ?_
    refine R_region ?_
    refine R_r (D_move rfl) ?_
    refine R_r (D_assign rfl) ?_
    refine R_r (D_assign rfl) ?_
    refine R_nil ?_
    refine R_ret ?_
    refine R_fin2 rfl rfl rfl ?_
    exact ⟨rfl, .inl ⟨hr0, by rw [hr0]; rfl⟩⟩
  ·
    have h1p : ((if risesL l false [] then 0 else 130 : Int) = 0) := by simpa using h1
    have hr0 : risesL l false [] = true := by cases hq : risesL l false [] with | true => rfl | false => (rw [hq] at h1p; exact absurd h1p (by decide))
    refine R_skip ?_
    refine R_seq ?_
    refine R_region ?_
    refine R_o (E_makeMap (fun rm => ?_))
    refine R_r (D_assign rfl) ?_
    refine R_nil ?_
    refine R_seq ?_
    refine R_seq ?_
    refine R_region ?_
    refine R_r (D_move rfl) ?_
    refine R_r (D_lenL Tryz.underlying31 rfl) ?_
    refine R_r (D_move rfl) ?_
    refine R_nil ?_
    refine R_block ?_
    refine R_loop (σ := (Nat) × (MapL) × (Nat)) (fun gs => ([(0, P_ b 0), (1, .slice (some ⟨bl, 0, none⟩) l.length cl), (7, .map (some rm)), (20, .slice (some ⟨bl, 0, none⟩) l.length cl), (21, I (l.length : Int)), (22, I (gs.1 : Int))], M, [.blk rm (mobj gs.2.1 gs.2.2), .blk bl (.cells (List.toArray csl) 66)])) (fun gs => gs.1 ≤ l.length ∧ (∀ p, lookL gs.2.1 p = (nowOf (l.take gs.1) p).map Val.val) ∧ (l.take gs.1).all (fun c => decide (valAt x c.path = c.old)) = true) (fun gs => l.length - gs.1) (0, [], 0) ?_ (Env.sub_cons rfl <| Env.sub_cons rfl <| Env.sub_cons rfl <| Env.sub_cons rfl <| Env.sub_cons rfl <| Env.sub_cons rfl <| Env.sub_nil _) rfl rfl ?_
    · show 0 ≤ l.length ∧ (∀ p, lookL ([]) p = (nowOf (l.take 0) p).map Val.val) ∧ (l.take 0).all (fun c => decide (valAt x c.path = c.old)) = true; exact ⟨by omega, fun p => rfl, rfl⟩
    rintro ⟨i, ml, mc⟩ hok
    replace hok : i ≤ l.length ∧ (∀ p, lookL ml p = (nowOf (l.take i) p).map Val.val) ∧ (l.take i).all (fun c => decide (valAt x c.path = c.old)) = true := hok
    show Cx.R _ _ _ [(0, P_ b 0), (1, .slice (some ⟨bl, 0, none⟩) l.length cl), (7, .map (some rm)), (20, .slice (some ⟨bl, 0, none⟩) l.length cl), (21, I (l.length : Int)), (22, I (i : Int))] M [.blk rm (mobj ml mc), .blk bl (.cells (List.toArray csl) 66)]
    obtain ⟨hi, hnow, hall⟩ := hok
    refine R_seq ?_
    refine R_region ?_
    refine R_r (D_lt rfl rfl) ?_
    refine R_nil ?_
    refine R_seq ?_
    refine R_cond rfl (fun h2 => ?_) (fun h2 => ?_)
    ·
      have h2p := of_decide_eq_true h2
      refine R_skip ?_
      refine R_seq ?_
      refine R_block ?_
      refine R_seq ?_
      refine R_region ?_
      obtain ⟨x1, hx1⟩ : ∃ e_, l[i]? = some e_ := ⟨_, List.getElem?_eq_getElem (by first | omega | (simp; omega))⟩
      have hex1 := hxl i x1 hx1
      refine R_r (D_indexLn (i) Tryz.underlying31 Tryz.sizeOf66 rfl rfl (by first | rfl | omega) (by first | omega | (simp; omega))) ?_
      refine R_r (D_load rfl (Has.own 1 rfl) (Rd.elemA (i := i) hex1 Tryz.underlying66 rfl inf66 rfl)) ?_
      refine R_o (E_alloc (Change.cells Change.zero) Tryz.zeroValue66 rfl (fun b2 => ?_))
      refine R_o (E_store (cs' := (Change.cells x1)) 0 rfl rfl rfl (Wr.agg Tryz.sizeOf66 rfl rfl rfl rfl) ?_)
      refine R_nil ?_
      refine R_seq ?_
      refine R_seq ?_
      refine R_region ?_
      refine R_r (D_move rfl) ?_
      refine R_r (D_fieldAddr fa66_0 rfl) ?_
      refine R_r (D_load rfl (Has.own 0 rfl) (Rd.one Tryz.isAgg9 rfl)) ?_
      refine R_o (E_callV (v := .tuple #[Val.val (valAt x x1.path), .bool ((subAt x x1.path).isSome)]) rfl rfl en26 (fun w hM => At_C x b x1.path M w hM hb hrx (by omega) (Nat.le_trans (hpl _ (List.mem_of_getElem? hx1)) (by omega))) ?_)
      refine R_r (D_move rfl) ?_
      refine R_r (D_extract rfl rfl) ?_
      refine R_r (D_extract rfl rfl) ?_
      refine R_o (E_alloc (Val.cells Val.zero) Tryz.zeroValue24 rfl (fun b3 => ?_))
      refine R_o (E_store (cs' := (Val.cells (valAt x x1.path))) 0 rfl rfl rfl (Wr.agg Tryz.sizeOf24 rfl rfl rfl rfl) ?_)
      refine R_r (D_assign rfl) ?_
      refine R_nil ?_
      refine R_seq ?_
      refine R_region ?_
      refine R_r (D_load rfl (Has.own 0 rfl) (rd24_Val_0 (valAt x x1.path))) ?_
      refine R_r (D_fieldAddr fa66_1 rfl) ?_
      refine R_r (D_load rfl (Has.own 1 rfl) (rd24_Change_1 x1)) ?_
      refine R_r (D_neA eg24 rfl rfl (eqa24 _ _)) ?_
      refine R_nil ?_
      refine R_cond rfl (fun h3 => ?_) (fun h3 => ?_)
      ·
        have h3p : ¬ ((valAt x x1.path) = x1.old) := by simpa using h3
        refine R_seq ?_
        refine R_region ?_
        refine R_r (D_assign rfl) ?_
        refine R_r (D_assign rfl) ?_
        refine R_nil ?_
        refine R_ret ?_
        refine R_drop (H' := [.blk bl (.cells (List.toArray csl) 66)]) (.cons _ (.cons _ (.cons _ (.cons_cons _ (.slnil))))) ?_
        refine R_fin2 rfl rfl rfl ?_
        exact ⟨rfl, .inr (.inl ⟨hr0, all_bad (List.mem_of_getElem? hx1) (by simpa using h3), rfl⟩)⟩
      ·
        have h3p : ((valAt x x1.path) = x1.old) := by simpa using h3
        refine R_skip ?_
        refine R_region ?_
        refine R_r (D_move rfl) ?_
        refine R_r (D_fieldAddr fa66_0 rfl) ?_
        refine R_r (D_load rfl (Has.own 1 rfl) (Rd.one Tryz.isAgg9 rfl)) ?_
        refine R_r (D_fieldAddr fa66_2 rfl) ?_
        refine R_r (D_load rfl (Has.own 1 rfl) (rd24_Change_36 x1)) ?_
        refine R_o (E_mapUpdate 2 Tryz.underlying104 Tryz.underlying9 rfl rfl rfl rfl ?_)
        refine R_nil ?_
        refine R_region ?_
        refine R_r (D_add rfl rfl rfl (by omega) (by omega)) ?_
        refine R_r (D_move rfl) ?_
        refine R_nil ?_
        refine R_drop (H' := [.blk rm (mobj (updL ml x1.path (Val.val x1.new) mc) (updC ml x1.path mc)), .blk bl (.cells (List.toArray csl) 66)]) (.cons _ (.cons _ (List.Sublist.refl _))) ?_
        exact R_back (i + 1, (updL ml x1.path (Val.val x1.new) mc), (updC ml x1.path mc)) (by show (i + 1) ≤ l.length ∧ (∀ p, lookL (updL ml x1.path (Val.val x1.new) mc) p = (nowOf (l.take (i + 1)) p).map Val.val) ∧ (l.take (i + 1)).all (fun c => decide (valAt x c.path = c.old)) = true; exact ⟨by omega, by rw [take_snoc hx1]; exact nowOf_map_snoc hnow _, by rw [all_take hx1, hall, Bool.true_and]; simpa using h3⟩) (by show l.length - (i + 1) < l.length - i; omega) (Env.sub_cons rfl <| Env.sub_cons rfl <| Env.sub_cons rfl <| Env.sub_cons rfl <| Env.sub_cons rfl <| Env.sub_cons rfl <| Env.sub_nil _) rfl rfl
    ·
      have h2p := of_decide_eq_false h2
      refine R_exit rfl ?_
      refine R_seq ?_
      refine R_seq ?_
      have htl : l.take i = l := List.take_of_length_le (by omega)
      rw [htl] at hnow hall
      refine R_freeze (fun hleF hmF => ?_)
      have q4 := TreeAt.le hleF hb
      refine R_region ?_
      refine R_r (D_move rfl) ?_
      refine R_r (D_lenL Tryz.underlying31 rfl) ?_
      refine R_r (D_move rfl) ?_
      refine R_nil ?_
      refine R_block ?_
      refine R_loop (σ := (Nat)) (fun gs => ([(0, P_ b 0), (1, .slice (some ⟨bl, 0, none⟩) l.length cl), (7, .map (some rm)), (43, .slice (some ⟨bl, 0, none⟩) l.length cl), (44, I (l.length : Int)), (45, I (gs : Int))], (PMem.add M rm (mobj ml mc)), [.blk bl (.cells (List.toArray csl) 66)])) (fun gs => gs ≤ l.length ∧ (l.take gs).all (fun c : Change => c.new.okN && !(decide (c.path = []) && decide (c.new.kind = 0))) = true) (fun gs => l.length - gs) 0 ?_ (Env.sub_cons rfl <| Env.sub_cons rfl <| Env.sub_cons rfl <| Env.sub_cons rfl <| Env.sub_cons rfl <| Env.sub_cons rfl <| Env.sub_nil _) rfl rfl ?_
      · show 0 ≤ l.length ∧ (l.take 0).all (fun c : Change => c.new.okN && !(decide (c.path = []) && decide (c.new.kind = 0))) = true; exact ⟨by omega, rfl⟩
      rintro j hok
      replace hok : j ≤ l.length ∧ (l.take j).all (fun c : Change => c.new.okN && !(decide (c.path = []) && decide (c.new.kind = 0))) = true := hok
      show Cx.R _ _ _ [(0, P_ b 0), (1, .slice (some ⟨bl, 0, none⟩) l.length cl), (7, .map (some rm)), (43, .slice (some ⟨bl, 0, none⟩) l.length cl), (44, I (l.length : Int)), (45, I (j : Int))] (PMem.add M rm (mobj ml mc)) [.blk bl (.cells (List.toArray csl) 66)]
      obtain ⟨hj, hsh⟩ := hok
      refine R_seq ?_
      refine R_region ?_
      refine R_r (D_lt rfl rfl) ?_
      refine R_nil ?_
      refine R_seq ?_
      refine R_cond rfl (fun h3 => ?_) (fun h3 => ?_)
      ·
        have h3p := of_decide_eq_true h3
        refine R_skip ?_
        refine R_seq ?_
        refine R_block ?_
        refine R_seq ?_
        refine R_region ?_
        obtain ⟨x6, hx6⟩ : ∃ e_, l[j]? = some e_ := ⟨_, List.getElem?_eq_getElem (by first | omega | (simp; omega))⟩
        have hex6 := hxl j x6 hx6
        refine R_r (D_indexLn (j) Tryz.underlying31 Tryz.sizeOf66 rfl rfl (by first | rfl | omega) (by first | omega | (simp; omega))) ?_
        refine R_r (D_load rfl (Has.own 0 rfl) (Rd.elemA (i := j) hex6 Tryz.underlying66 rfl inf66 rfl)) ?_
        refine R_o (E_alloc (Change.cells Change.zero) Tryz.zeroValue66 rfl (fun b7 => ?_))
        refine R_o (E_store (cs' := (Change.cells x6)) 0 rfl rfl rfl (Wr.agg Tryz.sizeOf66 rfl rfl rfl rfl) ?_)
        refine R_nil ?_
        refine R_seq ?_
        refine R_join [(0, P_ b 0), (1, .slice (some ⟨bl, 0, none⟩) l.length cl), (7, .map (some rm)), (13, P_ b7 0), (43, .slice (some ⟨bl, 0, none⟩) l.length cl), (44, I (l.length : Int)), (45, I (j : Int)), (46, .bool (decide ((j : Int) < (l.length : Int)))), (47, P_ bl (0 + j * 71)), (48, Change.val x6), (63, .bool ((!x6.new.okN) || ((decide (x6.path = ([] : Str))) && (decide (x6.new.kind = 0)))))] (M' := (PMem.add M rm (mobj ml mc))) (H' := [.blk b7 (.cells (List.toArray (Change.cells x6)) 66), .blk bl (.cells (List.toArray csl) 66)]) ?_ ?_
        ·
          refine R_region ?_
          refine R_r (D_fieldAddr fa66_2 rfl) ?_
          refine R_r (D_load rfl (Has.own 0 rfl) (rd24_Change_36 x6)) ?_
          refine R_o (E_callV (v := .bool x6.new.okN) rfl rfl en43 (fun w hM => right_C x6.new (PMem.add M rm (mobj ml mc)) w hM ) ?_)
          refine R_r (D_not rfl) ?_
          refine R_r (D_move rfl) ?_
          refine R_split 53 rfl (fun h4 => ?_) (fun h4 => ?_)
          ·
            refine R_skipop rfl rfl rfl ?_
            refine R_skipop rfl rfl rfl ?_
            refine R_skipop rfl rfl rfl ?_
            refine R_skipop rfl rfl rfl ?_
            refine R_skipop rfl rfl rfl ?_
            refine R_skipop rfl rfl rfl ?_
            refine R_skipop rfl rfl rfl ?_
            refine R_skipop rfl rfl rfl ?_
            refine R_skipop rfl rfl rfl ?_
            refine R_r (D_pick true rfl rfl) ?_
            refine R_nil ?_
            exact R_at (Env.sub_cons rfl <| Env.sub_cons rfl <| Env.sub_cons rfl <| Env.sub_cons rfl <| Env.sub_cons rfl <| Env.sub_cons rfl <| Env.sub_cons rfl <| Env.sub_cons rfl <| Env.sub_cons rfl <| Env.sub_cons rfl <| Env.sub_cons (by first | (show some (Value.bool _) = some (Value.bool _); simp only [h4, Bool.true_and, Bool.false_and, Bool.true_or, Bool.false_or, Bool.and_true, Bool.and_false, Bool.or_true, Bool.or_false]; done) | (show some (Value.bool _) = some (Value.bool _); (try rw [h4]); first | done | rfl) | simp [h4, Env.find]) <| Env.sub_nil _)
          ·
            refine R_r (D_fieldAddr fa66_0 rfl) ?_
            refine R_r (D_load rfl (Has.own 0 rfl) (Rd.one Tryz.isAgg9 rfl)) ?_
            refine R_r (D_eqS rfl rfl) ?_
            refine R_r (D_move rfl) ?_
            refine R_split 57 rfl (fun h5 => ?_) (fun h5 => ?_)
            ·
              have h5p := of_decide_eq_true h5
              refine R_r (D_fieldAddr fa66_2 rfl) ?_
              refine R_r (D_fieldAddr fa24_0 rfl) ?_
              refine R_r (D_load rfl (Has.own 0 rfl) (Rd.one Tryz.isAgg3 rfl)) ?_
              refine R_r (D_eq rfl rfl) ?_
              refine R_r (D_pick true rfl rfl) ?_
              refine R_r (D_pick false rfl rfl) ?_
              refine R_nil ?_
              exact R_at (Env.sub_cons rfl <| Env.sub_cons rfl <| Env.sub_cons rfl <| Env.sub_cons rfl <| Env.sub_cons rfl <| Env.sub_cons rfl <| Env.sub_cons rfl <| Env.sub_cons rfl <| Env.sub_cons rfl <| Env.sub_cons rfl <| Env.sub_cons (by first | (show some (Value.bool _) = some (Value.bool _); simp only [h4, h5, Bool.true_and, Bool.false_and, Bool.true_or, Bool.false_or, Bool.and_true, Bool.and_false, Bool.or_true, Bool.or_false]; done) | (show some (Value.bool _) = some (Value.bool _); (try rw [h4]); (try rw [h5]); first | done | rfl) | simp [h4, h5, Env.find]) <| Env.sub_nil _)
            ·
              have h5p := of_decide_eq_false h5
              refine R_skipop rfl rfl rfl ?_
              refine R_skipop rfl rfl rfl ?_
              refine R_skipop rfl rfl rfl ?_
              refine R_skipop rfl rfl rfl ?_
              refine R_r (D_pick false rfl rfl) ?_
              refine R_r (D_pick false rfl rfl) ?_
              refine R_nil ?_
              exact R_at (Env.sub_cons rfl <| Env.sub_cons rfl <| Env.sub_cons rfl <| Env.sub_cons rfl <| Env.sub_cons rfl <| Env.sub_cons rfl <| Env.sub_cons rfl <| Env.sub_cons rfl <| Env.sub_cons rfl <| Env.sub_cons rfl <| Env.sub_cons (by first | (show some (Value.bool _) = some (Value.bool _); simp only [h4, h5, Bool.true_and, Bool.false_and, Bool.true_or, Bool.false_or, Bool.and_true, Bool.and_false, Bool.or_true, Bool.or_false]; done) | (show some (Value.bool _) = some (Value.bool _); (try rw [h4]); (try rw [h5]); first | done | rfl) | simp [h4, h5, Env.find]) <| Env.sub_nil _)
        ·
          refine R_cond rfl (fun h4 => ?_) (fun h4 => ?_)
          ·
            have h4p := h4; simp only [Bool.and_eq_true, Bool.or_eq_true, Bool.not_eq_true', Bool.and_eq_false_imp, Bool.or_eq_false_iff, Bool.not_eq_false', decide_eq_true_eq, decide_eq_false_iff_not] at h4p
            refine R_seq ?_
            refine R_region ?_
            refine R_r (D_assign rfl) ?_
            refine R_r (D_assign rfl) ?_
            refine R_nil ?_
            refine R_ret ?_
            refine R_drop (H' := [.blk bl (.cells (List.toArray csl) 66)]) (.cons _ (.cons_cons _ (.slnil))) ?_
            refine R_fin2 rfl rfl rfl ?_
            exact ⟨rfl, .inr (.inr (.inl ⟨hr0, hall, all_bad (List.mem_of_getElem? hx6) (by have h_ := h4; revert h_; generalize x6.new.okN = q1; generalize decide (x6.path = []) = q2; generalize decide (x6.new.kind = 0) = q3; cases q1 <;> cases q2 <;> cases q3 <;> simp), rfl⟩))⟩
          ·
            have h4p := h4; simp only [Bool.and_eq_true, Bool.or_eq_true, Bool.not_eq_true', Bool.and_eq_false_imp, Bool.or_eq_false_iff, Bool.not_eq_false', decide_eq_true_eq, decide_eq_false_iff_not] at h4p
            refine R_skip ?_
            refine R_region ?_
            refine R_r (D_add rfl rfl rfl (by omega) (by omega)) ?_
            refine R_r (D_move rfl) ?_
            refine R_nil ?_
            refine R_drop (H' := [.blk bl (.cells (List.toArray csl) 66)]) (.cons _ (List.Sublist.refl _)) ?_
            exact R_back (j + 1) (by show (j + 1) ≤ l.length ∧ (l.take (j + 1)).all (fun c : Change => c.new.okN && !(decide (c.path = []) && decide (c.new.kind = 0))) = true; exact ⟨by omega, by rw [all_take hx6, hsh, Bool.true_and]; have h_ := h4; revert h_; generalize x6.new.okN = q1; generalize decide (x6.path = []) = q2; generalize decide (x6.new.kind = 0) = q3; cases q1 <;> cases q2 <;> cases q3 <;> simp⟩) (by show l.length - (j + 1) < l.length - j; omega) (Env.sub_cons rfl <| Env.sub_cons rfl <| Env.sub_cons rfl <| Env.sub_cons rfl <| Env.sub_cons rfl <| Env.sub_cons rfl <| Env.sub_nil _) rfl rfl
      ·
        have h3p := of_decide_eq_false h3
        refine R_exit rfl ?_
        refine R_seq ?_
        have htl2 : l.take j = l := List.take_of_length_le (by omega)
        rw [htl2] at hsh
        have hokS := hokS0 hr0
        have hnd := hndS hr0 hall
        refine R_region ?_
        refine R_r (D_move rfl) ?_
        refine R_r (D_move rfl) ?_
        refine R_r (D_move rfl) ?_
        refine R_o (E_callH1 0 rfl rfl rfl en44 (fun w hM hr hf => growD_C x b l bl cl csl rm ml mc (PMem.add M rm (mobj ml mc)) w hM q4 hrx hpw hlc hr hf hxl hln hmF hnow hlp hnd (hokS hsh)) (fun vr8 Mr8 Hr8 hler8 hpr8 => ?_))
        have q9 := TreeAt.le hler8 q4
        have q11 := hler8 _ _ hmF
        obtain ⟨rfl, ls, hperm, hsort, hout⟩ := hpr8
        rcases hout with ⟨hrun, rfl⟩ | ⟨done, hrun, ⟨hd0, rfl⟩ | ⟨bz, z, rfl, htz, hgz⟩⟩
        ·
          refine R_r (D_extract rfl rfl) ?_
          refine R_r (D_extract rfl rfl) ?_
          refine R_r (D_assign rfl) ?_
          refine R_r (D_assign rfl) ?_
          refine R_nil ?_
          refine R_ret ?_
          refine R_fin2 rfl rfl rfl ?_
          exact ⟨rfl, .inr (.inr (.inr ⟨hr0, hall, hsh, ls, hperm, hsort, .inl ⟨hrun, rfl⟩⟩))⟩
        ·
          refine R_r (D_extract rfl rfl) ?_
          refine R_r (D_extract rfl rfl) ?_
          refine R_r (D_assign rfl) ?_
          refine R_r (D_assign rfl) ?_
          refine R_nil ?_
          refine R_ret ?_
          refine R_fin2 rfl rfl rfl ?_
          exact ⟨rfl, .inr (.inr (.inr ⟨hr0, hall, hsh, ls, hperm, hsort, .inr ⟨done, hrun, .inl ⟨hd0, rfl⟩⟩⟩))⟩
        ·
          refine R_r (D_extract rfl rfl) ?_
          refine R_r (D_extract rfl rfl) ?_
          refine R_r (D_assign rfl) ?_
          refine R_r (D_assign rfl) ?_
          refine R_nil ?_
          refine R_ret ?_
          refine R_fin2 rfl rfl rfl ?_
          exact ⟨rfl, .inr (.inr (.inr ⟨hr0, hall, hsh, ls, hperm, hsort, .inr ⟨done, hrun, .inr ⟨bz, z, rfl, htz, hgz⟩⟩⟩))⟩

end Go.Proofs.YtgmomhdammdjgaaGreat
