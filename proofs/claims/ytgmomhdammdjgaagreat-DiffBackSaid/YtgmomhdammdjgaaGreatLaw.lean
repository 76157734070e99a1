/-
  Two lists of changes compared (twinelaw13.same), walked. Conditions: lists within 2^32.
-/
import Derived.Test.YtgmomhdammdjgaaGreatTree3
set_option linter.unusedVariables false
set_option linter.unusedSimpArgs false
set_option maxRecDepth 20000
set_option maxHeartbeats 4000000
namespace Go.Proofs.YtgmomhdammdjgaaGreat
open Go Go.Proofs Go.RowKit

theorem en77 : ∀ (args : Array Value) (w : World), (callFunc 77 args).run Tryz.prog w = .ok (.enter 77 args) w := enters_fn Tryz.func77 (by kernel_rfl) rfl
theorem inf66 : (Tryz.prog.info? 66).map (·.size) = some 71 := by kernel_rfl
theorem eg66 : Tryz.prog.eqGuardType Tryz.prog.depth 66 = false := by kernel_rfl
theorem eqi66 {d : Nat} (x y : Change) : EqI Tryz.prog (d + 4) 66 (Change.val x) (Change.val y) (decide (x = y)) := Change.eq_iff x y ▸ EqI.struct Tryz.underlying66 (by kernel_rfl) (EqF.cons rfl (Pt.one Tryz.isAgg9 rfl) (Pt.one Tryz.isAgg9 rfl) (EqI.str Tryz.underlying9) (EqF.cons rfl (Pt.agg Tryz.isAgg24 Tryz.sizeOf24 rfl) (Pt.agg Tryz.isAgg24 Tryz.sizeOf24 rfl) (eqi24 _ _) (EqF.cons rfl (Pt.agg Tryz.isAgg24 Tryz.sizeOf24 rfl) (Pt.agg Tryz.isAgg24 Tryz.sizeOf24 rfl) (eqi24 _ _) (EqF.nil))))
theorem eqa66 (x y : Change) : EqA Tryz.prog 66 (Change.val x) (Change.val y) (decide (x = y)) := (eqi66 (d := 9996) x y).to
theorem word_C (k : Int) (M : PMem) (w : World) (hM : Lies M w) : Ends Tryz.prog 77 [I k] w [] M (fun v' M' H' => v' = S (wordS k) ∧ M' = M ∧ H' = []) := by
  refine Ends.enter (H := []) Tryz.func77 rfl Tryz.ntmps77 rfl (St.start hM) ?_
  refine R_seq ?_
  refine R_region ?_
  refine R_r (D_assign rfl) ?_
  refine R_nil ?_
  refine R_seq ?_
  refine R_seq ?_
  refine R_region ?_
  refine R_r (D_move rfl) ?_
  refine R_r (D_rem rfl rfl (by decide) rfl (tmod_lo _ 2 (by decide) (by decide)) (tmod_hi _ 2 (by decide) (by decide))) ?_
  refine R_r (D_eq rfl rfl) ?_
  refine R_nil ?_
  refine R_cond rfl (fun h1 => ?_) (fun h1 => ?_)
  ·
    have h1p := of_decide_eq_true h1
    refine R_seq ?_
    refine R_region ?_
    refine R_r (D_assign rfl) ?_
    refine R_nil ?_
    refine R_ret ?_
    refine R_fin1 rfl rfl ?_
    exact ⟨by rw [wordS, if_pos h1p]; rfl, rfl, rfl⟩
  ·
    have h1p := of_decide_eq_false h1
    refine R_skip ?_
    refine R_seq ?_
    refine R_region ?_
    refine R_r (D_assign rfl) ?_
    refine R_nil ?_
    refine R_ret ?_
    refine R_fin1 rfl rfl ?_
    exact ⟨by rw [wordS, if_neg h1p]; rfl, rfl, rfl⟩

theorem same_C (x y : List Change) (a : Option Addr) (c : Nat) (b : Option Addr) (d : Nat) (M : PMem) (w : World) (hM : Lies M w) (hc : x.length ≤ c) (ha : SlA M 71 (byEnc Change.cells) a x) (hd : y.length ≤ d) (hb : SlA M 71 (byEnc Change.cells) b y) (hn : x.length ≤ 4294967296) : Ends Tryz.prog 14 [.slice a x.length c, .slice b y.length d] w [] M (fun v' M' H' => v' = .bool (decide (x = y)) ∧ M' = M ∧ H' = []) := by
  refine Ends.enter (H := []) Tryz.func14 rfl Tryz.ntmps14 rfl (St.start hM) ?_
  refine R_seq ?_
  refine R_region ?_
  refine R_r (D_assign rfl) ?_
  refine R_nil ?_
  refine R_seq ?_
  refine R_seq ?_
  refine R_region ?_
  refine R_r (D_move rfl) ?_
  refine R_r (D_lenL Tryz.underlying31 rfl) ?_
  refine R_r (D_move rfl) ?_
  refine R_r (D_lenL Tryz.underlying31 rfl) ?_
  refine R_r (D_ne rfl rfl) ?_
  refine R_nil ?_
  refine R_cond rfl (fun h1 => ?_) (fun h1 => ?_)
  ·
    have h1p : ¬ ((x.length : Int) = (y.length : Int)) := by simpa using h1
    refine R_seq ?_
    refine R_region ?_
    refine R_r (D_assign rfl) ?_
    refine R_nil ?_
    refine R_ret ?_
    refine R_fin1 rfl rfl ?_
    exact ⟨by rw [decide_eq_false (fun e => h1p (by rw [e]))], rfl, rfl⟩
  ·
    have h1p : ((x.length : Int) = (y.length : Int)) := by simpa using h1
    refine R_skip ?_
    refine R_seq ?_
    refine R_seq ?_
    refine R_region ?_
    refine R_r (D_assign rfl) ?_
    refine R_nil ?_
    refine R_block ?_
    refine R_loop (σ := (Nat)) (fun gs => ([(0, .slice a x.length c), (1, .slice b y.length d), (5, I (gs : Int))], M, [])) (fun gs => gs ≤ x.length ∧ x.length = y.length ∧ x.take gs = y.take gs) (fun gs => x.length - gs) 0 ?_ (Env.sub_cons rfl <| Env.sub_cons rfl <| Env.sub_cons rfl <| Env.sub_nil _) rfl rfl ?_
    · show 0 ≤ x.length ∧ x.length = y.length ∧ x.take 0 = y.take 0; exact ⟨by omega, by omega, by simp⟩
    rintro i hok
    replace hok : i ≤ x.length ∧ x.length = y.length ∧ x.take i = y.take i := hok
    show Cx.R _ _ _ [(0, .slice a x.length c), (1, .slice b y.length d), (5, I (i : Int))] M []
    obtain ⟨hi, hle, ht⟩ := hok
    refine R_seq ?_
    refine R_seq ?_
    refine R_region ?_
    refine R_r (D_move rfl) ?_
    refine R_r (D_move rfl) ?_
    refine R_r (D_lenL Tryz.underlying31 rfl) ?_
    refine R_r (D_lt rfl rfl) ?_
    refine R_nil ?_
    refine R_cond rfl (fun h2 => ?_) (fun h2 => ?_)
    ·
      have h2p := of_decide_eq_true h2
      refine R_skip ?_
      refine R_seq ?_
      refine R_block ?_
      refine R_seq ?_
      refine Y_region [] mixed ?_
      refine Y_r 0 rfl (D_move rfl) ?_
      refine Y_r 1 rfl (D_move rfl) ?_
      obtain ⟨b1, ob1, csb1, elb1, frb1, rfl, hmb1, hxb1⟩ := ha.at (i := i) (by first | omega | (simp; omega))
      obtain ⟨x2, hx2⟩ : ∃ e_, x[i]? = some e_ := ⟨_, List.getElem?_eq_getElem (by omega)⟩
      have hex2 := hxb1 i x2 hx2
      refine Y_r 2 rfl (D_indexLn (i) Tryz.underlying31 Tryz.sizeOf66 rfl rfl (by first | rfl | omega) (by first | omega | (simp <;> omega))) ?_
      refine Y_r 3 rfl (D_load rfl (Has.mem hmb1) (Rd.elemA (i := i) hex2 Tryz.underlying66 rfl inf66 rfl)) ?_
      refine Y_r 4 rfl (D_move rfl) ?_
      refine Y_r 5 rfl (D_move rfl) ?_
      obtain ⟨b3, ob3, csb3, elb3, frb3, rfl, hmb3, hxb3⟩ := hb.at (i := i) (by first | omega | (simp; omega))
      obtain ⟨x4, hx4⟩ : ∃ e_, y[i]? = some e_ := ⟨_, List.getElem?_eq_getElem (by omega)⟩
      have hex4 := hxb3 i x4 hx4
      refine Y_r 6 rfl (D_indexLn (i) Tryz.underlying31 Tryz.sizeOf66 rfl rfl (by first | rfl | omega) (by first | omega | (simp <;> omega))) ?_
      refine Y_r 7 rfl (D_load rfl (Has.mem hmb3) (Rd.elemA (i := i) hex4 Tryz.underlying66 rfl inf66 rfl)) ?_
      refine Y_r 8 rfl (D_neA eg66 rfl rfl (eqa66 _ _)) ?_
      refine Y_nil ?_ (PMem.le_refl _) (fun _ h => List.Sublist.subset (.slnil) h)
      refine R_cond rfl (fun h3 => ?_) (fun h3 => ?_)
      ·
        have h3p : ¬ (x2 = x4) := by simpa using h3
        refine R_seq ?_
        refine R_region ?_
        refine R_r (D_assign rfl) ?_
        refine R_nil ?_
        refine R_ret ?_
        refine R_fin1 rfl rfl ?_
        exact ⟨by rw [decide_eq_false (fun e => by rw [e] at hx2; rw [hx4] at hx2; cases hx2; simp at h3)], rfl, rfl⟩
      ·
        have h3p : (x2 = x4) := by simpa using h3
        refine R_skip ?_
        refine R_region ?_
        refine R_r (D_move rfl) ?_
        refine R_r (D_add rfl rfl rfl (by omega) (by omega)) ?_
        refine R_r (D_assign rfl) ?_
        refine R_nil ?_
        exact R_back (i + 1) (by show (i + 1) ≤ x.length ∧ x.length = y.length ∧ x.take (i + 1) = y.take (i + 1); exact ⟨by omega, by omega, take_step ht hx2 (by have e : x2 = x4 := (by simpa using h3); rw [e]; exact hx4)⟩) (by show x.length - (i + 1) < x.length - i; omega) (Env.sub_cons rfl <| Env.sub_cons rfl <| Env.sub_cons rfl <| Env.sub_nil _) rfl rfl
    ·
      have h2p := of_decide_eq_false h2
      refine R_exit rfl ?_
      refine R_seq ?_
      refine R_region ?_
      refine R_r (D_assign rfl) ?_
      refine R_nil ?_
      refine R_ret ?_
      refine R_fin1 rfl rfl ?_
      exact ⟨by rw [List.take_of_length_le (by omega), List.take_of_length_le (by omega)] at ht; rw [ht]; simp, rfl, rfl⟩

end Go.Proofs.YtgmomhdammdjgaaGreat
