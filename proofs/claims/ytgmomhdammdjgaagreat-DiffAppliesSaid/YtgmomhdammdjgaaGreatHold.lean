/-
  The room's marks looked at (twineroom.Hold and what it calls), walked. Condition: the room holds one list, whose marks lie.
-/
import Derived.Test.YtgmomhdammdjgaaGreatApplyP
import Derived.Test.YtgmomhdammdjgaaGreatLent
set_option linter.unusedVariables false
set_option linter.unusedSimpArgs false
set_option maxRecDepth 20000
set_option maxHeartbeats 4000000
namespace Go.Proofs.YtgmomhdammdjgaaGreat
open Go Go.Proofs Go.RowKit

theorem fa53_6 : Fa Tryz.prog 53 6 6 := Fa.mk Tryz.underlying53 rfl rfl (fun w => ⟨0, Tryz.sizeOf42 w⟩)
theorem fa53_7 : Fa Tryz.prog 53 7 7 := Fa.mk Tryz.underlying53 rfl rfl (fun w => ⟨0, Tryz.sizeOf39 w⟩)
theorem rd66_Change_0 (x : Change) : Rd Tryz.prog 66 x.cells 0 (Change.val x) := Rd.agg Tryz.underlying66 rfl inf66 rfl rfl
theorem bd66_0 (x0 : Str) : Bd Tryz.prog 66 [(0, S x0)] (Change.val ⟨x0, Val.zero, Val.zero⟩) := fun w => by kernel_rfl
theorem en48 : ∀ (args : Array Value) (w : World), (callFunc 48 args).run Tryz.prog w = .ok (.enter 48 args) w := enters_fn Tryz.func48 (by kernel_rfl) rfl
theorem fa53_0 : Fa Tryz.prog 53 0 0 := Fa.mk Tryz.underlying53 rfl rfl (fun w => ⟨0, Tryz.sizeOf38 w⟩)
theorem en45 : ∀ (args : Array Value) (w : World), (callFunc 45 args).run Tryz.prog w = .ok (.enter 45 args) w := enters_fn Tryz.func45 (by kernel_rfl) rfl
theorem fa53_2 : Fa Tryz.prog 53 2 2 := Fa.mk Tryz.underlying53 rfl rfl (fun w => ⟨0, Tryz.sizeOf40 w⟩)
theorem en46 : ∀ (args : Array Value) (w : World), (callFunc 46 args).run Tryz.prog w = .ok (.enter 46 args) w := enters_fn Tryz.func46 (by kernel_rfl) rfl
theorem fa53_4 : Fa Tryz.prog 53 4 4 := Fa.mk Tryz.underlying53 rfl rfl (fun w => ⟨0, Tryz.sizeOf41 w⟩)
theorem en47 : ∀ (args : Array Value) (w : World), (callFunc 47 args).run Tryz.prog w = .ok (.enter 47 args) w := enters_fn Tryz.func47 (by kernel_rfl) rfl
theorem fa53_8 : Fa Tryz.prog 53 8 8 := Fa.mk Tryz.underlying53 rfl rfl (fun w => ⟨0, Tryz.sizeOf43 w⟩)
theorem en49 : ∀ (args : Array Value) (w : World), (callFunc 49 args).run Tryz.prog w = .ok (.enter 49 args) w := enters_fn Tryz.func49 (by kernel_rfl) rfl
theorem fa53_10 : Fa Tryz.prog 53 10 10 := Fa.mk Tryz.underlying53 rfl rfl (fun w => ⟨0, Tryz.sizeOf44 w⟩)
theorem en50 : ∀ (args : Array Value) (w : World), (callFunc 50 args).run Tryz.prog w = .ok (.enter 50 args) w := enters_fn Tryz.func50 (by kernel_rfl) rfl
theorem fa53_12 : Fa Tryz.prog 53 12 12 := Fa.mk Tryz.underlying53 rfl rfl (fun w => ⟨0, Tryz.sizeOf45 w⟩)
theorem en51 : ∀ (args : Array Value) (w : World), (callFunc 51 args).run Tryz.prog w = .ok (.enter 51 args) w := enters_fn Tryz.func51 (by kernel_rfl) rfl
theorem fa53_14 : Fa Tryz.prog 53 14 14 := Fa.mk Tryz.underlying53 rfl rfl (fun w => ⟨0, Tryz.sizeOf46 w⟩)
theorem en52 : ∀ (args : Array Value) (w : World), (callFunc 52 args).run Tryz.prog w = .ok (.enter 52 args) w := enters_fn Tryz.func52 (by kernel_rfl) rfl
theorem fa53_16 : Fa Tryz.prog 53 16 16 := Fa.mk Tryz.underlying53 rfl rfl (fun w => ⟨0, Tryz.sizeOf47 w⟩)
theorem en53 : ∀ (args : Array Value) (w : World), (callFunc 53 args).run Tryz.prog w = .ok (.enter 53 args) w := enters_fn Tryz.func53 (by kernel_rfl) rfl
theorem fa53_18 : Fa Tryz.prog 53 18 18 := Fa.mk Tryz.underlying53 rfl rfl (fun w => ⟨0, Tryz.sizeOf48 w⟩)
theorem en54 : ∀ (args : Array Value) (w : World), (callFunc 54 args).run Tryz.prog w = .ok (.enter 54 args) w := enters_fn Tryz.func54 (by kernel_rfl) rfl
theorem fa53_20 : Fa Tryz.prog 53 20 20 := Fa.mk Tryz.underlying53 rfl rfl (fun w => ⟨0, Tryz.sizeOf49 w⟩)
theorem en55 : ∀ (args : Array Value) (w : World), (callFunc 55 args).run Tryz.prog w = .ok (.enter 55 args) w := enters_fn Tryz.func55 (by kernel_rfl) rfl
theorem fa53_22 : Fa Tryz.prog 53 22 22 := Fa.mk Tryz.underlying53 rfl rfl (fun w => ⟨0, Tryz.sizeOf50 w⟩)
theorem en56 : ∀ (args : Array Value) (w : World), (callFunc 56 args).run Tryz.prog w = .ok (.enter 56 args) w := enters_fn Tryz.func56 (by kernel_rfl) rfl
theorem fa53_24 : Fa Tryz.prog 53 24 24 := Fa.mk Tryz.underlying53 rfl rfl (fun w => ⟨0, Tryz.sizeOf51 w⟩)
theorem en57 : ∀ (args : Array Value) (w : World), (callFunc 57 args).run Tryz.prog w = .ok (.enter 57 args) w := enters_fn Tryz.func57 (by kernel_rfl) rfl
theorem holdChanges_C (br bf n tot capf : Nat) (csf : List Value) (elf : Nat) (frf : Nat × Nat) (M : PMem) (w : World) (hM : Lies M w) (hroom : RoomAt M br bf n tot capf) (hmf : M bf = some (.cells (List.toArray csf) elf frf)) (hmk : MarksAt csf n tot) (hnt : n ≤ tot) (htt : tot ≤ 4294967296) : Ends Tryz.prog 48 [P_ br 0] w [] M (fun v' M' H' => v' = .bool true ∧ M' = M ∧ H' = []) := by
  obtain ⟨bc, c1, ba, c2, el, elc, ela, fr, frc, fra, csc, csa, hmr, hmc, hcc, hma, hca⟩ := hroom.ex
  refine Ends.enter (H := []) Tryz.func48 rfl Tryz.ntmps48 rfl (St.start hM) ?_
  refine R_seq ?_
  refine R_region ?_
  refine R_r (D_assign rfl) ?_
  refine R_nil ?_
  refine R_seq ?_
  refine R_seq ?_
  refine R_region ?_
  refine R_r (D_assign rfl) ?_
  refine R_nil ?_
  refine R_block ?_
  refine R_loop (σ := (Nat)) (fun gs => ([(0, P_ br 0), (3, I (gs : Int))], M, [])) (fun gs => gs ≤ 1) (fun gs => 1 - gs) 0 ?_ (Env.sub_cons rfl <| Env.sub_cons rfl <| Env.sub_nil _) rfl rfl ?_
  · show 0 ≤ 1; omega
  rintro i hok
  replace hok : i ≤ 1 := hok
  show Cx.R _ _ _ [(0, P_ br 0), (3, I (i : Int))] M []
  refine R_seq ?_
  refine R_seq ?_
  refine R_region ?_
  refine R_r (D_move rfl) ?_
  refine R_r (D_move rfl) ?_
  refine R_r (D_nilCheck rfl) ?_
  refine R_r (D_fieldAddr fa53_6 rfl) ?_
  refine R_r (D_load rfl (Has.mem hmr) (Rd.one Tryz.isAgg42 rfl)) ?_
  refine R_r (D_lenL Tryz.underlying42 rfl) ?_
  refine R_r (D_lt rfl rfl) ?_
  refine R_nil ?_
  refine R_cond rfl (fun h1 => ?_) (fun h1 => ?_)
  ·
    have h1p := of_decide_eq_true h1
    have hi0 : i = 0 := by omega
    refine R_skip ?_
    refine R_seq ?_
    refine R_block ?_
    refine R_seq ?_
    refine R_region ?_
    refine R_r (D_move rfl) ?_
    refine R_r (D_nilCheck rfl) ?_
    refine R_r (D_fieldAddr fa53_7 rfl) ?_
    refine R_r (D_load rfl (Has.mem hmr) (Rd.one Tryz.isAgg39 rfl)) ?_
    refine R_r (D_move rfl) ?_
    refine R_r (D_indexLn (i) Tryz.underlying39 Tryz.sizeOf3 rfl rfl rfl (by omega)) ?_
    refine R_r (D_load rfl (Has.mem hma) (Rd.one Tryz.isAgg3 (by rw [hi0]; exact hca))) ?_
    refine R_r (D_assign rfl) ?_
    refine R_nil ?_
    refine R_seq ?_
    refine R_region ?_
    refine R_r (D_move rfl) ?_
    refine R_r (D_assign rfl) ?_
    refine R_nil ?_
    refine R_block ?_
    refine R_loop (σ := (Nat)) (fun gs => ([(0, P_ br 0), (3, I (i : Int)), (4, I (n : Int)), (5, I (gs : Int))], M, [])) (fun gs => n ≤ gs ∧ gs ≤ tot) (fun gs => tot - gs) n ?_ (Env.sub_cons rfl <| Env.sub_cons rfl <| Env.sub_cons rfl <| Env.sub_cons rfl <| Env.sub_nil _) rfl rfl ?_
    · show n ≤ n ∧ n ≤ tot; exact ⟨Nat.le_refl _, hnt⟩
    rintro k hok
    replace hok : n ≤ k ∧ k ≤ tot := hok
    show Cx.R _ _ _ [(0, P_ br 0), (3, I (i : Int)), (4, I (n : Int)), (5, I (k : Int))] M []
    obtain ⟨hk, hkt0⟩ := hok
    refine R_seq ?_
    refine R_seq ?_
    refine R_region ?_
    refine R_r (D_move rfl) ?_
    refine R_r (D_move rfl) ?_
    refine R_r (D_nilCheck rfl) ?_
    refine R_r (D_fieldAddr fa53_6 rfl) ?_
    refine R_r (D_load rfl (Has.mem hmr) (Rd.one Tryz.isAgg42 rfl)) ?_
    refine R_r (D_move rfl) ?_
    refine R_r (D_indexLn (i) Tryz.underlying42 Tryz.sizeOf31 rfl rfl rfl (by omega)) ?_
    refine R_r (D_load rfl (Has.mem hmc) (Rd.one Tryz.isAgg31 (by rw [hi0]; exact hcc))) ?_
    refine R_r (D_lenL Tryz.underlying31 rfl) ?_
    refine R_r (D_lt rfl rfl) ?_
    refine R_nil ?_
    refine R_cond rfl (fun h2 => ?_) (fun h2 => ?_)
    ·
      have h2p := of_decide_eq_true h2
      have hkt : k < tot := by omega
      refine R_skip ?_
      refine R_seq ?_
      refine R_block ?_
      refine R_seq ?_
      refine R_region ?_
      refine R_r (D_move rfl) ?_
      refine R_r (D_nilCheck rfl) ?_
      refine R_r (D_fieldAddr fa53_6 rfl) ?_
      refine R_r (D_load rfl (Has.mem hmr) (Rd.one Tryz.isAgg42 rfl)) ?_
      refine R_r (D_move rfl) ?_
      refine R_r (D_indexLn (i) Tryz.underlying42 Tryz.sizeOf31 rfl rfl rfl (by omega)) ?_
      refine R_r (D_load rfl (Has.mem hmc) (Rd.one Tryz.isAgg31 (by rw [hi0]; exact hcc))) ?_
      refine R_r (D_move rfl) ?_
      refine R_r (D_indexLn (k) Tryz.underlying31 Tryz.sizeOf66 rfl rfl rfl (by omega)) ?_
      refine R_r (D_load rfl (Has.mem hmf) (Rd.elemA (hmk k hk hkt) Tryz.underlying66 rfl inf66 rfl)) ?_
      refine R_o (E_alloc (Change.cells Change.zero) Tryz.zeroValue66 rfl (fun b1 => ?_))
      refine R_o (E_store (cs' := (Change.cells (markC (k - n)))) 0 rfl rfl rfl (Wr.agg Tryz.sizeOf66 rfl rfl rfl rfl) ?_)
      refine R_nil ?_
      refine R_seq ?_
      refine Y_region [.blk b1 (.cells (List.toArray (Change.cells (markC (k - n)))) 66)] mixed ?_
      refine Y_r 0 rfl (D_load rfl (Has.own 0 rfl) (rd66_Change_0 (markC (k - n)))) ?_
      refine Y_r 1 rfl (D_move rfl) ?_
      refine Y_r 2 rfl (D_move rfl) ?_
      refine Y_r 3 rfl (D_subI rfl rfl rfl (by omega) (by omega)) ?_
      refine Y_o 4 rfl (E_callV (v := S (wordS ((k : Int) - (n : Int)))) rfl rfl en77 (fun w hM => word_C ((k : Int) - (n : Int)) M w hM ) ?_) (PMem.le_refl _) (fun _ h => List.Sublist.subset (.cons_cons _ (.slnil)) h)
      refine Y_go _ (PMem.le_refl _) (fun _ h => List.Sublist.subset (.cons_cons _ (.slnil)) h) (fun _ h => h) ?_
      refine Y_r 5 rfl (D_build rfl (bd66_0 _)) ?_
      refine Y_r 6 rfl (D_neA eg66 rfl rfl (eqa66 _ _)) ?_
      refine Y_nil ?_ (PMem.le_refl _) (fun _ h => List.Sublist.subset (.cons_cons _ (.slnil)) h)
      refine R_cond rfl (fun h3 => ?_) (fun h3 => ?_)
      ·
        have h3p : ¬ ((markC (k - n)) = (⟨wordS ((k : Int) - (n : Int)), Val.zero, Val.zero⟩ : Change)) := by simpa using h3
        rw [mark_eq hk] at h3; simp at h3
      ·
        have h3p : ((markC (k - n)) = (⟨wordS ((k : Int) - (n : Int)), Val.zero, Val.zero⟩ : Change)) := by simpa using h3
        refine R_skip ?_
        refine R_region ?_
        refine R_r (D_move rfl) ?_
        refine R_r (D_add rfl rfl rfl (by omega) (by omega)) ?_
        refine R_r (D_assign rfl) ?_
        refine R_nil ?_
        refine R_drop (H' := []) (.cons _ (List.Sublist.refl _)) ?_
        exact R_back (k + 1) (by show n ≤ (k + 1) ∧ (k + 1) ≤ tot; exact ⟨by omega, by omega⟩) (by show tot - (k + 1) < tot - k; omega) (Env.sub_cons rfl <| Env.sub_cons rfl <| Env.sub_cons rfl <| Env.sub_cons rfl <| Env.sub_nil _) rfl rfl
    ·
      have h2p := of_decide_eq_false h2
      refine R_exit rfl ?_
      refine R_region ?_
      refine R_r (D_move rfl) ?_
      refine R_r (D_add rfl rfl rfl (by omega) (by omega)) ?_
      refine R_r (D_assign rfl) ?_
      refine R_nil ?_
      exact R_back (i + 1) (by show (i + 1) ≤ 1; omega) (by show 1 - (i + 1) < 1 - i; omega) (Env.sub_cons rfl <| Env.sub_cons rfl <| Env.sub_nil _) rfl rfl
  ·
    have h1p := of_decide_eq_false h1
    refine R_exit rfl ?_
    refine R_seq ?_
    refine R_region ?_
    refine R_r (D_assign rfl) ?_
    refine R_nil ?_
    refine R_ret ?_
    refine R_fin1 rfl rfl ?_
    exact ⟨rfl, rfl, rfl⟩

theorem holdBytes_C (br bf n tot capf : Nat) (M : PMem) (w : World) (hM : Lies M w) (hroom : RoomAt M br bf n tot capf) : Ends Tryz.prog 45 [P_ br 0] w [] M (fun v' M' H' => v' = .bool true ∧ M' = M ∧ H' = []) := by
  obtain ⟨bc, c1, ba, c2, el, elc, ela, fr, frc, fra, csc, csa, hmr, hmc, hcc, hma, hca⟩ := hroom.ex
  refine Ends.enter (H := []) Tryz.func45 rfl Tryz.ntmps45 rfl (St.start hM) ?_
  refine R_seq ?_
  refine R_region ?_
  refine R_r (D_assign rfl) ?_
  refine R_nil ?_
  refine R_seq ?_
  refine R_seq ?_
  refine R_region ?_
  refine R_r (D_assign rfl) ?_
  refine R_nil ?_
  refine R_block ?_
  refine R_loop (σ := Unit) (fun gs => ([(0, P_ br 0), (3, I 0)], M, [])) (fun gs => True) (fun gs => 0) () ?_ (Env.sub_cons rfl <| Env.sub_cons rfl <| Env.sub_nil _) rfl rfl ?_
  · show True; trivial
  rintro _ hok
  replace hok : True := hok
  show Cx.R _ _ _ [(0, P_ br 0), (3, I 0)] M []
  refine R_seq ?_
  refine R_seq ?_
  refine R_region ?_
  refine R_r (D_move rfl) ?_
  refine R_r (D_move rfl) ?_
  refine R_r (D_nilCheck rfl) ?_
  refine R_r (D_fieldAddr fa53_0 rfl) ?_
  refine R_r (D_load rfl (Has.mem hmr) (Rd.one Tryz.isAgg38 rfl)) ?_
  refine R_r (D_lenL Tryz.underlying38 rfl) ?_
  refine R_r (D_lt rfl rfl) ?_
  refine R_nil ?_
  refine R_cond_f rfl ?_
  refine R_exit rfl ?_
  refine R_seq ?_
  refine R_region ?_
  refine R_r (D_assign rfl) ?_
  refine R_nil ?_
  refine R_ret ?_
  refine R_fin1 rfl rfl ?_
  exact ⟨rfl, rfl, rfl⟩

theorem holdInts_C (br bf n tot capf : Nat) (M : PMem) (w : World) (hM : Lies M w) (hroom : RoomAt M br bf n tot capf) : Ends Tryz.prog 46 [P_ br 0] w [] M (fun v' M' H' => v' = .bool true ∧ M' = M ∧ H' = []) := by
  obtain ⟨bc, c1, ba, c2, el, elc, ela, fr, frc, fra, csc, csa, hmr, hmc, hcc, hma, hca⟩ := hroom.ex
  refine Ends.enter (H := []) Tryz.func46 rfl Tryz.ntmps46 rfl (St.start hM) ?_
  refine R_seq ?_
  refine R_region ?_
  refine R_r (D_assign rfl) ?_
  refine R_nil ?_
  refine R_seq ?_
  refine R_seq ?_
  refine R_region ?_
  refine R_r (D_assign rfl) ?_
  refine R_nil ?_
  refine R_block ?_
  refine R_loop (σ := Unit) (fun gs => ([(0, P_ br 0), (3, I 0)], M, [])) (fun gs => True) (fun gs => 0) () ?_ (Env.sub_cons rfl <| Env.sub_cons rfl <| Env.sub_nil _) rfl rfl ?_
  · show True; trivial
  rintro _ hok
  replace hok : True := hok
  show Cx.R _ _ _ [(0, P_ br 0), (3, I 0)] M []
  refine R_seq ?_
  refine R_seq ?_
  refine R_region ?_
  refine R_r (D_move rfl) ?_
  refine R_r (D_move rfl) ?_
  refine R_r (D_nilCheck rfl) ?_
  refine R_r (D_fieldAddr fa53_2 rfl) ?_
  refine R_r (D_load rfl (Has.mem hmr) (Rd.one Tryz.isAgg40 rfl)) ?_
  refine R_r (D_lenL Tryz.underlying40 rfl) ?_
  refine R_r (D_lt rfl rfl) ?_
  refine R_nil ?_
  refine R_cond_f rfl ?_
  refine R_exit rfl ?_
  refine R_seq ?_
  refine R_region ?_
  refine R_r (D_assign rfl) ?_
  refine R_nil ?_
  refine R_ret ?_
  refine R_fin1 rfl rfl ?_
  exact ⟨rfl, rfl, rfl⟩

theorem holdTexts_C (br bf n tot capf : Nat) (M : PMem) (w : World) (hM : Lies M w) (hroom : RoomAt M br bf n tot capf) : Ends Tryz.prog 47 [P_ br 0] w [] M (fun v' M' H' => v' = .bool true ∧ M' = M ∧ H' = []) := by
  obtain ⟨bc, c1, ba, c2, el, elc, ela, fr, frc, fra, csc, csa, hmr, hmc, hcc, hma, hca⟩ := hroom.ex
  refine Ends.enter (H := []) Tryz.func47 rfl Tryz.ntmps47 rfl (St.start hM) ?_
  refine R_seq ?_
  refine R_region ?_
  refine R_r (D_assign rfl) ?_
  refine R_nil ?_
  refine R_seq ?_
  refine R_seq ?_
  refine R_region ?_
  refine R_r (D_assign rfl) ?_
  refine R_nil ?_
  refine R_block ?_
  refine R_loop (σ := Unit) (fun gs => ([(0, P_ br 0), (3, I 0)], M, [])) (fun gs => True) (fun gs => 0) () ?_ (Env.sub_cons rfl <| Env.sub_cons rfl <| Env.sub_nil _) rfl rfl ?_
  · show True; trivial
  rintro _ hok
  replace hok : True := hok
  show Cx.R _ _ _ [(0, P_ br 0), (3, I 0)] M []
  refine R_seq ?_
  refine R_seq ?_
  refine R_region ?_
  refine R_r (D_move rfl) ?_
  refine R_r (D_move rfl) ?_
  refine R_r (D_nilCheck rfl) ?_
  refine R_r (D_fieldAddr fa53_4 rfl) ?_
  refine R_r (D_load rfl (Has.mem hmr) (Rd.one Tryz.isAgg41 rfl)) ?_
  refine R_r (D_lenL Tryz.underlying41 rfl) ?_
  refine R_r (D_lt rfl rfl) ?_
  refine R_nil ?_
  refine R_cond_f rfl ?_
  refine R_exit rfl ?_
  refine R_seq ?_
  refine R_region ?_
  refine R_r (D_assign rfl) ?_
  refine R_nil ?_
  refine R_ret ?_
  refine R_fin1 rfl rfl ?_
  exact ⟨rfl, rfl, rfl⟩

theorem holdCells_C (br bf n tot capf : Nat) (M : PMem) (w : World) (hM : Lies M w) (hroom : RoomAt M br bf n tot capf) : Ends Tryz.prog 49 [P_ br 0] w [] M (fun v' M' H' => v' = .bool true ∧ M' = M ∧ H' = []) := by
  obtain ⟨bc, c1, ba, c2, el, elc, ela, fr, frc, fra, csc, csa, hmr, hmc, hcc, hma, hca⟩ := hroom.ex
  refine Ends.enter (H := []) Tryz.func49 rfl Tryz.ntmps49 rfl (St.start hM) ?_
  refine R_seq ?_
  refine R_region ?_
  refine R_r (D_assign rfl) ?_
  refine R_nil ?_
  refine R_seq ?_
  refine R_seq ?_
  refine R_region ?_
  refine R_r (D_assign rfl) ?_
  refine R_nil ?_
  refine R_block ?_
  refine R_loop (σ := Unit) (fun gs => ([(0, P_ br 0), (3, I 0)], M, [])) (fun gs => True) (fun gs => 0) () ?_ (Env.sub_cons rfl <| Env.sub_cons rfl <| Env.sub_nil _) rfl rfl ?_
  · show True; trivial
  rintro _ hok
  replace hok : True := hok
  show Cx.R _ _ _ [(0, P_ br 0), (3, I 0)] M []
  refine R_seq ?_
  refine R_seq ?_
  refine R_region ?_
  refine R_r (D_move rfl) ?_
  refine R_r (D_move rfl) ?_
  refine R_r (D_nilCheck rfl) ?_
  refine R_r (D_fieldAddr fa53_8 rfl) ?_
  refine R_r (D_load rfl (Has.mem hmr) (Rd.one Tryz.isAgg43 rfl)) ?_
  refine R_r (D_lenL Tryz.underlying43 rfl) ?_
  refine R_r (D_lt rfl rfl) ?_
  refine R_nil ?_
  refine R_cond_f rfl ?_
  refine R_exit rfl ?_
  refine R_seq ?_
  refine R_region ?_
  refine R_r (D_assign rfl) ?_
  refine R_nil ?_
  refine R_ret ?_
  refine R_fin1 rfl rfl ?_
  exact ⟨rfl, rfl, rfl⟩

theorem holdItems_C (br bf n tot capf : Nat) (M : PMem) (w : World) (hM : Lies M w) (hroom : RoomAt M br bf n tot capf) : Ends Tryz.prog 50 [P_ br 0] w [] M (fun v' M' H' => v' = .bool true ∧ M' = M ∧ H' = []) := by
  obtain ⟨bc, c1, ba, c2, el, elc, ela, fr, frc, fra, csc, csa, hmr, hmc, hcc, hma, hca⟩ := hroom.ex
  refine Ends.enter (H := []) Tryz.func50 rfl Tryz.ntmps50 rfl (St.start hM) ?_
  refine R_seq ?_
  refine R_region ?_
  refine R_r (D_assign rfl) ?_
  refine R_nil ?_
  refine R_seq ?_
  refine R_seq ?_
  refine R_region ?_
  refine R_r (D_assign rfl) ?_
  refine R_nil ?_
  refine R_block ?_
  refine R_loop (σ := Unit) (fun gs => ([(0, P_ br 0), (3, I 0)], M, [])) (fun gs => True) (fun gs => 0) () ?_ (Env.sub_cons rfl <| Env.sub_cons rfl <| Env.sub_nil _) rfl rfl ?_
  · show True; trivial
  rintro _ hok
  replace hok : True := hok
  show Cx.R _ _ _ [(0, P_ br 0), (3, I 0)] M []
  refine R_seq ?_
  refine R_seq ?_
  refine R_region ?_
  refine R_r (D_move rfl) ?_
  refine R_r (D_move rfl) ?_
  refine R_r (D_nilCheck rfl) ?_
  refine R_r (D_fieldAddr fa53_10 rfl) ?_
  refine R_r (D_load rfl (Has.mem hmr) (Rd.one Tryz.isAgg44 rfl)) ?_
  refine R_r (D_lenL Tryz.underlying44 rfl) ?_
  refine R_r (D_lt rfl rfl) ?_
  refine R_nil ?_
  refine R_cond_f rfl ?_
  refine R_exit rfl ?_
  refine R_seq ?_
  refine R_region ?_
  refine R_r (D_assign rfl) ?_
  refine R_nil ?_
  refine R_ret ?_
  refine R_fin1 rfl rfl ?_
  exact ⟨rfl, rfl, rfl⟩

theorem holdPlaceds_C (br bf n tot capf : Nat) (M : PMem) (w : World) (hM : Lies M w) (hroom : RoomAt M br bf n tot capf) : Ends Tryz.prog 51 [P_ br 0] w [] M (fun v' M' H' => v' = .bool true ∧ M' = M ∧ H' = []) := by
  obtain ⟨bc, c1, ba, c2, el, elc, ela, fr, frc, fra, csc, csa, hmr, hmc, hcc, hma, hca⟩ := hroom.ex
  refine Ends.enter (H := []) Tryz.func51 rfl Tryz.ntmps51 rfl (St.start hM) ?_
  refine R_seq ?_
  refine R_region ?_
  refine R_r (D_assign rfl) ?_
  refine R_nil ?_
  refine R_seq ?_
  refine R_seq ?_
  refine R_region ?_
  refine R_r (D_assign rfl) ?_
  refine R_nil ?_
  refine R_block ?_
  refine R_loop (σ := Unit) (fun gs => ([(0, P_ br 0), (3, I 0)], M, [])) (fun gs => True) (fun gs => 0) () ?_ (Env.sub_cons rfl <| Env.sub_cons rfl <| Env.sub_nil _) rfl rfl ?_
  · show True; trivial
  rintro _ hok
  replace hok : True := hok
  show Cx.R _ _ _ [(0, P_ br 0), (3, I 0)] M []
  refine R_seq ?_
  refine R_seq ?_
  refine R_region ?_
  refine R_r (D_move rfl) ?_
  refine R_r (D_move rfl) ?_
  refine R_r (D_nilCheck rfl) ?_
  refine R_r (D_fieldAddr fa53_12 rfl) ?_
  refine R_r (D_load rfl (Has.mem hmr) (Rd.one Tryz.isAgg45 rfl)) ?_
  refine R_r (D_lenL Tryz.underlying45 rfl) ?_
  refine R_r (D_lt rfl rfl) ?_
  refine R_nil ?_
  refine R_cond_f rfl ?_
  refine R_exit rfl ?_
  refine R_seq ?_
  refine R_region ?_
  refine R_r (D_assign rfl) ?_
  refine R_nil ?_
  refine R_ret ?_
  refine R_fin1 rfl rfl ?_
  exact ⟨rfl, rfl, rfl⟩

theorem holdRules_C (br bf n tot capf : Nat) (M : PMem) (w : World) (hM : Lies M w) (hroom : RoomAt M br bf n tot capf) : Ends Tryz.prog 52 [P_ br 0] w [] M (fun v' M' H' => v' = .bool true ∧ M' = M ∧ H' = []) := by
  obtain ⟨bc, c1, ba, c2, el, elc, ela, fr, frc, fra, csc, csa, hmr, hmc, hcc, hma, hca⟩ := hroom.ex
  refine Ends.enter (H := []) Tryz.func52 rfl Tryz.ntmps52 rfl (St.start hM) ?_
  refine R_seq ?_
  refine R_region ?_
  refine R_r (D_assign rfl) ?_
  refine R_nil ?_
  refine R_seq ?_
  refine R_seq ?_
  refine R_region ?_
  refine R_r (D_assign rfl) ?_
  refine R_nil ?_
  refine R_block ?_
  refine R_loop (σ := Unit) (fun gs => ([(0, P_ br 0), (3, I 0)], M, [])) (fun gs => True) (fun gs => 0) () ?_ (Env.sub_cons rfl <| Env.sub_cons rfl <| Env.sub_nil _) rfl rfl ?_
  · show True; trivial
  rintro _ hok
  replace hok : True := hok
  show Cx.R _ _ _ [(0, P_ br 0), (3, I 0)] M []
  refine R_seq ?_
  refine R_seq ?_
  refine R_region ?_
  refine R_r (D_move rfl) ?_
  refine R_r (D_move rfl) ?_
  refine R_r (D_nilCheck rfl) ?_
  refine R_r (D_fieldAddr fa53_14 rfl) ?_
  refine R_r (D_load rfl (Has.mem hmr) (Rd.one Tryz.isAgg46 rfl)) ?_
  refine R_r (D_lenL Tryz.underlying46 rfl) ?_
  refine R_r (D_lt rfl rfl) ?_
  refine R_nil ?_
  refine R_cond_f rfl ?_
  refine R_exit rfl ?_
  refine R_seq ?_
  refine R_region ?_
  refine R_r (D_assign rfl) ?_
  refine R_nil ?_
  refine R_ret ?_
  refine R_fin1 rfl rfl ?_
  exact ⟨rfl, rfl, rfl⟩

theorem holdChunks_C (br bf n tot capf : Nat) (M : PMem) (w : World) (hM : Lies M w) (hroom : RoomAt M br bf n tot capf) : Ends Tryz.prog 53 [P_ br 0] w [] M (fun v' M' H' => v' = .bool true ∧ M' = M ∧ H' = []) := by
  obtain ⟨bc, c1, ba, c2, el, elc, ela, fr, frc, fra, csc, csa, hmr, hmc, hcc, hma, hca⟩ := hroom.ex
  refine Ends.enter (H := []) Tryz.func53 rfl Tryz.ntmps53 rfl (St.start hM) ?_
  refine R_seq ?_
  refine R_region ?_
  refine R_r (D_assign rfl) ?_
  refine R_nil ?_
  refine R_seq ?_
  refine R_seq ?_
  refine R_region ?_
  refine R_r (D_assign rfl) ?_
  refine R_nil ?_
  refine R_block ?_
  refine R_loop (σ := Unit) (fun gs => ([(0, P_ br 0), (3, I 0)], M, [])) (fun gs => True) (fun gs => 0) () ?_ (Env.sub_cons rfl <| Env.sub_cons rfl <| Env.sub_nil _) rfl rfl ?_
  · show True; trivial
  rintro _ hok
  replace hok : True := hok
  show Cx.R _ _ _ [(0, P_ br 0), (3, I 0)] M []
  refine R_seq ?_
  refine R_seq ?_
  refine R_region ?_
  refine R_r (D_move rfl) ?_
  refine R_r (D_move rfl) ?_
  refine R_r (D_nilCheck rfl) ?_
  refine R_r (D_fieldAddr fa53_16 rfl) ?_
  refine R_r (D_load rfl (Has.mem hmr) (Rd.one Tryz.isAgg47 rfl)) ?_
  refine R_r (D_lenL Tryz.underlying47 rfl) ?_
  refine R_r (D_lt rfl rfl) ?_
  refine R_nil ?_
  refine R_cond_f rfl ?_
  refine R_exit rfl ?_
  refine R_seq ?_
  refine R_region ?_
  refine R_r (D_assign rfl) ?_
  refine R_nil ?_
  refine R_ret ?_
  refine R_fin1 rfl rfl ?_
  exact ⟨rfl, rfl, rfl⟩

theorem holdThings_C (br bf n tot capf : Nat) (M : PMem) (w : World) (hM : Lies M w) (hroom : RoomAt M br bf n tot capf) : Ends Tryz.prog 54 [P_ br 0] w [] M (fun v' M' H' => v' = .bool true ∧ M' = M ∧ H' = []) := by
  obtain ⟨bc, c1, ba, c2, el, elc, ela, fr, frc, fra, csc, csa, hmr, hmc, hcc, hma, hca⟩ := hroom.ex
  refine Ends.enter (H := []) Tryz.func54 rfl Tryz.ntmps54 rfl (St.start hM) ?_
  refine R_seq ?_
  refine R_region ?_
  refine R_r (D_assign rfl) ?_
  refine R_nil ?_
  refine R_seq ?_
  refine R_seq ?_
  refine R_region ?_
  refine R_r (D_assign rfl) ?_
  refine R_nil ?_
  refine R_block ?_
  refine R_loop (σ := Unit) (fun gs => ([(0, P_ br 0), (3, I 0)], M, [])) (fun gs => True) (fun gs => 0) () ?_ (Env.sub_cons rfl <| Env.sub_cons rfl <| Env.sub_nil _) rfl rfl ?_
  · show True; trivial
  rintro _ hok
  replace hok : True := hok
  show Cx.R _ _ _ [(0, P_ br 0), (3, I 0)] M []
  refine R_seq ?_
  refine R_seq ?_
  refine R_region ?_
  refine R_r (D_move rfl) ?_
  refine R_r (D_move rfl) ?_
  refine R_r (D_nilCheck rfl) ?_
  refine R_r (D_fieldAddr fa53_18 rfl) ?_
  refine R_r (D_load rfl (Has.mem hmr) (Rd.one Tryz.isAgg48 rfl)) ?_
  refine R_r (D_lenL Tryz.underlying48 rfl) ?_
  refine R_r (D_lt rfl rfl) ?_
  refine R_nil ?_
  refine R_cond_f rfl ?_
  refine R_exit rfl ?_
  refine R_seq ?_
  refine R_region ?_
  refine R_r (D_assign rfl) ?_
  refine R_nil ?_
  refine R_ret ?_
  refine R_fin1 rfl rfl ?_
  exact ⟨rfl, rfl, rfl⟩

theorem holdDones_C (br bf n tot capf : Nat) (M : PMem) (w : World) (hM : Lies M w) (hroom : RoomAt M br bf n tot capf) : Ends Tryz.prog 55 [P_ br 0] w [] M (fun v' M' H' => v' = .bool true ∧ M' = M ∧ H' = []) := by
  obtain ⟨bc, c1, ba, c2, el, elc, ela, fr, frc, fra, csc, csa, hmr, hmc, hcc, hma, hca⟩ := hroom.ex
  refine Ends.enter (H := []) Tryz.func55 rfl Tryz.ntmps55 rfl (St.start hM) ?_
  refine R_seq ?_
  refine R_region ?_
  refine R_r (D_assign rfl) ?_
  refine R_nil ?_
  refine R_seq ?_
  refine R_seq ?_
  refine R_region ?_
  refine R_r (D_assign rfl) ?_
  refine R_nil ?_
  refine R_block ?_
  refine R_loop (σ := Unit) (fun gs => ([(0, P_ br 0), (3, I 0)], M, [])) (fun gs => True) (fun gs => 0) () ?_ (Env.sub_cons rfl <| Env.sub_cons rfl <| Env.sub_nil _) rfl rfl ?_
  · show True; trivial
  rintro _ hok
  replace hok : True := hok
  show Cx.R _ _ _ [(0, P_ br 0), (3, I 0)] M []
  refine R_seq ?_
  refine R_seq ?_
  refine R_region ?_
  refine R_r (D_move rfl) ?_
  refine R_r (D_move rfl) ?_
  refine R_r (D_nilCheck rfl) ?_
  refine R_r (D_fieldAddr fa53_20 rfl) ?_
  refine R_r (D_load rfl (Has.mem hmr) (Rd.one Tryz.isAgg49 rfl)) ?_
  refine R_r (D_lenL Tryz.underlying49 rfl) ?_
  refine R_r (D_lt rfl rfl) ?_
  refine R_nil ?_
  refine R_cond_f rfl ?_
  refine R_exit rfl ?_
  refine R_seq ?_
  refine R_region ?_
  refine R_r (D_assign rfl) ?_
  refine R_nil ?_
  refine R_ret ?_
  refine R_fin1 rfl rfl ?_
  exact ⟨rfl, rfl, rfl⟩

theorem holdNodes_C (br bf n tot capf : Nat) (M : PMem) (w : World) (hM : Lies M w) (hroom : RoomAt M br bf n tot capf) : Ends Tryz.prog 56 [P_ br 0] w [] M (fun v' M' H' => v' = .bool true ∧ M' = M ∧ H' = []) := by
  obtain ⟨bc, c1, ba, c2, el, elc, ela, fr, frc, fra, csc, csa, hmr, hmc, hcc, hma, hca⟩ := hroom.ex
  refine Ends.enter (H := []) Tryz.func56 rfl Tryz.ntmps56 rfl (St.start hM) ?_
  refine R_seq ?_
  refine R_region ?_
  refine R_r (D_assign rfl) ?_
  refine R_nil ?_
  refine R_seq ?_
  refine R_seq ?_
  refine R_region ?_
  refine R_r (D_assign rfl) ?_
  refine R_nil ?_
  refine R_block ?_
  refine R_loop (σ := Unit) (fun gs => ([(0, P_ br 0), (3, I 0)], M, [])) (fun gs => True) (fun gs => 0) () ?_ (Env.sub_cons rfl <| Env.sub_cons rfl <| Env.sub_nil _) rfl rfl ?_
  · show True; trivial
  rintro _ hok
  replace hok : True := hok
  show Cx.R _ _ _ [(0, P_ br 0), (3, I 0)] M []
  refine R_seq ?_
  refine R_seq ?_
  refine R_region ?_
  refine R_r (D_move rfl) ?_
  refine R_r (D_move rfl) ?_
  refine R_r (D_nilCheck rfl) ?_
  refine R_r (D_fieldAddr fa53_22 rfl) ?_
  refine R_r (D_load rfl (Has.mem hmr) (Rd.one Tryz.isAgg50 rfl)) ?_
  refine R_r (D_lenL Tryz.underlying50 rfl) ?_
  refine R_r (D_lt rfl rfl) ?_
  refine R_nil ?_
  refine R_cond_f rfl ?_
  refine R_exit rfl ?_
  refine R_seq ?_
  refine R_region ?_
  refine R_r (D_assign rfl) ?_
  refine R_nil ?_
  refine R_ret ?_
  refine R_fin1 rfl rfl ?_
  exact ⟨rfl, rfl, rfl⟩

theorem holdSteps_C (br bf n tot capf : Nat) (M : PMem) (w : World) (hM : Lies M w) (hroom : RoomAt M br bf n tot capf) : Ends Tryz.prog 57 [P_ br 0] w [] M (fun v' M' H' => v' = .bool true ∧ M' = M ∧ H' = []) := by
  obtain ⟨bc, c1, ba, c2, el, elc, ela, fr, frc, fra, csc, csa, hmr, hmc, hcc, hma, hca⟩ := hroom.ex
  refine Ends.enter (H := []) Tryz.func57 rfl Tryz.ntmps57 rfl (St.start hM) ?_
  refine R_seq ?_
  refine R_region ?_
  refine R_r (D_assign rfl) ?_
  refine R_nil ?_
  refine R_seq ?_
  refine R_seq ?_
  refine R_region ?_
  refine R_r (D_assign rfl) ?_
  refine R_nil ?_
  refine R_block ?_
  refine R_loop (σ := Unit) (fun gs => ([(0, P_ br 0), (3, I 0)], M, [])) (fun gs => True) (fun gs => 0) () ?_ (Env.sub_cons rfl <| Env.sub_cons rfl <| Env.sub_nil _) rfl rfl ?_
  · show True; trivial
  rintro _ hok
  replace hok : True := hok
  show Cx.R _ _ _ [(0, P_ br 0), (3, I 0)] M []
  refine R_seq ?_
  refine R_seq ?_
  refine R_region ?_
  refine R_r (D_move rfl) ?_
  refine R_r (D_move rfl) ?_
  refine R_r (D_nilCheck rfl) ?_
  refine R_r (D_fieldAddr fa53_24 rfl) ?_
  refine R_r (D_load rfl (Has.mem hmr) (Rd.one Tryz.isAgg51 rfl)) ?_
  refine R_r (D_lenL Tryz.underlying51 rfl) ?_
  refine R_r (D_lt rfl rfl) ?_
  refine R_nil ?_
  refine R_cond_f rfl ?_
  refine R_exit rfl ?_
  refine R_seq ?_
  refine R_region ?_
  refine R_r (D_assign rfl) ?_
  refine R_nil ?_
  refine R_ret ?_
  refine R_fin1 rfl rfl ?_
  exact ⟨rfl, rfl, rfl⟩

theorem Hold_C (br bf n tot capf : Nat) (csf : List Value) (elf : Nat) (frf : Nat × Nat) (M : PMem) (w : World) (hM : Lies M w) (hroom : RoomAt M br bf n tot capf) (hmf : M bf = some (.cells (List.toArray csf) elf frf)) (hmk : MarksAt csf n tot) (hnt : n ≤ tot) (htt : tot ≤ 4294967296) : Ends Tryz.prog 15 [P_ br 0] w [] M (fun v' M' H' => v' = .bool true ∧ M' = M ∧ H' = []) := by
  refine Ends.enter (H := []) Tryz.func15 rfl Tryz.ntmps15 rfl (St.start hM) ?_
  refine R_seq ?_
  refine R_region ?_
  refine R_r (D_assign rfl) ?_
  refine R_nil ?_
  refine R_seq ?_
  refine R_region ?_
  refine R_r (D_assign rfl) ?_
  refine R_nil ?_
  refine R_seq ?_
  refine R_join [(0, P_ br 0), (2, .bool false), (3, .bool true)] (M' := M) (H' := []) ?_ ?_
  ·
    refine R_region ?_
    refine R_r (D_move rfl) ?_
    refine R_r (D_move rfl) ?_
    refine R_r (D_move rfl) ?_
    refine R_o (E_callV (v := .bool true) rfl rfl en45 (fun w hM => holdBytes_C br bf n tot capf  M w hM hroom ) ?_)
    refine R_r (D_pick true rfl rfl) ?_
    refine R_r (D_assign rfl) ?_
    refine R_nil ?_
    exact R_at (Env.sub_cons rfl <| Env.sub_cons rfl <| Env.sub_cons rfl <| Env.sub_nil _)
  ·
    refine R_seq ?_
    refine R_join [(0, P_ br 0), (2, .bool false), (3, .bool true)] (M' := M) (H' := []) ?_ ?_
    ·
      refine R_region ?_
      refine R_r (D_move rfl) ?_
      refine R_r (D_move rfl) ?_
      refine R_r (D_move rfl) ?_
      refine R_o (E_callV (v := .bool true) rfl rfl en46 (fun w hM => holdInts_C br bf n tot capf  M w hM hroom ) ?_)
      refine R_r (D_pick true rfl rfl) ?_
      refine R_r (D_assign rfl) ?_
      refine R_nil ?_
      exact R_at (Env.sub_cons rfl <| Env.sub_cons rfl <| Env.sub_cons rfl <| Env.sub_nil _)
    ·
      refine R_seq ?_
      refine R_join [(0, P_ br 0), (2, .bool false), (3, .bool true)] (M' := M) (H' := []) ?_ ?_
      ·
        refine R_region ?_
        refine R_r (D_move rfl) ?_
        refine R_r (D_move rfl) ?_
        refine R_r (D_move rfl) ?_
        refine R_o (E_callV (v := .bool true) rfl rfl en47 (fun w hM => holdTexts_C br bf n tot capf  M w hM hroom ) ?_)
        refine R_r (D_pick true rfl rfl) ?_
        refine R_r (D_assign rfl) ?_
        refine R_nil ?_
        exact R_at (Env.sub_cons rfl <| Env.sub_cons rfl <| Env.sub_cons rfl <| Env.sub_nil _)
      ·
        refine R_seq ?_
        refine R_join [(0, P_ br 0), (2, .bool false), (3, .bool true)] (M' := M) (H' := []) ?_ ?_
        ·
          refine R_region ?_
          refine R_r (D_move rfl) ?_
          refine R_r (D_move rfl) ?_
          refine R_r (D_move rfl) ?_
          refine R_o (E_callV (v := .bool true) rfl rfl en48 (fun w hM => holdChanges_C br bf n tot capf csf elf frf M w hM hroom hmf hmk hnt htt) ?_)
          refine R_r (D_pick true rfl rfl) ?_
          refine R_r (D_assign rfl) ?_
          refine R_nil ?_
          exact R_at (Env.sub_cons rfl <| Env.sub_cons rfl <| Env.sub_cons rfl <| Env.sub_nil _)
        ·
          refine R_seq ?_
          refine R_join [(0, P_ br 0), (2, .bool false), (3, .bool true)] (M' := M) (H' := []) ?_ ?_
          ·
            refine R_region ?_
            refine R_r (D_move rfl) ?_
            refine R_r (D_move rfl) ?_
            refine R_r (D_move rfl) ?_
            refine R_o (E_callV (v := .bool true) rfl rfl en49 (fun w hM => holdCells_C br bf n tot capf  M w hM hroom ) ?_)
            refine R_r (D_pick true rfl rfl) ?_
            refine R_r (D_assign rfl) ?_
            refine R_nil ?_
            exact R_at (Env.sub_cons rfl <| Env.sub_cons rfl <| Env.sub_cons rfl <| Env.sub_nil _)
          ·
            refine R_seq ?_
            refine R_join [(0, P_ br 0), (2, .bool false), (3, .bool true)] (M' := M) (H' := []) ?_ ?_
            ·
              refine R_region ?_
              refine R_r (D_move rfl) ?_
              refine R_r (D_move rfl) ?_
              refine R_r (D_move rfl) ?_
              refine R_o (E_callV (v := .bool true) rfl rfl en50 (fun w hM => holdItems_C br bf n tot capf  M w hM hroom ) ?_)
              refine R_r (D_pick true rfl rfl) ?_
              refine R_r (D_assign rfl) ?_
              refine R_nil ?_
              exact R_at (Env.sub_cons rfl <| Env.sub_cons rfl <| Env.sub_cons rfl <| Env.sub_nil _)
            ·
              refine R_seq ?_
              refine R_join [(0, P_ br 0), (2, .bool false), (3, .bool true)] (M' := M) (H' := []) ?_ ?_
              ·
                refine R_region ?_
                refine R_r (D_move rfl) ?_
                refine R_r (D_move rfl) ?_
                refine R_r (D_move rfl) ?_
                refine R_o (E_callV (v := .bool true) rfl rfl en51 (fun w hM => holdPlaceds_C br bf n tot capf  M w hM hroom ) ?_)
                refine R_r (D_pick true rfl rfl) ?_
                refine R_r (D_assign rfl) ?_
                refine R_nil ?_
                exact R_at (Env.sub_cons rfl <| Env.sub_cons rfl <| Env.sub_cons rfl <| Env.sub_nil _)
              ·
                refine R_seq ?_
                refine R_join [(0, P_ br 0), (2, .bool false), (3, .bool true)] (M' := M) (H' := []) ?_ ?_
                ·
                  refine R_region ?_
                  refine R_r (D_move rfl) ?_
                  refine R_r (D_move rfl) ?_
                  refine R_r (D_move rfl) ?_
                  refine R_o (E_callV (v := .bool true) rfl rfl en52 (fun w hM => holdRules_C br bf n tot capf  M w hM hroom ) ?_)
                  refine R_r (D_pick true rfl rfl) ?_
                  refine R_r (D_assign rfl) ?_
                  refine R_nil ?_
                  exact R_at (Env.sub_cons rfl <| Env.sub_cons rfl <| Env.sub_cons rfl <| Env.sub_nil _)
                ·
                  refine R_seq ?_
                  refine R_join [(0, P_ br 0), (2, .bool false), (3, .bool true)] (M' := M) (H' := []) ?_ ?_
                  ·
                    refine R_region ?_
                    refine R_r (D_move rfl) ?_
                    refine R_r (D_move rfl) ?_
                    refine R_r (D_move rfl) ?_
                    refine R_o (E_callV (v := .bool true) rfl rfl en53 (fun w hM => holdChunks_C br bf n tot capf  M w hM hroom ) ?_)
                    refine R_r (D_pick true rfl rfl) ?_
                    refine R_r (D_assign rfl) ?_
                    refine R_nil ?_
                    exact R_at (Env.sub_cons rfl <| Env.sub_cons rfl <| Env.sub_cons rfl <| Env.sub_nil _)
                  ·
                    refine R_seq ?_
                    refine R_join [(0, P_ br 0), (2, .bool false), (3, .bool true)] (M' := M) (H' := []) ?_ ?_
                    ·
                      refine R_region ?_
                      refine R_r (D_move rfl) ?_
                      refine R_r (D_move rfl) ?_
                      refine R_r (D_move rfl) ?_
                      refine R_o (E_callV (v := .bool true) rfl rfl en54 (fun w hM => holdThings_C br bf n tot capf  M w hM hroom ) ?_)
                      refine R_r (D_pick true rfl rfl) ?_
                      refine R_r (D_assign rfl) ?_
                      refine R_nil ?_
                      exact R_at (Env.sub_cons rfl <| Env.sub_cons rfl <| Env.sub_cons rfl <| Env.sub_nil _)
                    ·
                      refine R_seq ?_
                      refine R_join [(0, P_ br 0), (2, .bool false), (3, .bool true)] (M' := M) (H' := []) ?_ ?_
                      ·
                        refine R_region ?_
                        refine R_r (D_move rfl) ?_
                        refine R_r (D_move rfl) ?_
                        refine R_r (D_move rfl) ?_
                        refine R_o (E_callV (v := .bool true) rfl rfl en55 (fun w hM => holdDones_C br bf n tot capf  M w hM hroom ) ?_)
                        refine R_r (D_pick true rfl rfl) ?_
                        refine R_r (D_assign rfl) ?_
                        refine R_nil ?_
                        exact R_at (Env.sub_cons rfl <| Env.sub_cons rfl <| Env.sub_cons rfl <| Env.sub_nil _)
                      ·
                        refine R_seq ?_
                        refine R_join [(0, P_ br 0), (2, .bool false), (3, .bool true)] (M' := M) (H' := []) ?_ ?_
                        ·
                          refine R_region ?_
                          refine R_r (D_move rfl) ?_
                          refine R_r (D_move rfl) ?_
                          refine R_r (D_move rfl) ?_
                          refine R_o (E_callV (v := .bool true) rfl rfl en56 (fun w hM => holdNodes_C br bf n tot capf  M w hM hroom ) ?_)
                          refine R_r (D_pick true rfl rfl) ?_
                          refine R_r (D_assign rfl) ?_
                          refine R_nil ?_
                          exact R_at (Env.sub_cons rfl <| Env.sub_cons rfl <| Env.sub_cons rfl <| Env.sub_nil _)
                        ·
                          refine R_seq ?_
                          refine R_join [(0, P_ br 0), (2, .bool false), (3, .bool true)] (M' := M) (H' := []) ?_ ?_
                          ·
                            refine R_region ?_
                            refine R_r (D_move rfl) ?_
                            refine R_r (D_move rfl) ?_
                            refine R_r (D_move rfl) ?_
                            refine R_o (E_callV (v := .bool true) rfl rfl en57 (fun w hM => holdSteps_C br bf n tot capf  M w hM hroom ) ?_)
                            refine R_r (D_pick true rfl rfl) ?_
                            refine R_r (D_assign rfl) ?_
                            refine R_nil ?_
                            exact R_at (Env.sub_cons rfl <| Env.sub_cons rfl <| Env.sub_cons rfl <| Env.sub_nil _)
                          ·
                            refine R_seq ?_
                            refine R_region ?_
                            refine R_r (D_move rfl) ?_
                            refine R_r (D_assign rfl) ?_
                            refine R_nil ?_
                            refine R_ret ?_
                            refine R_fin1 rfl rfl ?_
                            exact ⟨rfl, rfl, rfl⟩

end Go.Proofs.YtgmomhdammdjgaaGreat
