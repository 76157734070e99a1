/-
  slices.Clone at texts and at trees, walked: the same elements in a row of one's own. Conditions: lists within 2^32.
-/
import Derived.Test.YtgmomhdammdjgaaGreatLaw
set_option linter.unusedVariables false
set_option linter.unusedSimpArgs false
set_option maxRecDepth 20000
set_option maxHeartbeats 4000000
namespace Go.Proofs.YtgmomhdammdjgaaGreat
open Go Go.Proofs Go.RowKit

theorem en147 : ∀ (args : Array Value) (w : World), (callFunc 147 args).run Tryz.prog w = .ok (.enter 147 args) w := enters_fn Tryz.func147 (by kernel_rfl) rfl
theorem bs109_0_  : Bs Tryz.prog 109 9 0 [] [] := fun w => by kernel_rfl
theorem en148 : ∀ (args : Array Value) (w : World), (callFunc 148 args).run Tryz.prog w = .ok (.enter 148 args) w := enters_fn Tryz.func148 (by kernel_rfl) rfl
theorem bs110_0_  : Bs Tryz.prog 110 34 0 [] [] := fun w => by kernel_rfl
theorem en149 : ∀ (args : Array Value) (w : World), (callFunc 149 args).run Tryz.prog w = .ok (.enter 149 args) w := enters_fn Tryz.func149 (by kernel_rfl) rfl
theorem en150 : ∀ (args : Array Value) (w : World), (callFunc 150 args).run Tryz.prog w = .ok (.enter 150 args) w := enters_fn Tryz.func150 (by kernel_rfl) rfl
theorem CloneS_none (c : Nat) (M : PMem) (w : World) (hM : Lies M w) : Ends Tryz.prog 147 [.slice none 0 c] w [] M (fun v M' H' => M' = M ∧ H' = [.row v 9 1 0 []]) := by
  refine Ends.enter (H := []) Tryz.func147 rfl Tryz.ntmps147 rfl (St.start hM) ?_
  refine R_seq ?_
  refine R_region ?_
  refine R_r (D_assign rfl) ?_
  refine R_nil ?_
  refine R_seq ?_
  refine R_seq ?_
  refine R_region ?_
  refine R_r (D_move rfl) ?_
  refine R_r (D_sliceNil Tryz.underlying109 rfl) ?_
  refine R_nil ?_
  refine R_cond_t rfl ?_
  refine R_seq ?_
  refine R_region ?_
  refine R_r (D_assign rfl) ?_
  refine R_nil ?_
  refine R_ret ?_
  refine R_row0 9 1 ?_
  refine R_fin1 rfl rfl ?_
  exact ⟨rfl, rfl⟩

theorem CloneS_nil (ad : Addr) (c : Nat) (M : PMem) (w : World) (hM : Lies M w) : Ends Tryz.prog 147 [.slice (some ad) 0 c] w [] M (fun v M' H' => M' = M ∧ H' = [.row v 9 1 0 []]) := by
  refine Ends.enter (H := []) Tryz.func147 rfl Tryz.ntmps147 rfl (St.start hM) ?_
  refine R_seq ?_
  refine R_region ?_
  refine R_r (D_assign rfl) ?_
  refine R_nil ?_
  refine R_seq ?_
  refine R_seq ?_
  refine R_region ?_
  refine R_r (D_move rfl) ?_
  refine R_r (D_sliceNil Tryz.underlying109 rfl) ?_
  refine R_nil ?_
  refine R_cond_f rfl ?_
  refine R_skip ?_
  refine R_seq ?_
  refine R_region ?_
  refine R_o (E_buildSlice (ps := []) (vs := []) (cs := []) rfl (bs109_0_) (fun b1 => ?_))
  refine R_rowblk (el := 9) 1 0 rfl (by unfold maxLen; omega) ?_
  refine R_r (D_move rfl) ?_
  refine R_o (E_appendNil Tryz.underlying109 Tryz.sizeOf9 rfl rfl (by omega) ?_)
  refine R_r (D_assign rfl) ?_
  refine R_nil ?_
  refine R_ret ?_
  refine R_fin1 rfl rfl ?_
  exact ⟨rfl, rfl⟩

theorem CloneS_some (l : List Str) (a : Option Addr) (c : Nat) (M : PMem) (w : World) (hM : Lies M w) (hc : l.length ≤ c) (hsl : SlA M 1 (byEnc (fun q : Str => [S q])) a l) (hn : l.length ≤ 4294967296) (h0 : 0 < l.length) : Ends Tryz.prog 147 [.slice a l.length c] w [] M (fun v M' H' => M' = M ∧ H' = [.row v 9 1 l.length (l.flatMap (fun q : Str => [S q]))]) := by
  refine Ends.enter (H := []) Tryz.func147 rfl Tryz.ntmps147 rfl (St.start hM) ?_
  refine R_seq ?_
  refine R_region ?_
  refine R_r (D_assign rfl) ?_
  refine R_nil ?_
  refine R_seq ?_
  refine R_seq ?_
  obtain ⟨b1, ob1, csb1, elb1, frb1, rfl, hmb1, hxb1⟩ := hsl.at (i := 0) (by exact h0)
  refine R_region ?_
  refine R_r (D_move rfl) ?_
  refine R_r (D_sliceNil Tryz.underlying109 rfl) ?_
  refine R_nil ?_
  refine R_cond_f rfl ?_
  refine R_skip ?_
  refine R_seq ?_
  refine R_region ?_
  refine R_o (E_buildSlice (ps := []) (vs := []) (cs := []) rfl (bs109_0_) (fun b2 => ?_))
  refine R_rowblk (el := 9) 1 0 rfl (by unfold maxLen; omega) ?_
  refine R_r (D_move rfl) ?_
  refine R_o (E_append (news := l.flatMap (fun q : Str => [S q])) (m := l.length) 0 Tryz.underlying109 el9 rfl rfl rfl (Has.mem hmb1) (chunks_flat (fun q : Str => [S q]) 1 (fun _ => rfl) _ _ _ hxb1) (len_flat (enc := (fun q : Str => [S q])) (n := 1) (fun _ => rfl) _) (ones_flat ones_Str _) (by unfold maxLen; omega) (by omega) (fun v3 hv3 => ?_))
  refine R_r (D_assign rfl) ?_
  refine R_nil ?_
  refine R_ret ?_
  refine R_fin1 rfl rfl ?_
  exact ⟨rfl, by simp⟩

theorem CloneS_C (l : List Str) (a : Option Addr) (c : Nat) (M : PMem) (w : World) (hM : Lies M w) (hc : l.length ≤ c) (hsl : SlA M 1 (byEnc (fun q : Str => [S q])) a l) (hn : l.length ≤ 4294967296) : Ends Tryz.prog 147 [.slice a l.length c] w [] M (fun v M' H' => M' = M ∧ H' = [.row v 9 1 l.length (l.flatMap (fun q : Str => [S q]))]) := by
  cases l with
  | nil => cases a with
    | none => exact CloneS_none c M w hM
    | some ad => exact CloneS_nil ad c M w hM
  | cons x l => exact CloneS_some (x :: l) a c M w hM hc hsl hn (by simp)

theorem CloneT_none (c : Nat) (M : PMem) (w : World) (hM : Lies M w) : Ends Tryz.prog 148 [.slice none 0 c] w [] M (fun v M' H' => M' = M ∧ H' = [.row v 34 1 0 []]) := by
  refine Ends.enter (H := []) Tryz.func148 rfl Tryz.ntmps148 rfl (St.start hM) ?_
  refine R_seq ?_
  refine R_region ?_
  refine R_r (D_assign rfl) ?_
  refine R_nil ?_
  refine R_seq ?_
  refine R_seq ?_
  refine R_region ?_
  refine R_r (D_move rfl) ?_
  refine R_r (D_sliceNil Tryz.underlying110 rfl) ?_
  refine R_nil ?_
  refine R_cond_t rfl ?_
  refine R_seq ?_
  refine R_region ?_
  refine R_r (D_assign rfl) ?_
  refine R_nil ?_
  refine R_ret ?_
  refine R_row0 34 1 ?_
  refine R_fin1 rfl rfl ?_
  exact ⟨rfl, rfl⟩

theorem CloneT_nil (ad : Addr) (c : Nat) (M : PMem) (w : World) (hM : Lies M w) : Ends Tryz.prog 148 [.slice (some ad) 0 c] w [] M (fun v M' H' => M' = M ∧ H' = [.row v 34 1 0 []]) := by
  refine Ends.enter (H := []) Tryz.func148 rfl Tryz.ntmps148 rfl (St.start hM) ?_
  refine R_seq ?_
  refine R_region ?_
  refine R_r (D_assign rfl) ?_
  refine R_nil ?_
  refine R_seq ?_
  refine R_seq ?_
  refine R_region ?_
  refine R_r (D_move rfl) ?_
  refine R_r (D_sliceNil Tryz.underlying110 rfl) ?_
  refine R_nil ?_
  refine R_cond_f rfl ?_
  refine R_skip ?_
  refine R_seq ?_
  refine R_region ?_
  refine R_o (E_buildSlice (ps := []) (vs := []) (cs := []) rfl (bs110_0_) (fun b1 => ?_))
  refine R_rowblk (el := 34) 1 0 rfl (by unfold maxLen; omega) ?_
  refine R_r (D_move rfl) ?_
  refine R_o (E_appendNil Tryz.underlying110 Tryz.sizeOf34 rfl rfl (by omega) ?_)
  refine R_r (D_assign rfl) ?_
  refine R_nil ?_
  refine R_ret ?_
  refine R_fin1 rfl rfl ?_
  exact ⟨rfl, rfl⟩

theorem CloneT_some (l : List Nat) (a : Option Addr) (c : Nat) (M : PMem) (w : World) (hM : Lies M w) (hc : l.length ≤ c) (hsl : SlA M 1 (byEnc (fun b : Nat => [P_ b 0])) a l) (hn : l.length ≤ 4294967296) (h0 : 0 < l.length) : Ends Tryz.prog 148 [.slice a l.length c] w [] M (fun v M' H' => M' = M ∧ H' = [.row v 34 1 l.length (l.flatMap (fun b : Nat => [P_ b 0]))]) := by
  refine Ends.enter (H := []) Tryz.func148 rfl Tryz.ntmps148 rfl (St.start hM) ?_
  refine R_seq ?_
  refine R_region ?_
  refine R_r (D_assign rfl) ?_
  refine R_nil ?_
  refine R_seq ?_
  refine R_seq ?_
  obtain ⟨b1, ob1, csb1, elb1, frb1, rfl, hmb1, hxb1⟩ := hsl.at (i := 0) (by exact h0)
  refine R_region ?_
  refine R_r (D_move rfl) ?_
  refine R_r (D_sliceNil Tryz.underlying110 rfl) ?_
  refine R_nil ?_
  refine R_cond_f rfl ?_
  refine R_skip ?_
  refine R_seq ?_
  refine R_region ?_
  refine R_o (E_buildSlice (ps := []) (vs := []) (cs := []) rfl (bs110_0_) (fun b2 => ?_))
  refine R_rowblk (el := 34) 1 0 rfl (by unfold maxLen; omega) ?_
  refine R_r (D_move rfl) ?_
  refine R_o (E_append (news := l.flatMap (fun b : Nat => [P_ b 0])) (m := l.length) 0 Tryz.underlying110 el34 rfl rfl rfl (Has.mem hmb1) (chunks_flat (fun b : Nat => [P_ b 0]) 1 (fun _ => rfl) _ _ _ hxb1) (len_flat (enc := (fun b : Nat => [P_ b 0])) (n := 1) (fun _ => rfl) _) (ones_flat ones_Ptr _) (by unfold maxLen; omega) (by omega) (fun v3 hv3 => ?_))
  refine R_r (D_assign rfl) ?_
  refine R_nil ?_
  refine R_ret ?_
  refine R_fin1 rfl rfl ?_
  exact ⟨rfl, by simp⟩

theorem CloneT_C (l : List Nat) (a : Option Addr) (c : Nat) (M : PMem) (w : World) (hM : Lies M w) (hc : l.length ≤ c) (hsl : SlA M 1 (byEnc (fun b : Nat => [P_ b 0])) a l) (hn : l.length ≤ 4294967296) : Ends Tryz.prog 148 [.slice a l.length c] w [] M (fun v M' H' => M' = M ∧ H' = [.row v 34 1 l.length (l.flatMap (fun b : Nat => [P_ b 0]))]) := by
  cases l with
  | nil => cases a with
    | none => exact CloneT_none c M w hM
    | some ad => exact CloneT_nil ad c M w hM
  | cons x l => exact CloneT_some (x :: l) a c M w hM hc hsl hn (by simp)

theorem CloneT_K (ks : List Node) (a : Option Addr) (c : Nat) (M : PMem) (w : World) (hM : Lies M w) (hc : ks.length ≤ c) (hu : SubA M a ks) (hn : ks.length ≤ 4294967296) : Ends Tryz.prog 148 [.slice a ks.length c] w [] M (fun v M' H' => M' = M ∧ ∃ bs : List Nat, PtrsIs M bs ks ∧ H' = [.row v 34 1 bs.length (bs.flatMap fun b => [P_ b 0])]) := by
  obtain ⟨bs, hps, hs⟩ := hu.ptrs
  have h := CloneT_C bs a c M w hM (by rw [hps.1]; exact hc) hs (by rw [hps.1]; exact hn)
  have e : (Value.slice a ks.length c) = .slice a bs.length c := by rw [hps.1]
  rw [e]
  exact h.mono fun v M' H' _ ⟨h1, h2⟩ => ⟨h1, bs, hps, h2⟩

theorem InsertS_S (ad : Option Addr) (n cap : Nat) (xs : List Value) (y : Str) (aq : Option Addr) (cq : Nat) (M : PMem) (w : World) (hM : Lies M w) (hr : (Res.row (.slice ad n cap) 9 1 n xs).holds w) (hf : ∀ b, (Res.row (.slice ad n cap) 9 1 n xs).fp = some b → M b = none) (hcap : n ≤ cap) (hn : n ≤ 4294967296) (hsq : SlA M 1 (byEnc (fun q : Str => [S q])) aq [y]) : Ends Tryz.prog 149 [.slice ad n cap, I (n : Int), .slice aq (([y] : List Str).length) cq] w (Res.row (.slice ad n cap) 9 1 n xs).fp.toList M (fun v M' H' => M' = M ∧ H' = [.row v 9 1 (n + 1) (xs ++ (fun q : Str => [S q]) y)]) := by
  refine Ends.enter (H := [.row (.slice ad n cap) 9 1 n xs]) Tryz.func149 rfl Tryz.ntmps149 rfl (St.startR hM hr hf) ?_
  refine R_seq ?_
  refine R_region ?_
  refine R_r (D_assign rfl) ?_
  refine R_nil ?_
  refine R_seq ?_
  refine R_region ?_
  refine R_r (D_move rfl) ?_
  refine R_r (D_move rfl) ?_
  refine R_r (D_sliceL Tryz.underlying109 Tryz.sizeOf9 rfl rfl rfl (by omega) (by omega) (by omega) (by omega)) ?_
  refine R_nil ?_
  refine R_seq ?_
  refine R_region ?_
  refine R_r (D_move rfl) ?_
  refine R_r (D_lenL Tryz.underlying109 rfl) ?_
  refine R_r (D_assign rfl) ?_
  refine R_nil ?_
  refine R_seq ?_
  refine R_seq ?_
  refine R_region ?_
  refine R_r (D_move rfl) ?_
  refine R_r (D_eq rfl rfl) ?_
  refine R_nil ?_
  refine R_cond rfl (fun h1 => ?_) (fun h1 => ?_)
  ·
    have h1p := of_decide_eq_true h1
    exact absurd h1 (by simp)
  ·
    have h1p := of_decide_eq_false h1
    refine R_skip ?_
    refine R_seq ?_
    refine R_region ?_
    refine R_r (D_move rfl) ?_
    refine R_r (D_lenL Tryz.underlying109 rfl) ?_
    refine R_r (D_assign rfl) ?_
    refine R_nil ?_
    refine R_seq ?_
    refine R_seq ?_
    refine R_region ?_
    refine R_r (D_move rfl) ?_
    refine R_r (D_move rfl) ?_
    refine R_r (D_eq rfl rfl) ?_
    refine R_nil ?_
    refine R_cond rfl (fun h2 => ?_) (fun h2 => ?_)
    ·
      have h2p := of_decide_eq_true h2
      refine R_seq ?_
      refine R_region ?_
      refine R_r (D_move rfl) ?_
      refine R_r (D_move rfl) ?_
      obtain ⟨b1, ob1, csb1, elb1, frb1, rfl, hmb1, hxb1⟩ := hsq.at (i := 0) (by simp)
      refine R_o (E_append (news := ([y] : List Str).flatMap (fun q : Str => [S q])) (m := ([y] : List Str).length) 0 Tryz.underlying109 el9 rfl rfl rfl (Has.mem hmb1) (chunks_flat (fun q : Str => [S q]) 1 (fun _ => rfl) _ _ _ hxb1) (len_flat (enc := (fun q : Str => [S q])) (n := 1) (fun _ => rfl) _) (ones_flat ones_Str _) (by unfold maxLen; simp; omega) (by simp; omega) (fun v2 hv2 => ?_))
      refine R_r (D_assign rfl) ?_
      refine R_nil ?_
      refine R_ret ?_
      refine R_fin1 rfl rfl ?_
      exact ⟨rfl, by simp⟩
    ·
      have h2p := of_decide_eq_false h2
      exact absurd h2 (by simp)

theorem InsertT_S (ad : Option Addr) (n cap : Nat) (xs : List Value) (y : Nat) (aq : Option Addr) (cq : Nat) (M : PMem) (w : World) (hM : Lies M w) (hr : (Res.row (.slice ad n cap) 34 1 n xs).holds w) (hf : ∀ b, (Res.row (.slice ad n cap) 34 1 n xs).fp = some b → M b = none) (hcap : n ≤ cap) (hn : n ≤ 4294967296) (hsq : SlA M 1 (byEnc (fun b : Nat => [P_ b 0])) aq [y]) : Ends Tryz.prog 150 [.slice ad n cap, I (n : Int), .slice aq (([y] : List Nat).length) cq] w (Res.row (.slice ad n cap) 34 1 n xs).fp.toList M (fun v M' H' => M' = M ∧ H' = [.row v 34 1 (n + 1) (xs ++ (fun b : Nat => [P_ b 0]) y)]) := by
  refine Ends.enter (H := [.row (.slice ad n cap) 34 1 n xs]) Tryz.func150 rfl Tryz.ntmps150 rfl (St.startR hM hr hf) ?_
  refine R_seq ?_
  refine R_region ?_
  refine R_r (D_assign rfl) ?_
  refine R_nil ?_
  refine R_seq ?_
  refine R_region ?_
  refine R_r (D_move rfl) ?_
  refine R_r (D_move rfl) ?_
  refine R_r (D_sliceL Tryz.underlying110 Tryz.sizeOf34 rfl rfl rfl (by omega) (by omega) (by omega) (by omega)) ?_
  refine R_nil ?_
  refine R_seq ?_
  refine R_region ?_
  refine R_r (D_move rfl) ?_
  refine R_r (D_lenL Tryz.underlying110 rfl) ?_
  refine R_r (D_assign rfl) ?_
  refine R_nil ?_
  refine R_seq ?_
  refine R_seq ?_
  refine R_region ?_
  refine R_r (D_move rfl) ?_
  refine R_r (D_eq rfl rfl) ?_
  refine R_nil ?_
  refine R_cond rfl (fun h1 => ?_) (fun h1 => ?_)
  ·
    have h1p := of_decide_eq_true h1
    exact absurd h1 (by simp)
  ·
    have h1p := of_decide_eq_false h1
    refine R_skip ?_
    refine R_seq ?_
    refine R_region ?_
    refine R_r (D_move rfl) ?_
    refine R_r (D_lenL Tryz.underlying110 rfl) ?_
    refine R_r (D_assign rfl) ?_
    refine R_nil ?_
    refine R_seq ?_
    refine R_seq ?_
    refine R_region ?_
    refine R_r (D_move rfl) ?_
    refine R_r (D_move rfl) ?_
    refine R_r (D_eq rfl rfl) ?_
    refine R_nil ?_
    refine R_cond rfl (fun h2 => ?_) (fun h2 => ?_)
    ·
      have h2p := of_decide_eq_true h2
      refine R_seq ?_
      refine R_region ?_
      refine R_r (D_move rfl) ?_
      refine R_r (D_move rfl) ?_
      obtain ⟨b1, ob1, csb1, elb1, frb1, rfl, hmb1, hxb1⟩ := hsq.at (i := 0) (by simp)
      refine R_o (E_append (news := ([y] : List Nat).flatMap (fun b : Nat => [P_ b 0])) (m := ([y] : List Nat).length) 0 Tryz.underlying110 el34 rfl rfl rfl (Has.mem hmb1) (chunks_flat (fun b : Nat => [P_ b 0]) 1 (fun _ => rfl) _ _ _ hxb1) (len_flat (enc := (fun b : Nat => [P_ b 0])) (n := 1) (fun _ => rfl) _) (ones_flat ones_Ptr _) (by unfold maxLen; simp; omega) (by simp; omega) (fun v2 hv2 => ?_))
      refine R_r (D_assign rfl) ?_
      refine R_nil ?_
      refine R_ret ?_
      refine R_fin1 rfl rfl ?_
      exact ⟨rfl, by simp⟩
    ·
      have h2p := of_decide_eq_false h2
      exact absurd h2 (by simp)

end Go.Proofs.YtgmomhdammdjgaaGreat
