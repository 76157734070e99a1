/-
  Counting a tree's parts (twineroom.Count), walked. Conditions: names and lists of lengths that a machine can count.
-/
import Derived.Test.YtgmomhdammdjgaaGreatRef13b
set_option linter.unusedVariables false
set_option linter.unusedSimpArgs false
set_option maxRecDepth 20000
set_option maxHeartbeats 4000000
namespace Go.Proofs.YtgmomhdammdjgaaGreat
open Go Go.Proofs Go.RowKit

theorem fa126_0 : Fa Tryz.prog 126 0 0 := Fa.mk Tryz.underlying126 rfl rfl (fun w => ⟨0, Tryz.sizeOf3 w⟩)
theorem en30 : ∀ (args : Array Value) (w : World), (callFunc 30 args).run Tryz.prog w = .ok (.enter 30 args) w := enters_fn Tryz.func30 (by kernel_rfl) rfl
theorem en100 : ∀ (args : Array Value) (w : World), (callFunc 100 args).run Tryz.prog w = .ok (.enter 100 args) w := enters_fn Tryz.func100 (by kernel_rfl) rfl
theorem en71 : ∀ (args : Array Value) (w : World), (callFunc 71 args).run Tryz.prog w = .ok (.enter 71 args) w := enters_fn Tryz.func71 (by kernel_rfl) rfl
theorem en29 : ∀ (args : Array Value) (w : World), (callFunc 29 args).run Tryz.prog w = .ok (.enter 29 args) w := enters_fn Tryz.func29 (by kernel_rfl) rfl
theorem en72 : ∀ (args : Array Value) (w : World), (callFunc 72 args).run Tryz.prog w = .ok (.enter 72 args) w := enters_fn Tryz.func72 (by kernel_rfl) rfl
theorem en32 : ∀ (args : Array Value) (w : World), (callFunc 32 args).run Tryz.prog w = .ok (.enter 32 args) w := enters_fn Tryz.func32 (by kernel_rfl) rfl
theorem bd126_0 (x0 : Int) : Bd Tryz.prog 126 [(0, I x0)] (.agg (List.toArray [I x0])) := fun w => by kernel_rfl
theorem en28 : ∀ (args : Array Value) (w : World), (callFunc 28 args).run Tryz.prog w = .ok (.enter 28 args) w := enters_fn Tryz.func28 (by kernel_rfl) rfl
theorem en7 : ∀ (args : Array Value) (w : World), (callFunc 7 args).run Tryz.prog w = .ok (.enter 7 args) w := enters_fn Tryz.func7 (by kernel_rfl) rfl
theorem en8 : ∀ (args : Array Value) (w : World), (callFunc 8 args).run Tryz.prog w = .ok (.enter 8 args) w := enters_fn Tryz.func8 (by kernel_rfl) rfl
theorem en13 : ∀ (args : Array Value) (w : World), (callFunc 13 args).run Tryz.prog w = .ok (.enter 13 args) w := enters_fn Tryz.func13 (by kernel_rfl) rfl
theorem Ok_C (b : Nat) (k : Int) (M : PMem) (w : World) (hM : Lies M w) (hb : w.heap[b]? = some (.cells (List.toArray [I k]) 126)) (hf : M b = none) : Ends Tryz.prog 30 [P_ b 0] w [b] M (fun v' M' H' => v' = .bool (decide (0 ≤ k)) ∧ M' = M ∧ H' = [.blk b (.cells (List.toArray [I k]) 126)]) := by
  refine Ends.enter (H := [.blk b (.cells (List.toArray [I k]) 126)]) Tryz.func30 rfl Tryz.ntmps30 rfl (St.start1 hM hb hf) ?_
  refine R_seq ?_
  refine R_region ?_
  refine R_r (D_assign rfl) ?_
  refine R_nil ?_
  refine R_seq ?_
  refine R_region ?_
  refine R_r (D_move rfl) ?_
  refine R_r (D_nilCheck rfl) ?_
  refine R_r (D_fieldAddr fa126_0 rfl) ?_
  refine R_r (D_load rfl (Has.own 0 rfl) (Rd.one Tryz.isAgg3 rfl)) ?_
  refine R_r (D_ge rfl rfl) ?_
  refine R_r (D_assign rfl) ?_
  refine R_nil ?_
  refine R_ret ?_
  refine R_fin1 rfl rfl ?_
  exact ⟨rfl, rfl, rfl⟩

theorem Add_C (b : Nat) (k : Int) (n : Int) (M : PMem) (w : World) (hM : Lies M w) (hb : w.heap[b]? = some (.cells (List.toArray [I k]) 126)) (hf : M b = none) (hk : k ≤ 1000000) (hn0 : 0 ≤ n) (hn1 : n ≤ 4611686018427387904) (hk0 : -4611686018427387904 ≤ k) : Ends Tryz.prog 100 [P_ b 0, I n] w [b] M (fun v' M' H' => v' = .bool (decide (0 ≤ addC k n)) ∧ M' = M ∧ H' = [.blk b (.cells (List.toArray [I (addC k n)]) 126)]) := by
  refine Ends.enter (H := [.blk b (.cells (List.toArray [I k]) 126)]) Tryz.func100 rfl Tryz.ntmps100 rfl (St.start1 hM hb hf) ?_
  refine R_seq ?_
  refine R_region ?_
  refine R_r (D_assign rfl) ?_
  refine R_nil ?_
  refine R_seq ?_
  refine R_seq ?_
  refine R_region ?_
  refine R_r (D_move rfl) ?_
  refine R_r (D_nilCheck rfl) ?_
  refine R_r (D_fieldAddr fa126_0 rfl) ?_
  refine R_r (D_load rfl (Has.own 0 rfl) (Rd.one Tryz.isAgg3 rfl)) ?_
  refine R_r (D_ge rfl rfl) ?_
  refine R_nil ?_
  refine R_cond rfl (fun h1 => ?_) (fun h1 => ?_)
  ·
    have h1p := of_decide_eq_true h1
    refine R_region ?_
    refine R_r (D_move rfl) ?_
    refine R_r (D_move rfl) ?_
    refine R_r (D_nilCheck rfl) ?_
    refine R_r (D_fieldAddr fa126_0 rfl) ?_
    refine R_r (D_load rfl (Has.own 0 rfl) (Rd.one Tryz.isAgg3 rfl)) ?_
    refine R_r (D_move rfl) ?_
    refine R_r (D_subI rfl rfl rfl (by omega) (by omega)) ?_
    refine R_r (D_nilCheck rfl) ?_
    refine R_r (D_fieldAddr fa126_0 rfl) ?_
    refine R_o (E_store (cs' := [I (k - n)]) 0 rfl rfl rfl (Wr.one Tryz.sizeOf3 rfl rfl rfl) ?_)
    refine R_nil ?_
    refine R_seq ?_
    refine R_region ?_
    refine R_r (D_move rfl) ?_
    refine R_r (D_nilCheck rfl) ?_
    refine R_r (D_fieldAddr fa126_0 rfl) ?_
    refine R_r (D_load rfl (Has.own 0 rfl) (Rd.one Tryz.isAgg3 rfl)) ?_
    refine R_r (D_ge rfl rfl) ?_
    refine R_r (D_assign rfl) ?_
    refine R_nil ?_
    refine R_ret ?_
    refine R_fin1 rfl rfl ?_
    exact ⟨by rw [addC, if_pos h1p], rfl, by rw [addC, if_pos h1p]; try rfl⟩
  ·
    have h1p := of_decide_eq_false h1
    refine R_skip ?_
    refine R_seq ?_
    refine R_region ?_
    refine R_r (D_move rfl) ?_
    refine R_r (D_nilCheck rfl) ?_
    refine R_r (D_fieldAddr fa126_0 rfl) ?_
    refine R_r (D_load rfl (Has.own 0 rfl) (Rd.one Tryz.isAgg3 rfl)) ?_
    refine R_r (D_ge rfl rfl) ?_
    refine R_r (D_assign rfl) ?_
    refine R_nil ?_
    refine R_ret ?_
    refine R_fin1 rfl rfl ?_
    exact ⟨by rw [addC, if_neg h1p], rfl, by rw [addC, if_neg h1p]; try rfl⟩

theorem Text_C (b : Nat) (k : Int) (s : Str) (M : PMem) (w : World) (hM : Lies M w) (hb : w.heap[b]? = some (.cells (List.toArray [I k]) 126)) (hf : M b = none) (hk : k ≤ 1000000) (hk0 : -4611686018427387904 ≤ k) (hs : s.length ≤ 4611686018427387904) : Ends Tryz.prog 71 [P_ b 0, S s] w [b] M (fun v' M' H' => v' = .tuple #[] ∧ M' = M ∧ H' = [.blk b (.cells (List.toArray [I (addC (addC k 1) s.length)]) 126)]) := by
  refine Ends.enter (H := [.blk b (.cells (List.toArray [I k]) 126)]) Tryz.func71 rfl Tryz.ntmps71 rfl (St.start1 hM hb hf) ?_
  refine R_seq ?_
  refine R_region ?_
  refine R_r (D_move rfl) ?_
  refine R_o (E_call1 (o' := .cells (List.toArray [I (addC k 1)]) 126) (v := .bool (decide (0 ≤ addC k 1))) 0 rfl rfl rfl en100 (fun w hM hb hf => Add_C b k 1 M w hM hb hf (by have := addC_le (k := k) (n := 1) (by omega); omega) (by omega) (by omega) (by have := addC_lo (k := k) (n := 1) (by omega) (by omega); omega)) ?_)
  refine R_nil ?_
  refine R_region ?_
  refine R_r (D_move rfl) ?_
  refine R_r (D_move rfl) ?_
  refine R_r (D_lenS Tryz.underlying9 rfl) ?_
  refine R_o (E_call1 (o' := .cells (List.toArray [I (addC (addC k 1) (s.length : Int))]) 126) (v := .bool (decide (0 ≤ addC (addC k 1) (s.length : Int)))) 0 rfl rfl rfl en100 (fun w hM hb hf => Add_C b (addC k 1) (s.length : Int) M w hM hb hf (by have := addC_le (k := k) (n := 1) (by omega); omega) (by omega) (by omega) (by have := addC_lo (k := k) (n := 1) (by omega) (by omega); omega)) ?_)
  refine R_nil ?_
  refine R_fin0 rfl ?_
  exact ⟨rfl, rfl, rfl⟩

theorem Nodes_S (b : Nat) (k : Int) (l : List Node) (a : Option Addr) (c : Nat) (M : PMem) (w : World) (hM : Lies M w) (hb : w.heap[b]? = some (.cells (List.toArray [I k]) 126)) (hf : M b = none) (hk : k ≤ 1000000) (hk0 : -4611686018427387904 ≤ k) (hc : l.length ≤ c) (hln : l.length ≤ 4611686018427387904) (hka : NdA M a l) (hsm : ∀ x ∈ l, x.Small) (ih : ∀ (y : Node), y ∈ l → ∀ (b : Nat) (k : Int) (a : Option Addr) (c : Nat) (M : PMem) (w : World) (hM : Lies M w), w.heap[b]? = some (.cells (List.toArray [I k]) 126) → M b = none → k ≤ 1000000 → -4611686018427387904 ≤ k → y.Small → y.kids.length ≤ c → NdA M a y.kids → Ends Tryz.prog 29 [P_ b 0, NodeC.val ⟨y.name, y.value, y.marks, .slice a y.kids.length c⟩] w [b] M (fun v' M' H' => v' = .tuple #[] ∧ M' = M ∧ H' = [.blk b (.cells (List.toArray [I (cntN k y)]) 126)])) : Ends Tryz.prog 72 [P_ b 0, .slice a l.length c] w [b] M (fun v' M' H' => v' = .tuple #[] ∧ M' = M ∧ H' = [.blk b (.cells (List.toArray [I (cntL k l)]) 126)]) := by
  refine Ends.enter (H := [.blk b (.cells (List.toArray [I k]) 126)]) Tryz.func72 rfl Tryz.ntmps72 rfl (St.start1 hM hb hf) ?_
  refine R_seq ?_
  refine R_region ?_
  refine R_r (D_assign rfl) ?_
  refine R_nil ?_
  refine R_block ?_
  refine R_loop (σ := (Nat) × (Int)) (fun gs => ([(0, P_ b 0), (1, .slice a l.length c), (4, I (gs.1 : Int))], M, [.blk b (.cells (List.toArray [I gs.2]) 126)])) (fun gs => gs.1 ≤ l.length ∧ gs.2 ≤ 1000000 ∧ -4611686018427387904 ≤ gs.2 ∧ cntL k l = cntL gs.2 (l.drop gs.1)) (fun gs => l.length - gs.1) (0, k) ?_ (Env.sub_cons rfl <| Env.sub_cons rfl <| Env.sub_cons rfl <| Env.sub_nil _) rfl rfl ?_
  · show 0 ≤ l.length ∧ k ≤ 1000000 ∧ -4611686018427387904 ≤ k ∧ cntL k l = cntL k (l.drop 0); exact ⟨by omega, hk, hk0, rfl⟩
  rintro ⟨i, j⟩ hok
  replace hok : i ≤ l.length ∧ j ≤ 1000000 ∧ -4611686018427387904 ≤ j ∧ cntL k l = cntL j (l.drop i) := hok
  show Cx.R _ _ _ [(0, P_ b 0), (1, .slice a l.length c), (4, I (i : Int))] M [.blk b (.cells (List.toArray [I j]) 126)]
  obtain ⟨hi, hj, hj0, hcl⟩ := hok
  refine R_seq ?_
  refine R_seq ?_
  refine R_region ?_
  refine R_r (D_move rfl) ?_
  refine R_r (D_move rfl) ?_
  refine R_r (D_lenL Tryz.underlying28 rfl) ?_
  refine R_r (D_lt rfl rfl) ?_
  refine R_r (D_move rfl) ?_
  refine R_split 9 rfl (fun h1 => ?_) (fun h1 => ?_)
  ·
    have h1p := of_decide_eq_true h1
    refine R_r (D_move rfl) ?_
    refine R_o (E_call1 (o' := .cells (List.toArray [I j]) 126) (v := .bool (decide (0 ≤ j))) 0 rfl rfl rfl en30 (fun w hM hb hf => Ok_C b j M w hM hb hf ) ?_)
    refine R_r (D_pick true rfl rfl) ?_
    refine R_nil ?_
    refine R_cond rfl (fun h2 => ?_) (fun h2 => ?_)
    ·
      have h2p := of_decide_eq_true h2
      refine R_skip ?_
      refine R_seq ?_
      refine R_block ?_
      refine R_region ?_
      refine R_r (D_move rfl) ?_
      refine R_r (D_move rfl) ?_
      refine R_r (D_move rfl) ?_
      obtain ⟨b1, ob1, csb1, elb1, frb1, rfl, hmb1, hxb1⟩ := hka.at (i := i) (by first | omega | (simp; omega))
      obtain ⟨x2, hx2⟩ : ∃ e_, l[i]? = some e_ := ⟨_, List.getElem?_eq_getElem (by omega)⟩
      obtain ⟨ksx2, hex2, hkx2⟩ := (hxb1 i x2 hx2).open
      obtain ⟨ax2, cx2, rfl, hcx2, hkx2⟩ := hkx2.sl
      refine R_r (D_indexLn (i) Tryz.underlying28 Tryz.sizeOf30 rfl rfl (by first | rfl | omega) (by first | omega | (simp <;> omega))) ?_
      refine R_r (D_load rfl (Has.mem hmb1) (Rd.elemA (i := i) hex2 Tryz.underlying30 rfl inf30 rfl)) ?_
      refine R_o (E_call1 (o' := .cells (List.toArray [I (cntN j x2)]) 126) (v := .tuple #[]) 0 rfl rfl rfl en29 (fun w hM hb hf => ih x2 (List.mem_of_getElem? hx2) b j ax2 cx2 M w hM hb hf (by omega) (by omega) (hsm _ (List.mem_of_getElem? hx2)) (by omega) hkx2) ?_)
      refine R_nil ?_
      refine R_region ?_
      refine R_r (D_move rfl) ?_
      refine R_r (D_add rfl rfl rfl (by omega) (by omega)) ?_
      refine R_r (D_assign rfl) ?_
      refine R_nil ?_
      exact R_back (i + 1, cntN j x2) (by show (i + 1) ≤ l.length ∧ (cntN j x2) ≤ 1000000 ∧ -4611686018427387904 ≤ (cntN j x2) ∧ cntL k l = cntL (cntN j x2) (l.drop (i + 1)); exact ⟨by omega, by have := cntN_le x2 j; omega, cntN_lo x2 j (hsm _ (List.mem_of_getElem? hx2)) hj0, cntL_step hcl hx2 h2p⟩) (by show l.length - (i + 1) < l.length - i; omega) (Env.sub_cons rfl <| Env.sub_cons rfl <| Env.sub_cons rfl <| Env.sub_nil _) rfl rfl
    ·
      have h2p := of_decide_eq_false h2
      refine R_exit rfl ?_
      refine R_fin0 rfl ?_
      exact ⟨rfl, rfl, by rw [cntL_stop hcl (by omega)]; try rfl⟩
  ·
    have h1p := of_decide_eq_false h1
    refine R_skipop rfl rfl rfl ?_
    refine R_skipop rfl rfl rfl ?_
    refine R_r (D_pick false rfl rfl) ?_
    refine R_nil ?_
    refine R_cond_f rfl ?_
    refine R_exit rfl ?_
    refine R_fin0 rfl ?_
    exact ⟨rfl, rfl, by rw [cntL_stop hcl (by omega)]; try rfl⟩

theorem Node_S (b : Nat) (k : Int) (x : Node) (a : Option Addr) (c : Nat) (M : PMem) (w : World) (hM : Lies M w) (hb : w.heap[b]? = some (.cells (List.toArray [I k]) 126)) (hf : M b = none) (hk : k ≤ 1000000) (hk0 : -4611686018427387904 ≤ k) (hc : x.kids.length ≤ c) (hkx : NdA M a x.kids) (hsx : x.Small) (ih : ∀ (y : Node), y ∈ x.kids → ∀ (b : Nat) (k : Int) (a : Option Addr) (c : Nat) (M : PMem) (w : World) (hM : Lies M w), w.heap[b]? = some (.cells (List.toArray [I k]) 126) → M b = none → k ≤ 1000000 → -4611686018427387904 ≤ k → y.Small → y.kids.length ≤ c → NdA M a y.kids → Ends Tryz.prog 29 [P_ b 0, NodeC.val ⟨y.name, y.value, y.marks, .slice a y.kids.length c⟩] w [b] M (fun v' M' H' => v' = .tuple #[] ∧ M' = M ∧ H' = [.blk b (.cells (List.toArray [I (cntN k y)]) 126)])) : Ends Tryz.prog 29 [P_ b 0, NodeC.val (⟨x.name, x.value, x.marks, .slice a x.kids.length c⟩ : NodeC)] w [b] M (fun v' M' H' => v' = .tuple #[] ∧ M' = M ∧ H' = [.blk b (.cells (List.toArray [I (cntN k x)]) 126)]) := by
  refine Ends.enter (H := [.blk b (.cells (List.toArray [I k]) 126)]) Tryz.func29 rfl Tryz.ntmps29 rfl (St.start1 hM hb hf) ?_
  refine R_seq ?_
  refine R_region ?_
  refine R_o (E_box (NodeC.cells (⟨x.name, x.value, x.marks, .slice a x.kids.length c⟩ : NodeC)) rfl rfl (fun b1 => ?_))
  refine R_nil ?_
  refine R_seq ?_
  refine R_region ?_
  refine R_r (D_move rfl) ?_
  refine R_r (D_fieldAddr fa30_0 rfl) ?_
  refine R_r (D_load rfl (Has.own 0 rfl) (Rd.one Tryz.isAgg9 rfl)) ?_
  refine R_o (E_call1 (o' := .cells (List.toArray [I (addC (addC k 1) (x.name.length : Int))]) 126) (v := .tuple #[]) 1 rfl rfl rfl en71 (fun w hM hb hf => Text_C b k x.name M w hM hb hf (by omega) hk0 hsx.name) ?_)
  refine R_nil ?_
  refine R_region ?_
  refine R_r (D_move rfl) ?_
  refine R_r (D_fieldAddr fa30_3 rfl) ?_
  refine R_r (D_load rfl (Has.own 0 rfl) (Rd.one Tryz.isAgg28 rfl)) ?_
  refine R_o (E_call1 (o' := .cells (List.toArray [I (cntL (addC (addC k 1) (x.name.length : Int)) x.kids)]) 126) (v := .tuple #[]) 1 rfl rfl rfl en72 (fun w hM hb hf => Nodes_S b (addC (addC k 1) (x.name.length : Int)) x.kids a c M w hM hb hf (by have := addC_le (k := addC k 1) (n := (x.name.length : Int)) (by omega); have := addC_le (k := k) (n := 1) (by omega); omega) (addC_lo (by have := hsx.name; omega) (addC_lo (by omega) hk0)) (by omega) hsx.len hkx (fun y hy => hsx.kid hy) ih) ?_)
  refine R_nil ?_
  refine R_drop (H' := [.blk b (.cells (List.toArray [I (cntL (addC (addC k 1) (x.name.length : Int)) x.kids)]) 126)]) (.cons _ (.cons_cons _ (.slnil))) ?_
  refine R_fin0 rfl ?_
  exact ⟨rfl, rfl, by rw [cntN_eq]⟩

theorem Node_C : ∀ (n : Nat) (y : Node), y.size = n → ∀ (b : Nat) (k : Int) (a : Option Addr) (c : Nat) (M : PMem) (w : World) (hM : Lies M w), w.heap[b]? = some (.cells (List.toArray [I k]) 126) → M b = none → k ≤ 1000000 → -4611686018427387904 ≤ k → y.Small → y.kids.length ≤ c → NdA M a y.kids → Ends Tryz.prog 29 [P_ b 0, NodeC.val ⟨y.name, y.value, y.marks, .slice a y.kids.length c⟩] w [b] M (fun v' M' H' => v' = .tuple #[] ∧ M' = M ∧ H' = [.blk b (.cells (List.toArray [I (cntN k y)]) 126)]) := by
  intro n
  induction n using Nat.strongRecOn with
  | _ n IH => exact fun y hy b k a c M w hM hb hf hk hk0 hs hc ha => Node_S b k y a c M w hM hb hf hk hk0 hc ha hs (fun z hz => IH z.size (by have := Node.size_kid hz; omega) z rfl)

theorem ChangesN_C (b : Nat) (k : Int) (l : List Change) (a : Option Addr) (c : Nat) (M : PMem) (w : World) (hM : Lies M w) (hb : w.heap[b]? = some (.cells (List.toArray [I k]) 126)) (hf : M b = none) (hk : k ≤ 1000000) (hk0 : -4611686018427387904 ≤ k) (hc : l.length ≤ c) (hln : l.length ≤ 4611686018427387904) (hka : SlA M 71 (byEnc Change.cells) a l) (hsm : ∀ x ∈ l, x.path.length ≤ 4611686018427387904) : Ends Tryz.prog 32 [P_ b 0, .slice a l.length c] w [b] M (fun v' M' H' => v' = .tuple #[] ∧ M' = M ∧ H' = [.blk b (.cells (List.toArray [I (cntC k l)]) 126)]) := by
  refine Ends.enter (H := [.blk b (.cells (List.toArray [I k]) 126)]) Tryz.func32 rfl Tryz.ntmps32 rfl (St.start1 hM hb hf) ?_
  refine R_seq ?_
  refine R_region ?_
  refine R_r (D_assign rfl) ?_
  refine R_nil ?_
  refine R_block ?_
  refine R_loop (σ := (Nat) × (Int)) (fun gs => ([(0, P_ b 0), (1, .slice a l.length c), (4, I (gs.1 : Int))], M, [.blk b (.cells (List.toArray [I gs.2]) 126)])) (fun gs => gs.1 ≤ l.length ∧ gs.2 ≤ 1000000 ∧ -4611686018427387904 ≤ gs.2 ∧ cntC k l = cntC gs.2 (l.drop gs.1)) (fun gs => l.length - gs.1) (0, k) ?_ (Env.sub_cons rfl <| Env.sub_cons rfl <| Env.sub_cons rfl <| Env.sub_nil _) rfl rfl ?_
  · show 0 ≤ l.length ∧ k ≤ 1000000 ∧ -4611686018427387904 ≤ k ∧ cntC k l = cntC k (l.drop 0); exact ⟨by omega, hk, hk0, rfl⟩
  rintro ⟨i, j⟩ hok
  replace hok : i ≤ l.length ∧ j ≤ 1000000 ∧ -4611686018427387904 ≤ j ∧ cntC k l = cntC j (l.drop i) := hok
  show Cx.R _ _ _ [(0, P_ b 0), (1, .slice a l.length c), (4, I (i : Int))] M [.blk b (.cells (List.toArray [I j]) 126)]
  obtain ⟨hi, hj, hj0, hcl⟩ := hok
  refine R_seq ?_
  refine R_seq ?_
  refine R_region ?_
  refine R_r (D_move rfl) ?_
  refine R_r (D_move rfl) ?_
  refine R_r (D_lenL Tryz.underlying31 rfl) ?_
  refine R_r (D_lt rfl rfl) ?_
  refine R_r (D_move rfl) ?_
  refine R_split 9 rfl (fun h1 => ?_) (fun h1 => ?_)
  ·
    have h1p := of_decide_eq_true h1
    refine R_r (D_move rfl) ?_
    refine R_o (E_call1 (o' := .cells (List.toArray [I j]) 126) (v := .bool (decide (0 ≤ j))) 0 rfl rfl rfl en30 (fun w hM hb hf => Ok_C b j M w hM hb hf ) ?_)
    refine R_r (D_pick true rfl rfl) ?_
    refine R_nil ?_
    refine R_cond rfl (fun h2 => ?_) (fun h2 => ?_)
    ·
      have h2p := of_decide_eq_true h2
      refine R_skip ?_
      refine R_seq ?_
      refine R_block ?_
      refine R_region ?_
      refine R_r (D_move rfl) ?_
      refine R_r (D_move rfl) ?_
      refine R_r (D_move rfl) ?_
      obtain ⟨b1, ob1, csb1, elb1, frb1, rfl, hmb1, hxb1⟩ := hka.at (i := i) (by first | omega | (simp; omega))
      obtain ⟨x2, hx2⟩ : ∃ e_, l[i]? = some e_ := ⟨_, List.getElem?_eq_getElem (by omega)⟩
      have hex2 := hxb1 i x2 hx2
      refine R_r (D_indexLn (i) Tryz.underlying31 Tryz.sizeOf66 rfl rfl (by first | rfl | omega) (by first | omega | (simp <;> omega))) ?_
      refine R_r (D_fieldAddr fa66_0 rfl) ?_
      refine R_r (D_load rfl (Has.mem hmb1) (Rd.elem0 (i := i) hex2 Tryz.isAgg9 rfl rfl)) ?_
      refine R_o (E_call1 (o' := .cells (List.toArray [I (addC (addC j 1) (x2.path.length : Int))]) 126) (v := .tuple #[]) 0 rfl rfl rfl en71 (fun w hM hb hf => Text_C b j x2.path M w hM hb hf (by omega) (by omega) (hsm _ (List.mem_of_getElem? hx2))) ?_)
      refine R_nil ?_
      refine R_region ?_
      refine R_r (D_move rfl) ?_
      refine R_r (D_add rfl rfl rfl (by omega) (by omega)) ?_
      refine R_r (D_assign rfl) ?_
      refine R_nil ?_
      exact R_back (i + 1, addC (addC j 1) (x2.path.length : Int)) (by show (i + 1) ≤ l.length ∧ (addC (addC j 1) (x2.path.length : Int)) ≤ 1000000 ∧ -4611686018427387904 ≤ (addC (addC j 1) (x2.path.length : Int)) ∧ cntC k l = cntC (addC (addC j 1) (x2.path.length : Int)) (l.drop (i + 1)); exact ⟨by omega, by have := addC_le (k := addC j 1) (n := (x2.path.length : Int)) (by omega); have := addC_le (k := j) (n := 1) (by omega); omega, addC_lo (by have := hsm _ (List.mem_of_getElem? hx2); omega) (addC_lo (by omega) hj0), cntC_step hcl hx2 h2p⟩) (by show l.length - (i + 1) < l.length - i; omega) (Env.sub_cons rfl <| Env.sub_cons rfl <| Env.sub_cons rfl <| Env.sub_nil _) rfl rfl
    ·
      have h2p := of_decide_eq_false h2
      refine R_exit rfl ?_
      refine R_fin0 rfl ?_
      exact ⟨rfl, rfl, by rw [cntC_stop hcl (by omega)]; try rfl⟩
  ·
    have h1p := of_decide_eq_false h1
    refine R_skipop rfl rfl rfl ?_
    refine R_skipop rfl rfl rfl ?_
    refine R_r (D_pick false rfl rfl) ?_
    refine R_nil ?_
    refine R_cond_f rfl ?_
    refine R_exit rfl ?_
    refine R_fin0 rfl ?_
    exact ⟨rfl, rfl, by rw [cntC_stop hcl (by omega)]; try rfl⟩

theorem Many_C (k : Int) (M : PMem) (w : World) (hM : Lies M w) : Ends Tryz.prog 28 [I k] w [] M (fun v M' H' => ∃ b, v = P_ b 0 ∧ M' = M ∧ H' = [.blk b (.cells (List.toArray [I k]) 126)]) := by
  refine Ends.enter (H := []) Tryz.func28 rfl Tryz.ntmps28 rfl (St.start hM) ?_
  refine R_seq ?_
  refine R_region ?_
  refine R_r (D_assign rfl) ?_
  refine R_nil ?_
  refine R_seq ?_
  refine R_region ?_
  refine R_r (D_move rfl) ?_
  refine R_r (D_build rfl (bd126_0 _)) ?_
  refine R_o (E_box [I k] rfl rfl (fun b1 => ?_))
  refine R_r (D_assign rfl) ?_
  refine R_nil ?_
  refine R_ret ?_
  refine R_fin1 rfl rfl ?_
  exact ⟨_, rfl, rfl, rfl⟩

def fitsB (x : Node) : Bool := decide (0 ≤ cntN 6000 x) && decide ((Node.check x).2 = 0)
theorem fits_wt {x : Node} (h : 0 ≤ cntN 6000 x) : Node.wtL x.kids ≤ 5999 := by
  have h1 := (cntN_wt x 6000 h).1
  have h2 := Node.wt_eq x
  omega

theorem fits_C (x : Node) (a : Option Addr) (c : Nat) (M : PMem) (w : World) (hM : Lies M w) (hc : x.kids.length ≤ c) (hkx : NdA M a x.kids) (hsx : x.Small) : Ends Tryz.prog 7 [NodeC.val (⟨x.name, x.value, x.marks, .slice a x.kids.length c⟩ : NodeC)] w [] M (fun v' M' H' => v' = .bool (fitsB x) ∧ M' = M ∧ H' = []) := by
  refine Ends.enter (H := []) Tryz.func7 rfl Tryz.ntmps7 rfl (St.start hM) ?_
  refine R_seq ?_
  refine R_region ?_
  refine R_o (E_box (NodeC.cells (⟨x.name, x.value, x.marks, .slice a x.kids.length c⟩ : NodeC)) rfl rfl (fun b1 => ?_))
  refine R_r (D_assign rfl) ?_
  refine R_nil ?_
  refine R_seq ?_
  refine R_region ?_
  refine R_o (E_callP rfl rfl en28 (fun w hM => Many_C 6000 M w hM) (fun vr2 Mr2 Hr2 hler2 hpr2 => ?_))
  obtain ⟨br2, rfl, hMMr2, rfl⟩ := hpr2
  have hMsr2 := hMMr2.symm; subst hMsr2
  refine R_r (D_assign rfl) ?_
  refine R_nil ?_
  refine R_seq ?_
  refine R_region ?_
  refine R_r (D_move rfl) ?_
  refine R_r (D_load rfl (Has.own 1 rfl) (rd30_NodeC_0 (⟨x.name, x.value, x.marks, .slice a x.kids.length c⟩ : NodeC))) ?_
  refine R_o (E_call1 (o' := .cells (List.toArray [I (cntN 6000 x)]) 126) (v := .tuple #[]) 0 rfl rfl rfl en29 (fun w hM hb hf => Node_C _ x rfl br2 6000 a c M w hM hb hf (by omega) (by omega) hsx (by omega) hkx) ?_)
  refine R_nil ?_
  refine R_seq ?_
  refine R_seq ?_
  refine R_region ?_
  refine R_r (D_move rfl) ?_
  refine R_o (E_call1 (o' := .cells (List.toArray [I (cntN 6000 x)]) 126) (v := .bool (decide (0 ≤ (cntN 6000 x)))) 0 rfl rfl rfl en30 (fun w hM hb hf => Ok_C br2 (cntN 6000 x) M w hM hb hf ) ?_)
  refine R_r (D_not rfl) ?_
  refine R_nil ?_
  refine R_cond rfl (fun h1 => ?_) (fun h1 => ?_)
  ·
    have h1p : ¬ (0 ≤ (cntN 6000 x)) := by simpa using h1
    refine R_seq ?_
    refine R_region ?_
    refine R_r (D_assign rfl) ?_
    refine R_nil ?_
    refine R_ret ?_
    refine R_drop (List.nil_sublist _) ?_
    refine R_fin1 rfl rfl ?_
    exact ⟨by rw [fitsB, show decide (0 ≤ cntN 6000 x) = false from by simpa using h1]; rfl, rfl, rfl⟩
  ·
    have h1p : (0 ≤ (cntN 6000 x)) := by simpa using h1
    have hw := fits_wt h1p
    refine R_skip ?_
    refine R_seq ?_
    refine R_region ?_
    refine R_r (D_load rfl (Has.own 1 rfl) (rd30_NodeC_0 (⟨x.name, x.value, x.marks, .slice a x.kids.length c⟩ : NodeC))) ?_
    refine R_o (E_callV (v := .tuple #[S ((Node.check x).1), I ((Node.check x).2)]) rfl rfl en31 (fun w hM => Check4_C x a c M w hM hc hkx (by omega)) ?_)
    refine R_r (D_move rfl) ?_
    refine R_r (D_extract rfl rfl) ?_
    refine R_r (D_extract rfl rfl) ?_
    refine R_r (D_assign rfl) ?_
    refine R_r (D_assign rfl) ?_
    refine R_nil ?_
    refine R_seq ?_
    refine R_region ?_
    refine R_r (D_move rfl) ?_
    refine R_r (D_eq rfl rfl) ?_
    refine R_r (D_assign rfl) ?_
    refine R_nil ?_
    refine R_ret ?_
    refine R_drop (List.nil_sublist _) ?_
    refine R_fin1 rfl rfl ?_
    exact ⟨by rw [fitsB, show decide (0 ≤ cntN 6000 x) = true from by simpa using h1]; rfl, rfl, rfl⟩

theorem few_C (l : List Change) (a : Option Addr) (c : Nat) (M : PMem) (w : World) (hM : Lies M w) (hc : l.length ≤ c) (hln : l.length ≤ 4611686018427387904) (hka : SlA M 71 (byEnc Change.cells) a l) (hsm : ∀ x ∈ l, x.path.length ≤ 4611686018427387904) : Ends Tryz.prog 8 [.slice a l.length c] w [] M (fun v' M' H' => v' = .bool (decide (0 ≤ cntC 6000 l)) ∧ M' = M ∧ H' = []) := by
  refine Ends.enter (H := []) Tryz.func8 rfl Tryz.ntmps8 rfl (St.start hM) ?_
  refine R_seq ?_
  refine R_region ?_
  refine R_r (D_assign rfl) ?_
  refine R_nil ?_
  refine R_seq ?_
  refine R_region ?_
  refine R_o (E_callP rfl rfl en28 (fun w hM => Many_C 6000 M w hM) (fun vr1 Mr1 Hr1 hler1 hpr1 => ?_))
  obtain ⟨br1, rfl, hMMr1, rfl⟩ := hpr1
  have hMsr1 := hMMr1.symm; subst hMsr1
  refine R_r (D_assign rfl) ?_
  refine R_nil ?_
  refine R_seq ?_
  refine R_region ?_
  refine R_r (D_move rfl) ?_
  refine R_r (D_move rfl) ?_
  refine R_o (E_call1 (o' := .cells (List.toArray [I (cntC 6000 l)]) 126) (v := .tuple #[]) 0 rfl rfl rfl en32 (fun w hM hb hf => ChangesN_C br1 6000 l a c M w hM hb hf (by omega) (by omega) (by omega) (by omega) hka hsm) ?_)
  refine R_nil ?_
  refine R_seq ?_
  refine R_region ?_
  refine R_r (D_move rfl) ?_
  refine R_o (E_call1 (o' := .cells (List.toArray [I (cntC 6000 l)]) 126) (v := .bool (decide (0 ≤ (cntC 6000 l)))) 0 rfl rfl rfl en30 (fun w hM hb hf => Ok_C br1 (cntC 6000 l) M w hM hb hf ) ?_)
  refine R_r (D_assign rfl) ?_
  refine R_nil ?_
  refine R_ret ?_
  refine R_drop (List.nil_sublist _) ?_
  refine R_fin1 rfl rfl ?_
  exact ⟨rfl, rfl, rfl⟩

theorem num_C (k : Int) (M : PMem) (w : World) (hM : Lies M w) : Ends Tryz.prog 13 [I k] w [] M (fun v' M' H' => v' = I k ∧ M' = M ∧ H' = []) := by
  refine Ends.enter (H := []) Tryz.func13 rfl Tryz.ntmps13 rfl (St.start hM) ?_
  refine R_seq ?_
  refine R_region ?_
  refine R_r (D_assign rfl) ?_
  refine R_nil ?_
  refine R_seq ?_
  refine R_region ?_
  refine R_r (D_move rfl) ?_
  refine R_r (D_assign rfl) ?_
  refine R_nil ?_
  refine R_ret ?_
  refine R_fin1 rfl rfl ?_
  exact ⟨rfl, rfl, rfl⟩

end Go.Proofs.YtgmomhdammdjgaaGreat
