/-
  The document's changes (twineref13), walked: a tree as its paths, a tree grown from paths, a list of changes applied. Conditions: names and paths within 2^30 bytes.
-/
import Derived.Test.YtgmomhdammdjgaaGreatRef4
set_option linter.unusedVariables false
set_option linter.unusedSimpArgs false
set_option maxRecDepth 20000
set_option maxHeartbeats 4000000
namespace Go.Proofs.YtgmomhdammdjgaaGreat
open Go Go.Proofs Go.RowKit

theorem en106 : ∀ (args : Array Value) (w : World), (callFunc 106 args).run Tryz.prog w = .ok (.enter 106 args) w := enters_fn Tryz.func106 (by kernel_rfl) rfl
theorem en79 : ∀ (args : Array Value) (w : World), (callFunc 79 args).run Tryz.prog w = .ok (.enter 79 args) w := enters_fn Tryz.func79 (by kernel_rfl) rfl
theorem bd99_0_1_2 (x0 : Str) (x1 : Val) (x2 : Marks) : Bd Tryz.prog 99 [(0, S x0), (1, Val.val x1), (2, Marks.val x2)] (Entry.val ⟨x0, x1, x2⟩) := fun w => by kernel_rfl
theorem bs94_1 (x0 : Entry) : Bs Tryz.prog 94 99 1 [(0, Entry.val x0)] (Entry.cells x0) := fun w => by kernel_rfl
theorem el99 : ElemOk Tryz.prog 99 40 104 := ElemOk.mk' (by kernel_rfl) (by omega)
theorem en36 : ∀ (args : Array Value) (w : World), (callFunc 36 args).run Tryz.prog w = .ok (.enter 36 args) w := enters_fn Tryz.func36 (by kernel_rfl) rfl
theorem bd24_ : Bd Tryz.prog 24 [] (Val.val Val.zero) := fun w => by kernel_rfl
theorem en39 : ∀ (args : Array Value) (w : World), (callFunc 39 args).run Tryz.prog w = .ok (.enter 39 args) w := enters_fn Tryz.func39 (by kernel_rfl) rfl
theorem fa99_0 : Fa Tryz.prog 99 0 0 := Fa.mk Tryz.underlying99 rfl rfl (fun w => ⟨0, Tryz.sizeOf9 w⟩)
theorem en80 : ∀ (args : Array Value) (w : World), (callFunc 80 args).run Tryz.prog w = .ok (.enter 80 args) w := enters_fn Tryz.func80 (by kernel_rfl) rfl
theorem fa99_1 : Fa Tryz.prog 99 1 1 := Fa.mk Tryz.underlying99 rfl rfl (fun w => ⟨34, Tryz.sizeOf24 w⟩)
theorem en37 : ∀ (args : Array Value) (w : World), (callFunc 37 args).run Tryz.prog w = .ok (.enter 37 args) w := enters_fn Tryz.func37 (by kernel_rfl) rfl
theorem fa66_0 : Fa Tryz.prog 66 0 0 := Fa.mk Tryz.underlying66 rfl rfl (fun w => ⟨0, Tryz.sizeOf9 w⟩)
theorem fa66_1 : Fa Tryz.prog 66 1 1 := Fa.mk Tryz.underlying66 rfl rfl (fun w => ⟨34, Tryz.sizeOf24 w⟩)
theorem fa66_2 : Fa Tryz.prog 66 2 36 := Fa.mk Tryz.underlying66 rfl rfl (fun w => ⟨34, Tryz.sizeOf24 w⟩)
theorem en35 : ∀ (args : Array Value) (w : World), (callFunc 35 args).run Tryz.prog w = .ok (.enter 35 args) w := enters_fn Tryz.func35 (by kernel_rfl) rfl
theorem en40 : ∀ (args : Array Value) (w : World), (callFunc 40 args).run Tryz.prog w = .ok (.enter 40 args) w := enters_fn Tryz.func40 (by kernel_rfl) rfl
theorem Below_C (p nm : Str) (M : PMem) (w : World) (hM : Lies M w) (hp : p.length ≤ 4294967296) (hn : nm.length ≤ 4294967296) : Ends Tryz.prog 106 [S p, S nm] w [] M (fun v' M' H' => v' = S (belowP p nm) ∧ M' = M ∧ H' = []) := by
  refine Ends.enter (H := []) Tryz.func106 rfl Tryz.ntmps106 rfl (St.start hM) ?_
  refine R_seq ?_
  refine R_region ?_
  refine R_r (D_assign rfl) ?_
  refine R_nil ?_
  refine R_seq ?_
  refine R_seq ?_
  refine R_region ?_
  refine R_r (D_move rfl) ?_
  refine R_r (D_eqS rfl rfl) ?_
  refine R_nil ?_
  refine R_cond rfl (fun h1 => ?_) (fun h1 => ?_)
  ·
    have h1p := of_decide_eq_true h1
    refine R_seq ?_
    refine R_region ?_
    refine R_r (D_move rfl) ?_
    refine R_r (D_assign rfl) ?_
    refine R_nil ?_
    refine R_ret ?_
    refine R_fin1 rfl rfl ?_
    exact ⟨by simp_all [belowP], rfl, rfl⟩
  ·
    have h1p := of_decide_eq_false h1
    refine R_skip ?_
    refine R_seq ?_
    refine R_region ?_
    refine R_r (D_move rfl) ?_
    refine R_r (D_addS rfl rfl (by simp; omega)) ?_
    refine R_r (D_move rfl) ?_
    refine R_r (D_addS rfl rfl (by simp; omega)) ?_
    refine R_r (D_assign rfl) ?_
    refine R_nil ?_
    refine R_ret ?_
    refine R_fin1 rfl rfl ?_
    exact ⟨by simp_all [belowP], rfl, rfl⟩

theorem flat_S (x : Node) (a : Option Addr) (c : Nat) (p : Str) (M : PMem) (w : World) (hM : Lies M w) (ih : ∀ y : Node, y.size < x.size → ∀ (a : Option Addr) (c : Nat) (p : Str) (M : PMem) (w : World) (hM : Lies M w), y.kids.length ≤ c → NdA M a y.kids → p.length + Node.wtL y.kids ≤ 1073741824 → Ends Tryz.prog 79 [NodeC.val ⟨y.name, y.value, y.marks, .slice a y.kids.length c⟩, S p] w [] M (fun v M' H' => H' = [] ∧ EntriesAt M' v (y.flat p))) (hc : x.kids.length ≤ c) (hkx : NdA M a x.kids) (hp : p.length + Node.wtL x.kids ≤ 1073741824) : Ends Tryz.prog 79 [NodeC.val (⟨x.name, x.value, x.marks, .slice a x.kids.length c⟩ : NodeC), S p] w [] M (fun v M' H' => H' = [] ∧ EntriesAt M' v (x.flat p)) := by
  have hwk := Node.wt_kids (l := x.kids)
  refine Ends.enter (H := []) Tryz.func79 rfl Tryz.ntmps79 rfl (St.start hM) ?_
  refine R_seq ?_
  refine R_region ?_
  refine R_o (E_box (NodeC.cells (⟨x.name, x.value, x.marks, .slice a x.kids.length c⟩ : NodeC)) rfl rfl (fun b1 => ?_))
  refine R_r (D_assign rfl) ?_
  refine R_nil ?_
  refine R_seq ?_
  refine R_region ?_
  refine R_r (D_move rfl) ?_
  refine R_r (D_fieldAddr fa30_1 rfl) ?_
  refine R_r (D_load rfl (Has.own 0 rfl) (rd24_NodeC_1 (⟨x.name, x.value, x.marks, .slice a x.kids.length c⟩ : NodeC))) ?_
  refine R_r (D_fieldAddr fa30_2 rfl) ?_
  refine R_r (D_load rfl (Has.own 0 rfl) (rd27_NodeC_36 (⟨x.name, x.value, x.marks, .slice a x.kids.length c⟩ : NodeC))) ?_
  refine R_r (D_build rfl (bd99_0_1_2 _ _ _)) ?_
  refine R_o (E_buildSlice (ps := [(0, .tmp 12)]) (vs := [(0, Entry.val (⟨p, x.value, x.marks⟩ : Entry))]) (cs := (Entry.cells (⟨p, x.value, x.marks⟩ : Entry))) rfl (bs94_1 _) (fun b2 => ?_))
  refine R_r (D_assign rfl) ?_
  refine R_nil ?_
  refine R_seq ?_
  refine R_seq ?_
  refine R_region ?_
  refine R_r (D_assign rfl) ?_
  refine R_nil ?_
  refine R_block ?_
  refine R_rowblk (el := 99) 40 1 rfl (by unfold maxLen; omega) ?_
  refine R_loop (σ := (Value) × (List Entry) × (Nat) × (PMem)) (fun gs => ([(1, S p), (2, P_ b1 0), (5, gs.1), (6, I (gs.2.2.1 : Int))], gs.2.2.2, [.row gs.1 99 40 gs.2.1.length (gs.2.1.flatMap Entry.cells), .blk b1 (.cells (List.toArray (NodeC.cells (⟨x.name, x.value, x.marks, .slice a x.kids.length c⟩ : NodeC))) 30)])) (fun gs => gs.2.2.1 ≤ x.kids.length ∧ PMem.le M gs.2.2.2 ∧ gs.2.1 = ⟨p, x.value, x.marks⟩ :: Node.flatL (x.kids.take gs.2.2.1) p) (fun gs => x.kids.length - gs.2.2.1) (.slice (some ⟨b2, 0, none⟩) 1 1, [⟨p, x.value, x.marks⟩], 0, M) ?_ (Env.sub_cons rfl <| Env.sub_cons rfl <| Env.sub_cons rfl <| Env.sub_cons rfl <| Env.sub_nil _) rfl rfl ?_
  · show 0 ≤ x.kids.length ∧ PMem.le M M ∧ ([⟨p, x.value, x.marks⟩]) = ⟨p, x.value, x.marks⟩ :: Node.flatL (x.kids.take 0) p; exact ⟨by omega, PMem.le_refl _, by simp [Node.flatL]⟩
  rintro ⟨v, l, i, Mv⟩ hok
  replace hok : i ≤ x.kids.length ∧ PMem.le M Mv ∧ l = ⟨p, x.value, x.marks⟩ :: Node.flatL (x.kids.take i) p := hok
  show Cx.R _ _ _ [(1, S p), (2, P_ b1 0), (5, v), (6, I (i : Int))] Mv [.row v 99 40 l.length (l.flatMap Entry.cells), .blk b1 (.cells (List.toArray (NodeC.cells (⟨x.name, x.value, x.marks, .slice a x.kids.length c⟩ : NodeC))) 30)]
  obtain ⟨hi, hleV, hl⟩ := hok
  have q3 := NdA.le hkx hleV
  refine R_seq ?_
  refine R_seq ?_
  refine R_region ?_
  refine R_r (D_move rfl) ?_
  refine R_r (D_fieldAddr fa30_3 rfl) ?_
  refine R_r (D_load rfl (Has.own 1 rfl) (Rd.one Tryz.isAgg28 rfl)) ?_
  refine R_r (D_lenL Tryz.underlying28 rfl) ?_
  refine R_r (D_lt rfl rfl) ?_
  refine R_nil ?_
  refine R_cond rfl (fun h1 => ?_) (fun h1 => ?_)
  ·
    have h1p := of_decide_eq_true h1
    refine R_skip ?_
    refine R_seq ?_
    refine R_block ?_
    refine Y_region [.blk b1 (.cells (List.toArray (NodeC.cells (⟨x.name, x.value, x.marks, .slice a x.kids.length c⟩ : NodeC))) 30)] mixed ?_
    refine Y_r 0 rfl (D_move rfl) ?_
    refine Y_r 1 rfl (D_fieldAddr fa30_3 rfl) ?_
    refine Y_r 2 rfl (D_load rfl (Has.own 0 rfl) (Rd.one Tryz.isAgg28 rfl)) ?_
    refine Y_r 3 rfl (D_move rfl) ?_
    obtain ⟨b4, ob4, csb4, elb4, frb4, rfl, hmb4, hxb4⟩ := q3.at (i := i) (by first | omega | (simp; omega))
    obtain ⟨x5, hx5⟩ : ∃ e_, x.kids[i]? = some e_ := ⟨_, List.getElem?_eq_getElem (by omega)⟩
    obtain ⟨ksx5, hex5, hkx5⟩ := (hxb4 i x5 hx5).open
    obtain ⟨ax5, cx5, rfl, hcx5, hkx5⟩ := hkx5.sl
    refine Y_r 4 rfl (D_indexLn (i) Tryz.underlying28 Tryz.sizeOf30 rfl rfl (by first | rfl | omega) (by first | omega | (simp <;> omega))) ?_
    refine Y_r 5 rfl (D_load rfl (Has.mem hmb4) (Rd.elemA (i := i) hex5 Tryz.underlying30 rfl inf30 rfl)) ?_
    refine Y_r 6 rfl (D_move rfl) ?_
    refine Y_r 7 rfl (D_fieldAddr fa30_3 rfl) ?_
    refine Y_r 8 rfl (D_load rfl (Has.own 0 rfl) (Rd.one Tryz.isAgg28 rfl)) ?_
    refine Y_r 9 rfl (D_move rfl) ?_
    refine Y_r 10 rfl (D_indexLn (i) Tryz.underlying28 Tryz.sizeOf30 rfl rfl (by first | rfl | omega) (by first | omega | (simp <;> omega))) ?_
    refine Y_r 11 rfl (D_fieldAddr fa30_0 rfl) ?_
    refine Y_r 12 rfl (D_load rfl (Has.mem hmb4) (Rd.elem0 (i := i) hex5 Tryz.isAgg9 rfl rfl)) ?_
    refine Y_o 13 rfl (E_callV (v := S (belowP p x5.name)) rfl rfl en106 (fun w hM => Below_C p x5.name Mv w hM (by omega) (by have := Node.wt_mem (List.mem_of_getElem? hx5); have := Node.wt_eq x5; omega)) ?_) (PMem.le_refl _) (fun _ h => List.Sublist.subset (.cons _ (.cons_cons _ (.slnil))) h)
    refine Y_go _ (PMem.le_refl _) (fun _ h => List.Sublist.subset (.cons _ (.cons_cons _ (.slnil))) h) (fun _ h => h) ?_
    refine Y_o 14 rfl (E_callP rfl rfl en79 (fun w hM => ih x5 (Node.size_kid (List.mem_of_getElem? hx5)) ax5 cx5 (belowP p x5.name) Mv w hM (by omega) hkx5 (by have := Node.wt_mem (List.mem_of_getElem? hx5); have := Node.wt_eq x5; have := belowP_len p x5.name; omega)) (fun vr6 Mr6 Hr6 hler6 hpr6 => ?_)) (PMem.le_refl _) (fun _ h => List.Sublist.subset (.cons _ (.cons_cons _ (.slnil))) h)
    have q7 := NdA.le q3 hler6
    have q8 := hler6 _ _ hmb4
    have q9 := fun i x h => NodeAt.le hler6 (hxb4 i x h)
    have q10 := NdA.le hkx5 hler6
    obtain ⟨rfl, hpr6⟩ := hpr6
    obtain ⟨ar6, cr6, rfl, hcr6, hsr6⟩ := hpr6.op
    refine Y_go _ hler6 (fun _ h => List.Sublist.subset (.cons _ (.cons_cons _ (.slnil))) h) (fun _ h => h) ?_
    obtain ⟨b11, ob11, csb11, elb11, frb11, rfl, hmb11, hxb11⟩ := hsr6.at (i := 0) (by exact Node.flat_pos _ _)
    refine Y_o 15 rfl (E_append (news := (x5.flat (belowP p x5.name)).flatMap Entry.cells) (m := (x5.flat (belowP p x5.name)).length) 0 Tryz.underlying94 el99 rfl rfl rfl (Has.mem hmb11) (chunks_flat Entry.cells 40 (fun _ => rfl) _ _ _ hxb11) (len_flat (enc := Entry.cells) (n := 40) (fun _ => rfl) _) (ones_flat ones_Entry _) (by unfold maxLen; have h1 := Node.flatL_room p hx5; have h2 := congrArg List.length hl; rw [List.length_cons] at h2; omega) (by have h1 := Node.flatL_room p hx5; have h2 := congrArg List.length hl; rw [List.length_cons] at h2; omega) (fun v12 hv12 => ?_)) (PMem.le_refl _) (fun _ h => List.Sublist.subset (.cons _ (.cons_cons _ (.slnil))) h)
    refine Y_go _ (PMem.le_refl _) (fun _ h => List.Sublist.subset (.cons _ (.cons_cons _ (.slnil))) h) (fun _ h => h) ?_
    refine Y_r 16 rfl (D_assign rfl) ?_
    refine Y_nil ?_ (PMem.le_refl _) (fun _ h => List.Sublist.subset (.cons _ (.cons_cons _ (.slnil))) h)
    refine R_region ?_
    refine R_r (D_move rfl) ?_
    refine R_r (D_add rfl rfl rfl (by omega) (by omega)) ?_
    refine R_r (D_assign rfl) ?_
    refine R_nil ?_
    exact R_back (v12, l ++ (x5.flat (belowP p x5.name)), i + 1, Mr6) (by show (i + 1) ≤ x.kids.length ∧ PMem.le M Mr6 ∧ (l ++ (x5.flat (belowP p x5.name))) = ⟨p, x.value, x.marks⟩ :: Node.flatL (x.kids.take (i + 1)) p; refine ⟨by omega, PMem.le_trans hleV (by assumption), ?_⟩; rw [Node.flatL_take p (by assumption), hl]; simp) (by show x.kids.length - (i + 1) < x.kids.length - i; omega) (Env.sub_cons rfl <| Env.sub_cons rfl <| Env.sub_cons rfl <| Env.sub_cons rfl <| Env.sub_nil _) rfl (by simp)
  ·
    have h1p := of_decide_eq_false h1
    refine R_exit rfl ?_
    refine R_seq ?_
    refine R_region ?_
    refine R_r (D_move rfl) ?_
    refine R_r (D_assign rfl) ?_
    refine R_nil ?_
    refine R_ret ?_
    refine R_freezeRow (fun M13 hleM13 hrowM13 => ?_)
    have q14 := NdA.le q3 hleM13
    have hz := (hrowM13.sla (l := l) (enc := Entry.cells) (fun _ => rfl) (by omega))
    refine R_drop (List.nil_sublist _) ?_
    refine R_fin1 rfl rfl ?_
    rw [List.take_of_length_le (by omega)] at hl
    rw [Node.flat_eq, ← hl]
    obtain ⟨az, cz, rfl, hcz, hsz⟩ := hz
    exact ⟨rfl, hsz.sl hcz⟩

theorem flat_C : ∀ (n : Nat) (x : Node), x.size = n → ∀ (a : Option Addr) (c : Nat) (p : Str) (M : PMem) (w : World) (hM : Lies M w), x.kids.length ≤ c → NdA M a x.kids → p.length + Node.wtL x.kids ≤ 1073741824 → Ends Tryz.prog 79 [NodeC.val ⟨x.name, x.value, x.marks, .slice a x.kids.length c⟩, S p] w [] M (fun v M' H' => H' = [] ∧ EntriesAt M' v (x.flat p)) := by
  intro n
  induction n using Nat.strongRecOn with
  | _ n IH => exact fun x hx a c p M w hM hc hk hp => flat_S x a c p M w hM (fun y hy a c p M w hM h1 h2 h3 => IH y.size (by omega) y rfl a c p M w hM h1 h2 h3) hc hk hp

theorem Flat_C (x : Node) (a : Option Addr) (c : Nat) (M : PMem) (w : World) (hM : Lies M w) (hc : x.kids.length ≤ c) (hkx : NdA M a x.kids) (hwl : Node.wtL x.kids ≤ 1073741824) : Ends Tryz.prog 36 [NodeC.val (⟨x.name, x.value, x.marks, .slice a x.kids.length c⟩ : NodeC)] w [] M (fun v M' H' => H' = [] ∧ EntriesAt M' v (x.flat [])) := by
  refine Ends.enter (H := []) Tryz.func36 rfl Tryz.ntmps36 rfl (St.start hM) ?_
  refine R_seq ?_
  refine R_region ?_
  refine R_o (E_box (NodeC.cells (⟨x.name, x.value, x.marks, .slice a x.kids.length c⟩ : NodeC)) rfl rfl (fun b1 => ?_))
  refine R_r (D_assign rfl) ?_
  refine R_nil ?_
  refine R_seq ?_
  refine R_region ?_
  refine R_r (D_load rfl (Has.own 0 rfl) (rd30_NodeC_0 (⟨x.name, x.value, x.marks, .slice a x.kids.length c⟩ : NodeC))) ?_
  refine R_o (E_callP rfl rfl en79 (fun w hM => flat_C _ x rfl a c ([] : Str) M w hM (by omega) hkx (by simpa using hwl)) (fun vr2 Mr2 Hr2 hler2 hpr2 => ?_))
  have q3 := NdA.le hkx hler2
  obtain ⟨rfl, hpr2⟩ := hpr2
  obtain ⟨ar2, cr2, rfl, hcr2, hsr2⟩ := hpr2.op
  refine R_r (D_assign rfl) ?_
  refine R_nil ?_
  refine R_ret ?_
  refine R_drop (List.nil_sublist _) ?_
  refine R_fin1 rfl rfl ?_
  exact ⟨rfl, hsr2.sl (by omega)⟩

theorem Right13_C (v : Val) (M : PMem) (w : World) (hM : Lies M w) : Ends Tryz.prog 39 [Val.val v] w [] M (fun v' M' H' => v' = .bool v.okN ∧ M' = M ∧ H' = []) := by
  refine Ends.enter (H := []) Tryz.func39 rfl Tryz.ntmps39 rfl (St.start hM) ?_
  refine R_seq ?_
  refine R_region ?_
  refine R_o (E_box (Val.cells v) rfl rfl (fun b1 => ?_))
  refine R_r (D_assign rfl) ?_
  refine R_nil ?_
  refine R_seq ?_
  refine R_join [(0, Val.val v), (1, P_ b1 0), (2, .bool ((decide (v = Val.zero)) || ((!decide (v.kind = 0)) && (Val.ok v))))] (M' := M) (H' := [.blk b1 (.cells (List.toArray (Val.cells v)) 24)]) ?_ ?_
  ·
    refine R_region ?_
    refine R_r (D_load rfl (Has.own 0 rfl) (rd24_Val_0 v)) ?_
    refine R_r (D_build rfl bd24_) ?_
    refine R_r (D_eqA eg24 rfl rfl (eqa24 _ _)) ?_
    refine R_r (D_move rfl) ?_
    refine R_split 6 rfl (fun h1 => ?_) (fun h1 => ?_)
    ·
      have h1p := of_decide_eq_true h1
      refine R_skipop rfl rfl rfl ?_
      refine R_skipop rfl rfl rfl ?_
      refine R_skipop rfl rfl rfl ?_
      refine R_skipop rfl rfl rfl ?_
      refine R_skipop rfl rfl rfl ?_
      refine R_skipop rfl rfl rfl ?_
      refine R_skipop rfl rfl rfl ?_
      refine R_r (D_pick true rfl rfl) ?_
      refine R_r (D_assign rfl) ?_
      refine R_nil ?_
      exact R_at (Env.sub_cons rfl <| Env.sub_cons rfl <| Env.sub_cons (by first | (show some (Value.bool _) = some (Value.bool _); simp only [h1, Bool.true_and, Bool.false_and, Bool.true_or, Bool.false_or, Bool.and_true, Bool.and_false, Bool.or_true, Bool.or_false]; done) | (show some (Value.bool _) = some (Value.bool _); (try rw [h1]); first | done | rfl) | simp [h1, Env.find]) <| Env.sub_nil _)
    ·
      have h1p := of_decide_eq_false h1
      refine R_r (D_fieldAddr fa24_0 rfl) ?_
      refine R_r (D_load rfl (Has.own 0 rfl) (Rd.one Tryz.isAgg3 rfl)) ?_
      refine R_r (D_ne rfl rfl) ?_
      refine R_r (D_move rfl) ?_
      refine R_split 10 rfl (fun h2 => ?_) (fun h2 => ?_)
      ·
        have h2p : ¬ (v.kind = 0) := by simpa using h2
        refine R_r (D_load rfl (Has.own 0 rfl) (rd24_Val_0 v)) ?_
        refine R_o (E_callV (v := .bool (Val.ok v)) rfl rfl en83 (fun w hM => Right_C v M w hM ) ?_)
        refine R_r (D_pick true rfl rfl) ?_
        refine R_r (D_pick false rfl rfl) ?_
        refine R_r (D_assign rfl) ?_
        refine R_nil ?_
        exact R_at (Env.sub_cons rfl <| Env.sub_cons rfl <| Env.sub_cons (by first | (show some (Value.bool _) = some (Value.bool _); simp only [h1, h2, Bool.true_and, Bool.false_and, Bool.true_or, Bool.false_or, Bool.and_true, Bool.and_false, Bool.or_true, Bool.or_false]; done) | (show some (Value.bool _) = some (Value.bool _); (try rw [h1]); (try rw [h2]); first | done | rfl) | simp [h1, h2, Env.find]) <| Env.sub_nil _)
      ·
        have h2p : (v.kind = 0) := by simpa using h2
        refine R_skipop rfl rfl rfl ?_
        refine R_skipop rfl rfl rfl ?_
        refine R_r (D_pick false rfl rfl) ?_
        refine R_r (D_pick false rfl rfl) ?_
        refine R_r (D_assign rfl) ?_
        refine R_nil ?_
        exact R_at (Env.sub_cons rfl <| Env.sub_cons rfl <| Env.sub_cons (by first | (show some (Value.bool _) = some (Value.bool _); simp only [h1, h2, Bool.true_and, Bool.false_and, Bool.true_or, Bool.false_or, Bool.and_true, Bool.and_false, Bool.or_true, Bool.or_false]; done) | (show some (Value.bool _) = some (Value.bool _); (try rw [h1]); (try rw [h2]); first | done | rfl) | simp [h1, h2, Env.find]) <| Env.sub_nil _)
  ·
    refine R_ret ?_
    refine R_drop (List.nil_sublist _) ?_
    refine R_fin1 rfl rfl ?_
    exact ⟨rfl, rfl, rfl⟩

theorem find_C (l : List Entry) (a : Option Addr) (c : Nat) (p : Str) (M : PMem) (w : World) (hM : Lies M w) (hc : l.length ≤ c) (hsl : SlA M 40 (byEnc Entry.cells) a l) (hn : l.length ≤ 4294967296) (hpl : ∀ e ∈ l, e.path.length ≤ 1073741824) : Ends Tryz.prog 80 [.slice a l.length c, S p] w [] M (fun v' M' H' => v' = I (findP l p) ∧ M' = M ∧ H' = []) := by
  refine Ends.enter (H := []) Tryz.func80 rfl Tryz.ntmps80 rfl (St.start hM) ?_
  refine R_seq ?_
  refine R_region ?_
  refine R_r (D_assign rfl) ?_
  refine R_nil ?_
  refine R_seq ?_
  refine R_seq ?_
  refine R_region ?_
  refine R_r (D_assign rfl) ?_
  refine R_nil ?_
  refine R_block ?_
  refine R_loop (σ := (Nat)) (fun gs => ([(0, .slice a l.length c), (1, S p), (5, I (gs : Int))], M, [])) (fun gs => gs ≤ l.length ∧ ∀ x ∈ l.take gs, x.path ≠ p) (fun gs => l.length - gs) 0 ?_ (Env.sub_cons rfl <| Env.sub_cons rfl <| Env.sub_cons rfl <| Env.sub_nil _) rfl rfl ?_
  · show 0 ≤ l.length ∧ ∀ x ∈ l.take 0, x.path ≠ p; exact ⟨by omega, by simp⟩
  rintro i hok
  replace hok : i ≤ l.length ∧ ∀ x ∈ l.take i, x.path ≠ p := hok
  show Cx.R _ _ _ [(0, .slice a l.length c), (1, S p), (5, I (i : Int))] M []
  obtain ⟨hi, hne⟩ := hok
  refine R_seq ?_
  refine R_seq ?_
  refine R_region ?_
  refine R_r (D_move rfl) ?_
  refine R_r (D_move rfl) ?_
  refine R_r (D_lenL Tryz.underlying94 rfl) ?_
  refine R_r (D_lt rfl rfl) ?_
  refine R_nil ?_
  refine R_cond rfl (fun h1 => ?_) (fun h1 => ?_)
  ·
    have h1p := of_decide_eq_true h1
    refine R_skip ?_
    refine R_seq ?_
    refine R_block ?_
    refine R_seq ?_
    refine R_region ?_
    refine R_r (D_move rfl) ?_
    refine R_r (D_move rfl) ?_
    obtain ⟨b1, ob1, csb1, elb1, frb1, rfl, hmb1, hxb1⟩ := hsl.at (i := i) (by first | omega | (simp; omega))
    obtain ⟨x2, hx2⟩ : ∃ e_, l[i]? = some e_ := ⟨_, List.getElem?_eq_getElem (by omega)⟩
    have hex2 := hxb1 i x2 hx2
    refine R_r (D_indexLn (i) Tryz.underlying94 Tryz.sizeOf99 rfl rfl (by first | rfl | omega) (by first | omega | (simp <;> omega))) ?_
    refine R_r (D_fieldAddr fa99_0 rfl) ?_
    refine R_r (D_load rfl (Has.mem hmb1) (Rd.elem0 (i := i) hex2 Tryz.isAgg9 rfl rfl)) ?_
    refine R_r (D_move rfl) ?_
    refine R_r (D_eqS rfl rfl) ?_
    refine R_nil ?_
    refine R_cond rfl (fun h2 => ?_) (fun h2 => ?_)
    ·
      have h2p := of_decide_eq_true h2
      refine R_seq ?_
      refine R_region ?_
      refine R_r (D_move rfl) ?_
      refine R_r (D_assign rfl) ?_
      refine R_nil ?_
      refine R_ret ?_
      refine R_fin1 rfl rfl ?_
      exact ⟨by rw [findP_at hne (by assumption) h2p], rfl, rfl⟩
    ·
      have h2p := of_decide_eq_false h2
      refine R_skip ?_
      refine R_region ?_
      refine R_r (D_move rfl) ?_
      refine R_r (D_add rfl rfl rfl (by omega) (by omega)) ?_
      refine R_r (D_assign rfl) ?_
      refine R_nil ?_
      exact R_back (i + 1) (by show (i + 1) ≤ l.length ∧ ∀ x ∈ l.take (i + 1), x.path ≠ p; exact ⟨by omega, take_ne hne (by assumption) h2p⟩) (by show l.length - (i + 1) < l.length - i; omega) (Env.sub_cons rfl <| Env.sub_cons rfl <| Env.sub_cons rfl <| Env.sub_nil _) rfl rfl
  ·
    have h1p := of_decide_eq_false h1
    refine R_exit rfl ?_
    refine R_seq ?_
    refine R_region ?_
    refine R_r (D_assign rfl) ?_
    refine R_nil ?_
    refine R_ret ?_
    refine R_fin1 rfl rfl ?_
    exact ⟨by rw [List.take_of_length_le (by omega)] at hne; rw [findP_none hne], rfl, rfl⟩

theorem At13_C (x : Node) (a : Option Addr) (c : Nat) (p : Str) (M : PMem) (w : World) (hM : Lies M w) (hc : x.kids.length ≤ c) (hkx : NdA M a x.kids) (hwl : Node.wtL x.kids ≤ 1073741823) : Ends Tryz.prog 37 [NodeC.val (⟨x.name, x.value, x.marks, .slice a x.kids.length c⟩ : NodeC), S p] w [] M (fun v' M' H' => v' = Val.val (valP (x.flat []) p) ∧ M' = M ∧ H' = []) := by
  have hfn := Node.flat_room hwl
  have hpl := Node.flat_paths0 hwl
  have hfl := findP_le (x.flat []) p
  refine Ends.enter (H := []) Tryz.func37 rfl Tryz.ntmps37 rfl (St.start hM) ?_
  refine R_seq ?_
  refine R_region ?_
  refine R_o (E_box (NodeC.cells (⟨x.name, x.value, x.marks, .slice a x.kids.length c⟩ : NodeC)) rfl rfl (fun b1 => ?_))
  refine R_o (E_alloc (Val.cells Val.zero) Tryz.zeroValue24 rfl (fun b2 => ?_))
  refine R_nil ?_
  refine R_seq ?_
  refine R_region ?_
  refine R_r (D_load rfl (Has.own 1 rfl) (rd30_NodeC_0 (⟨x.name, x.value, x.marks, .slice a x.kids.length c⟩ : NodeC))) ?_
  refine R_o (E_callP rfl rfl en36 (fun w hM => Flat_C x a c M w hM (by omega) hkx (by omega)) (fun vr3 Mr3 Hr3 hler3 hpr3 => ?_))
  have q4 := NdA.le hkx hler3
  obtain ⟨rfl, hpr3⟩ := hpr3
  obtain ⟨ar3, cr3, rfl, hcr3, hsr3⟩ := hpr3.op
  refine R_r (D_assign rfl) ?_
  refine R_nil ?_
  refine R_seq ?_
  refine R_region ?_
  refine R_r (D_move rfl) ?_
  refine R_r (D_move rfl) ?_
  refine R_o (E_callV (v := I (findP (x.flat []) p)) rfl rfl en80 (fun w hM => find_C (x.flat []) ar3 cr3 p Mr3 w hM (by omega) hsr3 (by omega) hpl) ?_)
  refine R_r (D_assign rfl) ?_
  refine R_nil ?_
  refine R_seq ?_
  refine R_seq ?_
  refine R_region ?_
  refine R_r (D_move rfl) ?_
  refine R_r (D_lt rfl rfl) ?_
  refine R_nil ?_
  refine R_cond rfl (fun h1 => ?_) (fun h1 => ?_)
  ·
    have h1p := of_decide_eq_true h1
    refine R_seq ?_
    refine R_region ?_
    refine R_r (D_build rfl bd24_) ?_
    refine R_o (E_store (cs' := (Val.cells Val.zero)) 0 rfl rfl rfl (Wr.agg Tryz.sizeOf24 rfl rfl rfl rfl) ?_)
    refine R_nil ?_
    refine R_ret ?_
    refine R_less (M := M) (PMem.le_refl _) hler3 ?_
    refine R_finC rfl rfl (Has.own 0 rfl) (rd24_Val_0 Val.zero) [] (by simp) ?_
    exact ⟨by rw [valP_none h1p], rfl, rfl⟩
  ·
    have h1p := of_decide_eq_false h1
    refine R_skip ?_
    refine R_seq ?_
    refine R_region ?_
    refine R_r (D_move rfl) ?_
    refine R_r (D_move rfl) ?_
    obtain ⟨b5, ob5, csb5, elb5, frb5, rfl, hmb5, hxb5⟩ := hsr3.at (i := (findP (x.flat []) p).toNat) (by first | omega | (simp; omega))
    obtain ⟨x6, hx6⟩ : ∃ e_, (x.flat [])[(findP (x.flat []) p).toNat]? = some e_ := ⟨_, List.getElem?_eq_getElem (by omega)⟩
    have hex6 := hxb5 ((findP (x.flat []) p).toNat) x6 hx6
    refine R_r (D_indexLn ((findP (x.flat []) p).toNat) Tryz.underlying94 Tryz.sizeOf99 rfl rfl (by first | rfl | omega) (by first | omega | (simp <;> omega))) ?_
    refine R_r (D_fieldAddr fa99_1 rfl) ?_
    refine R_r (D_load rfl (Has.mem hmb5) (Rd.elemP (i := ((findP (x.flat []) p).toNat)) (k := 1) hex6 Tryz.underlying24 rfl inf24 rfl rfl rfl)) ?_
    refine R_o (E_store (cs' := (Val.cells x6.value)) 0 rfl rfl rfl (Wr.agg Tryz.sizeOf24 rfl rfl rfl rfl) ?_)
    refine R_nil ?_
    refine R_ret ?_
    refine R_less (M := M) (PMem.le_refl _) hler3 ?_
    refine R_finC rfl rfl (Has.own 0 rfl) (rd24_Val_0 x6.value) [] (by simp) ?_
    exact ⟨by rw [valP_some h1p (by assumption)], rfl, rfl⟩

theorem rises_C (l : List Change) (a : Option Addr) (c : Nat) (M : PMem) (w : World) (hM : Lies M w) (hc : l.length ≤ c) (hsl : SlA M 71 (byEnc Change.cells) a l) (hn : l.length ≤ 1073741824) (hpl : ∀ e ∈ l, e.path.length ≤ 1073741824) : Ends Tryz.prog 35 [.slice a l.length c] w [] M (fun v' M' H' => v' = .bool (risesL l false []) ∧ M' = M ∧ H' = []) := by
  refine Ends.enter (H := []) Tryz.func35 rfl Tryz.ntmps35 rfl (St.start hM) ?_
  refine R_seq ?_
  refine R_region ?_
  refine R_r (D_assign rfl) ?_
  refine R_nil ?_
  refine R_seq ?_
  refine R_seq ?_
  refine R_region ?_
  refine R_r (D_assign rfl) ?_
  refine R_nil ?_
  refine R_block ?_
  refine R_loop (σ := (Nat)) (fun gs => ([(0, .slice a l.length c), (3, I (gs : Int))], M, [])) (fun gs => gs ≤ l.length ∧ risesL l false [] = risesL (l.drop gs) (decide (0 < (gs : Int))) (pvC l gs)) (fun gs => l.length - gs) 0 ?_ (Env.sub_cons rfl <| Env.sub_cons rfl <| Env.sub_nil _) rfl rfl ?_
  · show 0 ≤ l.length ∧ risesL l false [] = risesL (l.drop 0) (decide (0 < (0 : Int))) (pvC l 0); exact ⟨by omega, risesL_start l⟩
  rintro i hok
  replace hok : i ≤ l.length ∧ risesL l false [] = risesL (l.drop i) (decide (0 < (i : Int))) (pvC l i) := hok
  show Cx.R _ _ _ [(0, .slice a l.length c), (3, I (i : Int))] M []
  obtain ⟨hi, hr⟩ := hok
  refine R_seq ?_
  refine R_seq ?_
  refine R_region ?_
  refine R_r (D_move rfl) ?_
  refine R_r (D_move rfl) ?_
  refine R_r (D_lenL Tryz.underlying31 rfl) ?_
  refine R_r (D_lt rfl rfl) ?_
  refine R_nil ?_
  refine R_cond rfl (fun h1 => ?_) (fun h1 => ?_)
  ·
    have h1p := of_decide_eq_true h1
    refine R_skip ?_
    refine R_seq ?_
    refine R_block ?_
    refine R_seq ?_
    obtain ⟨b1, ob1, csb1, elb1, frb1, rfl, hmb1, hxb1⟩ := hsl.at (i := i) (by first | omega | (simp; omega))
    obtain ⟨x2, hx2⟩ : ∃ e_, l[i]? = some e_ := ⟨_, List.getElem?_eq_getElem (by omega)⟩
    have hex2 := hxb1 i x2 hx2
    obtain ⟨x3, hx3⟩ : ∃ e_, l[i - 1]? = some e_ := ⟨_, List.getElem?_eq_getElem (by omega)⟩
    have hex3 := hxb1 (i - 1) x3 hx3
    refine R_join [(0, .slice (some ⟨b1, ob1, none⟩) l.length c), (3, I (i : Int)), (4, I (i : Int)), (5, .slice (some ⟨b1, ob1, none⟩) l.length c), (6, I (l.length : Int)), (7, .bool (decide ((i : Int) < (l.length : Int)))), (48, .bool (((!(decide ((splitP x2.path 64).2 = 0))) || (decide (x2.old = x2.new))) || ((decide (0 < (i : Int))) && (decide (0 ≤ (cmpP x3.path x2.path))))))] (M' := M) (H' := []) ?_ ?_
    ·
      refine Y_region [] mixed ?_
      refine Y_r 0 rfl (D_move rfl) ?_
      refine Y_r 1 rfl (D_move rfl) ?_
      refine Y_r 2 rfl (D_indexLn (i) Tryz.underlying31 Tryz.sizeOf66 rfl rfl (by first | rfl | omega) (by first | omega | (simp <;> omega))) ?_
      refine Y_r 3 rfl (D_fieldAddr fa66_0 rfl) ?_
      refine Y_r 4 rfl (D_load rfl (Has.mem hmb1) (Rd.elem0 (i := i) hex2 Tryz.isAgg9 rfl rfl)) ?_
      refine Y_o 5 rfl (E_callV (v := .bool (decide ((splitP x2.path 64).2 = 0))) rfl rfl en78 (fun w hM => Path_C x2.path M w hM (by have := hpl _ (List.mem_of_getElem? hx2); omega)) ?_) (PMem.le_refl _) (fun _ h => List.Sublist.subset (.slnil) h)
      refine Y_go _ (PMem.le_refl _) (fun _ h => List.Sublist.subset (.slnil) h) (fun _ h => h) ?_
      refine Y_r 6 rfl (D_not rfl) ?_
      refine Y_r 7 rfl (D_move rfl) ?_
      refine R_split 17 rfl (fun h2 => ?_) (fun h2 => ?_)
      ·
        have h2p : ¬ ((splitP x2.path 64).2 = 0) := by simpa using h2
        refine Y_skip 8 rfl rfl ?_
        refine Y_skip 9 rfl rfl ?_
        refine Y_skip 10 rfl rfl ?_
        refine Y_skip 11 rfl rfl ?_
        refine Y_skip 12 rfl rfl ?_
        refine Y_skip 13 rfl rfl ?_
        refine Y_skip 14 rfl rfl ?_
        refine Y_skip 15 rfl rfl ?_
        refine Y_skip 16 rfl rfl ?_
        refine Y_skip 17 rfl rfl ?_
        refine Y_skip 18 rfl rfl ?_
        refine Y_r 19 rfl (D_pick true rfl rfl) ?_
        refine Y_r 20 rfl (D_move rfl) ?_
        refine Y_skip 21 rfl rfl ?_
        refine Y_skip 22 rfl rfl ?_
        refine Y_skip 23 rfl rfl ?_
        refine Y_skip 24 rfl rfl ?_
        refine Y_skip 25 rfl rfl ?_
        refine Y_skip 26 rfl rfl ?_
        refine Y_skip 27 rfl rfl ?_
        refine Y_skip 28 rfl rfl ?_
        refine Y_skip 29 rfl rfl ?_
        refine Y_skip 30 rfl rfl ?_
        refine Y_skip 31 rfl rfl ?_
        refine Y_skip 32 rfl rfl ?_
        refine Y_skip 33 rfl rfl ?_
        refine Y_skip 34 rfl rfl ?_
        refine Y_skip 35 rfl rfl ?_
        refine Y_skip 36 rfl rfl ?_
        refine Y_skip 37 rfl rfl ?_
        refine Y_r 38 rfl (D_pick true rfl rfl) ?_
        refine Y_nil ?_ (PMem.le_refl _) (fun _ h => List.Sublist.subset (.slnil) h)
        exact R_at (Env.sub_cons rfl <| Env.sub_cons rfl <| Env.sub_cons rfl <| Env.sub_cons rfl <| Env.sub_cons rfl <| Env.sub_cons rfl <| Env.sub_cons (by first | (show some (Value.bool _) = some (Value.bool _); simp only [h2, Bool.true_and, Bool.false_and, Bool.true_or, Bool.false_or, Bool.and_true, Bool.and_false, Bool.or_true, Bool.or_false]; done) | (show some (Value.bool _) = some (Value.bool _); (try rw [h2]); first | done | rfl) | simp [h2, Env.find]) <| Env.sub_nil _)
      ·
        have h2p : ((splitP x2.path 64).2 = 0) := by simpa using h2
        refine Y_r 8 rfl (D_move rfl) ?_
        refine Y_r 9 rfl (D_move rfl) ?_
        refine Y_r 10 rfl (D_indexLn (i) Tryz.underlying31 Tryz.sizeOf66 rfl rfl (by first | rfl | omega) (by first | omega | (simp <;> omega))) ?_
        refine Y_r 11 rfl (D_fieldAddr fa66_1 rfl) ?_
        refine Y_r 12 rfl (D_load rfl (Has.mem hmb1) (Rd.elemP (i := i) (k := 1) hex2 Tryz.underlying24 rfl inf24 rfl rfl rfl)) ?_
        refine Y_r 13 rfl (D_move rfl) ?_
        refine Y_r 14 rfl (D_move rfl) ?_
        refine Y_r 15 rfl (D_indexLn (i) Tryz.underlying31 Tryz.sizeOf66 rfl rfl (by first | rfl | omega) (by first | omega | (simp <;> omega))) ?_
        refine Y_r 16 rfl (D_fieldAddr fa66_2 rfl) ?_
        refine Y_r 17 rfl (D_load rfl (Has.mem hmb1) (Rd.elemP (i := i) (k := 36) hex2 Tryz.underlying24 rfl inf24 rfl rfl rfl)) ?_
        refine Y_r 18 rfl (D_eqA eg24 rfl rfl (eqa24 _ _)) ?_
        refine Y_r 19 rfl (D_pick false rfl rfl) ?_
        refine Y_r 20 rfl (D_move rfl) ?_
        refine R_split 30 rfl (fun h3 => ?_) (fun h3 => ?_)
        ·
          have h3p := of_decide_eq_true h3
          refine Y_skip 21 rfl rfl ?_
          refine Y_skip 22 rfl rfl ?_
          refine Y_skip 23 rfl rfl ?_
          refine Y_skip 24 rfl rfl ?_
          refine Y_skip 25 rfl rfl ?_
          refine Y_skip 26 rfl rfl ?_
          refine Y_skip 27 rfl rfl ?_
          refine Y_skip 28 rfl rfl ?_
          refine Y_skip 29 rfl rfl ?_
          refine Y_skip 30 rfl rfl ?_
          refine Y_skip 31 rfl rfl ?_
          refine Y_skip 32 rfl rfl ?_
          refine Y_skip 33 rfl rfl ?_
          refine Y_skip 34 rfl rfl ?_
          refine Y_skip 35 rfl rfl ?_
          refine Y_skip 36 rfl rfl ?_
          refine Y_skip 37 rfl rfl ?_
          refine Y_r 38 rfl (D_pick true rfl rfl) ?_
          refine Y_nil ?_ (PMem.le_refl _) (fun _ h => List.Sublist.subset (.slnil) h)
          exact R_at (Env.sub_cons rfl <| Env.sub_cons rfl <| Env.sub_cons rfl <| Env.sub_cons rfl <| Env.sub_cons rfl <| Env.sub_cons rfl <| Env.sub_cons (by first | (show some (Value.bool _) = some (Value.bool _); simp only [h2, h3, Bool.true_and, Bool.false_and, Bool.true_or, Bool.false_or, Bool.and_true, Bool.and_false, Bool.or_true, Bool.or_false]; done) | (show some (Value.bool _) = some (Value.bool _); (try rw [h2]); (try rw [h3]); first | done | rfl) | simp [h2, h3, Env.find]) <| Env.sub_nil _)
        ·
          have h3p := of_decide_eq_false h3
          refine Y_r 21 rfl (D_move rfl) ?_
          refine Y_r 22 rfl (D_gt rfl rfl) ?_
          refine Y_r 23 rfl (D_move rfl) ?_
          refine R_split 33 rfl (fun h4 => ?_) (fun h4 => ?_)
          ·
            have h4p := of_decide_eq_true h4
            refine Y_r 24 rfl (D_move rfl) ?_
            refine Y_r 25 rfl (D_move rfl) ?_
            refine Y_r 26 rfl (D_subI rfl rfl rfl (by omega) (by omega)) ?_
            refine Y_r 27 rfl (D_indexLn (i - 1) Tryz.underlying31 Tryz.sizeOf66 rfl rfl (by first | rfl | omega) (by first | omega | (simp <;> omega))) ?_
            refine Y_r 28 rfl (D_fieldAddr fa66_0 rfl) ?_
            refine Y_r 29 rfl (D_load rfl (Has.mem hmb1) (Rd.elem0 (i := (i - 1)) hex3 Tryz.isAgg9 rfl rfl)) ?_
            refine Y_r 30 rfl (D_move rfl) ?_
            refine Y_r 31 rfl (D_move rfl) ?_
            refine Y_r 32 rfl (D_indexLn (i) Tryz.underlying31 Tryz.sizeOf66 rfl rfl (by first | rfl | omega) (by first | omega | (simp <;> omega))) ?_
            refine Y_r 33 rfl (D_fieldAddr fa66_0 rfl) ?_
            refine Y_r 34 rfl (D_load rfl (Has.mem hmb1) (Rd.elem0 (i := i) hex2 Tryz.isAgg9 rfl rfl)) ?_
            refine Y_o 35 rfl (E_callV (v := I (cmpP x3.path x2.path)) rfl rfl en38 (fun w hM => Compare3_C x3.path x2.path M w hM (by have := hpl _ (List.mem_of_getElem? hx3); omega) (by have := hpl _ (List.mem_of_getElem? hx2); omega)) ?_) (PMem.le_refl _) (fun _ h => List.Sublist.subset (.slnil) h)
            refine Y_go _ (PMem.le_refl _) (fun _ h => List.Sublist.subset (.slnil) h) (fun _ h => h) ?_
            refine Y_r 36 rfl (D_ge rfl rfl) ?_
            refine Y_r 37 rfl (D_pick true rfl rfl) ?_
            refine Y_r 38 rfl (D_pick false rfl rfl) ?_
            refine Y_nil ?_ (PMem.le_refl _) (fun _ h => List.Sublist.subset (.slnil) h)
            exact R_at (Env.sub_cons rfl <| Env.sub_cons rfl <| Env.sub_cons rfl <| Env.sub_cons rfl <| Env.sub_cons rfl <| Env.sub_cons rfl <| Env.sub_cons (by first | (show some (Value.bool _) = some (Value.bool _); simp only [h2, h3, h4, Bool.true_and, Bool.false_and, Bool.true_or, Bool.false_or, Bool.and_true, Bool.and_false, Bool.or_true, Bool.or_false]; done) | (show some (Value.bool _) = some (Value.bool _); (try rw [h2]); (try rw [h3]); (try rw [h4]); first | done | rfl) | simp [h2, h3, h4, Env.find]) <| Env.sub_nil _)
          ·
            have h4p := of_decide_eq_false h4
            refine Y_skip 24 rfl rfl ?_
            refine Y_skip 25 rfl rfl ?_
            refine Y_skip 26 rfl rfl ?_
            refine Y_skip 27 rfl rfl ?_
            refine Y_skip 28 rfl rfl ?_
            refine Y_skip 29 rfl rfl ?_
            refine Y_skip 30 rfl rfl ?_
            refine Y_skip 31 rfl rfl ?_
            refine Y_skip 32 rfl rfl ?_
            refine Y_skip 33 rfl rfl ?_
            refine Y_skip 34 rfl rfl ?_
            refine Y_skip 35 rfl rfl ?_
            refine Y_skip 36 rfl rfl ?_
            refine Y_r 37 rfl (D_pick false rfl rfl) ?_
            refine Y_r 38 rfl (D_pick false rfl rfl) ?_
            refine Y_nil ?_ (PMem.le_refl _) (fun _ h => List.Sublist.subset (.slnil) h)
            exact R_at (Env.sub_cons rfl <| Env.sub_cons rfl <| Env.sub_cons rfl <| Env.sub_cons rfl <| Env.sub_cons rfl <| Env.sub_cons rfl <| Env.sub_cons (by first | (show some (Value.bool _) = some (Value.bool _); simp only [h2, h3, h4, Bool.true_and, Bool.false_and, Bool.true_or, Bool.false_or, Bool.and_true, Bool.and_false, Bool.or_true, Bool.or_false]; done) | (show some (Value.bool _) = some (Value.bool _); (try rw [h2]); (try rw [h3]); (try rw [h4]); first | done | rfl) | simp [h2, h3, h4, Env.find]) <| Env.sub_nil _)
    ·
      refine R_cond rfl (fun h2 => ?_) (fun h2 => ?_)
      ·
        have h2p := h2; simp only [Bool.and_eq_true, Bool.or_eq_true, Bool.not_eq_true', Bool.and_eq_false_imp, Bool.or_eq_false_iff, Bool.not_eq_false', decide_eq_true_eq, decide_eq_false_iff_not] at h2p
        refine R_seq ?_
        refine R_region ?_
        refine R_r (D_assign rfl) ?_
        refine R_nil ?_
        refine R_ret ?_
        refine R_fin1 rfl rfl ?_
        exact ⟨by rw [hr, risesL_step (by assumption) (by assumption), if_pos (badC_t h2)], rfl, rfl⟩
      ·
        have h2p := h2; simp only [Bool.and_eq_true, Bool.or_eq_true, Bool.not_eq_true', Bool.and_eq_false_imp, Bool.or_eq_false_iff, Bool.not_eq_false', decide_eq_true_eq, decide_eq_false_iff_not] at h2p
        refine R_skip ?_
        refine R_region ?_
        refine R_r (D_move rfl) ?_
        refine R_r (D_add rfl rfl rfl (by omega) (by omega)) ?_
        refine R_r (D_assign rfl) ?_
        refine R_nil ?_
        exact R_back (i + 1) (by show (i + 1) ≤ l.length ∧ risesL l false [] = risesL (l.drop (i + 1)) (decide (0 < ((i + 1) : Int))) (pvC l (i + 1)); exact ⟨by omega, by rw [hr, risesL_step (by assumption) (by assumption), if_neg (badC_f h2)]; first | rfl | simp⟩) (by show l.length - (i + 1) < l.length - i; omega) (Env.sub_cons rfl <| Env.sub_cons rfl <| Env.sub_nil _) rfl rfl
  ·
    have h1p := of_decide_eq_false h1
    refine R_exit rfl ?_
    refine R_seq ?_
    refine R_region ?_
    refine R_r (D_assign rfl) ?_
    refine R_nil ?_
    refine R_ret ?_
    refine R_fin1 rfl rfl ?_
    exact ⟨by rw [hr, List.drop_eq_nil_of_le (by omega)]; rfl, rfl, rfl⟩

theorem tree_C (l : List Entry) (a : Option Addr) (c : Nat) (M : PMem) (w : World) (hM : Lies M w) (hc : l.length ≤ c) (hsl : SlA M 40 (byEnc Entry.cells) a l) (hn : l.length ≤ 4294967296) (hpl : ∀ e ∈ l, e.path.length ≤ 1073741824) : Ends Tryz.prog 40 [.slice a l.length c] w [] M (fun v' M' H' => v' = .bool (treeB l) ∧ M' = M ∧ H' = []) := by
  refine Ends.enter (H := []) Tryz.func40 rfl Tryz.ntmps40 rfl (St.start hM) ?_
  refine R_seq ?_
  refine R_region ?_
  refine R_r (D_assign rfl) ?_
  refine R_nil ?_
  refine R_seq ?_
  refine R_seq ?_
  refine R_region ?_
  refine R_r (D_move rfl) ?_
  refine R_r (D_lenL Tryz.underlying94 rfl) ?_
  refine R_r (D_eq rfl rfl) ?_
  refine R_r (D_move rfl) ?_
  refine R_split 10 rfl (fun h1 => ?_) (fun h1 => ?_)
  ·
    have h1p := of_decide_eq_true h1
    refine R_skipop rfl rfl rfl ?_
    refine R_skipop rfl rfl rfl ?_
    refine R_skipop rfl rfl rfl ?_
    refine R_skipop rfl rfl rfl ?_
    refine R_skipop rfl rfl rfl ?_
    refine R_r (D_pick true rfl rfl) ?_
    refine R_nil ?_
    refine R_cond_t rfl ?_
    refine R_seq ?_
    refine R_region ?_
    refine R_r (D_assign rfl) ?_
    refine R_nil ?_
    refine R_ret ?_
    refine R_fin1 rfl rfl ?_
    exact ⟨by rw [treeB_early (.inl (List.eq_nil_of_length_eq_zero (by omega)))], rfl, rfl⟩
  ·
    have h1p := of_decide_eq_false h1
    refine R_r (D_move rfl) ?_
    obtain ⟨b1, ob1, csb1, elb1, frb1, rfl, hmb1, hxb1⟩ := hsl.at (i := 0) (by first | omega | (simp; omega))
    obtain ⟨x2, hx2⟩ : ∃ e_, l[0]? = some e_ := ⟨_, List.getElem?_eq_getElem (by omega)⟩
    have hex2 := hxb1 0 x2 hx2
    refine R_r (D_indexLn (0) Tryz.underlying94 Tryz.sizeOf99 rfl rfl (by first | rfl | omega) (by first | omega | (simp <;> omega))) ?_
    refine R_r (D_fieldAddr fa99_0 rfl) ?_
    refine R_r (D_load rfl (Has.mem hmb1) (Rd.elem0 (i := 0) hex2 Tryz.isAgg9 rfl rfl)) ?_
    refine R_r (D_neS rfl rfl) ?_
    refine R_r (D_pick false rfl rfl) ?_
    refine R_nil ?_
    refine R_cond rfl (fun h2 => ?_) (fun h2 => ?_)
    ·
      have h2p : ¬ (x2.path = ([] : Str)) := by simpa using h2
      refine R_seq ?_
      refine R_region ?_
      refine R_r (D_assign rfl) ?_
      refine R_nil ?_
      refine R_ret ?_
      refine R_fin1 rfl rfl ?_
      exact ⟨by rw [treeB_early (.inr ⟨_, by assumption, h2p⟩)], rfl, rfl⟩
    ·
      have h2p : (x2.path = ([] : Str)) := by simpa using h2
      refine R_skip ?_
      refine R_seq ?_
      refine R_seq ?_
      refine R_region ?_
      refine R_r (D_assign rfl) ?_
      refine R_nil ?_
      refine R_block ?_
      have he0 := hx2
      refine R_loop (σ := (Nat)) (fun gs => ([(0, .slice (some ⟨b1, ob1, none⟩) l.length c), (3, I (gs : Int))], M, [])) (fun gs => 1 ≤ gs ∧ gs ≤ l.length ∧ ∀ (j : Nat) (y : Entry), 1 ≤ j → j < gs → l[j]? = some y → dirP l (aboveP y.path).1 = true) (fun gs => l.length - gs) 1 ?_ (Env.sub_cons rfl <| Env.sub_cons rfl <| Env.sub_nil _) rfl rfl ?_
      · show 1 ≤ 1 ∧ 1 ≤ l.length ∧ ∀ (j : Nat) (y : Entry), 1 ≤ j → j < 1 → l[j]? = some y → dirP l (aboveP y.path).1 = true; exact ⟨by omega, by omega, fun j y h1 h2 => by omega⟩
      rintro i hok
      replace hok : 1 ≤ i ∧ i ≤ l.length ∧ ∀ (j : Nat) (y : Entry), 1 ≤ j → j < i → l[j]? = some y → dirP l (aboveP y.path).1 = true := hok
      show Cx.R _ _ _ [(0, .slice (some ⟨b1, ob1, none⟩) l.length c), (3, I (i : Int))] M []
      obtain ⟨hi1, hi, hall⟩ := hok
      refine R_seq ?_
      refine R_seq ?_
      refine R_region ?_
      refine R_r (D_move rfl) ?_
      refine R_r (D_move rfl) ?_
      refine R_r (D_lenL Tryz.underlying94 rfl) ?_
      refine R_r (D_lt rfl rfl) ?_
      refine R_nil ?_
      refine R_cond rfl (fun h3 => ?_) (fun h3 => ?_)
      ·
        have h3p := of_decide_eq_true h3
        refine R_skip ?_
        refine R_seq ?_
        refine R_block ?_
        refine R_seq ?_
        refine R_region ?_
        refine R_r (D_move rfl) ?_
        refine R_r (D_move rfl) ?_
        obtain ⟨x3, hx3⟩ : ∃ e_, l[i]? = some e_ := ⟨_, List.getElem?_eq_getElem (by omega)⟩
        have hex3 := hxb1 i x3 hx3
        refine R_r (D_indexLn (i) Tryz.underlying94 Tryz.sizeOf99 rfl rfl (by first | rfl | omega) (by first | omega | (simp <;> omega))) ?_
        refine R_r (D_fieldAddr fa99_0 rfl) ?_
        refine R_r (D_load rfl (Has.mem hmb1) (Rd.elem0 (i := i) hex3 Tryz.isAgg9 rfl rfl)) ?_
        refine R_o (E_callV (v := .tuple #[S ((aboveP x3.path).1), S ((aboveP x3.path).2)]) rfl rfl en84 (fun w hM => Above3_C x3.path M w hM (by have := hpl _ (List.mem_of_getElem? hx3); omega)) ?_)
        refine R_r (D_move rfl) ?_
        refine R_r (D_extract rfl rfl) ?_
        refine R_r (D_extract rfl rfl) ?_
        refine R_r (D_assign rfl) ?_
        refine R_r (D_assign rfl) ?_
        refine R_nil ?_
        refine R_seq ?_
        have hfl := findP_le l ((aboveP x3.path).1)
        refine R_region ?_
        refine R_r (D_move rfl) ?_
        refine R_r (D_move rfl) ?_
        refine R_o (E_callV (v := I (findP l ((aboveP x3.path).1))) rfl rfl en80 (fun w hM => find_C l (some ⟨b1, ob1, none⟩) c ((aboveP x3.path).1) M w hM (by omega) hsl (by omega) hpl) ?_)
        refine R_r (D_assign rfl) ?_
        refine R_nil ?_
        refine R_seq ?_
        refine R_region ?_
        refine R_r (D_move rfl) ?_
        refine R_r (D_lt rfl rfl) ?_
        refine R_r (D_move rfl) ?_
        refine R_split 37 rfl (fun h4 => ?_) (fun h4 => ?_)
        ·
          have h4p := of_decide_eq_true h4
          refine R_skipop rfl rfl rfl ?_
          refine R_skipop rfl rfl rfl ?_
          refine R_skipop rfl rfl rfl ?_
          refine R_skipop rfl rfl rfl ?_
          refine R_skipop rfl rfl rfl ?_
          refine R_skipop rfl rfl rfl ?_
          refine R_skipop rfl rfl rfl ?_
          refine R_r (D_pick true rfl rfl) ?_
          refine R_nil ?_
          refine R_cond_t rfl ?_
          refine R_seq ?_
          refine R_region ?_
          refine R_r (D_assign rfl) ?_
          refine R_nil ?_
          refine R_ret ?_
          refine R_fin1 rfl rfl ?_
          exact ⟨by rw [treeB_bad hi1 hx3 (by simp [dirP, h4p])], rfl, rfl⟩
        ·
          have h4p := of_decide_eq_false h4
          refine R_r (D_move rfl) ?_
          refine R_r (D_move rfl) ?_
          obtain ⟨x4, hx4⟩ : ∃ e_, l[(findP l ((aboveP x3.path).1)).toNat]? = some e_ := ⟨_, List.getElem?_eq_getElem (by omega)⟩
          have hex4 := hxb1 ((findP l ((aboveP x3.path).1)).toNat) x4 hx4
          refine R_r (D_indexLn ((findP l ((aboveP x3.path).1)).toNat) Tryz.underlying94 Tryz.sizeOf99 rfl rfl (by first | rfl | omega) (by first | omega | (simp <;> omega))) ?_
          refine R_r (D_fieldAddr fa99_1 rfl) ?_
          refine R_r (D_fieldAddr fa24_0 rfl) ?_
          refine R_r (D_load rfl (Has.mem hmb1) (Rd.elem (i := ((findP l ((aboveP x3.path).1)).toNat)) (k := 1) hex4 Tryz.isAgg3 rfl rfl)) ?_
          refine R_r (D_ne rfl rfl) ?_
          refine R_r (D_pick false rfl rfl) ?_
          refine R_nil ?_
          refine R_cond rfl (fun h5 => ?_) (fun h5 => ?_)
          ·
            have h5p : ¬ (x4.value.kind = 1) := by simpa using h5
            refine R_seq ?_
            refine R_region ?_
            refine R_r (D_assign rfl) ?_
            refine R_nil ?_
            refine R_ret ?_
            refine R_fin1 rfl rfl ?_
            exact ⟨by rw [treeB_bad hi1 hx3 (by rw [dirP_of (b := true) h4p hx4]; simpa using h5)], rfl, rfl⟩
          ·
            have h5p : (x4.value.kind = 1) := by simpa using h5
            refine R_skip ?_
            refine R_region ?_
            refine R_r (D_move rfl) ?_
            refine R_r (D_add rfl rfl rfl (by omega) (by omega)) ?_
            refine R_r (D_assign rfl) ?_
            refine R_nil ?_
            exact R_back (i + 1) (by show 1 ≤ (i + 1) ∧ (i + 1) ≤ l.length ∧ ∀ (j : Nat) (y : Entry), 1 ≤ j → j < (i + 1) → l[j]? = some y → dirP l (aboveP y.path).1 = true; exact ⟨by omega, by omega, step_all (p := fun y => dirP l (aboveP y.path).1 = true) hall hx3 (by show dirP l (aboveP x3.path).1 = true; rw [dirP_of (b := true) h4p hx4]; simpa using h5)⟩) (by show l.length - (i + 1) < l.length - i; omega) (Env.sub_cons rfl <| Env.sub_cons rfl <| Env.sub_nil _) rfl rfl
      ·
        have h3p := of_decide_eq_false h3
        refine R_exit rfl ?_
        refine R_seq ?_
        refine R_region ?_
        refine R_r (D_assign rfl) ?_
        refine R_nil ?_
        refine R_ret ?_
        refine R_fin1 rfl rfl ?_
        exact ⟨by rw [treeB_good he0 h2p (fun j x h1 h2 => hall j x h1 (by have := (List.getElem?_eq_some_iff.1 h2).1; omega) h2)], rfl, rfl⟩

end Go.Proofs.YtgmomhdammdjgaaGreat
