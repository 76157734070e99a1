/-
  The difference of two trees (diff.Of and what it calls), walked, as the statements' given takes it: all of it. Conditions: trees and paths within 2^30.
-/
import Derived.Test.YtgmomhdammdjgaaGreatApplyM
import Derived.Test.YtgmomhdammdjgaaGreatDif
set_option linter.unusedVariables false
set_option linter.unusedSimpArgs false
set_option maxRecDepth 20000
set_option maxHeartbeats 4000000
namespace Go.Proofs.YtgmomhdammdjgaaGreat
open Go Go.Proofs Go.RowKit

theorem en60 : ∀ (args : Array Value) (w : World), (callFunc 60 args).run Tryz.prog w = .ok (.enter 60 args) w := enters_fn Tryz.func60 (by kernel_rfl) rfl
theorem rd66_Change_0 (x : Change) : Rd Tryz.prog 66 x.cells 0 (Change.val x) := Rd.agg Tryz.underlying66 rfl inf66 rfl rfl
theorem bs31_1 (x0 : Change) : Bs Tryz.prog 31 66 1 [(0, Change.val x0)] (Change.cells x0) := fun w => by kernel_rfl
theorem el66 : ElemOk Tryz.prog 66 71 128 := ElemOk.mk' (by kernel_rfl) (by omega)
theorem en95 : ∀ (args : Array Value) (w : World), (callFunc 95 args).run Tryz.prog w = .ok (.enter 95 args) w := enters_fn Tryz.func95 (by kernel_rfl) rfl
theorem bd190_0_1 (x0 : Str) (x1 : Nat) : Bd Tryz.prog 190 [(0, S x0), (1, P_ x1 0)] (ChildC.val ⟨x0, (P_ x1 0)⟩) := fun w => by kernel_rfl
theorem bs187_1 (x0 : ChildC) : Bs Tryz.prog 187 190 1 [(0, ChildC.val x0)] (ChildC.cells x0) := fun w => by kernel_rfl
theorem el190 : ElemOk Tryz.prog 190 2 24 := ElemOk.mk' (by kernel_rfl) (by omega)
theorem en96 : ∀ (args : Array Value) (w : World), (callFunc 96 args).run Tryz.prog w = .ok (.enter 96 args) w := enters_fn Tryz.func96 (by kernel_rfl) rfl
theorem en62 : ∀ (args : Array Value) (w : World), (callFunc 62 args).run Tryz.prog w = .ok (.enter 62 args) w := enters_fn Tryz.func62 (by kernel_rfl) rfl
theorem bd66_0_1_2 (x0 : Str) (x1 : Val) (x2 : Val) : Bd Tryz.prog 66 [(0, S x0), (1, Val.val x1), (2, Val.val x2)] (Change.val ⟨x0, x1, x2⟩) := fun w => by kernel_rfl
theorem inf190 : (Tryz.prog.info? 190).map (·.size) = some 2 := by kernel_rfl
theorem fa190_0 : Fa Tryz.prog 190 0 0 := Fa.mk Tryz.underlying190 rfl rfl (fun w => ⟨0, Tryz.sizeOf9 w⟩)
theorem fa190_1 : Fa Tryz.prog 190 1 1 := Fa.mk Tryz.underlying190 rfl rfl (fun w => ⟨0, Tryz.sizeOf34 w⟩)
theorem en61 : ∀ (args : Array Value) (w : World), (callFunc 61 args).run Tryz.prog w = .ok (.enter 61 args) w := enters_fn Tryz.func61 (by kernel_rfl) rfl
theorem en21 : ∀ (args : Array Value) (w : World), (callFunc 21 args).run Tryz.prog w = .ok (.enter 21 args) w := enters_fn Tryz.func21 (by kernel_rfl) rfl
theorem en20 : ∀ (args : Array Value) (w : World), (callFunc 20 args).run Tryz.prog w = .ok (.enter 20 args) w := enters_fn Tryz.func20 (by kernel_rfl) rfl
/-- what the statements' given keeps while changes come: ended, well, out, n, the list -/
abbrev giv (be bw bo bn : Nat) (v : Value) (l : List Change) : List Res := [.blk be (.cells (List.toArray [.bool false]) 4), .blk bw (.cells (List.toArray [.bool true]) 4), .blk bo (.cells (List.toArray [v]) 31), .blk bn (.cells (List.toArray [I (-1)]) 3), .row v 66 71 l.length (l.flatMap Change.cells)]
abbrev givF (be bw bo bn : Nat) : Value := .func (.func 60) #[] #[P_ be 0, P_ bw 0, P_ bo 0, P_ bn 0]

theorem given1_C (c : Change) (be bw bo bn : Nat) (v : Value) (l : List Change) (M : PMem) (w : World) (hM : Lies M w) (hH : Handed M (giv be bw bo bn v l) w) (hl : l.length ≤ 1073741824) : Ends Tryz.prog 60 [Change.val c, P_ be 0, P_ bw 0, P_ bo 0, P_ bn 0] w (fps (giv be bw bo bn v l)) M (fun v' M' H' => v' = .bool true ∧ M' = M ∧ ∃ v2, H' = giv be bw bo bn v2 (l ++ [c])) := by
  refine Ends.enter (H := [.blk be (.cells (List.toArray [.bool false]) 4), .blk bw (.cells (List.toArray [.bool true]) 4), .blk bo (.cells (List.toArray [v]) 31), .blk bn (.cells (List.toArray [I (-1)]) 3), .row v 66 71 l.length (l.flatMap Change.cells)]) Tryz.func60 rfl Tryz.ntmps60 rfl (St.startH hM hH) ?_
  refine R_seq ?_
  refine R_region ?_
  refine R_o (E_box (Change.cells c) rfl rfl (fun b1 => ?_))
  refine R_r (D_assign rfl) ?_
  refine R_nil ?_
  refine R_seq ?_
  refine R_seq ?_
  refine R_region ?_
  refine R_r (D_load rfl (Has.own 1 rfl) (Rd.one Tryz.isAgg4 rfl)) ?_
  refine R_nil ?_
  refine R_cond_f rfl ?_
  refine R_skip ?_
  refine R_seq ?_
  refine R_region ?_
  refine R_r (D_load rfl (Has.own 3 rfl) (Rd.one Tryz.isAgg31 rfl)) ?_
  refine R_r (D_load rfl (Has.own 0 rfl) (rd66_Change_0 c)) ?_
  refine R_o (E_buildSlice (ps := [(0, .tmp 9)]) (vs := [(0, Change.val c)]) (cs := (Change.cells c)) rfl (bs31_1 _) (fun b2 => ?_))
  refine R_o (E_append (news := (Change.cells c)) 6 Tryz.underlying31 el66 rfl rfl rfl (Has.own 0 rfl) rfl rfl (by exact ones_Change _) (by unfold maxLen; omega) (by omega) (fun v3 hv3 => ?_))
  refine R_o (E_store (cs' := [v3]) 4 rfl rfl rfl (Wr.one Tryz.sizeOf31 hv3 rfl rfl) ?_)
  refine R_nil ?_
  refine R_seq ?_
  refine R_rowShapeAt 6 rfl (fun ad cap hvs hcap => ?_)
  subst hvs
  refine R_region ?_
  refine R_r (D_load rfl (Has.own 4 rfl) (Rd.one Tryz.isAgg31 rfl)) ?_
  refine R_r (D_lenL Tryz.underlying31 rfl) ?_
  refine R_r (D_load rfl (Has.own 5 rfl) (Rd.one Tryz.isAgg3 rfl)) ?_
  refine R_r (D_as (v' := .bool false) (D_eq rfl rfl) (by rw [decide_eq_false (by omega)])) ?_
  refine R_o (E_store (cs' := [.bool false]) 2 rfl rfl rfl (Wr.one Tryz.sizeOf4 rfl rfl rfl) ?_)
  refine R_nil ?_
  refine R_seq ?_
  refine R_region ?_
  refine R_r (D_load rfl (Has.own 2 rfl) (Rd.one Tryz.isAgg4 rfl)) ?_
  refine R_r (D_not rfl) ?_
  refine R_r (D_assign rfl) ?_
  refine R_nil ?_
  refine R_ret ?_
  refine R_drop (H' := [.blk be (.cells (List.toArray [.bool false]) 4), .blk bw (.cells (List.toArray [.bool true]) 4), .blk bo (.cells (List.toArray [.slice ad (l.length + 1) cap]) 31), .blk bn (.cells (List.toArray [I (-1)]) 3), .row (.slice ad (l.length + 1) cap) 66 71 (l.length + 1) ((l.flatMap Change.cells) ++ (Change.cells c))]) (.cons _ (.cons _ (.cons_cons _ (.cons_cons _ (.cons_cons _ (.cons_cons _ (.cons_cons _ (.slnil)))))))) ?_
  refine R_fin1 rfl rfl ?_
  exact ⟨rfl, rfl, .slice ad (l.length + 1) cap, by simp⟩

theorem value0_C  (M : PMem) (w : World) (hM : Lies M w) : Ends Tryz.prog 95 [.pointer none] w [] M (fun v' M' H' => v' = Val.val Val.zero ∧ M' = M ∧ H' = []) := by
  refine Ends.enter (H := []) Tryz.func95 rfl Tryz.ntmps95 rfl (St.start hM) ?_
  refine R_seq ?_
  refine R_region ?_
  refine R_o (E_alloc (Val.cells Val.zero) Tryz.zeroValue24 rfl (fun b1 => ?_))
  refine R_nil ?_
  refine R_seq ?_
  refine R_seq ?_
  refine R_region ?_
  refine R_r (D_move rfl) ?_
  refine R_r (D_ptrNil Tryz.underlying34 rfl) ?_
  refine R_nil ?_
  refine R_cond_t rfl ?_
  refine R_seq ?_
  refine R_region ?_
  refine R_r (D_build rfl bd24_) ?_
  refine R_o (E_store (cs' := (Val.cells Val.zero)) 0 rfl rfl rfl (Wr.agg Tryz.sizeOf24 rfl rfl rfl rfl) ?_)
  refine R_nil ?_
  refine R_ret ?_
  refine R_finC rfl rfl (Has.own 0 rfl) (rd24_Val_0 Val.zero) [] (by simp) ?_
  exact ⟨rfl, rfl, rfl⟩

theorem value1_C (x : Node) (b : Nat) (M : PMem) (w : World) (hM : Lies M w) (hb : TreeAt M b x) : Ends Tryz.prog 95 [P_ b 0] w [] M (fun v' M' H' => v' = Val.val x.value ∧ M' = M ∧ H' = []) := by
  refine Ends.enter (H := []) Tryz.func95 rfl Tryz.ntmps95 rfl (St.start hM) ?_
  refine R_seq ?_
  refine R_region ?_
  refine R_o (E_alloc (Val.cells Val.zero) Tryz.zeroValue24 rfl (fun b1 => ?_))
  refine R_nil ?_
  refine R_seq ?_
  refine R_seq ?_
  refine R_region ?_
  refine R_r (D_move rfl) ?_
  refine R_r (D_ptrNil Tryz.underlying34 rfl) ?_
  refine R_nil ?_
  refine R_cond_f rfl ?_
  refine R_skip ?_
  refine R_seq ?_
  refine R_region ?_
  refine R_r (D_move rfl) ?_
  refine R_o (E_callV (v := Val.val x.value) rfl rfl en119 (fun w hM => ValueT_C x b M w hM hb) ?_)
  refine R_o (E_store (cs' := (Val.cells x.value)) 0 rfl rfl rfl (Wr.agg Tryz.sizeOf24 rfl rfl rfl rfl) ?_)
  refine R_nil ?_
  refine R_ret ?_
  refine R_finC rfl rfl (Has.own 0 rfl) (rd24_Val_0 x.value) [] (by simp) ?_
  exact ⟨rfl, rfl, rfl⟩

theorem valueO_C (ox : Option Node) (vx : Value) (M : PMem) (w : World) (hM : Lies M w) (h : OptAt M vx ox) : Ends Tryz.prog 95 [vx] w [] M (fun v' M' H' => v' = Val.val (valO ox) ∧ M' = M ∧ H' = []) := by
  rcases h with ⟨rfl, rfl⟩ | ⟨b, x, rfl, rfl, ht⟩
  · exact value0_C M w hM
  · exact value1_C x b M w hM ht

theorem children0_C  (M : PMem) (w : World) (hM : Lies M w) : Ends Tryz.prog 96 [.pointer none] w [] M (fun v' M' H' => H' = [] ∧ ∃ a c, v' = .slice a ([] : List Node).length c ∧ ([] : List Node).length ≤ c ∧ ChA M' a ([] : List Node)) := by
  refine Ends.enter (H := []) Tryz.func96 rfl Tryz.ntmps96 rfl (St.start hM) ?_
  refine R_seq ?_
  refine R_region ?_
  refine R_r (D_assign rfl) ?_
  refine R_nil ?_
  refine R_seq ?_
  refine R_region ?_
  refine R_o (E_alloc [.slice none 0 0] Tryz.zeroValue187 rfl (fun b1 => ?_))
  refine R_nil ?_
  refine R_seq ?_
  refine R_seq ?_
  refine R_region ?_
  refine R_r (D_move rfl) ?_
  refine R_r (D_ptrNotNil Tryz.underlying34 rfl) ?_
  refine R_nil ?_
  refine R_cond_f rfl ?_
  refine R_skip ?_
  refine R_seq ?_
  refine R_region ?_
  refine R_r (D_load rfl (Has.own 0 rfl) (Rd.one Tryz.isAgg187 rfl)) ?_
  refine R_r (D_assign rfl) ?_
  refine R_nil ?_
  refine R_ret ?_
  refine R_drop (List.nil_sublist _) ?_
  refine R_fin1 rfl rfl ?_
  exact ⟨rfl, none, 0, rfl, Nat.le_refl _, .inl rfl⟩

theorem children1_C (x : Node) (b : Nat) (M : PMem) (w : World) (hM : Lies M w) (hb : TreeAt M b x) (hkl : x.kids.length ≤ 1073741824) : Ends Tryz.prog 96 [P_ b 0] w [] M (fun v' M' H' => H' = [] ∧ ∃ a c, v' = .slice a x.kids.length c ∧ x.kids.length ≤ c ∧ ChA M' a x.kids) := by
  refine Ends.enterM (H := []) Tryz.func96 rfl Tryz.ntmps96 rfl (St.start hM) ?_
  refine R_seq ?_
  refine R_region ?_
  refine R_r (D_assign rfl) ?_
  refine R_nil ?_
  refine R_seq ?_
  refine R_region ?_
  refine R_o (E_alloc [.slice none 0 0] Tryz.zeroValue187 rfl (fun b1 => ?_))
  refine R_nil ?_
  refine R_seq ?_
  refine R_seq ?_
  refine R_region ?_
  refine R_r (D_move rfl) ?_
  refine R_r (D_ptrNotNil Tryz.underlying34 rfl) ?_
  refine R_nil ?_
  refine R_cond_t rfl ?_
  refine R_seq ?_
  refine R_region ?_
  refine R_r (D_move rfl) ?_
  refine R_o (E_callP rfl rfl en94 (fun w hM => Children_C x b M w hM hb (by omega)) (fun vr2 Mr2 Hr2 hler2 hpr2 => ?_))
  have q3 := TreeAt.le hler2 hb
  obtain ⟨rfl, bxr2, bsr2, rfl, hpsr2, hitr2⟩ := hpr2
  refine R_nil ?_
  refine R_block ?_
  refine R_row0 190 2 ?_
  refine R_weak (e' := [(3, P_ b1 0), (9, .func (.func 118) #[] #[P_ bxr2 0])]) (Env.sub_cons rfl <| Env.sub_cons rfl <| Env.sub_nil _) ?_
  refine R_rangeFunc (items := itemsC x.kids bsr2) (fun i_ Mv H_ => ∃ (v : Value), True ∧ PMem.le Mr2 Mv ∧ H_ = [.row v 190 2 (((childL x.kids bsr2).take i_).length) (((childL x.kids bsr2).take i_).flatMap ChildC.cells), .blk b1 (.cells (List.toArray [v]) 187)]) rfl rfl en118 (hitr2) (fun y hy => by obtain ⟨j, hj, rfl⟩ := List.getElem_of_mem hy; obtain ⟨_, _, _, _, e⟩ := itemsC_of (List.getElem?_eq_getElem hj); rw [e]; rfl) rfl ⟨.slice none 0 0, trivial, PMem.le_refl _, rfl⟩ (fun i_ M_ H_ h_ => by obtain ⟨_, _, h_, _⟩ := h_; exact h_) (fun l_ D_ rec_ i_ args_ Mv H_ hi_ hJ_ => ?_) (fun D_ Mv H_ hJ_ => ?_)
  ·
    obtain ⟨v, hok_, hleV_, rfl⟩ := hJ_
    have q4 := TreeAt.le hleV_ q3
    obtain ⟨kk, bq, hkk, hbq, rfl⟩ := itemsC_of hi_
    have hil := (List.getElem?_eq_some_iff.1 hkk).1
    have hcl := childL_len hpsr2.1
    have hll : ((childL x.kids bsr2).take i_).length = i_ := by rw [List.length_take]; omega
    show Cx.R _ _ _ [(11, P_ bq 0), (10, S kk.name), (3, P_ b1 0), (9, .func (.func 118) #[] #[P_ bxr2 0])] Mv [.row v 190 2 (((childL x.kids bsr2).take i_).length) (((childL x.kids bsr2).take i_).flatMap ChildC.cells), .blk b1 (.cells (List.toArray [v]) 187), .blk l_ (.loop rec_), .blk D_ (.deferred (some []))]
    refine R_seq ?_
    refine R_region ?_
    refine R_r (D_assign rfl) ?_
    refine R_nil ?_
    refine R_region ?_
    refine R_r (D_assign rfl) ?_
    refine R_nil ?_
    refine R_begin [.row v 190 2 (((childL x.kids bsr2).take i_).length) (((childL x.kids bsr2).take i_).flatMap ChildC.cells), .blk b1 (.cells (List.toArray [v]) 187)] rfl (fun rec2_ => ?_)
    refine R_weak (e' := [(3, P_ b1 0), (4, S kk.name), (5, P_ bq 0), (9, .func (.func 118) #[] #[P_ bxr2 0]), (10, S kk.name), (11, P_ bq 0)]) (Env.sub_cons rfl <| Env.sub_cons rfl <| Env.sub_cons rfl <| Env.sub_cons rfl <| Env.sub_cons rfl <| Env.sub_cons rfl <| Env.sub_nil _) ?_
    refine R_eqH (H' := [.row v 190 2 (((childL x.kids bsr2).take i_).length) (((childL x.kids bsr2).take i_).flatMap ChildC.cells), .blk b1 (.cells (List.toArray [v]) 187), .blk l_ (.loop rec2_), .blk D_ (.deferred (some []))]) rfl ?_
    refine R_block ?_
    refine R_region ?_
    refine R_r (D_load rfl (Has.own 1 rfl) (Rd.one Tryz.isAgg187 rfl)) ?_
    refine R_r (D_move rfl) ?_
    refine R_r (D_move rfl) ?_
    refine R_r (D_build rfl (bd190_0_1 _ _)) ?_
    refine R_o (E_buildSlice (ps := [(0, .tmp 15)]) (vs := [(0, ChildC.val (⟨kk.name, P_ bq 0⟩ : ChildC))]) (cs := (ChildC.cells (⟨kk.name, P_ bq 0⟩ : ChildC))) rfl (bs187_1 _) (fun b5 => ?_))
    refine R_o (E_append (news := (ChildC.cells (⟨kk.name, P_ bq 0⟩ : ChildC))) 1 Tryz.underlying187 el190 rfl rfl rfl (Has.own 0 rfl) rfl rfl (by exact ones_ChildC _ rfl) (by unfold maxLen; omega) (by omega) (fun v6 hv6 => ?_))
    refine R_o (E_store (cs' := [v6]) 2 rfl rfl rfl (Wr.one Tryz.sizeOf187 hv6 rfl rfl) ?_)
    refine R_nil ?_
    refine R_drop (H' := [.row v6 190 2 (((childL x.kids bsr2).take i_).length + 1) ((((childL x.kids bsr2).take i_).flatMap ChildC.cells) ++ (ChildC.cells (⟨kk.name, P_ bq 0⟩ : ChildC))), .blk b1 (.cells (List.toArray [v6]) 187), .blk l_ (.loop rec2_), .blk D_ (.deferred (some []))]) (.cons _ (.cons_cons _ (.cons_cons _ (.cons_cons _ (.cons_cons _ (.slnil)))))) ?_
    exact R_endRound [.row v6 190 2 (((childL x.kids bsr2).take i_).length + 1) ((((childL x.kids bsr2).take i_).flatMap ChildC.cells) ++ (ChildC.cells (⟨kk.name, P_ bq 0⟩ : ChildC))), .blk b1 (.cells (List.toArray [v6]) 187)] rfl ⟨v6, trivial, hleV_, (by rw [take_snoc (childL_at hbq hkk)]; simp)⟩
  ·
    obtain ⟨v, hok_, hleV_, rfl⟩ := hJ_
    have q7 := TreeAt.le hleV_ q3
    show Cx.R _ _ _ [(3, P_ b1 0), (9, .func (.func 118) #[] #[P_ bxr2 0])] Mv [.row v 190 2 (((childL x.kids bsr2).take (itemsC x.kids bsr2).length).length) (((childL x.kids bsr2).take (itemsC x.kids bsr2).length).flatMap ChildC.cells), .blk b1 (.cells (List.toArray [v]) 187), .blk D_ (.deferred (some []))]
    refine R_seq ?_
    refine R_region ?_
    refine R_r (D_load rfl (Has.own 1 rfl) (Rd.one Tryz.isAgg187 rfl)) ?_
    refine R_r (D_assign rfl) ?_
    refine R_nil ?_
    refine R_ret ?_
    have hcl := childL_len hpsr2.1
    refine R_eqH (H' := [.row v 190 2 ((childL x.kids bsr2).length) ((childL x.kids bsr2).flatMap ChildC.cells), .blk b1 (.cells (List.toArray [v]) 187), .blk D_ (.deferred (some []))]) (by rw [itemsC_len hpsr2.1, List.take_of_length_le (by omega)]) ?_
    refine R_freezeRow (fun M8 hleM8 hrowM8 => ?_)
    have q9 := TreeAt.le hleM8 q7
    obtain ⟨ad, cap, rfl, hcap, hsla⟩ := hrowM8.sla (l := childL x.kids bsr2) (enc := ChildC.cells) (fun _ => rfl) (by omega)
    rw [hcl] at hcap
    refine R_drop (H' := [.blk D_ (.deferred (some []))]) (.cons _ (.cons_cons _ (.slnil))) ?_
    refine R_finM [] rfl ?_
    refine R_fin1 rfl rfl ?_
    exact ⟨rfl, ad, cap, by rw [hcl], hcap, childs_of hsla (hpsr2.le (PMem.le_trans hleV_ hleM8))⟩

theorem childrenO_C (ox : Option Node) (vx : Value) (M : PMem) (w : World) (hM : Lies M w) (h : OptAt M vx ox) (hkl : (kidsO ox).length ≤ 1073741824) : Ends Tryz.prog 96 [vx] w [] M (fun v' M' H' => H' = [] ∧ ∃ a c, v' = .slice a (kidsO ox).length c ∧ (kidsO ox).length ≤ c ∧ ChA M' a (kidsO ox)) := by
  rcases h with ⟨rfl, rfl⟩ | ⟨b, x, rfl, rfl, ht⟩
  · exact children0_C M w hM
  · exact children1_C x b M w hM ht hkl

theorem differ_S (ox oy : Option Node) (vx vy : Value) (p : Str) (be bw bo bn : Nat) (v : Value) (l : List Change) (M : PMem) (w : World) (hM : Lies M w) (hH : Handed M (giv be bw bo bn v l) w) (hox : OptAt M vx ox) (hoy : OptAt M vy oy) (hl : l.length + sizeO ox + sizeO oy ≤ 1073741824) (hpx : p.length + wtO ox ≤ 1073741824) (hpy : p.length + wtO oy ≤ 1073741824) (ih : ∀ (ox2 oy2 : Option Node), sizeO ox2 + sizeO oy2 < sizeO ox + sizeO oy → ∀ (vx vy : Value) (p : Str) (v : Value) (l : List Change) (M : PMem) (w : World), Lies M w → Handed M (giv be bw bo bn v l) w → OptAt M vx ox2 → OptAt M vy oy2 → l.length + sizeO ox2 + sizeO oy2 ≤ 1073741824 → p.length + wtO ox2 ≤ 1073741824 → p.length + wtO oy2 ≤ 1073741824 → Ends Tryz.prog 62 [vx, vy, S p, givF be bw bo bn] w (fps (giv be bw bo bn v l)) M (fun v' M' H' => v' = .bool true ∧ ∃ v2 dl, DifR ox2 oy2 p dl ∧ H' = giv be bw bo bn v2 (l ++ dl))) : Ends Tryz.prog 62 [vx, vy, S p, .func (.func 60) #[] #[P_ be 0, P_ bw 0, P_ bo 0, P_ bn 0]] w (fps (giv be bw bo bn v l)) M (fun v' M' H' => v' = .bool true ∧ ∃ v2 dl, DifR ox oy p dl ∧ H' = giv be bw bo bn v2 (l ++ dl)) := by
  have hsx := sizeO_kids ox
  have hsy := sizeO_kids oy
  have hkx := Node.len_sizeL (kidsO ox)
  have hky := Node.len_sizeL (kidsO oy)
  refine Ends.enter (H := [.blk be (.cells (List.toArray [.bool false]) 4), .blk bw (.cells (List.toArray [.bool true]) 4), .blk bo (.cells (List.toArray [v]) 31), .blk bn (.cells (List.toArray [I (-1)]) 3), .row v 66 71 l.length (l.flatMap Change.cells)]) Tryz.func62 rfl Tryz.ntmps62 rfl (St.startH hM hH) ?_
  refine R_seq ?_
  refine R_region ?_
  refine R_r (D_assign rfl) ?_
  refine R_nil ?_
  refine R_seq ?_
  refine R_seq ?_
  refine R_region ?_
  refine R_r (D_move rfl) ?_
  refine R_o (E_callV (v := Val.val (valO ox)) rfl rfl en95 (fun w hM => valueO_C ox vx M w hM hox) ?_)
  refine R_r (D_move rfl) ?_
  refine R_o (E_callV (v := Val.val (valO oy)) rfl rfl en95 (fun w hM => valueO_C oy vy M w hM hoy) ?_)
  refine R_o (E_alloc (Val.cells Val.zero) Tryz.zeroValue24 rfl (fun b1 => ?_))
  refine R_o (E_alloc (Val.cells Val.zero) Tryz.zeroValue24 rfl (fun b2 => ?_))
  refine R_o (E_store (cs' := (Val.cells (valO ox))) 1 rfl rfl rfl (Wr.agg Tryz.sizeOf24 rfl rfl rfl rfl) ?_)
  refine R_o (E_store (cs' := (Val.cells (valO oy))) 0 rfl rfl rfl (Wr.agg Tryz.sizeOf24 rfl rfl rfl rfl) ?_)
  refine R_nil ?_
  refine R_seq ?_
  refine R_region ?_
  refine R_r (D_load rfl (Has.own 1 rfl) (rd24_Val_0 (valO ox))) ?_
  refine R_r (D_load rfl (Has.own 0 rfl) (rd24_Val_0 (valO oy))) ?_
  refine R_r (D_neA eg24 rfl rfl (eqa24 _ _)) ?_
  refine R_r (D_move rfl) ?_
  refine R_split 23 rfl (fun h1 => ?_) (fun h1 => ?_)
  ·
    have h1p : ¬ ((valO ox) = (valO oy)) := by simpa using h1
    refine R_r (D_move rfl) ?_
    refine R_r (D_move rfl) ?_
    refine R_r (D_load rfl (Has.own 1 rfl) (rd24_Val_0 (valO ox))) ?_
    refine R_r (D_load rfl (Has.own 0 rfl) (rd24_Val_0 (valO oy))) ?_
    refine R_r (D_build rfl (bd66_0_1_2 _ _ _)) ?_
    refine R_o (E_callHE [.blk b2 (.cells (List.toArray (Val.cells (valO oy))) 24), .blk b1 (.cells (List.toArray (Val.cells (valO ox))) 24)] (giv be bw bo bn v l) rfl rfl rfl en60 (fun w hM hH => given1_C (⟨p, (valO ox), (valO oy)⟩ : Change) be bw bo bn v l M w hM hH (by omega)) (fun vr3 Mr3 Hr3 hler3 hpr3 => ?_))
    obtain ⟨rfl, hMMr3, vr3, rfl⟩ := hpr3
    have hMsr3 := hMMr3.symm; subst hMsr3
    refine R_r (D_not rfl) ?_
    refine R_r (D_pick true rfl rfl) ?_
    refine R_nil ?_
    refine R_cond_f rfl ?_
    refine R_skip ?_
    refine R_seq ?_
    refine R_region ?_
    refine R_r (D_move rfl) ?_
    refine R_o (E_callP rfl rfl en96 (fun w hM => childrenO_C ox vx M w hM hox (by omega)) (fun vr4 Mr4 Hr4 hler4 hpr4 => ?_))
    have q5 := OptAt.le hox hler4
    have q6 := OptAt.le hoy hler4
    obtain ⟨rfl, ar4, cr4, rfl, hcr4, hjr4⟩ := hpr4
    refine R_r (D_move rfl) ?_
    refine R_o (E_callP rfl rfl en96 (fun w hM => childrenO_C oy vy Mr4 w hM q6 (by omega)) (fun vr7 Mr7 Hr7 hler7 hpr7 => ?_))
    have q8 := OptAt.le q5 hler7
    have q9 := OptAt.le q6 hler7
    have q10 := ChA.le hjr4 hler7
    obtain ⟨rfl, ar7, cr7, rfl, hcr7, hjr7⟩ := hpr7
    refine R_r (D_assign rfl) ?_
    refine R_r (D_assign rfl) ?_
    refine R_nil ?_
    refine R_seq ?_
    refine R_block ?_
    refine R_loop (σ := (Option Addr) × (List Node) × (Nat) × (Option Addr) × (List Node) × (Nat) × (List Change) × (Value) × (PMem)) (fun gs => ([(2, S p), (3, .func (.func 60) #[] #[P_ be 0, P_ bw 0, P_ bo 0, P_ bn 0]), (11, .slice gs.1 gs.2.1.length gs.2.2.1), (12, .slice gs.2.2.2.1 gs.2.2.2.2.1.length gs.2.2.2.2.2.1)], gs.2.2.2.2.2.2.2.2, [.blk b2 (.cells (List.toArray (Val.cells (valO oy))) 24), .blk b1 (.cells (List.toArray (Val.cells (valO ox))) 24), .blk be (.cells (List.toArray [.bool false]) 4), .blk bw (.cells (List.toArray [.bool true]) 4), .blk bo (.cells (List.toArray [gs.2.2.2.2.2.2.2.1]) 31), .blk bn (.cells (List.toArray [I (-1)]) 3), .row gs.2.2.2.2.2.2.2.1 66 71 (((l ++ [(⟨p, (valO ox), (valO oy)⟩ : Change)]) ++ gs.2.2.2.2.2.2.1).length) (((l ++ [(⟨p, (valO ox), (valO oy)⟩ : Change)]) ++ gs.2.2.2.2.2.2.1).flatMap Change.cells)])) (fun gs => PMem.le Mr7 gs.2.2.2.2.2.2.2.2 ∧ gs.2.1.length ≤ gs.2.2.1 ∧ gs.2.2.2.2.1.length ≤ gs.2.2.2.2.2.1 ∧ ChA gs.2.2.2.2.2.2.2.2 gs.1 gs.2.1 ∧ ChA gs.2.2.2.2.2.2.2.2 gs.2.2.2.1 gs.2.2.2.2.1 ∧ (∀ r, DifsR gs.2.1 gs.2.2.2.2.1 p r → DifsR (kidsO ox) (kidsO oy) p (gs.2.2.2.2.2.2.1 ++ r)) ∧ Node.sizeL gs.2.1 ≤ Node.sizeL (kidsO ox) ∧ Node.sizeL gs.2.2.2.2.1 ≤ Node.sizeL (kidsO oy) ∧ Node.wtL gs.2.1 ≤ Node.wtL (kidsO ox) ∧ Node.wtL gs.2.2.2.2.1 ≤ Node.wtL (kidsO oy) ∧ gs.2.2.2.2.2.2.1.length + Node.sizeL gs.2.1 + Node.sizeL gs.2.2.2.2.1 ≤ Node.sizeL (kidsO ox) + Node.sizeL (kidsO oy)) (fun gs => gs.2.1.length + gs.2.2.2.2.1.length) (ar4, (kidsO ox), cr4, ar7, (kidsO oy), cr7, [], vr3, Mr7) ?_ (Env.sub_cons rfl <| Env.sub_cons rfl <| Env.sub_cons rfl <| Env.sub_cons rfl <| Env.sub_nil _) rfl (by simp) ?_
    · show PMem.le Mr7 Mr7 ∧ (kidsO ox).length ≤ cr4 ∧ (kidsO oy).length ≤ cr7 ∧ ChA Mr7 ar4 (kidsO ox) ∧ ChA Mr7 ar7 (kidsO oy) ∧ (∀ r, DifsR (kidsO ox) (kidsO oy) p r → DifsR (kidsO ox) (kidsO oy) p (([]) ++ r)) ∧ Node.sizeL (kidsO ox) ≤ Node.sizeL (kidsO ox) ∧ Node.sizeL (kidsO oy) ≤ Node.sizeL (kidsO oy) ∧ Node.wtL (kidsO ox) ≤ Node.wtL (kidsO ox) ∧ Node.wtL (kidsO oy) ≤ Node.wtL (kidsO oy) ∧ ([]).length + Node.sizeL (kidsO ox) + Node.sizeL (kidsO oy) ≤ Node.sizeL (kidsO ox) + Node.sizeL (kidsO oy); exact ⟨PMem.le_refl _, hcr4, hcr7, q10, hjr7, fun r h => h, Nat.le_refl _, Nat.le_refl _, Nat.le_refl _, Nat.le_refl _, by simp⟩
    rintro ⟨aa, la, ca, ab, lb, cb, done, v, Mv⟩ hok
    replace hok : PMem.le Mr7 Mv ∧ la.length ≤ ca ∧ lb.length ≤ cb ∧ ChA Mv aa la ∧ ChA Mv ab lb ∧ (∀ r, DifsR la lb p r → DifsR (kidsO ox) (kidsO oy) p (done ++ r)) ∧ Node.sizeL la ≤ Node.sizeL (kidsO ox) ∧ Node.sizeL lb ≤ Node.sizeL (kidsO oy) ∧ Node.wtL la ≤ Node.wtL (kidsO ox) ∧ Node.wtL lb ≤ Node.wtL (kidsO oy) ∧ done.length + Node.sizeL la + Node.sizeL lb ≤ Node.sizeL (kidsO ox) + Node.sizeL (kidsO oy) := hok
    show Cx.R _ _ _ [(2, S p), (3, .func (.func 60) #[] #[P_ be 0, P_ bw 0, P_ bo 0, P_ bn 0]), (11, .slice aa la.length ca), (12, .slice ab lb.length cb)] Mv [.blk b2 (.cells (List.toArray (Val.cells (valO oy))) 24), .blk b1 (.cells (List.toArray (Val.cells (valO ox))) 24), .blk be (.cells (List.toArray [.bool false]) 4), .blk bw (.cells (List.toArray [.bool true]) 4), .blk bo (.cells (List.toArray [v]) 31), .blk bn (.cells (List.toArray [I (-1)]) 3), .row v 66 71 (((l ++ [(⟨p, (valO ox), (valO oy)⟩ : Change)]) ++ done).length) (((l ++ [(⟨p, (valO ox), (valO oy)⟩ : Change)]) ++ done).flatMap Change.cells)]
    obtain ⟨hleV, hca, hcb, hja, hjb, hdif, hs1, hs2, hw1, hw2, hdn⟩ := hok
    have q11 := OptAt.le q8 hleV
    have q12 := OptAt.le q9 hleV
    have q13 := ChA.le q10 hleV
    have q14 := ChA.le hjr7 hleV
    refine R_seq ?_
    refine R_seq ?_
    refine R_region ?_
    refine R_r (D_move rfl) ?_
    refine R_r (D_lenL Tryz.underlying187 rfl) ?_
    refine R_r (D_gt rfl rfl) ?_
    refine R_r (D_move rfl) ?_
    refine R_split 39 rfl (fun h2 => ?_) (fun h2 => ?_)
    ·
      have h2p := of_decide_eq_true h2
      refine R_skipop rfl rfl rfl ?_
      refine R_skipop rfl rfl rfl ?_
      refine R_skipop rfl rfl rfl ?_
      refine R_r (D_pick true rfl rfl) ?_
      refine R_nil ?_
      refine R_cond_t rfl ?_
      refine R_skip ?_
      refine R_block ?_
      refine R_seq ?_
      refine R_region ?_
      refine R_o (E_alloc (ChildC.cells ChildC.zero) Tryz.zeroValue190 rfl (fun b15 => ?_))
      refine R_o (E_alloc (ChildC.cells ChildC.zero) Tryz.zeroValue190 rfl (fun b16 => ?_))
      refine R_nil ?_
      refine R_seq ?_
      refine R_block ?_
      refine R_seq ?_
      refine Y_region [.blk b16 (.cells (List.toArray (ChildC.cells ChildC.zero)) 190), .blk b15 (.cells (List.toArray (ChildC.cells ChildC.zero)) 190), .blk b2 (.cells (List.toArray (Val.cells (valO oy))) 24), .blk b1 (.cells (List.toArray (Val.cells (valO ox))) 24), .blk be (.cells (List.toArray [.bool false]) 4), .blk bw (.cells (List.toArray [.bool true]) 4), .blk bo (.cells (List.toArray [v]) 31), .blk bn (.cells (List.toArray [I (-1)]) 3)] mixed ?_
      refine Y_r 0 rfl (D_move rfl) ?_
      refine Y_r 1 rfl (D_lenL Tryz.underlying187 rfl) ?_
      refine Y_r 2 rfl (D_eq rfl rfl) ?_
      refine Y_r 3 rfl (D_move rfl) ?_
      refine R_split 58 rfl (fun h3 => ?_) (fun h3 => ?_)
      ·
        have h3p := of_decide_eq_true h3
        refine Y_skip 4 rfl rfl ?_
        refine Y_skip 5 rfl rfl ?_
        refine Y_skip 6 rfl rfl ?_
        refine Y_skip 7 rfl rfl ?_
        refine Y_skip 8 rfl rfl ?_
        refine Y_skip 9 rfl rfl ?_
        refine Y_skip 10 rfl rfl ?_
        refine Y_skip 11 rfl rfl ?_
        refine Y_skip 12 rfl rfl ?_
        refine Y_skip 13 rfl rfl ?_
        refine Y_skip 14 rfl rfl ?_
        refine Y_skip 15 rfl rfl ?_
        refine Y_skip 16 rfl rfl ?_
        refine Y_skip 17 rfl rfl ?_
        refine Y_r 18 rfl (D_pick true rfl rfl) ?_
        refine Y_r 19 rfl (D_assign rfl) ?_
        refine Y_nil ?_ (PMem.le_refl _) (fun _ h => List.Sublist.subset (.cons_cons _ (.cons_cons _ (.cons_cons _ (.cons_cons _ (.cons_cons _ (.cons_cons _ (.cons_cons _ (.cons_cons _ (.cons _ (.slnil)))))))))) h)
        refine R_cond_t rfl ?_
        refine R_seq ?_
        refine Y_region [.blk b2 (.cells (List.toArray (Val.cells (valO oy))) 24), .blk b1 (.cells (List.toArray (Val.cells (valO ox))) 24), .blk be (.cells (List.toArray [.bool false]) 4), .blk bw (.cells (List.toArray [.bool true]) 4), .blk bo (.cells (List.toArray [v]) 31), .blk bn (.cells (List.toArray [I (-1)]) 3)] mixed ?_
        refine Y_r 0 rfl (D_move rfl) ?_
        obtain ⟨b17, ob17, csb17, elb17, frb17, rfl, hmb17, hxb17⟩ := hja.at (i := 0) (by first | omega | (simp; omega))
        obtain ⟨x18, hx18⟩ : ∃ e_, la[0]? = some e_ := ⟨_, List.getElem?_eq_getElem (by omega)⟩
        obtain ⟨tx18, hex18, htx18⟩ := hxb17 0 x18 hx18
        refine Y_r 1 rfl (D_indexLn (0) Tryz.underlying187 Tryz.sizeOf190 rfl rfl (by first | rfl | omega) (by first | omega | (simp <;> omega))) ?_
        refine Y_r 2 rfl (D_load rfl (Has.mem hmb17) (Rd.elemA (i := 0) hex18 Tryz.underlying190 rfl inf190 rfl)) ?_
        refine Y_r 3 rfl (D_move rfl) ?_
        have u19 := SlA.tailC hja hca
        refine Y_r 4 rfl (D_sliceLk (m := (la.drop 1).length) 1 Tryz.underlying187 Tryz.sizeOf190 rfl rfl (by rw [List.length_drop]) (by omega) (by omega)) ?_
        refine Y_o 5 rfl (E_store (cs' := (ChildC.cells (⟨x18.name, P_ tx18 0⟩ : ChildC))) 1 rfl rfl rfl (Wr.agg Tryz.sizeOf190 rfl rfl rfl rfl) ?_) (PMem.le_refl _) (fun _ h => List.Sublist.subset (.cons _ (.cons _ (.cons_cons _ (.cons_cons _ (.cons_cons _ (.cons_cons _ (.cons_cons _ (.cons_cons _ (.cons _ (.slnil)))))))))) h)
        refine Y_go _ (PMem.le_refl _) (fun _ h => List.Sublist.subset (.cons _ (.cons _ (.cons_cons _ (.cons_cons _ (.cons_cons _ (.cons_cons _ (.cons_cons _ (.cons_cons _ (.cons _ (.slnil)))))))))) h) (fun _ h => h) ?_
        refine Y_r 6 rfl (D_assign rfl) ?_
        refine Y_nil ?_ (PMem.le_refl _) (fun _ h => List.Sublist.subset (.cons _ (.cons _ (.cons_cons _ (.cons_cons _ (.cons_cons _ (.cons_cons _ (.cons_cons _ (.cons_cons _ (.cons _ (.slnil)))))))))) h)
        refine R_region ?_
        refine R_r (D_fieldAddr fa190_0 rfl) ?_
        refine R_r (D_load rfl (Has.own 1 rfl) (Rd.one Tryz.isAgg9 rfl)) ?_
        refine R_r (D_fieldAddr fa190_0 rfl) ?_
        refine R_o (E_store (cs' := (ChildC.cells (⟨x18.name, ChildC.zero.t⟩ : ChildC))) 0 rfl rfl rfl (Wr.one Tryz.sizeOf9 rfl rfl rfl) ?_)
        refine R_nil ?_
        refine R_seq ?_
        refine R_region ?_
        refine R_r (D_fieldAddr fa190_0 rfl) ?_
        refine R_r (D_load rfl (Has.own 0 rfl) (Rd.one Tryz.isAgg9 rfl)) ?_
        refine R_r (D_assign rfl) ?_
        refine R_nil ?_
        refine R_seq ?_
        refine R_seq ?_
        have hwa_ := wtL_one hx18; have hwb_ := Node.wt_eq x18; have hwc_ := wtO_kids ox; have hwd_ := wtO_kids oy
        refine R_region ?_
        refine R_r (D_move rfl) ?_
        refine R_r (D_neS rfl rfl) ?_
        refine R_nil ?_
        refine R_join [(2, S p), (3, .func (.func 60) #[] #[P_ be 0, P_ bw 0, P_ bo 0, P_ bn 0]), (11, .slice (if ca = 1 then (some ⟨b17, ob17, none⟩) else ((some ⟨b17, ob17, none⟩) : Option Addr).map (·.add (1 * 2))) ((la.drop 1).length) (ca - 1)), (12, .slice ab lb.length cb), (13, P_ b15 0), (14, P_ b16 0), (15, S (belowP p x18.name))] (M' := Mv) (H' := [.blk b16 (.cells (List.toArray (ChildC.cells (⟨x18.name, ChildC.zero.t⟩ : ChildC))) 190), .blk b15 (.cells (List.toArray (ChildC.cells (⟨x18.name, P_ tx18 0⟩ : ChildC))) 190), .blk b2 (.cells (List.toArray (Val.cells (valO oy))) 24), .blk b1 (.cells (List.toArray (Val.cells (valO ox))) 24), .blk be (.cells (List.toArray [.bool false]) 4), .blk bw (.cells (List.toArray [.bool true]) 4), .blk bo (.cells (List.toArray [v]) 31), .blk bn (.cells (List.toArray [I (-1)]) 3), .row v 66 71 (((l ++ [(⟨p, (valO ox), (valO oy)⟩ : Change)]) ++ done).length) (((l ++ [(⟨p, (valO ox), (valO oy)⟩ : Change)]) ++ done).flatMap Change.cells)]) ?_ ?_
        ·
          refine R_cond rfl (fun h4 => ?_) (fun h4 => ?_)
          ·
            have h4p : ¬ (p = ([] : Str)) := by simpa using h4
            refine R_region ?_
            refine R_r (D_move rfl) ?_
            refine R_r (D_addS rfl rfl (by simp; omega)) ?_
            refine R_r (D_move rfl) ?_
            refine R_r (D_addS rfl rfl (by simp; omega)) ?_
            refine R_r (D_assign rfl) ?_
            refine R_nil ?_
            exact R_at (Env.sub_cons rfl <| Env.sub_cons rfl <| Env.sub_cons rfl <| Env.sub_cons rfl <| Env.sub_cons rfl <| Env.sub_cons rfl <| Env.sub_cons (by show some (S _) = some (S _); simp [belowP, h4p]) <| Env.sub_nil _)
          ·
            have h4p : (p = ([] : Str)) := by simpa using h4
            refine R_skip ?_
            exact R_at (Env.sub_cons rfl <| Env.sub_cons rfl <| Env.sub_cons rfl <| Env.sub_cons rfl <| Env.sub_cons rfl <| Env.sub_cons rfl <| Env.sub_cons (by show some (S _) = some (S _); simp [belowP, h4p]) <| Env.sub_nil _)
        ·
          refine R_seq ?_
          refine R_region ?_
          refine R_r (D_fieldAddr fa190_1 rfl) ?_
          refine R_r (D_load rfl (Has.own 1 rfl) (Rd.one Tryz.isAgg34 rfl)) ?_
          refine R_r (D_fieldAddr fa190_1 rfl) ?_
          refine R_r (D_load rfl (Has.own 0 rfl) (Rd.one Tryz.isAgg34 rfl)) ?_
          refine R_r (D_move rfl) ?_
          refine R_r (D_move rfl) ?_
          have hblr20 := belowP_len p x18.name
          have hszr20x := sizeL_one hx18; have hwtr20x := wtL_one hx18; have hwer20x := Node.wt_eq x18; have hspr20x := size_pos x18; have hslr20x := sizeO_lt (ox := ox) (by omega); have hwkr20x := wtO_lt (ox := ox) (by omega); have hnzr20x : sizeO (some x18) = x18.size := rfl; have hwzr20x : wtO (some x18) = 1 + Node.wtL x18.kids := rfl
          have hslr20y := sizeO_kids oy; have hnzr20y : sizeO none = 0 := rfl; have hwzr20y : wtO none = 0 := rfl
          refine R_o (E_callHE [.blk b16 (.cells (List.toArray (ChildC.cells (⟨x18.name, ChildC.zero.t⟩ : ChildC))) 190), .blk b15 (.cells (List.toArray (ChildC.cells (⟨x18.name, P_ tx18 0⟩ : ChildC))) 190), .blk b2 (.cells (List.toArray (Val.cells (valO oy))) 24), .blk b1 (.cells (List.toArray (Val.cells (valO ox))) 24)] (giv be bw bo bn v ((l ++ [(⟨p, (valO ox), (valO oy)⟩ : Change)]) ++ done)) rfl rfl rfl en62 (fun w hM hH => ih (some x18) none (by omega) (P_ tx18 0) (.pointer none) (belowP p x18.name) v ((l ++ [(⟨p, (valO ox), (valO oy)⟩ : Change)]) ++ done) Mv w hM hH (.inr ⟨tx18, x18, rfl, rfl, htx18⟩) (.inl ⟨rfl, rfl⟩) (by simp only [List.length_append, List.length_singleton] at *; omega) (by omega) (by omega)) (fun vr20 Mr20 Hr20 hler20 hpr20 => ?_))
          have q21 := OptAt.le q11 hler20
          have q22 := OptAt.le q12 hler20
          have q23 := ChA.le q13 hler20
          have q24 := ChA.le q14 hler20
          have q25 := ChA.le hja hler20
          have q26 := ChA.le hjb hler20
          have q27 := hler20 _ _ hmb17
          have q28 := fun i x h => ChildR.le hler20 (hxb17 i x h)
          have q29 := TreeAt.le hler20 htx18
          have q30 := ChA.le u19 hler20
          obtain ⟨rfl, vr20, dlr20, hdr20, rfl⟩ := hpr20
          have hdnr20 := hdr20.len
          refine R_r (D_not rfl) ?_
          refine R_nil ?_
          refine R_cond_f rfl ?_
          refine R_skip ?_
          refine R_drop (H' := [.blk b2 (.cells (List.toArray (Val.cells (valO oy))) 24), .blk b1 (.cells (List.toArray (Val.cells (valO ox))) 24), .blk be (.cells (List.toArray [.bool false]) 4), .blk bw (.cells (List.toArray [.bool true]) 4), .blk bo (.cells (List.toArray [vr20]) 31), .blk bn (.cells (List.toArray [I (-1)]) 3), .row vr20 66 71 ((((l ++ [(⟨p, (valO ox), (valO oy)⟩ : Change)]) ++ done) ++ dlr20).length) ((((l ++ [(⟨p, (valO ox), (valO oy)⟩ : Change)]) ++ done) ++ dlr20).flatMap Change.cells)]) (.cons _ (.cons _ (List.Sublist.refl _))) ?_
          exact R_back ((if ca = 1 then (some ⟨b17, ob17, none⟩) else ((some ⟨b17, ob17, none⟩) : Option Addr).map (·.add (1 * 2))), (la.drop 1), (ca - 1), ab, lb, cb, done ++ dlr20, vr20, Mr20) (by show PMem.le Mr7 Mr20 ∧ (la.drop 1).length ≤ (ca - 1) ∧ lb.length ≤ cb ∧ ChA Mr20 (if ca = 1 then (some ⟨b17, ob17, none⟩) else ((some ⟨b17, ob17, none⟩) : Option Addr).map (·.add (1 * 2))) (la.drop 1) ∧ ChA Mr20 ab lb ∧ (∀ r, DifsR (la.drop 1) lb p r → DifsR (kidsO ox) (kidsO oy) p ((done ++ dlr20) ++ r)) ∧ Node.sizeL (la.drop 1) ≤ Node.sizeL (kidsO ox) ∧ Node.sizeL lb ≤ Node.sizeL (kidsO oy) ∧ Node.wtL (la.drop 1) ≤ Node.wtL (kidsO ox) ∧ Node.wtL lb ≤ Node.wtL (kidsO oy) ∧ (done ++ dlr20).length + Node.sizeL (la.drop 1) + Node.sizeL lb ≤ Node.sizeL (kidsO ox) + Node.sizeL (kidsO oy); exact ⟨(PMem.le_trans hleV hler20), by rw [List.length_drop]; omega, by omega, q30, q26, fun r_ hr_ => by rw [List.append_assoc]; refine hdif _ ?_; rw [drop1_at hx18]; exact DifsR.left (fun z_ hz_ => by rw [List.eq_nil_of_length_eq_zero (l := lb) (by omega)] at hz_; simp at hz_) hdr20 hr_, by omega, by omega, by omega, by omega, by simp only [List.length_append]; omega⟩) (by show (la.drop 1).length + lb.length < la.length + lb.length; simp only [List.length_drop]; omega) (Env.sub_cons rfl <| Env.sub_cons rfl <| Env.sub_cons rfl <| Env.sub_cons rfl <| Env.sub_nil _) rfl (by simp only [List.append_assoc])
      ·
        have h3p := of_decide_eq_false h3
        refine Y_r 4 rfl (D_move rfl) ?_
        refine Y_r 5 rfl (D_lenL Tryz.underlying187 rfl) ?_
        refine Y_r 6 rfl (D_gt rfl rfl) ?_
        refine Y_r 7 rfl (D_move rfl) ?_
        refine R_split 62 rfl (fun h4 => ?_) (fun h4 => ?_)
        ·
          have h4p := of_decide_eq_true h4
          refine Y_r 8 rfl (D_move rfl) ?_
          obtain ⟨b31, ob31, csb31, elb31, frb31, rfl, hmb31, hxb31⟩ := hja.at (i := 0) (by first | omega | (simp; omega))
          obtain ⟨x32, hx32⟩ : ∃ e_, la[0]? = some e_ := ⟨_, List.getElem?_eq_getElem (by omega)⟩
          obtain ⟨tx32, hex32, htx32⟩ := hxb31 0 x32 hx32
          refine Y_r 9 rfl (D_indexLn (0) Tryz.underlying187 Tryz.sizeOf190 rfl rfl (by first | rfl | omega) (by first | omega | (simp <;> omega))) ?_
          refine Y_r 10 rfl (D_fieldAddr fa190_0 rfl) ?_
          refine Y_r 11 rfl (D_load rfl (Has.mem hmb31) (Rd.elem0 (i := 0) hex32 Tryz.isAgg9 rfl rfl)) ?_
          refine Y_r 12 rfl (D_move rfl) ?_
          obtain ⟨b33, ob33, csb33, elb33, frb33, rfl, hmb33, hxb33⟩ := hjb.at (i := 0) (by first | omega | (simp; omega))
          obtain ⟨x34, hx34⟩ : ∃ e_, lb[0]? = some e_ := ⟨_, List.getElem?_eq_getElem (by omega)⟩
          obtain ⟨tx34, hex34, htx34⟩ := hxb33 0 x34 hx34
          refine Y_r 13 rfl (D_indexLn (0) Tryz.underlying187 Tryz.sizeOf190 rfl rfl (by first | rfl | omega) (by first | omega | (simp <;> omega))) ?_
          refine Y_r 14 rfl (D_fieldAddr fa190_0 rfl) ?_
          refine Y_r 15 rfl (D_load rfl (Has.mem hmb33) (Rd.elem0 (i := 0) hex34 Tryz.isAgg9 rfl rfl)) ?_
          refine Y_r 16 rfl (D_ltS rfl rfl) ?_
          refine Y_r 17 rfl (D_pick true rfl rfl) ?_
          refine Y_r 18 rfl (D_pick false rfl rfl) ?_
          refine Y_r 19 rfl (D_assign rfl) ?_
          refine Y_nil ?_ (PMem.le_refl _) (fun _ h => List.Sublist.subset (.cons_cons _ (.cons_cons _ (.cons_cons _ (.cons_cons _ (.cons_cons _ (.cons_cons _ (.cons_cons _ (.cons_cons _ (.cons _ (.slnil)))))))))) h)
          refine R_cond rfl (fun h5 => ?_) (fun h5 => ?_)
          ·
            refine R_seq ?_
            refine Y_region [.blk b2 (.cells (List.toArray (Val.cells (valO oy))) 24), .blk b1 (.cells (List.toArray (Val.cells (valO ox))) 24), .blk be (.cells (List.toArray [.bool false]) 4), .blk bw (.cells (List.toArray [.bool true]) 4), .blk bo (.cells (List.toArray [v]) 31), .blk bn (.cells (List.toArray [I (-1)]) 3)] mixed ?_
            refine Y_r 0 rfl (D_move rfl) ?_
            refine Y_r 1 rfl (D_indexLn (0) Tryz.underlying187 Tryz.sizeOf190 rfl rfl (by first | rfl | omega) (by first | omega | (simp <;> omega))) ?_
            refine Y_r 2 rfl (D_load rfl (Has.mem hmb31) (Rd.elemA (i := 0) hex32 Tryz.underlying190 rfl inf190 rfl)) ?_
            refine Y_r 3 rfl (D_move rfl) ?_
            have u35 := SlA.tailC hja hca
            refine Y_r 4 rfl (D_sliceLk (m := (la.drop 1).length) 1 Tryz.underlying187 Tryz.sizeOf190 rfl rfl (by rw [List.length_drop]) (by omega) (by omega)) ?_
            refine Y_o 5 rfl (E_store (cs' := (ChildC.cells (⟨x32.name, P_ tx32 0⟩ : ChildC))) 1 rfl rfl rfl (Wr.agg Tryz.sizeOf190 rfl rfl rfl rfl) ?_) (PMem.le_refl _) (fun _ h => List.Sublist.subset (.cons _ (.cons _ (.cons_cons _ (.cons_cons _ (.cons_cons _ (.cons_cons _ (.cons_cons _ (.cons_cons _ (.cons _ (.slnil)))))))))) h)
            refine Y_go _ (PMem.le_refl _) (fun _ h => List.Sublist.subset (.cons _ (.cons _ (.cons_cons _ (.cons_cons _ (.cons_cons _ (.cons_cons _ (.cons_cons _ (.cons_cons _ (.cons _ (.slnil)))))))))) h) (fun _ h => h) ?_
            refine Y_r 6 rfl (D_assign rfl) ?_
            refine Y_nil ?_ (PMem.le_refl _) (fun _ h => List.Sublist.subset (.cons _ (.cons _ (.cons_cons _ (.cons_cons _ (.cons_cons _ (.cons_cons _ (.cons_cons _ (.cons_cons _ (.cons _ (.slnil)))))))))) h)
            refine R_region ?_
            refine R_r (D_fieldAddr fa190_0 rfl) ?_
            refine R_r (D_load rfl (Has.own 1 rfl) (Rd.one Tryz.isAgg9 rfl)) ?_
            refine R_r (D_fieldAddr fa190_0 rfl) ?_
            refine R_o (E_store (cs' := (ChildC.cells (⟨x32.name, ChildC.zero.t⟩ : ChildC))) 0 rfl rfl rfl (Wr.one Tryz.sizeOf9 rfl rfl rfl) ?_)
            refine R_nil ?_
            refine R_seq ?_
            refine R_region ?_
            refine R_r (D_fieldAddr fa190_0 rfl) ?_
            refine R_r (D_load rfl (Has.own 0 rfl) (Rd.one Tryz.isAgg9 rfl)) ?_
            refine R_r (D_assign rfl) ?_
            refine R_nil ?_
            refine R_seq ?_
            refine R_seq ?_
            have hwa_ := wtL_one hx32; have hwb_ := Node.wt_eq x32; have hwc_ := wtO_kids ox; have hwd_ := wtO_kids oy
            refine R_region ?_
            refine R_r (D_move rfl) ?_
            refine R_r (D_neS rfl rfl) ?_
            refine R_nil ?_
            refine R_join [(2, S p), (3, .func (.func 60) #[] #[P_ be 0, P_ bw 0, P_ bo 0, P_ bn 0]), (11, .slice (if ca = 1 then (some ⟨b31, ob31, none⟩) else ((some ⟨b31, ob31, none⟩) : Option Addr).map (·.add (1 * 2))) ((la.drop 1).length) (ca - 1)), (12, .slice (some ⟨b33, ob33, none⟩) lb.length cb), (13, P_ b15 0), (14, P_ b16 0), (15, S (belowP p x32.name))] (M' := Mv) (H' := [.blk b16 (.cells (List.toArray (ChildC.cells (⟨x32.name, ChildC.zero.t⟩ : ChildC))) 190), .blk b15 (.cells (List.toArray (ChildC.cells (⟨x32.name, P_ tx32 0⟩ : ChildC))) 190), .blk b2 (.cells (List.toArray (Val.cells (valO oy))) 24), .blk b1 (.cells (List.toArray (Val.cells (valO ox))) 24), .blk be (.cells (List.toArray [.bool false]) 4), .blk bw (.cells (List.toArray [.bool true]) 4), .blk bo (.cells (List.toArray [v]) 31), .blk bn (.cells (List.toArray [I (-1)]) 3), .row v 66 71 (((l ++ [(⟨p, (valO ox), (valO oy)⟩ : Change)]) ++ done).length) (((l ++ [(⟨p, (valO ox), (valO oy)⟩ : Change)]) ++ done).flatMap Change.cells)]) ?_ ?_
            ·
              refine R_cond rfl (fun h6 => ?_) (fun h6 => ?_)
              ·
                have h6p : ¬ (p = ([] : Str)) := by simpa using h6
                refine R_region ?_
                refine R_r (D_move rfl) ?_
                refine R_r (D_addS rfl rfl (by simp; omega)) ?_
                refine R_r (D_move rfl) ?_
                refine R_r (D_addS rfl rfl (by simp; omega)) ?_
                refine R_r (D_assign rfl) ?_
                refine R_nil ?_
                exact R_at (Env.sub_cons rfl <| Env.sub_cons rfl <| Env.sub_cons rfl <| Env.sub_cons rfl <| Env.sub_cons rfl <| Env.sub_cons rfl <| Env.sub_cons (by show some (S _) = some (S _); simp [belowP, h6p]) <| Env.sub_nil _)
              ·
                have h6p : (p = ([] : Str)) := by simpa using h6
                refine R_skip ?_
                exact R_at (Env.sub_cons rfl <| Env.sub_cons rfl <| Env.sub_cons rfl <| Env.sub_cons rfl <| Env.sub_cons rfl <| Env.sub_cons rfl <| Env.sub_cons (by show some (S _) = some (S _); simp [belowP, h6p]) <| Env.sub_nil _)
            ·
              refine R_seq ?_
              refine R_region ?_
              refine R_r (D_fieldAddr fa190_1 rfl) ?_
              refine R_r (D_load rfl (Has.own 1 rfl) (Rd.one Tryz.isAgg34 rfl)) ?_
              refine R_r (D_fieldAddr fa190_1 rfl) ?_
              refine R_r (D_load rfl (Has.own 0 rfl) (Rd.one Tryz.isAgg34 rfl)) ?_
              refine R_r (D_move rfl) ?_
              refine R_r (D_move rfl) ?_
              have hblr36 := belowP_len p x32.name
              have hszr36x := sizeL_one hx32; have hwtr36x := wtL_one hx32; have hwer36x := Node.wt_eq x32; have hspr36x := size_pos x32; have hslr36x := sizeO_lt (ox := ox) (by omega); have hwkr36x := wtO_lt (ox := ox) (by omega); have hnzr36x : sizeO (some x32) = x32.size := rfl; have hwzr36x : wtO (some x32) = 1 + Node.wtL x32.kids := rfl
              have hslr36y := sizeO_kids oy; have hnzr36y : sizeO none = 0 := rfl; have hwzr36y : wtO none = 0 := rfl
              refine R_o (E_callHE [.blk b16 (.cells (List.toArray (ChildC.cells (⟨x32.name, ChildC.zero.t⟩ : ChildC))) 190), .blk b15 (.cells (List.toArray (ChildC.cells (⟨x32.name, P_ tx32 0⟩ : ChildC))) 190), .blk b2 (.cells (List.toArray (Val.cells (valO oy))) 24), .blk b1 (.cells (List.toArray (Val.cells (valO ox))) 24)] (giv be bw bo bn v ((l ++ [(⟨p, (valO ox), (valO oy)⟩ : Change)]) ++ done)) rfl rfl rfl en62 (fun w hM hH => ih (some x32) none (by omega) (P_ tx32 0) (.pointer none) (belowP p x32.name) v ((l ++ [(⟨p, (valO ox), (valO oy)⟩ : Change)]) ++ done) Mv w hM hH (.inr ⟨tx32, x32, rfl, rfl, htx32⟩) (.inl ⟨rfl, rfl⟩) (by simp only [List.length_append, List.length_singleton] at *; omega) (by omega) (by omega)) (fun vr36 Mr36 Hr36 hler36 hpr36 => ?_))
              have q37 := OptAt.le q11 hler36
              have q38 := OptAt.le q12 hler36
              have q39 := ChA.le q13 hler36
              have q40 := ChA.le q14 hler36
              have q41 := ChA.le hja hler36
              have q42 := ChA.le hjb hler36
              have q43 := hler36 _ _ hmb31
              have q44 := fun i x h => ChildR.le hler36 (hxb31 i x h)
              have q45 := TreeAt.le hler36 htx32
              have q46 := hler36 _ _ hmb33
              have q47 := fun i x h => ChildR.le hler36 (hxb33 i x h)
              have q48 := TreeAt.le hler36 htx34
              have q49 := ChA.le u35 hler36
              obtain ⟨rfl, vr36, dlr36, hdr36, rfl⟩ := hpr36
              have hdnr36 := hdr36.len
              refine R_r (D_not rfl) ?_
              refine R_nil ?_
              refine R_cond_f rfl ?_
              refine R_skip ?_
              refine R_drop (H' := [.blk b2 (.cells (List.toArray (Val.cells (valO oy))) 24), .blk b1 (.cells (List.toArray (Val.cells (valO ox))) 24), .blk be (.cells (List.toArray [.bool false]) 4), .blk bw (.cells (List.toArray [.bool true]) 4), .blk bo (.cells (List.toArray [vr36]) 31), .blk bn (.cells (List.toArray [I (-1)]) 3), .row vr36 66 71 ((((l ++ [(⟨p, (valO ox), (valO oy)⟩ : Change)]) ++ done) ++ dlr36).length) ((((l ++ [(⟨p, (valO ox), (valO oy)⟩ : Change)]) ++ done) ++ dlr36).flatMap Change.cells)]) (.cons _ (.cons _ (List.Sublist.refl _))) ?_
              exact R_back ((if ca = 1 then (some ⟨b31, ob31, none⟩) else ((some ⟨b31, ob31, none⟩) : Option Addr).map (·.add (1 * 2))), (la.drop 1), (ca - 1), (some ⟨b33, ob33, none⟩), lb, cb, done ++ dlr36, vr36, Mr36) (by show PMem.le Mr7 Mr36 ∧ (la.drop 1).length ≤ (ca - 1) ∧ lb.length ≤ cb ∧ ChA Mr36 (if ca = 1 then (some ⟨b31, ob31, none⟩) else ((some ⟨b31, ob31, none⟩) : Option Addr).map (·.add (1 * 2))) (la.drop 1) ∧ ChA Mr36 (some ⟨b33, ob33, none⟩) lb ∧ (∀ r, DifsR (la.drop 1) lb p r → DifsR (kidsO ox) (kidsO oy) p ((done ++ dlr36) ++ r)) ∧ Node.sizeL (la.drop 1) ≤ Node.sizeL (kidsO ox) ∧ Node.sizeL lb ≤ Node.sizeL (kidsO oy) ∧ Node.wtL (la.drop 1) ≤ Node.wtL (kidsO ox) ∧ Node.wtL lb ≤ Node.wtL (kidsO oy) ∧ (done ++ dlr36).length + Node.sizeL (la.drop 1) + Node.sizeL lb ≤ Node.sizeL (kidsO ox) + Node.sizeL (kidsO oy); exact ⟨(PMem.le_trans hleV hler36), by rw [List.length_drop]; omega, by omega, q49, q42, fun r_ hr_ => by rw [List.append_assoc]; refine hdif _ ?_; rw [drop1_at hx32]; exact DifsR.left (fun z_ hz_ => by rw [hx34] at hz_; cases hz_; exact h5) hdr36 hr_, by omega, by omega, by omega, by omega, by simp only [List.length_append]; omega⟩) (by show (la.drop 1).length + lb.length < la.length + lb.length; simp only [List.length_drop]; omega) (Env.sub_cons rfl <| Env.sub_cons rfl <| Env.sub_cons rfl <| Env.sub_cons rfl <| Env.sub_nil _) rfl (by simp only [List.append_assoc])
          ·
            refine R_seq ?_
            refine Y_region [.blk b16 (.cells (List.toArray (ChildC.cells ChildC.zero)) 190), .blk b15 (.cells (List.toArray (ChildC.cells ChildC.zero)) 190), .blk b2 (.cells (List.toArray (Val.cells (valO oy))) 24), .blk b1 (.cells (List.toArray (Val.cells (valO ox))) 24), .blk be (.cells (List.toArray [.bool false]) 4), .blk bw (.cells (List.toArray [.bool true]) 4), .blk bo (.cells (List.toArray [v]) 31), .blk bn (.cells (List.toArray [I (-1)]) 3)] mixed ?_
            refine Y_r 0 rfl (D_move rfl) ?_
            refine Y_r 1 rfl (D_lenL Tryz.underlying187 rfl) ?_
            refine Y_r 2 rfl (D_eq rfl rfl) ?_
            refine Y_r 3 rfl (D_move rfl) ?_
            refine R_split 86 rfl (fun h6 => ?_) (fun h6 => ?_)
            ·
              have h6p := of_decide_eq_true h6
              exfalso; omega
            ·
              have h6p := of_decide_eq_false h6
              refine Y_r 4 rfl (D_move rfl) ?_
              refine Y_r 5 rfl (D_indexLn (0) Tryz.underlying187 Tryz.sizeOf190 rfl rfl (by first | rfl | omega) (by first | omega | (simp <;> omega))) ?_
              refine Y_r 6 rfl (D_fieldAddr fa190_0 rfl) ?_
              refine Y_r 7 rfl (D_load rfl (Has.mem hmb33) (Rd.elem0 (i := 0) hex34 Tryz.isAgg9 rfl rfl)) ?_
              refine Y_r 8 rfl (D_move rfl) ?_
              refine Y_r 9 rfl (D_indexLn (0) Tryz.underlying187 Tryz.sizeOf190 rfl rfl (by first | rfl | omega) (by first | omega | (simp <;> omega))) ?_
              refine Y_r 10 rfl (D_fieldAddr fa190_0 rfl) ?_
              refine Y_r 11 rfl (D_load rfl (Has.mem hmb31) (Rd.elem0 (i := 0) hex32 Tryz.isAgg9 rfl rfl)) ?_
              refine Y_r 12 rfl (D_ltS rfl rfl) ?_
              refine Y_r 13 rfl (D_pick false rfl rfl) ?_
              refine Y_r 14 rfl (D_assign rfl) ?_
              refine Y_nil ?_ (PMem.le_refl _) (fun _ h => List.Sublist.subset (.cons_cons _ (.cons_cons _ (.cons_cons _ (.cons_cons _ (.cons_cons _ (.cons_cons _ (.cons_cons _ (.cons_cons _ (.cons _ (.slnil)))))))))) h)
              refine R_cond rfl (fun h7 => ?_) (fun h7 => ?_)
              ·
                refine Y_region [.blk b2 (.cells (List.toArray (Val.cells (valO oy))) 24), .blk b1 (.cells (List.toArray (Val.cells (valO ox))) 24), .blk be (.cells (List.toArray [.bool false]) 4), .blk bw (.cells (List.toArray [.bool true]) 4), .blk bo (.cells (List.toArray [v]) 31), .blk bn (.cells (List.toArray [I (-1)]) 3)] mixed ?_
                refine Y_r 0 rfl (D_move rfl) ?_
                refine Y_r 1 rfl (D_indexLn (0) Tryz.underlying187 Tryz.sizeOf190 rfl rfl (by first | rfl | omega) (by first | omega | (simp <;> omega))) ?_
                refine Y_r 2 rfl (D_load rfl (Has.mem hmb33) (Rd.elemA (i := 0) hex34 Tryz.underlying190 rfl inf190 rfl)) ?_
                refine Y_r 3 rfl (D_move rfl) ?_
                have u50 := SlA.tailC hjb hcb
                refine Y_r 4 rfl (D_sliceLk (m := (lb.drop 1).length) 1 Tryz.underlying187 Tryz.sizeOf190 rfl rfl (by rw [List.length_drop]) (by omega) (by omega)) ?_
                refine Y_o 5 rfl (E_store (cs' := (ChildC.cells (⟨x34.name, P_ tx34 0⟩ : ChildC))) 0 rfl rfl rfl (Wr.agg Tryz.sizeOf190 rfl rfl rfl rfl) ?_) (PMem.le_refl _) (fun _ h => List.Sublist.subset (.cons _ (.cons _ (.cons_cons _ (.cons_cons _ (.cons_cons _ (.cons_cons _ (.cons_cons _ (.cons_cons _ (.cons _ (.slnil)))))))))) h)
                refine Y_go _ (PMem.le_refl _) (fun _ h => List.Sublist.subset (.cons _ (.cons _ (.cons_cons _ (.cons_cons _ (.cons_cons _ (.cons_cons _ (.cons_cons _ (.cons_cons _ (.cons _ (.slnil)))))))))) h) (fun _ h => h) ?_
                refine Y_r 6 rfl (D_assign rfl) ?_
                refine Y_nil ?_ (PMem.le_refl _) (fun _ h => List.Sublist.subset (.cons _ (.cons _ (.cons_cons _ (.cons_cons _ (.cons_cons _ (.cons_cons _ (.cons_cons _ (.cons_cons _ (.cons _ (.slnil)))))))))) h)
                refine R_seq ?_
                refine R_region ?_
                refine R_r (D_fieldAddr fa190_0 rfl) ?_
                refine R_r (D_load rfl (Has.own 0 rfl) (Rd.one Tryz.isAgg9 rfl)) ?_
                refine R_r (D_assign rfl) ?_
                refine R_nil ?_
                refine R_seq ?_
                refine R_seq ?_
                have hwa_ := wtL_one hx34; have hwb_ := Node.wt_eq x34; have hwc_ := wtO_kids ox; have hwd_ := wtO_kids oy
                refine R_region ?_
                refine R_r (D_move rfl) ?_
                refine R_r (D_neS rfl rfl) ?_
                refine R_nil ?_
                refine R_join [(2, S p), (3, .func (.func 60) #[] #[P_ be 0, P_ bw 0, P_ bo 0, P_ bn 0]), (11, .slice (some ⟨b31, ob31, none⟩) la.length ca), (12, .slice (if cb = 1 then (some ⟨b33, ob33, none⟩) else ((some ⟨b33, ob33, none⟩) : Option Addr).map (·.add (1 * 2))) ((lb.drop 1).length) (cb - 1)), (13, P_ b15 0), (14, P_ b16 0), (15, S (belowP p x34.name))] (M' := Mv) (H' := [.blk b16 (.cells (List.toArray (ChildC.cells (⟨x34.name, P_ tx34 0⟩ : ChildC))) 190), .blk b15 (.cells (List.toArray (ChildC.cells ChildC.zero)) 190), .blk b2 (.cells (List.toArray (Val.cells (valO oy))) 24), .blk b1 (.cells (List.toArray (Val.cells (valO ox))) 24), .blk be (.cells (List.toArray [.bool false]) 4), .blk bw (.cells (List.toArray [.bool true]) 4), .blk bo (.cells (List.toArray [v]) 31), .blk bn (.cells (List.toArray [I (-1)]) 3), .row v 66 71 (((l ++ [(⟨p, (valO ox), (valO oy)⟩ : Change)]) ++ done).length) (((l ++ [(⟨p, (valO ox), (valO oy)⟩ : Change)]) ++ done).flatMap Change.cells)]) ?_ ?_
                ·
                  refine R_cond rfl (fun h8 => ?_) (fun h8 => ?_)
                  ·
                    have h8p : ¬ (p = ([] : Str)) := by simpa using h8
                    refine R_region ?_
                    refine R_r (D_move rfl) ?_
                    refine R_r (D_addS rfl rfl (by simp; omega)) ?_
                    refine R_r (D_move rfl) ?_
                    refine R_r (D_addS rfl rfl (by simp; omega)) ?_
                    refine R_r (D_assign rfl) ?_
                    refine R_nil ?_
                    exact R_at (Env.sub_cons rfl <| Env.sub_cons rfl <| Env.sub_cons rfl <| Env.sub_cons rfl <| Env.sub_cons rfl <| Env.sub_cons rfl <| Env.sub_cons (by show some (S _) = some (S _); simp [belowP, h8p]) <| Env.sub_nil _)
                  ·
                    have h8p : (p = ([] : Str)) := by simpa using h8
                    refine R_skip ?_
                    exact R_at (Env.sub_cons rfl <| Env.sub_cons rfl <| Env.sub_cons rfl <| Env.sub_cons rfl <| Env.sub_cons rfl <| Env.sub_cons rfl <| Env.sub_cons (by show some (S _) = some (S _); simp [belowP, h8p]) <| Env.sub_nil _)
                ·
                  refine R_seq ?_
                  refine R_region ?_
                  refine R_r (D_fieldAddr fa190_1 rfl) ?_
                  refine R_r (D_load rfl (Has.own 1 rfl) (Rd.one Tryz.isAgg34 rfl)) ?_
                  refine R_r (D_fieldAddr fa190_1 rfl) ?_
                  refine R_r (D_load rfl (Has.own 0 rfl) (Rd.one Tryz.isAgg34 rfl)) ?_
                  refine R_r (D_move rfl) ?_
                  refine R_r (D_move rfl) ?_
                  have hblr51 := belowP_len p x34.name
                  have hslr51x := sizeO_kids ox; have hnzr51x : sizeO none = 0 := rfl; have hwzr51x : wtO none = 0 := rfl
                  have hszr51y := sizeL_one hx34; have hwtr51y := wtL_one hx34; have hwer51y := Node.wt_eq x34; have hspr51y := size_pos x34; have hslr51y := sizeO_lt (ox := oy) (by omega); have hwkr51y := wtO_lt (ox := oy) (by omega); have hnzr51y : sizeO (some x34) = x34.size := rfl; have hwzr51y : wtO (some x34) = 1 + Node.wtL x34.kids := rfl
                  refine R_o (E_callHE [.blk b16 (.cells (List.toArray (ChildC.cells (⟨x34.name, P_ tx34 0⟩ : ChildC))) 190), .blk b15 (.cells (List.toArray (ChildC.cells ChildC.zero)) 190), .blk b2 (.cells (List.toArray (Val.cells (valO oy))) 24), .blk b1 (.cells (List.toArray (Val.cells (valO ox))) 24)] (giv be bw bo bn v ((l ++ [(⟨p, (valO ox), (valO oy)⟩ : Change)]) ++ done)) rfl rfl rfl en62 (fun w hM hH => ih none (some x34) (by omega) (.pointer none) (P_ tx34 0) (belowP p x34.name) v ((l ++ [(⟨p, (valO ox), (valO oy)⟩ : Change)]) ++ done) Mv w hM hH (.inl ⟨rfl, rfl⟩) (.inr ⟨tx34, x34, rfl, rfl, htx34⟩) (by simp only [List.length_append, List.length_singleton] at *; omega) (by omega) (by omega)) (fun vr51 Mr51 Hr51 hler51 hpr51 => ?_))
                  have q52 := OptAt.le q11 hler51
                  have q53 := OptAt.le q12 hler51
                  have q54 := ChA.le q13 hler51
                  have q55 := ChA.le q14 hler51
                  have q56 := ChA.le hja hler51
                  have q57 := ChA.le hjb hler51
                  have q58 := hler51 _ _ hmb31
                  have q59 := fun i x h => ChildR.le hler51 (hxb31 i x h)
                  have q60 := TreeAt.le hler51 htx32
                  have q61 := hler51 _ _ hmb33
                  have q62 := fun i x h => ChildR.le hler51 (hxb33 i x h)
                  have q63 := TreeAt.le hler51 htx34
                  have q64 := ChA.le u50 hler51
                  obtain ⟨rfl, vr51, dlr51, hdr51, rfl⟩ := hpr51
                  have hdnr51 := hdr51.len
                  refine R_r (D_not rfl) ?_
                  refine R_nil ?_
                  refine R_cond_f rfl ?_
                  refine R_skip ?_
                  refine R_drop (H' := [.blk b2 (.cells (List.toArray (Val.cells (valO oy))) 24), .blk b1 (.cells (List.toArray (Val.cells (valO ox))) 24), .blk be (.cells (List.toArray [.bool false]) 4), .blk bw (.cells (List.toArray [.bool true]) 4), .blk bo (.cells (List.toArray [vr51]) 31), .blk bn (.cells (List.toArray [I (-1)]) 3), .row vr51 66 71 ((((l ++ [(⟨p, (valO ox), (valO oy)⟩ : Change)]) ++ done) ++ dlr51).length) ((((l ++ [(⟨p, (valO ox), (valO oy)⟩ : Change)]) ++ done) ++ dlr51).flatMap Change.cells)]) (.cons _ (.cons _ (List.Sublist.refl _))) ?_
                  exact R_back ((some ⟨b31, ob31, none⟩), la, ca, (if cb = 1 then (some ⟨b33, ob33, none⟩) else ((some ⟨b33, ob33, none⟩) : Option Addr).map (·.add (1 * 2))), (lb.drop 1), (cb - 1), done ++ dlr51, vr51, Mr51) (by show PMem.le Mr7 Mr51 ∧ la.length ≤ ca ∧ (lb.drop 1).length ≤ (cb - 1) ∧ ChA Mr51 (some ⟨b31, ob31, none⟩) la ∧ ChA Mr51 (if cb = 1 then (some ⟨b33, ob33, none⟩) else ((some ⟨b33, ob33, none⟩) : Option Addr).map (·.add (1 * 2))) (lb.drop 1) ∧ (∀ r, DifsR la (lb.drop 1) p r → DifsR (kidsO ox) (kidsO oy) p ((done ++ dlr51) ++ r)) ∧ Node.sizeL la ≤ Node.sizeL (kidsO ox) ∧ Node.sizeL (lb.drop 1) ≤ Node.sizeL (kidsO oy) ∧ Node.wtL la ≤ Node.wtL (kidsO ox) ∧ Node.wtL (lb.drop 1) ≤ Node.wtL (kidsO oy) ∧ (done ++ dlr51).length + Node.sizeL la + Node.sizeL (lb.drop 1) ≤ Node.sizeL (kidsO ox) + Node.sizeL (kidsO oy); exact ⟨(PMem.le_trans hleV hler51), by omega, by rw [List.length_drop]; omega, q56, q64, fun r_ hr_ => by rw [List.append_assoc]; refine hdif _ ?_; rw [drop1_at hx34]; exact DifsR.right (fun z_ hz_ => by rw [hx32] at hz_; cases hz_; exact h7) hdr51 hr_, by omega, by omega, by omega, by omega, by simp only [List.length_append]; omega⟩) (by show la.length + (lb.drop 1).length < la.length + lb.length; simp only [List.length_drop]; omega) (Env.sub_cons rfl <| Env.sub_cons rfl <| Env.sub_cons rfl <| Env.sub_cons rfl <| Env.sub_nil _) rfl (by simp only [List.append_assoc])
              ·
                refine Y_region [.blk b2 (.cells (List.toArray (Val.cells (valO oy))) 24), .blk b1 (.cells (List.toArray (Val.cells (valO ox))) 24), .blk be (.cells (List.toArray [.bool false]) 4), .blk bw (.cells (List.toArray [.bool true]) 4), .blk bo (.cells (List.toArray [v]) 31), .blk bn (.cells (List.toArray [I (-1)]) 3)] mixed ?_
                refine Y_r 0 rfl (D_move rfl) ?_
                refine Y_r 1 rfl (D_indexLn (0) Tryz.underlying187 Tryz.sizeOf190 rfl rfl (by first | rfl | omega) (by first | omega | (simp <;> omega))) ?_
                refine Y_r 2 rfl (D_load rfl (Has.mem hmb31) (Rd.elemA (i := 0) hex32 Tryz.underlying190 rfl inf190 rfl)) ?_
                refine Y_r 3 rfl (D_move rfl) ?_
                refine Y_r 4 rfl (D_indexLn (0) Tryz.underlying187 Tryz.sizeOf190 rfl rfl (by first | rfl | omega) (by first | omega | (simp <;> omega))) ?_
                refine Y_r 5 rfl (D_load rfl (Has.mem hmb33) (Rd.elemA (i := 0) hex34 Tryz.underlying190 rfl inf190 rfl)) ?_
                refine Y_r 6 rfl (D_move rfl) ?_
                have u65 := SlA.tailC hja hca
                refine Y_r 7 rfl (D_sliceLk (m := (la.drop 1).length) 1 Tryz.underlying187 Tryz.sizeOf190 rfl rfl (by rw [List.length_drop]) (by omega) (by omega)) ?_
                refine Y_r 8 rfl (D_move rfl) ?_
                have u66 := SlA.tailC hjb hcb
                refine Y_r 9 rfl (D_sliceLk (m := (lb.drop 1).length) 1 Tryz.underlying187 Tryz.sizeOf190 rfl rfl (by rw [List.length_drop]) (by omega) (by omega)) ?_
                refine Y_o 10 rfl (E_store (cs' := (ChildC.cells (⟨x32.name, P_ tx32 0⟩ : ChildC))) 1 rfl rfl rfl (Wr.agg Tryz.sizeOf190 rfl rfl rfl rfl) ?_) (PMem.le_refl _) (fun _ h => List.Sublist.subset (.cons _ (.cons _ (.cons_cons _ (.cons_cons _ (.cons_cons _ (.cons_cons _ (.cons_cons _ (.cons_cons _ (.cons _ (.slnil)))))))))) h)
                refine Y_go _ (PMem.le_refl _) (fun _ h => List.Sublist.subset (.cons _ (.cons _ (.cons_cons _ (.cons_cons _ (.cons_cons _ (.cons_cons _ (.cons_cons _ (.cons_cons _ (.cons _ (.slnil)))))))))) h) (fun _ h => h) ?_
                refine Y_o 11 rfl (E_store (cs' := (ChildC.cells (⟨x34.name, P_ tx34 0⟩ : ChildC))) 0 rfl rfl rfl (Wr.agg Tryz.sizeOf190 rfl rfl rfl rfl) ?_) (PMem.le_refl _) (fun _ h => List.Sublist.subset (.cons _ (.cons _ (.cons_cons _ (.cons_cons _ (.cons_cons _ (.cons_cons _ (.cons_cons _ (.cons_cons _ (.cons _ (.slnil)))))))))) h)
                refine Y_go _ (PMem.le_refl _) (fun _ h => List.Sublist.subset (.cons _ (.cons _ (.cons_cons _ (.cons_cons _ (.cons_cons _ (.cons_cons _ (.cons_cons _ (.cons_cons _ (.cons _ (.slnil)))))))))) h) (fun _ h => h) ?_
                refine Y_r 12 rfl (D_assign rfl) ?_
                refine Y_r 13 rfl (D_assign rfl) ?_
                refine Y_nil ?_ (PMem.le_refl _) (fun _ h => List.Sublist.subset (.cons _ (.cons _ (.cons_cons _ (.cons_cons _ (.cons_cons _ (.cons_cons _ (.cons_cons _ (.cons_cons _ (.cons _ (.slnil)))))))))) h)
                refine R_seq ?_
                refine R_region ?_
                refine R_r (D_fieldAddr fa190_0 rfl) ?_
                refine R_r (D_load rfl (Has.own 0 rfl) (Rd.one Tryz.isAgg9 rfl)) ?_
                refine R_r (D_assign rfl) ?_
                refine R_nil ?_
                refine R_seq ?_
                refine R_seq ?_
                have hwa_ := wtL_one hx34; have hwb_ := Node.wt_eq x34; have hwc_ := wtO_kids ox; have hwd_ := wtO_kids oy
                refine R_region ?_
                refine R_r (D_move rfl) ?_
                refine R_r (D_neS rfl rfl) ?_
                refine R_nil ?_
                refine R_join [(2, S p), (3, .func (.func 60) #[] #[P_ be 0, P_ bw 0, P_ bo 0, P_ bn 0]), (11, .slice (if ca = 1 then (some ⟨b31, ob31, none⟩) else ((some ⟨b31, ob31, none⟩) : Option Addr).map (·.add (1 * 2))) ((la.drop 1).length) (ca - 1)), (12, .slice (if cb = 1 then (some ⟨b33, ob33, none⟩) else ((some ⟨b33, ob33, none⟩) : Option Addr).map (·.add (1 * 2))) ((lb.drop 1).length) (cb - 1)), (13, P_ b15 0), (14, P_ b16 0), (15, S (belowP p x34.name))] (M' := Mv) (H' := [.blk b16 (.cells (List.toArray (ChildC.cells (⟨x34.name, P_ tx34 0⟩ : ChildC))) 190), .blk b15 (.cells (List.toArray (ChildC.cells (⟨x32.name, P_ tx32 0⟩ : ChildC))) 190), .blk b2 (.cells (List.toArray (Val.cells (valO oy))) 24), .blk b1 (.cells (List.toArray (Val.cells (valO ox))) 24), .blk be (.cells (List.toArray [.bool false]) 4), .blk bw (.cells (List.toArray [.bool true]) 4), .blk bo (.cells (List.toArray [v]) 31), .blk bn (.cells (List.toArray [I (-1)]) 3), .row v 66 71 (((l ++ [(⟨p, (valO ox), (valO oy)⟩ : Change)]) ++ done).length) (((l ++ [(⟨p, (valO ox), (valO oy)⟩ : Change)]) ++ done).flatMap Change.cells)]) ?_ ?_
                ·
                  refine R_cond rfl (fun h8 => ?_) (fun h8 => ?_)
                  ·
                    have h8p : ¬ (p = ([] : Str)) := by simpa using h8
                    refine R_region ?_
                    refine R_r (D_move rfl) ?_
                    refine R_r (D_addS rfl rfl (by simp; omega)) ?_
                    refine R_r (D_move rfl) ?_
                    refine R_r (D_addS rfl rfl (by simp; omega)) ?_
                    refine R_r (D_assign rfl) ?_
                    refine R_nil ?_
                    exact R_at (Env.sub_cons rfl <| Env.sub_cons rfl <| Env.sub_cons rfl <| Env.sub_cons rfl <| Env.sub_cons rfl <| Env.sub_cons rfl <| Env.sub_cons (by show some (S _) = some (S _); simp [belowP, h8p]) <| Env.sub_nil _)
                  ·
                    have h8p : (p = ([] : Str)) := by simpa using h8
                    refine R_skip ?_
                    exact R_at (Env.sub_cons rfl <| Env.sub_cons rfl <| Env.sub_cons rfl <| Env.sub_cons rfl <| Env.sub_cons rfl <| Env.sub_cons rfl <| Env.sub_cons (by show some (S _) = some (S _); simp [belowP, h8p]) <| Env.sub_nil _)
                ·
                  refine R_seq ?_
                  refine R_region ?_
                  refine R_r (D_fieldAddr fa190_1 rfl) ?_
                  refine R_r (D_load rfl (Has.own 1 rfl) (Rd.one Tryz.isAgg34 rfl)) ?_
                  refine R_r (D_fieldAddr fa190_1 rfl) ?_
                  refine R_r (D_load rfl (Has.own 0 rfl) (Rd.one Tryz.isAgg34 rfl)) ?_
                  refine R_r (D_move rfl) ?_
                  refine R_r (D_move rfl) ?_
                  have hblr67 := belowP_len p x34.name
                  have hnmr67 : x32.name.length = x34.name.length := congrArg List.length (less_tri (a := x32.name) (b := x34.name) h5 h7)
                  have hszr67x := sizeL_one hx32; have hwtr67x := wtL_one hx32; have hwer67x := Node.wt_eq x32; have hspr67x := size_pos x32; have hslr67x := sizeO_lt (ox := ox) (by omega); have hwkr67x := wtO_lt (ox := ox) (by omega); have hnzr67x : sizeO (some x32) = x32.size := rfl; have hwzr67x : wtO (some x32) = 1 + Node.wtL x32.kids := rfl
                  have hszr67y := sizeL_one hx34; have hwtr67y := wtL_one hx34; have hwer67y := Node.wt_eq x34; have hspr67y := size_pos x34; have hslr67y := sizeO_lt (ox := oy) (by omega); have hwkr67y := wtO_lt (ox := oy) (by omega); have hnzr67y : sizeO (some x34) = x34.size := rfl; have hwzr67y : wtO (some x34) = 1 + Node.wtL x34.kids := rfl
                  refine R_o (E_callHE [.blk b16 (.cells (List.toArray (ChildC.cells (⟨x34.name, P_ tx34 0⟩ : ChildC))) 190), .blk b15 (.cells (List.toArray (ChildC.cells (⟨x32.name, P_ tx32 0⟩ : ChildC))) 190), .blk b2 (.cells (List.toArray (Val.cells (valO oy))) 24), .blk b1 (.cells (List.toArray (Val.cells (valO ox))) 24)] (giv be bw bo bn v ((l ++ [(⟨p, (valO ox), (valO oy)⟩ : Change)]) ++ done)) rfl rfl rfl en62 (fun w hM hH => ih (some x32) (some x34) (by omega) (P_ tx32 0) (P_ tx34 0) (belowP p x34.name) v ((l ++ [(⟨p, (valO ox), (valO oy)⟩ : Change)]) ++ done) Mv w hM hH (.inr ⟨tx32, x32, rfl, rfl, htx32⟩) (.inr ⟨tx34, x34, rfl, rfl, htx34⟩) (by simp only [List.length_append, List.length_singleton] at *; omega) (by omega) (by omega)) (fun vr67 Mr67 Hr67 hler67 hpr67 => ?_))
                  have q68 := OptAt.le q11 hler67
                  have q69 := OptAt.le q12 hler67
                  have q70 := ChA.le q13 hler67
                  have q71 := ChA.le q14 hler67
                  have q72 := ChA.le hja hler67
                  have q73 := ChA.le hjb hler67
                  have q74 := hler67 _ _ hmb31
                  have q75 := fun i x h => ChildR.le hler67 (hxb31 i x h)
                  have q76 := TreeAt.le hler67 htx32
                  have q77 := hler67 _ _ hmb33
                  have q78 := fun i x h => ChildR.le hler67 (hxb33 i x h)
                  have q79 := TreeAt.le hler67 htx34
                  have q80 := ChA.le u65 hler67
                  have q81 := ChA.le u66 hler67
                  obtain ⟨rfl, vr67, dlr67, hdr67, rfl⟩ := hpr67
                  have hdnr67 := hdr67.len
                  refine R_r (D_not rfl) ?_
                  refine R_nil ?_
                  refine R_cond_f rfl ?_
                  refine R_skip ?_
                  refine R_drop (H' := [.blk b2 (.cells (List.toArray (Val.cells (valO oy))) 24), .blk b1 (.cells (List.toArray (Val.cells (valO ox))) 24), .blk be (.cells (List.toArray [.bool false]) 4), .blk bw (.cells (List.toArray [.bool true]) 4), .blk bo (.cells (List.toArray [vr67]) 31), .blk bn (.cells (List.toArray [I (-1)]) 3), .row vr67 66 71 ((((l ++ [(⟨p, (valO ox), (valO oy)⟩ : Change)]) ++ done) ++ dlr67).length) ((((l ++ [(⟨p, (valO ox), (valO oy)⟩ : Change)]) ++ done) ++ dlr67).flatMap Change.cells)]) (.cons _ (.cons _ (List.Sublist.refl _))) ?_
                  exact R_back ((if ca = 1 then (some ⟨b31, ob31, none⟩) else ((some ⟨b31, ob31, none⟩) : Option Addr).map (·.add (1 * 2))), (la.drop 1), (ca - 1), (if cb = 1 then (some ⟨b33, ob33, none⟩) else ((some ⟨b33, ob33, none⟩) : Option Addr).map (·.add (1 * 2))), (lb.drop 1), (cb - 1), done ++ dlr67, vr67, Mr67) (by show PMem.le Mr7 Mr67 ∧ (la.drop 1).length ≤ (ca - 1) ∧ (lb.drop 1).length ≤ (cb - 1) ∧ ChA Mr67 (if ca = 1 then (some ⟨b31, ob31, none⟩) else ((some ⟨b31, ob31, none⟩) : Option Addr).map (·.add (1 * 2))) (la.drop 1) ∧ ChA Mr67 (if cb = 1 then (some ⟨b33, ob33, none⟩) else ((some ⟨b33, ob33, none⟩) : Option Addr).map (·.add (1 * 2))) (lb.drop 1) ∧ (∀ r, DifsR (la.drop 1) (lb.drop 1) p r → DifsR (kidsO ox) (kidsO oy) p ((done ++ dlr67) ++ r)) ∧ Node.sizeL (la.drop 1) ≤ Node.sizeL (kidsO ox) ∧ Node.sizeL (lb.drop 1) ≤ Node.sizeL (kidsO oy) ∧ Node.wtL (la.drop 1) ≤ Node.wtL (kidsO ox) ∧ Node.wtL (lb.drop 1) ≤ Node.wtL (kidsO oy) ∧ (done ++ dlr67).length + Node.sizeL (la.drop 1) + Node.sizeL (lb.drop 1) ≤ Node.sizeL (kidsO ox) + Node.sizeL (kidsO oy); exact ⟨(PMem.le_trans hleV hler67), by rw [List.length_drop]; omega, by rw [List.length_drop]; omega, q80, q81, fun r_ hr_ => by rw [List.append_assoc]; refine hdif _ ?_; rw [drop1_at hx32]; rw [drop1_at hx34]; exact DifsR.both h5 h7 hdr67 hr_, by omega, by omega, by omega, by omega, by simp only [List.length_append]; omega⟩) (by show (la.drop 1).length + (lb.drop 1).length < la.length + lb.length; simp only [List.length_drop]; omega) (Env.sub_cons rfl <| Env.sub_cons rfl <| Env.sub_cons rfl <| Env.sub_cons rfl <| Env.sub_nil _) rfl (by simp only [List.append_assoc])
        ·
          have h4p := of_decide_eq_false h4
          exfalso; omega
    ·
      have h2p := of_decide_eq_false h2
      refine R_r (D_move rfl) ?_
      refine R_r (D_lenL Tryz.underlying187 rfl) ?_
      refine R_r (D_gt rfl rfl) ?_
      refine R_r (D_pick false rfl rfl) ?_
      refine R_nil ?_
      refine R_cond rfl (fun h3 => ?_) (fun h3 => ?_)
      ·
        have h3p := of_decide_eq_true h3
        refine R_skip ?_
        refine R_block ?_
        refine R_seq ?_
        refine R_region ?_
        refine R_o (E_alloc (ChildC.cells ChildC.zero) Tryz.zeroValue190 rfl (fun b82 => ?_))
        refine R_o (E_alloc (ChildC.cells ChildC.zero) Tryz.zeroValue190 rfl (fun b83 => ?_))
        refine R_nil ?_
        refine R_seq ?_
        refine R_block ?_
        refine R_seq ?_
        refine Y_region [.blk b83 (.cells (List.toArray (ChildC.cells ChildC.zero)) 190), .blk b82 (.cells (List.toArray (ChildC.cells ChildC.zero)) 190), .blk b2 (.cells (List.toArray (Val.cells (valO oy))) 24), .blk b1 (.cells (List.toArray (Val.cells (valO ox))) 24), .blk be (.cells (List.toArray [.bool false]) 4), .blk bw (.cells (List.toArray [.bool true]) 4), .blk bo (.cells (List.toArray [v]) 31), .blk bn (.cells (List.toArray [I (-1)]) 3)] mixed ?_
        refine Y_r 0 rfl (D_move rfl) ?_
        refine Y_r 1 rfl (D_lenL Tryz.underlying187 rfl) ?_
        refine Y_r 2 rfl (D_eq rfl rfl) ?_
        refine Y_r 3 rfl (D_move rfl) ?_
        refine R_split 58 rfl (fun h4 => ?_) (fun h4 => ?_)
        ·
          have h4p := of_decide_eq_true h4
          exfalso; omega
        ·
          have h4p := of_decide_eq_false h4
          refine Y_r 4 rfl (D_move rfl) ?_
          refine Y_r 5 rfl (D_lenL Tryz.underlying187 rfl) ?_
          refine Y_r 6 rfl (D_gt rfl rfl) ?_
          refine Y_r 7 rfl (D_move rfl) ?_
          refine R_split 62 rfl (fun h5 => ?_) (fun h5 => ?_)
          ·
            have h5p := of_decide_eq_true h5
            exfalso; omega
          ·
            have h5p := of_decide_eq_false h5
            refine Y_skip 8 rfl rfl ?_
            refine Y_skip 9 rfl rfl ?_
            refine Y_skip 10 rfl rfl ?_
            refine Y_skip 11 rfl rfl ?_
            refine Y_skip 12 rfl rfl ?_
            refine Y_skip 13 rfl rfl ?_
            refine Y_skip 14 rfl rfl ?_
            refine Y_skip 15 rfl rfl ?_
            refine Y_skip 16 rfl rfl ?_
            refine Y_r 17 rfl (D_pick false rfl rfl) ?_
            refine Y_r 18 rfl (D_pick false rfl rfl) ?_
            refine Y_r 19 rfl (D_assign rfl) ?_
            refine Y_nil ?_ (PMem.le_refl _) (fun _ h => List.Sublist.subset (.cons_cons _ (.cons_cons _ (.cons_cons _ (.cons_cons _ (.cons_cons _ (.cons_cons _ (.cons_cons _ (.cons_cons _ (.cons _ (.slnil)))))))))) h)
            refine R_cond_f rfl ?_
            refine R_seq ?_
            refine Y_region [.blk b83 (.cells (List.toArray (ChildC.cells ChildC.zero)) 190), .blk b82 (.cells (List.toArray (ChildC.cells ChildC.zero)) 190), .blk b2 (.cells (List.toArray (Val.cells (valO oy))) 24), .blk b1 (.cells (List.toArray (Val.cells (valO ox))) 24), .blk be (.cells (List.toArray [.bool false]) 4), .blk bw (.cells (List.toArray [.bool true]) 4), .blk bo (.cells (List.toArray [v]) 31), .blk bn (.cells (List.toArray [I (-1)]) 3)] mixed ?_
            refine Y_r 0 rfl (D_move rfl) ?_
            refine Y_r 1 rfl (D_lenL Tryz.underlying187 rfl) ?_
            refine Y_r 2 rfl (D_eq rfl rfl) ?_
            refine Y_r 3 rfl (D_move rfl) ?_
            refine R_split 86 rfl (fun h6 => ?_) (fun h6 => ?_)
            ·
              have h6p := of_decide_eq_true h6
              refine Y_skip 4 rfl rfl ?_
              refine Y_skip 5 rfl rfl ?_
              refine Y_skip 6 rfl rfl ?_
              refine Y_skip 7 rfl rfl ?_
              refine Y_skip 8 rfl rfl ?_
              refine Y_skip 9 rfl rfl ?_
              refine Y_skip 10 rfl rfl ?_
              refine Y_skip 11 rfl rfl ?_
              refine Y_skip 12 rfl rfl ?_
              refine Y_r 13 rfl (D_pick true rfl rfl) ?_
              refine Y_r 14 rfl (D_assign rfl) ?_
              refine Y_nil ?_ (PMem.le_refl _) (fun _ h => List.Sublist.subset (.cons_cons _ (.cons_cons _ (.cons_cons _ (.cons_cons _ (.cons_cons _ (.cons_cons _ (.cons_cons _ (.cons_cons _ (.cons _ (.slnil)))))))))) h)
              refine R_cond_t rfl ?_
              refine Y_region [.blk b2 (.cells (List.toArray (Val.cells (valO oy))) 24), .blk b1 (.cells (List.toArray (Val.cells (valO ox))) 24), .blk be (.cells (List.toArray [.bool false]) 4), .blk bw (.cells (List.toArray [.bool true]) 4), .blk bo (.cells (List.toArray [v]) 31), .blk bn (.cells (List.toArray [I (-1)]) 3)] mixed ?_
              refine Y_r 0 rfl (D_move rfl) ?_
              obtain ⟨b84, ob84, csb84, elb84, frb84, rfl, hmb84, hxb84⟩ := hjb.at (i := 0) (by first | omega | (simp; omega))
              obtain ⟨x85, hx85⟩ : ∃ e_, lb[0]? = some e_ := ⟨_, List.getElem?_eq_getElem (by omega)⟩
              obtain ⟨tx85, hex85, htx85⟩ := hxb84 0 x85 hx85
              refine Y_r 1 rfl (D_indexLn (0) Tryz.underlying187 Tryz.sizeOf190 rfl rfl (by first | rfl | omega) (by first | omega | (simp <;> omega))) ?_
              refine Y_r 2 rfl (D_load rfl (Has.mem hmb84) (Rd.elemA (i := 0) hex85 Tryz.underlying190 rfl inf190 rfl)) ?_
              refine Y_r 3 rfl (D_move rfl) ?_
              have u86 := SlA.tailC hjb hcb
              refine Y_r 4 rfl (D_sliceLk (m := (lb.drop 1).length) 1 Tryz.underlying187 Tryz.sizeOf190 rfl rfl (by rw [List.length_drop]) (by omega) (by omega)) ?_
              refine Y_o 5 rfl (E_store (cs' := (ChildC.cells (⟨x85.name, P_ tx85 0⟩ : ChildC))) 0 rfl rfl rfl (Wr.agg Tryz.sizeOf190 rfl rfl rfl rfl) ?_) (PMem.le_refl _) (fun _ h => List.Sublist.subset (.cons _ (.cons _ (.cons_cons _ (.cons_cons _ (.cons_cons _ (.cons_cons _ (.cons_cons _ (.cons_cons _ (.cons _ (.slnil)))))))))) h)
              refine Y_go _ (PMem.le_refl _) (fun _ h => List.Sublist.subset (.cons _ (.cons _ (.cons_cons _ (.cons_cons _ (.cons_cons _ (.cons_cons _ (.cons_cons _ (.cons_cons _ (.cons _ (.slnil)))))))))) h) (fun _ h => h) ?_
              refine Y_r 6 rfl (D_assign rfl) ?_
              refine Y_nil ?_ (PMem.le_refl _) (fun _ h => List.Sublist.subset (.cons _ (.cons _ (.cons_cons _ (.cons_cons _ (.cons_cons _ (.cons_cons _ (.cons_cons _ (.cons_cons _ (.cons _ (.slnil)))))))))) h)
              refine R_seq ?_
              refine R_region ?_
              refine R_r (D_fieldAddr fa190_0 rfl) ?_
              refine R_r (D_load rfl (Has.own 0 rfl) (Rd.one Tryz.isAgg9 rfl)) ?_
              refine R_r (D_assign rfl) ?_
              refine R_nil ?_
              refine R_seq ?_
              refine R_seq ?_
              have hwa_ := wtL_one hx85; have hwb_ := Node.wt_eq x85; have hwc_ := wtO_kids ox; have hwd_ := wtO_kids oy
              refine R_region ?_
              refine R_r (D_move rfl) ?_
              refine R_r (D_neS rfl rfl) ?_
              refine R_nil ?_
              refine R_join [(2, S p), (3, .func (.func 60) #[] #[P_ be 0, P_ bw 0, P_ bo 0, P_ bn 0]), (11, .slice aa la.length ca), (12, .slice (if cb = 1 then (some ⟨b84, ob84, none⟩) else ((some ⟨b84, ob84, none⟩) : Option Addr).map (·.add (1 * 2))) ((lb.drop 1).length) (cb - 1)), (13, P_ b82 0), (14, P_ b83 0), (15, S (belowP p x85.name))] (M' := Mv) (H' := [.blk b83 (.cells (List.toArray (ChildC.cells (⟨x85.name, P_ tx85 0⟩ : ChildC))) 190), .blk b82 (.cells (List.toArray (ChildC.cells ChildC.zero)) 190), .blk b2 (.cells (List.toArray (Val.cells (valO oy))) 24), .blk b1 (.cells (List.toArray (Val.cells (valO ox))) 24), .blk be (.cells (List.toArray [.bool false]) 4), .blk bw (.cells (List.toArray [.bool true]) 4), .blk bo (.cells (List.toArray [v]) 31), .blk bn (.cells (List.toArray [I (-1)]) 3), .row v 66 71 (((l ++ [(⟨p, (valO ox), (valO oy)⟩ : Change)]) ++ done).length) (((l ++ [(⟨p, (valO ox), (valO oy)⟩ : Change)]) ++ done).flatMap Change.cells)]) ?_ ?_
              ·
                refine R_cond rfl (fun h7 => ?_) (fun h7 => ?_)
                ·
                  have h7p : ¬ (p = ([] : Str)) := by simpa using h7
                  refine R_region ?_
                  refine R_r (D_move rfl) ?_
                  refine R_r (D_addS rfl rfl (by simp; omega)) ?_
                  refine R_r (D_move rfl) ?_
                  refine R_r (D_addS rfl rfl (by simp; omega)) ?_
                  refine R_r (D_assign rfl) ?_
                  refine R_nil ?_
                  exact R_at (Env.sub_cons rfl <| Env.sub_cons rfl <| Env.sub_cons rfl <| Env.sub_cons rfl <| Env.sub_cons rfl <| Env.sub_cons rfl <| Env.sub_cons (by show some (S _) = some (S _); simp [belowP, h7p]) <| Env.sub_nil _)
                ·
                  have h7p : (p = ([] : Str)) := by simpa using h7
                  refine R_skip ?_
                  exact R_at (Env.sub_cons rfl <| Env.sub_cons rfl <| Env.sub_cons rfl <| Env.sub_cons rfl <| Env.sub_cons rfl <| Env.sub_cons rfl <| Env.sub_cons (by show some (S _) = some (S _); simp [belowP, h7p]) <| Env.sub_nil _)
              ·
                refine R_seq ?_
                refine R_region ?_
                refine R_r (D_fieldAddr fa190_1 rfl) ?_
                refine R_r (D_load rfl (Has.own 1 rfl) (Rd.one Tryz.isAgg34 rfl)) ?_
                refine R_r (D_fieldAddr fa190_1 rfl) ?_
                refine R_r (D_load rfl (Has.own 0 rfl) (Rd.one Tryz.isAgg34 rfl)) ?_
                refine R_r (D_move rfl) ?_
                refine R_r (D_move rfl) ?_
                have hblr87 := belowP_len p x85.name
                have hslr87x := sizeO_kids ox; have hnzr87x : sizeO none = 0 := rfl; have hwzr87x : wtO none = 0 := rfl
                have hszr87y := sizeL_one hx85; have hwtr87y := wtL_one hx85; have hwer87y := Node.wt_eq x85; have hspr87y := size_pos x85; have hslr87y := sizeO_lt (ox := oy) (by omega); have hwkr87y := wtO_lt (ox := oy) (by omega); have hnzr87y : sizeO (some x85) = x85.size := rfl; have hwzr87y : wtO (some x85) = 1 + Node.wtL x85.kids := rfl
                refine R_o (E_callHE [.blk b83 (.cells (List.toArray (ChildC.cells (⟨x85.name, P_ tx85 0⟩ : ChildC))) 190), .blk b82 (.cells (List.toArray (ChildC.cells ChildC.zero)) 190), .blk b2 (.cells (List.toArray (Val.cells (valO oy))) 24), .blk b1 (.cells (List.toArray (Val.cells (valO ox))) 24)] (giv be bw bo bn v ((l ++ [(⟨p, (valO ox), (valO oy)⟩ : Change)]) ++ done)) rfl rfl rfl en62 (fun w hM hH => ih none (some x85) (by omega) (.pointer none) (P_ tx85 0) (belowP p x85.name) v ((l ++ [(⟨p, (valO ox), (valO oy)⟩ : Change)]) ++ done) Mv w hM hH (.inl ⟨rfl, rfl⟩) (.inr ⟨tx85, x85, rfl, rfl, htx85⟩) (by simp only [List.length_append, List.length_singleton] at *; omega) (by omega) (by omega)) (fun vr87 Mr87 Hr87 hler87 hpr87 => ?_))
                have q88 := OptAt.le q11 hler87
                have q89 := OptAt.le q12 hler87
                have q90 := ChA.le q13 hler87
                have q91 := ChA.le q14 hler87
                have q92 := ChA.le hja hler87
                have q93 := ChA.le hjb hler87
                have q94 := hler87 _ _ hmb84
                have q95 := fun i x h => ChildR.le hler87 (hxb84 i x h)
                have q96 := TreeAt.le hler87 htx85
                have q97 := ChA.le u86 hler87
                obtain ⟨rfl, vr87, dlr87, hdr87, rfl⟩ := hpr87
                have hdnr87 := hdr87.len
                refine R_r (D_not rfl) ?_
                refine R_nil ?_
                refine R_cond_f rfl ?_
                refine R_skip ?_
                refine R_drop (H' := [.blk b2 (.cells (List.toArray (Val.cells (valO oy))) 24), .blk b1 (.cells (List.toArray (Val.cells (valO ox))) 24), .blk be (.cells (List.toArray [.bool false]) 4), .blk bw (.cells (List.toArray [.bool true]) 4), .blk bo (.cells (List.toArray [vr87]) 31), .blk bn (.cells (List.toArray [I (-1)]) 3), .row vr87 66 71 ((((l ++ [(⟨p, (valO ox), (valO oy)⟩ : Change)]) ++ done) ++ dlr87).length) ((((l ++ [(⟨p, (valO ox), (valO oy)⟩ : Change)]) ++ done) ++ dlr87).flatMap Change.cells)]) (.cons _ (.cons _ (List.Sublist.refl _))) ?_
                exact R_back (aa, la, ca, (if cb = 1 then (some ⟨b84, ob84, none⟩) else ((some ⟨b84, ob84, none⟩) : Option Addr).map (·.add (1 * 2))), (lb.drop 1), (cb - 1), done ++ dlr87, vr87, Mr87) (by show PMem.le Mr7 Mr87 ∧ la.length ≤ ca ∧ (lb.drop 1).length ≤ (cb - 1) ∧ ChA Mr87 aa la ∧ ChA Mr87 (if cb = 1 then (some ⟨b84, ob84, none⟩) else ((some ⟨b84, ob84, none⟩) : Option Addr).map (·.add (1 * 2))) (lb.drop 1) ∧ (∀ r, DifsR la (lb.drop 1) p r → DifsR (kidsO ox) (kidsO oy) p ((done ++ dlr87) ++ r)) ∧ Node.sizeL la ≤ Node.sizeL (kidsO ox) ∧ Node.sizeL (lb.drop 1) ≤ Node.sizeL (kidsO oy) ∧ Node.wtL la ≤ Node.wtL (kidsO ox) ∧ Node.wtL (lb.drop 1) ≤ Node.wtL (kidsO oy) ∧ (done ++ dlr87).length + Node.sizeL la + Node.sizeL (lb.drop 1) ≤ Node.sizeL (kidsO ox) + Node.sizeL (kidsO oy); exact ⟨(PMem.le_trans hleV hler87), by omega, by rw [List.length_drop]; omega, q92, q97, fun r_ hr_ => by rw [List.append_assoc]; refine hdif _ ?_; rw [drop1_at hx85]; exact DifsR.right (fun z_ hz_ => by rw [List.eq_nil_of_length_eq_zero (l := la) (by omega)] at hz_; simp at hz_) hdr87 hr_, by omega, by omega, by omega, by omega, by simp only [List.length_append]; omega⟩) (by show la.length + (lb.drop 1).length < la.length + lb.length; simp only [List.length_drop]; omega) (Env.sub_cons rfl <| Env.sub_cons rfl <| Env.sub_cons rfl <| Env.sub_cons rfl <| Env.sub_nil _) rfl (by simp only [List.append_assoc])
            ·
              have h6p := of_decide_eq_false h6
              exfalso; omega
      ·
        have h3p := of_decide_eq_false h3
        refine R_exit rfl ?_
        refine R_seq ?_
        refine R_region ?_
        refine R_r (D_assign rfl) ?_
        refine R_nil ?_
        refine R_ret ?_
        refine R_drop (H' := [.blk be (.cells (List.toArray [.bool false]) 4), .blk bw (.cells (List.toArray [.bool true]) 4), .blk bo (.cells (List.toArray [v]) 31), .blk bn (.cells (List.toArray [I (-1)]) 3), .row v 66 71 (((l ++ [(⟨p, (valO ox), (valO oy)⟩ : Change)]) ++ done).length) (((l ++ [(⟨p, (valO ox), (valO oy)⟩ : Change)]) ++ done).flatMap Change.cells)]) (.cons _ (.cons _ (.cons_cons _ (.cons_cons _ (.cons_cons _ (.cons_cons _ (.cons_cons _ (.slnil)))))))) ?_
        refine R_fin1 rfl rfl ?_
        have hdd := hdif [] (by rw [List.eq_nil_of_length_eq_zero (l := la) (by omega), List.eq_nil_of_length_eq_zero (l := lb) (by omega)]; exact .nil)
        rw [List.append_nil] at hdd
        have hdm := DifR.mk hdd
        rw [if_neg h1p] at hdm
        exact ⟨rfl, v, _, hdm, by simp⟩
  ·
    have h1p : ((valO ox) = (valO oy)) := by simpa using h1
    refine R_skipop rfl rfl rfl ?_
    refine R_skipop rfl rfl rfl ?_
    refine R_skipop rfl rfl rfl ?_
    refine R_skipop rfl rfl rfl ?_
    refine R_skipop rfl rfl rfl ?_
    refine R_skipop rfl rfl rfl ?_
    refine R_skipop rfl rfl rfl ?_
    refine R_r (D_pick false rfl rfl) ?_
    refine R_nil ?_
    refine R_cond_f rfl ?_
    refine R_skip ?_
    refine R_seq ?_
    refine R_region ?_
    refine R_r (D_move rfl) ?_
    refine R_o (E_callP rfl rfl en96 (fun w hM => childrenO_C ox vx M w hM hox (by omega)) (fun vr98 Mr98 Hr98 hler98 hpr98 => ?_))
    have q99 := OptAt.le hox hler98
    have q100 := OptAt.le hoy hler98
    obtain ⟨rfl, ar98, cr98, rfl, hcr98, hjr98⟩ := hpr98
    refine R_r (D_move rfl) ?_
    refine R_o (E_callP rfl rfl en96 (fun w hM => childrenO_C oy vy Mr98 w hM q100 (by omega)) (fun vr101 Mr101 Hr101 hler101 hpr101 => ?_))
    have q102 := OptAt.le q99 hler101
    have q103 := OptAt.le q100 hler101
    have q104 := ChA.le hjr98 hler101
    obtain ⟨rfl, ar101, cr101, rfl, hcr101, hjr101⟩ := hpr101
    refine R_r (D_assign rfl) ?_
    refine R_r (D_assign rfl) ?_
    refine R_nil ?_
    refine R_seq ?_
    refine R_block ?_
    refine R_loop (σ := (Option Addr) × (List Node) × (Nat) × (Option Addr) × (List Node) × (Nat) × (List Change) × (Value) × (PMem)) (fun gs => ([(2, S p), (3, .func (.func 60) #[] #[P_ be 0, P_ bw 0, P_ bo 0, P_ bn 0]), (11, .slice gs.1 gs.2.1.length gs.2.2.1), (12, .slice gs.2.2.2.1 gs.2.2.2.2.1.length gs.2.2.2.2.2.1)], gs.2.2.2.2.2.2.2.2, [.blk b2 (.cells (List.toArray (Val.cells (valO oy))) 24), .blk b1 (.cells (List.toArray (Val.cells (valO ox))) 24), .blk be (.cells (List.toArray [.bool false]) 4), .blk bw (.cells (List.toArray [.bool true]) 4), .blk bo (.cells (List.toArray [gs.2.2.2.2.2.2.2.1]) 31), .blk bn (.cells (List.toArray [I (-1)]) 3), .row gs.2.2.2.2.2.2.2.1 66 71 ((l ++ gs.2.2.2.2.2.2.1).length) ((l ++ gs.2.2.2.2.2.2.1).flatMap Change.cells)])) (fun gs => PMem.le Mr101 gs.2.2.2.2.2.2.2.2 ∧ gs.2.1.length ≤ gs.2.2.1 ∧ gs.2.2.2.2.1.length ≤ gs.2.2.2.2.2.1 ∧ ChA gs.2.2.2.2.2.2.2.2 gs.1 gs.2.1 ∧ ChA gs.2.2.2.2.2.2.2.2 gs.2.2.2.1 gs.2.2.2.2.1 ∧ (∀ r, DifsR gs.2.1 gs.2.2.2.2.1 p r → DifsR (kidsO ox) (kidsO oy) p (gs.2.2.2.2.2.2.1 ++ r)) ∧ Node.sizeL gs.2.1 ≤ Node.sizeL (kidsO ox) ∧ Node.sizeL gs.2.2.2.2.1 ≤ Node.sizeL (kidsO oy) ∧ Node.wtL gs.2.1 ≤ Node.wtL (kidsO ox) ∧ Node.wtL gs.2.2.2.2.1 ≤ Node.wtL (kidsO oy) ∧ gs.2.2.2.2.2.2.1.length + Node.sizeL gs.2.1 + Node.sizeL gs.2.2.2.2.1 ≤ Node.sizeL (kidsO ox) + Node.sizeL (kidsO oy)) (fun gs => gs.2.1.length + gs.2.2.2.2.1.length) (ar98, (kidsO ox), cr98, ar101, (kidsO oy), cr101, [], v, Mr101) ?_ (Env.sub_cons rfl <| Env.sub_cons rfl <| Env.sub_cons rfl <| Env.sub_cons rfl <| Env.sub_nil _) rfl (by simp) ?_
    · show PMem.le Mr101 Mr101 ∧ (kidsO ox).length ≤ cr98 ∧ (kidsO oy).length ≤ cr101 ∧ ChA Mr101 ar98 (kidsO ox) ∧ ChA Mr101 ar101 (kidsO oy) ∧ (∀ r, DifsR (kidsO ox) (kidsO oy) p r → DifsR (kidsO ox) (kidsO oy) p (([]) ++ r)) ∧ Node.sizeL (kidsO ox) ≤ Node.sizeL (kidsO ox) ∧ Node.sizeL (kidsO oy) ≤ Node.sizeL (kidsO oy) ∧ Node.wtL (kidsO ox) ≤ Node.wtL (kidsO ox) ∧ Node.wtL (kidsO oy) ≤ Node.wtL (kidsO oy) ∧ ([]).length + Node.sizeL (kidsO ox) + Node.sizeL (kidsO oy) ≤ Node.sizeL (kidsO ox) + Node.sizeL (kidsO oy); exact ⟨PMem.le_refl _, hcr98, hcr101, q104, hjr101, fun r h => h, Nat.le_refl _, Nat.le_refl _, Nat.le_refl _, Nat.le_refl _, by simp⟩
    rintro ⟨aa, la, ca, ab, lb, cb, done, v, Mv⟩ hok
    replace hok : PMem.le Mr101 Mv ∧ la.length ≤ ca ∧ lb.length ≤ cb ∧ ChA Mv aa la ∧ ChA Mv ab lb ∧ (∀ r, DifsR la lb p r → DifsR (kidsO ox) (kidsO oy) p (done ++ r)) ∧ Node.sizeL la ≤ Node.sizeL (kidsO ox) ∧ Node.sizeL lb ≤ Node.sizeL (kidsO oy) ∧ Node.wtL la ≤ Node.wtL (kidsO ox) ∧ Node.wtL lb ≤ Node.wtL (kidsO oy) ∧ done.length + Node.sizeL la + Node.sizeL lb ≤ Node.sizeL (kidsO ox) + Node.sizeL (kidsO oy) := hok
    show Cx.R _ _ _ [(2, S p), (3, .func (.func 60) #[] #[P_ be 0, P_ bw 0, P_ bo 0, P_ bn 0]), (11, .slice aa la.length ca), (12, .slice ab lb.length cb)] Mv [.blk b2 (.cells (List.toArray (Val.cells (valO oy))) 24), .blk b1 (.cells (List.toArray (Val.cells (valO ox))) 24), .blk be (.cells (List.toArray [.bool false]) 4), .blk bw (.cells (List.toArray [.bool true]) 4), .blk bo (.cells (List.toArray [v]) 31), .blk bn (.cells (List.toArray [I (-1)]) 3), .row v 66 71 ((l ++ done).length) ((l ++ done).flatMap Change.cells)]
    obtain ⟨hleV, hca, hcb, hja, hjb, hdif, hs1, hs2, hw1, hw2, hdn⟩ := hok
    have q105 := OptAt.le q102 hleV
    have q106 := OptAt.le q103 hleV
    have q107 := ChA.le q104 hleV
    have q108 := ChA.le hjr101 hleV
    refine R_seq ?_
    refine R_seq ?_
    refine R_region ?_
    refine R_r (D_move rfl) ?_
    refine R_r (D_lenL Tryz.underlying187 rfl) ?_
    refine R_r (D_gt rfl rfl) ?_
    refine R_r (D_move rfl) ?_
    refine R_split 39 rfl (fun h2 => ?_) (fun h2 => ?_)
    ·
      have h2p := of_decide_eq_true h2
      refine R_skipop rfl rfl rfl ?_
      refine R_skipop rfl rfl rfl ?_
      refine R_skipop rfl rfl rfl ?_
      refine R_r (D_pick true rfl rfl) ?_
      refine R_nil ?_
      refine R_cond_t rfl ?_
      refine R_skip ?_
      refine R_block ?_
      refine R_seq ?_
      refine R_region ?_
      refine R_o (E_alloc (ChildC.cells ChildC.zero) Tryz.zeroValue190 rfl (fun b109 => ?_))
      refine R_o (E_alloc (ChildC.cells ChildC.zero) Tryz.zeroValue190 rfl (fun b110 => ?_))
      refine R_nil ?_
      refine R_seq ?_
      refine R_block ?_
      refine R_seq ?_
      refine Y_region [.blk b110 (.cells (List.toArray (ChildC.cells ChildC.zero)) 190), .blk b109 (.cells (List.toArray (ChildC.cells ChildC.zero)) 190), .blk b2 (.cells (List.toArray (Val.cells (valO oy))) 24), .blk b1 (.cells (List.toArray (Val.cells (valO ox))) 24), .blk be (.cells (List.toArray [.bool false]) 4), .blk bw (.cells (List.toArray [.bool true]) 4), .blk bo (.cells (List.toArray [v]) 31), .blk bn (.cells (List.toArray [I (-1)]) 3)] mixed ?_
      refine Y_r 0 rfl (D_move rfl) ?_
      refine Y_r 1 rfl (D_lenL Tryz.underlying187 rfl) ?_
      refine Y_r 2 rfl (D_eq rfl rfl) ?_
      refine Y_r 3 rfl (D_move rfl) ?_
      refine R_split 58 rfl (fun h3 => ?_) (fun h3 => ?_)
      ·
        have h3p := of_decide_eq_true h3
        refine Y_skip 4 rfl rfl ?_
        refine Y_skip 5 rfl rfl ?_
        refine Y_skip 6 rfl rfl ?_
        refine Y_skip 7 rfl rfl ?_
        refine Y_skip 8 rfl rfl ?_
        refine Y_skip 9 rfl rfl ?_
        refine Y_skip 10 rfl rfl ?_
        refine Y_skip 11 rfl rfl ?_
        refine Y_skip 12 rfl rfl ?_
        refine Y_skip 13 rfl rfl ?_
        refine Y_skip 14 rfl rfl ?_
        refine Y_skip 15 rfl rfl ?_
        refine Y_skip 16 rfl rfl ?_
        refine Y_skip 17 rfl rfl ?_
        refine Y_r 18 rfl (D_pick true rfl rfl) ?_
        refine Y_r 19 rfl (D_assign rfl) ?_
        refine Y_nil ?_ (PMem.le_refl _) (fun _ h => List.Sublist.subset (.cons_cons _ (.cons_cons _ (.cons_cons _ (.cons_cons _ (.cons_cons _ (.cons_cons _ (.cons_cons _ (.cons_cons _ (.cons _ (.slnil)))))))))) h)
        refine R_cond_t rfl ?_
        refine R_seq ?_
        refine Y_region [.blk b2 (.cells (List.toArray (Val.cells (valO oy))) 24), .blk b1 (.cells (List.toArray (Val.cells (valO ox))) 24), .blk be (.cells (List.toArray [.bool false]) 4), .blk bw (.cells (List.toArray [.bool true]) 4), .blk bo (.cells (List.toArray [v]) 31), .blk bn (.cells (List.toArray [I (-1)]) 3)] mixed ?_
        refine Y_r 0 rfl (D_move rfl) ?_
        obtain ⟨b111, ob111, csb111, elb111, frb111, rfl, hmb111, hxb111⟩ := hja.at (i := 0) (by first | omega | (simp; omega))
        obtain ⟨x112, hx112⟩ : ∃ e_, la[0]? = some e_ := ⟨_, List.getElem?_eq_getElem (by omega)⟩
        obtain ⟨tx112, hex112, htx112⟩ := hxb111 0 x112 hx112
        refine Y_r 1 rfl (D_indexLn (0) Tryz.underlying187 Tryz.sizeOf190 rfl rfl (by first | rfl | omega) (by first | omega | (simp <;> omega))) ?_
        refine Y_r 2 rfl (D_load rfl (Has.mem hmb111) (Rd.elemA (i := 0) hex112 Tryz.underlying190 rfl inf190 rfl)) ?_
        refine Y_r 3 rfl (D_move rfl) ?_
        have u113 := SlA.tailC hja hca
        refine Y_r 4 rfl (D_sliceLk (m := (la.drop 1).length) 1 Tryz.underlying187 Tryz.sizeOf190 rfl rfl (by rw [List.length_drop]) (by omega) (by omega)) ?_
        refine Y_o 5 rfl (E_store (cs' := (ChildC.cells (⟨x112.name, P_ tx112 0⟩ : ChildC))) 1 rfl rfl rfl (Wr.agg Tryz.sizeOf190 rfl rfl rfl rfl) ?_) (PMem.le_refl _) (fun _ h => List.Sublist.subset (.cons _ (.cons _ (.cons_cons _ (.cons_cons _ (.cons_cons _ (.cons_cons _ (.cons_cons _ (.cons_cons _ (.cons _ (.slnil)))))))))) h)
        refine Y_go _ (PMem.le_refl _) (fun _ h => List.Sublist.subset (.cons _ (.cons _ (.cons_cons _ (.cons_cons _ (.cons_cons _ (.cons_cons _ (.cons_cons _ (.cons_cons _ (.cons _ (.slnil)))))))))) h) (fun _ h => h) ?_
        refine Y_r 6 rfl (D_assign rfl) ?_
        refine Y_nil ?_ (PMem.le_refl _) (fun _ h => List.Sublist.subset (.cons _ (.cons _ (.cons_cons _ (.cons_cons _ (.cons_cons _ (.cons_cons _ (.cons_cons _ (.cons_cons _ (.cons _ (.slnil)))))))))) h)
        refine R_region ?_
        refine R_r (D_fieldAddr fa190_0 rfl) ?_
        refine R_r (D_load rfl (Has.own 1 rfl) (Rd.one Tryz.isAgg9 rfl)) ?_
        refine R_r (D_fieldAddr fa190_0 rfl) ?_
        refine R_o (E_store (cs' := (ChildC.cells (⟨x112.name, ChildC.zero.t⟩ : ChildC))) 0 rfl rfl rfl (Wr.one Tryz.sizeOf9 rfl rfl rfl) ?_)
        refine R_nil ?_
        refine R_seq ?_
        refine R_region ?_
        refine R_r (D_fieldAddr fa190_0 rfl) ?_
        refine R_r (D_load rfl (Has.own 0 rfl) (Rd.one Tryz.isAgg9 rfl)) ?_
        refine R_r (D_assign rfl) ?_
        refine R_nil ?_
        refine R_seq ?_
        refine R_seq ?_
        have hwa_ := wtL_one hx112; have hwb_ := Node.wt_eq x112; have hwc_ := wtO_kids ox; have hwd_ := wtO_kids oy
        refine R_region ?_
        refine R_r (D_move rfl) ?_
        refine R_r (D_neS rfl rfl) ?_
        refine R_nil ?_
        refine R_join [(2, S p), (3, .func (.func 60) #[] #[P_ be 0, P_ bw 0, P_ bo 0, P_ bn 0]), (11, .slice (if ca = 1 then (some ⟨b111, ob111, none⟩) else ((some ⟨b111, ob111, none⟩) : Option Addr).map (·.add (1 * 2))) ((la.drop 1).length) (ca - 1)), (12, .slice ab lb.length cb), (13, P_ b109 0), (14, P_ b110 0), (15, S (belowP p x112.name))] (M' := Mv) (H' := [.blk b110 (.cells (List.toArray (ChildC.cells (⟨x112.name, ChildC.zero.t⟩ : ChildC))) 190), .blk b109 (.cells (List.toArray (ChildC.cells (⟨x112.name, P_ tx112 0⟩ : ChildC))) 190), .blk b2 (.cells (List.toArray (Val.cells (valO oy))) 24), .blk b1 (.cells (List.toArray (Val.cells (valO ox))) 24), .blk be (.cells (List.toArray [.bool false]) 4), .blk bw (.cells (List.toArray [.bool true]) 4), .blk bo (.cells (List.toArray [v]) 31), .blk bn (.cells (List.toArray [I (-1)]) 3), .row v 66 71 ((l ++ done).length) ((l ++ done).flatMap Change.cells)]) ?_ ?_
        ·
          refine R_cond rfl (fun h4 => ?_) (fun h4 => ?_)
          ·
            have h4p : ¬ (p = ([] : Str)) := by simpa using h4
            refine R_region ?_
            refine R_r (D_move rfl) ?_
            refine R_r (D_addS rfl rfl (by simp; omega)) ?_
            refine R_r (D_move rfl) ?_
            refine R_r (D_addS rfl rfl (by simp; omega)) ?_
            refine R_r (D_assign rfl) ?_
            refine R_nil ?_
            exact R_at (Env.sub_cons rfl <| Env.sub_cons rfl <| Env.sub_cons rfl <| Env.sub_cons rfl <| Env.sub_cons rfl <| Env.sub_cons rfl <| Env.sub_cons (by show some (S _) = some (S _); simp [belowP, h4p]) <| Env.sub_nil _)
          ·
            have h4p : (p = ([] : Str)) := by simpa using h4
            refine R_skip ?_
            exact R_at (Env.sub_cons rfl <| Env.sub_cons rfl <| Env.sub_cons rfl <| Env.sub_cons rfl <| Env.sub_cons rfl <| Env.sub_cons rfl <| Env.sub_cons (by show some (S _) = some (S _); simp [belowP, h4p]) <| Env.sub_nil _)
        ·
          refine R_seq ?_
          refine R_region ?_
          refine R_r (D_fieldAddr fa190_1 rfl) ?_
          refine R_r (D_load rfl (Has.own 1 rfl) (Rd.one Tryz.isAgg34 rfl)) ?_
          refine R_r (D_fieldAddr fa190_1 rfl) ?_
          refine R_r (D_load rfl (Has.own 0 rfl) (Rd.one Tryz.isAgg34 rfl)) ?_
          refine R_r (D_move rfl) ?_
          refine R_r (D_move rfl) ?_
          have hblr114 := belowP_len p x112.name
          have hszr114x := sizeL_one hx112; have hwtr114x := wtL_one hx112; have hwer114x := Node.wt_eq x112; have hspr114x := size_pos x112; have hslr114x := sizeO_lt (ox := ox) (by omega); have hwkr114x := wtO_lt (ox := ox) (by omega); have hnzr114x : sizeO (some x112) = x112.size := rfl; have hwzr114x : wtO (some x112) = 1 + Node.wtL x112.kids := rfl
          have hslr114y := sizeO_kids oy; have hnzr114y : sizeO none = 0 := rfl; have hwzr114y : wtO none = 0 := rfl
          refine R_o (E_callHE [.blk b110 (.cells (List.toArray (ChildC.cells (⟨x112.name, ChildC.zero.t⟩ : ChildC))) 190), .blk b109 (.cells (List.toArray (ChildC.cells (⟨x112.name, P_ tx112 0⟩ : ChildC))) 190), .blk b2 (.cells (List.toArray (Val.cells (valO oy))) 24), .blk b1 (.cells (List.toArray (Val.cells (valO ox))) 24)] (giv be bw bo bn v (l ++ done)) rfl rfl rfl en62 (fun w hM hH => ih (some x112) none (by omega) (P_ tx112 0) (.pointer none) (belowP p x112.name) v (l ++ done) Mv w hM hH (.inr ⟨tx112, x112, rfl, rfl, htx112⟩) (.inl ⟨rfl, rfl⟩) (by simp only [List.length_append, List.length_singleton] at *; omega) (by omega) (by omega)) (fun vr114 Mr114 Hr114 hler114 hpr114 => ?_))
          have q115 := OptAt.le q105 hler114
          have q116 := OptAt.le q106 hler114
          have q117 := ChA.le q107 hler114
          have q118 := ChA.le q108 hler114
          have q119 := ChA.le hja hler114
          have q120 := ChA.le hjb hler114
          have q121 := hler114 _ _ hmb111
          have q122 := fun i x h => ChildR.le hler114 (hxb111 i x h)
          have q123 := TreeAt.le hler114 htx112
          have q124 := ChA.le u113 hler114
          obtain ⟨rfl, vr114, dlr114, hdr114, rfl⟩ := hpr114
          have hdnr114 := hdr114.len
          refine R_r (D_not rfl) ?_
          refine R_nil ?_
          refine R_cond_f rfl ?_
          refine R_skip ?_
          refine R_drop (H' := [.blk b2 (.cells (List.toArray (Val.cells (valO oy))) 24), .blk b1 (.cells (List.toArray (Val.cells (valO ox))) 24), .blk be (.cells (List.toArray [.bool false]) 4), .blk bw (.cells (List.toArray [.bool true]) 4), .blk bo (.cells (List.toArray [vr114]) 31), .blk bn (.cells (List.toArray [I (-1)]) 3), .row vr114 66 71 (((l ++ done) ++ dlr114).length) (((l ++ done) ++ dlr114).flatMap Change.cells)]) (.cons _ (.cons _ (List.Sublist.refl _))) ?_
          exact R_back ((if ca = 1 then (some ⟨b111, ob111, none⟩) else ((some ⟨b111, ob111, none⟩) : Option Addr).map (·.add (1 * 2))), (la.drop 1), (ca - 1), ab, lb, cb, done ++ dlr114, vr114, Mr114) (by show PMem.le Mr101 Mr114 ∧ (la.drop 1).length ≤ (ca - 1) ∧ lb.length ≤ cb ∧ ChA Mr114 (if ca = 1 then (some ⟨b111, ob111, none⟩) else ((some ⟨b111, ob111, none⟩) : Option Addr).map (·.add (1 * 2))) (la.drop 1) ∧ ChA Mr114 ab lb ∧ (∀ r, DifsR (la.drop 1) lb p r → DifsR (kidsO ox) (kidsO oy) p ((done ++ dlr114) ++ r)) ∧ Node.sizeL (la.drop 1) ≤ Node.sizeL (kidsO ox) ∧ Node.sizeL lb ≤ Node.sizeL (kidsO oy) ∧ Node.wtL (la.drop 1) ≤ Node.wtL (kidsO ox) ∧ Node.wtL lb ≤ Node.wtL (kidsO oy) ∧ (done ++ dlr114).length + Node.sizeL (la.drop 1) + Node.sizeL lb ≤ Node.sizeL (kidsO ox) + Node.sizeL (kidsO oy); exact ⟨(PMem.le_trans hleV hler114), by rw [List.length_drop]; omega, by omega, q124, q120, fun r_ hr_ => by rw [List.append_assoc]; refine hdif _ ?_; rw [drop1_at hx112]; exact DifsR.left (fun z_ hz_ => by rw [List.eq_nil_of_length_eq_zero (l := lb) (by omega)] at hz_; simp at hz_) hdr114 hr_, by omega, by omega, by omega, by omega, by simp only [List.length_append]; omega⟩) (by show (la.drop 1).length + lb.length < la.length + lb.length; simp only [List.length_drop]; omega) (Env.sub_cons rfl <| Env.sub_cons rfl <| Env.sub_cons rfl <| Env.sub_cons rfl <| Env.sub_nil _) rfl (by simp only [List.append_assoc])
      ·
        have h3p := of_decide_eq_false h3
        refine Y_r 4 rfl (D_move rfl) ?_
        refine Y_r 5 rfl (D_lenL Tryz.underlying187 rfl) ?_
        refine Y_r 6 rfl (D_gt rfl rfl) ?_
        refine Y_r 7 rfl (D_move rfl) ?_
        refine R_split 62 rfl (fun h4 => ?_) (fun h4 => ?_)
        ·
          have h4p := of_decide_eq_true h4
          refine Y_r 8 rfl (D_move rfl) ?_
          obtain ⟨b125, ob125, csb125, elb125, frb125, rfl, hmb125, hxb125⟩ := hja.at (i := 0) (by first | omega | (simp; omega))
          obtain ⟨x126, hx126⟩ : ∃ e_, la[0]? = some e_ := ⟨_, List.getElem?_eq_getElem (by omega)⟩
          obtain ⟨tx126, hex126, htx126⟩ := hxb125 0 x126 hx126
          refine Y_r 9 rfl (D_indexLn (0) Tryz.underlying187 Tryz.sizeOf190 rfl rfl (by first | rfl | omega) (by first | omega | (simp <;> omega))) ?_
          refine Y_r 10 rfl (D_fieldAddr fa190_0 rfl) ?_
          refine Y_r 11 rfl (D_load rfl (Has.mem hmb125) (Rd.elem0 (i := 0) hex126 Tryz.isAgg9 rfl rfl)) ?_
          refine Y_r 12 rfl (D_move rfl) ?_
          obtain ⟨b127, ob127, csb127, elb127, frb127, rfl, hmb127, hxb127⟩ := hjb.at (i := 0) (by first | omega | (simp; omega))
          obtain ⟨x128, hx128⟩ : ∃ e_, lb[0]? = some e_ := ⟨_, List.getElem?_eq_getElem (by omega)⟩
          obtain ⟨tx128, hex128, htx128⟩ := hxb127 0 x128 hx128
          refine Y_r 13 rfl (D_indexLn (0) Tryz.underlying187 Tryz.sizeOf190 rfl rfl (by first | rfl | omega) (by first | omega | (simp <;> omega))) ?_
          refine Y_r 14 rfl (D_fieldAddr fa190_0 rfl) ?_
          refine Y_r 15 rfl (D_load rfl (Has.mem hmb127) (Rd.elem0 (i := 0) hex128 Tryz.isAgg9 rfl rfl)) ?_
          refine Y_r 16 rfl (D_ltS rfl rfl) ?_
          refine Y_r 17 rfl (D_pick true rfl rfl) ?_
          refine Y_r 18 rfl (D_pick false rfl rfl) ?_
          refine Y_r 19 rfl (D_assign rfl) ?_
          refine Y_nil ?_ (PMem.le_refl _) (fun _ h => List.Sublist.subset (.cons_cons _ (.cons_cons _ (.cons_cons _ (.cons_cons _ (.cons_cons _ (.cons_cons _ (.cons_cons _ (.cons_cons _ (.cons _ (.slnil)))))))))) h)
          refine R_cond rfl (fun h5 => ?_) (fun h5 => ?_)
          ·
            refine R_seq ?_
            refine Y_region [.blk b2 (.cells (List.toArray (Val.cells (valO oy))) 24), .blk b1 (.cells (List.toArray (Val.cells (valO ox))) 24), .blk be (.cells (List.toArray [.bool false]) 4), .blk bw (.cells (List.toArray [.bool true]) 4), .blk bo (.cells (List.toArray [v]) 31), .blk bn (.cells (List.toArray [I (-1)]) 3)] mixed ?_
            refine Y_r 0 rfl (D_move rfl) ?_
            refine Y_r 1 rfl (D_indexLn (0) Tryz.underlying187 Tryz.sizeOf190 rfl rfl (by first | rfl | omega) (by first | omega | (simp <;> omega))) ?_
            refine Y_r 2 rfl (D_load rfl (Has.mem hmb125) (Rd.elemA (i := 0) hex126 Tryz.underlying190 rfl inf190 rfl)) ?_
            refine Y_r 3 rfl (D_move rfl) ?_
            have u129 := SlA.tailC hja hca
            refine Y_r 4 rfl (D_sliceLk (m := (la.drop 1).length) 1 Tryz.underlying187 Tryz.sizeOf190 rfl rfl (by rw [List.length_drop]) (by omega) (by omega)) ?_
            refine Y_o 5 rfl (E_store (cs' := (ChildC.cells (⟨x126.name, P_ tx126 0⟩ : ChildC))) 1 rfl rfl rfl (Wr.agg Tryz.sizeOf190 rfl rfl rfl rfl) ?_) (PMem.le_refl _) (fun _ h => List.Sublist.subset (.cons _ (.cons _ (.cons_cons _ (.cons_cons _ (.cons_cons _ (.cons_cons _ (.cons_cons _ (.cons_cons _ (.cons _ (.slnil)))))))))) h)
            refine Y_go _ (PMem.le_refl _) (fun _ h => List.Sublist.subset (.cons _ (.cons _ (.cons_cons _ (.cons_cons _ (.cons_cons _ (.cons_cons _ (.cons_cons _ (.cons_cons _ (.cons _ (.slnil)))))))))) h) (fun _ h => h) ?_
            refine Y_r 6 rfl (D_assign rfl) ?_
            refine Y_nil ?_ (PMem.le_refl _) (fun _ h => List.Sublist.subset (.cons _ (.cons _ (.cons_cons _ (.cons_cons _ (.cons_cons _ (.cons_cons _ (.cons_cons _ (.cons_cons _ (.cons _ (.slnil)))))))))) h)
            refine R_region ?_
            refine R_r (D_fieldAddr fa190_0 rfl) ?_
            refine R_r (D_load rfl (Has.own 1 rfl) (Rd.one Tryz.isAgg9 rfl)) ?_
            refine R_r (D_fieldAddr fa190_0 rfl) ?_
            refine R_o (E_store (cs' := (ChildC.cells (⟨x126.name, ChildC.zero.t⟩ : ChildC))) 0 rfl rfl rfl (Wr.one Tryz.sizeOf9 rfl rfl rfl) ?_)
            refine R_nil ?_
            refine R_seq ?_
            refine R_region ?_
            refine R_r (D_fieldAddr fa190_0 rfl) ?_
            refine R_r (D_load rfl (Has.own 0 rfl) (Rd.one Tryz.isAgg9 rfl)) ?_
            refine R_r (D_assign rfl) ?_
            refine R_nil ?_
            refine R_seq ?_
            refine R_seq ?_
            have hwa_ := wtL_one hx126; have hwb_ := Node.wt_eq x126; have hwc_ := wtO_kids ox; have hwd_ := wtO_kids oy
            refine R_region ?_
            refine R_r (D_move rfl) ?_
            refine R_r (D_neS rfl rfl) ?_
            refine R_nil ?_
            refine R_join [(2, S p), (3, .func (.func 60) #[] #[P_ be 0, P_ bw 0, P_ bo 0, P_ bn 0]), (11, .slice (if ca = 1 then (some ⟨b125, ob125, none⟩) else ((some ⟨b125, ob125, none⟩) : Option Addr).map (·.add (1 * 2))) ((la.drop 1).length) (ca - 1)), (12, .slice (some ⟨b127, ob127, none⟩) lb.length cb), (13, P_ b109 0), (14, P_ b110 0), (15, S (belowP p x126.name))] (M' := Mv) (H' := [.blk b110 (.cells (List.toArray (ChildC.cells (⟨x126.name, ChildC.zero.t⟩ : ChildC))) 190), .blk b109 (.cells (List.toArray (ChildC.cells (⟨x126.name, P_ tx126 0⟩ : ChildC))) 190), .blk b2 (.cells (List.toArray (Val.cells (valO oy))) 24), .blk b1 (.cells (List.toArray (Val.cells (valO ox))) 24), .blk be (.cells (List.toArray [.bool false]) 4), .blk bw (.cells (List.toArray [.bool true]) 4), .blk bo (.cells (List.toArray [v]) 31), .blk bn (.cells (List.toArray [I (-1)]) 3), .row v 66 71 ((l ++ done).length) ((l ++ done).flatMap Change.cells)]) ?_ ?_
            ·
              refine R_cond rfl (fun h6 => ?_) (fun h6 => ?_)
              ·
                have h6p : ¬ (p = ([] : Str)) := by simpa using h6
                refine R_region ?_
                refine R_r (D_move rfl) ?_
                refine R_r (D_addS rfl rfl (by simp; omega)) ?_
                refine R_r (D_move rfl) ?_
                refine R_r (D_addS rfl rfl (by simp; omega)) ?_
                refine R_r (D_assign rfl) ?_
                refine R_nil ?_
                exact R_at (Env.sub_cons rfl <| Env.sub_cons rfl <| Env.sub_cons rfl <| Env.sub_cons rfl <| Env.sub_cons rfl <| Env.sub_cons rfl <| Env.sub_cons (by show some (S _) = some (S _); simp [belowP, h6p]) <| Env.sub_nil _)
              ·
                have h6p : (p = ([] : Str)) := by simpa using h6
                refine R_skip ?_
                exact R_at (Env.sub_cons rfl <| Env.sub_cons rfl <| Env.sub_cons rfl <| Env.sub_cons rfl <| Env.sub_cons rfl <| Env.sub_cons rfl <| Env.sub_cons (by show some (S _) = some (S _); simp [belowP, h6p]) <| Env.sub_nil _)
            ·
              refine R_seq ?_
              refine R_region ?_
              refine R_r (D_fieldAddr fa190_1 rfl) ?_
              refine R_r (D_load rfl (Has.own 1 rfl) (Rd.one Tryz.isAgg34 rfl)) ?_
              refine R_r (D_fieldAddr fa190_1 rfl) ?_
              refine R_r (D_load rfl (Has.own 0 rfl) (Rd.one Tryz.isAgg34 rfl)) ?_
              refine R_r (D_move rfl) ?_
              refine R_r (D_move rfl) ?_
              have hblr130 := belowP_len p x126.name
              have hszr130x := sizeL_one hx126; have hwtr130x := wtL_one hx126; have hwer130x := Node.wt_eq x126; have hspr130x := size_pos x126; have hslr130x := sizeO_lt (ox := ox) (by omega); have hwkr130x := wtO_lt (ox := ox) (by omega); have hnzr130x : sizeO (some x126) = x126.size := rfl; have hwzr130x : wtO (some x126) = 1 + Node.wtL x126.kids := rfl
              have hslr130y := sizeO_kids oy; have hnzr130y : sizeO none = 0 := rfl; have hwzr130y : wtO none = 0 := rfl
              refine R_o (E_callHE [.blk b110 (.cells (List.toArray (ChildC.cells (⟨x126.name, ChildC.zero.t⟩ : ChildC))) 190), .blk b109 (.cells (List.toArray (ChildC.cells (⟨x126.name, P_ tx126 0⟩ : ChildC))) 190), .blk b2 (.cells (List.toArray (Val.cells (valO oy))) 24), .blk b1 (.cells (List.toArray (Val.cells (valO ox))) 24)] (giv be bw bo bn v (l ++ done)) rfl rfl rfl en62 (fun w hM hH => ih (some x126) none (by omega) (P_ tx126 0) (.pointer none) (belowP p x126.name) v (l ++ done) Mv w hM hH (.inr ⟨tx126, x126, rfl, rfl, htx126⟩) (.inl ⟨rfl, rfl⟩) (by simp only [List.length_append, List.length_singleton] at *; omega) (by omega) (by omega)) (fun vr130 Mr130 Hr130 hler130 hpr130 => ?_))
              have q131 := OptAt.le q105 hler130
              have q132 := OptAt.le q106 hler130
              have q133 := ChA.le q107 hler130
              have q134 := ChA.le q108 hler130
              have q135 := ChA.le hja hler130
              have q136 := ChA.le hjb hler130
              have q137 := hler130 _ _ hmb125
              have q138 := fun i x h => ChildR.le hler130 (hxb125 i x h)
              have q139 := TreeAt.le hler130 htx126
              have q140 := hler130 _ _ hmb127
              have q141 := fun i x h => ChildR.le hler130 (hxb127 i x h)
              have q142 := TreeAt.le hler130 htx128
              have q143 := ChA.le u129 hler130
              obtain ⟨rfl, vr130, dlr130, hdr130, rfl⟩ := hpr130
              have hdnr130 := hdr130.len
              refine R_r (D_not rfl) ?_
              refine R_nil ?_
              refine R_cond_f rfl ?_
              refine R_skip ?_
              refine R_drop (H' := [.blk b2 (.cells (List.toArray (Val.cells (valO oy))) 24), .blk b1 (.cells (List.toArray (Val.cells (valO ox))) 24), .blk be (.cells (List.toArray [.bool false]) 4), .blk bw (.cells (List.toArray [.bool true]) 4), .blk bo (.cells (List.toArray [vr130]) 31), .blk bn (.cells (List.toArray [I (-1)]) 3), .row vr130 66 71 (((l ++ done) ++ dlr130).length) (((l ++ done) ++ dlr130).flatMap Change.cells)]) (.cons _ (.cons _ (List.Sublist.refl _))) ?_
              exact R_back ((if ca = 1 then (some ⟨b125, ob125, none⟩) else ((some ⟨b125, ob125, none⟩) : Option Addr).map (·.add (1 * 2))), (la.drop 1), (ca - 1), (some ⟨b127, ob127, none⟩), lb, cb, done ++ dlr130, vr130, Mr130) (by show PMem.le Mr101 Mr130 ∧ (la.drop 1).length ≤ (ca - 1) ∧ lb.length ≤ cb ∧ ChA Mr130 (if ca = 1 then (some ⟨b125, ob125, none⟩) else ((some ⟨b125, ob125, none⟩) : Option Addr).map (·.add (1 * 2))) (la.drop 1) ∧ ChA Mr130 (some ⟨b127, ob127, none⟩) lb ∧ (∀ r, DifsR (la.drop 1) lb p r → DifsR (kidsO ox) (kidsO oy) p ((done ++ dlr130) ++ r)) ∧ Node.sizeL (la.drop 1) ≤ Node.sizeL (kidsO ox) ∧ Node.sizeL lb ≤ Node.sizeL (kidsO oy) ∧ Node.wtL (la.drop 1) ≤ Node.wtL (kidsO ox) ∧ Node.wtL lb ≤ Node.wtL (kidsO oy) ∧ (done ++ dlr130).length + Node.sizeL (la.drop 1) + Node.sizeL lb ≤ Node.sizeL (kidsO ox) + Node.sizeL (kidsO oy); exact ⟨(PMem.le_trans hleV hler130), by rw [List.length_drop]; omega, by omega, q143, q136, fun r_ hr_ => by rw [List.append_assoc]; refine hdif _ ?_; rw [drop1_at hx126]; exact DifsR.left (fun z_ hz_ => by rw [hx128] at hz_; cases hz_; exact h5) hdr130 hr_, by omega, by omega, by omega, by omega, by simp only [List.length_append]; omega⟩) (by show (la.drop 1).length + lb.length < la.length + lb.length; simp only [List.length_drop]; omega) (Env.sub_cons rfl <| Env.sub_cons rfl <| Env.sub_cons rfl <| Env.sub_cons rfl <| Env.sub_nil _) rfl (by simp only [List.append_assoc])
          ·
            refine R_seq ?_
            refine Y_region [.blk b110 (.cells (List.toArray (ChildC.cells ChildC.zero)) 190), .blk b109 (.cells (List.toArray (ChildC.cells ChildC.zero)) 190), .blk b2 (.cells (List.toArray (Val.cells (valO oy))) 24), .blk b1 (.cells (List.toArray (Val.cells (valO ox))) 24), .blk be (.cells (List.toArray [.bool false]) 4), .blk bw (.cells (List.toArray [.bool true]) 4), .blk bo (.cells (List.toArray [v]) 31), .blk bn (.cells (List.toArray [I (-1)]) 3)] mixed ?_
            refine Y_r 0 rfl (D_move rfl) ?_
            refine Y_r 1 rfl (D_lenL Tryz.underlying187 rfl) ?_
            refine Y_r 2 rfl (D_eq rfl rfl) ?_
            refine Y_r 3 rfl (D_move rfl) ?_
            refine R_split 86 rfl (fun h6 => ?_) (fun h6 => ?_)
            ·
              have h6p := of_decide_eq_true h6
              exfalso; omega
            ·
              have h6p := of_decide_eq_false h6
              refine Y_r 4 rfl (D_move rfl) ?_
              refine Y_r 5 rfl (D_indexLn (0) Tryz.underlying187 Tryz.sizeOf190 rfl rfl (by first | rfl | omega) (by first | omega | (simp <;> omega))) ?_
              refine Y_r 6 rfl (D_fieldAddr fa190_0 rfl) ?_
              refine Y_r 7 rfl (D_load rfl (Has.mem hmb127) (Rd.elem0 (i := 0) hex128 Tryz.isAgg9 rfl rfl)) ?_
              refine Y_r 8 rfl (D_move rfl) ?_
              refine Y_r 9 rfl (D_indexLn (0) Tryz.underlying187 Tryz.sizeOf190 rfl rfl (by first | rfl | omega) (by first | omega | (simp <;> omega))) ?_
              refine Y_r 10 rfl (D_fieldAddr fa190_0 rfl) ?_
              refine Y_r 11 rfl (D_load rfl (Has.mem hmb125) (Rd.elem0 (i := 0) hex126 Tryz.isAgg9 rfl rfl)) ?_
              refine Y_r 12 rfl (D_ltS rfl rfl) ?_
              refine Y_r 13 rfl (D_pick false rfl rfl) ?_
              refine Y_r 14 rfl (D_assign rfl) ?_
              refine Y_nil ?_ (PMem.le_refl _) (fun _ h => List.Sublist.subset (.cons_cons _ (.cons_cons _ (.cons_cons _ (.cons_cons _ (.cons_cons _ (.cons_cons _ (.cons_cons _ (.cons_cons _ (.cons _ (.slnil)))))))))) h)
              refine R_cond rfl (fun h7 => ?_) (fun h7 => ?_)
              ·
                refine Y_region [.blk b2 (.cells (List.toArray (Val.cells (valO oy))) 24), .blk b1 (.cells (List.toArray (Val.cells (valO ox))) 24), .blk be (.cells (List.toArray [.bool false]) 4), .blk bw (.cells (List.toArray [.bool true]) 4), .blk bo (.cells (List.toArray [v]) 31), .blk bn (.cells (List.toArray [I (-1)]) 3)] mixed ?_
                refine Y_r 0 rfl (D_move rfl) ?_
                refine Y_r 1 rfl (D_indexLn (0) Tryz.underlying187 Tryz.sizeOf190 rfl rfl (by first | rfl | omega) (by first | omega | (simp <;> omega))) ?_
                refine Y_r 2 rfl (D_load rfl (Has.mem hmb127) (Rd.elemA (i := 0) hex128 Tryz.underlying190 rfl inf190 rfl)) ?_
                refine Y_r 3 rfl (D_move rfl) ?_
                have u144 := SlA.tailC hjb hcb
                refine Y_r 4 rfl (D_sliceLk (m := (lb.drop 1).length) 1 Tryz.underlying187 Tryz.sizeOf190 rfl rfl (by rw [List.length_drop]) (by omega) (by omega)) ?_
                refine Y_o 5 rfl (E_store (cs' := (ChildC.cells (⟨x128.name, P_ tx128 0⟩ : ChildC))) 0 rfl rfl rfl (Wr.agg Tryz.sizeOf190 rfl rfl rfl rfl) ?_) (PMem.le_refl _) (fun _ h => List.Sublist.subset (.cons _ (.cons _ (.cons_cons _ (.cons_cons _ (.cons_cons _ (.cons_cons _ (.cons_cons _ (.cons_cons _ (.cons _ (.slnil)))))))))) h)
                refine Y_go _ (PMem.le_refl _) (fun _ h => List.Sublist.subset (.cons _ (.cons _ (.cons_cons _ (.cons_cons _ (.cons_cons _ (.cons_cons _ (.cons_cons _ (.cons_cons _ (.cons _ (.slnil)))))))))) h) (fun _ h => h) ?_
                refine Y_r 6 rfl (D_assign rfl) ?_
                refine Y_nil ?_ (PMem.le_refl _) (fun _ h => List.Sublist.subset (.cons _ (.cons _ (.cons_cons _ (.cons_cons _ (.cons_cons _ (.cons_cons _ (.cons_cons _ (.cons_cons _ (.cons _ (.slnil)))))))))) h)
                refine R_seq ?_
                refine R_region ?_
                refine R_r (D_fieldAddr fa190_0 rfl) ?_
                refine R_r (D_load rfl (Has.own 0 rfl) (Rd.one Tryz.isAgg9 rfl)) ?_
                refine R_r (D_assign rfl) ?_
                refine R_nil ?_
                refine R_seq ?_
                refine R_seq ?_
                have hwa_ := wtL_one hx128; have hwb_ := Node.wt_eq x128; have hwc_ := wtO_kids ox; have hwd_ := wtO_kids oy
                refine R_region ?_
                refine R_r (D_move rfl) ?_
                refine R_r (D_neS rfl rfl) ?_
                refine R_nil ?_
                refine R_join [(2, S p), (3, .func (.func 60) #[] #[P_ be 0, P_ bw 0, P_ bo 0, P_ bn 0]), (11, .slice (some ⟨b125, ob125, none⟩) la.length ca), (12, .slice (if cb = 1 then (some ⟨b127, ob127, none⟩) else ((some ⟨b127, ob127, none⟩) : Option Addr).map (·.add (1 * 2))) ((lb.drop 1).length) (cb - 1)), (13, P_ b109 0), (14, P_ b110 0), (15, S (belowP p x128.name))] (M' := Mv) (H' := [.blk b110 (.cells (List.toArray (ChildC.cells (⟨x128.name, P_ tx128 0⟩ : ChildC))) 190), .blk b109 (.cells (List.toArray (ChildC.cells ChildC.zero)) 190), .blk b2 (.cells (List.toArray (Val.cells (valO oy))) 24), .blk b1 (.cells (List.toArray (Val.cells (valO ox))) 24), .blk be (.cells (List.toArray [.bool false]) 4), .blk bw (.cells (List.toArray [.bool true]) 4), .blk bo (.cells (List.toArray [v]) 31), .blk bn (.cells (List.toArray [I (-1)]) 3), .row v 66 71 ((l ++ done).length) ((l ++ done).flatMap Change.cells)]) ?_ ?_
                ·
                  refine R_cond rfl (fun h8 => ?_) (fun h8 => ?_)
                  ·
                    have h8p : ¬ (p = ([] : Str)) := by simpa using h8
                    refine R_region ?_
                    refine R_r (D_move rfl) ?_
                    refine R_r (D_addS rfl rfl (by simp; omega)) ?_
                    refine R_r (D_move rfl) ?_
                    refine R_r (D_addS rfl rfl (by simp; omega)) ?_
                    refine R_r (D_assign rfl) ?_
                    refine R_nil ?_
                    exact R_at (Env.sub_cons rfl <| Env.sub_cons rfl <| Env.sub_cons rfl <| Env.sub_cons rfl <| Env.sub_cons rfl <| Env.sub_cons rfl <| Env.sub_cons (by show some (S _) = some (S _); simp [belowP, h8p]) <| Env.sub_nil _)
                  ·
                    have h8p : (p = ([] : Str)) := by simpa using h8
                    refine R_skip ?_
                    exact R_at (Env.sub_cons rfl <| Env.sub_cons rfl <| Env.sub_cons rfl <| Env.sub_cons rfl <| Env.sub_cons rfl <| Env.sub_cons rfl <| Env.sub_cons (by show some (S _) = some (S _); simp [belowP, h8p]) <| Env.sub_nil _)
                ·
                  refine R_seq ?_
                  refine R_region ?_
                  refine R_r (D_fieldAddr fa190_1 rfl) ?_
                  refine R_r (D_load rfl (Has.own 1 rfl) (Rd.one Tryz.isAgg34 rfl)) ?_
                  refine R_r (D_fieldAddr fa190_1 rfl) ?_
                  refine R_r (D_load rfl (Has.own 0 rfl) (Rd.one Tryz.isAgg34 rfl)) ?_
                  refine R_r (D_move rfl) ?_
                  refine R_r (D_move rfl) ?_
                  have hblr145 := belowP_len p x128.name
                  have hslr145x := sizeO_kids ox; have hnzr145x : sizeO none = 0 := rfl; have hwzr145x : wtO none = 0 := rfl
                  have hszr145y := sizeL_one hx128; have hwtr145y := wtL_one hx128; have hwer145y := Node.wt_eq x128; have hspr145y := size_pos x128; have hslr145y := sizeO_lt (ox := oy) (by omega); have hwkr145y := wtO_lt (ox := oy) (by omega); have hnzr145y : sizeO (some x128) = x128.size := rfl; have hwzr145y : wtO (some x128) = 1 + Node.wtL x128.kids := rfl
                  refine R_o (E_callHE [.blk b110 (.cells (List.toArray (ChildC.cells (⟨x128.name, P_ tx128 0⟩ : ChildC))) 190), .blk b109 (.cells (List.toArray (ChildC.cells ChildC.zero)) 190), .blk b2 (.cells (List.toArray (Val.cells (valO oy))) 24), .blk b1 (.cells (List.toArray (Val.cells (valO ox))) 24)] (giv be bw bo bn v (l ++ done)) rfl rfl rfl en62 (fun w hM hH => ih none (some x128) (by omega) (.pointer none) (P_ tx128 0) (belowP p x128.name) v (l ++ done) Mv w hM hH (.inl ⟨rfl, rfl⟩) (.inr ⟨tx128, x128, rfl, rfl, htx128⟩) (by simp only [List.length_append, List.length_singleton] at *; omega) (by omega) (by omega)) (fun vr145 Mr145 Hr145 hler145 hpr145 => ?_))
                  have q146 := OptAt.le q105 hler145
                  have q147 := OptAt.le q106 hler145
                  have q148 := ChA.le q107 hler145
                  have q149 := ChA.le q108 hler145
                  have q150 := ChA.le hja hler145
                  have q151 := ChA.le hjb hler145
                  have q152 := hler145 _ _ hmb125
                  have q153 := fun i x h => ChildR.le hler145 (hxb125 i x h)
                  have q154 := TreeAt.le hler145 htx126
                  have q155 := hler145 _ _ hmb127
                  have q156 := fun i x h => ChildR.le hler145 (hxb127 i x h)
                  have q157 := TreeAt.le hler145 htx128
                  have q158 := ChA.le u144 hler145
                  obtain ⟨rfl, vr145, dlr145, hdr145, rfl⟩ := hpr145
                  have hdnr145 := hdr145.len
                  refine R_r (D_not rfl) ?_
                  refine R_nil ?_
                  refine R_cond_f rfl ?_
                  refine R_skip ?_
                  refine R_drop (H' := [.blk b2 (.cells (List.toArray (Val.cells (valO oy))) 24), .blk b1 (.cells (List.toArray (Val.cells (valO ox))) 24), .blk be (.cells (List.toArray [.bool false]) 4), .blk bw (.cells (List.toArray [.bool true]) 4), .blk bo (.cells (List.toArray [vr145]) 31), .blk bn (.cells (List.toArray [I (-1)]) 3), .row vr145 66 71 (((l ++ done) ++ dlr145).length) (((l ++ done) ++ dlr145).flatMap Change.cells)]) (.cons _ (.cons _ (List.Sublist.refl _))) ?_
                  exact R_back ((some ⟨b125, ob125, none⟩), la, ca, (if cb = 1 then (some ⟨b127, ob127, none⟩) else ((some ⟨b127, ob127, none⟩) : Option Addr).map (·.add (1 * 2))), (lb.drop 1), (cb - 1), done ++ dlr145, vr145, Mr145) (by show PMem.le Mr101 Mr145 ∧ la.length ≤ ca ∧ (lb.drop 1).length ≤ (cb - 1) ∧ ChA Mr145 (some ⟨b125, ob125, none⟩) la ∧ ChA Mr145 (if cb = 1 then (some ⟨b127, ob127, none⟩) else ((some ⟨b127, ob127, none⟩) : Option Addr).map (·.add (1 * 2))) (lb.drop 1) ∧ (∀ r, DifsR la (lb.drop 1) p r → DifsR (kidsO ox) (kidsO oy) p ((done ++ dlr145) ++ r)) ∧ Node.sizeL la ≤ Node.sizeL (kidsO ox) ∧ Node.sizeL (lb.drop 1) ≤ Node.sizeL (kidsO oy) ∧ Node.wtL la ≤ Node.wtL (kidsO ox) ∧ Node.wtL (lb.drop 1) ≤ Node.wtL (kidsO oy) ∧ (done ++ dlr145).length + Node.sizeL la + Node.sizeL (lb.drop 1) ≤ Node.sizeL (kidsO ox) + Node.sizeL (kidsO oy); exact ⟨(PMem.le_trans hleV hler145), by omega, by rw [List.length_drop]; omega, q150, q158, fun r_ hr_ => by rw [List.append_assoc]; refine hdif _ ?_; rw [drop1_at hx128]; exact DifsR.right (fun z_ hz_ => by rw [hx126] at hz_; cases hz_; exact h7) hdr145 hr_, by omega, by omega, by omega, by omega, by simp only [List.length_append]; omega⟩) (by show la.length + (lb.drop 1).length < la.length + lb.length; simp only [List.length_drop]; omega) (Env.sub_cons rfl <| Env.sub_cons rfl <| Env.sub_cons rfl <| Env.sub_cons rfl <| Env.sub_nil _) rfl (by simp only [List.append_assoc])
              ·
                refine Y_region [.blk b2 (.cells (List.toArray (Val.cells (valO oy))) 24), .blk b1 (.cells (List.toArray (Val.cells (valO ox))) 24), .blk be (.cells (List.toArray [.bool false]) 4), .blk bw (.cells (List.toArray [.bool true]) 4), .blk bo (.cells (List.toArray [v]) 31), .blk bn (.cells (List.toArray [I (-1)]) 3)] mixed ?_
                refine Y_r 0 rfl (D_move rfl) ?_
                refine Y_r 1 rfl (D_indexLn (0) Tryz.underlying187 Tryz.sizeOf190 rfl rfl (by first | rfl | omega) (by first | omega | (simp <;> omega))) ?_
                refine Y_r 2 rfl (D_load rfl (Has.mem hmb125) (Rd.elemA (i := 0) hex126 Tryz.underlying190 rfl inf190 rfl)) ?_
                refine Y_r 3 rfl (D_move rfl) ?_
                refine Y_r 4 rfl (D_indexLn (0) Tryz.underlying187 Tryz.sizeOf190 rfl rfl (by first | rfl | omega) (by first | omega | (simp <;> omega))) ?_
                refine Y_r 5 rfl (D_load rfl (Has.mem hmb127) (Rd.elemA (i := 0) hex128 Tryz.underlying190 rfl inf190 rfl)) ?_
                refine Y_r 6 rfl (D_move rfl) ?_
                have u159 := SlA.tailC hja hca
                refine Y_r 7 rfl (D_sliceLk (m := (la.drop 1).length) 1 Tryz.underlying187 Tryz.sizeOf190 rfl rfl (by rw [List.length_drop]) (by omega) (by omega)) ?_
                refine Y_r 8 rfl (D_move rfl) ?_
                have u160 := SlA.tailC hjb hcb
                refine Y_r 9 rfl (D_sliceLk (m := (lb.drop 1).length) 1 Tryz.underlying187 Tryz.sizeOf190 rfl rfl (by rw [List.length_drop]) (by omega) (by omega)) ?_
                refine Y_o 10 rfl (E_store (cs' := (ChildC.cells (⟨x126.name, P_ tx126 0⟩ : ChildC))) 1 rfl rfl rfl (Wr.agg Tryz.sizeOf190 rfl rfl rfl rfl) ?_) (PMem.le_refl _) (fun _ h => List.Sublist.subset (.cons _ (.cons _ (.cons_cons _ (.cons_cons _ (.cons_cons _ (.cons_cons _ (.cons_cons _ (.cons_cons _ (.cons _ (.slnil)))))))))) h)
                refine Y_go _ (PMem.le_refl _) (fun _ h => List.Sublist.subset (.cons _ (.cons _ (.cons_cons _ (.cons_cons _ (.cons_cons _ (.cons_cons _ (.cons_cons _ (.cons_cons _ (.cons _ (.slnil)))))))))) h) (fun _ h => h) ?_
                refine Y_o 11 rfl (E_store (cs' := (ChildC.cells (⟨x128.name, P_ tx128 0⟩ : ChildC))) 0 rfl rfl rfl (Wr.agg Tryz.sizeOf190 rfl rfl rfl rfl) ?_) (PMem.le_refl _) (fun _ h => List.Sublist.subset (.cons _ (.cons _ (.cons_cons _ (.cons_cons _ (.cons_cons _ (.cons_cons _ (.cons_cons _ (.cons_cons _ (.cons _ (.slnil)))))))))) h)
                refine Y_go _ (PMem.le_refl _) (fun _ h => List.Sublist.subset (.cons _ (.cons _ (.cons_cons _ (.cons_cons _ (.cons_cons _ (.cons_cons _ (.cons_cons _ (.cons_cons _ (.cons _ (.slnil)))))))))) h) (fun _ h => h) ?_
                refine Y_r 12 rfl (D_assign rfl) ?_
                refine Y_r 13 rfl (D_assign rfl) ?_
                refine Y_nil ?_ (PMem.le_refl _) (fun _ h => List.Sublist.subset (.cons _ (.cons _ (.cons_cons _ (.cons_cons _ (.cons_cons _ (.cons_cons _ (.cons_cons _ (.cons_cons _ (.cons _ (.slnil)))))))))) h)
                refine R_seq ?_
                refine R_region ?_
                refine R_r (D_fieldAddr fa190_0 rfl) ?_
                refine R_r (D_load rfl (Has.own 0 rfl) (Rd.one Tryz.isAgg9 rfl)) ?_
                refine R_r (D_assign rfl) ?_
                refine R_nil ?_
                refine R_seq ?_
                refine R_seq ?_
                have hwa_ := wtL_one hx128; have hwb_ := Node.wt_eq x128; have hwc_ := wtO_kids ox; have hwd_ := wtO_kids oy
                refine R_region ?_
                refine R_r (D_move rfl) ?_
                refine R_r (D_neS rfl rfl) ?_
                refine R_nil ?_
                refine R_join [(2, S p), (3, .func (.func 60) #[] #[P_ be 0, P_ bw 0, P_ bo 0, P_ bn 0]), (11, .slice (if ca = 1 then (some ⟨b125, ob125, none⟩) else ((some ⟨b125, ob125, none⟩) : Option Addr).map (·.add (1 * 2))) ((la.drop 1).length) (ca - 1)), (12, .slice (if cb = 1 then (some ⟨b127, ob127, none⟩) else ((some ⟨b127, ob127, none⟩) : Option Addr).map (·.add (1 * 2))) ((lb.drop 1).length) (cb - 1)), (13, P_ b109 0), (14, P_ b110 0), (15, S (belowP p x128.name))] (M' := Mv) (H' := [.blk b110 (.cells (List.toArray (ChildC.cells (⟨x128.name, P_ tx128 0⟩ : ChildC))) 190), .blk b109 (.cells (List.toArray (ChildC.cells (⟨x126.name, P_ tx126 0⟩ : ChildC))) 190), .blk b2 (.cells (List.toArray (Val.cells (valO oy))) 24), .blk b1 (.cells (List.toArray (Val.cells (valO ox))) 24), .blk be (.cells (List.toArray [.bool false]) 4), .blk bw (.cells (List.toArray [.bool true]) 4), .blk bo (.cells (List.toArray [v]) 31), .blk bn (.cells (List.toArray [I (-1)]) 3), .row v 66 71 ((l ++ done).length) ((l ++ done).flatMap Change.cells)]) ?_ ?_
                ·
                  refine R_cond rfl (fun h8 => ?_) (fun h8 => ?_)
                  ·
                    have h8p : ¬ (p = ([] : Str)) := by simpa using h8
                    refine R_region ?_
                    refine R_r (D_move rfl) ?_
                    refine R_r (D_addS rfl rfl (by simp; omega)) ?_
                    refine R_r (D_move rfl) ?_
                    refine R_r (D_addS rfl rfl (by simp; omega)) ?_
                    refine R_r (D_assign rfl) ?_
                    refine R_nil ?_
                    exact R_at (Env.sub_cons rfl <| Env.sub_cons rfl <| Env.sub_cons rfl <| Env.sub_cons rfl <| Env.sub_cons rfl <| Env.sub_cons rfl <| Env.sub_cons (by show some (S _) = some (S _); simp [belowP, h8p]) <| Env.sub_nil _)
                  ·
                    have h8p : (p = ([] : Str)) := by simpa using h8
                    refine R_skip ?_
                    exact R_at (Env.sub_cons rfl <| Env.sub_cons rfl <| Env.sub_cons rfl <| Env.sub_cons rfl <| Env.sub_cons rfl <| Env.sub_cons rfl <| Env.sub_cons (by show some (S _) = some (S _); simp [belowP, h8p]) <| Env.sub_nil _)
                ·
                  refine R_seq ?_
                  refine R_region ?_
                  refine R_r (D_fieldAddr fa190_1 rfl) ?_
                  refine R_r (D_load rfl (Has.own 1 rfl) (Rd.one Tryz.isAgg34 rfl)) ?_
                  refine R_r (D_fieldAddr fa190_1 rfl) ?_
                  refine R_r (D_load rfl (Has.own 0 rfl) (Rd.one Tryz.isAgg34 rfl)) ?_
                  refine R_r (D_move rfl) ?_
                  refine R_r (D_move rfl) ?_
                  have hblr161 := belowP_len p x128.name
                  have hnmr161 : x126.name.length = x128.name.length := congrArg List.length (less_tri (a := x126.name) (b := x128.name) h5 h7)
                  have hszr161x := sizeL_one hx126; have hwtr161x := wtL_one hx126; have hwer161x := Node.wt_eq x126; have hspr161x := size_pos x126; have hslr161x := sizeO_lt (ox := ox) (by omega); have hwkr161x := wtO_lt (ox := ox) (by omega); have hnzr161x : sizeO (some x126) = x126.size := rfl; have hwzr161x : wtO (some x126) = 1 + Node.wtL x126.kids := rfl
                  have hszr161y := sizeL_one hx128; have hwtr161y := wtL_one hx128; have hwer161y := Node.wt_eq x128; have hspr161y := size_pos x128; have hslr161y := sizeO_lt (ox := oy) (by omega); have hwkr161y := wtO_lt (ox := oy) (by omega); have hnzr161y : sizeO (some x128) = x128.size := rfl; have hwzr161y : wtO (some x128) = 1 + Node.wtL x128.kids := rfl
                  refine R_o (E_callHE [.blk b110 (.cells (List.toArray (ChildC.cells (⟨x128.name, P_ tx128 0⟩ : ChildC))) 190), .blk b109 (.cells (List.toArray (ChildC.cells (⟨x126.name, P_ tx126 0⟩ : ChildC))) 190), .blk b2 (.cells (List.toArray (Val.cells (valO oy))) 24), .blk b1 (.cells (List.toArray (Val.cells (valO ox))) 24)] (giv be bw bo bn v (l ++ done)) rfl rfl rfl en62 (fun w hM hH => ih (some x126) (some x128) (by omega) (P_ tx126 0) (P_ tx128 0) (belowP p x128.name) v (l ++ done) Mv w hM hH (.inr ⟨tx126, x126, rfl, rfl, htx126⟩) (.inr ⟨tx128, x128, rfl, rfl, htx128⟩) (by simp only [List.length_append, List.length_singleton] at *; omega) (by omega) (by omega)) (fun vr161 Mr161 Hr161 hler161 hpr161 => ?_))
                  have q162 := OptAt.le q105 hler161
                  have q163 := OptAt.le q106 hler161
                  have q164 := ChA.le q107 hler161
                  have q165 := ChA.le q108 hler161
                  have q166 := ChA.le hja hler161
                  have q167 := ChA.le hjb hler161
                  have q168 := hler161 _ _ hmb125
                  have q169 := fun i x h => ChildR.le hler161 (hxb125 i x h)
                  have q170 := TreeAt.le hler161 htx126
                  have q171 := hler161 _ _ hmb127
                  have q172 := fun i x h => ChildR.le hler161 (hxb127 i x h)
                  have q173 := TreeAt.le hler161 htx128
                  have q174 := ChA.le u159 hler161
                  have q175 := ChA.le u160 hler161
                  obtain ⟨rfl, vr161, dlr161, hdr161, rfl⟩ := hpr161
                  have hdnr161 := hdr161.len
                  refine R_r (D_not rfl) ?_
                  refine R_nil ?_
                  refine R_cond_f rfl ?_
                  refine R_skip ?_
                  refine R_drop (H' := [.blk b2 (.cells (List.toArray (Val.cells (valO oy))) 24), .blk b1 (.cells (List.toArray (Val.cells (valO ox))) 24), .blk be (.cells (List.toArray [.bool false]) 4), .blk bw (.cells (List.toArray [.bool true]) 4), .blk bo (.cells (List.toArray [vr161]) 31), .blk bn (.cells (List.toArray [I (-1)]) 3), .row vr161 66 71 (((l ++ done) ++ dlr161).length) (((l ++ done) ++ dlr161).flatMap Change.cells)]) (.cons _ (.cons _ (List.Sublist.refl _))) ?_
                  exact R_back ((if ca = 1 then (some ⟨b125, ob125, none⟩) else ((some ⟨b125, ob125, none⟩) : Option Addr).map (·.add (1 * 2))), (la.drop 1), (ca - 1), (if cb = 1 then (some ⟨b127, ob127, none⟩) else ((some ⟨b127, ob127, none⟩) : Option Addr).map (·.add (1 * 2))), (lb.drop 1), (cb - 1), done ++ dlr161, vr161, Mr161) (by show PMem.le Mr101 Mr161 ∧ (la.drop 1).length ≤ (ca - 1) ∧ (lb.drop 1).length ≤ (cb - 1) ∧ ChA Mr161 (if ca = 1 then (some ⟨b125, ob125, none⟩) else ((some ⟨b125, ob125, none⟩) : Option Addr).map (·.add (1 * 2))) (la.drop 1) ∧ ChA Mr161 (if cb = 1 then (some ⟨b127, ob127, none⟩) else ((some ⟨b127, ob127, none⟩) : Option Addr).map (·.add (1 * 2))) (lb.drop 1) ∧ (∀ r, DifsR (la.drop 1) (lb.drop 1) p r → DifsR (kidsO ox) (kidsO oy) p ((done ++ dlr161) ++ r)) ∧ Node.sizeL (la.drop 1) ≤ Node.sizeL (kidsO ox) ∧ Node.sizeL (lb.drop 1) ≤ Node.sizeL (kidsO oy) ∧ Node.wtL (la.drop 1) ≤ Node.wtL (kidsO ox) ∧ Node.wtL (lb.drop 1) ≤ Node.wtL (kidsO oy) ∧ (done ++ dlr161).length + Node.sizeL (la.drop 1) + Node.sizeL (lb.drop 1) ≤ Node.sizeL (kidsO ox) + Node.sizeL (kidsO oy); exact ⟨(PMem.le_trans hleV hler161), by rw [List.length_drop]; omega, by rw [List.length_drop]; omega, q174, q175, fun r_ hr_ => by rw [List.append_assoc]; refine hdif _ ?_; rw [drop1_at hx126]; rw [drop1_at hx128]; exact DifsR.both h5 h7 hdr161 hr_, by omega, by omega, by omega, by omega, by simp only [List.length_append]; omega⟩) (by show (la.drop 1).length + (lb.drop 1).length < la.length + lb.length; simp only [List.length_drop]; omega) (Env.sub_cons rfl <| Env.sub_cons rfl <| Env.sub_cons rfl <| Env.sub_cons rfl <| Env.sub_nil _) rfl (by simp only [List.append_assoc])
        ·
          have h4p := of_decide_eq_false h4
          exfalso; omega
    ·
      have h2p := of_decide_eq_false h2
      refine R_r (D_move rfl) ?_
      refine R_r (D_lenL Tryz.underlying187 rfl) ?_
      refine R_r (D_gt rfl rfl) ?_
      refine R_r (D_pick false rfl rfl) ?_
      refine R_nil ?_
      refine R_cond rfl (fun h3 => ?_) (fun h3 => ?_)
      ·
        have h3p := of_decide_eq_true h3
        refine R_skip ?_
        refine R_block ?_
        refine R_seq ?_
        refine R_region ?_
        refine R_o (E_alloc (ChildC.cells ChildC.zero) Tryz.zeroValue190 rfl (fun b176 => ?_))
        refine R_o (E_alloc (ChildC.cells ChildC.zero) Tryz.zeroValue190 rfl (fun b177 => ?_))
        refine R_nil ?_
        refine R_seq ?_
        refine R_block ?_
        refine R_seq ?_
        refine Y_region [.blk b177 (.cells (List.toArray (ChildC.cells ChildC.zero)) 190), .blk b176 (.cells (List.toArray (ChildC.cells ChildC.zero)) 190), .blk b2 (.cells (List.toArray (Val.cells (valO oy))) 24), .blk b1 (.cells (List.toArray (Val.cells (valO ox))) 24), .blk be (.cells (List.toArray [.bool false]) 4), .blk bw (.cells (List.toArray [.bool true]) 4), .blk bo (.cells (List.toArray [v]) 31), .blk bn (.cells (List.toArray [I (-1)]) 3)] mixed ?_
        refine Y_r 0 rfl (D_move rfl) ?_
        refine Y_r 1 rfl (D_lenL Tryz.underlying187 rfl) ?_
        refine Y_r 2 rfl (D_eq rfl rfl) ?_
        refine Y_r 3 rfl (D_move rfl) ?_
        refine R_split 58 rfl (fun h4 => ?_) (fun h4 => ?_)
        ·
          have h4p := of_decide_eq_true h4
          exfalso; omega
        ·
          have h4p := of_decide_eq_false h4
          refine Y_r 4 rfl (D_move rfl) ?_
          refine Y_r 5 rfl (D_lenL Tryz.underlying187 rfl) ?_
          refine Y_r 6 rfl (D_gt rfl rfl) ?_
          refine Y_r 7 rfl (D_move rfl) ?_
          refine R_split 62 rfl (fun h5 => ?_) (fun h5 => ?_)
          ·
            have h5p := of_decide_eq_true h5
            exfalso; omega
          ·
            have h5p := of_decide_eq_false h5
            refine Y_skip 8 rfl rfl ?_
            refine Y_skip 9 rfl rfl ?_
            refine Y_skip 10 rfl rfl ?_
            refine Y_skip 11 rfl rfl ?_
            refine Y_skip 12 rfl rfl ?_
            refine Y_skip 13 rfl rfl ?_
            refine Y_skip 14 rfl rfl ?_
            refine Y_skip 15 rfl rfl ?_
            refine Y_skip 16 rfl rfl ?_
            refine Y_r 17 rfl (D_pick false rfl rfl) ?_
            refine Y_r 18 rfl (D_pick false rfl rfl) ?_
            refine Y_r 19 rfl (D_assign rfl) ?_
            refine Y_nil ?_ (PMem.le_refl _) (fun _ h => List.Sublist.subset (.cons_cons _ (.cons_cons _ (.cons_cons _ (.cons_cons _ (.cons_cons _ (.cons_cons _ (.cons_cons _ (.cons_cons _ (.cons _ (.slnil)))))))))) h)
            refine R_cond_f rfl ?_
            refine R_seq ?_
            refine Y_region [.blk b177 (.cells (List.toArray (ChildC.cells ChildC.zero)) 190), .blk b176 (.cells (List.toArray (ChildC.cells ChildC.zero)) 190), .blk b2 (.cells (List.toArray (Val.cells (valO oy))) 24), .blk b1 (.cells (List.toArray (Val.cells (valO ox))) 24), .blk be (.cells (List.toArray [.bool false]) 4), .blk bw (.cells (List.toArray [.bool true]) 4), .blk bo (.cells (List.toArray [v]) 31), .blk bn (.cells (List.toArray [I (-1)]) 3)] mixed ?_
            refine Y_r 0 rfl (D_move rfl) ?_
            refine Y_r 1 rfl (D_lenL Tryz.underlying187 rfl) ?_
            refine Y_r 2 rfl (D_eq rfl rfl) ?_
            refine Y_r 3 rfl (D_move rfl) ?_
            refine R_split 86 rfl (fun h6 => ?_) (fun h6 => ?_)
            ·
              have h6p := of_decide_eq_true h6
              refine Y_skip 4 rfl rfl ?_
              refine Y_skip 5 rfl rfl ?_
              refine Y_skip 6 rfl rfl ?_
              refine Y_skip 7 rfl rfl ?_
              refine Y_skip 8 rfl rfl ?_
              refine Y_skip 9 rfl rfl ?_
              refine Y_skip 10 rfl rfl ?_
              refine Y_skip 11 rfl rfl ?_
              refine Y_skip 12 rfl rfl ?_
              refine Y_r 13 rfl (D_pick true rfl rfl) ?_
              refine Y_r 14 rfl (D_assign rfl) ?_
              refine Y_nil ?_ (PMem.le_refl _) (fun _ h => List.Sublist.subset (.cons_cons _ (.cons_cons _ (.cons_cons _ (.cons_cons _ (.cons_cons _ (.cons_cons _ (.cons_cons _ (.cons_cons _ (.cons _ (.slnil)))))))))) h)
              refine R_cond_t rfl ?_
              refine Y_region [.blk b2 (.cells (List.toArray (Val.cells (valO oy))) 24), .blk b1 (.cells (List.toArray (Val.cells (valO ox))) 24), .blk be (.cells (List.toArray [.bool false]) 4), .blk bw (.cells (List.toArray [.bool true]) 4), .blk bo (.cells (List.toArray [v]) 31), .blk bn (.cells (List.toArray [I (-1)]) 3)] mixed ?_
              refine Y_r 0 rfl (D_move rfl) ?_
              obtain ⟨b178, ob178, csb178, elb178, frb178, rfl, hmb178, hxb178⟩ := hjb.at (i := 0) (by first | omega | (simp; omega))
              obtain ⟨x179, hx179⟩ : ∃ e_, lb[0]? = some e_ := ⟨_, List.getElem?_eq_getElem (by omega)⟩
              obtain ⟨tx179, hex179, htx179⟩ := hxb178 0 x179 hx179
              refine Y_r 1 rfl (D_indexLn (0) Tryz.underlying187 Tryz.sizeOf190 rfl rfl (by first | rfl | omega) (by first | omega | (simp <;> omega))) ?_
              refine Y_r 2 rfl (D_load rfl (Has.mem hmb178) (Rd.elemA (i := 0) hex179 Tryz.underlying190 rfl inf190 rfl)) ?_
              refine Y_r 3 rfl (D_move rfl) ?_
              have u180 := SlA.tailC hjb hcb
              refine Y_r 4 rfl (D_sliceLk (m := (lb.drop 1).length) 1 Tryz.underlying187 Tryz.sizeOf190 rfl rfl (by rw [List.length_drop]) (by omega) (by omega)) ?_
              refine Y_o 5 rfl (E_store (cs' := (ChildC.cells (⟨x179.name, P_ tx179 0⟩ : ChildC))) 0 rfl rfl rfl (Wr.agg Tryz.sizeOf190 rfl rfl rfl rfl) ?_) (PMem.le_refl _) (fun _ h => List.Sublist.subset (.cons _ (.cons _ (.cons_cons _ (.cons_cons _ (.cons_cons _ (.cons_cons _ (.cons_cons _ (.cons_cons _ (.cons _ (.slnil)))))))))) h)
              refine Y_go _ (PMem.le_refl _) (fun _ h => List.Sublist.subset (.cons _ (.cons _ (.cons_cons _ (.cons_cons _ (.cons_cons _ (.cons_cons _ (.cons_cons _ (.cons_cons _ (.cons _ (.slnil)))))))))) h) (fun _ h => h) ?_
              refine Y_r 6 rfl (D_assign rfl) ?_
              refine Y_nil ?_ (PMem.le_refl _) (fun _ h => List.Sublist.subset (.cons _ (.cons _ (.cons_cons _ (.cons_cons _ (.cons_cons _ (.cons_cons _ (.cons_cons _ (.cons_cons _ (.cons _ (.slnil)))))))))) h)
              refine R_seq ?_
              refine R_region ?_
              refine R_r (D_fieldAddr fa190_0 rfl) ?_
              refine R_r (D_load rfl (Has.own 0 rfl) (Rd.one Tryz.isAgg9 rfl)) ?_
              refine R_r (D_assign rfl) ?_
              refine R_nil ?_
              refine R_seq ?_
              refine R_seq ?_
              have hwa_ := wtL_one hx179; have hwb_ := Node.wt_eq x179; have hwc_ := wtO_kids ox; have hwd_ := wtO_kids oy
              refine R_region ?_
              refine R_r (D_move rfl) ?_
              refine R_r (D_neS rfl rfl) ?_
              refine R_nil ?_
              refine R_join [(2, S p), (3, .func (.func 60) #[] #[P_ be 0, P_ bw 0, P_ bo 0, P_ bn 0]), (11, .slice aa la.length ca), (12, .slice (if cb = 1 then (some ⟨b178, ob178, none⟩) else ((some ⟨b178, ob178, none⟩) : Option Addr).map (·.add (1 * 2))) ((lb.drop 1).length) (cb - 1)), (13, P_ b176 0), (14, P_ b177 0), (15, S (belowP p x179.name))] (M' := Mv) (H' := [.blk b177 (.cells (List.toArray (ChildC.cells (⟨x179.name, P_ tx179 0⟩ : ChildC))) 190), .blk b176 (.cells (List.toArray (ChildC.cells ChildC.zero)) 190), .blk b2 (.cells (List.toArray (Val.cells (valO oy))) 24), .blk b1 (.cells (List.toArray (Val.cells (valO ox))) 24), .blk be (.cells (List.toArray [.bool false]) 4), .blk bw (.cells (List.toArray [.bool true]) 4), .blk bo (.cells (List.toArray [v]) 31), .blk bn (.cells (List.toArray [I (-1)]) 3), .row v 66 71 ((l ++ done).length) ((l ++ done).flatMap Change.cells)]) ?_ ?_
              ·
                refine R_cond rfl (fun h7 => ?_) (fun h7 => ?_)
                ·
                  have h7p : ¬ (p = ([] : Str)) := by simpa using h7
                  refine R_region ?_
                  refine R_r (D_move rfl) ?_
                  refine R_r (D_addS rfl rfl (by simp; omega)) ?_
                  refine R_r (D_move rfl) ?_
                  refine R_r (D_addS rfl rfl (by simp; omega)) ?_
                  refine R_r (D_assign rfl) ?_
                  refine R_nil ?_
                  exact R_at (Env.sub_cons rfl <| Env.sub_cons rfl <| Env.sub_cons rfl <| Env.sub_cons rfl <| Env.sub_cons rfl <| Env.sub_cons rfl <| Env.sub_cons (by show some (S _) = some (S _); simp [belowP, h7p]) <| Env.sub_nil _)
                ·
                  have h7p : (p = ([] : Str)) := by simpa using h7
                  refine R_skip ?_
                  exact R_at (Env.sub_cons rfl <| Env.sub_cons rfl <| Env.sub_cons rfl <| Env.sub_cons rfl <| Env.sub_cons rfl <| Env.sub_cons rfl <| Env.sub_cons (by show some (S _) = some (S _); simp [belowP, h7p]) <| Env.sub_nil _)
              ·
                refine R_seq ?_
                refine R_region ?_
                refine R_r (D_fieldAddr fa190_1 rfl) ?_
                refine R_r (D_load rfl (Has.own 1 rfl) (Rd.one Tryz.isAgg34 rfl)) ?_
                refine R_r (D_fieldAddr fa190_1 rfl) ?_
                refine R_r (D_load rfl (Has.own 0 rfl) (Rd.one Tryz.isAgg34 rfl)) ?_
                refine R_r (D_move rfl) ?_
                refine R_r (D_move rfl) ?_
                have hblr181 := belowP_len p x179.name
                have hslr181x := sizeO_kids ox; have hnzr181x : sizeO none = 0 := rfl; have hwzr181x : wtO none = 0 := rfl
                have hszr181y := sizeL_one hx179; have hwtr181y := wtL_one hx179; have hwer181y := Node.wt_eq x179; have hspr181y := size_pos x179; have hslr181y := sizeO_lt (ox := oy) (by omega); have hwkr181y := wtO_lt (ox := oy) (by omega); have hnzr181y : sizeO (some x179) = x179.size := rfl; have hwzr181y : wtO (some x179) = 1 + Node.wtL x179.kids := rfl
                refine R_o (E_callHE [.blk b177 (.cells (List.toArray (ChildC.cells (⟨x179.name, P_ tx179 0⟩ : ChildC))) 190), .blk b176 (.cells (List.toArray (ChildC.cells ChildC.zero)) 190), .blk b2 (.cells (List.toArray (Val.cells (valO oy))) 24), .blk b1 (.cells (List.toArray (Val.cells (valO ox))) 24)] (giv be bw bo bn v (l ++ done)) rfl rfl rfl en62 (fun w hM hH => ih none (some x179) (by omega) (.pointer none) (P_ tx179 0) (belowP p x179.name) v (l ++ done) Mv w hM hH (.inl ⟨rfl, rfl⟩) (.inr ⟨tx179, x179, rfl, rfl, htx179⟩) (by simp only [List.length_append, List.length_singleton] at *; omega) (by omega) (by omega)) (fun vr181 Mr181 Hr181 hler181 hpr181 => ?_))
                have q182 := OptAt.le q105 hler181
                have q183 := OptAt.le q106 hler181
                have q184 := ChA.le q107 hler181
                have q185 := ChA.le q108 hler181
                have q186 := ChA.le hja hler181
                have q187 := ChA.le hjb hler181
                have q188 := hler181 _ _ hmb178
                have q189 := fun i x h => ChildR.le hler181 (hxb178 i x h)
                have q190 := TreeAt.le hler181 htx179
                have q191 := ChA.le u180 hler181
                obtain ⟨rfl, vr181, dlr181, hdr181, rfl⟩ := hpr181
                have hdnr181 := hdr181.len
                refine R_r (D_not rfl) ?_
                refine R_nil ?_
                refine R_cond_f rfl ?_
                refine R_skip ?_
                refine R_drop (H' := [.blk b2 (.cells (List.toArray (Val.cells (valO oy))) 24), .blk b1 (.cells (List.toArray (Val.cells (valO ox))) 24), .blk be (.cells (List.toArray [.bool false]) 4), .blk bw (.cells (List.toArray [.bool true]) 4), .blk bo (.cells (List.toArray [vr181]) 31), .blk bn (.cells (List.toArray [I (-1)]) 3), .row vr181 66 71 (((l ++ done) ++ dlr181).length) (((l ++ done) ++ dlr181).flatMap Change.cells)]) (.cons _ (.cons _ (List.Sublist.refl _))) ?_
                exact R_back (aa, la, ca, (if cb = 1 then (some ⟨b178, ob178, none⟩) else ((some ⟨b178, ob178, none⟩) : Option Addr).map (·.add (1 * 2))), (lb.drop 1), (cb - 1), done ++ dlr181, vr181, Mr181) (by show PMem.le Mr101 Mr181 ∧ la.length ≤ ca ∧ (lb.drop 1).length ≤ (cb - 1) ∧ ChA Mr181 aa la ∧ ChA Mr181 (if cb = 1 then (some ⟨b178, ob178, none⟩) else ((some ⟨b178, ob178, none⟩) : Option Addr).map (·.add (1 * 2))) (lb.drop 1) ∧ (∀ r, DifsR la (lb.drop 1) p r → DifsR (kidsO ox) (kidsO oy) p ((done ++ dlr181) ++ r)) ∧ Node.sizeL la ≤ Node.sizeL (kidsO ox) ∧ Node.sizeL (lb.drop 1) ≤ Node.sizeL (kidsO oy) ∧ Node.wtL la ≤ Node.wtL (kidsO ox) ∧ Node.wtL (lb.drop 1) ≤ Node.wtL (kidsO oy) ∧ (done ++ dlr181).length + Node.sizeL la + Node.sizeL (lb.drop 1) ≤ Node.sizeL (kidsO ox) + Node.sizeL (kidsO oy); exact ⟨(PMem.le_trans hleV hler181), by omega, by rw [List.length_drop]; omega, q186, q191, fun r_ hr_ => by rw [List.append_assoc]; refine hdif _ ?_; rw [drop1_at hx179]; exact DifsR.right (fun z_ hz_ => by rw [List.eq_nil_of_length_eq_zero (l := la) (by omega)] at hz_; simp at hz_) hdr181 hr_, by omega, by omega, by omega, by omega, by simp only [List.length_append]; omega⟩) (by show la.length + (lb.drop 1).length < la.length + lb.length; simp only [List.length_drop]; omega) (Env.sub_cons rfl <| Env.sub_cons rfl <| Env.sub_cons rfl <| Env.sub_cons rfl <| Env.sub_nil _) rfl (by simp only [List.append_assoc])
            ·
              have h6p := of_decide_eq_false h6
              exfalso; omega
      ·
        have h3p := of_decide_eq_false h3
        refine R_exit rfl ?_
        refine R_seq ?_
        refine R_region ?_
        refine R_r (D_assign rfl) ?_
        refine R_nil ?_
        refine R_ret ?_
        refine R_drop (H' := [.blk be (.cells (List.toArray [.bool false]) 4), .blk bw (.cells (List.toArray [.bool true]) 4), .blk bo (.cells (List.toArray [v]) 31), .blk bn (.cells (List.toArray [I (-1)]) 3), .row v 66 71 ((l ++ done).length) ((l ++ done).flatMap Change.cells)]) (.cons _ (.cons _ (.cons_cons _ (.cons_cons _ (.cons_cons _ (.cons_cons _ (.cons_cons _ (.slnil)))))))) ?_
        refine R_fin1 rfl rfl ?_
        have hdd := hdif [] (by rw [List.eq_nil_of_length_eq_zero (l := la) (by omega), List.eq_nil_of_length_eq_zero (l := lb) (by omega)]; exact .nil)
        rw [List.append_nil] at hdd
        have hdm := DifR.mk hdd
        rw [if_pos h1p] at hdm
        exact ⟨rfl, v, _, hdm, by simp⟩

theorem differ_C (be bw bo bn : Nat) : ∀ (n : Nat) (ox oy : Option Node), sizeO ox + sizeO oy = n → ∀ (vx vy : Value) (p : Str) (v : Value) (l : List Change) (M : PMem) (w : World), Lies M w → Handed M (giv be bw bo bn v l) w → OptAt M vx ox → OptAt M vy oy → l.length + sizeO ox + sizeO oy ≤ 1073741824 → p.length + wtO ox ≤ 1073741824 → p.length + wtO oy ≤ 1073741824 → Ends Tryz.prog 62 [vx, vy, S p, givF be bw bo bn] w (fps (giv be bw bo bn v l)) M (fun v' M' H' => v' = .bool true ∧ ∃ v2 dl, DifR ox oy p dl ∧ H' = giv be bw bo bn v2 (l ++ dl)) := by
  intro n
  induction n using Nat.strongRecOn with
  | _ n IH => exact fun ox oy hn vx vy p v l M w hM h1 h2 h3 h4 h5 h6 => differ_S ox oy vx vy p be bw bo bn v l M w hM h1 h2 h3 h4 h5 h6 (fun ox2 oy2 hlt => IH (sizeO ox2 + sizeO oy2) (by omega) ox2 oy2 rfl)

theorem Of1_C (ox oy : Option Node) (vx vy : Value) (bt bu elt elu : Nat) (frt fru : Nat × Nat) (be bw bo bn : Nat) (v : Value) (l : List Change) (M : PMem) (w : World) (hM : Lies M w) (hH : Handed M (giv be bw bo bn v l) w) (hmt : M bt = some (.cells (List.toArray [vx]) elt frt)) (hmu : M bu = some (.cells (List.toArray [vy]) elu fru)) (hox : OptAt M vx ox) (hoy : OptAt M vy oy) (hl : l.length + sizeO ox + sizeO oy ≤ 1073741824) (hpx : wtO ox ≤ 1073741824) (hpy : wtO oy ≤ 1073741824) : Ends Tryz.prog 61 [.func (.func 60) #[] #[P_ be 0, P_ bw 0, P_ bo 0, P_ bn 0], P_ bt 0, P_ bu 0] w (fps (giv be bw bo bn v l)) M (fun v' M' H' => ∃ v2 dl, DifR ox oy [] dl ∧ H' = giv be bw bo bn v2 (l ++ dl)) := by
  refine Ends.enter (H := [.blk be (.cells (List.toArray [.bool false]) 4), .blk bw (.cells (List.toArray [.bool true]) 4), .blk bo (.cells (List.toArray [v]) 31), .blk bn (.cells (List.toArray [I (-1)]) 3), .row v 66 71 l.length (l.flatMap Change.cells)]) Tryz.func61 rfl Tryz.ntmps61 rfl (St.startH hM hH) ?_
  refine R_region ?_
  refine R_r (D_load rfl (Has.mem hmt) (Rd.one Tryz.isAgg34 rfl)) ?_
  refine R_r (D_load rfl (Has.mem hmu) (Rd.one Tryz.isAgg34 rfl)) ?_
  refine R_r (D_move rfl) ?_
  refine R_o (E_callHE [] (giv be bw bo bn v l) rfl rfl rfl en62 (fun w hM hH => differ_C be bw bo bn _ ox oy rfl vx vy [] v l M w hM hH hox hoy hl (by simp only [List.length_nil]; omega) (by simp only [List.length_nil]; omega)) (fun vr1 Mr1 Hr1 hler1 hpr1 => ?_))
  have q2 := OptAt.le hox hler1
  have q3 := OptAt.le hoy hler1
  have q4 := hler1 _ _ hmt
  have q5 := hler1 _ _ hmu
  obtain ⟨rfl, v2, dl, hd, rfl⟩ := hpr1
  refine R_nil ?_
  refine R_fin0 rfl ?_
  exact ⟨v2, dl, hd, rfl⟩

theorem OfD_C (b c : Nat) (M : PMem) (w : World) (hM : Lies M w) : Ends Tryz.prog 21 [P_ b 0, P_ c 0] w [] M (fun v' M' H' => H' = [] ∧ ∃ bt bu elt elu frt fru, v' = .func (.func 61) #[] #[P_ bt 0, P_ bu 0] ∧ M' bt = some (.cells (List.toArray [P_ b 0]) elt frt) ∧ M' bu = some (.cells (List.toArray [P_ c 0]) elu fru)) := by
  refine Ends.enter (H := []) Tryz.func21 rfl Tryz.ntmps21 rfl (St.start hM) ?_
  refine R_seq ?_
  refine R_region ?_
  refine R_o (E_box [P_ b 0] rfl rfl (fun b1 => ?_))
  refine R_o (E_box [P_ c 0] rfl rfl (fun b2 => ?_))
  refine R_r (D_assign rfl) ?_
  refine R_nil ?_
  refine R_seq ?_
  refine R_region ?_
  refine R_r (D_makeFunc rfl) ?_
  refine R_r (D_assign rfl) ?_
  refine R_nil ?_
  refine R_ret ?_
  refine R_freeze (fun hlef3 hmf3 => ?_)
  refine R_freeze (fun hlef4 hmf4 => ?_)
  have q5 := hlef4 _ _ hmf3
  refine R_fin1 rfl rfl ?_
  exact ⟨rfl, b1, b2, _, _, _, _, rfl, hmf4, q5⟩

theorem given_C (ox oy : Option Node) (vx vy : Value) (bt bu elt elu : Nat) (frt fru : Nat × Nat) (M : PMem) (w : World) (hM : Lies M w) (hmt : M bt = some (.cells (List.toArray [vx]) elt frt)) (hmu : M bu = some (.cells (List.toArray [vy]) elu fru)) (hox : OptAt M vx ox) (hoy : OptAt M vy oy) (hl : sizeO ox + sizeO oy ≤ 1073741824) (hpx : wtO ox ≤ 1073741824) (hpy : wtO oy ≤ 1073741824) : Ends Tryz.prog 20 [.func (.func 61) #[] #[P_ bt 0, P_ bu 0], I (-1)] w [] M (fun v' M' H' => H' = [] ∧ ∃ a c dl, v' = .tuple #[.slice a dl.length c, .bool true] ∧ dl.length ≤ c ∧ SlA M' 71 (byEnc Change.cells) a dl ∧ DifR ox oy [] dl) := by
  refine Ends.enter (H := []) Tryz.func20 rfl Tryz.ntmps20 rfl (St.start hM) ?_
  refine R_seq ?_
  refine R_region ?_
  refine R_o (E_box [I (-1)] rfl rfl (fun b1 => ?_))
  refine R_r (D_assign rfl) ?_
  refine R_r (D_assign rfl) ?_
  refine R_nil ?_
  refine R_seq ?_
  refine R_seq ?_
  refine R_region ?_
  refine R_r (D_move rfl) ?_
  refine R_r (D_funcNil Tryz.underlying72 rfl) ?_
  refine R_nil ?_
  refine R_cond_f rfl ?_
  refine R_skip ?_
  refine R_seq ?_
  refine R_seq ?_
  refine R_region ?_
  refine R_r (D_load rfl (Has.own 0 rfl) (Rd.one Tryz.isAgg3 rfl)) ?_
  refine R_r (D_as (v' := .bool false) (D_eq rfl rfl) (by rfl)) ?_
  refine R_nil ?_
  refine R_cond_f rfl ?_
  refine R_skip ?_
  refine R_seq ?_
  refine R_region ?_
  refine R_o (E_alloc [.slice none 0 0] Tryz.zeroValue31 rfl (fun b2 => ?_))
  refine R_nil ?_
  refine R_seq ?_
  refine R_region ?_
  refine R_o (E_alloc [.bool false] Tryz.zeroValue4 rfl (fun b3 => ?_))
  refine R_o (E_alloc [.bool false] Tryz.zeroValue4 rfl (fun b4 => ?_))
  refine R_o (E_store (cs' := [.bool true]) 1 rfl rfl rfl (Wr.one Tryz.sizeOf4 rfl rfl rfl) ?_)
  refine R_o (E_store (cs' := [.bool false]) 0 rfl rfl rfl (Wr.one Tryz.sizeOf4 rfl rfl rfl) ?_)
  refine R_nil ?_
  refine R_seq ?_
  refine R_region ?_
  refine R_r (D_move rfl) ?_
  refine R_r (D_makeFunc rfl) ?_
  refine R_row0 66 71 ?_
  refine R_perm (H' := [.blk b1 (.cells (List.toArray [I (-1)]) 3), .row (.slice none 0 0) 66 71 0 ([]), .blk b4 (.cells (List.toArray [.bool false]) 4), .blk b3 (.cells (List.toArray [.bool true]) 4), .blk b2 (.cells (List.toArray [.slice none 0 0]) 31)]) (perm_front (l := ([.row (.slice none 0 0) 66 71 0 ([]), .blk b4 (.cells (List.toArray [.bool false]) 4), .blk b3 (.cells (List.toArray [.bool true]) 4), .blk b2 (.cells (List.toArray [.slice none 0 0]) 31), .blk b1 (.cells (List.toArray [I (-1)]) 3)] : List Res)) 4 rfl) ?_
  refine R_perm (H' := [.blk b2 (.cells (List.toArray [.slice none 0 0]) 31), .blk b1 (.cells (List.toArray [I (-1)]) 3), .row (.slice none 0 0) 66 71 0 ([]), .blk b4 (.cells (List.toArray [.bool false]) 4), .blk b3 (.cells (List.toArray [.bool true]) 4)]) (perm_front (l := ([.blk b1 (.cells (List.toArray [I (-1)]) 3), .row (.slice none 0 0) 66 71 0 ([]), .blk b4 (.cells (List.toArray [.bool false]) 4), .blk b3 (.cells (List.toArray [.bool true]) 4), .blk b2 (.cells (List.toArray [.slice none 0 0]) 31)] : List Res)) 4 rfl) ?_
  refine R_perm (H' := [.blk b3 (.cells (List.toArray [.bool true]) 4), .blk b2 (.cells (List.toArray [.slice none 0 0]) 31), .blk b1 (.cells (List.toArray [I (-1)]) 3), .row (.slice none 0 0) 66 71 0 ([]), .blk b4 (.cells (List.toArray [.bool false]) 4)]) (perm_front (l := ([.blk b2 (.cells (List.toArray [.slice none 0 0]) 31), .blk b1 (.cells (List.toArray [I (-1)]) 3), .row (.slice none 0 0) 66 71 0 ([]), .blk b4 (.cells (List.toArray [.bool false]) 4), .blk b3 (.cells (List.toArray [.bool true]) 4)] : List Res)) 4 rfl) ?_
  refine R_perm (H' := [.blk b4 (.cells (List.toArray [.bool false]) 4), .blk b3 (.cells (List.toArray [.bool true]) 4), .blk b2 (.cells (List.toArray [.slice none 0 0]) 31), .blk b1 (.cells (List.toArray [I (-1)]) 3), .row (.slice none 0 0) 66 71 0 ([])]) (perm_front (l := ([.blk b3 (.cells (List.toArray [.bool true]) 4), .blk b2 (.cells (List.toArray [.slice none 0 0]) 31), .blk b1 (.cells (List.toArray [I (-1)]) 3), .row (.slice none 0 0) 66 71 0 ([]), .blk b4 (.cells (List.toArray [.bool false]) 4)] : List Res)) 4 rfl) ?_
  refine R_o (E_callHE [] (giv b4 b3 b2 b1 (.slice none 0 0) []) rfl rfl rfl en61 (fun w hM hH => Of1_C ox oy vx vy bt bu elt elu frt fru b4 b3 b2 b1 (.slice none 0 0) [] M w hM hH hmt hmu hox hoy (by simpa using hl) hpx hpy) (fun vr5 Mr5 Hr5 hler5 hpr5 => ?_))
  have q6 := OptAt.le hox hler5
  have q7 := OptAt.le hoy hler5
  have q8 := hler5 _ _ hmt
  have q9 := hler5 _ _ hmu
  obtain ⟨v2, dl, hd, rfl⟩ := hpr5
  refine R_nil ?_
  refine R_seq ?_
  refine R_perm (H' := [.row v2 66 71 (([] ++ dl).length) (([] ++ dl).flatMap Change.cells), .blk b4 (.cells (List.toArray [.bool false]) 4), .blk b3 (.cells (List.toArray [.bool true]) 4), .blk b2 (.cells (List.toArray [v2]) 31), .blk b1 (.cells (List.toArray [I (-1)]) 3)]) (perm_front (l := ([.blk b4 (.cells (List.toArray [.bool false]) 4), .blk b3 (.cells (List.toArray [.bool true]) 4), .blk b2 (.cells (List.toArray [v2]) 31), .blk b1 (.cells (List.toArray [I (-1)]) 3), .row v2 66 71 (([] ++ dl).length) (([] ++ dl).flatMap Change.cells)] : List Res)) 4 rfl) ?_
  refine R_freezeRow (fun M10 hleM10 hrowM10 => ?_)
  have q11 := OptAt.le q6 hleM10
  have q12 := OptAt.le q7 hleM10
  have q13 := hleM10 _ _ q8
  have q14 := hleM10 _ _ q9
  obtain ⟨ag, cg, rfl, hcg, hsg⟩ := hrowM10.sla (l := dl) (enc := Change.cells) (fun _ => rfl) (by omega)
  refine Y_region [.blk b4 (.cells (List.toArray [.bool false]) 4), .blk b3 (.cells (List.toArray [.bool true]) 4), .blk b2 (.cells (List.toArray [.slice ag dl.length cg]) 31), .blk b1 (.cells (List.toArray [I (-1)]) 3)] mixed ?_
  refine Y_r 0 rfl (D_load rfl (Has.own 2 rfl) (Rd.one Tryz.isAgg31 rfl)) ?_
  refine Y_r 1 rfl (D_load rfl (Has.own 1 rfl) (Rd.one Tryz.isAgg4 rfl)) ?_
  refine Y_r 2 rfl (D_assign rfl) ?_
  refine Y_r 3 rfl (D_assign rfl) ?_
  refine Y_nil ?_ (PMem.le_refl _) (fun _ h => List.Sublist.subset (.cons_cons _ (.cons_cons _ (.cons_cons _ (.cons_cons _ (.slnil))))) h)
  refine R_ret ?_
  refine R_drop (List.nil_sublist _) ?_
  refine R_fin2 rfl rfl rfl ?_
  exact ⟨rfl, ag, cg, dl, rfl, hcg, hsg, hd⟩

end Go.Proofs.YtgmomhdammdjgaaGreat
