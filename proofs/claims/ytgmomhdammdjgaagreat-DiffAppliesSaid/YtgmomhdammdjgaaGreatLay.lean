/-
  A copy of a list of changes with room behind it (twineroom.Changes), walked. Conditions: lists within 2^30.
-/
import Derived.Test.YtgmomhdammdjgaaGreatHold
set_option linter.unusedVariables false
set_option linter.unusedSimpArgs false
set_option maxRecDepth 20000
set_option maxHeartbeats 4000000
namespace Go.Proofs.YtgmomhdammdjgaaGreat
open Go Go.Proofs Go.RowKit

theorem en34 : ∀ (args : Array Value) (w : World), (callFunc 34 args).run Tryz.prog w = .ok (.enter 34 args) w := enters_fn Tryz.func34 (by kernel_rfl) rfl
theorem bs31_0  : Bs Tryz.prog 31 66 0 [] ([]) := fun w => by kernel_rfl
theorem el66 : ElemOk Tryz.prog 66 71 128 := ElemOk.mk' (by kernel_rfl) (by omega)
theorem bs31_1 (x0 : Change) : Bs Tryz.prog 31 66 1 [(0, Change.val x0)] (Change.cells x0) := fun w => by kernel_rfl
theorem bs42_1_sl (a : Option Addr) (n c : Nat) : Bs Tryz.prog 42 31 1 [(0, .slice a n c)] [.slice a n c] := fun w => by kernel_rfl
theorem el31 : ElemOk Tryz.prog 31 1 24 := ElemOk.mk' (by kernel_rfl) (by omega)
theorem bs39_1_int (x0 : Int) : Bs Tryz.prog 39 3 1 [(0, I x0)] [I x0] := fun w => by kernel_rfl
theorem el3 : ElemOk Tryz.prog 3 1 8 := ElemOk.mk' (by kernel_rfl) (by omega)
theorem en10 : ∀ (args : Array Value) (w : World), (callFunc 10 args).run Tryz.prog w = .ok (.enter 10 args) w := enters_fn Tryz.func10 (by kernel_rfl) rfl
theorem RowIn.one {M : PMem} {v x : Value} {el : Nat} (h : RowIn M v el 1 1 [x]) : ∃ b c cs, v = .slice (some ⟨b, 0, none⟩) 1 c ∧ M b = some (.cells (List.toArray cs) el) ∧ cs[0]? = some x := by
  obtain ⟨h1, h2⟩ := h
  rcases h2 with ⟨_, h2⟩ | ⟨gb, cap, cs, hv, hm, hnc, hcm, hcs, ht⟩
  · cases h2
  · refine ⟨gb, cap, cs, hv, hm, ?_⟩
    have := congrArg (fun l => l[0]?) ht
    simp only [List.getElem?_take] at this
    simpa using this

theorem lay_some (l : List Change) (a : Option Addr) (c : Nat) (br : Nat) (M : PMem) (w : World) (hM : Lies M w) (hr : (Res.blk br (.cells (List.toArray (roomCells nilS nilS)) 53)).holds w) (hf : ∀ q, (Res.blk br (.cells (List.toArray (roomCells nilS nilS)) 53)).fp = some q → M q = none) (hc : l.length ≤ c) (hsl : SlA M 71 (byEnc Change.cells) a l) (hn : l.length ≤ 1073741824) (h0 : 0 < l.length) : Ends Tryz.prog 34 [P_ br 0, .slice a l.length c, I 40] w [br] M (fun v M' H' => ∃ (bf capf : Nat) (csf : List Value), v = .slice (some ⟨bf, 0, none⟩) l.length (l.length + 40) ∧ H' = [.blk bf (.cells (List.toArray csf) 66)] ∧ RoomAt M' br bf l.length (l.length + 40) capf ∧ csf.length = capf * 71 ∧ l.length + 40 ≤ capf ∧ csf.take ((l.length + 40) * 71) = (l ++ markL 40).flatMap Change.cells) := by
  refine Ends.enter (H := [.blk br (.cells (List.toArray [.slice none 0 0, .slice none 0 0, .slice none 0 0, .slice none 0 0, .slice none 0 0, .slice none 0 0, .slice none 0 0, .slice none 0 0, .slice none 0 0, .slice none 0 0, .slice none 0 0, .slice none 0 0, .slice none 0 0, .slice none 0 0, .slice none 0 0, .slice none 0 0, .slice none 0 0, .slice none 0 0, .slice none 0 0, .slice none 0 0, .slice none 0 0, .slice none 0 0, .slice none 0 0, .slice none 0 0, .slice none 0 0, .slice none 0 0]) 53)]) Tryz.func34 rfl Tryz.ntmps34 rfl (St.startR hM hr hf) ?_
  refine R_seq ?_
  refine R_region ?_
  refine R_r (D_assign rfl) ?_
  refine R_nil ?_
  refine R_seq ?_
  refine R_region ?_
  refine R_o (E_buildSlice (ps := []) (vs := []) (cs := ([] : List Value)) rfl (bs31_0) (fun b1 => ?_))
  refine R_rowblk (el := 66) 71 0 rfl (by unfold maxLen; omega) ?_
  refine R_r (D_assign rfl) ?_
  refine R_nil ?_
  refine R_seq ?_
  refine R_region ?_
  refine R_r (D_move rfl) ?_
  refine R_r (D_move rfl) ?_
  obtain ⟨b2, ob2, csb2, elb2, frb2, rfl, hmb2, hxb2⟩ := hsl.at (i := 0) (by exact h0)
  refine R_o (E_append (news := l.flatMap Change.cells) (m := l.length) 0 Tryz.underlying31 el66 rfl rfl rfl (Has.mem hmb2) (chunks_flat Change.cells 71 (fun _ => rfl) _ _ _ hxb2) (len_flat (enc := Change.cells) (n := 71) (fun _ => rfl) _) (ones_flat ones_Change _) (by unfold maxLen; first | omega | (simp only [List.length_append]; omega) | (simp; omega)) (by first | omega | (simp only [List.length_append]; omega) | (simp; omega)) (fun v3 hv3 => ?_))
  refine R_r (D_assign rfl) ?_
  refine R_nil ?_
  refine R_seq ?_
  refine R_seq ?_
  refine R_region ?_
  refine R_r (D_assign rfl) ?_
  refine R_nil ?_
  refine R_block ?_
  refine R_drop (H' := [.row v3 66 71 (0 + l.length) (([] : List Value) ++ l.flatMap Change.cells), .blk br (.cells (List.toArray [.slice none 0 0, .slice none 0 0, .slice none 0 0, .slice none 0 0, .slice none 0 0, .slice none 0 0, .slice none 0 0, .slice none 0 0, .slice none 0 0, .slice none 0 0, .slice none 0 0, .slice none 0 0, .slice none 0 0, .slice none 0 0, .slice none 0 0, .slice none 0 0, .slice none 0 0, .slice none 0 0, .slice none 0 0, .slice none 0 0, .slice none 0 0, .slice none 0 0, .slice none 0 0, .slice none 0 0, .slice none 0 0, .slice none 0 0]) 53)]) (.cons_cons _ (.cons_cons _ (.slnil))) ?_
  refine R_loop (σ := (Value) × (Nat)) (fun gs => ([(0, P_ br 0), (1, .slice (some ⟨b2, ob2, none⟩) l.length c), (2, I 40), (7, gs.1), (8, I (gs.2 : Int))], M, [.row gs.1 66 71 ((l ++ markL gs.2).length) ((l ++ markL gs.2).flatMap Change.cells), .blk br (.cells (List.toArray [.slice none 0 0, .slice none 0 0, .slice none 0 0, .slice none 0 0, .slice none 0 0, .slice none 0 0, .slice none 0 0, .slice none 0 0, .slice none 0 0, .slice none 0 0, .slice none 0 0, .slice none 0 0, .slice none 0 0, .slice none 0 0, .slice none 0 0, .slice none 0 0, .slice none 0 0, .slice none 0 0, .slice none 0 0, .slice none 0 0, .slice none 0 0, .slice none 0 0, .slice none 0 0, .slice none 0 0, .slice none 0 0, .slice none 0 0]) 53)])) (fun gs => gs.2 ≤ 40) (fun gs => 40 - gs.2) (v3, 0) ?_ (Env.sub_cons rfl <| Env.sub_cons rfl <| Env.sub_cons rfl <| Env.sub_cons rfl <| Env.sub_cons rfl <| Env.sub_nil _) rfl (by simp [markL]) ?_
  · show 0 ≤ 40; omega
  rintro ⟨v, i⟩ hok
  replace hok : i ≤ 40 := hok
  show Cx.R _ _ _ [(0, P_ br 0), (1, .slice (some ⟨b2, ob2, none⟩) l.length c), (2, I 40), (7, v), (8, I (i : Int))] M [.row v 66 71 ((l ++ markL i).length) ((l ++ markL i).flatMap Change.cells), .blk br (.cells (List.toArray [.slice none 0 0, .slice none 0 0, .slice none 0 0, .slice none 0 0, .slice none 0 0, .slice none 0 0, .slice none 0 0, .slice none 0 0, .slice none 0 0, .slice none 0 0, .slice none 0 0, .slice none 0 0, .slice none 0 0, .slice none 0 0, .slice none 0 0, .slice none 0 0, .slice none 0 0, .slice none 0 0, .slice none 0 0, .slice none 0 0, .slice none 0 0, .slice none 0 0, .slice none 0 0, .slice none 0 0, .slice none 0 0, .slice none 0 0]) 53)]
  have hml := markL_len i
  have hla : (l ++ markL i).length = l.length + (markL i).length := List.length_append
  refine R_seq ?_
  refine R_seq ?_
  refine R_region ?_
  refine R_r (D_move rfl) ?_
  refine R_r (D_move rfl) ?_
  refine R_r (D_lt rfl rfl) ?_
  refine R_nil ?_
  refine R_cond rfl (fun h1 => ?_) (fun h1 => ?_)
  ·
    have h1p := of_decide_eq_true h1
    refine R_skip ?_
    refine R_seq ?_
    refine R_block ?_
    refine R_region ?_
    refine R_r (D_move rfl) ?_
    refine R_r (D_move rfl) ?_
    refine R_o (E_callV (v := S (wordS (i : Int))) rfl rfl en77 (fun w hM => word_C (i : Int) M w hM ) ?_)
    refine R_r (D_build rfl (bd66_0 _)) ?_
    refine R_o (E_buildSlice (ps := [(0, .tmp 21)]) (vs := [(0, Change.val (⟨wordS (i : Int), Val.zero, Val.zero⟩ : Change))]) (cs := (Change.cells (⟨wordS (i : Int), Val.zero, Val.zero⟩ : Change))) rfl (bs31_1 _) (fun b4 => ?_))
    refine R_o (E_append (news := (Change.cells (⟨wordS (i : Int), Val.zero, Val.zero⟩ : Change))) 1 Tryz.underlying31 el66 rfl rfl rfl (Has.own 0 rfl) rfl rfl (by exact ones_Change _) (by unfold maxLen; first | omega | (simp only [List.length_append]; omega) | (simp; omega)) (by first | omega | (simp only [List.length_append]; omega) | (simp; omega)) (fun v5 hv5 => ?_))
    refine R_r (D_assign rfl) ?_
    refine R_nil ?_
    refine R_region ?_
    refine R_r (D_move rfl) ?_
    refine R_r (D_add rfl rfl rfl (by omega) (by omega)) ?_
    refine R_r (D_assign rfl) ?_
    refine R_nil ?_
    refine R_drop (H' := [.row v5 66 71 ((l ++ markL i).length + 1) (((l ++ markL i).flatMap Change.cells) ++ (Change.cells (⟨wordS (i : Int), Val.zero, Val.zero⟩ : Change))), .blk br (.cells (List.toArray [.slice none 0 0, .slice none 0 0, .slice none 0 0, .slice none 0 0, .slice none 0 0, .slice none 0 0, .slice none 0 0, .slice none 0 0, .slice none 0 0, .slice none 0 0, .slice none 0 0, .slice none 0 0, .slice none 0 0, .slice none 0 0, .slice none 0 0, .slice none 0 0, .slice none 0 0, .slice none 0 0, .slice none 0 0, .slice none 0 0, .slice none 0 0, .slice none 0 0, .slice none 0 0, .slice none 0 0, .slice none 0 0, .slice none 0 0]) 53)]) (.cons _ (List.Sublist.refl _)) ?_
    exact R_back (v5, i + 1) (by show (i + 1) ≤ 40; omega) (by show 40 - (i + 1) < 40 - i; omega) (Env.sub_cons rfl <| Env.sub_cons rfl <| Env.sub_cons rfl <| Env.sub_cons rfl <| Env.sub_cons rfl <| Env.sub_nil _) rfl (by rw [markL_succ, ← List.append_assoc]; (try simp [markC]); (try omega))
  ·
    have h1p := of_decide_eq_false h1
    refine R_exit rfl ?_
    refine R_seq ?_
    obtain rfl : i = 40 := by omega
    refine R_rowSome (by omega) (fun bf capf hvf hcapf => ?_)
    subst hvf
    refine R_row0 31 1 ?_
    refine R_region ?_
    refine R_r (D_move rfl) ?_
    refine R_r (D_move rfl) ?_
    refine R_r (D_nilCheck rfl) ?_
    refine R_r (D_fieldAddr fa53_6 rfl) ?_
    refine R_r (D_load rfl (Has.own 2 rfl) (Rd.one Tryz.isAgg42 rfl)) ?_
    refine R_r (D_move rfl) ?_
    refine R_o (E_buildSlice (ps := [(0, .tmp 29)]) (vs := [(0, .slice (some ⟨bf, 0, none⟩) ((l ++ markL 40).length) capf)]) (cs := [.slice (some ⟨bf, 0, none⟩) ((l ++ markL 40).length) capf]) rfl (bs42_1_sl _ _ _) (fun b6 => ?_))
    refine R_o (E_append (news := [.slice (some ⟨bf, 0, none⟩) ((l ++ markL 40).length) capf]) 1 Tryz.underlying42 el31 rfl rfl rfl (Has.own 0 rfl) rfl rfl (by intro u hu; simp at hu; (first | (rcases hu with rfl | hu) | subst hu) <;> rfl) (by unfold maxLen; first | omega | (simp only [List.length_append]; omega) | (simp; omega)) (by first | omega | (simp only [List.length_append]; omega) | (simp; omega)) (fun v7 hv7 => ?_))
    refine R_r (D_nilCheck rfl) ?_
    refine R_r (D_fieldAddr fa53_6 rfl) ?_
    refine R_o (E_store (cs' := [.slice none 0 0, .slice none 0 0, .slice none 0 0, .slice none 0 0, .slice none 0 0, .slice none 0 0, v7, .slice none 0 0, .slice none 0 0, .slice none 0 0, .slice none 0 0, .slice none 0 0, .slice none 0 0, .slice none 0 0, .slice none 0 0, .slice none 0 0, .slice none 0 0, .slice none 0 0, .slice none 0 0, .slice none 0 0, .slice none 0 0, .slice none 0 0, .slice none 0 0, .slice none 0 0, .slice none 0 0, .slice none 0 0]) 3 rfl rfl rfl (Wr.one Tryz.sizeOf42 hv7 rfl rfl) ?_)
    refine R_nil ?_
    refine R_seq ?_
    refine R_row0 3 1 ?_
    refine R_region ?_
    refine R_r (D_move rfl) ?_
    refine R_r (D_move rfl) ?_
    refine R_r (D_nilCheck rfl) ?_
    refine R_r (D_fieldAddr fa53_7 rfl) ?_
    refine R_r (D_load rfl (Has.own 4 rfl) (Rd.one Tryz.isAgg39 rfl)) ?_
    refine R_r (D_move rfl) ?_
    refine R_r (D_lenL Tryz.underlying31 rfl) ?_
    refine R_o (E_buildSlice (ps := [(0, .tmp 40)]) (vs := [(0, I (l.length : Int))]) (cs := [I (l.length : Int)]) rfl (bs39_1_int _) (fun b8 => ?_))
    refine R_o (E_append (news := [I (l.length : Int)]) 1 Tryz.underlying39 el3 rfl rfl rfl (Has.own 0 rfl) rfl rfl (by intro u hu; simp at hu; (first | (rcases hu with rfl | hu) | subst hu) <;> rfl) (by unfold maxLen; first | omega | (simp only [List.length_append]; omega) | (simp; omega)) (by first | omega | (simp only [List.length_append]; omega) | (simp; omega)) (fun v9 hv9 => ?_))
    refine R_r (D_nilCheck rfl) ?_
    refine R_r (D_fieldAddr fa53_7 rfl) ?_
    refine R_o (E_store (cs' := [.slice none 0 0, .slice none 0 0, .slice none 0 0, .slice none 0 0, .slice none 0 0, .slice none 0 0, v7, v9, .slice none 0 0, .slice none 0 0, .slice none 0 0, .slice none 0 0, .slice none 0 0, .slice none 0 0, .slice none 0 0, .slice none 0 0, .slice none 0 0, .slice none 0 0, .slice none 0 0, .slice none 0 0, .slice none 0 0, .slice none 0 0, .slice none 0 0, .slice none 0 0, .slice none 0 0, .slice none 0 0]) 5 rfl rfl rfl (Wr.one Tryz.sizeOf39 hv9 rfl rfl) ?_)
    refine R_nil ?_
    refine R_seq ?_
    refine R_region ?_
    refine R_r (D_move rfl) ?_
    refine R_r (D_move rfl) ?_
    refine R_r (D_lenL Tryz.underlying31 rfl) ?_
    refine R_r (D_move rfl) ?_
    refine R_r (D_lenL Tryz.underlying31 rfl) ?_
    refine R_r (D_slice3 (m := l.length) (q := (l ++ markL 40).length) Tryz.underlying31 Tryz.sizeOf66 rfl rfl rfl (by omega) hcapf hcapf) ?_
    refine R_r (D_assign rfl) ?_
    refine R_nil ?_
    refine R_ret ?_
    refine R_drop (H' := [.row v9 3 1 (0 + 1) (([]) ++ [I (l.length : Int)]), .row v7 31 1 (0 + 1) (([]) ++ [.slice (some ⟨bf, 0, none⟩) ((l ++ markL 40).length) capf]), .row (.slice (some ⟨bf, 0, none⟩) ((l ++ markL 40).length) capf) 66 71 ((l ++ markL 40).length) ((l ++ markL 40).flatMap Change.cells), .blk br (.cells (List.toArray [.slice none 0 0, .slice none 0 0, .slice none 0 0, .slice none 0 0, .slice none 0 0, .slice none 0 0, v7, v9, .slice none 0 0, .slice none 0 0, .slice none 0 0, .slice none 0 0, .slice none 0 0, .slice none 0 0, .slice none 0 0, .slice none 0 0, .slice none 0 0, .slice none 0 0, .slice none 0 0, .slice none 0 0, .slice none 0 0, .slice none 0 0, .slice none 0 0, .slice none 0 0, .slice none 0 0, .slice none 0 0]) 53)]) (.cons _ (.cons_cons _ (.cons _ (.cons_cons _ (.cons_cons _ (.cons_cons _ (.slnil))))))) ?_
    refine R_perm (H' := [.row v7 31 1 (0 + 1) (([]) ++ [.slice (some ⟨bf, 0, none⟩) ((l ++ markL 40).length) capf]), .row v9 3 1 (0 + 1) (([]) ++ [I (l.length : Int)]), .row (.slice (some ⟨bf, 0, none⟩) ((l ++ markL 40).length) capf) 66 71 ((l ++ markL 40).length) ((l ++ markL 40).flatMap Change.cells), .blk br (.cells (List.toArray [.slice none 0 0, .slice none 0 0, .slice none 0 0, .slice none 0 0, .slice none 0 0, .slice none 0 0, v7, v9, .slice none 0 0, .slice none 0 0, .slice none 0 0, .slice none 0 0, .slice none 0 0, .slice none 0 0, .slice none 0 0, .slice none 0 0, .slice none 0 0, .slice none 0 0, .slice none 0 0, .slice none 0 0, .slice none 0 0, .slice none 0 0, .slice none 0 0, .slice none 0 0, .slice none 0 0, .slice none 0 0]) 53)]) (perm_front (l := ([.row v9 3 1 (0 + 1) (([]) ++ [I (l.length : Int)]), .row v7 31 1 (0 + 1) (([]) ++ [.slice (some ⟨bf, 0, none⟩) ((l ++ markL 40).length) capf]), .row (.slice (some ⟨bf, 0, none⟩) ((l ++ markL 40).length) capf) 66 71 ((l ++ markL 40).length) ((l ++ markL 40).flatMap Change.cells), .blk br (.cells (List.toArray [.slice none 0 0, .slice none 0 0, .slice none 0 0, .slice none 0 0, .slice none 0 0, .slice none 0 0, v7, v9, .slice none 0 0, .slice none 0 0, .slice none 0 0, .slice none 0 0, .slice none 0 0, .slice none 0 0, .slice none 0 0, .slice none 0 0, .slice none 0 0, .slice none 0 0, .slice none 0 0, .slice none 0 0, .slice none 0 0, .slice none 0 0, .slice none 0 0, .slice none 0 0, .slice none 0 0, .slice none 0 0]) 53)] : List Res)) 1 rfl) ?_
    refine R_freezeRow (fun M10 hleM10 hrowM10 => ?_)
    have q11 := SlA.le hsl hleM10
    have q12 := hleM10 _ _ hmb2
    refine R_freezeRow (fun M14 hleM14 hrowM14 => ?_)
    have q15 := SlA.le q11 hleM14
    have q16 := hleM14 _ _ q12
    obtain ⟨bc, c1, csc, hv1, hmc, hcc⟩ := RowIn.one hrowM10
    obtain ⟨ba, c2, csa, hv2, hma, hca⟩ := RowIn.one hrowM14
    subst hv1; subst hv2
    refine R_perm (H' := [.blk br (.cells (List.toArray [.slice none 0 0, .slice none 0 0, .slice none 0 0, .slice none 0 0, .slice none 0 0, .slice none 0 0, .slice (some ⟨bc, 0, none⟩) 1 c1, .slice (some ⟨ba, 0, none⟩) 1 c2, .slice none 0 0, .slice none 0 0, .slice none 0 0, .slice none 0 0, .slice none 0 0, .slice none 0 0, .slice none 0 0, .slice none 0 0, .slice none 0 0, .slice none 0 0, .slice none 0 0, .slice none 0 0, .slice none 0 0, .slice none 0 0, .slice none 0 0, .slice none 0 0, .slice none 0 0, .slice none 0 0]) 53), .row (.slice (some ⟨bf, 0, none⟩) ((l ++ markL 40).length) capf) 66 71 ((l ++ markL 40).length) ((l ++ markL 40).flatMap Change.cells)]) (perm_front (l := ([.row (.slice (some ⟨bf, 0, none⟩) ((l ++ markL 40).length) capf) 66 71 ((l ++ markL 40).length) ((l ++ markL 40).flatMap Change.cells), .blk br (.cells (List.toArray [.slice none 0 0, .slice none 0 0, .slice none 0 0, .slice none 0 0, .slice none 0 0, .slice none 0 0, .slice (some ⟨bc, 0, none⟩) 1 c1, .slice (some ⟨ba, 0, none⟩) 1 c2, .slice none 0 0, .slice none 0 0, .slice none 0 0, .slice none 0 0, .slice none 0 0, .slice none 0 0, .slice none 0 0, .slice none 0 0, .slice none 0 0, .slice none 0 0, .slice none 0 0, .slice none 0 0, .slice none 0 0, .slice none 0 0, .slice none 0 0, .slice none 0 0, .slice none 0 0, .slice none 0 0]) 53)] : List Res)) 1 rfl) ?_
    refine R_freeze (fun hlef18 hmf18 => ?_)
    have q19 := SlA.le q15 hlef18
    have q20 := hlef18 _ _ q16
    refine R_openRow (fun _ h0 _ => absurd h0 (by omega)) (fun bf_ cap_ csf hvo hnco hcmo hcso htso => ?_)
    obtain ⟨e1, _, e3⟩ := slice_inj hvo; injection e1 with e4; injection e4 with e5 _; subst e5; subst e3
    refine R_fin1 rfl rfl ?_
    exact ⟨bf, capf, csf, by rw [show (l ++ markL 40).length = l.length + 40 from (by omega)], rfl, ⟨bc, c1, ba, c2, _, _, _, _, _, _, csc, csa, hmf18, ((PMem.le_trans hleM14 hlef18) _ _ hmc), by rw [hcc, show (l ++ markL 40).length = l.length + 40 from (by omega)], (hlef18 _ _ hma), hca⟩, hcso, by omega, by rw [show l.length + 40 = (l ++ markL 40).length from (by omega)]; exact htso⟩

theorem lay_nil (l : List Change) (a : Option Addr) (c : Nat) (br : Nat) (M : PMem) (w : World) (hM : Lies M w) (hr : (Res.blk br (.cells (List.toArray (roomCells nilS nilS)) 53)).holds w) (hf : ∀ q, (Res.blk br (.cells (List.toArray (roomCells nilS nilS)) 53)).fp = some q → M q = none) (hl : l = []) : Ends Tryz.prog 34 [P_ br 0, .slice a 0 c, I 40] w [br] M (fun v M' H' => ∃ (bf capf : Nat) (csf : List Value), v = .slice (some ⟨bf, 0, none⟩) l.length (l.length + 40) ∧ H' = [.blk bf (.cells (List.toArray csf) 66)] ∧ RoomAt M' br bf l.length (l.length + 40) capf ∧ csf.length = capf * 71 ∧ l.length + 40 ≤ capf ∧ csf.take ((l.length + 40) * 71) = (l ++ markL 40).flatMap Change.cells) := by
  have hl0 : l.length = 0 := by rw [hl]; rfl
  refine Ends.enter (H := [.blk br (.cells (List.toArray [.slice none 0 0, .slice none 0 0, .slice none 0 0, .slice none 0 0, .slice none 0 0, .slice none 0 0, .slice none 0 0, .slice none 0 0, .slice none 0 0, .slice none 0 0, .slice none 0 0, .slice none 0 0, .slice none 0 0, .slice none 0 0, .slice none 0 0, .slice none 0 0, .slice none 0 0, .slice none 0 0, .slice none 0 0, .slice none 0 0, .slice none 0 0, .slice none 0 0, .slice none 0 0, .slice none 0 0, .slice none 0 0, .slice none 0 0]) 53)]) Tryz.func34 rfl Tryz.ntmps34 rfl (St.startR hM hr hf) ?_
  refine R_seq ?_
  refine R_region ?_
  refine R_r (D_assign rfl) ?_
  refine R_nil ?_
  refine R_seq ?_
  refine R_region ?_
  refine R_o (E_buildSlice (ps := []) (vs := []) (cs := ([] : List Value)) rfl (bs31_0) (fun b1 => ?_))
  refine R_rowblk (el := 66) 71 0 rfl (by unfold maxLen; omega) ?_
  refine R_r (D_assign rfl) ?_
  refine R_nil ?_
  refine R_seq ?_
  refine R_region ?_
  refine R_r (D_move rfl) ?_
  refine R_r (D_move rfl) ?_
  refine R_o (E_appendNil Tryz.underlying31 Tryz.sizeOf66 rfl rfl (by omega) ?_)
  refine R_r (D_assign rfl) ?_
  refine R_nil ?_
  refine R_seq ?_
  refine R_seq ?_
  refine R_region ?_
  refine R_r (D_assign rfl) ?_
  refine R_nil ?_
  refine R_block ?_
  refine R_drop (H' := [.row (.slice (some ⟨b1, 0, none⟩) 0 0) 66 71 0 ([] : List Value), .blk br (.cells (List.toArray [.slice none 0 0, .slice none 0 0, .slice none 0 0, .slice none 0 0, .slice none 0 0, .slice none 0 0, .slice none 0 0, .slice none 0 0, .slice none 0 0, .slice none 0 0, .slice none 0 0, .slice none 0 0, .slice none 0 0, .slice none 0 0, .slice none 0 0, .slice none 0 0, .slice none 0 0, .slice none 0 0, .slice none 0 0, .slice none 0 0, .slice none 0 0, .slice none 0 0, .slice none 0 0, .slice none 0 0, .slice none 0 0, .slice none 0 0]) 53)]) (.cons_cons _ (.cons_cons _ (.slnil))) ?_
  refine R_loop (σ := (Value) × (Nat)) (fun gs => ([(0, P_ br 0), (1, .slice a 0 c), (2, I 40), (7, gs.1), (8, I (gs.2 : Int))], M, [.row gs.1 66 71 ((l ++ markL gs.2).length) ((l ++ markL gs.2).flatMap Change.cells), .blk br (.cells (List.toArray [.slice none 0 0, .slice none 0 0, .slice none 0 0, .slice none 0 0, .slice none 0 0, .slice none 0 0, .slice none 0 0, .slice none 0 0, .slice none 0 0, .slice none 0 0, .slice none 0 0, .slice none 0 0, .slice none 0 0, .slice none 0 0, .slice none 0 0, .slice none 0 0, .slice none 0 0, .slice none 0 0, .slice none 0 0, .slice none 0 0, .slice none 0 0, .slice none 0 0, .slice none 0 0, .slice none 0 0, .slice none 0 0, .slice none 0 0]) 53)])) (fun gs => gs.2 ≤ 40) (fun gs => 40 - gs.2) (.slice (some ⟨b1, 0, none⟩) 0 0, 0) ?_ (Env.sub_cons rfl <| Env.sub_cons rfl <| Env.sub_cons rfl <| Env.sub_cons rfl <| Env.sub_cons rfl <| Env.sub_nil _) rfl (by simp [markL, hl]) ?_
  · show 0 ≤ 40; omega
  rintro ⟨v, i⟩ hok
  replace hok : i ≤ 40 := hok
  show Cx.R _ _ _ [(0, P_ br 0), (1, .slice a 0 c), (2, I 40), (7, v), (8, I (i : Int))] M [.row v 66 71 ((l ++ markL i).length) ((l ++ markL i).flatMap Change.cells), .blk br (.cells (List.toArray [.slice none 0 0, .slice none 0 0, .slice none 0 0, .slice none 0 0, .slice none 0 0, .slice none 0 0, .slice none 0 0, .slice none 0 0, .slice none 0 0, .slice none 0 0, .slice none 0 0, .slice none 0 0, .slice none 0 0, .slice none 0 0, .slice none 0 0, .slice none 0 0, .slice none 0 0, .slice none 0 0, .slice none 0 0, .slice none 0 0, .slice none 0 0, .slice none 0 0, .slice none 0 0, .slice none 0 0, .slice none 0 0, .slice none 0 0]) 53)]
  have hml := markL_len i
  have hla : (l ++ markL i).length = l.length + (markL i).length := List.length_append
  refine R_seq ?_
  refine R_seq ?_
  refine R_region ?_
  refine R_r (D_move rfl) ?_
  refine R_r (D_move rfl) ?_
  refine R_r (D_lt rfl rfl) ?_
  refine R_nil ?_
  refine R_cond rfl (fun h1 => ?_) (fun h1 => ?_)
  ·
    have h1p := of_decide_eq_true h1
    refine R_skip ?_
    refine R_seq ?_
    refine R_block ?_
    refine R_region ?_
    refine R_r (D_move rfl) ?_
    refine R_r (D_move rfl) ?_
    refine R_o (E_callV (v := S (wordS (i : Int))) rfl rfl en77 (fun w hM => word_C (i : Int) M w hM ) ?_)
    refine R_r (D_build rfl (bd66_0 _)) ?_
    refine R_o (E_buildSlice (ps := [(0, .tmp 21)]) (vs := [(0, Change.val (⟨wordS (i : Int), Val.zero, Val.zero⟩ : Change))]) (cs := (Change.cells (⟨wordS (i : Int), Val.zero, Val.zero⟩ : Change))) rfl (bs31_1 _) (fun b2 => ?_))
    refine R_o (E_append (news := (Change.cells (⟨wordS (i : Int), Val.zero, Val.zero⟩ : Change))) 1 Tryz.underlying31 el66 rfl rfl rfl (Has.own 0 rfl) rfl rfl (by exact ones_Change _) (by unfold maxLen; first | omega | (simp only [List.length_append]; omega) | (simp; omega)) (by first | omega | (simp only [List.length_append]; omega) | (simp; omega)) (fun v3 hv3 => ?_))
    refine R_r (D_assign rfl) ?_
    refine R_nil ?_
    refine R_region ?_
    refine R_r (D_move rfl) ?_
    refine R_r (D_add rfl rfl rfl (by omega) (by omega)) ?_
    refine R_r (D_assign rfl) ?_
    refine R_nil ?_
    refine R_drop (H' := [.row v3 66 71 ((l ++ markL i).length + 1) (((l ++ markL i).flatMap Change.cells) ++ (Change.cells (⟨wordS (i : Int), Val.zero, Val.zero⟩ : Change))), .blk br (.cells (List.toArray [.slice none 0 0, .slice none 0 0, .slice none 0 0, .slice none 0 0, .slice none 0 0, .slice none 0 0, .slice none 0 0, .slice none 0 0, .slice none 0 0, .slice none 0 0, .slice none 0 0, .slice none 0 0, .slice none 0 0, .slice none 0 0, .slice none 0 0, .slice none 0 0, .slice none 0 0, .slice none 0 0, .slice none 0 0, .slice none 0 0, .slice none 0 0, .slice none 0 0, .slice none 0 0, .slice none 0 0, .slice none 0 0, .slice none 0 0]) 53)]) (.cons _ (List.Sublist.refl _)) ?_
    exact R_back (v3, i + 1) (by show (i + 1) ≤ 40; omega) (by show 40 - (i + 1) < 40 - i; omega) (Env.sub_cons rfl <| Env.sub_cons rfl <| Env.sub_cons rfl <| Env.sub_cons rfl <| Env.sub_cons rfl <| Env.sub_nil _) rfl (by rw [markL_succ, ← List.append_assoc]; (try simp [markC]); (try omega))
  ·
    have h1p := of_decide_eq_false h1
    refine R_exit rfl ?_
    refine R_seq ?_
    obtain rfl : i = 40 := by omega
    refine R_rowSome (by omega) (fun bf capf hvf hcapf => ?_)
    subst hvf
    refine R_row0 31 1 ?_
    refine R_region ?_
    refine R_r (D_move rfl) ?_
    refine R_r (D_move rfl) ?_
    refine R_r (D_nilCheck rfl) ?_
    refine R_r (D_fieldAddr fa53_6 rfl) ?_
    refine R_r (D_load rfl (Has.own 2 rfl) (Rd.one Tryz.isAgg42 rfl)) ?_
    refine R_r (D_move rfl) ?_
    refine R_o (E_buildSlice (ps := [(0, .tmp 29)]) (vs := [(0, .slice (some ⟨bf, 0, none⟩) ((l ++ markL 40).length) capf)]) (cs := [.slice (some ⟨bf, 0, none⟩) ((l ++ markL 40).length) capf]) rfl (bs42_1_sl _ _ _) (fun b4 => ?_))
    refine R_o (E_append (news := [.slice (some ⟨bf, 0, none⟩) ((l ++ markL 40).length) capf]) 1 Tryz.underlying42 el31 rfl rfl rfl (Has.own 0 rfl) rfl rfl (by intro u hu; simp at hu; (first | (rcases hu with rfl | hu) | subst hu) <;> rfl) (by unfold maxLen; first | omega | (simp only [List.length_append]; omega) | (simp; omega)) (by first | omega | (simp only [List.length_append]; omega) | (simp; omega)) (fun v5 hv5 => ?_))
    refine R_r (D_nilCheck rfl) ?_
    refine R_r (D_fieldAddr fa53_6 rfl) ?_
    refine R_o (E_store (cs' := [.slice none 0 0, .slice none 0 0, .slice none 0 0, .slice none 0 0, .slice none 0 0, .slice none 0 0, v5, .slice none 0 0, .slice none 0 0, .slice none 0 0, .slice none 0 0, .slice none 0 0, .slice none 0 0, .slice none 0 0, .slice none 0 0, .slice none 0 0, .slice none 0 0, .slice none 0 0, .slice none 0 0, .slice none 0 0, .slice none 0 0, .slice none 0 0, .slice none 0 0, .slice none 0 0, .slice none 0 0, .slice none 0 0]) 3 rfl rfl rfl (Wr.one Tryz.sizeOf42 hv5 rfl rfl) ?_)
    refine R_nil ?_
    refine R_seq ?_
    refine R_row0 3 1 ?_
    refine R_region ?_
    refine R_r (D_move rfl) ?_
    refine R_r (D_move rfl) ?_
    refine R_r (D_nilCheck rfl) ?_
    refine R_r (D_fieldAddr fa53_7 rfl) ?_
    refine R_r (D_load rfl (Has.own 4 rfl) (Rd.one Tryz.isAgg39 rfl)) ?_
    refine R_r (D_move rfl) ?_
    refine R_r (D_lenL Tryz.underlying31 rfl) ?_
    refine R_o (E_buildSlice (ps := [(0, .tmp 40)]) (vs := [(0, I 0)]) (cs := [I 0]) rfl (bs39_1_int _) (fun b6 => ?_))
    refine R_o (E_append (news := [I 0]) 1 Tryz.underlying39 el3 rfl rfl rfl (Has.own 0 rfl) rfl rfl (by intro u hu; simp at hu; (first | (rcases hu with rfl | hu) | subst hu) <;> rfl) (by unfold maxLen; first | omega | (simp only [List.length_append]; omega) | (simp; omega)) (by first | omega | (simp only [List.length_append]; omega) | (simp; omega)) (fun v7 hv7 => ?_))
    refine R_r (D_nilCheck rfl) ?_
    refine R_r (D_fieldAddr fa53_7 rfl) ?_
    refine R_o (E_store (cs' := [.slice none 0 0, .slice none 0 0, .slice none 0 0, .slice none 0 0, .slice none 0 0, .slice none 0 0, v5, v7, .slice none 0 0, .slice none 0 0, .slice none 0 0, .slice none 0 0, .slice none 0 0, .slice none 0 0, .slice none 0 0, .slice none 0 0, .slice none 0 0, .slice none 0 0, .slice none 0 0, .slice none 0 0, .slice none 0 0, .slice none 0 0, .slice none 0 0, .slice none 0 0, .slice none 0 0, .slice none 0 0]) 5 rfl rfl rfl (Wr.one Tryz.sizeOf39 hv7 rfl rfl) ?_)
    refine R_nil ?_
    refine R_seq ?_
    refine R_region ?_
    refine R_r (D_move rfl) ?_
    refine R_r (D_move rfl) ?_
    refine R_r (D_lenL Tryz.underlying31 rfl) ?_
    refine R_r (D_move rfl) ?_
    refine R_r (D_lenL Tryz.underlying31 rfl) ?_
    refine R_r (D_slice3 (m := 0) (q := (l ++ markL 40).length) Tryz.underlying31 Tryz.sizeOf66 rfl rfl rfl (by omega) hcapf hcapf) ?_
    refine R_r (D_assign rfl) ?_
    refine R_nil ?_
    refine R_ret ?_
    refine R_drop (H' := [.row v7 3 1 (0 + 1) (([]) ++ [I 0]), .row v5 31 1 (0 + 1) (([]) ++ [.slice (some ⟨bf, 0, none⟩) ((l ++ markL 40).length) capf]), .row (.slice (some ⟨bf, 0, none⟩) ((l ++ markL 40).length) capf) 66 71 ((l ++ markL 40).length) ((l ++ markL 40).flatMap Change.cells), .blk br (.cells (List.toArray [.slice none 0 0, .slice none 0 0, .slice none 0 0, .slice none 0 0, .slice none 0 0, .slice none 0 0, v5, v7, .slice none 0 0, .slice none 0 0, .slice none 0 0, .slice none 0 0, .slice none 0 0, .slice none 0 0, .slice none 0 0, .slice none 0 0, .slice none 0 0, .slice none 0 0, .slice none 0 0, .slice none 0 0, .slice none 0 0, .slice none 0 0, .slice none 0 0, .slice none 0 0, .slice none 0 0, .slice none 0 0]) 53)]) (.cons _ (.cons_cons _ (.cons _ (.cons_cons _ (.cons_cons _ (.cons_cons _ (.slnil))))))) ?_
    refine R_perm (H' := [.row v5 31 1 (0 + 1) (([]) ++ [.slice (some ⟨bf, 0, none⟩) ((l ++ markL 40).length) capf]), .row v7 3 1 (0 + 1) (([]) ++ [I 0]), .row (.slice (some ⟨bf, 0, none⟩) ((l ++ markL 40).length) capf) 66 71 ((l ++ markL 40).length) ((l ++ markL 40).flatMap Change.cells), .blk br (.cells (List.toArray [.slice none 0 0, .slice none 0 0, .slice none 0 0, .slice none 0 0, .slice none 0 0, .slice none 0 0, v5, v7, .slice none 0 0, .slice none 0 0, .slice none 0 0, .slice none 0 0, .slice none 0 0, .slice none 0 0, .slice none 0 0, .slice none 0 0, .slice none 0 0, .slice none 0 0, .slice none 0 0, .slice none 0 0, .slice none 0 0, .slice none 0 0, .slice none 0 0, .slice none 0 0, .slice none 0 0, .slice none 0 0]) 53)]) (perm_front (l := ([.row v7 3 1 (0 + 1) (([]) ++ [I 0]), .row v5 31 1 (0 + 1) (([]) ++ [.slice (some ⟨bf, 0, none⟩) ((l ++ markL 40).length) capf]), .row (.slice (some ⟨bf, 0, none⟩) ((l ++ markL 40).length) capf) 66 71 ((l ++ markL 40).length) ((l ++ markL 40).flatMap Change.cells), .blk br (.cells (List.toArray [.slice none 0 0, .slice none 0 0, .slice none 0 0, .slice none 0 0, .slice none 0 0, .slice none 0 0, v5, v7, .slice none 0 0, .slice none 0 0, .slice none 0 0, .slice none 0 0, .slice none 0 0, .slice none 0 0, .slice none 0 0, .slice none 0 0, .slice none 0 0, .slice none 0 0, .slice none 0 0, .slice none 0 0, .slice none 0 0, .slice none 0 0, .slice none 0 0, .slice none 0 0, .slice none 0 0, .slice none 0 0]) 53)] : List Res)) 1 rfl) ?_
    refine R_freezeRow (fun M8 hleM8 hrowM8 => ?_)
    refine R_freezeRow (fun M9 hleM9 hrowM9 => ?_)
    obtain ⟨bc, c1, csc, hv1, hmc, hcc⟩ := RowIn.one hrowM8
    obtain ⟨ba, c2, csa, hv2, hma, hca⟩ := RowIn.one hrowM9
    subst hv1; subst hv2
    refine R_perm (H' := [.blk br (.cells (List.toArray [.slice none 0 0, .slice none 0 0, .slice none 0 0, .slice none 0 0, .slice none 0 0, .slice none 0 0, .slice (some ⟨bc, 0, none⟩) 1 c1, .slice (some ⟨ba, 0, none⟩) 1 c2, .slice none 0 0, .slice none 0 0, .slice none 0 0, .slice none 0 0, .slice none 0 0, .slice none 0 0, .slice none 0 0, .slice none 0 0, .slice none 0 0, .slice none 0 0, .slice none 0 0, .slice none 0 0, .slice none 0 0, .slice none 0 0, .slice none 0 0, .slice none 0 0, .slice none 0 0, .slice none 0 0]) 53), .row (.slice (some ⟨bf, 0, none⟩) ((l ++ markL 40).length) capf) 66 71 ((l ++ markL 40).length) ((l ++ markL 40).flatMap Change.cells)]) (perm_front (l := ([.row (.slice (some ⟨bf, 0, none⟩) ((l ++ markL 40).length) capf) 66 71 ((l ++ markL 40).length) ((l ++ markL 40).flatMap Change.cells), .blk br (.cells (List.toArray [.slice none 0 0, .slice none 0 0, .slice none 0 0, .slice none 0 0, .slice none 0 0, .slice none 0 0, .slice (some ⟨bc, 0, none⟩) 1 c1, .slice (some ⟨ba, 0, none⟩) 1 c2, .slice none 0 0, .slice none 0 0, .slice none 0 0, .slice none 0 0, .slice none 0 0, .slice none 0 0, .slice none 0 0, .slice none 0 0, .slice none 0 0, .slice none 0 0, .slice none 0 0, .slice none 0 0, .slice none 0 0, .slice none 0 0, .slice none 0 0, .slice none 0 0, .slice none 0 0, .slice none 0 0]) 53)] : List Res)) 1 rfl) ?_
    refine R_freeze (fun hlef10 hmf10 => ?_)
    refine R_openRow (fun _ h0 _ => absurd h0 (by omega)) (fun bf_ cap_ csf hvo hnco hcmo hcso htso => ?_)
    obtain ⟨e1, _, e3⟩ := slice_inj hvo; injection e1 with e4; injection e4 with e5 _; subst e5; subst e3
    refine R_fin1 rfl rfl ?_
    exact ⟨bf, capf, csf, by rw [show (l ++ markL 40).length = l.length + 40 from (by omega)]; rw [hl0], rfl, ⟨bc, c1, ba, c2, _, _, _, _, _, _, csc, csa, hmf10, ((PMem.le_trans hleM9 hlef10) _ _ hmc), by rw [hcc, show (l ++ markL 40).length = l.length + 40 from (by omega)], (hlef10 _ _ hma), by rw [hl0]; exact hca⟩, hcso, by omega, by rw [show l.length + 40 = (l ++ markL 40).length from (by omega)]; exact htso⟩

theorem layChanges_C (l : List Change) (a : Option Addr) (c : Nat) (br : Nat) (M : PMem) (w : World) (hM : Lies M w) (hr : (Res.blk br (.cells (List.toArray (roomCells nilS nilS)) 53)).holds w) (hf : ∀ q, (Res.blk br (.cells (List.toArray (roomCells nilS nilS)) 53)).fp = some q → M q = none) (hc : l.length ≤ c) (hsl : SlA M 71 (byEnc Change.cells) a l) (hn : l.length ≤ 1073741824) : Ends Tryz.prog 34 [P_ br 0, .slice a l.length c, I 40] w [br] M (fun v M' H' => ∃ (bf capf : Nat) (csf : List Value), v = .slice (some ⟨bf, 0, none⟩) l.length (l.length + 40) ∧ H' = [.blk bf (.cells (List.toArray csf) 66)] ∧ RoomAt M' br bf l.length (l.length + 40) capf ∧ csf.length = capf * 71 ∧ l.length + 40 ≤ capf ∧ csf.take ((l.length + 40) * 71) = (l ++ markL 40).flatMap Change.cells) := by
  cases l with
  | nil => exact lay_nil [] a c br M w hM hr hf rfl
  | cons x l => exact lay_some (x :: l) a c br M w hM hr hf hc hsl hn (by simp)

theorem ChangesR_C (l : List Change) (a : Option Addr) (c : Nat) (br : Nat) (M : PMem) (w : World) (hM : Lies M w) (hr : (Res.blk br (.cells (List.toArray (roomCells nilS nilS)) 53)).holds w) (hf : ∀ q, (Res.blk br (.cells (List.toArray (roomCells nilS nilS)) 53)).fp = some q → M q = none) (hc : l.length ≤ c) (hsl : SlA M 71 (byEnc Change.cells) a l) (hn : l.length ≤ 1073741824) : Ends Tryz.prog 10 [P_ br 0, .slice a l.length c] w [br] M (fun v M' H' => ∃ (bf capf : Nat) (csf : List Value), v = .slice (some ⟨bf, 0, none⟩) l.length (l.length + 40) ∧ H' = [.blk bf (.cells (List.toArray csf) 66)] ∧ RoomAt M' br bf l.length (l.length + 40) capf ∧ csf.length = capf * 71 ∧ l.length + 40 ≤ capf ∧ csf.take ((l.length + 40) * 71) = (l ++ markL 40).flatMap Change.cells) := by
  refine Ends.enter (H := [.blk br (.cells (List.toArray [.slice none 0 0, .slice none 0 0, .slice none 0 0, .slice none 0 0, .slice none 0 0, .slice none 0 0, .slice none 0 0, .slice none 0 0, .slice none 0 0, .slice none 0 0, .slice none 0 0, .slice none 0 0, .slice none 0 0, .slice none 0 0, .slice none 0 0, .slice none 0 0, .slice none 0 0, .slice none 0 0, .slice none 0 0, .slice none 0 0, .slice none 0 0, .slice none 0 0, .slice none 0 0, .slice none 0 0, .slice none 0 0, .slice none 0 0]) 53)]) Tryz.func10 rfl Tryz.ntmps10 rfl (St.startR hM hr hf) ?_
  refine R_seq ?_
  refine R_region ?_
  refine R_r (D_assign rfl) ?_
  refine R_nil ?_
  refine R_seq ?_
  refine R_region ?_
  refine R_r (D_move rfl) ?_
  refine R_r (D_move rfl) ?_
  refine R_o (E_callH1 0 rfl rfl rfl en34 (fun w hM hr hf => layChanges_C l a c br M w hM hr hf hc hsl hn) (fun v1 M1 H1 hle1 hp1 => ?_))
  obtain ⟨bf, capf, csf, rfl, rfl, h1, h2, h3, h4⟩ := hp1
  refine R_r (D_assign rfl) ?_
  refine R_nil ?_
  refine R_ret ?_
  refine R_fin1 rfl rfl ?_
  exact ⟨bf, capf, csf, rfl, rfl, h1, h2, h3, h4⟩

end Go.Proofs.YtgmomhdammdjgaaGreat
