/-
  The statement DiffApplies (twinelaw13) and grown, walked: it answers true. Conditions: names and lists of a length that a machine counts; what is handed in lies.
-/
import Derived.Test.YtgmomhdammdjgaaGreatLay
import Derived.Test.YtgmomhdammdjgaaGreatLawD
set_option linter.unusedVariables false
set_option linter.unusedSimpArgs false
set_option maxRecDepth 20000
set_option maxHeartbeats 4000000
namespace Go.Proofs.YtgmomhdammdjgaaGreat
open Go Go.Proofs Go.RowKit

theorem en9 : ∀ (args : Array Value) (w : World), (callFunc 9 args).run Tryz.prog w = .ok (.enter 9 args) w := enters_fn Tryz.func9 (by kernel_rfl) rfl
theorem en11 : ∀ (args : Array Value) (w : World), (callFunc 11 args).run Tryz.prog w = .ok (.enter 11 args) w := enters_fn Tryz.func11 (by kernel_rfl) rfl
theorem en12 : ∀ (args : Array Value) (w : World), (callFunc 12 args).run Tryz.prog w = .ok (.enter 12 args) w := enters_fn Tryz.func12 (by kernel_rfl) rfl
theorem en14 : ∀ (args : Array Value) (w : World), (callFunc 14 args).run Tryz.prog w = .ok (.enter 14 args) w := enters_fn Tryz.func14 (by kernel_rfl) rfl
theorem en15 : ∀ (args : Array Value) (w : World), (callFunc 15 args).run Tryz.prog w = .ok (.enter 15 args) w := enters_fn Tryz.func15 (by kernel_rfl) rfl
theorem bd53_ : Bd Tryz.prog 53 [] (.agg (List.toArray (roomCells nilS nilS))) := fun w => by kernel_rfl
theorem grown_C (x : Node) (a : Option Addr) (c : Nat) (M : PMem) (w : World) (hM : Lies M w) (hc : x.kids.length ≤ c) (hkx : NdA M a x.kids) (hwl : Node.wtL x.kids ≤ 1073741823) (hck : (tcheck x [] 0).2 = 0) : Ends Tryz.prog 9 [NodeC.val (⟨x.name, x.value, x.marks, .slice a x.kids.length c⟩ : NodeC)] w [] M (fun v M' H' => H' = [] ∧ ∃ b, v = .tuple #[P_ b 0, .bool true] ∧ TreeAt M' b x) := by
  refine Ends.enter (H := []) Tryz.func9 rfl Tryz.ntmps9 rfl (St.start hM) ?_
  refine R_seq ?_
  refine R_region ?_
  refine R_o (E_box (NodeC.cells (⟨x.name, x.value, x.marks, .slice a x.kids.length c⟩ : NodeC)) rfl rfl (fun b1 => ?_))
  refine R_r (D_assign rfl) ?_
  refine R_r (D_assign rfl) ?_
  refine R_nil ?_
  refine R_seq ?_
  refine R_region ?_
  refine R_r (D_load rfl (Has.own 0 rfl) (rd30_NodeC_0 (⟨x.name, x.value, x.marks, .slice a x.kids.length c⟩ : NodeC))) ?_
  refine R_o (E_callP rfl rfl en33 (fun w hM => Of_C x a c M w hM hc hkx (by omega)) (fun vr2 Mr2 Hr2 hler2 hpr2 => ?_))
  have q3 := NdA.le hkx hler2
  obtain ⟨rfl, ⟨hne_, _⟩ | ⟨_, bt, rfl, htt⟩⟩ := hpr2
  · exact absurd hck hne_
  refine R_r (D_move rfl) ?_
  refine R_r (D_extract rfl rfl) ?_
  refine R_r (D_extract rfl rfl) ?_
  refine R_r (D_assign rfl) ?_
  refine R_r (D_assign rfl) ?_
  refine R_nil ?_
  refine R_seq ?_
  refine R_region ?_
  refine R_r (D_move rfl) ?_
  refine R_r (D_move rfl) ?_
  refine R_o (E_callV (v := I 0) rfl rfl en13 (fun w hM => num_C 0 Mr2 w hM ) ?_)
  refine R_r (D_eq rfl rfl) ?_
  refine R_r (D_move rfl) ?_
  refine R_r (D_move rfl) ?_
  refine R_r (D_ptrNotNil Tryz.underlying34 rfl) ?_
  refine R_r (D_pick true rfl rfl) ?_
  refine R_r (D_assign rfl) ?_
  refine R_r (D_assign rfl) ?_
  refine R_nil ?_
  refine R_ret ?_
  refine R_drop (List.nil_sublist _) ?_
  refine R_fin2 rfl rfl rfl ?_
  exact ⟨rfl, bt, rfl, htt⟩

theorem apply_out {x : Node} {l : List Change} (hv : Valid x) {v : Value} {M' : PMem} (h : (risesL l false [] = false ∧ v = .tuple #[.pointer none, I 130]) ∨ (risesL l false [] = true ∧ l.all (fun c => decide (valAt x c.path = c.old)) = false ∧ v = .tuple #[.pointer none, I 131]) ∨ (risesL l false [] = true ∧ l.all (fun c => decide (valAt x c.path = c.old)) = true ∧ l.all (fun c : Change => c.new.okN && !(decide (c.path = []) && decide (c.new.kind = 0))) = false ∧ v = .tuple #[.pointer none, I 132]) ∨ (risesL l false [] = true ∧ l.all (fun c => decide (valAt x c.path = c.old)) = true ∧ l.all (fun c : Change => c.new.okN && !(decide (c.path = []) && decide (c.new.kind = 0))) = true ∧ ∃ ls : List Spot, ls.Perm (spots x l) ∧ SortedS ls ∧ ((runG x l ls [] = none ∧ v = .tuple #[.pointer none, I 132]) ∨ ∃ done, runG x l ls [] = some done ∧ ((done = [] ∧ v = .tuple #[.pointer none, I 0]) ∨ ∃ b z, v = .tuple #[P_ b 0, I 0] ∧ TreeAt M' b z ∧ Grown z done)))) :
    (applyE x l ≠ 0 ∧ v = .tuple #[.pointer none, I (applyE x l)]) ∨ (applyE x l = 0 ∧ ∃ b z es, v = .tuple #[P_ b 0, I 0] ∧ TreeAt M' b z ∧ mergeA (x.flat []) l = some es ∧ Grown z es) := by
  refine apply_law hv ?_
  rcases h with h | h | h | ⟨h1, h2, h3, ls, hp, hs, h4⟩
  · exact .inl h
  · exact .inr (.inl h)
  · exact .inr (.inr (.inl h))
  · exact .inr (.inr (.inr ⟨h1, h2, h3, ls, hp, sorted_strict hs (hp.map Spot.path |>.nodup_iff.2 (spots_nodup hv h1 h2)), h4⟩))

theorem DiffAppliesT_C (x : Node) (a : Option Addr) (c : Nat) (l : List Change) (b : Option Addr) (d : Nat) (M : PMem) (w : World) (hM : Lies M w) (hc : x.kids.length ≤ c) (hkx : NdA M a x.kids) (hsx : x.Small) (hd : l.length ≤ d) (hsb : SlA M 71 (byEnc Change.cells) b l) (hln : l.length ≤ 4611686018427387904) (hsm : ∀ e ∈ l, e.path.length ≤ 4611686018427387904) (hE : applyE x l = 0) : Ends Tryz.prog 3 [NodeC.val (⟨x.name, x.value, x.marks, .slice a x.kids.length c⟩ : NodeC), .slice b l.length d] w [] M (fun v M' H' => v = .bool true ∧ H' = []) := by
  refine Ends.enter (H := []) Tryz.func3 rfl Tryz.ntmps3 rfl (St.start hM) ?_
  refine R_seq ?_
  refine R_region ?_
  refine R_o (E_box (NodeC.cells (⟨x.name, x.value, x.marks, .slice a x.kids.length c⟩ : NodeC)) rfl rfl (fun b1 => ?_))
  refine R_r (D_assign rfl) ?_
  refine R_nil ?_
  refine R_seq ?_
  refine R_seq ?_
  refine R_join [(0, NodeC.val (⟨x.name, x.value, x.marks, .slice a x.kids.length c⟩ : NodeC)), (1, .slice b l.length d), (2, P_ b1 0), (4, .bool false), (23, .bool ((!(fitsB x)) || (!(decide (0 ≤ cntC 6000 l)))))] (M' := M) (H' := [.blk b1 (.cells (List.toArray (NodeC.cells (⟨x.name, x.value, x.marks, .slice a x.kids.length c⟩ : NodeC))) 30)]) ?_ ?_
  ·
    refine R_region ?_
    refine R_r (D_load rfl (Has.own 0 rfl) (rd30_NodeC_0 (⟨x.name, x.value, x.marks, .slice a x.kids.length c⟩ : NodeC))) ?_
    refine R_o (E_callV (v := .bool (fitsB x)) rfl rfl en7 (fun w hM => fits_C x a c M w hM (by omega) hkx hsx) ?_)
    refine R_r (D_not rfl) ?_
    refine R_r (D_move rfl) ?_
    refine R_split 19 rfl (fun h1 => ?_) (fun h1 => ?_)
    ·
      refine R_skipop rfl rfl rfl ?_
      refine R_skipop rfl rfl rfl ?_
      refine R_skipop rfl rfl rfl ?_
      refine R_r (D_pick true rfl rfl) ?_
      refine R_nil ?_
      exact R_at (Env.sub_cons rfl <| Env.sub_cons rfl <| Env.sub_cons rfl <| Env.sub_cons rfl <| Env.sub_cons (by first | (show some (Value.bool _) = some (Value.bool _); simp only [h1, Bool.true_and, Bool.false_and, Bool.true_or, Bool.false_or, Bool.and_true, Bool.and_false, Bool.or_true, Bool.or_false]; done) | (show some (Value.bool _) = some (Value.bool _); (try rw [h1]); first | done | rfl) | simp [h1, Env.find]) <| Env.sub_nil _)
    ·
      refine R_r (D_move rfl) ?_
      refine R_o (E_callV (v := .bool (decide (0 ≤ cntC 6000 l))) rfl rfl en8 (fun w hM => few_C l b d M w hM (by omega) hln hsb hsm) ?_)
      refine R_r (D_not rfl) ?_
      refine R_r (D_pick false rfl rfl) ?_
      refine R_nil ?_
      exact R_at (Env.sub_cons rfl <| Env.sub_cons rfl <| Env.sub_cons rfl <| Env.sub_cons rfl <| Env.sub_cons (by first | (show some (Value.bool _) = some (Value.bool _); simp only [h1, Bool.true_and, Bool.false_and, Bool.true_or, Bool.false_or, Bool.and_true, Bool.and_false, Bool.or_true, Bool.or_false]; done) | (show some (Value.bool _) = some (Value.bool _); (try rw [h1]); first | done | rfl) | simp [h1, Env.find]) <| Env.sub_nil _)
  ·
    refine R_cond rfl (fun h1 => ?_) (fun h1 => ?_)
    ·
      have h1p := h1; simp only [Bool.and_eq_true, Bool.or_eq_true, Bool.not_eq_true', Bool.and_eq_false_imp, Bool.or_eq_false_iff, Bool.not_eq_false', decide_eq_true_eq, decide_eq_false_iff_not] at h1p
      refine R_seq ?_
      refine R_region ?_
      refine R_r (D_assign rfl) ?_
      refine R_nil ?_
      refine R_ret ?_
      refine R_drop (List.nil_sublist _) ?_
      refine R_fin1 rfl rfl ?_
      exact ⟨rfl, rfl⟩
    ·
      have h1p := h1; simp only [Bool.and_eq_true, Bool.or_eq_true, Bool.not_eq_true', Bool.and_eq_false_imp, Bool.or_eq_false_iff, Bool.not_eq_false', decide_eq_true_eq, decide_eq_false_iff_not] at h1p
      have hf1 : fitsB x = true := by cases hq : fitsB x with | true => rfl | false => (rw [hq] at h1; exact absurd h1 (by simp))
      have hf2 : 0 ≤ cntC 6000 l := by rw [hf1] at h1; simpa using h1
      obtain ⟨hcn, hck⟩ : 0 ≤ cntN 6000 x ∧ (Node.check x).2 = 0 := by simpa [fitsB] using hf1
      have hwx := fits_wt hcn
      have hv := valid_of hck
      obtain ⟨hll, hlp⟩ := few_facts hf2
      have hpx := Node.flat_few x [] 6000 (by simp only [List.length_nil]; omega)
      have hspl : ∀ s ∈ spots x l, s.path.length ≤ 1073741824 := fun s hs => by rcases spots_mem.1 hs with ⟨e, he, rfl⟩ | ⟨c, hc, _, rfl⟩; exact Nat.le_trans (hpx e he) (by omega); exact Nat.le_trans (hlp c hc) (by omega)
      have hrx := hv.fine.ris
      have hxs := Node.size_eq x
      have hwz := Node.sizeL_wt x.kids
      refine R_skip ?_
      refine R_seq ?_
      refine R_region ?_
      refine R_r (D_load rfl (Has.own 0 rfl) (rd30_NodeC_0 (⟨x.name, x.value, x.marks, .slice a x.kids.length c⟩ : NodeC))) ?_
      refine R_o (E_callP rfl rfl en9 (fun w hM => grown_C x a c M w hM hc hkx (by omega) hck) (fun vr2 Mr2 Hr2 hler2 hpr2 => ?_))
      have q3 := NdA.le hkx hler2
      have q4 := SlA.le hsb hler2
      obtain ⟨rfl, bt, rfl, htt⟩ := hpr2
      refine R_r (D_move rfl) ?_
      refine R_r (D_extract rfl rfl) ?_
      refine R_r (D_extract rfl rfl) ?_
      refine R_r (D_assign rfl) ?_
      refine R_r (D_assign rfl) ?_
      refine R_nil ?_
      refine R_seq ?_
      refine R_seq ?_
      refine R_region ?_
      refine R_r (D_move rfl) ?_
      refine R_r (D_not rfl) ?_
      refine R_nil ?_
      refine R_cond_f rfl ?_
      refine R_skip ?_
      refine R_seq ?_
      refine R_region ?_
      refine R_r (D_build rfl bd53_) ?_
      refine R_o (E_box [.slice none 0 0, .slice none 0 0, .slice none 0 0, .slice none 0 0, .slice none 0 0, .slice none 0 0, .slice none 0 0, .slice none 0 0, .slice none 0 0, .slice none 0 0, .slice none 0 0, .slice none 0 0, .slice none 0 0, .slice none 0 0, .slice none 0 0, .slice none 0 0, .slice none 0 0, .slice none 0 0, .slice none 0 0, .slice none 0 0, .slice none 0 0, .slice none 0 0, .slice none 0 0, .slice none 0 0, .slice none 0 0, .slice none 0 0] rfl rfl (fun b5 => ?_))
      refine R_r (D_assign rfl) ?_
      refine R_nil ?_
      refine R_seq ?_
      refine R_region ?_
      refine R_r (D_move rfl) ?_
      refine R_r (D_move rfl) ?_
      refine R_o (E_callH1 0 rfl rfl rfl en10 (fun w hM hr hf => ChangesR_C l b d b5 Mr2 w hM hr hf hd q4 (by omega)) (fun v1 M1 H1 hle1 hp1 => ?_))
      obtain ⟨bf, capf, csf, rfl, rfl, hroom, hcfl, hcap, hcst⟩ := hp1
      obtain ⟨hxl, hmk⟩ := lent_at hcst
      have q6 := NdA.le q3 hle1
      have q7 := SlA.le q4 hle1
      have q8 := TreeAt.le hle1 htt
      refine R_r (D_assign rfl) ?_
      refine R_nil ?_
      refine R_seq ?_
      refine R_region ?_
      refine R_r (D_load rfl (Has.own 1 rfl) (rd30_NodeC_0 (⟨x.name, x.value, x.marks, .slice a x.kids.length c⟩ : NodeC))) ?_
      refine R_r (D_move rfl) ?_
      refine R_o (E_callP rfl rfl en11 (fun w hM => Apply13_C x a c l b d M1 w hM hc q6 (by omega) hd q7 (by omega) (fun e he => Nat.le_trans (hlp e he) (by omega))) (fun vr9 Mr9 Hr9 hler9 hpr9 => ?_))
      have q10 := NdA.le q6 hler9
      have q11 := SlA.le q7 hler9
      have q12 := TreeAt.le hler9 q8
      have q13 := RoomAt.le hroom hler9
      rw [hE] at hpr9
      obtain ⟨rfl, ⟨wn, wv, wm, wk⟩, rfl, _, hgood⟩ := hpr9
      obtain ⟨es, e0, wks, n0, hmes, _, he0, hgr, hwv, hwm, hwk⟩ := hgood rfl
      replace hwv : wv = e0.value := hwv
      replace hwm : wm = e0.marks := hwm
      obtain ⟨aw, cw, rfl, hccw, hAw⟩ := KidsAt.sl (show KidsAt _ wk wks from hwk)
      refine R_r (D_move rfl) ?_
      refine R_r (D_extract rfl rfl) ?_
      refine R_r (D_extract rfl rfl) ?_
      refine R_o (E_alloc (NodeC.cells NodeC.zero) Tryz.zeroValue30 rfl (fun b14 => ?_))
      refine R_o (E_store (cs' := (NodeC.cells (⟨wn, wv, wm, .slice aw wks.length cw⟩ : NodeC))) 0 rfl rfl rfl (Wr.agg Tryz.sizeOf30 rfl rfl rfl rfl) ?_)
      refine R_r (D_assign rfl) ?_
      refine R_nil ?_
      refine R_seq ?_
      refine R_region ?_
      refine R_r (D_assign rfl) ?_
      refine R_nil ?_
      refine R_seq ?_
      refine R_seq ?_
      refine R_region ?_
      refine R_r (D_assign rfl) ?_
      refine R_nil ?_
      refine R_block ?_
      refine R_perm (H' := [.blk bf (.cells (List.toArray csf) 66), .blk b14 (.cells (List.toArray (NodeC.cells (⟨wn, wv, wm, .slice aw wks.length cw⟩ : NodeC))) 30), .blk b1 (.cells (List.toArray (NodeC.cells (⟨x.name, x.value, x.marks, .slice a x.kids.length c⟩ : NodeC))) 30)]) (perm_front (l := ([.blk b14 (.cells (List.toArray (NodeC.cells (⟨wn, wv, wm, .slice aw wks.length cw⟩ : NodeC))) 30), .blk bf (.cells (List.toArray csf) 66), .blk b1 (.cells (List.toArray (NodeC.cells (⟨x.name, x.value, x.marks, .slice a x.kids.length c⟩ : NodeC))) 30)] : List Res)) 1 rfl) ?_
      refine R_loop (σ := (Nat) × (Value) × (PMem)) (fun gs => ([(1, .slice b l.length d), (2, P_ b1 0), (5, P_ bt 0), (7, P_ b5 0), (8, .slice (some ⟨bf, 0, none⟩) l.length (l.length + 40)), (9, P_ b14 0), (10, I 0), (11, gs.2.1), (12, I (gs.1 : Int))], gs.2.2, [.blk bf (.cells (List.toArray csf) 66), .blk b14 (.cells (List.toArray (NodeC.cells (⟨wn, wv, wm, .slice aw wks.length cw⟩ : NodeC))) 30), .blk b1 (.cells (List.toArray (NodeC.cells (⟨x.name, x.value, x.marks, .slice a x.kids.length c⟩ : NodeC))) 30)])) (fun gs => gs.1 ≤ 2 ∧ PMem.le Mr9 gs.2.2 ∧ (0 < gs.1 → ∃ bz z, gs.2.1 = P_ bz 0 ∧ TreeAt gs.2.2 bz z ∧ Grown z es)) (fun gs => 2 - gs.1) (0, .pointer none, Mr9) ?_ (Env.sub_cons rfl <| Env.sub_cons rfl <| Env.sub_cons rfl <| Env.sub_cons rfl <| Env.sub_cons rfl <| Env.sub_cons rfl <| Env.sub_cons rfl <| Env.sub_cons rfl <| Env.sub_cons rfl <| Env.sub_nil _) rfl rfl ?_
      · show 0 ≤ 2 ∧ PMem.le Mr9 Mr9 ∧ (0 < 0 → ∃ bz z, (.pointer none) = P_ bz 0 ∧ TreeAt Mr9 bz z ∧ Grown z es); exact ⟨by omega, PMem.le_refl _, fun h => absurd h (by omega)⟩
      rintro ⟨i, lv, Mv⟩ hok
      replace hok : i ≤ 2 ∧ PMem.le Mr9 Mv ∧ (0 < i → ∃ bz z, lv = P_ bz 0 ∧ TreeAt Mv bz z ∧ Grown z es) := hok
      show Cx.R _ _ _ [(1, .slice b l.length d), (2, P_ b1 0), (5, P_ bt 0), (7, P_ b5 0), (8, .slice (some ⟨bf, 0, none⟩) l.length (l.length + 40)), (9, P_ b14 0), (10, I 0), (11, lv), (12, I (i : Int))] Mv [.blk bf (.cells (List.toArray csf) 66), .blk b14 (.cells (List.toArray (NodeC.cells (⟨wn, wv, wm, .slice aw wks.length cw⟩ : NodeC))) 30), .blk b1 (.cells (List.toArray (NodeC.cells (⟨x.name, x.value, x.marks, .slice a x.kids.length c⟩ : NodeC))) 30)]
      obtain ⟨hi, hleV, hlast⟩ := hok
      have q15 := NdA.le q10 hleV
      have q16 := SlA.le q11 hleV
      have q17 := TreeAt.le hleV q12
      have q18 := RoomAt.le q13 hleV
      have q19 := NdA.le hAw hleV
      refine R_seq ?_
      refine R_seq ?_
      refine R_region ?_
      refine R_r (D_move rfl) ?_
      refine R_r (D_lt rfl rfl) ?_
      refine R_nil ?_
      refine R_cond rfl (fun h2 => ?_) (fun h2 => ?_)
      ·
        have h2p := of_decide_eq_true h2
        refine R_skip ?_
        refine R_seq ?_
        refine R_block ?_
        refine R_seq ?_
        refine R_region ?_
        refine R_r (D_move rfl) ?_
        refine R_r (D_move rfl) ?_
        refine R_o (E_callH1 0 rfl rfl rfl en12 (fun w hM hr hf => ApplyD_C x bt l bf (l.length + 40) csf Mv w hM q17 hrx (by omega) (by omega) hr hf hxl (by omega) (fun e he => Nat.le_trans (hlp e he) (by omega)) hspl (spots_nodup hv) (fun h1 h2 => spots_ok hv h1 (show l.all shapeB = true from h2))) (fun vr20 Mr20 Hr20 hler20 hpr20 => ?_))
        have q21 := NdA.le q15 hler20
        have q22 := SlA.le q16 hler20
        have q23 := TreeAt.le hler20 q17
        have q24 := RoomAt.le q18 hler20
        have q25 := NdA.le q19 hler20
        obtain ⟨rfl, houtr20⟩ := hpr20
        have hlawr20 := apply_out hv houtr20
        rcases hlawr20 with ⟨hbad, _⟩ | ⟨_, bzr20, zr20, es2, rfl, htzr20, hm2, hgzr20⟩
        · exact absurd hE hbad
        rw [hmes] at hm2; cases hm2
        obtain ⟨hrzr20, hrwr20⟩ := grown_room hgzr20 hmes (by omega) hf2
        obtain ⟨hswr20, hkwr20⟩ := want_same hgzr20 he0 hgr hwv hwm wn []
        have hwtr20 : Node.wtL wks ≤ 80000000 := by rw [hkwr20]; omega
        refine R_r (D_move rfl) ?_
        refine R_r (D_extract rfl rfl) ?_
        refine R_r (D_extract rfl rfl) ?_
        refine R_r (D_assign rfl) ?_
        refine R_r (D_assign rfl) ?_
        refine R_nil ?_
        refine R_seq ?_
        refine R_seq ?_
        refine R_region ?_
        refine R_r (D_move rfl) ?_
        refine R_o (E_callV (v := I 0) rfl rfl en13 (fun w hM => num_C 0 Mr20 w hM ) ?_)
        refine R_r (D_move rfl) ?_
        refine R_r (D_ne rfl rfl) ?_
        refine R_r (D_move rfl) ?_
        refine R_r (D_move rfl) ?_
        refine R_r (D_ptrNotNil Tryz.underlying34 rfl) ?_
        refine R_r (D_move rfl) ?_
        refine R_r (D_eq rfl rfl) ?_
        refine R_r (D_neB Tryz.underlying4 rfl rfl) ?_
        refine R_r (D_pick false rfl rfl) ?_
        refine R_r (D_move rfl) ?_
        refine R_r (D_move rfl) ?_
        refine R_r (D_move rfl) ?_
        refine R_o (E_callL (v := .bool true) 0 rfl rfl rfl en14 (fun w hle hbl hM => by have h_ := same_C l l (some ⟨bf, 0, none⟩) (l.length + 40) b d _ w hM (by omega) (.inr ⟨bf, 0, _, _, _, rfl, hbl, hxl⟩) hd (SlA.le q22 hle) (by omega); rw [decide_eq_true rfl] at h_; exact h_) ?_)
        refine R_r (D_not rfl) ?_
        refine R_r (D_pick false rfl rfl) ?_
        refine R_r (D_move rfl) ?_
        refine R_r (D_move rfl) ?_
        refine R_o (E_callL (v := .bool true) 0 rfl rfl rfl en15 (fun w hle hbl hM => Hold_C b5 bf l.length (l.length + 40) capf csf _ _ _ w hM (RoomAt.le q24 hle) hbl hmk (by omega) (by omega)) ?_)
        refine R_r (D_not rfl) ?_
        refine R_r (D_pick false rfl rfl) ?_
        refine R_nil ?_
        refine R_cond_f rfl ?_
        refine R_skip ?_
        refine R_seq ?_
        refine R_seq ?_
        refine Y_region [.blk bf (.cells (List.toArray csf) 66), .blk b14 (.cells (List.toArray (NodeC.cells (⟨wn, wv, wm, .slice aw wks.length cw⟩ : NodeC))) 30), .blk b1 (.cells (List.toArray (NodeC.cells (⟨x.name, x.value, x.marks, .slice a x.kids.length c⟩ : NodeC))) 30)] mixed ?_
        refine Y_r 0 rfl (D_move rfl) ?_
        refine Y_r 1 rfl (D_ptrNotNil Tryz.underlying34 rfl) ?_
        refine Y_r 2 rfl (D_move rfl) ?_
        refine Y_r 3 rfl (D_move rfl) ?_
        refine Y_r 5 rfl (D_load rfl (Has.own 1 rfl) (rd30_NodeC_0 (⟨wn, wv, wm, .slice aw wks.length cw⟩ : NodeC))) ?_
        refine Y_o 4 rfl (E_callP rfl rfl en17 (fun w hM => NodeT_C zr20 bzr20 Mr20 w hM htzr20 (by omega)) (fun vr26 Mr26 Hr26 hler26 hpr26 => ?_)) (PMem.le_refl _) (fun _ h => List.Sublist.subset (.cons_cons _ (.cons_cons _ (.cons_cons _ (.slnil)))) h)
        have q27 := NdA.le q21 hler26
        have q28 := SlA.le q22 hler26
        have q29 := TreeAt.le hler26 q23
        have q30 := RoomAt.le q24 hler26
        have q31 := NdA.le q25 hler26
        have q32 := TreeAt.le hler26 htzr20
        obtain ⟨rfl, ksr26, rfl, hksr26⟩ := hpr26
        obtain ⟨ar26, cr26, rfl, hccr26, hAr26⟩ := hksr26.sl
        refine Y_go _ hler26 (fun _ h => List.Sublist.subset (.cons_cons _ (.cons_cons _ (.cons_cons _ (.slnil)))) h) (fun _ h => h) ?_
        refine Y_o 6 rfl (E_callV (v := .bool true) rfl rfl en16 (fun w hM => by have h_ := Equal_C _ (Node.mk ([]) zr20.value zr20.marks zr20.kids) rfl (Node.mk wn wv wm wks) ar26 cr26 aw cw Mr26 w hM hccr26 hAr26 (by show Node.wtL zr20.kids ≤ _; omega) hccw q31 (by show Node.wtL wks ≤ _; omega); rw [hswr20] at h_; exact h_) ?_) (PMem.le_refl _) (fun _ h => List.Sublist.subset (.cons_cons _ (.cons_cons _ (.cons_cons _ (.slnil)))) h)
        refine Y_go _ (PMem.le_refl _) (fun _ h => List.Sublist.subset (.cons_cons _ (.cons_cons _ (.cons_cons _ (.slnil)))) h) (fun _ h => h) ?_
        refine Y_r 7 rfl (D_not rfl) ?_
        refine Y_r 8 rfl (D_pick true rfl rfl) ?_
        refine Y_nil ?_ (PMem.le_refl _) (fun _ h => List.Sublist.subset (.cons_cons _ (.cons_cons _ (.cons_cons _ (.slnil)))) h)
        refine R_cond_f rfl ?_
        refine R_skip ?_
        refine R_region ?_
        refine R_r (D_move rfl) ?_
        refine R_r (D_assign rfl) ?_
        refine R_nil ?_
        refine R_region ?_
        refine R_r (D_move rfl) ?_
        refine R_r (D_add rfl rfl rfl (by omega) (by omega)) ?_
        refine R_r (D_assign rfl) ?_
        refine R_nil ?_
        exact R_back (i + 1, P_ bzr20 0, Mr26) (by show (i + 1) ≤ 2 ∧ PMem.le Mr9 Mr26 ∧ (0 < (i + 1) → ∃ bz z, (P_ bzr20 0) = P_ bz 0 ∧ TreeAt Mr26 bz z ∧ Grown z es); exact ⟨by omega, (PMem.le_trans (PMem.le_trans hleV hler20) hler26), fun _ => ⟨bzr20, zr20, rfl, q32, hgzr20⟩⟩) (by show 2 - (i + 1) < 2 - i; omega) (Env.sub_cons rfl <| Env.sub_cons rfl <| Env.sub_cons rfl <| Env.sub_cons rfl <| Env.sub_cons rfl <| Env.sub_cons rfl <| Env.sub_cons rfl <| Env.sub_cons rfl <| Env.sub_cons rfl <| Env.sub_nil _) rfl rfl
      ·
        have h2p := of_decide_eq_false h2
        refine R_exit rfl ?_
        refine R_seq ?_
        refine R_seq ?_
        obtain ⟨bz, z, rfl, htz, hgz⟩ := hlast (by omega)
        obtain ⟨hrz, hrw⟩ := grown_room hgz hmes (by omega) hf2
        obtain ⟨hsw, hkw⟩ := want_same hgz he0 hgr hwv hwm wn []
        have hwt : Node.wtL wks ≤ 80000000 := by rw [hkw]; omega
        refine R_region ?_
        refine R_r (D_assign rfl) ?_
        refine R_nil ?_
        refine R_block ?_
        refine R_loop (σ := (Nat) × (List Value)) (fun gs => ([(2, P_ b1 0), (5, P_ bt 0), (7, P_ b5 0), (8, .slice (some ⟨bf, 0, none⟩) l.length (l.length + 40)), (9, P_ b14 0), (11, P_ bz 0), (15, I (gs.1 : Int))], Mv, [.blk bf (.cells (List.toArray gs.2) 66), .blk b14 (.cells (List.toArray (NodeC.cells (⟨wn, wv, wm, .slice aw wks.length cw⟩ : NodeC))) 30), .blk b1 (.cells (List.toArray (NodeC.cells (⟨x.name, x.value, x.marks, .slice a x.kids.length c⟩ : NodeC))) 30)])) (fun gs => gs.1 ≤ l.length ∧ gs.2.length = csf.length ∧ MarksAt gs.2 l.length (l.length + 40)) (fun gs => l.length - gs.1) (0, csf) ?_ (Env.sub_cons rfl <| Env.sub_cons rfl <| Env.sub_cons rfl <| Env.sub_cons rfl <| Env.sub_cons rfl <| Env.sub_cons rfl <| Env.sub_cons rfl <| Env.sub_nil _) rfl rfl ?_
        · show 0 ≤ l.length ∧ csf.length = csf.length ∧ MarksAt csf l.length (l.length + 40); exact ⟨by omega, rfl, hmk⟩
        rintro ⟨j, cs⟩ hok
        replace hok : j ≤ l.length ∧ cs.length = csf.length ∧ MarksAt cs l.length (l.length + 40) := hok
        show Cx.R _ _ _ [(2, P_ b1 0), (5, P_ bt 0), (7, P_ b5 0), (8, .slice (some ⟨bf, 0, none⟩) l.length (l.length + 40)), (9, P_ b14 0), (11, P_ bz 0), (15, I (j : Int))] Mv [.blk bf (.cells (List.toArray cs) 66), .blk b14 (.cells (List.toArray (NodeC.cells (⟨wn, wv, wm, .slice aw wks.length cw⟩ : NodeC))) 30), .blk b1 (.cells (List.toArray (NodeC.cells (⟨x.name, x.value, x.marks, .slice a x.kids.length c⟩ : NodeC))) 30)]
        obtain ⟨hj, hcl, hmk2⟩ := hok
        refine R_seq ?_
        refine R_seq ?_
        refine R_region ?_
        refine R_r (D_move rfl) ?_
        refine R_r (D_move rfl) ?_
        refine R_r (D_lenL Tryz.underlying31 rfl) ?_
        refine R_r (D_lt rfl rfl) ?_
        refine R_nil ?_
        refine R_cond rfl (fun h3 => ?_) (fun h3 => ?_)
        ·
          have h3p := of_decide_eq_true h3
          refine R_skip ?_
          refine R_seq ?_
          refine R_block ?_
          refine R_region ?_
          refine R_r (D_move rfl) ?_
          refine R_r (D_move rfl) ?_
          refine R_r (D_build rfl (bd66_0 _)) ?_
          refine R_r (D_indexLn (j) Tryz.underlying31 Tryz.sizeOf66 rfl rfl rfl (by omega)) ?_
          refine R_o (E_store (cs' := (cs.take (0 + j * 71) ++ Change.cells (⟨([115, 112, 111, 105, 108, 116] : Str), Val.zero, Val.zero⟩ : Change) ++ cs.drop (0 + j * 71 + 71))) 0 rfl rfl rfl (Wr.agg (vs := Change.cells (⟨([115, 112, 111, 105, 108, 116] : Str), Val.zero, Val.zero⟩ : Change)) Tryz.sizeOf66 rfl rfl (by rw [Nat.ble_eq]; omega) rfl) ?_)
          refine R_nil ?_
          refine R_region ?_
          refine R_r (D_move rfl) ?_
          refine R_r (D_add rfl rfl rfl (by omega) (by omega)) ?_
          refine R_r (D_assign rfl) ?_
          refine R_nil ?_
          exact R_back (j + 1, (cs.take (0 + j * 71) ++ Change.cells (⟨([115, 112, 111, 105, 108, 116] : Str), Val.zero, Val.zero⟩ : Change) ++ cs.drop (0 + j * 71 + 71))) (by show (j + 1) ≤ l.length ∧ (cs.take (0 + j * 71) ++ Change.cells (⟨([115, 112, 111, 105, 108, 116] : Str), Val.zero, Val.zero⟩ : Change) ++ cs.drop (0 + j * 71 + 71)).length = csf.length ∧ MarksAt (cs.take (0 + j * 71) ++ Change.cells (⟨([115, 112, 111, 105, 108, 116] : Str), Val.zero, Val.zero⟩ : Change) ++ cs.drop (0 + j * 71 + 71)) l.length (l.length + 40); exact ⟨by omega, by simp only [List.length_append, List.length_take, List.length_drop]; rw [show (Change.cells (⟨([115, 112, 111, 105, 108, 116] : Str), Val.zero, Val.zero⟩ : Change)).length = 71 from rfl]; omega, hmk2.put (by omega) rfl (by omega)⟩) (by show l.length - (j + 1) < l.length - j; omega) (Env.sub_cons rfl <| Env.sub_cons rfl <| Env.sub_cons rfl <| Env.sub_cons rfl <| Env.sub_cons rfl <| Env.sub_cons rfl <| Env.sub_cons rfl <| Env.sub_nil _) rfl rfl
        ·
          have h3p := of_decide_eq_false h3
          refine R_exit rfl ?_
          refine R_seq ?_
          refine Y_region [.blk bf (.cells (List.toArray cs) 66), .blk b14 (.cells (List.toArray (NodeC.cells (⟨wn, wv, wm, .slice aw wks.length cw⟩ : NodeC))) 30), .blk b1 (.cells (List.toArray (NodeC.cells (⟨x.name, x.value, x.marks, .slice a x.kids.length c⟩ : NodeC))) 30)] mixed ?_
          refine Y_r 0 rfl (D_move rfl) ?_
          refine Y_r 1 rfl (D_ptrNil Tryz.underlying34 rfl) ?_
          refine Y_r 2 rfl (D_move rfl) ?_
          refine Y_r 3 rfl (D_move rfl) ?_
          refine Y_r 5 rfl (D_load rfl (Has.own 1 rfl) (rd30_NodeC_0 (⟨wn, wv, wm, .slice aw wks.length cw⟩ : NodeC))) ?_
          refine Y_o 4 rfl (E_callP rfl rfl en17 (fun w hM => NodeT_C z bz Mv w hM htz (by omega)) (fun vr33 Mr33 Hr33 hler33 hpr33 => ?_)) (PMem.le_refl _) (fun _ h => List.Sublist.subset (.cons_cons _ (.cons_cons _ (.cons_cons _ (.slnil)))) h)
          have q34 := NdA.le q15 hler33
          have q35 := SlA.le q16 hler33
          have q36 := TreeAt.le hler33 q17
          have q37 := RoomAt.le q18 hler33
          have q38 := NdA.le q19 hler33
          have q39 := TreeAt.le hler33 htz
          obtain ⟨rfl, ksr33, rfl, hksr33⟩ := hpr33
          obtain ⟨ar33, cr33, rfl, hccr33, hAr33⟩ := hksr33.sl
          refine Y_go _ hler33 (fun _ h => List.Sublist.subset (.cons_cons _ (.cons_cons _ (.cons_cons _ (.slnil)))) h) (fun _ h => h) ?_
          refine Y_o 6 rfl (E_callV (v := .bool true) rfl rfl en16 (fun w hM => by have h_ := Equal_C _ (Node.mk ([]) z.value z.marks z.kids) rfl (Node.mk wn wv wm wks) ar33 cr33 aw cw Mr33 w hM hccr33 hAr33 (by show Node.wtL z.kids ≤ _; omega) hccw q38 (by show Node.wtL wks ≤ _; omega); rw [hsw] at h_; exact h_) ?_) (PMem.le_refl _) (fun _ h => List.Sublist.subset (.cons_cons _ (.cons_cons _ (.cons_cons _ (.slnil)))) h)
          refine Y_go _ (PMem.le_refl _) (fun _ h => List.Sublist.subset (.cons_cons _ (.cons_cons _ (.cons_cons _ (.slnil)))) h) (fun _ h => h) ?_
          refine Y_r 7 rfl (D_pick false rfl rfl) ?_
          refine Y_r 8 rfl (D_move rfl) ?_
          refine Y_r 9 rfl (D_move rfl) ?_
          refine Y_r 11 rfl (D_load rfl (Has.own 2 rfl) (rd30_NodeC_0 (⟨x.name, x.value, x.marks, .slice a x.kids.length c⟩ : NodeC))) ?_
          refine Y_o 10 rfl (E_callP rfl rfl en17 (fun w hM => NodeT_C x bt Mr33 w hM q36 (by omega)) (fun vr40 Mr40 Hr40 hler40 hpr40 => ?_)) (PMem.le_refl _) (fun _ h => List.Sublist.subset (.cons_cons _ (.cons_cons _ (.cons_cons _ (.slnil)))) h)
          have q41 := NdA.le q34 hler40
          have q42 := SlA.le q35 hler40
          have q43 := TreeAt.le hler40 q36
          have q44 := RoomAt.le q37 hler40
          have q45 := NdA.le q38 hler40
          have q46 := TreeAt.le hler40 q39
          have q47 := NdA.le hAr33 hler40
          obtain ⟨rfl, ksr40, rfl, hksr40⟩ := hpr40
          obtain ⟨ar40, cr40, rfl, hccr40, hAr40⟩ := hksr40.sl
          refine Y_go _ hler40 (fun _ h => List.Sublist.subset (.cons_cons _ (.cons_cons _ (.cons_cons _ (.slnil)))) h) (fun _ h => h) ?_
          refine Y_o 12 rfl (E_callP rfl rfl en18 (fun w hM => Plain_C x a c Mr40 w hM (by omega) q41 (by omega)) (fun vr48 Mr48 Hr48 hler48 hpr48 => ?_)) (PMem.le_refl _) (fun _ h => List.Sublist.subset (.cons_cons _ (.cons_cons _ (.cons_cons _ (.slnil)))) h)
          have q49 := NdA.le q41 hler48
          have q50 := SlA.le q42 hler48
          have q51 := TreeAt.le hler48 q43
          have q52 := RoomAt.le q44 hler48
          have q53 := NdA.le q45 hler48
          have q54 := TreeAt.le hler48 q46
          have q55 := NdA.le q47 hler48
          have q56 := NdA.le hAr40 hler48
          obtain ⟨rfl, ksr48, rfl, hksr48⟩ := hpr48
          obtain ⟨ar48, cr48, rfl, hccr48, hAr48⟩ := hksr48.sl
          refine Y_go _ hler48 (fun _ h => List.Sublist.subset (.cons_cons _ (.cons_cons _ (.cons_cons _ (.slnil)))) h) (fun _ h => h) ?_
          refine Y_o 13 rfl (E_callV (v := .bool true) rfl rfl en16 (fun w hM => by have h_ := Equal_C _ (Node.mk ([]) x.value x.marks x.kids) rfl (Node.mk ([]) x.value x.marks x.kids) ar40 cr40 ar48 cr48 Mr48 w hM hccr40 q56 (by show Node.wtL x.kids ≤ _; omega) hccr48 hAr48 (by show Node.wtL x.kids ≤ _; omega); rw [Node.same_refl] at h_; exact h_) ?_) (PMem.le_refl _) (fun _ h => List.Sublist.subset (.cons_cons _ (.cons_cons _ (.cons_cons _ (.slnil)))) h)
          refine Y_go _ (PMem.le_refl _) (fun _ h => List.Sublist.subset (.cons_cons _ (.cons_cons _ (.cons_cons _ (.slnil)))) h) (fun _ h => h) ?_
          refine Y_r 14 rfl (D_pick true rfl rfl) ?_
          refine Y_r 15 rfl (D_move rfl) ?_
          refine Y_r 16 rfl (D_move rfl) ?_
          refine Y_o 17 rfl (E_callL (v := .bool true) 0 rfl rfl rfl en15 (fun w hle hbl hM => Hold_C b5 bf l.length (l.length + 40) capf cs _ _ _ w hM (RoomAt.le q52 hle) hbl hmk2 (by omega) (by omega)) ?_) (PMem.le_refl _) (fun _ h => List.Sublist.subset (.cons_cons _ (.cons_cons _ (.cons_cons _ (.slnil)))) h)
          refine Y_go _ (PMem.le_refl _) (fun _ h => List.Sublist.subset (.cons_cons _ (.cons_cons _ (.cons_cons _ (.slnil)))) h) (fun _ h => h) ?_
          refine Y_r 18 rfl (D_pick true rfl rfl) ?_
          refine Y_r 19 rfl (D_assign rfl) ?_
          refine Y_nil ?_ (PMem.le_refl _) (fun _ h => List.Sublist.subset (.cons_cons _ (.cons_cons _ (.cons_cons _ (.slnil)))) h)
          refine R_ret ?_
          refine R_drop (List.nil_sublist _) ?_
          refine R_fin1 rfl rfl ?_
          exact ⟨rfl, rfl⟩

theorem DiffAppliesF_C (x : Node) (a : Option Addr) (c : Nat) (l : List Change) (b : Option Addr) (d : Nat) (M : PMem) (w : World) (hM : Lies M w) (hc : x.kids.length ≤ c) (hkx : NdA M a x.kids) (hsx : x.Small) (hd : l.length ≤ d) (hsb : SlA M 71 (byEnc Change.cells) b l) (hln : l.length ≤ 4611686018427387904) (hsm : ∀ e ∈ l, e.path.length ≤ 4611686018427387904) (hE : ¬ applyE x l = 0) : Ends Tryz.prog 3 [NodeC.val (⟨x.name, x.value, x.marks, .slice a x.kids.length c⟩ : NodeC), .slice b l.length d] w [] M (fun v M' H' => v = .bool true ∧ H' = []) := by
  refine Ends.enter (H := []) Tryz.func3 rfl Tryz.ntmps3 rfl (St.start hM) ?_
  refine R_seq ?_
  refine R_region ?_
  refine R_o (E_box (NodeC.cells (⟨x.name, x.value, x.marks, .slice a x.kids.length c⟩ : NodeC)) rfl rfl (fun b1 => ?_))
  refine R_r (D_assign rfl) ?_
  refine R_nil ?_
  refine R_seq ?_
  refine R_seq ?_
  refine R_join [(0, NodeC.val (⟨x.name, x.value, x.marks, .slice a x.kids.length c⟩ : NodeC)), (1, .slice b l.length d), (2, P_ b1 0), (4, .bool false), (23, .bool ((!(fitsB x)) || (!(decide (0 ≤ cntC 6000 l)))))] (M' := M) (H' := [.blk b1 (.cells (List.toArray (NodeC.cells (⟨x.name, x.value, x.marks, .slice a x.kids.length c⟩ : NodeC))) 30)]) ?_ ?_
  ·
    refine R_region ?_
    refine R_r (D_load rfl (Has.own 0 rfl) (rd30_NodeC_0 (⟨x.name, x.value, x.marks, .slice a x.kids.length c⟩ : NodeC))) ?_
    refine R_o (E_callV (v := .bool (fitsB x)) rfl rfl en7 (fun w hM => fits_C x a c M w hM (by omega) hkx hsx) ?_)
    refine R_r (D_not rfl) ?_
    refine R_r (D_move rfl) ?_
    refine R_split 19 rfl (fun h1 => ?_) (fun h1 => ?_)
    ·
      refine R_skipop rfl rfl rfl ?_
      refine R_skipop rfl rfl rfl ?_
      refine R_skipop rfl rfl rfl ?_
      refine R_r (D_pick true rfl rfl) ?_
      refine R_nil ?_
      exact R_at (Env.sub_cons rfl <| Env.sub_cons rfl <| Env.sub_cons rfl <| Env.sub_cons rfl <| Env.sub_cons (by first | (show some (Value.bool _) = some (Value.bool _); simp only [h1, Bool.true_and, Bool.false_and, Bool.true_or, Bool.false_or, Bool.and_true, Bool.and_false, Bool.or_true, Bool.or_false]; done) | (show some (Value.bool _) = some (Value.bool _); (try rw [h1]); first | done | rfl) | simp [h1, Env.find]) <| Env.sub_nil _)
    ·
      refine R_r (D_move rfl) ?_
      refine R_o (E_callV (v := .bool (decide (0 ≤ cntC 6000 l))) rfl rfl en8 (fun w hM => few_C l b d M w hM (by omega) hln hsb hsm) ?_)
      refine R_r (D_not rfl) ?_
      refine R_r (D_pick false rfl rfl) ?_
      refine R_nil ?_
      exact R_at (Env.sub_cons rfl <| Env.sub_cons rfl <| Env.sub_cons rfl <| Env.sub_cons rfl <| Env.sub_cons (by first | (show some (Value.bool _) = some (Value.bool _); simp only [h1, Bool.true_and, Bool.false_and, Bool.true_or, Bool.false_or, Bool.and_true, Bool.and_false, Bool.or_true, Bool.or_false]; done) | (show some (Value.bool _) = some (Value.bool _); (try rw [h1]); first | done | rfl) | simp [h1, Env.find]) <| Env.sub_nil _)
  ·
    refine R_cond rfl (fun h1 => ?_) (fun h1 => ?_)
    ·
      have h1p := h1; simp only [Bool.and_eq_true, Bool.or_eq_true, Bool.not_eq_true', Bool.and_eq_false_imp, Bool.or_eq_false_iff, Bool.not_eq_false', decide_eq_true_eq, decide_eq_false_iff_not] at h1p
      refine R_seq ?_
      refine R_region ?_
      refine R_r (D_assign rfl) ?_
      refine R_nil ?_
      refine R_ret ?_
      refine R_drop (List.nil_sublist _) ?_
      refine R_fin1 rfl rfl ?_
      exact ⟨rfl, rfl⟩
    ·
      have h1p := h1; simp only [Bool.and_eq_true, Bool.or_eq_true, Bool.not_eq_true', Bool.and_eq_false_imp, Bool.or_eq_false_iff, Bool.not_eq_false', decide_eq_true_eq, decide_eq_false_iff_not] at h1p
      have hf1 : fitsB x = true := by cases hq : fitsB x with | true => rfl | false => (rw [hq] at h1; exact absurd h1 (by simp))
      have hf2 : 0 ≤ cntC 6000 l := by rw [hf1] at h1; simpa using h1
      obtain ⟨hcn, hck⟩ : 0 ≤ cntN 6000 x ∧ (Node.check x).2 = 0 := by simpa [fitsB] using hf1
      have hwx := fits_wt hcn
      have hv := valid_of hck
      obtain ⟨hll, hlp⟩ := few_facts hf2
      have hpx := Node.flat_few x [] 6000 (by simp only [List.length_nil]; omega)
      have hspl : ∀ s ∈ spots x l, s.path.length ≤ 1073741824 := fun s hs => by rcases spots_mem.1 hs with ⟨e, he, rfl⟩ | ⟨c, hc, _, rfl⟩; exact Nat.le_trans (hpx e he) (by omega); exact Nat.le_trans (hlp c hc) (by omega)
      have hrx := hv.fine.ris
      have hxs := Node.size_eq x
      have hwz := Node.sizeL_wt x.kids
      refine R_skip ?_
      refine R_seq ?_
      refine R_region ?_
      refine R_r (D_load rfl (Has.own 0 rfl) (rd30_NodeC_0 (⟨x.name, x.value, x.marks, .slice a x.kids.length c⟩ : NodeC))) ?_
      refine R_o (E_callP rfl rfl en9 (fun w hM => grown_C x a c M w hM hc hkx (by omega) hck) (fun vr2 Mr2 Hr2 hler2 hpr2 => ?_))
      have q3 := NdA.le hkx hler2
      have q4 := SlA.le hsb hler2
      obtain ⟨rfl, bt, rfl, htt⟩ := hpr2
      refine R_r (D_move rfl) ?_
      refine R_r (D_extract rfl rfl) ?_
      refine R_r (D_extract rfl rfl) ?_
      refine R_r (D_assign rfl) ?_
      refine R_r (D_assign rfl) ?_
      refine R_nil ?_
      refine R_seq ?_
      refine R_seq ?_
      refine R_region ?_
      refine R_r (D_move rfl) ?_
      refine R_r (D_not rfl) ?_
      refine R_nil ?_
      refine R_cond_f rfl ?_
      refine R_skip ?_
      refine R_seq ?_
      refine R_region ?_
      refine R_r (D_build rfl bd53_) ?_
      refine R_o (E_box [.slice none 0 0, .slice none 0 0, .slice none 0 0, .slice none 0 0, .slice none 0 0, .slice none 0 0, .slice none 0 0, .slice none 0 0, .slice none 0 0, .slice none 0 0, .slice none 0 0, .slice none 0 0, .slice none 0 0, .slice none 0 0, .slice none 0 0, .slice none 0 0, .slice none 0 0, .slice none 0 0, .slice none 0 0, .slice none 0 0, .slice none 0 0, .slice none 0 0, .slice none 0 0, .slice none 0 0, .slice none 0 0, .slice none 0 0] rfl rfl (fun b5 => ?_))
      refine R_r (D_assign rfl) ?_
      refine R_nil ?_
      refine R_seq ?_
      refine R_region ?_
      refine R_r (D_move rfl) ?_
      refine R_r (D_move rfl) ?_
      refine R_o (E_callH1 0 rfl rfl rfl en10 (fun w hM hr hf => ChangesR_C l b d b5 Mr2 w hM hr hf hd q4 (by omega)) (fun v1 M1 H1 hle1 hp1 => ?_))
      obtain ⟨bf, capf, csf, rfl, rfl, hroom, hcfl, hcap, hcst⟩ := hp1
      obtain ⟨hxl, hmk⟩ := lent_at hcst
      have q6 := NdA.le q3 hle1
      have q7 := SlA.le q4 hle1
      have q8 := TreeAt.le hle1 htt
      refine R_r (D_assign rfl) ?_
      refine R_nil ?_
      refine R_seq ?_
      refine R_region ?_
      refine R_r (D_load rfl (Has.own 1 rfl) (rd30_NodeC_0 (⟨x.name, x.value, x.marks, .slice a x.kids.length c⟩ : NodeC))) ?_
      refine R_r (D_move rfl) ?_
      refine R_o (E_callP rfl rfl en11 (fun w hM => Apply13_C x a c l b d M1 w hM hc q6 (by omega) hd q7 (by omega) (fun e he => Nat.le_trans (hlp e he) (by omega))) (fun vr9 Mr9 Hr9 hler9 hpr9 => ?_))
      have q10 := NdA.le q6 hler9
      have q11 := SlA.le q7 hler9
      have q12 := TreeAt.le hler9 q8
      have q13 := RoomAt.le hroom hler9
      obtain ⟨rfl, ⟨wn, wv, wm, wk⟩, rfl, hone, _⟩ := hpr9
      replace hone : wk.oneCell' = true := hone
      refine R_r (D_move rfl) ?_
      refine R_r (D_extract rfl rfl) ?_
      refine R_r (D_extract rfl rfl) ?_
      refine R_o (E_alloc (NodeC.cells NodeC.zero) Tryz.zeroValue30 rfl (fun b14 => ?_))
      refine R_o (E_store (cs' := (NodeC.cells (⟨wn, wv, wm, wk⟩ : NodeC))) 0 rfl rfl rfl (Wr.agg Tryz.sizeOf30 rfl rfl rfl (List.all_eq_true.2 (ones_NodeC _ hone))) ?_)
      refine R_r (D_assign rfl) ?_
      refine R_nil ?_
      refine R_seq ?_
      refine R_region ?_
      refine R_r (D_assign rfl) ?_
      refine R_nil ?_
      refine R_seq ?_
      refine R_seq ?_
      refine R_region ?_
      refine R_r (D_assign rfl) ?_
      refine R_nil ?_
      refine R_block ?_
      refine R_perm (H' := [.blk bf (.cells (List.toArray csf) 66), .blk b14 (.cells (List.toArray (NodeC.cells (⟨wn, wv, wm, wk⟩ : NodeC))) 30), .blk b1 (.cells (List.toArray (NodeC.cells (⟨x.name, x.value, x.marks, .slice a x.kids.length c⟩ : NodeC))) 30)]) (perm_front (l := ([.blk b14 (.cells (List.toArray (NodeC.cells (⟨wn, wv, wm, wk⟩ : NodeC))) 30), .blk bf (.cells (List.toArray csf) 66), .blk b1 (.cells (List.toArray (NodeC.cells (⟨x.name, x.value, x.marks, .slice a x.kids.length c⟩ : NodeC))) 30)] : List Res)) 1 rfl) ?_
      refine R_loop (σ := (Nat) × (PMem)) (fun gs => ([(1, .slice b l.length d), (2, P_ b1 0), (5, P_ bt 0), (7, P_ b5 0), (8, .slice (some ⟨bf, 0, none⟩) l.length (l.length + 40)), (9, P_ b14 0), (10, I (applyE x l)), (11, .pointer none), (12, I (gs.1 : Int))], gs.2, [.blk bf (.cells (List.toArray csf) 66), .blk b14 (.cells (List.toArray (NodeC.cells (⟨wn, wv, wm, wk⟩ : NodeC))) 30), .blk b1 (.cells (List.toArray (NodeC.cells (⟨x.name, x.value, x.marks, .slice a x.kids.length c⟩ : NodeC))) 30)])) (fun gs => gs.1 ≤ 2 ∧ PMem.le Mr9 gs.2) (fun gs => 2 - gs.1) (0, Mr9) ?_ (Env.sub_cons rfl <| Env.sub_cons rfl <| Env.sub_cons rfl <| Env.sub_cons rfl <| Env.sub_cons rfl <| Env.sub_cons rfl <| Env.sub_cons rfl <| Env.sub_cons rfl <| Env.sub_cons rfl <| Env.sub_nil _) rfl rfl ?_
      · show 0 ≤ 2 ∧ PMem.le Mr9 Mr9; exact ⟨by omega, PMem.le_refl _⟩
      rintro ⟨i, Mv⟩ hok
      replace hok : i ≤ 2 ∧ PMem.le Mr9 Mv := hok
      show Cx.R _ _ _ [(1, .slice b l.length d), (2, P_ b1 0), (5, P_ bt 0), (7, P_ b5 0), (8, .slice (some ⟨bf, 0, none⟩) l.length (l.length + 40)), (9, P_ b14 0), (10, I (applyE x l)), (11, .pointer none), (12, I (i : Int))] Mv [.blk bf (.cells (List.toArray csf) 66), .blk b14 (.cells (List.toArray (NodeC.cells (⟨wn, wv, wm, wk⟩ : NodeC))) 30), .blk b1 (.cells (List.toArray (NodeC.cells (⟨x.name, x.value, x.marks, .slice a x.kids.length c⟩ : NodeC))) 30)]
      obtain ⟨hi, hleV⟩ := hok
      have q15 := NdA.le q10 hleV
      have q16 := SlA.le q11 hleV
      have q17 := TreeAt.le hleV q12
      have q18 := RoomAt.le q13 hleV
      refine R_seq ?_
      refine R_seq ?_
      refine R_region ?_
      refine R_r (D_move rfl) ?_
      refine R_r (D_lt rfl rfl) ?_
      refine R_nil ?_
      refine R_cond rfl (fun h2 => ?_) (fun h2 => ?_)
      ·
        have h2p := of_decide_eq_true h2
        refine R_skip ?_
        refine R_seq ?_
        refine R_block ?_
        refine R_seq ?_
        refine R_region ?_
        refine R_r (D_move rfl) ?_
        refine R_r (D_move rfl) ?_
        refine R_o (E_callH1 0 rfl rfl rfl en12 (fun w hM hr hf => ApplyD_C x bt l bf (l.length + 40) csf Mv w hM q17 hrx (by omega) (by omega) hr hf hxl (by omega) (fun e he => Nat.le_trans (hlp e he) (by omega)) hspl (spots_nodup hv) (fun h1 h2 => spots_ok hv h1 (show l.all shapeB = true from h2))) (fun vr19 Mr19 Hr19 hler19 hpr19 => ?_))
        have q20 := NdA.le q15 hler19
        have q21 := SlA.le q16 hler19
        have q22 := TreeAt.le hler19 q17
        have q23 := RoomAt.le q18 hler19
        obtain ⟨rfl, houtr19⟩ := hpr19
        have hlawr19 := apply_out hv houtr19
        rcases hlawr19 with ⟨_, rfl⟩ | ⟨hgd, _⟩
        rotate_left
        · exact absurd hgd hE
        refine R_r (D_move rfl) ?_
        refine R_r (D_extract rfl rfl) ?_
        refine R_r (D_extract rfl rfl) ?_
        refine R_r (D_assign rfl) ?_
        refine R_r (D_assign rfl) ?_
        refine R_nil ?_
        refine R_seq ?_
        refine R_seq ?_
        refine R_region ?_
        refine R_r (D_move rfl) ?_
        refine R_o (E_callV (v := I (applyE x l)) rfl rfl en13 (fun w hM => num_C (applyE x l) Mr19 w hM ) ?_)
        refine R_r (D_move rfl) ?_
        refine R_r (D_as (v' := .bool false) (D_ne rfl rfl) (by simp)) ?_
        refine R_r (D_move rfl) ?_
        refine R_r (D_move rfl) ?_
        refine R_r (D_ptrNotNil Tryz.underlying34 rfl) ?_
        refine R_r (D_move rfl) ?_
        refine R_r (D_as (v' := .bool false) (D_eq rfl rfl) (by simp [hE])) ?_
        refine R_r (D_neB Tryz.underlying4 rfl rfl) ?_
        refine R_r (D_pick false rfl rfl) ?_
        refine R_r (D_move rfl) ?_
        refine R_r (D_move rfl) ?_
        refine R_r (D_move rfl) ?_
        refine R_o (E_callL (v := .bool true) 0 rfl rfl rfl en14 (fun w hle hbl hM => by have h_ := same_C l l (some ⟨bf, 0, none⟩) (l.length + 40) b d _ w hM (by omega) (.inr ⟨bf, 0, _, _, _, rfl, hbl, hxl⟩) hd (SlA.le q21 hle) (by omega); rw [decide_eq_true rfl] at h_; exact h_) ?_)
        refine R_r (D_not rfl) ?_
        refine R_r (D_pick false rfl rfl) ?_
        refine R_r (D_move rfl) ?_
        refine R_r (D_move rfl) ?_
        refine R_o (E_callL (v := .bool true) 0 rfl rfl rfl en15 (fun w hle hbl hM => Hold_C b5 bf l.length (l.length + 40) capf csf _ _ _ w hM (RoomAt.le q23 hle) hbl hmk (by omega) (by omega)) ?_)
        refine R_r (D_not rfl) ?_
        refine R_r (D_pick false rfl rfl) ?_
        refine R_nil ?_
        refine R_cond_f rfl ?_
        refine R_skip ?_
        refine R_seq ?_
        refine R_seq ?_
        refine Y_region [.blk bf (.cells (List.toArray csf) 66), .blk b14 (.cells (List.toArray (NodeC.cells (⟨wn, wv, wm, wk⟩ : NodeC))) 30), .blk b1 (.cells (List.toArray (NodeC.cells (⟨x.name, x.value, x.marks, .slice a x.kids.length c⟩ : NodeC))) 30)] mixed ?_
        refine Y_r 0 rfl (D_move rfl) ?_
        refine Y_r 1 rfl (D_ptrNotNil Tryz.underlying34 rfl) ?_
        refine Y_r 2 rfl (D_move rfl) ?_
        refine Y_skip 3 rfl rfl ?_
        refine Y_skip 4 rfl rfl ?_
        refine Y_skip 5 rfl rfl ?_
        refine Y_skip 6 rfl rfl ?_
        refine Y_skip 7 rfl rfl ?_
        refine Y_r 8 rfl (D_pick false rfl rfl) ?_
        refine Y_nil ?_ (PMem.le_refl _) (fun _ h => List.Sublist.subset (.cons_cons _ (.cons_cons _ (.cons_cons _ (.slnil)))) h)
        refine R_cond_f rfl ?_
        refine R_skip ?_
        refine R_region ?_
        refine R_r (D_move rfl) ?_
        refine R_r (D_assign rfl) ?_
        refine R_nil ?_
        refine R_region ?_
        refine R_r (D_move rfl) ?_
        refine R_r (D_add rfl rfl rfl (by omega) (by omega)) ?_
        refine R_r (D_assign rfl) ?_
        refine R_nil ?_
        exact R_back (i + 1, Mr19) (by show (i + 1) ≤ 2 ∧ PMem.le Mr9 Mr19; exact ⟨by omega, (PMem.le_trans hleV hler19)⟩) (by show 2 - (i + 1) < 2 - i; omega) (Env.sub_cons rfl <| Env.sub_cons rfl <| Env.sub_cons rfl <| Env.sub_cons rfl <| Env.sub_cons rfl <| Env.sub_cons rfl <| Env.sub_cons rfl <| Env.sub_cons rfl <| Env.sub_cons rfl <| Env.sub_nil _) rfl rfl
      ·
        have h2p := of_decide_eq_false h2
        refine R_exit rfl ?_
        refine R_seq ?_
        refine R_seq ?_
        refine R_region ?_
        refine R_r (D_assign rfl) ?_
        refine R_nil ?_
        refine R_block ?_
        refine R_loop (σ := (Nat) × (List Value)) (fun gs => ([(2, P_ b1 0), (5, P_ bt 0), (7, P_ b5 0), (8, .slice (some ⟨bf, 0, none⟩) l.length (l.length + 40)), (9, P_ b14 0), (11, .pointer none), (15, I (gs.1 : Int))], Mv, [.blk bf (.cells (List.toArray gs.2) 66), .blk b14 (.cells (List.toArray (NodeC.cells (⟨wn, wv, wm, wk⟩ : NodeC))) 30), .blk b1 (.cells (List.toArray (NodeC.cells (⟨x.name, x.value, x.marks, .slice a x.kids.length c⟩ : NodeC))) 30)])) (fun gs => gs.1 ≤ l.length ∧ gs.2.length = csf.length ∧ MarksAt gs.2 l.length (l.length + 40)) (fun gs => l.length - gs.1) (0, csf) ?_ (Env.sub_cons rfl <| Env.sub_cons rfl <| Env.sub_cons rfl <| Env.sub_cons rfl <| Env.sub_cons rfl <| Env.sub_cons rfl <| Env.sub_cons rfl <| Env.sub_nil _) rfl rfl ?_
        · show 0 ≤ l.length ∧ csf.length = csf.length ∧ MarksAt csf l.length (l.length + 40); exact ⟨by omega, rfl, hmk⟩
        rintro ⟨j, cs⟩ hok
        replace hok : j ≤ l.length ∧ cs.length = csf.length ∧ MarksAt cs l.length (l.length + 40) := hok
        show Cx.R _ _ _ [(2, P_ b1 0), (5, P_ bt 0), (7, P_ b5 0), (8, .slice (some ⟨bf, 0, none⟩) l.length (l.length + 40)), (9, P_ b14 0), (11, .pointer none), (15, I (j : Int))] Mv [.blk bf (.cells (List.toArray cs) 66), .blk b14 (.cells (List.toArray (NodeC.cells (⟨wn, wv, wm, wk⟩ : NodeC))) 30), .blk b1 (.cells (List.toArray (NodeC.cells (⟨x.name, x.value, x.marks, .slice a x.kids.length c⟩ : NodeC))) 30)]
        obtain ⟨hj, hcl, hmk2⟩ := hok
        refine R_seq ?_
        refine R_seq ?_
        refine R_region ?_
        refine R_r (D_move rfl) ?_
        refine R_r (D_move rfl) ?_
        refine R_r (D_lenL Tryz.underlying31 rfl) ?_
        refine R_r (D_lt rfl rfl) ?_
        refine R_nil ?_
        refine R_cond rfl (fun h3 => ?_) (fun h3 => ?_)
        ·
          have h3p := of_decide_eq_true h3
          refine R_skip ?_
          refine R_seq ?_
          refine R_block ?_
          refine R_region ?_
          refine R_r (D_move rfl) ?_
          refine R_r (D_move rfl) ?_
          refine R_r (D_build rfl (bd66_0 _)) ?_
          refine R_r (D_indexLn (j) Tryz.underlying31 Tryz.sizeOf66 rfl rfl rfl (by omega)) ?_
          refine R_o (E_store (cs' := (cs.take (0 + j * 71) ++ Change.cells (⟨([115, 112, 111, 105, 108, 116] : Str), Val.zero, Val.zero⟩ : Change) ++ cs.drop (0 + j * 71 + 71))) 0 rfl rfl rfl (Wr.agg (vs := Change.cells (⟨([115, 112, 111, 105, 108, 116] : Str), Val.zero, Val.zero⟩ : Change)) Tryz.sizeOf66 rfl rfl (by rw [Nat.ble_eq]; omega) rfl) ?_)
          refine R_nil ?_
          refine R_region ?_
          refine R_r (D_move rfl) ?_
          refine R_r (D_add rfl rfl rfl (by omega) (by omega)) ?_
          refine R_r (D_assign rfl) ?_
          refine R_nil ?_
          exact R_back (j + 1, (cs.take (0 + j * 71) ++ Change.cells (⟨([115, 112, 111, 105, 108, 116] : Str), Val.zero, Val.zero⟩ : Change) ++ cs.drop (0 + j * 71 + 71))) (by show (j + 1) ≤ l.length ∧ (cs.take (0 + j * 71) ++ Change.cells (⟨([115, 112, 111, 105, 108, 116] : Str), Val.zero, Val.zero⟩ : Change) ++ cs.drop (0 + j * 71 + 71)).length = csf.length ∧ MarksAt (cs.take (0 + j * 71) ++ Change.cells (⟨([115, 112, 111, 105, 108, 116] : Str), Val.zero, Val.zero⟩ : Change) ++ cs.drop (0 + j * 71 + 71)) l.length (l.length + 40); exact ⟨by omega, by simp only [List.length_append, List.length_take, List.length_drop]; rw [show (Change.cells (⟨([115, 112, 111, 105, 108, 116] : Str), Val.zero, Val.zero⟩ : Change)).length = 71 from rfl]; omega, hmk2.put (by omega) rfl (by omega)⟩) (by show l.length - (j + 1) < l.length - j; omega) (Env.sub_cons rfl <| Env.sub_cons rfl <| Env.sub_cons rfl <| Env.sub_cons rfl <| Env.sub_cons rfl <| Env.sub_cons rfl <| Env.sub_cons rfl <| Env.sub_nil _) rfl rfl
        ·
          have h3p := of_decide_eq_false h3
          refine R_exit rfl ?_
          refine R_seq ?_
          refine Y_region [.blk bf (.cells (List.toArray cs) 66), .blk b14 (.cells (List.toArray (NodeC.cells (⟨wn, wv, wm, wk⟩ : NodeC))) 30), .blk b1 (.cells (List.toArray (NodeC.cells (⟨x.name, x.value, x.marks, .slice a x.kids.length c⟩ : NodeC))) 30)] mixed ?_
          refine Y_r 0 rfl (D_move rfl) ?_
          refine Y_r 1 rfl (D_ptrNil Tryz.underlying34 rfl) ?_
          refine Y_r 2 rfl (D_move rfl) ?_
          refine Y_skip 3 rfl rfl ?_
          refine Y_skip 4 rfl rfl ?_
          refine Y_skip 5 rfl rfl ?_
          refine Y_skip 6 rfl rfl ?_
          refine Y_r 7 rfl (D_pick true rfl rfl) ?_
          refine Y_r 8 rfl (D_move rfl) ?_
          refine Y_r 9 rfl (D_move rfl) ?_
          refine Y_r 11 rfl (D_load rfl (Has.own 2 rfl) (rd30_NodeC_0 (⟨x.name, x.value, x.marks, .slice a x.kids.length c⟩ : NodeC))) ?_
          refine Y_o 10 rfl (E_callP rfl rfl en17 (fun w hM => NodeT_C x bt Mv w hM q17 (by omega)) (fun vr24 Mr24 Hr24 hler24 hpr24 => ?_)) (PMem.le_refl _) (fun _ h => List.Sublist.subset (.cons_cons _ (.cons_cons _ (.cons_cons _ (.slnil)))) h)
          have q25 := NdA.le q15 hler24
          have q26 := SlA.le q16 hler24
          have q27 := TreeAt.le hler24 q17
          have q28 := RoomAt.le q18 hler24
          obtain ⟨rfl, ksr24, rfl, hksr24⟩ := hpr24
          obtain ⟨ar24, cr24, rfl, hccr24, hAr24⟩ := hksr24.sl
          refine Y_go _ hler24 (fun _ h => List.Sublist.subset (.cons_cons _ (.cons_cons _ (.cons_cons _ (.slnil)))) h) (fun _ h => h) ?_
          refine Y_o 12 rfl (E_callP rfl rfl en18 (fun w hM => Plain_C x a c Mr24 w hM (by omega) q25 (by omega)) (fun vr29 Mr29 Hr29 hler29 hpr29 => ?_)) (PMem.le_refl _) (fun _ h => List.Sublist.subset (.cons_cons _ (.cons_cons _ (.cons_cons _ (.slnil)))) h)
          have q30 := NdA.le q25 hler29
          have q31 := SlA.le q26 hler29
          have q32 := TreeAt.le hler29 q27
          have q33 := RoomAt.le q28 hler29
          have q34 := NdA.le hAr24 hler29
          obtain ⟨rfl, ksr29, rfl, hksr29⟩ := hpr29
          obtain ⟨ar29, cr29, rfl, hccr29, hAr29⟩ := hksr29.sl
          refine Y_go _ hler29 (fun _ h => List.Sublist.subset (.cons_cons _ (.cons_cons _ (.cons_cons _ (.slnil)))) h) (fun _ h => h) ?_
          refine Y_o 13 rfl (E_callV (v := .bool true) rfl rfl en16 (fun w hM => by have h_ := Equal_C _ (Node.mk ([]) x.value x.marks x.kids) rfl (Node.mk ([]) x.value x.marks x.kids) ar24 cr24 ar29 cr29 Mr29 w hM hccr24 q34 (by show Node.wtL x.kids ≤ _; omega) hccr29 hAr29 (by show Node.wtL x.kids ≤ _; omega); rw [Node.same_refl] at h_; exact h_) ?_) (PMem.le_refl _) (fun _ h => List.Sublist.subset (.cons_cons _ (.cons_cons _ (.cons_cons _ (.slnil)))) h)
          refine Y_go _ (PMem.le_refl _) (fun _ h => List.Sublist.subset (.cons_cons _ (.cons_cons _ (.cons_cons _ (.slnil)))) h) (fun _ h => h) ?_
          refine Y_r 14 rfl (D_pick true rfl rfl) ?_
          refine Y_r 15 rfl (D_move rfl) ?_
          refine Y_r 16 rfl (D_move rfl) ?_
          refine Y_o 17 rfl (E_callL (v := .bool true) 0 rfl rfl rfl en15 (fun w hle hbl hM => Hold_C b5 bf l.length (l.length + 40) capf cs _ _ _ w hM (RoomAt.le q33 hle) hbl hmk2 (by omega) (by omega)) ?_) (PMem.le_refl _) (fun _ h => List.Sublist.subset (.cons_cons _ (.cons_cons _ (.cons_cons _ (.slnil)))) h)
          refine Y_go _ (PMem.le_refl _) (fun _ h => List.Sublist.subset (.cons_cons _ (.cons_cons _ (.cons_cons _ (.slnil)))) h) (fun _ h => h) ?_
          refine Y_r 18 rfl (D_pick true rfl rfl) ?_
          refine Y_r 19 rfl (D_assign rfl) ?_
          refine Y_nil ?_ (PMem.le_refl _) (fun _ h => List.Sublist.subset (.cons_cons _ (.cons_cons _ (.cons_cons _ (.slnil)))) h)
          refine R_ret ?_
          refine R_drop (List.nil_sublist _) ?_
          refine R_fin1 rfl rfl ?_
          exact ⟨rfl, rfl⟩

end Go.Proofs.YtgmomhdammdjgaaGreat
