/-
  Changes applied to a tree (diff.Apply), walked for a list that is written no more: the order, what each path holds, what may stand, the tree behind. Conditions: trees and lists of at most 2^30 parts; the tree is one that may be.
-/
import Derived.Test.YtgmomhdammdjgaaGreatReadNC
set_option linter.unusedVariables false
set_option linter.unusedSimpArgs false
set_option maxRecDepth 20000
set_option maxHeartbeats 4000000
namespace Go.Proofs.YtgmomhdammdjgaaGreat
open Go Go.Proofs Go.RowKit

theorem en92 : ∀ (args : Array Value) (w : World), (callFunc 92 args).run Tryz.prog w = .ok (.enter 92 args) w := enters_fn Tryz.func92 (by kernel_rfl) rfl
theorem bd149_0_1 (x0 : Str) (x1 : Val) : Bd Tryz.prog 149 [(0, S x0), (1, Val.val x1)] (Spot.val ⟨x0, x1⟩) := fun w => by kernel_rfl
theorem bs144_1 (x0 : Spot) : Bs Tryz.prog 144 149 1 [(0, Spot.val x0)] (Spot.cells x0) := fun w => by kernel_rfl
theorem el149 : ElemOk Tryz.prog 149 36 72 := ElemOk.mk' (by kernel_rfl) (by omega)
theorem inf149 : (Tryz.prog.info? 149).map (·.size) = some 36 := by kernel_rfl
theorem rd149_Spot_0 (x : Spot) : Rd Tryz.prog 149 x.cells 0 (Spot.val x) := Rd.agg Tryz.underlying149 rfl inf149 rfl rfl
theorem en44 : ∀ (args : Array Value) (w : World), (callFunc 44 args).run Tryz.prog w = .ok (.enter 44 args) w := enters_fn Tryz.func44 (by kernel_rfl) rfl
theorem cmpL_nil_ge (x : List Str) : 0 ≤ cmpL x [] := by cases x <;> simp [cmpL]
theorem sorted_strict {ls : List Spot} (h : SortedS ls) (hn : (ls.map Spot.path).Nodup) (i j : Nat) (a b : Spot) (hij : i < j) (ha : ls[i]? = some a) (hb : ls[j]? = some b) : cmpP a.path b.path < 0 := by
  obtain ⟨hi, rfl⟩ := List.getElem?_eq_some_iff.1 ha
  obtain ⟨hj, rfl⟩ := List.getElem?_eq_some_iff.1 hb
  have h1 := List.pairwise_iff_getElem.1 h i j hi hj hij
  have h2 := cmpP_swap ls[i].path ls[j].path
  rcases Int.lt_or_le (cmpP ls[i].path ls[j].path) 0 with h3 | h3
  · exact h3
  · have h4 := cmpP_zero (a := ls[i].path) (b := ls[j].path) (by omega)
    have h5 := List.pairwise_iff_getElem.1 hn i j (by simpa using hi) (by simpa using hj) hij
    simp only [List.getElem_map] at h5
    exact absurd h4 h5

theorem growM_C (x : Node) (b : Nat) (l : List Change) (bl : Option Addr) (cl rm : Nat) (ml : MapL) (mc : Nat) (M : PMem) (w : World) (hM : Lies M w) (hb : TreeAt M b x) (hrx : Node.Ris x) (hpw : Node.wtL x.kids ≤ 1073741823) (hlc : l.length ≤ cl) (hsl : SlA M 71 (byEnc Change.cells) bl l) (hln : l.length ≤ 1073741824) (hmm : M rm = some (mobj ml mc)) (hnow : ∀ p, lookL ml p = (nowOf l p).map Val.val) (hlp : ∀ s ∈ spots x l, s.path.length ≤ 1073741824) (hnd : ((spots x l).map Spot.path).Nodup) (hokS : ∀ s ∈ spots x l, ¬ s.value.kind = 0 → (splitP s.path 64).2 = 0 ∧ ownE s.value (marksAt x s.path (nowOf l s.path).isSome) 0 = 0) : Ends Tryz.prog 44 [P_ b 0, .slice bl l.length cl, .map (some rm)] w [] M (fun v M' H' => H' = [] ∧ ∃ ls : List Spot, ls.Perm (spots x l) ∧ SortedS ls ∧ ((runG x l ls [] = none ∧ v = .tuple #[.pointer none, I 132]) ∨ ∃ done, runG x l ls [] = some done ∧ ((done = [] ∧ v = .tuple #[.pointer none, I 0]) ∨ ∃ b z, v = .tuple #[P_ b 0, I 0] ∧ TreeAt M' b z ∧ Grown z done))) := by
  have hxs := Node.size_eq x
  have hfln := Node.flat_len x []
  have hwz := Node.sizeL_wt x.kids
  refine Ends.enterM (H := []) Tryz.func44 rfl Tryz.ntmps44 rfl (St.start hM) ?_
  refine R_seq ?_
  refine R_region ?_
  refine R_o (E_box [.map (some rm)] rfl rfl (fun b1 => ?_))
  refine R_r (D_assign rfl) ?_
  refine R_r (D_assign rfl) ?_
  refine R_nil ?_
  refine R_seq ?_
  refine R_region ?_
  refine R_o (E_alloc [.slice none 0 0] Tryz.zeroValue144 rfl (fun b2 => ?_))
  refine R_nil ?_
  refine R_seq ?_
  refine R_seq ?_
  refine R_region ?_
  refine R_r (D_move rfl) ?_
  refine R_o (E_callP rfl rfl en88 (fun w hM => All_C x b M w hM hb (by omega)) (fun vr3 Mr3 Hr3 hler3 hpr3 => ?_))
  have q4 := TreeAt.le hler3 hb
  have q5 := SlA.le hsl hler3
  have q6 := hler3 _ _ hmm
  obtain ⟨rfl, bxr3, rfl, hitr3⟩ := hpr3
  refine R_nil ?_
  refine R_block ?_
  refine R_row0 149 36 ?_
  refine R_weak (e' := [(0, P_ b 0), (1, .slice bl l.length cl), (5, P_ b1 0), (8, P_ b2 0), (24, .func (.func 112) #[] #[P_ bxr3 0])]) (Env.sub_cons rfl <| Env.sub_cons rfl <| Env.sub_cons rfl <| Env.sub_cons rfl <| Env.sub_cons rfl <| Env.sub_nil _) ?_
  refine R_rangeFunc (items := itemsV x []) (fun i_ Mv H_ => ∃ (v : Value), True ∧ PMem.le Mr3 Mv ∧ H_ = [.row v 149 36 ((spotsT l ((x.flat []).take i_)).length) ((spotsT l ((x.flat []).take i_)).flatMap Spot.cells), .blk b2 (.cells (List.toArray [v]) 144), .blk b1 (.cells (List.toArray [.map (some rm)]) 104)]) rfl rfl en112 (hitr3) (fun y hy => by obtain ⟨j, hj, rfl⟩ := List.getElem_of_mem hy; obtain ⟨_, _, e⟩ := itemsV_of (List.getElem?_eq_getElem hj); rw [e]; rfl) rfl ⟨.slice none 0 0, trivial, PMem.le_refl _, rfl⟩ (fun i_ M_ H_ h_ => by obtain ⟨_, _, h_, _⟩ := h_; exact h_) (fun l_ D_ rec_ i_ args_ Mv H_ hi_ hJ_ => ?_) (fun D_ Mv H_ hJ_ => ?_)
  ·
    obtain ⟨v, hok_, hleV_, rfl⟩ := hJ_
    have q7 := TreeAt.le hleV_ q4
    have q8 := SlA.le q5 hleV_
    have q9 := hleV_ _ _ q6
    obtain ⟨e, he, rfl⟩ := itemsV_of hi_
    have hel := (List.getElem?_eq_some_iff.1 he).1
    have hsl_ : (spotsT l ((x.flat []).take i_)).length = i_ := by rw [spotsT, List.length_map, List.length_take]; omega
    show Cx.R _ _ _ [(26, Val.val e.value), (25, S e.path), (0, P_ b 0), (1, .slice bl l.length cl), (5, P_ b1 0), (8, P_ b2 0), (24, .func (.func 112) #[] #[P_ bxr3 0])] Mv [.row v 149 36 ((spotsT l ((x.flat []).take i_)).length) ((spotsT l ((x.flat []).take i_)).flatMap Spot.cells), .blk b2 (.cells (List.toArray [v]) 144), .blk b1 (.cells (List.toArray [.map (some rm)]) 104), .blk l_ (.loop rec_), .blk D_ (.deferred (some []))]
    refine R_seq ?_
    refine R_region ?_
    refine R_r (D_assign rfl) ?_
    refine R_nil ?_
    refine R_region ?_
    refine R_o (E_alloc (Val.cells Val.zero) Tryz.zeroValue24 rfl (fun b10 => ?_))
    refine R_o (E_store (cs' := (Val.cells e.value)) 0 rfl rfl rfl (Wr.agg Tryz.sizeOf24 rfl rfl rfl rfl) ?_)
    refine R_nil ?_
    refine R_begin [.blk b10 (.cells (List.toArray (Val.cells e.value)) 24), .row v 149 36 ((spotsT l ((x.flat []).take i_)).length) ((spotsT l ((x.flat []).take i_)).flatMap Spot.cells), .blk b2 (.cells (List.toArray [v]) 144), .blk b1 (.cells (List.toArray [.map (some rm)]) 104)] rfl (fun rec2_ => ?_)
    refine R_weak (e' := [(0, P_ b 0), (1, .slice bl l.length cl), (5, P_ b1 0), (8, P_ b2 0), (9, S e.path), (10, P_ b10 0), (24, .func (.func 112) #[] #[P_ bxr3 0]), (25, S e.path), (26, Val.val e.value)]) (Env.sub_cons rfl <| Env.sub_cons rfl <| Env.sub_cons rfl <| Env.sub_cons rfl <| Env.sub_cons rfl <| Env.sub_cons rfl <| Env.sub_cons rfl <| Env.sub_cons rfl <| Env.sub_cons rfl <| Env.sub_nil _) ?_
    refine R_eqH (H' := [.blk b10 (.cells (List.toArray (Val.cells e.value)) 24), .row v 149 36 ((spotsT l ((x.flat []).take i_)).length) ((spotsT l ((x.flat []).take i_)).flatMap Spot.cells), .blk b2 (.cells (List.toArray [v]) 144), .blk b1 (.cells (List.toArray [.map (some rm)]) 104), .blk l_ (.loop rec2_), .blk D_ (.deferred (some []))]) rfl ?_
    refine R_block ?_
    refine R_seq ?_
    refine R_seq ?_
    refine R_region ?_
    refine R_r (D_load rfl (Has.own 3 rfl) (Rd.one Tryz.isAgg104 rfl)) ?_
    refine R_r (D_move rfl) ?_
    refine R_r (D_lookVal (nowOf l) hnow Tryz.underlying104 Tryz.underlying9 Tryz.zeroValue24 rfl rfl (Has.mem q9)) ?_
    refine R_r (D_move rfl) ?_
    refine R_r (D_extract rfl rfl) ?_
    refine R_r (D_extract rfl rfl) ?_
    refine R_o (E_alloc (Val.cells Val.zero) Tryz.zeroValue24 rfl (fun b11 => ?_))
    refine R_o (E_store (cs' := (Val.cells ((nowOf l e.path).getD Val.zero))) 0 rfl rfl rfl (Wr.agg Tryz.sizeOf24 rfl rfl rfl rfl) ?_)
    refine R_r (D_assign rfl) ?_
    refine R_nil ?_
    refine R_seq ?_
    refine R_region ?_
    refine R_r (D_move rfl) ?_
    refine R_nil ?_
    refine R_cond rfl (fun h1 => ?_) (fun h1 => ?_)
    ·
      refine R_region ?_
      refine R_r (D_load rfl (Has.own 0 rfl) (rd24_Val_0 ((nowOf l e.path).getD Val.zero))) ?_
      refine R_o (E_store (cs' := (Val.cells ((nowOf l e.path).getD Val.zero))) 1 rfl rfl rfl (Wr.agg Tryz.sizeOf24 rfl rfl rfl rfl) ?_)
      refine R_nil ?_
      refine R_region ?_
      refine R_r (D_load rfl (Has.own 3 rfl) (Rd.one Tryz.isAgg144 rfl)) ?_
      refine R_r (D_move rfl) ?_
      refine R_r (D_load rfl (Has.own 1 rfl) (rd24_Val_0 ((nowOf l e.path).getD Val.zero))) ?_
      refine R_r (D_build rfl (bd149_0_1 _ _)) ?_
      refine R_o (E_buildSlice (ps := [(0, .tmp 38)]) (vs := [(0, Spot.val (⟨e.path, (nowOf l e.path).getD Val.zero⟩ : Spot))]) (cs := (Spot.cells (⟨e.path, (nowOf l e.path).getD Val.zero⟩ : Spot))) rfl (bs144_1 _) (fun b12 => ?_))
      refine R_o (E_append (news := (Spot.cells (⟨e.path, (nowOf l e.path).getD Val.zero⟩ : Spot))) 3 Tryz.underlying144 el149 rfl rfl rfl (Has.own 0 rfl) rfl rfl (by exact ones_Spot _) (by unfold maxLen; first | omega | (simp only [List.length_append]; omega)) (by first | omega | (simp only [List.length_append]; omega)) (fun v13 hv13 => ?_))
      refine R_o (E_store (cs' := [v13]) 4 rfl rfl rfl (Wr.one Tryz.sizeOf144 hv13 rfl rfl) ?_)
      refine R_nil ?_
      have hgv : ((nowOf l e.path).getD Val.zero) = (nowOf l e.path).getD e.value := by cases hq : nowOf l e.path <;> simp_all
      refine R_drop (H' := [.row v13 149 36 ((spotsT l ((x.flat []).take i_)).length + 1) (((spotsT l ((x.flat []).take i_)).flatMap Spot.cells) ++ (Spot.cells (⟨e.path, (nowOf l e.path).getD Val.zero⟩ : Spot))), .blk b2 (.cells (List.toArray [v13]) 144), .blk b1 (.cells (List.toArray [.map (some rm)]) 104), .blk l_ (.loop rec2_), .blk D_ (.deferred (some []))]) (.cons _ (.cons _ (.cons _ (.cons_cons _ (.cons_cons _ (.cons_cons _ (.cons_cons _ (.cons_cons _ (.slnil))))))))) ?_
      exact R_endRound [.row v13 149 36 ((spotsT l ((x.flat []).take i_)).length + 1) (((spotsT l ((x.flat []).take i_)).flatMap Spot.cells) ++ (Spot.cells (⟨e.path, (nowOf l e.path).getD Val.zero⟩ : Spot))), .blk b2 (.cells (List.toArray [v13]) 144), .blk b1 (.cells (List.toArray [.map (some rm)]) 104)] rfl ⟨v13, trivial, hleV_, (by rw [take_snoc he, spotsT_snoc, ← hgv]; simp)⟩
    ·
      refine R_skip ?_
      refine R_region ?_
      refine R_r (D_load rfl (Has.own 3 rfl) (Rd.one Tryz.isAgg144 rfl)) ?_
      refine R_r (D_move rfl) ?_
      refine R_r (D_load rfl (Has.own 1 rfl) (rd24_Val_0 e.value)) ?_
      refine R_r (D_build rfl (bd149_0_1 _ _)) ?_
      refine R_o (E_buildSlice (ps := [(0, .tmp 38)]) (vs := [(0, Spot.val (⟨e.path, e.value⟩ : Spot))]) (cs := (Spot.cells (⟨e.path, e.value⟩ : Spot))) rfl (bs144_1 _) (fun b14 => ?_))
      refine R_o (E_append (news := (Spot.cells (⟨e.path, e.value⟩ : Spot))) 3 Tryz.underlying144 el149 rfl rfl rfl (Has.own 0 rfl) rfl rfl (by exact ones_Spot _) (by unfold maxLen; first | omega | (simp only [List.length_append]; omega)) (by first | omega | (simp only [List.length_append]; omega)) (fun v15 hv15 => ?_))
      refine R_o (E_store (cs' := [v15]) 4 rfl rfl rfl (Wr.one Tryz.sizeOf144 hv15 rfl rfl) ?_)
      refine R_nil ?_
      have hgv : e.value = (nowOf l e.path).getD e.value := by cases hq : nowOf l e.path <;> simp_all
      refine R_drop (H' := [.row v15 149 36 ((spotsT l ((x.flat []).take i_)).length + 1) (((spotsT l ((x.flat []).take i_)).flatMap Spot.cells) ++ (Spot.cells (⟨e.path, e.value⟩ : Spot))), .blk b2 (.cells (List.toArray [v15]) 144), .blk b1 (.cells (List.toArray [.map (some rm)]) 104), .blk l_ (.loop rec2_), .blk D_ (.deferred (some []))]) (.cons _ (.cons _ (.cons _ (.cons_cons _ (.cons_cons _ (.cons_cons _ (.cons_cons _ (.cons_cons _ (.slnil))))))))) ?_
      exact R_endRound [.row v15 149 36 ((spotsT l ((x.flat []).take i_)).length + 1) (((spotsT l ((x.flat []).take i_)).flatMap Spot.cells) ++ (Spot.cells (⟨e.path, e.value⟩ : Spot))), .blk b2 (.cells (List.toArray [v15]) 144), .blk b1 (.cells (List.toArray [.map (some rm)]) 104)] rfl ⟨v15, trivial, hleV_, (by rw [take_snoc he, spotsT_snoc, ← hgv]; simp)⟩
  ·
    obtain ⟨v, hok_, hleV_, rfl⟩ := hJ_
    have q16 := TreeAt.le hleV_ q4
    have q17 := SlA.le q5 hleV_
    have q18 := hleV_ _ _ q6
    show Cx.R _ _ _ [(0, P_ b 0), (1, .slice bl l.length cl), (5, P_ b1 0), (8, P_ b2 0), (24, .func (.func 112) #[] #[P_ bxr3 0])] Mv [.row v 149 36 ((spotsT l ((x.flat []).take (itemsV x []).length)).length) ((spotsT l ((x.flat []).take (itemsV x []).length)).flatMap Spot.cells), .blk b2 (.cells (List.toArray [v]) 144), .blk b1 (.cells (List.toArray [.map (some rm)]) 104), .blk D_ (.deferred (some []))]
    refine R_seq ?_
    refine R_seq ?_
    refine R_region ?_
    refine R_r (D_move rfl) ?_
    refine R_r (D_lenL Tryz.underlying31 rfl) ?_
    refine R_r (D_move rfl) ?_
    refine R_nil ?_
    refine R_block ?_
    have hfl : (itemsV x []).length = (x.flat []).length := by simp [itemsV]
    rw [hfl, List.take_length]
    refine R_loop (σ := (Value) × (Nat)) (fun gs => ([(0, P_ b 0), (1, .slice bl l.length cl), (5, P_ b1 0), (8, P_ b2 0), (41, .slice bl l.length cl), (42, I (l.length : Int)), (43, I (gs.2 : Int))], Mv, [.row gs.1 149 36 ((spotsT l (x.flat []) ++ spotsN (l.take gs.2)).length) ((spotsT l (x.flat []) ++ spotsN (l.take gs.2)).flatMap Spot.cells), .blk b2 (.cells (List.toArray [gs.1]) 144), .blk b1 (.cells (List.toArray [.map (some rm)]) 104), .blk D_ (.deferred (some []))])) (fun gs => gs.2 ≤ l.length) (fun gs => l.length - gs.2) (v, 0) ?_ (Env.sub_cons rfl <| Env.sub_cons rfl <| Env.sub_cons rfl <| Env.sub_cons rfl <| Env.sub_cons rfl <| Env.sub_cons rfl <| Env.sub_cons rfl <| Env.sub_nil _) rfl (by simp [spotsN]) ?_
    · show 0 ≤ l.length; omega
    rintro ⟨v, i⟩ hok
    replace hok : i ≤ l.length := hok
    show Cx.R _ _ _ [(0, P_ b 0), (1, .slice bl l.length cl), (5, P_ b1 0), (8, P_ b2 0), (41, .slice bl l.length cl), (42, I (l.length : Int)), (43, I (i : Int))] Mv [.row v 149 36 ((spotsT l (x.flat []) ++ spotsN (l.take i)).length) ((spotsT l (x.flat []) ++ spotsN (l.take i)).flatMap Spot.cells), .blk b2 (.cells (List.toArray [v]) 144), .blk b1 (.cells (List.toArray [.map (some rm)]) 104), .blk D_ (.deferred (some []))]
    have hsn := spotsN_len (l.take i)
    have hlt := List.length_take (i := i) (l := l)
    have hst : (spotsT l (x.flat [])).length = (x.flat []).length := by simp [spotsT]
    have hsa : (spotsT l (x.flat []) ++ spotsN (l.take i)).length = (spotsT l (x.flat [])).length + (spotsN (l.take i)).length := List.length_append
    refine R_seq ?_
    refine R_region ?_
    refine R_r (D_lt rfl rfl) ?_
    refine R_nil ?_
    refine R_seq ?_
    refine R_cond rfl (fun h1 => ?_) (fun h1 => ?_)
    ·
      have h1p := of_decide_eq_true h1
      refine R_skip ?_
      refine R_seq ?_
      refine R_block ?_
      refine R_seq ?_
      refine R_region ?_
      obtain ⟨b19, ob19, csb19, elb19, frb19, rfl, hmb19, hxb19⟩ := q17.at (i := i) (by first | omega | (simp; omega))
      obtain ⟨x20, hx20⟩ : ∃ e_, l[i]? = some e_ := ⟨_, List.getElem?_eq_getElem (by omega)⟩
      have hex20 := hxb19 i x20 hx20
      refine R_r (D_indexLn (i) Tryz.underlying31 Tryz.sizeOf66 rfl rfl (by first | rfl | omega) (by first | omega | (simp <;> omega))) ?_
      refine R_r (D_load rfl (Has.mem hmb19) (Rd.elemA (i := i) hex20 Tryz.underlying66 rfl inf66 rfl)) ?_
      refine R_o (E_alloc (Change.cells Change.zero) Tryz.zeroValue66 rfl (fun b21 => ?_))
      refine R_o (E_store (cs' := (Change.cells x20)) 0 rfl rfl rfl (Wr.agg Tryz.sizeOf66 rfl rfl rfl rfl) ?_)
      refine R_nil ?_
      refine R_seq ?_
      refine R_region ?_
      refine R_r (D_fieldAddr fa66_1 rfl) ?_
      refine R_r (D_fieldAddr fa24_0 rfl) ?_
      refine R_r (D_load rfl (Has.own 0 rfl) (Rd.one Tryz.isAgg3 rfl)) ?_
      refine R_r (D_eq rfl rfl) ?_
      refine R_nil ?_
      refine R_cond rfl (fun h2 => ?_) (fun h2 => ?_)
      ·
        have h2p := of_decide_eq_true h2
        refine R_region ?_
        refine R_r (D_load rfl (Has.own 2 rfl) (Rd.one Tryz.isAgg144 rfl)) ?_
        refine R_r (D_fieldAddr fa66_0 rfl) ?_
        refine R_r (D_load rfl (Has.own 0 rfl) (Rd.one Tryz.isAgg9 rfl)) ?_
        refine R_r (D_fieldAddr fa66_2 rfl) ?_
        refine R_r (D_load rfl (Has.own 0 rfl) (rd24_Change_36 x20)) ?_
        refine R_r (D_build rfl (bd149_0_1 _ _)) ?_
        refine R_o (E_buildSlice (ps := [(0, .tmp 56)]) (vs := [(0, Spot.val (⟨x20.path, x20.new⟩ : Spot))]) (cs := (Spot.cells (⟨x20.path, x20.new⟩ : Spot))) rfl (bs144_1 _) (fun b22 => ?_))
        refine R_o (E_append (news := (Spot.cells (⟨x20.path, x20.new⟩ : Spot))) 2 Tryz.underlying144 el149 rfl rfl rfl (Has.own 0 rfl) rfl rfl (by exact ones_Spot _) (by unfold maxLen; first | omega | (simp only [List.length_append]; omega)) (by first | omega | (simp only [List.length_append]; omega)) (fun v23 hv23 => ?_))
        refine R_o (E_store (cs' := [v23]) 3 rfl rfl rfl (Wr.one Tryz.sizeOf144 hv23 rfl rfl) ?_)
        refine R_nil ?_
        refine R_region ?_
        refine R_r (D_add rfl rfl rfl (by omega) (by omega)) ?_
        refine R_r (D_move rfl) ?_
        refine R_nil ?_
        refine R_drop (H' := [.row v23 149 36 ((spotsT l (x.flat []) ++ spotsN (l.take i)).length + 1) (((spotsT l (x.flat []) ++ spotsN (l.take i)).flatMap Spot.cells) ++ (Spot.cells (⟨x20.path, x20.new⟩ : Spot))), .blk b2 (.cells (List.toArray [v23]) 144), .blk b1 (.cells (List.toArray [.map (some rm)]) 104), .blk D_ (.deferred (some []))]) (.cons _ (.cons _ (List.Sublist.refl _))) ?_
        exact R_back (v23, i + 1) (by show (i + 1) ≤ l.length; omega) (by show l.length - (i + 1) < l.length - i; omega) (Env.sub_cons rfl <| Env.sub_cons rfl <| Env.sub_cons rfl <| Env.sub_cons rfl <| Env.sub_cons rfl <| Env.sub_cons rfl <| Env.sub_cons rfl <| Env.sub_nil _) rfl (by rw [take_snoc hx20, spotsN_snoc, if_pos h2p]; (try simp); (try omega))
      ·
        have h2p := of_decide_eq_false h2
        refine R_skip ?_
        refine R_region ?_
        refine R_r (D_add rfl rfl rfl (by omega) (by omega)) ?_
        refine R_r (D_move rfl) ?_
        refine R_nil ?_
        refine R_drop (H' := [.row v 149 36 ((spotsT l (x.flat []) ++ spotsN (l.take i)).length) ((spotsT l (x.flat []) ++ spotsN (l.take i)).flatMap Spot.cells), .blk b2 (.cells (List.toArray [v]) 144), .blk b1 (.cells (List.toArray [.map (some rm)]) 104), .blk D_ (.deferred (some []))]) (.cons _ (List.Sublist.refl _)) ?_
        exact R_back (v, i + 1) (by show (i + 1) ≤ l.length; omega) (by show l.length - (i + 1) < l.length - i; omega) (Env.sub_cons rfl <| Env.sub_cons rfl <| Env.sub_cons rfl <| Env.sub_cons rfl <| Env.sub_cons rfl <| Env.sub_cons rfl <| Env.sub_cons rfl <| Env.sub_nil _) rfl (by rw [take_snoc hx20, spotsN_snoc, if_neg h2p]; (try simp); (try omega))
    ·
      have h1p := of_decide_eq_false h1
      refine R_exit rfl ?_
      refine R_seq ?_
      have htl : l.take i = l := List.take_of_length_le (by omega)
      refine R_eqH (H' := [.row v 149 36 ((spots x l).length) ((spots x l).flatMap Spot.cells), .blk b2 (.cells (List.toArray [v]) 144), .blk b1 (.cells (List.toArray [.map (some rm)]) 104), .blk D_ (.deferred (some []))]) (by rw [htl]; rfl) ?_
      have hspl : (spots x l).length = (spotsT l (x.flat [])).length + (spotsN l).length := List.length_append
      rw [htl] at hsn
      have hfp := Node.flat_pos x []
      refine R_rowSome (by omega) (fun bo capo hvo hcapo => ?_)
      subst hvo
      refine R_region ?_
      refine R_r (D_load rfl (Has.own 1 rfl) (Rd.one Tryz.isAgg144 rfl)) ?_
      refine R_o (E_callH1 0 rfl rfl rfl en89 (fun w hM hr hf => sort_C (spots x l) hlp (by omega) bo capo Mv w hM hr hf) (fun vr24 Mr24 Hr24 hler24 hpr24 => ?_))
      obtain ⟨hMMr24, ls, hperm, hsort, rfl⟩ := hpr24
      have hMsr24 := hMMr24.symm; subst hMsr24; clear hler24
      have hll := hperm.length_eq
      have hstrict := sorted_strict hsort ((hperm.map Spot.path).nodup_iff.2 hnd)
      refine R_nil ?_
      refine R_seq ?_
      refine R_region ?_
      refine R_o (E_makeMap (fun b25 => ?_))
      refine R_r (D_assign rfl) ?_
      refine R_nil ?_
      refine R_seq ?_
      refine R_region ?_
      refine R_r (D_assign rfl) ?_
      refine R_nil ?_
      refine R_seq ?_
      refine R_seq ?_
      refine R_perm (H' := [.row (.slice (some ⟨bo, 0, none⟩) ((spots x l).length) capo) 149 36 ((spots x l).length) (ls.flatMap Spot.cells), .blk b25 (mobj [] 0), .blk b2 (.cells (List.toArray [.slice (some ⟨bo, 0, none⟩) ((spots x l).length) capo]) 144), .blk b1 (.cells (List.toArray [.map (some rm)]) 104), .blk D_ (.deferred (some []))]) (perm_front (l := ([.blk b25 (mobj [] 0), .row (.slice (some ⟨bo, 0, none⟩) ((spots x l).length) capo) 149 36 ((spots x l).length) (ls.flatMap Spot.cells), .blk b2 (.cells (List.toArray [.slice (some ⟨bo, 0, none⟩) ((spots x l).length) capo]) 144), .blk b1 (.cells (List.toArray [.map (some rm)]) 104), .blk D_ (.deferred (some []))] : List Res)) 1 rfl) ?_
      refine R_freezeRow (fun M26 hleM26 hrowM26 => ?_)
      have q27 := TreeAt.le hleM26 q16
      have q28 := SlA.le q17 hleM26
      have q29 := hleM26 _ _ q18
      obtain ⟨a1, c1, hv1, hc1, hs1⟩ := hrowM26.sla (l := ls) (enc := Spot.cells) (fun _ => rfl) (by omega)
      obtain ⟨e1, e2, e3⟩ := slice_inj hv1; subst e1; subst e3
      obtain ⟨b2, o2, cs2, el2, fr2, e2b, hm2, hx2⟩ := hs1.at (i := 0) (by omega)
      injection e2b with e4; injection e4 with e5 e6; subst e5; subst e6
      refine R_region ?_
      refine R_r (D_load rfl (Has.own 1 rfl) (Rd.one Tryz.isAgg144 rfl)) ?_
      refine R_r (D_lenL Tryz.underlying144 rfl) ?_
      refine R_r (D_move rfl) ?_
      refine R_nil ?_
      refine R_block ?_
      refine R_loop (σ := (Nat) × (List Entry) × (MapL) × (Nat) × (Value) × (PMem)) (fun gs => ([(0, P_ b 0), (1, .slice bl l.length cl), (5, P_ b1 0), (8, P_ b2 0), (15, .map (some b25)), (16, gs.2.2.2.2.1), (63, .slice (some ⟨bo, 0, none⟩) ((spots x l).length) capo), (64, I ((spots x l).length : Int)), (65, I (gs.1 : Int))], gs.2.2.2.2.2, [.blk b25 (mobj gs.2.2.1 gs.2.2.2.1), .blk b2 (.cells (List.toArray [.slice (some ⟨bo, 0, none⟩) ((spots x l).length) capo]) 144), .blk b1 (.cells (List.toArray [.map (some rm)]) 104), .blk D_ (.deferred (some []))])) (fun gs => gs.1 ≤ ls.length ∧ PMem.le M26 gs.2.2.2.2.2 ∧ (∀ p, lookL gs.2.2.1 p = (kindOf gs.2.1 p).map (fun n => I n)) ∧ runG x l ls [] = runG x l (ls.drop gs.1) gs.2.1 ∧ OutT gs.2.2.2.2.2 gs.2.2.2.2.1 gs.2.1 ∧ gs.2.1.length ≤ gs.1 ∧ (∀ e : Entry, e ∈ gs.2.1 → ∃ s : Spot, s ∈ ls.take gs.1 ∧ s.path = e.path)) (fun gs => ls.length - gs.1) (0, [], [], 0, .pointer none, M26) ?_ (Env.sub_cons rfl <| Env.sub_cons rfl <| Env.sub_cons rfl <| Env.sub_cons rfl <| Env.sub_cons rfl <| Env.sub_cons rfl <| Env.sub_cons rfl <| Env.sub_cons rfl <| Env.sub_cons rfl <| Env.sub_nil _) rfl rfl ?_
      · show 0 ≤ ls.length ∧ PMem.le M26 M26 ∧ (∀ p, lookL ([]) p = (kindOf ([]) p).map (fun n => I n)) ∧ runG x l ls [] = runG x l (ls.drop 0) ([]) ∧ OutT M26 (.pointer none) ([]) ∧ ([]).length ≤ 0 ∧ (∀ e : Entry, e ∈ ([]) → ∃ s : Spot, s ∈ ls.take 0 ∧ s.path = e.path); exact ⟨by omega, PMem.le_refl _, fun p => rfl, rfl, .inl ⟨rfl, rfl⟩, by simp, fun e he => by simp at he⟩
      rintro ⟨i, done, km, kc, ov, Mv⟩ hok
      replace hok : i ≤ ls.length ∧ PMem.le M26 Mv ∧ (∀ p, lookL km p = (kindOf done p).map (fun n => I n)) ∧ runG x l ls [] = runG x l (ls.drop i) done ∧ OutT Mv ov done ∧ done.length ≤ i ∧ (∀ e : Entry, e ∈ done → ∃ s : Spot, s ∈ ls.take i ∧ s.path = e.path) := hok
      show Cx.R _ _ _ [(0, P_ b 0), (1, .slice bl l.length cl), (5, P_ b1 0), (8, P_ b2 0), (15, .map (some b25)), (16, ov), (63, .slice (some ⟨bo, 0, none⟩) ((spots x l).length) capo), (64, I ((spots x l).length : Int)), (65, I (i : Int))] Mv [.blk b25 (mobj km kc), .blk b2 (.cells (List.toArray [.slice (some ⟨bo, 0, none⟩) ((spots x l).length) capo]) 144), .blk b1 (.cells (List.toArray [.map (some rm)]) 104), .blk D_ (.deferred (some []))]
      obtain ⟨hi, hleV, hkm, hrun, hinv, hdl, hdone⟩ := hok
      have q30 := TreeAt.le hleV q27
      have q31 := SlA.le q28 hleV
      have q32 := hleV _ _ q29
      have q33 := hleV _ _ hm2
      refine R_seq ?_
      refine R_region ?_
      refine R_r (D_lt rfl rfl) ?_
      refine R_nil ?_
      refine R_seq ?_
      refine R_cond rfl (fun h2 => ?_) (fun h2 => ?_)
      ·
        have h2p := of_decide_eq_true h2
        refine R_skip ?_
        refine R_seq ?_
        refine R_block ?_
        refine R_seq ?_
        refine R_region ?_
        obtain ⟨x34, hx34⟩ : ∃ e_, ls[i]? = some e_ := ⟨_, List.getElem?_eq_getElem (by first | omega | (simp; omega))⟩
        have hex34 := hx2 i x34 hx34
        refine R_r (D_indexLn (i) Tryz.underlying144 Tryz.sizeOf149 rfl rfl (by first | rfl | omega) (by first | omega | (simp <;> omega))) ?_
        refine R_r (D_load rfl (Has.mem q33) (Rd.elemA (i := i) hex34 Tryz.underlying149 rfl inf149 rfl)) ?_
        refine R_o (E_alloc (Spot.cells Spot.zero) Tryz.zeroValue149 rfl (fun b35 => ?_))
        refine R_o (E_store (cs' := (Spot.cells x34)) 0 rfl rfl rfl (Wr.agg Tryz.sizeOf149 rfl rfl rfl rfl) ?_)
        refine R_nil ?_
        refine R_seq ?_
        refine R_region ?_
        refine R_r (D_fieldAddr fa149_0 rfl) ?_
        refine R_r (D_load rfl (Has.own 0 rfl) (Rd.one Tryz.isAgg9 rfl)) ?_
        refine R_o (E_callV (v := .tuple #[S ((aboveP x34.path).1), S ((aboveP x34.path).2)]) rfl rfl en91 (fun w hM => Above_C x34.path Mv w hM (by exact Nat.le_trans (hlp _ (hperm.subset (List.mem_of_getElem? (by assumption)))) (by omega))) ?_)
        refine R_r (D_move rfl) ?_
        refine R_r (D_extract rfl rfl) ?_
        refine R_r (D_extract rfl rfl) ?_
        refine R_r (D_assign rfl) ?_
        refine R_r (D_assign rfl) ?_
        refine R_nil ?_
        refine R_seq ?_
        refine R_seq ?_
        refine R_region ?_
        refine R_r (D_fieldAddr fa149_1 rfl) ?_
        refine R_r (D_fieldAddr fa24_0 rfl) ?_
        refine R_r (D_load rfl (Has.own 0 rfl) (Rd.one Tryz.isAgg3 rfl)) ?_
        refine R_r (D_eq rfl rfl) ?_
        refine R_nil ?_
        refine R_cond rfl (fun h3 => ?_) (fun h3 => ?_)
        ·
          have h3p := of_decide_eq_true h3
          refine R_exit rfl ?_
          refine R_region ?_
          refine R_r (D_add rfl rfl rfl (by omega) (by omega)) ?_
          refine R_r (D_move rfl) ?_
          refine R_nil ?_
          refine R_drop (H' := [.blk b25 (mobj km kc), .blk b2 (.cells (List.toArray [.slice (some ⟨bo, 0, none⟩) ((spots x l).length) capo]) 144), .blk b1 (.cells (List.toArray [.map (some rm)]) 104), .blk D_ (.deferred (some []))]) (.cons _ (List.Sublist.refl _)) ?_
          exact R_back (i + 1, done, km, kc, ov, Mv) (by show (i + 1) ≤ ls.length ∧ PMem.le M26 Mv ∧ (∀ p, lookL km p = (kindOf done p).map (fun n => I n)) ∧ runG x l ls [] = runG x l (ls.drop (i + 1)) done ∧ OutT Mv ov done ∧ done.length ≤ (i + 1) ∧ (∀ e : Entry, e ∈ done → ∃ s : Spot, s ∈ ls.take (i + 1) ∧ s.path = e.path); exact ⟨by omega, hleV, hkm, by rw [hrun, runG_step hx34, if_pos h3p], hinv, by omega, fun e he => by obtain ⟨q, hq, hp⟩ := hdone e he; exact ⟨q, by rw [take_snoc hx34]; exact List.mem_append_left _ hq, hp⟩⟩) (by show ls.length - (i + 1) < ls.length - i; omega) (Env.sub_cons rfl <| Env.sub_cons rfl <| Env.sub_cons rfl <| Env.sub_cons rfl <| Env.sub_cons rfl <| Env.sub_cons rfl <| Env.sub_cons rfl <| Env.sub_cons rfl <| Env.sub_cons rfl <| Env.sub_nil _) rfl rfl
        ·
          have h3p := of_decide_eq_false h3
          have hk0 : ¬ x34.value.kind = 0 := h3p
          have hmem := hperm.subset (List.mem_of_getElem? hx34)
          obtain ⟨hsp, hown⟩ := hokS x34 hmem hk0
          have hslen := hlp x34 hmem
          have hbelow : ∀ e ∈ done, cmpP e.path x34.path < 0 := fun e he => by obtain ⟨q, hq, hqp⟩ := hdone e he; obtain ⟨j, hj⟩ := List.getElem?_of_mem hq; rw [List.getElem?_take] at hj; split at hj; exact (by rw [← hqp]; exact hstrict j i q x34 (by omega) hj hx34); cases hj
          refine R_skip ?_
          refine R_seq ?_
          refine R_seq ?_
          refine R_join [(0, P_ b 0), (1, .slice bl l.length cl), (5, P_ b1 0), (8, P_ b2 0), (15, .map (some b25)), (16, ov), (18, P_ b35 0), (19, S ((aboveP x34.path).1)), (20, S ((aboveP x34.path).2)), (63, .slice (some ⟨bo, 0, none⟩) ((spots x l).length) capo), (64, I ((spots x l).length : Int)), (65, I (i : Int)), (66, .bool (decide ((i : Int) < ((spots x l).length : Int)))), (67, P_ bo (0 + i * 36)), (68, Spot.val x34), (69, .tuple #[S ((aboveP x34.path).1), S ((aboveP x34.path).2)]), (70, P_ b35 0), (71, S x34.path), (72, .tuple #[S ((aboveP x34.path).1), S ((aboveP x34.path).2)]), (73, S ((aboveP x34.path).1)), (74, S ((aboveP x34.path).2)), (75, P_ b35 1), (76, P_ b35 1), (77, I x34.value.kind), (78, .bool (decide (x34.value.kind = 0))), (87, .bool ((!decide (x34.path = ([] : Str))) && (!decide (((kindOf done ((aboveP x34.path).1)).getD 0) = 1))))] (M' := Mv) (H' := [.blk b35 (.cells (List.toArray (Spot.cells x34)) 149), .blk b25 (mobj km kc), .blk b2 (.cells (List.toArray [.slice (some ⟨bo, 0, none⟩) ((spots x l).length) capo]) 144), .blk b1 (.cells (List.toArray [.map (some rm)]) 104), .blk D_ (.deferred (some []))]) ?_ ?_
          ·
            refine R_region ?_
            refine R_r (D_fieldAddr fa149_0 rfl) ?_
            refine R_r (D_load rfl (Has.own 0 rfl) (Rd.one Tryz.isAgg9 rfl)) ?_
            refine R_r (D_neS rfl rfl) ?_
            refine R_r (D_move rfl) ?_
            refine R_split 82 rfl (fun h4 => ?_) (fun h4 => ?_)
            ·
              have h4p : ¬ (x34.path = ([] : Str)) := by simpa using h4
              refine R_r (D_move rfl) ?_
              refine R_r (D_move rfl) ?_
              refine R_r (D_lookKind (kindOf done) hkm Tryz.underlying152 Tryz.underlying9 Tryz.zeroValue3 rfl rfl (Has.own 1 rfl)) ?_
              refine R_r (D_ne rfl rfl) ?_
              refine R_r (D_pick true rfl rfl) ?_
              refine R_nil ?_
              exact R_at (Env.sub_cons rfl <| Env.sub_cons rfl <| Env.sub_cons rfl <| Env.sub_cons rfl <| Env.sub_cons rfl <| Env.sub_cons rfl <| Env.sub_cons rfl <| Env.sub_cons rfl <| Env.sub_cons rfl <| Env.sub_cons rfl <| Env.sub_cons rfl <| Env.sub_cons rfl <| Env.sub_cons rfl <| Env.sub_cons rfl <| Env.sub_cons rfl <| Env.sub_cons rfl <| Env.sub_cons rfl <| Env.sub_cons rfl <| Env.sub_cons rfl <| Env.sub_cons rfl <| Env.sub_cons rfl <| Env.sub_cons rfl <| Env.sub_cons rfl <| Env.sub_cons rfl <| Env.sub_cons rfl <| Env.sub_cons (by first | (show some (Value.bool _) = some (Value.bool _); simp only [h4, Bool.true_and, Bool.false_and, Bool.true_or, Bool.false_or, Bool.and_true, Bool.and_false, Bool.or_true, Bool.or_false]; done) | (show some (Value.bool _) = some (Value.bool _); (try rw [h4]); first | done | rfl) | simp [h4, Env.find]) <| Env.sub_nil _)
            ·
              have h4p : (x34.path = ([] : Str)) := by simpa using h4
              refine R_skipop rfl rfl rfl ?_
              refine R_skipop rfl rfl rfl ?_
              refine R_skipop rfl rfl rfl ?_
              refine R_skipop rfl rfl rfl ?_
              refine R_r (D_pick false rfl rfl) ?_
              refine R_nil ?_
              exact R_at (Env.sub_cons rfl <| Env.sub_cons rfl <| Env.sub_cons rfl <| Env.sub_cons rfl <| Env.sub_cons rfl <| Env.sub_cons rfl <| Env.sub_cons rfl <| Env.sub_cons rfl <| Env.sub_cons rfl <| Env.sub_cons rfl <| Env.sub_cons rfl <| Env.sub_cons rfl <| Env.sub_cons rfl <| Env.sub_cons rfl <| Env.sub_cons rfl <| Env.sub_cons rfl <| Env.sub_cons rfl <| Env.sub_cons rfl <| Env.sub_cons rfl <| Env.sub_cons rfl <| Env.sub_cons rfl <| Env.sub_cons rfl <| Env.sub_cons rfl <| Env.sub_cons rfl <| Env.sub_cons rfl <| Env.sub_cons (by first | (show some (Value.bool _) = some (Value.bool _); simp only [h4, Bool.true_and, Bool.false_and, Bool.true_or, Bool.false_or, Bool.and_true, Bool.and_false, Bool.or_true, Bool.or_false]; done) | (show some (Value.bool _) = some (Value.bool _); (try rw [h4]); first | done | rfl) | simp [h4, Env.find]) <| Env.sub_nil _)
          ·
            refine R_cond rfl (fun h4 => ?_) (fun h4 => ?_)
            ·
              have h4p := h4; simp only [Bool.and_eq_true, Bool.or_eq_true, Bool.not_eq_true', Bool.and_eq_false_imp, Bool.or_eq_false_iff, Bool.not_eq_false', decide_eq_true_eq, decide_eq_false_iff_not] at h4p
              have hchk : (!decide (x34.path = []) && !upDir done x34.path) = true := h4
              refine R_seq ?_
              refine R_region ?_
              refine R_r (D_assign rfl) ?_
              refine R_r (D_assign rfl) ?_
              refine R_nil ?_
              refine R_ret ?_
              refine R_finM [.blk b35 (.cells (List.toArray (Spot.cells x34)) 149), .blk b25 (mobj km kc), .blk b2 (.cells (List.toArray [.slice (some ⟨bo, 0, none⟩) ((spots x l).length) capo]) 144), .blk b1 (.cells (List.toArray [.map (some rm)]) 104)] rfl ?_
              refine R_drop (List.nil_sublist _) ?_
              refine R_fin2 rfl rfl rfl ?_
              exact ⟨rfl, ls, hperm, hsort, .inl ⟨by rw [hrun, runG_step hx34, if_neg hk0, if_pos hchk], rfl⟩⟩
            ·
              have h4p := h4; simp only [Bool.and_eq_true, Bool.or_eq_true, Bool.not_eq_true', Bool.and_eq_false_imp, Bool.or_eq_false_iff, Bool.not_eq_false', decide_eq_true_eq, decide_eq_false_iff_not] at h4p
              have hchk : (!decide (x34.path = []) && !upDir done x34.path) = false := h4
              refine R_skip ?_
              refine R_seq ?_
              refine R_region ?_
              refine R_r (D_move rfl) ?_
              refine R_r (D_fieldAddr fa149_0 rfl) ?_
              refine R_r (D_load rfl (Has.own 0 rfl) (Rd.one Tryz.isAgg9 rfl)) ?_
              refine R_r (D_fieldAddr fa149_1 rfl) ?_
              refine R_r (D_fieldAddr fa24_0 rfl) ?_
              refine R_r (D_load rfl (Has.own 0 rfl) (Rd.one Tryz.isAgg3 rfl)) ?_
              refine R_o (E_mapUpdate 1 Tryz.underlying152 Tryz.underlying9 rfl rfl rfl rfl ?_)
              refine R_nil ?_
              refine R_seq ?_
              refine R_region ?_
              refine R_r (D_load rfl (Has.own 3 rfl) (Rd.one Tryz.isAgg104 rfl)) ?_
              refine R_r (D_fieldAddr fa149_0 rfl) ?_
              refine R_r (D_load rfl (Has.own 0 rfl) (Rd.one Tryz.isAgg9 rfl)) ?_
              refine R_r (D_lookVal (nowOf l) hnow Tryz.underlying104 Tryz.underlying9 Tryz.zeroValue24 rfl rfl (Has.mem q32)) ?_
              refine R_r (D_move rfl) ?_
              refine R_r (D_extract rfl rfl) ?_
              refine R_r (D_extract rfl rfl) ?_
              refine R_o (E_alloc (Val.cells Val.zero) Tryz.zeroValue24 rfl (fun b36 => ?_))
              refine R_o (E_store (cs' := (Val.cells ((nowOf l x34.path).getD Val.zero))) 0 rfl rfl rfl (Wr.agg Tryz.sizeOf24 rfl rfl rfl rfl) ?_)
              refine R_r (D_assign rfl) ?_
              refine R_nil ?_
              rcases hinv with ⟨rfl, rfl⟩ | ⟨bz, z, rfl, htz, hgz, hne⟩
              ·
                refine R_region ?_
                refine R_r (D_move rfl) ?_
                refine R_r (D_move rfl) ?_
                refine R_r (D_load rfl (Has.own 1 rfl) (rd149_Spot_0 x34)) ?_
                refine R_r (D_move rfl) ?_
                have hs0 : x34.path = [] := by simpa [upDir_nil] using hchk
                refine R_o (E_callP rfl rfl en92 (fun w hM => laid0_C x b x34 ((nowOf l x34.path).isSome) Mv w hM q30 hrx (by omega) (by omega) hown) (fun vr37 Mr37 Hr37 hler37 hpr37 => ?_))
                have q38 := TreeAt.le hler37 q30
                have q39 := SlA.le q31 hler37
                have q40 := hler37 _ _ q32
                have q41 := hler37 _ _ q33
                obtain ⟨rfl, br37, rfl, htr37⟩ := hpr37
                refine R_r (D_assign rfl) ?_
                refine R_nil ?_
                refine R_region ?_
                refine R_r (D_add rfl rfl rfl (by omega) (by omega)) ?_
                refine R_r (D_move rfl) ?_
                refine R_nil ?_
                refine R_drop (H' := [.blk b25 (mobj (updL km x34.path (I x34.value.kind) kc) (updC km x34.path kc)), .blk b2 (.cells (List.toArray [.slice (some ⟨bo, 0, none⟩) ((spots x l).length) capo]) 144), .blk b1 (.cells (List.toArray [.map (some rm)]) 104), .blk D_ (.deferred (some []))]) (.cons _ (.cons _ (List.Sublist.refl _))) ?_
                exact R_back (i + 1, [] ++ [laidE x l x34], (updL km x34.path (I x34.value.kind) kc), (updC km x34.path kc), P_ br37 0, Mr37) (by show (i + 1) ≤ ls.length ∧ PMem.le M26 Mr37 ∧ (∀ p, lookL (updL km x34.path (I x34.value.kind) kc) p = (kindOf ([] ++ [laidE x l x34]) p).map (fun n => I n)) ∧ runG x l ls [] = runG x l (ls.drop (i + 1)) ([] ++ [laidE x l x34]) ∧ OutT Mr37 (P_ br37 0) ([] ++ [laidE x l x34]) ∧ ([] ++ [laidE x l x34]).length ≤ (i + 1) ∧ (∀ e : Entry, e ∈ ([] ++ [laidE x l x34]) → ∃ s : Spot, s ∈ ls.take (i + 1) ∧ s.path = e.path); exact ⟨by omega, (PMem.le_trans hleV hler37), kindOf_map_snoc (e := laidE x l x34) hkm _, by rw [hrun, runG_step hx34, if_neg hk0, if_neg (by rw [hchk]; simp)], .inr ⟨br37, _, rfl, htr37, (show Grown (leaf x34.value _) ([] ++ [laidE x l x34]) from by unfold laidE; rw [hs0]; exact Grown.first _ _), by simp⟩, by simp only [List.length_append, List.length_cons, List.length_nil] at hdl ⊢; omega, fun e he => by rcases List.mem_append.1 he with he | he; exact (by obtain ⟨q, hq, hp⟩ := hdone e he; exact ⟨q, by rw [take_snoc hx34]; exact List.mem_append_left _ hq, hp⟩); exact ⟨x34, by rw [take_snoc hx34]; simp, by simp only [List.mem_singleton] at he; rw [he]; rfl⟩⟩) (by show ls.length - (i + 1) < ls.length - i; omega) (Env.sub_cons rfl <| Env.sub_cons rfl <| Env.sub_cons rfl <| Env.sub_cons rfl <| Env.sub_cons rfl <| Env.sub_cons rfl <| Env.sub_cons rfl <| Env.sub_cons rfl <| Env.sub_cons rfl <| Env.sub_nil _) rfl rfl
              ·
                refine R_region ?_
                refine R_r (D_move rfl) ?_
                refine R_r (D_move rfl) ?_
                refine R_r (D_load rfl (Has.own 1 rfl) (rd149_Spot_0 x34)) ?_
                refine R_r (D_move rfl) ?_
                have hs0 : x34.path ≠ [] := fun e => by obtain ⟨e1, he1⟩ := List.exists_mem_of_ne_nil _ hne; have := hbelow e1 he1; rw [e] at this; exact absurd this (by have h_ := cmpL_nil_ge (pieces e1.path); exact Int.not_lt.2 h_)
                have hup : upDir done x34.path = true := by simpa [hs0] using hchk
                obtain ⟨g1, g2, g3, g4⟩ := hgz.step hsp hs0 hbelow hup x34.value (marksAt x x34.path ((nowOf l x34.path).isSome))
                have hzs := hgz.size; have hze := Node.size_eq z
                refine R_o (E_callP rfl rfl en92 (fun w hM => laid1_C x b x34 ((nowOf l x34.path).isSome) z bz Mv w hM q30 hrx (by omega) (by omega) hown htz hgz.fine.ris hsp g1 g2 g3 (by omega)) (fun vr42 Mr42 Hr42 hler42 hpr42 => ?_))
                have q43 := TreeAt.le hler42 q30
                have q44 := SlA.le q31 hler42
                have q45 := hler42 _ _ q32
                have q46 := hler42 _ _ q33
                have q47 := TreeAt.le hler42 htz
                obtain ⟨rfl, br42, rfl, htr42⟩ := hpr42
                refine R_r (D_assign rfl) ?_
                refine R_nil ?_
                refine R_region ?_
                refine R_r (D_add rfl rfl rfl (by omega) (by omega)) ?_
                refine R_r (D_move rfl) ?_
                refine R_nil ?_
                refine R_drop (H' := [.blk b25 (mobj (updL km x34.path (I x34.value.kind) kc) (updC km x34.path kc)), .blk b2 (.cells (List.toArray [.slice (some ⟨bo, 0, none⟩) ((spots x l).length) capo]) 144), .blk b1 (.cells (List.toArray [.map (some rm)]) 104), .blk D_ (.deferred (some []))]) (.cons _ (.cons _ (List.Sublist.refl _))) ?_
                exact R_back (i + 1, done ++ [laidE x l x34], (updL km x34.path (I x34.value.kind) kc), (updC km x34.path kc), P_ br42 0, Mr42) (by show (i + 1) ≤ ls.length ∧ PMem.le M26 Mr42 ∧ (∀ p, lookL (updL km x34.path (I x34.value.kind) kc) p = (kindOf (done ++ [laidE x l x34]) p).map (fun n => I n)) ∧ runG x l ls [] = runG x l (ls.drop (i + 1)) (done ++ [laidE x l x34]) ∧ OutT Mr42 (P_ br42 0) (done ++ [laidE x l x34]) ∧ (done ++ [laidE x l x34]).length ≤ (i + 1) ∧ (∀ e : Entry, e ∈ (done ++ [laidE x l x34]) → ∃ s : Spot, s ∈ ls.take (i + 1) ∧ s.path = e.path); exact ⟨by omega, (PMem.le_trans hleV hler42), kindOf_map_snoc (e := laidE x l x34) hkm _, by rw [hrun, runG_step hx34, if_neg hk0, if_neg (by rw [hchk]; simp)], .inr ⟨br42, _, rfl, htr42, g4, by simp⟩, by simp only [List.length_append, List.length_cons, List.length_nil] at hdl ⊢; omega, fun e he => by rcases List.mem_append.1 he with he | he; exact (by obtain ⟨q, hq, hp⟩ := hdone e he; exact ⟨q, by rw [take_snoc hx34]; exact List.mem_append_left _ hq, hp⟩); exact ⟨x34, by rw [take_snoc hx34]; simp, by simp only [List.mem_singleton] at he; rw [he]; rfl⟩⟩) (by show ls.length - (i + 1) < ls.length - i; omega) (Env.sub_cons rfl <| Env.sub_cons rfl <| Env.sub_cons rfl <| Env.sub_cons rfl <| Env.sub_cons rfl <| Env.sub_cons rfl <| Env.sub_cons rfl <| Env.sub_cons rfl <| Env.sub_cons rfl <| Env.sub_nil _) rfl rfl
      ·
        have h2p := of_decide_eq_false h2
        refine R_exit rfl ?_
        refine R_seq ?_
        refine R_region ?_
        refine R_r (D_move rfl) ?_
        refine R_r (D_assign rfl) ?_
        refine R_r (D_assign rfl) ?_
        refine R_nil ?_
        refine R_ret ?_
        refine R_finM [.blk b25 (mobj km kc), .blk b2 (.cells (List.toArray [.slice (some ⟨bo, 0, none⟩) ((spots x l).length) capo]) 144), .blk b1 (.cells (List.toArray [.map (some rm)]) 104)] rfl ?_
        refine R_drop (List.nil_sublist _) ?_
        refine R_fin2 rfl rfl rfl ?_
        rw [List.drop_eq_nil_of_le (by omega)] at hrun
        refine ⟨rfl, ls, hperm, hsort, .inr ⟨done, hrun, ?_⟩⟩
        rcases hinv with ⟨rfl, h0⟩ | ⟨bz, z, rfl, htz, hgz, _⟩
        · exact .inl ⟨h0, rfl⟩
        · exact .inr ⟨bz, z, rfl, htz, hgz⟩

theorem ApplyM_C (x : Node) (b : Nat) (l : List Change) (bl : Option Addr) (cl : Nat) (M : PMem) (w : World) (hM : Lies M w) (hb : TreeAt M b x) (hrx : Node.Ris x) (hpw : Node.wtL x.kids ≤ 1073741823) (hlc : l.length ≤ cl) (hxl : SlA M 71 (byEnc Change.cells) bl l) (hln : l.length ≤ 1073741824) (hpl : ∀ e ∈ l, e.path.length ≤ 1073741824) (hlp : ∀ s ∈ spots x l, s.path.length ≤ 1073741824) (hndS : risesL l false [] = true → l.all (fun c => decide (valAt x c.path = c.old)) = true → ((spots x l).map Spot.path).Nodup) (hokS0 : risesL l false [] = true → l.all (fun c : Change => c.new.okN && !(decide (c.path = []) && decide (c.new.kind = 0))) = true → ∀ s ∈ spots x l, ¬ s.value.kind = 0 → (splitP s.path 64).2 = 0 ∧ ownE s.value (marksAt x s.path (nowOf l s.path).isSome) 0 = 0) : Ends Tryz.prog 12 [P_ b 0, .slice bl l.length cl] w [] M (fun v M' H' => H' = [] ∧ ((risesL l false [] = false ∧ v = .tuple #[.pointer none, I 130]) ∨ (risesL l false [] = true ∧ l.all (fun c => decide (valAt x c.path = c.old)) = false ∧ v = .tuple #[.pointer none, I 131]) ∨ (risesL l false [] = true ∧ l.all (fun c => decide (valAt x c.path = c.old)) = true ∧ l.all (fun c : Change => c.new.okN && !(decide (c.path = []) && decide (c.new.kind = 0))) = false ∧ v = .tuple #[.pointer none, I 132]) ∨ (risesL l false [] = true ∧ l.all (fun c => decide (valAt x c.path = c.old)) = true ∧ l.all (fun c : Change => c.new.okN && !(decide (c.path = []) && decide (c.new.kind = 0))) = true ∧ ∃ ls : List Spot, ls.Perm (spots x l) ∧ SortedS ls ∧ ((runG x l ls [] = none ∧ v = .tuple #[.pointer none, I 132]) ∨ ∃ done, runG x l ls [] = some done ∧ ((done = [] ∧ v = .tuple #[.pointer none, I 0]) ∨ ∃ b z, v = .tuple #[P_ b 0, I 0] ∧ TreeAt M' b z ∧ Grown z done))))) := by
  have hxs := Node.size_eq x
  have hwz := Node.sizeL_wt x.kids
  refine Ends.enter (H := []) Tryz.func12 rfl Tryz.ntmps12 rfl (St.start hM) ?_
  refine R_seq ?_
  refine R_region ?_
  refine R_r (D_assign rfl) ?_
  refine R_r (D_assign rfl) ?_
  refine R_nil ?_
  refine R_seq ?_
  refine R_seq ?_
  refine R_region ?_
  refine R_r (D_move rfl) ?_
  refine R_o (E_callV (v := I (if risesL l false [] then 0 else 130 : Int)) rfl rfl en42 (fun w hM => ordered_C l bl cl M w hM hlc hxl hln hpl) ?_)
  refine R_r (D_assign rfl) ?_
  refine R_nil ?_
  refine R_seq ?_
  refine R_region ?_
  refine R_r (D_move rfl) ?_
  refine R_r (D_ne rfl rfl) ?_
  refine R_nil ?_
  refine R_cond rfl (fun h1 => ?_) (fun h1 => ?_)
  ·
    have h1p : ¬ ((if risesL l false [] then 0 else 130 : Int) = 0) := by simpa using h1
    have hr0 : risesL l false [] = false := by cases hq : risesL l false [] with | false => rfl | true => (rw [hq] at h1p; exact absurd rfl h1p)
    refine R_seq ?_
    refine R_region ?_
    refine R_r (D_move rfl) ?_
    refine R_r (D_assign rfl) ?_
    refine R_r (D_assign rfl) ?_
    refine R_nil ?_
    refine R_ret ?_
    refine R_fin2 rfl rfl rfl ?_
    exact ⟨rfl, .inl ⟨hr0, by rw [hr0]; rfl⟩⟩
  ·
    have h1p : ((if risesL l false [] then 0 else 130 : Int) = 0) := by simpa using h1
    have hr0 : risesL l false [] = true := by cases hq : risesL l false [] with | true => rfl | false => (rw [hq] at h1p; exact absurd h1p (by decide))
    refine R_skip ?_
    refine R_seq ?_
    refine R_region ?_
    refine R_o (E_makeMap (fun rm => ?_))
    refine R_r (D_assign rfl) ?_
    refine R_nil ?_
    refine R_seq ?_
    refine R_seq ?_
    refine R_region ?_
    refine R_r (D_move rfl) ?_
    refine R_r (D_lenL Tryz.underlying31 rfl) ?_
    refine R_r (D_move rfl) ?_
    refine R_nil ?_
    refine R_block ?_
    refine R_loop (σ := (Nat) × (MapL) × (Nat)) (fun gs => ([(0, P_ b 0), (1, .slice bl l.length cl), (7, .map (some rm)), (20, .slice bl l.length cl), (21, I (l.length : Int)), (22, I (gs.1 : Int))], M, [.blk rm (mobj gs.2.1 gs.2.2)])) (fun gs => gs.1 ≤ l.length ∧ (∀ p, lookL gs.2.1 p = (nowOf (l.take gs.1) p).map Val.val) ∧ (l.take gs.1).all (fun c => decide (valAt x c.path = c.old)) = true) (fun gs => l.length - gs.1) (0, [], 0) ?_ (Env.sub_cons rfl <| Env.sub_cons rfl <| Env.sub_cons rfl <| Env.sub_cons rfl <| Env.sub_cons rfl <| Env.sub_cons rfl <| Env.sub_nil _) rfl rfl ?_
    · show 0 ≤ l.length ∧ (∀ p, lookL ([]) p = (nowOf (l.take 0) p).map Val.val) ∧ (l.take 0).all (fun c => decide (valAt x c.path = c.old)) = true; exact ⟨by omega, fun p => rfl, rfl⟩
    rintro ⟨i, ml, mc⟩ hok
    replace hok : i ≤ l.length ∧ (∀ p, lookL ml p = (nowOf (l.take i) p).map Val.val) ∧ (l.take i).all (fun c => decide (valAt x c.path = c.old)) = true := hok
    show Cx.R _ _ _ [(0, P_ b 0), (1, .slice bl l.length cl), (7, .map (some rm)), (20, .slice bl l.length cl), (21, I (l.length : Int)), (22, I (i : Int))] M [.blk rm (mobj ml mc)]
    obtain ⟨hi, hnow, hall⟩ := hok
    refine R_seq ?_
    refine R_region ?_
    refine R_r (D_lt rfl rfl) ?_
    refine R_nil ?_
    refine R_seq ?_
    refine R_cond rfl (fun h2 => ?_) (fun h2 => ?_)
    ·
      have h2p := of_decide_eq_true h2
      refine R_skip ?_
      refine R_seq ?_
      refine R_block ?_
      refine R_seq ?_
      refine R_region ?_
      obtain ⟨b1, ob1, csb1, elb1, frb1, rfl, hmb1, hxb1⟩ := hxl.at (i := i) (by first | omega | (simp; omega))
      obtain ⟨x2, hx2⟩ : ∃ e_, l[i]? = some e_ := ⟨_, List.getElem?_eq_getElem (by omega)⟩
      have hex2 := hxb1 i x2 hx2
      refine R_r (D_indexLn (i) Tryz.underlying31 Tryz.sizeOf66 rfl rfl (by first | rfl | omega) (by first | omega | (simp <;> omega))) ?_
      refine R_r (D_load rfl (Has.mem hmb1) (Rd.elemA (i := i) hex2 Tryz.underlying66 rfl inf66 rfl)) ?_
      refine R_o (E_alloc (Change.cells Change.zero) Tryz.zeroValue66 rfl (fun b3 => ?_))
      refine R_o (E_store (cs' := (Change.cells x2)) 0 rfl rfl rfl (Wr.agg Tryz.sizeOf66 rfl rfl rfl rfl) ?_)
      refine R_nil ?_
      refine R_seq ?_
      refine R_seq ?_
      refine R_region ?_
      refine R_r (D_move rfl) ?_
      refine R_r (D_fieldAddr fa66_0 rfl) ?_
      refine R_r (D_load rfl (Has.own 0 rfl) (Rd.one Tryz.isAgg9 rfl)) ?_
      refine R_o (E_callV (v := .tuple #[Val.val (valAt x x2.path), .bool ((subAt x x2.path).isSome)]) rfl rfl en26 (fun w hM => At_C x b x2.path M w hM hb hrx (by omega) (Nat.le_trans (hpl _ (List.mem_of_getElem? hx2)) (by omega))) ?_)
      refine R_r (D_move rfl) ?_
      refine R_r (D_extract rfl rfl) ?_
      refine R_r (D_extract rfl rfl) ?_
      refine R_o (E_alloc (Val.cells Val.zero) Tryz.zeroValue24 rfl (fun b4 => ?_))
      refine R_o (E_store (cs' := (Val.cells (valAt x x2.path))) 0 rfl rfl rfl (Wr.agg Tryz.sizeOf24 rfl rfl rfl rfl) ?_)
      refine R_r (D_assign rfl) ?_
      refine R_nil ?_
      refine R_seq ?_
      refine R_region ?_
      refine R_r (D_load rfl (Has.own 0 rfl) (rd24_Val_0 (valAt x x2.path))) ?_
      refine R_r (D_fieldAddr fa66_1 rfl) ?_
      refine R_r (D_load rfl (Has.own 1 rfl) (rd24_Change_1 x2)) ?_
      refine R_r (D_neA eg24 rfl rfl (eqa24 _ _)) ?_
      refine R_nil ?_
      refine R_cond rfl (fun h3 => ?_) (fun h3 => ?_)
      ·
        have h3p : ¬ ((valAt x x2.path) = x2.old) := by simpa using h3
        refine R_seq ?_
        refine R_region ?_
        refine R_r (D_assign rfl) ?_
        refine R_r (D_assign rfl) ?_
        refine R_nil ?_
        refine R_ret ?_
        refine R_drop (List.nil_sublist _) ?_
        refine R_fin2 rfl rfl rfl ?_
        exact ⟨rfl, .inr (.inl ⟨hr0, all_bad (List.mem_of_getElem? hx2) (by simpa using h3), rfl⟩)⟩
      ·
        have h3p : ((valAt x x2.path) = x2.old) := by simpa using h3
        refine R_skip ?_
        refine R_region ?_
        refine R_r (D_move rfl) ?_
        refine R_r (D_fieldAddr fa66_0 rfl) ?_
        refine R_r (D_load rfl (Has.own 1 rfl) (Rd.one Tryz.isAgg9 rfl)) ?_
        refine R_r (D_fieldAddr fa66_2 rfl) ?_
        refine R_r (D_load rfl (Has.own 1 rfl) (rd24_Change_36 x2)) ?_
        refine R_o (E_mapUpdate 2 Tryz.underlying104 Tryz.underlying9 rfl rfl rfl rfl ?_)
        refine R_nil ?_
        refine R_region ?_
        refine R_r (D_add rfl rfl rfl (by omega) (by omega)) ?_
        refine R_r (D_move rfl) ?_
        refine R_nil ?_
        refine R_drop (H' := [.blk rm (mobj (updL ml x2.path (Val.val x2.new) mc) (updC ml x2.path mc))]) (.cons _ (.cons _ (List.Sublist.refl _))) ?_
        exact R_back (i + 1, (updL ml x2.path (Val.val x2.new) mc), (updC ml x2.path mc)) (by show (i + 1) ≤ l.length ∧ (∀ p, lookL (updL ml x2.path (Val.val x2.new) mc) p = (nowOf (l.take (i + 1)) p).map Val.val) ∧ (l.take (i + 1)).all (fun c => decide (valAt x c.path = c.old)) = true; exact ⟨by omega, by rw [take_snoc hx2]; exact nowOf_map_snoc hnow _, by rw [all_take hx2, hall, Bool.true_and]; simpa using h3⟩) (by show l.length - (i + 1) < l.length - i; omega) (Env.sub_cons rfl <| Env.sub_cons rfl <| Env.sub_cons rfl <| Env.sub_cons rfl <| Env.sub_cons rfl <| Env.sub_cons rfl <| Env.sub_nil _) rfl rfl
    ·
      have h2p := of_decide_eq_false h2
      refine R_exit rfl ?_
      refine R_seq ?_
      refine R_seq ?_
      have htl : l.take i = l := List.take_of_length_le (by omega)
      rw [htl] at hnow hall
      refine R_freeze (fun hleF hmF => ?_)
      have q5 := TreeAt.le hleF hb
      have q6 := SlA.le hxl hleF
      refine R_region ?_
      refine R_r (D_move rfl) ?_
      refine R_r (D_lenL Tryz.underlying31 rfl) ?_
      refine R_r (D_move rfl) ?_
      refine R_nil ?_
      refine R_block ?_
      refine R_loop (σ := (Nat)) (fun gs => ([(0, P_ b 0), (1, .slice bl l.length cl), (7, .map (some rm)), (43, .slice bl l.length cl), (44, I (l.length : Int)), (45, I (gs : Int))], (PMem.add M rm (mobj ml mc)), [])) (fun gs => gs ≤ l.length ∧ (l.take gs).all (fun c : Change => c.new.okN && !(decide (c.path = []) && decide (c.new.kind = 0))) = true) (fun gs => l.length - gs) 0 ?_ (Env.sub_cons rfl <| Env.sub_cons rfl <| Env.sub_cons rfl <| Env.sub_cons rfl <| Env.sub_cons rfl <| Env.sub_cons rfl <| Env.sub_nil _) rfl rfl ?_
      · show 0 ≤ l.length ∧ (l.take 0).all (fun c : Change => c.new.okN && !(decide (c.path = []) && decide (c.new.kind = 0))) = true; exact ⟨by omega, rfl⟩
      rintro j hok
      replace hok : j ≤ l.length ∧ (l.take j).all (fun c : Change => c.new.okN && !(decide (c.path = []) && decide (c.new.kind = 0))) = true := hok
      show Cx.R _ _ _ [(0, P_ b 0), (1, .slice bl l.length cl), (7, .map (some rm)), (43, .slice bl l.length cl), (44, I (l.length : Int)), (45, I (j : Int))] (PMem.add M rm (mobj ml mc)) []
      obtain ⟨hj, hsh⟩ := hok
      refine R_seq ?_
      refine R_region ?_
      refine R_r (D_lt rfl rfl) ?_
      refine R_nil ?_
      refine R_seq ?_
      refine R_cond rfl (fun h3 => ?_) (fun h3 => ?_)
      ·
        have h3p := of_decide_eq_true h3
        refine R_skip ?_
        refine R_seq ?_
        refine R_block ?_
        refine R_seq ?_
        refine R_region ?_
        obtain ⟨b7, ob7, csb7, elb7, frb7, rfl, hmb7, hxb7⟩ := q6.at (i := j) (by first | omega | (simp; omega))
        obtain ⟨x8, hx8⟩ : ∃ e_, l[j]? = some e_ := ⟨_, List.getElem?_eq_getElem (by omega)⟩
        have hex8 := hxb7 j x8 hx8
        refine R_r (D_indexLn (j) Tryz.underlying31 Tryz.sizeOf66 rfl rfl (by first | rfl | omega) (by first | omega | (simp <;> omega))) ?_
        refine R_r (D_load rfl (Has.mem hmb7) (Rd.elemA (i := j) hex8 Tryz.underlying66 rfl inf66 rfl)) ?_
        refine R_o (E_alloc (Change.cells Change.zero) Tryz.zeroValue66 rfl (fun b9 => ?_))
        refine R_o (E_store (cs' := (Change.cells x8)) 0 rfl rfl rfl (Wr.agg Tryz.sizeOf66 rfl rfl rfl rfl) ?_)
        refine R_nil ?_
        refine R_seq ?_
        refine R_join [(0, P_ b 0), (1, .slice (some ⟨b7, ob7, none⟩) l.length cl), (7, .map (some rm)), (13, P_ b9 0), (43, .slice (some ⟨b7, ob7, none⟩) l.length cl), (44, I (l.length : Int)), (45, I (j : Int)), (46, .bool (decide ((j : Int) < (l.length : Int)))), (47, P_ b7 (ob7 + j * 71)), (48, Change.val x8), (63, .bool ((!x8.new.okN) || ((decide (x8.path = ([] : Str))) && (decide (x8.new.kind = 0)))))] (M' := (PMem.add M rm (mobj ml mc))) (H' := [.blk b9 (.cells (List.toArray (Change.cells x8)) 66)]) ?_ ?_
        ·
          refine R_region ?_
          refine R_r (D_fieldAddr fa66_2 rfl) ?_
          refine R_r (D_load rfl (Has.own 0 rfl) (rd24_Change_36 x8)) ?_
          refine R_o (E_callV (v := .bool x8.new.okN) rfl rfl en43 (fun w hM => right_C x8.new (PMem.add M rm (mobj ml mc)) w hM ) ?_)
          refine R_r (D_not rfl) ?_
          refine R_r (D_move rfl) ?_
          refine R_split 53 rfl (fun h4 => ?_) (fun h4 => ?_)
          ·
            refine R_skipop rfl rfl rfl ?_
            refine R_skipop rfl rfl rfl ?_
            refine R_skipop rfl rfl rfl ?_
            refine R_skipop rfl rfl rfl ?_
            refine R_skipop rfl rfl rfl ?_
            refine R_skipop rfl rfl rfl ?_
            refine R_skipop rfl rfl rfl ?_
            refine R_skipop rfl rfl rfl ?_
            refine R_skipop rfl rfl rfl ?_
            refine R_r (D_pick true rfl rfl) ?_
            refine R_nil ?_
            exact R_at (Env.sub_cons rfl <| Env.sub_cons rfl <| Env.sub_cons rfl <| Env.sub_cons rfl <| Env.sub_cons rfl <| Env.sub_cons rfl <| Env.sub_cons rfl <| Env.sub_cons rfl <| Env.sub_cons rfl <| Env.sub_cons rfl <| Env.sub_cons (by first | (show some (Value.bool _) = some (Value.bool _); simp only [h4, Bool.true_and, Bool.false_and, Bool.true_or, Bool.false_or, Bool.and_true, Bool.and_false, Bool.or_true, Bool.or_false]; done) | (show some (Value.bool _) = some (Value.bool _); (try rw [h4]); first | done | rfl) | simp [h4, Env.find]) <| Env.sub_nil _)
          ·
            refine R_r (D_fieldAddr fa66_0 rfl) ?_
            refine R_r (D_load rfl (Has.own 0 rfl) (Rd.one Tryz.isAgg9 rfl)) ?_
            refine R_r (D_eqS rfl rfl) ?_
            refine R_r (D_move rfl) ?_
            refine R_split 57 rfl (fun h5 => ?_) (fun h5 => ?_)
            ·
              have h5p := of_decide_eq_true h5
              refine R_r (D_fieldAddr fa66_2 rfl) ?_
              refine R_r (D_fieldAddr fa24_0 rfl) ?_
              refine R_r (D_load rfl (Has.own 0 rfl) (Rd.one Tryz.isAgg3 rfl)) ?_
              refine R_r (D_eq rfl rfl) ?_
              refine R_r (D_pick true rfl rfl) ?_
              refine R_r (D_pick false rfl rfl) ?_
              refine R_nil ?_
              exact R_at (Env.sub_cons rfl <| Env.sub_cons rfl <| Env.sub_cons rfl <| Env.sub_cons rfl <| Env.sub_cons rfl <| Env.sub_cons rfl <| Env.sub_cons rfl <| Env.sub_cons rfl <| Env.sub_cons rfl <| Env.sub_cons rfl <| Env.sub_cons (by first | (show some (Value.bool _) = some (Value.bool _); simp only [h4, h5, Bool.true_and, Bool.false_and, Bool.true_or, Bool.false_or, Bool.and_true, Bool.and_false, Bool.or_true, Bool.or_false]; done) | (show some (Value.bool _) = some (Value.bool _); (try rw [h4]); (try rw [h5]); first | done | rfl) | simp [h4, h5, Env.find]) <| Env.sub_nil _)
            ·
              have h5p := of_decide_eq_false h5
              refine R_skipop rfl rfl rfl ?_
              refine R_skipop rfl rfl rfl ?_
              refine R_skipop rfl rfl rfl ?_
              refine R_skipop rfl rfl rfl ?_
              refine R_r (D_pick false rfl rfl) ?_
              refine R_r (D_pick false rfl rfl) ?_
              refine R_nil ?_
              exact R_at (Env.sub_cons rfl <| Env.sub_cons rfl <| Env.sub_cons rfl <| Env.sub_cons rfl <| Env.sub_cons rfl <| Env.sub_cons rfl <| Env.sub_cons rfl <| Env.sub_cons rfl <| Env.sub_cons rfl <| Env.sub_cons rfl <| Env.sub_cons (by first | (show some (Value.bool _) = some (Value.bool _); simp only [h4, h5, Bool.true_and, Bool.false_and, Bool.true_or, Bool.false_or, Bool.and_true, Bool.and_false, Bool.or_true, Bool.or_false]; done) | (show some (Value.bool _) = some (Value.bool _); (try rw [h4]); (try rw [h5]); first | done | rfl) | simp [h4, h5, Env.find]) <| Env.sub_nil _)
        ·
          refine R_cond rfl (fun h4 => ?_) (fun h4 => ?_)
          ·
            have h4p := h4; simp only [Bool.and_eq_true, Bool.or_eq_true, Bool.not_eq_true', Bool.and_eq_false_imp, Bool.or_eq_false_iff, Bool.not_eq_false', decide_eq_true_eq, decide_eq_false_iff_not] at h4p
            refine R_seq ?_
            refine R_region ?_
            refine R_r (D_assign rfl) ?_
            refine R_r (D_assign rfl) ?_
            refine R_nil ?_
            refine R_ret ?_
            refine R_drop (List.nil_sublist _) ?_
            refine R_fin2 rfl rfl rfl ?_
            exact ⟨rfl, .inr (.inr (.inl ⟨hr0, hall, all_bad (List.mem_of_getElem? hx8) (by have h_ := h4; revert h_; generalize x8.new.okN = q1; generalize decide (x8.path = []) = q2; generalize decide (x8.new.kind = 0) = q3; cases q1 <;> cases q2 <;> cases q3 <;> simp), rfl⟩))⟩
          ·
            have h4p := h4; simp only [Bool.and_eq_true, Bool.or_eq_true, Bool.not_eq_true', Bool.and_eq_false_imp, Bool.or_eq_false_iff, Bool.not_eq_false', decide_eq_true_eq, decide_eq_false_iff_not] at h4p
            refine R_skip ?_
            refine R_region ?_
            refine R_r (D_add rfl rfl rfl (by omega) (by omega)) ?_
            refine R_r (D_move rfl) ?_
            refine R_nil ?_
            refine R_drop (H' := []) (.cons _ (List.Sublist.refl _)) ?_
            exact R_back (j + 1) (by show (j + 1) ≤ l.length ∧ (l.take (j + 1)).all (fun c : Change => c.new.okN && !(decide (c.path = []) && decide (c.new.kind = 0))) = true; exact ⟨by omega, by rw [all_take hx8, hsh, Bool.true_and]; have h_ := h4; revert h_; generalize x8.new.okN = q1; generalize decide (x8.path = []) = q2; generalize decide (x8.new.kind = 0) = q3; cases q1 <;> cases q2 <;> cases q3 <;> simp⟩) (by show l.length - (j + 1) < l.length - j; omega) (Env.sub_cons rfl <| Env.sub_cons rfl <| Env.sub_cons rfl <| Env.sub_cons rfl <| Env.sub_cons rfl <| Env.sub_cons rfl <| Env.sub_nil _) rfl rfl
      ·
        have h3p := of_decide_eq_false h3
        refine R_exit rfl ?_
        refine R_seq ?_
        have htl2 : l.take j = l := List.take_of_length_le (by omega)
        rw [htl2] at hsh
        have hokS := hokS0 hr0
        have hnd := hndS hr0 hall
        refine R_region ?_
        refine R_r (D_move rfl) ?_
        refine R_r (D_move rfl) ?_
        refine R_r (D_move rfl) ?_
        refine R_o (E_callP rfl rfl en44 (fun w hM => growM_C x b l bl cl rm ml mc (PMem.add M rm (mobj ml mc)) w hM q5 hrx hpw hlc q6 hln hmF hnow hlp hnd (hokS hsh)) (fun vr10 Mr10 Hr10 hler10 hpr10 => ?_))
        have q11 := TreeAt.le hler10 q5
        have q12 := SlA.le q6 hler10
        have q13 := hler10 _ _ hmF
        obtain ⟨rfl, ls, hperm, hsort, hout⟩ := hpr10
        rcases hout with ⟨hrun, rfl⟩ | ⟨done, hrun, ⟨hd0, rfl⟩ | ⟨bz, z, rfl, htz, hgz⟩⟩
        ·
          refine R_r (D_extract rfl rfl) ?_
          refine R_r (D_extract rfl rfl) ?_
          refine R_r (D_assign rfl) ?_
          refine R_r (D_assign rfl) ?_
          refine R_nil ?_
          refine R_ret ?_
          refine R_fin2 rfl rfl rfl ?_
          exact ⟨rfl, .inr (.inr (.inr ⟨hr0, hall, hsh, ls, hperm, hsort, .inl ⟨hrun, rfl⟩⟩))⟩
        ·
          refine R_r (D_extract rfl rfl) ?_
          refine R_r (D_extract rfl rfl) ?_
          refine R_r (D_assign rfl) ?_
          refine R_r (D_assign rfl) ?_
          refine R_nil ?_
          refine R_ret ?_
          refine R_fin2 rfl rfl rfl ?_
          exact ⟨rfl, .inr (.inr (.inr ⟨hr0, hall, hsh, ls, hperm, hsort, .inr ⟨done, hrun, .inl ⟨hd0, rfl⟩⟩⟩))⟩
        ·
          refine R_r (D_extract rfl rfl) ?_
          refine R_r (D_extract rfl rfl) ?_
          refine R_r (D_assign rfl) ?_
          refine R_r (D_assign rfl) ?_
          refine R_nil ?_
          refine R_ret ?_
          refine R_fin2 rfl rfl rfl ?_
          exact ⟨rfl, .inr (.inr (.inr ⟨hr0, hall, hsh, ls, hperm, hsort, .inr ⟨done, hrun, .inr ⟨bz, z, rfl, htz, hgz⟩⟩⟩))⟩

end Go.Proofs.YtgmomhdammdjgaaGreat
