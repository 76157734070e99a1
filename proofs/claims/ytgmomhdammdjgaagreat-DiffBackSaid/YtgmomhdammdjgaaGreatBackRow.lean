/-
  The row of DiffBack, proved: for every input the law returns true; the input reads as it did.
-/
import Derived.Test.YtgmomhdammdjgaaGreatKnown
set_option linter.unusedVariables false
set_option linter.unusedSimpArgs false
set_option maxRecDepth 20000
set_option maxHeartbeats 4000000
namespace Go.Proofs.YtgmomhdammdjgaaGreat
open Go Go.Proofs Go.RowKit

theorem en19 : ∀ (args : Array Value) (w : World), (callFunc 19 args).run Tryz.prog w = .ok (.enter 19 args) w := enters_fn Tryz.func19 (by kernel_rfl) rfl
theorem len_nil (l : List Change) : (!(decide ((l.length : Int) = 0) == decide (l = []))) = false := by
  cases l with
  | nil => rfl
  | cons c r =>
    rw [decide_eq_false (by simp only [List.length_cons]; omega), decide_eq_false (by simp)]; rfl

theorem DiffBack_C (x : Node) (a : Option Addr) (c : Nat) (y : Node) (b : Option Addr) (d : Nat) (M : PMem) (w : World) (hM : Lies M w) (hcx : x.kids.length ≤ c) (hkx : NdA M a x.kids) (hsx : x.Small) (hcy : y.kids.length ≤ d) (hky : NdA M b y.kids) (hsy : y.Small) : Ends Tryz.prog 4 [NodeC.val (⟨x.name, x.value, x.marks, .slice a x.kids.length c⟩ : NodeC), NodeC.val (⟨y.name, y.value, y.marks, .slice b y.kids.length d⟩ : NodeC)] w [] M (fun v' M' H' => v' = .bool true ∧ H' = []) := by
  refine Ends.enter (H := []) Tryz.func4 rfl Tryz.ntmps4 rfl (St.start hM) ?_
  refine R_seq ?_
  refine R_region ?_
  refine R_o (E_box (NodeC.cells (⟨x.name, x.value, x.marks, .slice a x.kids.length c⟩ : NodeC)) rfl rfl (fun b1 => ?_))
  refine R_o (E_box (NodeC.cells (⟨y.name, y.value, y.marks, .slice b y.kids.length d⟩ : NodeC)) rfl rfl (fun b2 => ?_))
  refine R_r (D_assign rfl) ?_
  refine R_nil ?_
  refine R_seq ?_
  refine R_seq ?_
  refine R_region ?_
  refine R_o (E_callP rfl rfl en19 (fun w hM => known_C M w hM) (fun vr3 Mr3 Hr3 hler3 hpr3 => ?_))
  have q4 := NdA.le hkx hler3
  have q5 := NdA.le hky hler3
  obtain ⟨rfl, rfl⟩ := hpr3
  refine R_r (D_not rfl) ?_
  refine R_nil ?_
  refine R_cond_f rfl ?_
  refine R_skip ?_
  refine R_seq ?_
  refine R_seq ?_
  refine R_join [(0, NodeC.val (⟨x.name, x.value, x.marks, .slice a x.kids.length c⟩ : NodeC)), (1, NodeC.val (⟨y.name, y.value, y.marks, .slice b y.kids.length d⟩ : NodeC)), (2, P_ b1 0), (3, P_ b2 0), (4, .bool false), (17, .bool true), (18, .bool false), (26, .bool ((!(fitsB x)) || (!(fitsB y))))] (M' := Mr3) (H' := [.blk b2 (.cells (List.toArray (NodeC.cells (⟨y.name, y.value, y.marks, .slice b y.kids.length d⟩ : NodeC))) 30), .blk b1 (.cells (List.toArray (NodeC.cells (⟨x.name, x.value, x.marks, .slice a x.kids.length c⟩ : NodeC))) 30)]) ?_ ?_
  ·
    refine R_region ?_
    refine R_r (D_load rfl (Has.own 1 rfl) (rd30_NodeC_0 (⟨x.name, x.value, x.marks, .slice a x.kids.length c⟩ : NodeC))) ?_
    refine R_o (E_callV (v := .bool (fitsB x)) rfl rfl en7 (fun w hM => fits_C x a c Mr3 w hM hcx q4 hsx) ?_)
    refine R_r (D_not rfl) ?_
    refine R_r (D_move rfl) ?_
    refine R_split 22 rfl (fun h1 => ?_) (fun h1 => ?_)
    ·
      refine R_skipop rfl rfl rfl ?_
      refine R_skipop rfl rfl rfl ?_
      refine R_skipop rfl rfl rfl ?_
      refine R_r (D_pick true rfl rfl) ?_
      refine R_nil ?_
      exact R_at (Env.sub_cons rfl <| Env.sub_cons rfl <| Env.sub_cons rfl <| Env.sub_cons rfl <| Env.sub_cons rfl <| Env.sub_cons rfl <| Env.sub_cons rfl <| Env.sub_cons (by first | (show some (Value.bool _) = some (Value.bool _); simp only [h1, Bool.true_and, Bool.false_and, Bool.true_or, Bool.false_or, Bool.and_true, Bool.and_false, Bool.or_true, Bool.or_false]; done) | (show some (Value.bool _) = some (Value.bool _); (try rw [h1]); first | done | rfl) | simp [h1, Env.find]) <| Env.sub_nil _)
    ·
      refine R_r (D_load rfl (Has.own 0 rfl) (rd30_NodeC_0 (⟨y.name, y.value, y.marks, .slice b y.kids.length d⟩ : NodeC))) ?_
      refine R_o (E_callV (v := .bool (fitsB y)) rfl rfl en7 (fun w hM => fits_C y b d Mr3 w hM hcy q5 hsy) ?_)
      refine R_r (D_not rfl) ?_
      refine R_r (D_pick false rfl rfl) ?_
      refine R_nil ?_
      exact R_at (Env.sub_cons rfl <| Env.sub_cons rfl <| Env.sub_cons rfl <| Env.sub_cons rfl <| Env.sub_cons rfl <| Env.sub_cons rfl <| Env.sub_cons rfl <| Env.sub_cons (by first | (show some (Value.bool _) = some (Value.bool _); simp only [h1, Bool.true_and, Bool.false_and, Bool.true_or, Bool.false_or, Bool.and_true, Bool.and_false, Bool.or_true, Bool.or_false]; done) | (show some (Value.bool _) = some (Value.bool _); (try rw [h1]); first | done | rfl) | simp [h1, Env.find]) <| Env.sub_nil _)
  ·
    refine R_cond rfl (fun h1 => ?_) (fun h1 => ?_)
    ·
      have h1p := h1; simp only [Bool.and_eq_true, Bool.or_eq_true, Bool.not_eq_true', Bool.and_eq_false_imp, Bool.or_eq_false_iff, Bool.not_eq_false', decide_eq_true_eq, decide_eq_false_iff_not] at h1p
      refine R_seq ?_
      refine R_region ?_
      refine R_r (D_assign rfl) ?_
      refine R_nil ?_
      refine R_ret ?_
      refine R_drop (List.nil_sublist _) ?_
      refine R_fin1 rfl rfl ?_
      exact ⟨rfl, rfl⟩
    ·
      have h1p := h1; simp only [Bool.and_eq_true, Bool.or_eq_true, Bool.not_eq_true', Bool.and_eq_false_imp, Bool.or_eq_false_iff, Bool.not_eq_false', decide_eq_true_eq, decide_eq_false_iff_not] at h1p
      obtain ⟨hfx, hfy⟩ : fitsB x = true ∧ fitsB y = true := by cases hq : fitsB x <;> cases hq2 : fitsB y <;> simp_all
      obtain ⟨hcnx, hckx⟩ : 0 ≤ cntN 6000 x ∧ (Node.check x).2 = 0 := by simpa [fitsB] using hfx
      have hwx := fits_wt hcnx
      have hvx := valid_of hckx
      have hzx := Node.size_eq x
      have hux := Node.sizeL_wt x.kids
      obtain ⟨hcny, hcky⟩ : 0 ≤ cntN 6000 y ∧ (Node.check y).2 = 0 := by simpa [fitsB] using hfy
      have hwy := fits_wt hcny
      have hvy := valid_of hcky
      have hzy := Node.size_eq y
      have huy := Node.sizeL_wt y.kids
      refine R_skip ?_
      refine R_seq ?_
      refine R_region ?_
      refine R_r (D_load rfl (Has.own 1 rfl) (rd30_NodeC_0 (⟨x.name, x.value, x.marks, .slice a x.kids.length c⟩ : NodeC))) ?_
      refine R_o (E_callP rfl rfl en9 (fun w hM => grown_C x a c Mr3 w hM hcx q4 (by omega) hckx) (fun vr6 Mr6 Hr6 hler6 hpr6 => ?_))
      have q7 := NdA.le q4 hler6
      have q8 := NdA.le q5 hler6
      obtain ⟨rfl, btx, rfl, httx⟩ := hpr6
      refine R_r (D_move rfl) ?_
      refine R_r (D_extract rfl rfl) ?_
      refine R_r (D_extract rfl rfl) ?_
      refine R_r (D_assign rfl) ?_
      refine R_r (D_assign rfl) ?_
      refine R_nil ?_
      refine R_seq ?_
      refine R_region ?_
      refine R_r (D_load rfl (Has.own 0 rfl) (rd30_NodeC_0 (⟨y.name, y.value, y.marks, .slice b y.kids.length d⟩ : NodeC))) ?_
      refine R_o (E_callP rfl rfl en9 (fun w hM => grown_C y b d Mr6 w hM hcy q8 (by omega) hcky) (fun vr9 Mr9 Hr9 hler9 hpr9 => ?_))
      have q10 := NdA.le q7 hler9
      have q11 := NdA.le q8 hler9
      have q12 := TreeAt.le hler9 httx
      obtain ⟨rfl, bty, rfl, htty⟩ := hpr9
      refine R_r (D_move rfl) ?_
      refine R_r (D_extract rfl rfl) ?_
      refine R_r (D_extract rfl rfl) ?_
      refine R_r (D_assign rfl) ?_
      refine R_r (D_assign rfl) ?_
      refine R_nil ?_
      refine R_seq ?_
      refine R_seq ?_
      refine R_region ?_
      refine R_r (D_move rfl) ?_
      refine R_r (D_not rfl) ?_
      refine R_r (D_move rfl) ?_
      refine R_r (D_move rfl) ?_
      refine R_r (D_not rfl) ?_
      refine R_r (D_pick false rfl rfl) ?_
      refine R_nil ?_
      refine R_cond_f rfl ?_
      refine R_skip ?_
      refine R_seq ?_
      refine R_region ?_
      refine R_r (D_move rfl) ?_
      refine R_r (D_move rfl) ?_
      refine R_o (E_callP rfl rfl en21 (fun w hM => OfD_C btx bty Mr9 w hM) (fun vr13 Mr13 Hr13 hler13 hpr13 => ?_))
      have q14 := NdA.le q10 hler13
      have q15 := NdA.le q11 hler13
      have q16 := TreeAt.le hler13 q12
      have q17 := TreeAt.le hler13 htty
      obtain ⟨rfl, btr13, bur13, elr13, eur13, ftr13, fur13, rfl, hmtr13, hmur13⟩ := hpr13
      have hszr18 : (x).size = 1 + Node.sizeL (x).kids ∧ (y).size = 1 + Node.sizeL (y).kids := ⟨Node.size_eq _, Node.size_eq _⟩; have hswr18 := Node.sizeL_wt (x).kids; have hsvr18 := Node.sizeL_wt (y).kids
      refine R_o (E_callP rfl rfl en20 (fun w hM => given_C (some x) (some y) (P_ btx 0) (P_ bty 0) btr13 bur13 _ _ _ _ Mr13 w hM hmtr13 hmur13 (.inr ⟨btx, x, rfl, rfl, q16⟩) (.inr ⟨bty, y, rfl, rfl, q17⟩) (by simp only [sizeO]; omega) (by simp only [wtO]; omega) (by simp only [wtO]; omega)) (fun vr18 Mr18 Hr18 hler18 hpr18 => ?_))
      have q19 := NdA.le q14 hler18
      have q20 := NdA.le q15 hler18
      have q21 := TreeAt.le hler18 q16
      have q22 := TreeAt.le hler18 q17
      have q23 := hler18 _ _ hmtr13
      have q24 := hler18 _ _ hmur13
      obtain ⟨rfl, agr18, cgr18, dlr18, rfl, hcgr18, hsgr18, hdr18⟩ := hpr18
      have hdkr18 := difOK hdr18 hvx.fine hvy.fine; have hdnr18 : dlr18.length ≤ (x).size + (y).size := hdr18.len; have hdpr18 := dif_few hdkr18 hvx.fine hvy.fine (by omega) (by omega)
      refine R_r (D_move rfl) ?_
      refine R_r (D_extract rfl rfl) ?_
      refine R_r (D_extract rfl rfl) ?_
      refine R_r (D_assign rfl) ?_
      refine R_r (D_assign rfl) ?_
      refine R_nil ?_
      refine R_seq ?_
      refine R_region ?_
      refine R_r (D_move rfl) ?_
      refine R_r (D_move rfl) ?_
      refine R_o (E_callP rfl rfl en21 (fun w hM => OfD_C bty btx Mr18 w hM) (fun vr25 Mr25 Hr25 hler25 hpr25 => ?_))
      have q26 := NdA.le q19 hler25
      have q27 := NdA.le q20 hler25
      have q28 := TreeAt.le hler25 q21
      have q29 := TreeAt.le hler25 q22
      have q30 := hler25 _ _ q23
      have q31 := hler25 _ _ q24
      have q32 := SlA.le hsgr18 hler25
      obtain ⟨rfl, btr25, bur25, elr25, eur25, ftr25, fur25, rfl, hmtr25, hmur25⟩ := hpr25
      have hszr33 : (y).size = 1 + Node.sizeL (y).kids ∧ (x).size = 1 + Node.sizeL (x).kids := ⟨Node.size_eq _, Node.size_eq _⟩; have hswr33 := Node.sizeL_wt (y).kids; have hsvr33 := Node.sizeL_wt (x).kids
      refine R_o (E_callP rfl rfl en20 (fun w hM => given_C (some y) (some x) (P_ bty 0) (P_ btx 0) btr25 bur25 _ _ _ _ Mr25 w hM hmtr25 hmur25 (.inr ⟨bty, y, rfl, rfl, q29⟩) (.inr ⟨btx, x, rfl, rfl, q28⟩) (by simp only [sizeO]; omega) (by simp only [wtO]; omega) (by simp only [wtO]; omega)) (fun vr33 Mr33 Hr33 hler33 hpr33 => ?_))
      have q34 := NdA.le q26 hler33
      have q35 := NdA.le q27 hler33
      have q36 := TreeAt.le hler33 q28
      have q37 := TreeAt.le hler33 q29
      have q38 := hler33 _ _ q30
      have q39 := hler33 _ _ q31
      have q40 := SlA.le q32 hler33
      have q41 := hler33 _ _ hmtr25
      have q42 := hler33 _ _ hmur25
      obtain ⟨rfl, agr33, cgr33, dlr33, rfl, hcgr33, hsgr33, hdr33⟩ := hpr33
      have hdkr33 := difOK hdr33 hvy.fine hvx.fine; have hdnr33 : dlr33.length ≤ (y).size + (x).size := hdr33.len; have hdpr33 := dif_few hdkr33 hvy.fine hvx.fine (by omega) (by omega)
      refine R_r (D_move rfl) ?_
      refine R_r (D_extract rfl rfl) ?_
      refine R_r (D_extract rfl rfl) ?_
      refine R_r (D_assign rfl) ?_
      refine R_r (D_assign rfl) ?_
      refine R_nil ?_
      refine R_seq ?_
      refine R_seq ?_
      refine R_region ?_
      refine R_r (D_move rfl) ?_
      refine R_r (D_not rfl) ?_
      refine R_r (D_move rfl) ?_
      refine R_r (D_move rfl) ?_
      refine R_r (D_not rfl) ?_
      refine R_r (D_pick false rfl rfl) ?_
      refine R_r (D_move rfl) ?_
      refine R_r (D_move rfl) ?_
      refine R_r (D_lenL Tryz.underlying31 rfl) ?_
      refine R_r (D_eq rfl rfl) ?_
      refine R_r (D_move rfl) ?_
      refine R_r (D_move rfl) ?_
      refine R_o (E_callV (v := .bool (Node.sameT x y)) rfl rfl en22 (fun w hM => by have h_ := Same_C _ x rfl y btx bty Mr33 w hM q36 q37 (by omega); exact h_) ?_)
      refine R_r (D_as (v' := .bool false) (D_neB Tryz.underlying4 rfl rfl) (by rw [← hdkr18.nil_iff hvx.fine hvy.fine hvx.nz hvy.nz]; exact congrArg Value.bool (len_nil _))) ?_
      refine R_r (D_pick false rfl rfl) ?_
      refine R_r (D_move rfl) ?_
      refine R_r (D_move rfl) ?_
      refine R_o (E_callP rfl rfl en23 (fun w hM => Turn_C dlr18 agr18 cgr18 Mr33 w hM hcgr18 q40 (by omega)) (fun vr43 Mr43 Hr43 hler43 hpr43 => ?_))
      have q44 := NdA.le q34 hler43
      have q45 := NdA.le q35 hler43
      have q46 := TreeAt.le hler43 q36
      have q47 := TreeAt.le hler43 q37
      have q48 := hler43 _ _ q38
      have q49 := hler43 _ _ q39
      have q50 := SlA.le q40 hler43
      have q51 := hler43 _ _ q41
      have q52 := hler43 _ _ q42
      have q53 := SlA.le hsgr33 hler43
      obtain ⟨rfl, atr43, ctr43, rfl, hctr43, hstr43⟩ := hpr43
      refine R_r (D_move rfl) ?_
      refine R_o (E_callV (v := .bool true) rfl rfl en14 (fun w hM => by have h_ := same_C (dlr18.map turnC) dlr33 atr43 ctr43 agr33 cgr33 Mr43 w hM hctr43 hstr43 hcgr33 q53 (by first | omega | (simp only [List.length_map]; omega)); rw [decide_eq_true (hdkr18.turn.uniq hdkr33)] at h_; exact h_) ?_)
      refine R_r (D_not rfl) ?_
      refine R_r (D_pick false rfl rfl) ?_
      refine R_nil ?_
      refine R_cond_f rfl ?_
      refine R_skip ?_
      refine R_seq ?_
      refine R_region ?_
      refine R_r (D_move rfl) ?_
      refine R_r (D_move rfl) ?_
      refine R_o (E_callP rfl rfl en12 (fun w hM => ApplyL_C x btx dlr18 agr18 cgr18 Mr43 w hM q46 hvx (by omega) hcgr18 q50 (by first | omega | simp) (fun e he => Nat.le_trans (hdpr18 e he) (by omega))) (fun vr54 Mr54 Hr54 hler54 hpr54 => ?_))
      have q55 := NdA.le q44 hler54
      have q56 := NdA.le q45 hler54
      have q57 := TreeAt.le hler54 q46
      have q58 := TreeAt.le hler54 q47
      have q59 := hler54 _ _ q48
      have q60 := hler54 _ _ q49
      have q61 := SlA.le q50 hler54
      have q62 := hler54 _ _ q51
      have q63 := hler54 _ _ q52
      have q64 := SlA.le q53 hler54
      have q65 := SlA.le hstr43 hler54
      obtain ⟨rfl, hqr54⟩ := hpr54
      obtain ⟨esr54, hmesr54, hz0r54, _, _⟩ := apply_dif hvx hvy hdkr18
      rcases hqr54 with ⟨hz_, _⟩ | ⟨_, bzr54, zr54, ezr54, rfl, htzr54, hm2r54, hgzr54⟩
      · exact absurd hz0r54 hz_
      have hsamer54 := dif_same hvx hvy hdkr18 hm2r54 hgzr54
      have hmrr54 := (merge_room _ _ _ _ hm2r54).1; have hgsr54 := hgzr54.size; rw [Node.flat_len] at hmrr54
      refine R_r (D_move rfl) ?_
      refine R_r (D_extract rfl rfl) ?_
      refine R_r (D_extract rfl rfl) ?_
      refine R_r (D_assign rfl) ?_
      refine R_r (D_assign rfl) ?_
      refine R_nil ?_
      refine R_seq ?_
      refine R_region ?_
      refine R_r (D_move rfl) ?_
      refine R_r (D_move rfl) ?_
      refine R_o (E_callP rfl rfl en12 (fun w hM => ApplyL_C y bty dlr33 agr33 cgr33 Mr54 w hM q58 hvy (by omega) hcgr33 q64 (by first | omega | simp) (fun e he => Nat.le_trans (hdpr33 e he) (by omega))) (fun vr66 Mr66 Hr66 hler66 hpr66 => ?_))
      have q67 := NdA.le q55 hler66
      have q68 := NdA.le q56 hler66
      have q69 := TreeAt.le hler66 q57
      have q70 := TreeAt.le hler66 q58
      have q71 := hler66 _ _ q59
      have q72 := hler66 _ _ q60
      have q73 := SlA.le q61 hler66
      have q74 := hler66 _ _ q62
      have q75 := hler66 _ _ q63
      have q76 := SlA.le q64 hler66
      have q77 := SlA.le q65 hler66
      have q78 := TreeAt.le hler66 htzr54
      obtain ⟨rfl, hqr66⟩ := hpr66
      obtain ⟨esr66, hmesr66, hz0r66, _, _⟩ := apply_dif hvy hvx hdkr33
      rcases hqr66 with ⟨hz_, _⟩ | ⟨_, bzr66, zr66, ezr66, rfl, htzr66, hm2r66, hgzr66⟩
      · exact absurd hz0r66 hz_
      have hsamer66 := dif_same hvy hvx hdkr33 hm2r66 hgzr66
      have hmrr66 := (merge_room _ _ _ _ hm2r66).1; have hgsr66 := hgzr66.size; rw [Node.flat_len] at hmrr66
      refine R_r (D_move rfl) ?_
      refine R_r (D_extract rfl rfl) ?_
      refine R_r (D_extract rfl rfl) ?_
      refine R_r (D_assign rfl) ?_
      refine R_r (D_assign rfl) ?_
      refine R_nil ?_
      refine R_seq ?_
      refine R_region ?_
      refine R_r (D_move rfl) ?_
      refine R_o (E_callV (v := I 0) rfl rfl en13 (fun w hM => num_C 0 Mr66 w hM ) ?_)
      refine R_r (D_eq rfl rfl) ?_
      refine R_r (D_move rfl) ?_
      refine R_r (D_move rfl) ?_
      refine R_r (D_ptrNotNil Tryz.underlying34 rfl) ?_
      refine R_r (D_pick true rfl rfl) ?_
      refine R_r (D_move rfl) ?_
      refine R_r (D_move rfl) ?_
      refine R_r (D_move rfl) ?_
      refine R_o (E_callV (v := .bool (true)) rfl rfl en22 (fun w hM => by have h_ := Same_C _ zr54 rfl y bzr54 bty Mr66 w hM q78 q70 (by omega); rw [hsamer54] at h_; exact h_) ?_)
      refine R_r (D_pick true rfl rfl) ?_
      refine R_r (D_move rfl) ?_
      refine R_r (D_move rfl) ?_
      refine R_o (E_callV (v := I 0) rfl rfl en13 (fun w hM => num_C 0 Mr66 w hM ) ?_)
      refine R_r (D_eq rfl rfl) ?_
      refine R_r (D_pick true rfl rfl) ?_
      refine R_r (D_move rfl) ?_
      refine R_r (D_move rfl) ?_
      refine R_r (D_ptrNotNil Tryz.underlying34 rfl) ?_
      refine R_r (D_pick true rfl rfl) ?_
      refine R_r (D_move rfl) ?_
      refine R_r (D_move rfl) ?_
      refine R_r (D_move rfl) ?_
      refine R_o (E_callV (v := .bool (true)) rfl rfl en22 (fun w hM => by have h_ := Same_C _ zr66 rfl x bzr66 btx Mr66 w hM htzr66 q69 (by omega); rw [hsamer66] at h_; exact h_) ?_)
      refine R_r (D_pick true rfl rfl) ?_
      refine R_r (D_assign rfl) ?_
      refine R_nil ?_
      refine R_ret ?_
      refine R_drop (List.nil_sublist _) ?_
      refine R_fin1 rfl rfl ?_
      exact ⟨rfl, rfl⟩

open Go.ChangeShapes Go.WideShapes Go.ChangeAt
set_option maxRecDepth 100000 in
theorem DiffBack_lifted (os : Os) (started : os.Started) (H : Type) (enc : TypeId × Value → H) :
    ReturnsInHanded {} Tryz.checked os 4 .any (Rows.diffBackSpec.pre6 enc Tryz.prog Tryz.f4 Rows.diffBackRow.domain false) (Rows.diffBackSpec.post enc Tryz.prog Tryz.f4 false true false false) := by
  refine returnsInHanded_of_change_sized (C := Tryz.checked) Tryz.ownG started (by kernel_rfl) Tryz.func4
    (ChangeSpec.witness6 (enc := enc) (C := Tryz.checked) false ⟨#[], #[.agg #[.string ByteArray.empty, .int .i64 0, .int .i64 0, .int .i64 0, .int .u8 0, .int .u8 0, .int .u8 0, .int .u8 0, .int .u8 0, .int .u8 0, .int .u8 0, .int .u8 0, .int .u8 0, .int .u8 0, .int .u8 0, .int .u8 0, .int .u8 0, .int .u8 0, .int .u8 0, .int .u8 0, .int .u8 0, .int .u8 0, .int .u8 0, .int .u8 0, .int .u8 0, .int .u8 0, .int .u8 0, .int .u8 0, .int .u8 0, .int .u8 0, .int .u8 0, .int .u8 0, .int .u8 0, .int .u8 0, .int .u8 0, .int .u8 0, .int .i64 0, .int .i64 0, .int .i64 0, .int .i64 0, .slice none 0 0], .agg #[.string ByteArray.empty, .int .i64 0, .int .i64 0, .int .i64 0, .int .u8 0, .int .u8 0, .int .u8 0, .int .u8 0, .int .u8 0, .int .u8 0, .int .u8 0, .int .u8 0, .int .u8 0, .int .u8 0, .int .u8 0, .int .u8 0, .int .u8 0, .int .u8 0, .int .u8 0, .int .u8 0, .int .u8 0, .int .u8 0, .int .u8 0, .int .u8 0, .int .u8 0, .int .u8 0, .int .u8 0, .int .u8 0, .int .u8 0, .int .u8 0, .int .u8 0, .int .u8 0, .int .u8 0, .int .u8 0, .int .u8 0, .int .u8 0, .int .i64 0, .int .i64 0, .int .i64 0, .int .i64 0, .slice none 0 0]], []⟩ 8 (by kernel_rfl) (by kernel_rfl) (by kernel_rfl) (by kernel_rfl)) ?_
  intro W base args ds gs before hval0 hW hcnd hsz _
  have hval : ∀ (j : Nat) t v, Tryz.f4.params[j]? = some t → args[j]? = some v → Value.okWide Tryz.prog W .any base t v := hval0
  have hW2 := hW
  obtain ⟨p, q, hA0, hV, rfl, hfz, hnd⟩ := hW
  have hA : DataW.TrodAll enc Tryz.prog W 0 (fun _ => true) true Tryz.f4.params.toList args.toList ds p := hA0
  rw [Tryz.params4] at hA hval
  obtain ⟨v0, v1, d0, d1, p0, p1, rfl, rfl, rfl, h0, h1⟩ := trodAll_two hA
  obtain ⟨rfl, rfl⟩ := trodVars_none hV
  clear hA0 hval0
  simp only [List.append_nil] at hW2
  have hz := List.all_eq_true.1 hsz
  have hlt := fun x hx => hW2.lt x hx
  have hz0 : ∀ n ∈ d0.weights Tryz.prog 30, n ≤ reachBytes := fun n hn => of_decide_eq_true (hz n (DataW.weights_mem_each (ts := [30, 30] ++ []) (ds := [d0, d1] ++ []) (j := 0) rfl rfl n hn))
  have hz1 : ∀ n ∈ d1.weights Tryz.prog 30, n ≤ reachBytes := fun n hn => of_decide_eq_true (hz n (DataW.weights_mem_each (ts := [30, 30] ++ []) (ds := [d0, d1] ++ []) (j := 1) rfl rfl n hn))
  obtain ⟨x, ax, cx, rfl, hcx, hkx, hsx⟩ := openNode (hval 0 30 v0 rfl rfl) h0 hz0
  obtain ⟨y, ay, cy, rfl, hcy, hky, hsy⟩ := openNode (hval 1 30 v1 rfl rfl) h1 hz1
  refine Calls.mono (DiffBack_C x ax cx y ay cy (memOf W) W (lies_of W) hcx hkx hsx hcy hky hsy : Ends Tryz.prog 4 [NodeC.val ⟨x.name, x.value, x.marks, .slice ax x.kids.length cx⟩, NodeC.val ⟨y.name, y.value, y.marks, .slice ay y.kids.length cy⟩] W [] (memOf W) (fun v M' H' => v = .bool true ∧ H' = [])) fun e W2 ⟨v, M2, H2, he, hst, hv, _⟩ => ?_
  subst he; subst hv
  have hb := hst.kept.below
  exact ⟨_, rfl, post_kept hW2 rfl rfl (trodAll_mk1 (shut_bool Tryz.underlying4 true)) (trodAll_mk2 (Below.trod laidG (by kernel_rfl) (of_decide_eq_true (by kernel_rfl)) h0 hb (fun x hx => hlt x (by simp [hx]))) (Below.trod laidG (by kernel_rfl) (of_decide_eq_true (by kernel_rfl)) h1 hb (fun x hx => hlt x (by simp [hx])))) hb⟩
theorem DiffBack_holds : Rows.DiffBackSaid :=
  OpenClaim.holds_of_wide 4 Tryz.f4 rfl rfl rfl rfl rfl rfl rfl ⟨rfl, rfl, rfl, rfl, rfl⟩ rfl rfl rfl rfl rfl (by kernel_rfl) Tryz.func4 (by kernel_rfl)
    (of_decide_eq_true (by kernel_rfl)) (by unfold Func.isWrapper; rw [if_neg (of_decide_eq_false (by kernel_rfl))]; exact ⟨rfl, rfl⟩)
    (fun os started H enc _ => DiffBack_lifted os started H enc)

end Go.Proofs.YtgmomhdammdjgaaGreat
