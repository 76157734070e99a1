/-
  diff.Apply over a tree that may be and a list that is written no more: it answers as the document does. Conditions: trees of at most 6000 parts, lists of at most 2^30.
-/
import Derived.Test.YtgmomhdammdjgaaGreatDiffer
import Derived.Test.YtgmomhdammdjgaaGreatLawG
set_option linter.unusedVariables false
set_option linter.unusedSimpArgs false
set_option maxRecDepth 20000
set_option maxHeartbeats 4000000
namespace Go.Proofs.YtgmomhdammdjgaaGreat
open Go Go.Proofs Go.RowKit

theorem en63 : ∀ (args : Array Value) (w : World), (callFunc 63 args).run Tryz.prog w = .ok (.enter 63 args) w := enters_fn Tryz.func63 (by kernel_rfl) rfl
theorem en22 : ∀ (args : Array Value) (w : World), (callFunc 22 args).run Tryz.prog w = .ok (.enter 22 args) w := enters_fn Tryz.func22 (by kernel_rfl) rfl
theorem en23 : ∀ (args : Array Value) (w : World), (callFunc 23 args).run Tryz.prog w = .ok (.enter 23 args) w := enters_fn Tryz.func23 (by kernel_rfl) rfl
theorem en12 : ∀ (args : Array Value) (w : World), (callFunc 12 args).run Tryz.prog w = .ok (.enter 12 args) w := enters_fn Tryz.func12 (by kernel_rfl) rfl
theorem drop_eq_step {α : Type} [DecidableEq α] {x y : List α} {i : Nat} {a b : α} (ha : x[i]? = some a) (hb : y[i]? = some b) (hab : a = b) (h : decide (x = y) = decide (x.drop i = y.drop i)) : decide (x = y) = decide (x.drop (i + 1) = y.drop (i + 1)) := by
  obtain ⟨h1, rfl⟩ := List.getElem?_eq_some_iff.1 ha
  obtain ⟨h2, rfl⟩ := List.getElem?_eq_some_iff.1 hb
  rw [h, List.drop_eq_getElem_cons h1, List.drop_eq_getElem_cons h2, hab]
  simp only [List.cons.injEq, true_and]
theorem drop_ne_step {α : Type} {x y : List α} {i : Nat} {a b : α} (ha : x[i]? = some a) (hb : y[i]? = some b) (hab : a ≠ b) : x ≠ y := fun e => by
  subst e; rw [ha] at hb; cases hb; exact hab rfl
theorem sameTL_step {xs ys : List Node} {i : Nat} {a b : Node} (ha : xs[i]? = some a) (hb : ys[i]? = some b) : Node.sameTL (xs.drop i) (ys.drop i) = (Node.sameT a b && Node.sameTL (xs.drop (i + 1)) (ys.drop (i + 1))) := by
  obtain ⟨h1, rfl⟩ := List.getElem?_eq_some_iff.1 ha
  obtain ⟨h2, rfl⟩ := List.getElem?_eq_some_iff.1 hb
  rw [List.drop_eq_getElem_cons h1, List.drop_eq_getElem_cons h2]
  rfl

theorem EqualS_C (x y : List Str) (a : Option Addr) (c : Nat) (b : Option Addr) (d : Nat) (M : PMem) (w : World) (hM : Lies M w) (hc : x.length ≤ c) (ha : SlA M 1 (byEnc fun s : Str => [S s]) a x) (hd : y.length ≤ d) (hb : SlA M 1 (byEnc fun s : Str => [S s]) b y) (hn : x.length ≤ 4294967296) : Ends Tryz.prog 63 [.slice a x.length c, .slice b y.length d] w [] M (fun v' M' H' => v' = .bool (decide (x = y)) ∧ M' = M ∧ H' = []) := by
  refine Ends.enter (H := []) Tryz.func63 rfl Tryz.ntmps63 rfl (St.start hM) ?_
  refine R_seq ?_
  refine R_region ?_
  refine R_r (D_assign rfl) ?_
  refine R_nil ?_
  refine R_seq ?_
  refine R_seq ?_
  refine R_region ?_
  refine R_r (D_move rfl) ?_
  refine R_r (D_lenL Tryz.underlying109 rfl) ?_
  refine R_r (D_move rfl) ?_
  refine R_r (D_lenL Tryz.underlying109 rfl) ?_
  refine R_r (D_ne rfl rfl) ?_
  refine R_nil ?_
  refine R_cond rfl (fun h1 => ?_) (fun h1 => ?_)
  ·
    have h1p : ¬ ((x.length : Int) = (y.length : Int)) := by simpa using h1
    refine R_seq ?_
    refine R_region ?_
    refine R_r (D_assign rfl) ?_
    refine R_nil ?_
    refine R_ret ?_
    refine R_fin1 rfl rfl ?_
    exact ⟨by rw [decide_eq_false (fun e => h1p (by rw [e]))], rfl, rfl⟩
  ·
    have h1p : ((x.length : Int) = (y.length : Int)) := by simpa using h1
    refine R_skip ?_
    refine R_seq ?_
    refine R_seq ?_
    refine R_region ?_
    refine R_r (D_move rfl) ?_
    refine R_r (D_lenL Tryz.underlying109 rfl) ?_
    refine R_r (D_move rfl) ?_
    refine R_nil ?_
    refine R_block ?_
    refine R_loop (σ := (Nat)) (fun gs => ([(0, .slice a x.length c), (1, .slice b y.length d), (12, I (x.length : Int)), (13, I (gs : Int))], M, [])) (fun gs => gs ≤ x.length ∧ x.length = y.length ∧ decide (x = y) = decide (x.drop gs = y.drop gs)) (fun gs => x.length - gs) 0 ?_ (Env.sub_cons rfl <| Env.sub_cons rfl <| Env.sub_cons rfl <| Env.sub_cons rfl <| Env.sub_nil _) rfl rfl ?_
    · show 0 ≤ x.length ∧ x.length = y.length ∧ decide (x = y) = decide (x.drop 0 = y.drop 0); exact ⟨by omega, by omega, by simp⟩
    rintro i hok
    replace hok : i ≤ x.length ∧ x.length = y.length ∧ decide (x = y) = decide (x.drop i = y.drop i) := hok
    show Cx.R _ _ _ [(0, .slice a x.length c), (1, .slice b y.length d), (12, I (x.length : Int)), (13, I (i : Int))] M []
    obtain ⟨hi, hle, heq⟩ := hok
    refine R_seq ?_
    refine R_region ?_
    refine R_r (D_lt rfl rfl) ?_
    refine R_nil ?_
    refine R_seq ?_
    refine R_cond rfl (fun h2 => ?_) (fun h2 => ?_)
    ·
      have h2p := of_decide_eq_true h2
      refine R_skip ?_
      refine R_seq ?_
      refine R_block ?_
      refine R_seq ?_
      refine R_region ?_
      refine R_r (D_move rfl) ?_
      refine R_r (D_assign rfl) ?_
      refine R_nil ?_
      refine R_seq ?_
      refine Y_region [] mixed ?_
      refine Y_r 0 rfl (D_move rfl) ?_
      refine Y_r 1 rfl (D_move rfl) ?_
      obtain ⟨b1, ob1, csb1, elb1, frb1, rfl, hmb1, hxb1⟩ := ha.at (i := i) (by first | omega | (simp; omega))
      obtain ⟨x2, hx2⟩ : ∃ e_, x[i]? = some e_ := ⟨_, List.getElem?_eq_getElem (by omega)⟩
      have hex2 := hxb1 i x2 hx2
      refine Y_r 2 rfl (D_indexLn (i) Tryz.underlying109 Tryz.sizeOf9 rfl rfl (by first | rfl | omega) (by first | omega | (simp <;> omega))) ?_
      refine Y_r 3 rfl (D_load rfl (Has.mem hmb1) (Rd.elem0 (i := i) hex2 Tryz.isAgg9 rfl rfl)) ?_
      refine Y_r 4 rfl (D_move rfl) ?_
      refine Y_r 5 rfl (D_move rfl) ?_
      obtain ⟨b3, ob3, csb3, elb3, frb3, rfl, hmb3, hxb3⟩ := hb.at (i := i) (by first | omega | (simp; omega))
      obtain ⟨x4, hx4⟩ : ∃ e_, y[i]? = some e_ := ⟨_, List.getElem?_eq_getElem (by omega)⟩
      have hex4 := hxb3 i x4 hx4
      refine Y_r 6 rfl (D_indexLn (i) Tryz.underlying109 Tryz.sizeOf9 rfl rfl (by first | rfl | omega) (by first | omega | (simp <;> omega))) ?_
      refine Y_r 7 rfl (D_load rfl (Has.mem hmb3) (Rd.elem0 (i := i) hex4 Tryz.isAgg9 rfl rfl)) ?_
      refine Y_r 8 rfl (D_neS rfl rfl) ?_
      refine Y_nil ?_ (PMem.le_refl _) (fun _ h => List.Sublist.subset (.slnil) h)
      refine R_cond rfl (fun h3 => ?_) (fun h3 => ?_)
      ·
        have h3p : ¬ (x2 = x4) := by simpa using h3
        refine R_seq ?_
        refine R_region ?_
        refine R_r (D_assign rfl) ?_
        refine R_nil ?_
        refine R_ret ?_
        refine R_fin1 rfl rfl ?_
        exact ⟨by rw [decide_eq_false (drop_ne_step hx2 hx4 h3p)], rfl, rfl⟩
      ·
        have h3p : (x2 = x4) := by simpa using h3
        refine R_skip ?_
        refine R_region ?_
        refine R_r (D_add rfl rfl rfl (by omega) (by omega)) ?_
        refine R_r (D_move rfl) ?_
        refine R_nil ?_
        exact R_back (i + 1) (by show (i + 1) ≤ x.length ∧ x.length = y.length ∧ decide (x = y) = decide (x.drop (i + 1) = y.drop (i + 1)); exact ⟨by omega, by omega, drop_eq_step hx2 hx4 (by simpa using h3) heq⟩) (by show x.length - (i + 1) < x.length - i; omega) (Env.sub_cons rfl <| Env.sub_cons rfl <| Env.sub_cons rfl <| Env.sub_cons rfl <| Env.sub_nil _) rfl rfl
    ·
      have h2p := of_decide_eq_false h2
      refine R_exit rfl ?_
      refine R_seq ?_
      refine R_region ?_
      refine R_r (D_assign rfl) ?_
      refine R_nil ?_
      refine R_ret ?_
      refine R_fin1 rfl rfl ?_
      exact ⟨by rw [heq, List.drop_eq_nil_of_le (by omega), List.drop_eq_nil_of_le (by omega)]; simp, rfl, rfl⟩

theorem Same_S (x : Node) (y : Node) (b c : Nat) (M : PMem) (w : World) (hM : Lies M w) (hb : TreeAt M b x) (hc : TreeAt M c y) (hsz : x.size ≤ 1073741824) (ih : ∀ (k : Node), k.size < x.size → ∀ (y : Node) (b c : Nat) (M : PMem) (w : World) (hM : Lies M w), TreeAt M b k → TreeAt M c y → k.size ≤ 1073741824 → Ends Tryz.prog 22 [P_ b 0, P_ c 0, .bool false] w [] M (fun v' M' H' => v' = .bool (Node.sameT k y) ∧ M' = M ∧ H' = [])) : Ends Tryz.prog 22 [P_ b 0, P_ c 0, .bool false] w [] M (fun v' M' H' => v' = .bool (Node.sameT x y) ∧ M' = M ∧ H' = []) := by
  have hxs := Node.size_eq x
  have hkl := Node.len_sizeL x.kids
  refine Ends.enter (H := []) Tryz.func22 rfl Tryz.ntmps22 rfl (St.start hM) ?_
  refine R_seq ?_
  refine R_region ?_
  refine R_r (D_assign rfl) ?_
  refine R_nil ?_
  refine R_seq ?_
  refine R_seq ?_
  refine R_join [(0, P_ b 0), (1, P_ c 0), (2, .bool false), (6, .bool false), (14, .bool false)] (M' := M) (H' := []) ?_ ?_
  ·
    refine R_region ?_
    refine R_r (D_move rfl) ?_
    refine R_r (D_ptrNil Tryz.underlying34 rfl) ?_
    refine R_r (D_move rfl) ?_
    refine R_r (D_move rfl) ?_
    refine R_r (D_ptrNil Tryz.underlying34 rfl) ?_
    refine R_r (D_pick false rfl rfl) ?_
    refine R_nil ?_
    exact R_at (Env.sub_cons rfl <| Env.sub_cons rfl <| Env.sub_cons rfl <| Env.sub_cons rfl <| Env.sub_cons rfl <| Env.sub_nil _)
  ·
    refine R_cond_f rfl ?_
    refine R_skip ?_
    refine R_seq ?_
    refine R_region ?_
    refine R_r (D_move rfl) ?_
    refine R_r (D_nilCheck rfl) ?_
    refine R_r (D_fieldAddr fa112_0 rfl) ?_
    obtain ⟨ano1, cno1, ako1, cko1, elo1, fro1, hmo1, hcno1, hsno1, hcko1, hsko1⟩ := (hb).open
    refine R_r (D_load rfl (Has.mem hmo1) (rd24_TreeC_0 (⟨x.value, x.marks, .slice ano1 ((x.kids.map Node.name).length) cno1, .slice ako1 x.kids.length cko1, ((1 + Node.sizeL x.kids : Nat) : Int), ((Node.depthL x.kids : Nat) : Int)⟩ : TreeC))) ?_
    refine R_o (E_alloc (Val.cells Val.zero) Tryz.zeroValue24 rfl (fun b2 => ?_))
    refine R_o (E_store (cs' := (Val.cells x.value)) 0 rfl rfl rfl (Wr.agg Tryz.sizeOf24 rfl rfl rfl rfl) ?_)
    refine R_nil ?_
    refine R_seq ?_
    refine R_seq ?_
    refine R_join [(0, P_ b 0), (1, P_ c 0), (2, .bool false), (6, .bool false), (7, P_ b2 0), (14, .bool false), (18, P_ b 0), (19, P_ b 0), (20, P_ b 0), (21, Val.val x.value), (38, .bool false)] (M' := M) (H' := [.blk b2 (.cells (List.toArray (Val.cells x.value)) 24)]) ?_ ?_
    ·
      refine R_region ?_
      refine R_r (D_move rfl) ?_
      refine R_r (D_move rfl) ?_
      refine R_skipop rfl rfl rfl ?_
      refine R_skipop rfl rfl rfl ?_
      refine R_skipop rfl rfl rfl ?_
      refine R_skipop rfl rfl rfl ?_
      refine R_skipop rfl rfl rfl ?_
      refine R_skipop rfl rfl rfl ?_
      refine R_r (D_pick false rfl rfl) ?_
      refine R_r (D_move rfl) ?_
      refine R_skipop rfl rfl rfl ?_
      refine R_skipop rfl rfl rfl ?_
      refine R_skipop rfl rfl rfl ?_
      refine R_skipop rfl rfl rfl ?_
      refine R_skipop rfl rfl rfl ?_
      refine R_skipop rfl rfl rfl ?_
      refine R_r (D_pick false rfl rfl) ?_
      refine R_nil ?_
      exact R_at (Env.sub_cons rfl <| Env.sub_cons rfl <| Env.sub_cons rfl <| Env.sub_cons rfl <| Env.sub_cons rfl <| Env.sub_cons rfl <| Env.sub_cons rfl <| Env.sub_cons rfl <| Env.sub_cons rfl <| Env.sub_cons rfl <| Env.sub_cons rfl <| Env.sub_nil _)
    ·
      refine R_cond_f rfl ?_
      refine R_skip ?_
      refine R_seq ?_
      refine R_seq ?_
      obtain ⟨ano3, cno3, ako3, cko3, elo3, fro3, hmo3, hcno3, hsno3, hcko3, hsko3⟩ := (hc).open
      refine R_join [(0, P_ b 0), (1, P_ c 0), (2, .bool false), (6, .bool false), (7, P_ b2 0), (14, .bool false), (18, P_ b 0), (19, P_ b 0), (20, P_ b 0), (21, Val.val x.value), (38, .bool false), (57, .bool ((!decide (x.value = y.value)) || (!(decide (x.kids.map Node.name = y.kids.map Node.name)))))] (M' := M) (H' := [.blk b2 (.cells (List.toArray (Val.cells x.value)) 24)]) ?_ ?_
      ·
        refine Y_region [.blk b2 (.cells (List.toArray (Val.cells x.value)) 24)] mixed ?_
        refine Y_r 0 rfl (D_load rfl (Has.own 0 rfl) (rd24_Val_0 x.value)) ?_
        refine Y_r 1 rfl (D_move rfl) ?_
        refine Y_r 2 rfl (D_nilCheck rfl) ?_
        refine Y_r 3 rfl (D_fieldAddr fa112_0 rfl) ?_
        refine Y_r 4 rfl (D_load rfl (Has.mem hmo3) (rd24_TreeC_0 (⟨y.value, y.marks, .slice ano3 ((y.kids.map Node.name).length) cno3, .slice ako3 y.kids.length cko3, ((1 + Node.sizeL y.kids : Nat) : Int), ((Node.depthL y.kids : Nat) : Int)⟩ : TreeC))) ?_
        refine Y_r 5 rfl (D_neA eg24 rfl rfl (eqa24 _ _)) ?_
        refine Y_r 6 rfl (D_move rfl) ?_
        refine R_split 46 rfl (fun h1 => ?_) (fun h1 => ?_)
        ·
          have h1p : ¬ (x.value = y.value) := by simpa using h1
          refine Y_skip 7 rfl rfl ?_
          refine Y_skip 8 rfl rfl ?_
          refine Y_skip 9 rfl rfl ?_
          refine Y_skip 10 rfl rfl ?_
          refine Y_skip 11 rfl rfl ?_
          refine Y_skip 12 rfl rfl ?_
          refine Y_skip 13 rfl rfl ?_
          refine Y_skip 14 rfl rfl ?_
          refine Y_skip 15 rfl rfl ?_
          refine Y_skip 16 rfl rfl ?_
          refine Y_r 17 rfl (D_pick true rfl rfl) ?_
          refine Y_nil ?_ (PMem.le_refl _) (fun _ h => List.Sublist.subset (.cons_cons _ (.slnil)) h)
          exact R_at (Env.sub_cons rfl <| Env.sub_cons rfl <| Env.sub_cons rfl <| Env.sub_cons rfl <| Env.sub_cons rfl <| Env.sub_cons rfl <| Env.sub_cons rfl <| Env.sub_cons rfl <| Env.sub_cons rfl <| Env.sub_cons rfl <| Env.sub_cons rfl <| Env.sub_cons (by first | (show some (Value.bool _) = some (Value.bool _); simp only [h1, Bool.true_and, Bool.false_and, Bool.true_or, Bool.false_or, Bool.and_true, Bool.and_false, Bool.or_true, Bool.or_false]; done) | (show some (Value.bool _) = some (Value.bool _); (try rw [h1]); first | done | rfl) | simp [h1, Env.find]) <| Env.sub_nil _)
        ·
          have h1p : (x.value = y.value) := by simpa using h1
          refine Y_r 7 rfl (D_move rfl) ?_
          refine Y_r 8 rfl (D_nilCheck rfl) ?_
          refine Y_r 9 rfl (D_fieldAddr fa112_2 rfl) ?_
          refine Y_r 10 rfl (D_load rfl (Has.mem hmo1) (Rd.one Tryz.isAgg109 rfl)) ?_
          refine Y_r 11 rfl (D_move rfl) ?_
          refine Y_r 12 rfl (D_nilCheck rfl) ?_
          refine Y_r 13 rfl (D_fieldAddr fa112_2 rfl) ?_
          refine Y_r 14 rfl (D_load rfl (Has.mem hmo3) (Rd.one Tryz.isAgg109 rfl)) ?_
          refine Y_o 15 rfl (E_callV (v := .bool (decide (x.kids.map Node.name = y.kids.map Node.name))) rfl rfl en63 (fun w hM => EqualS_C (x.kids.map Node.name) (y.kids.map Node.name) ano1 cno1 ano3 cno3 M w hM hcno1 hsno1 hcno3 hsno3 (by simp only [List.length_map]; omega)) ?_) (PMem.le_refl _) (fun _ h => List.Sublist.subset (.cons_cons _ (.slnil)) h)
          refine Y_go _ (PMem.le_refl _) (fun _ h => List.Sublist.subset (.cons_cons _ (.slnil)) h) (fun _ h => h) ?_
          refine Y_r 16 rfl (D_not rfl) ?_
          refine Y_r 17 rfl (D_pick false rfl rfl) ?_
          refine Y_nil ?_ (PMem.le_refl _) (fun _ h => List.Sublist.subset (.cons_cons _ (.slnil)) h)
          exact R_at (Env.sub_cons rfl <| Env.sub_cons rfl <| Env.sub_cons rfl <| Env.sub_cons rfl <| Env.sub_cons rfl <| Env.sub_cons rfl <| Env.sub_cons rfl <| Env.sub_cons rfl <| Env.sub_cons rfl <| Env.sub_cons rfl <| Env.sub_cons rfl <| Env.sub_cons (by first | (show some (Value.bool _) = some (Value.bool _); simp only [h1, Bool.true_and, Bool.false_and, Bool.true_or, Bool.false_or, Bool.and_true, Bool.and_false, Bool.or_true, Bool.or_false]; done) | (show some (Value.bool _) = some (Value.bool _); (try rw [h1]); first | done | rfl) | simp [h1, Env.find]) <| Env.sub_nil _)
      ·
        refine R_cond rfl (fun h1 => ?_) (fun h1 => ?_)
        ·
          have h1p := h1; simp only [Bool.and_eq_true, Bool.or_eq_true, Bool.not_eq_true', Bool.and_eq_false_imp, Bool.or_eq_false_iff, Bool.not_eq_false', decide_eq_true_eq, decide_eq_false_iff_not] at h1p
          refine R_seq ?_
          refine R_region ?_
          refine R_r (D_assign rfl) ?_
          refine R_nil ?_
          refine R_ret ?_
          refine R_drop (List.nil_sublist _) ?_
          refine R_fin1 rfl rfl ?_
          exact ⟨by rw [Node.sameT_eq]; revert h1; generalize decide (x.value = y.value) = q1; generalize decide (x.kids.map Node.name = y.kids.map Node.name) = q2; cases q1 <;> cases q2 <;> simp, rfl, rfl⟩
        ·
          have h1p := h1; simp only [Bool.and_eq_true, Bool.or_eq_true, Bool.not_eq_true', Bool.and_eq_false_imp, Bool.or_eq_false_iff, Bool.not_eq_false', decide_eq_true_eq, decide_eq_false_iff_not] at h1p
          obtain ⟨hv0, hnm0⟩ : x.value = y.value ∧ x.kids.map Node.name = y.kids.map Node.name := by simpa using h1
          have hkl0 : x.kids.length = y.kids.length := by have h_ := congrArg List.length hnm0; simpa using h_
          have hs0 : Node.sameT x y = Node.sameTL x.kids y.kids := by rw [Node.sameT_eq, decide_eq_true hv0, decide_eq_true hnm0]; rfl
          refine R_skip ?_
          refine R_seq ?_
          refine R_seq ?_
          refine R_region ?_
          refine R_r (D_move rfl) ?_
          refine R_r (D_nilCheck rfl) ?_
          refine R_r (D_fieldAddr fa112_3 rfl) ?_
          refine R_r (D_load rfl (Has.mem hmo1) (Rd.one Tryz.isAgg110 rfl)) ?_
          refine R_r (D_lenL Tryz.underlying110 rfl) ?_
          refine R_r (D_move rfl) ?_
          refine R_nil ?_
          refine R_block ?_
          refine R_loop (σ := (Nat)) (fun gs => ([(0, P_ b 0), (1, P_ c 0), (2, .bool false), (62, I (x.kids.length : Int)), (63, I (gs : Int))], M, [.blk b2 (.cells (List.toArray (Val.cells x.value)) 24)])) (fun gs => gs ≤ x.kids.length ∧ Node.sameT x y = Node.sameTL (x.kids.drop gs) (y.kids.drop gs)) (fun gs => x.kids.length - gs) 0 ?_ (Env.sub_cons rfl <| Env.sub_cons rfl <| Env.sub_cons rfl <| Env.sub_cons rfl <| Env.sub_cons rfl <| Env.sub_nil _) rfl rfl ?_
          · show 0 ≤ x.kids.length ∧ Node.sameT x y = Node.sameTL (x.kids.drop 0) (y.kids.drop 0); exact ⟨by omega, hs0⟩
          rintro i hok
          replace hok : i ≤ x.kids.length ∧ Node.sameT x y = Node.sameTL (x.kids.drop i) (y.kids.drop i) := hok
          show Cx.R _ _ _ [(0, P_ b 0), (1, P_ c 0), (2, .bool false), (62, I (x.kids.length : Int)), (63, I (i : Int))] M [.blk b2 (.cells (List.toArray (Val.cells x.value)) 24)]
          obtain ⟨hi, hst⟩ := hok
          refine R_seq ?_
          refine R_region ?_
          refine R_r (D_lt rfl rfl) ?_
          refine R_nil ?_
          refine R_seq ?_
          refine R_cond rfl (fun h2 => ?_) (fun h2 => ?_)
          ·
            have h2p := of_decide_eq_true h2
            refine R_skip ?_
            refine R_seq ?_
            refine R_block ?_
            refine R_seq ?_
            refine R_region ?_
            refine R_r (D_move rfl) ?_
            refine R_r (D_assign rfl) ?_
            refine R_nil ?_
            refine R_seq ?_
            refine Y_region [.blk b2 (.cells (List.toArray (Val.cells x.value)) 24)] mixed ?_
            refine Y_r 0 rfl (D_move rfl) ?_
            refine Y_r 1 rfl (D_nilCheck rfl) ?_
            refine Y_r 2 rfl (D_fieldAddr fa112_3 rfl) ?_
            refine Y_r 3 rfl (D_load rfl (Has.mem hmo1) (Rd.one Tryz.isAgg110 rfl)) ?_
            refine Y_r 4 rfl (D_move rfl) ?_
            obtain ⟨b4, ob4, csb4, elb4, frb4, rfl, hmb4, hxb4⟩ := hsko1.at (i := i) (by first | omega | (simp; omega))
            obtain ⟨x5, hx5⟩ : ∃ e_, x.kids[i]? = some e_ := ⟨_, List.getElem?_eq_getElem (by omega)⟩
            obtain ⟨tx5, hex5, htx5⟩ := hxb4 i x5 hx5
            refine Y_r 5 rfl (D_indexLn (i) Tryz.underlying110 Tryz.sizeOf34 rfl rfl (by first | rfl | omega) (by first | omega | (simp <;> omega))) ?_
            refine Y_r 6 rfl (D_load rfl (Has.mem hmb4) (Rd.elem0 (i := i) hex5 Tryz.isAgg34 rfl rfl)) ?_
            refine Y_r 7 rfl (D_move rfl) ?_
            refine Y_r 8 rfl (D_nilCheck rfl) ?_
            refine Y_r 9 rfl (D_fieldAddr fa112_3 rfl) ?_
            refine Y_r 10 rfl (D_load rfl (Has.mem hmo3) (Rd.one Tryz.isAgg110 rfl)) ?_
            refine Y_r 11 rfl (D_move rfl) ?_
            obtain ⟨b6, ob6, csb6, elb6, frb6, rfl, hmb6, hxb6⟩ := hsko3.at (i := i) (by first | omega | (simp; omega))
            obtain ⟨x7, hx7⟩ : ∃ e_, y.kids[i]? = some e_ := ⟨_, List.getElem?_eq_getElem (by omega)⟩
            obtain ⟨tx7, hex7, htx7⟩ := hxb6 i x7 hx7
            refine Y_r 12 rfl (D_indexLn (i) Tryz.underlying110 Tryz.sizeOf34 rfl rfl (by first | rfl | omega) (by first | omega | (simp <;> omega))) ?_
            refine Y_r 13 rfl (D_load rfl (Has.mem hmb6) (Rd.elem0 (i := i) hex7 Tryz.isAgg34 rfl rfl)) ?_
            refine Y_r 14 rfl (D_move rfl) ?_
            have hsk_ := Node.size_mem (List.mem_of_getElem? hx5)
            refine Y_o 15 rfl (E_callV (v := .bool (Node.sameT x5 x7)) rfl rfl en22 (fun w hM => ih x5 (Node.size_kid (List.mem_of_getElem? hx5)) x7 tx5 tx7 M w hM htx5 htx7 (by omega)) ?_) (PMem.le_refl _) (fun _ h => List.Sublist.subset (.cons_cons _ (.slnil)) h)
            refine Y_go _ (PMem.le_refl _) (fun _ h => List.Sublist.subset (.cons_cons _ (.slnil)) h) (fun _ h => h) ?_
            refine Y_r 16 rfl (D_not rfl) ?_
            refine Y_nil ?_ (PMem.le_refl _) (fun _ h => List.Sublist.subset (.cons_cons _ (.slnil)) h)
            refine R_cond rfl (fun h3 => ?_) (fun h3 => ?_)
            ·
              refine R_seq ?_
              refine R_region ?_
              refine R_r (D_assign rfl) ?_
              refine R_nil ?_
              refine R_ret ?_
              refine R_drop (List.nil_sublist _) ?_
              refine R_fin1 rfl rfl ?_
              exact ⟨by rw [hst, sameTL_step hx5 hx7]; have h_ : Node.sameT x5 x7 = false := (by simpa using h3); rw [h_]; rfl, rfl, rfl⟩
            ·
              refine R_skip ?_
              refine R_region ?_
              refine R_r (D_add rfl rfl rfl (by omega) (by omega)) ?_
              refine R_r (D_move rfl) ?_
              refine R_nil ?_
              exact R_back (i + 1) (by show (i + 1) ≤ x.kids.length ∧ Node.sameT x y = Node.sameTL (x.kids.drop (i + 1)) (y.kids.drop (i + 1)); exact ⟨by omega, by rw [hst, sameTL_step hx5 hx7]; have h_ : Node.sameT x5 x7 = true := (by simpa using h3); rw [h_, Bool.true_and]⟩) (by show x.kids.length - (i + 1) < x.kids.length - i; omega) (Env.sub_cons rfl <| Env.sub_cons rfl <| Env.sub_cons rfl <| Env.sub_cons rfl <| Env.sub_cons rfl <| Env.sub_nil _) rfl rfl
          ·
            have h2p := of_decide_eq_false h2
            refine R_exit rfl ?_
            refine R_seq ?_
            refine R_region ?_
            refine R_r (D_assign rfl) ?_
            refine R_nil ?_
            refine R_ret ?_
            refine R_drop (List.nil_sublist _) ?_
            refine R_fin1 rfl rfl ?_
            exact ⟨by rw [hst, List.drop_eq_nil_of_le (by omega)]; unfold Node.sameTL; rfl, rfl, rfl⟩

theorem Same_C : ∀ (n : Nat) (x : Node), x.size = n → ∀ (y : Node) (b c : Nat) (M : PMem) (w : World) (hM : Lies M w), TreeAt M b x → TreeAt M c y → x.size ≤ 1073741824 → Ends Tryz.prog 22 [P_ b 0, P_ c 0, .bool false] w [] M (fun v' M' H' => v' = .bool (Node.sameT x y) ∧ M' = M ∧ H' = []) := by
  intro n
  induction n using Nat.strongRecOn with
  | _ n IH => exact fun x hx y b c M w hM h1 h2 h3 => Same_S x y b c M w hM h1 h2 h3 (fun k hk y b c M w hM => IH k.size (by omega) k rfl y b c M w hM)

theorem Turn_C (l : List Change) (a : Option Addr) (c : Nat) (M : PMem) (w : World) (hM : Lies M w) (hc : l.length ≤ c) (hsl : SlA M 71 (byEnc Change.cells) a l) (hn : l.length ≤ 1073741824) : Ends Tryz.prog 23 [.slice a l.length c] w [] M (fun v' M' H' => H' = [] ∧ ∃ a c, v' = .slice a (l.map turnC).length c ∧ (l.map turnC).length ≤ c ∧ SlA M' 71 (byEnc Change.cells) a (l.map turnC)) := by
  refine Ends.enter (H := []) Tryz.func23 rfl Tryz.ntmps23 rfl (St.start hM) ?_
  refine R_seq ?_
  refine R_region ?_
  refine R_r (D_assign rfl) ?_
  refine R_nil ?_
  refine R_seq ?_
  refine R_region ?_
  refine R_r (D_assign rfl) ?_
  refine R_nil ?_
  refine R_seq ?_
  refine R_seq ?_
  refine R_region ?_
  refine R_r (D_move rfl) ?_
  refine R_r (D_lenL Tryz.underlying31 rfl) ?_
  refine R_r (D_move rfl) ?_
  refine R_nil ?_
  refine R_block ?_
  refine R_row0 66 71 ?_
  refine R_drop (H' := [.row (.slice none 0 0) 66 71 0 ([])]) (.cons_cons _ (.slnil)) ?_
  refine R_loop (σ := (Nat) × (Value)) (fun gs => ([(3, gs.2), (6, .slice a l.length c), (7, I (l.length : Int)), (8, I (gs.1 : Int))], M, [.row gs.2 66 71 (((l.take gs.1).map turnC).length) (((l.take gs.1).map turnC).flatMap Change.cells)])) (fun gs => gs.1 ≤ l.length) (fun gs => l.length - gs.1) (0, .slice none 0 0) ?_ (Env.sub_cons rfl <| Env.sub_cons rfl <| Env.sub_cons rfl <| Env.sub_cons rfl <| Env.sub_nil _) rfl (by simp) ?_
  · show 0 ≤ l.length; omega
  rintro ⟨i, v⟩ hok
  replace hok : i ≤ l.length := hok
  show Cx.R _ _ _ [(3, v), (6, .slice a l.length c), (7, I (l.length : Int)), (8, I (i : Int))] M [.row v 66 71 (((l.take i).map turnC).length) (((l.take i).map turnC).flatMap Change.cells)]
  have htk : ((l.take i).map turnC).length = i := by rw [List.length_map, List.length_take]; omega
  refine R_seq ?_
  refine R_region ?_
  refine R_r (D_lt rfl rfl) ?_
  refine R_nil ?_
  refine R_seq ?_
  refine R_cond rfl (fun h1 => ?_) (fun h1 => ?_)
  ·
    have h1p := of_decide_eq_true h1
    refine R_skip ?_
    refine R_seq ?_
    refine R_block ?_
    refine R_seq ?_
    refine R_region ?_
    obtain ⟨b1, ob1, csb1, elb1, frb1, rfl, hmb1, hxb1⟩ := hsl.at (i := i) (by first | omega | (simp; omega))
    obtain ⟨x2, hx2⟩ : ∃ e_, l[i]? = some e_ := ⟨_, List.getElem?_eq_getElem (by omega)⟩
    have hex2 := hxb1 i x2 hx2
    refine R_r (D_indexLn (i) Tryz.underlying31 Tryz.sizeOf66 rfl rfl (by first | rfl | omega) (by first | omega | (simp <;> omega))) ?_
    refine R_r (D_load rfl (Has.mem hmb1) (Rd.elemA (i := i) hex2 Tryz.underlying66 rfl inf66 rfl)) ?_
    refine R_o (E_alloc (Change.cells Change.zero) Tryz.zeroValue66 rfl (fun b3 => ?_))
    refine R_o (E_store (cs' := (Change.cells x2)) 0 rfl rfl rfl (Wr.agg Tryz.sizeOf66 rfl rfl rfl rfl) ?_)
    refine R_nil ?_
    refine R_region ?_
    refine R_r (D_move rfl) ?_
    refine R_r (D_fieldAddr fa66_0 rfl) ?_
    refine R_r (D_load rfl (Has.own 0 rfl) (Rd.one Tryz.isAgg9 rfl)) ?_
    refine R_r (D_fieldAddr fa66_2 rfl) ?_
    refine R_r (D_load rfl (Has.own 0 rfl) (rd24_Change_36 x2)) ?_
    refine R_r (D_fieldAddr fa66_1 rfl) ?_
    refine R_r (D_load rfl (Has.own 0 rfl) (rd24_Change_1 x2)) ?_
    refine R_r (D_build rfl (bd66_0_1_2 _ _ _)) ?_
    refine R_o (E_buildSlice (ps := [(0, .tmp 19)]) (vs := [(0, Change.val (⟨x2.path, x2.new, x2.old⟩ : Change))]) (cs := (Change.cells (⟨x2.path, x2.new, x2.old⟩ : Change))) rfl (bs31_1 _) (fun b4 => ?_))
    refine R_o (E_append (news := (Change.cells (⟨x2.path, x2.new, x2.old⟩ : Change))) 2 Tryz.underlying31 el66 rfl rfl rfl (Has.own 0 rfl) rfl rfl (by exact ones_Change _) (by unfold maxLen; omega) (by omega) (fun v5 hv5 => ?_))
    refine R_r (D_assign rfl) ?_
    refine R_nil ?_
    refine R_region ?_
    refine R_r (D_add rfl rfl rfl (by omega) (by omega)) ?_
    refine R_r (D_move rfl) ?_
    refine R_nil ?_
    refine R_drop (H' := [.row v5 66 71 (((l.take i).map turnC).length + 1) ((((l.take i).map turnC).flatMap Change.cells) ++ (Change.cells (⟨x2.path, x2.new, x2.old⟩ : Change)))]) (.cons _ (.cons _ (.cons_cons _ (.slnil)))) ?_
    exact R_back (i + 1, v5) (by show (i + 1) ≤ l.length; omega) (by show l.length - (i + 1) < l.length - i; omega) (Env.sub_cons rfl <| Env.sub_cons rfl <| Env.sub_cons rfl <| Env.sub_cons rfl <| Env.sub_nil _) rfl (by rw [take_snoc hx2]; simp [turnC])
  ·
    have h1p := of_decide_eq_false h1
    refine R_exit rfl ?_
    refine R_seq ?_
    have htl : l.take i = l := List.take_of_length_le (by omega)
    refine R_eqH (H' := [.row v 66 71 ((l.map turnC).length) ((l.map turnC).flatMap Change.cells)]) (by rw [htl]) ?_
    refine R_freezeRow (fun M6 hleM6 hrowM6 => ?_)
    have q7 := SlA.le hsl hleM6
    obtain ⟨az, cz, rfl, hcz, hsz⟩ := hrowM6.sla (l := l.map turnC) (enc := Change.cells) (fun _ => rfl) (by omega)
    refine R_region ?_
    refine R_r (D_move rfl) ?_
    refine R_r (D_assign rfl) ?_
    refine R_nil ?_
    refine R_ret ?_
    refine R_fin1 rfl rfl ?_
    exact ⟨rfl, az, cz, rfl, hcz, hsz⟩

theorem apply_outL {x : Node} {l : List Change} (hv : Valid x) {v : Value} {M' : PMem} (h : ((risesL l false [] = false ∧ v = .tuple #[.pointer none, I 130]) ∨ (risesL l false [] = true ∧ l.all (fun c => decide (valAt x c.path = c.old)) = false ∧ v = .tuple #[.pointer none, I 131]) ∨ (risesL l false [] = true ∧ l.all (fun c => decide (valAt x c.path = c.old)) = true ∧ l.all (fun c : Change => c.new.okN && !(decide (c.path = []) && decide (c.new.kind = 0))) = false ∧ v = .tuple #[.pointer none, I 132]) ∨ (risesL l false [] = true ∧ l.all (fun c => decide (valAt x c.path = c.old)) = true ∧ l.all (fun c : Change => c.new.okN && !(decide (c.path = []) && decide (c.new.kind = 0))) = true ∧ ∃ ls : List Spot, ls.Perm (spots x l) ∧ SortedS ls ∧ ((runG x l ls [] = none ∧ v = .tuple #[.pointer none, I 132]) ∨ ∃ done, runG x l ls [] = some done ∧ ((done = [] ∧ v = .tuple #[.pointer none, I 0]) ∨ ∃ b z, v = .tuple #[P_ b 0, I 0] ∧ TreeAt M' b z ∧ Grown z done))))) : (applyE x l ≠ 0 ∧ v = .tuple #[.pointer none, I (applyE x l)]) ∨ (applyE x l = 0 ∧ ∃ b z es, v = .tuple #[P_ b 0, I 0] ∧ TreeAt M' b z ∧ mergeA (x.flat []) l = some es ∧ Grown z es) := by
  refine apply_law hv ?_
  rcases h with h | h | h | ⟨h1, h2, h3, ls, hp, hs, h4⟩
  · exact .inl h
  · exact .inr (.inl h)
  · exact .inr (.inr (.inl h))
  · exact .inr (.inr (.inr ⟨h1, h2, h3, ls, hp, sorted_strict hs (hp.map Spot.path |>.nodup_iff.2 (spots_nodup hv h1 h2)), h4⟩))
theorem ApplyL_C (x : Node) (b : Nat) (l : List Change) (bl : Option Addr) (cl : Nat) (M : PMem) (w : World) (hM : Lies M w) (hb : TreeAt M b x) (hv : Valid x) (hwx : Node.wtL x.kids ≤ 5999) (hlc : l.length ≤ cl) (hxl : SlA M 71 (byEnc Change.cells) bl l) (hln : l.length ≤ 1073741824) (hpl : ∀ e ∈ l, e.path.length ≤ 1073741824) :
    Ends Tryz.prog 12 [P_ b 0, .slice bl l.length cl] w [] M (fun v M' H' => H' = [] ∧ ((applyE x l ≠ 0 ∧ v = .tuple #[.pointer none, I (applyE x l)]) ∨ (applyE x l = 0 ∧ ∃ b z es, v = .tuple #[P_ b 0, I 0] ∧ TreeAt M' b z ∧ mergeA (x.flat []) l = some es ∧ Grown z es))) := by
  have hpx := Node.flat_few x [] 6000 (by simp only [List.length_nil]; omega)
  refine (ApplyM_C x b l bl cl M w hM hb hv.fine.ris (by omega) hlc hxl hln hpl (fun s hs => ?_) (spots_nodup hv) (fun h1 h2 => spots_ok hv h1 (show l.all shapeB = true from h2))).mono (fun v M' H' _ hp => ⟨hp.1, apply_outL hv hp.2⟩)
  rcases spots_mem.1 hs with ⟨e, he, rfl⟩ | ⟨c, hc, _, rfl⟩
  · exact Nat.le_trans (hpx e he) (by omega)
  · exact hpl c hc
theorem dif_few {x y : Node} {l : List Change} (h : DifOK x y l) (hx : x.Fine) (hy : y.Fine) (wx : Node.wtL x.kids ≤ 5999) (wy : Node.wtL y.kids ≤ 80000000) : ∀ e ∈ l, e.path.length ≤ 80000001 := fun e he => by
  obtain ⟨n, rfl, hn⟩ := (h.2 e).1 he
  by_cases h0 : vN n (some x) = Val.zero
  · obtain ⟨m, hm⟩ := vN_thing (n := n) (x := y) (fun e => hn (by rw [h0, e]))
    exact Node.flat_few y [] 80000001 (by simp only [List.length_nil]; omega) _ ((flat_thing hy).2 ⟨n, m, rfl, hm⟩)
  · obtain ⟨m, hm⟩ := vN_thing h0
    exact Nat.le_trans (Node.flat_few x [] 6000 (by simp only [List.length_nil]; omega) _ ((flat_thing hx).2 ⟨n, m, rfl, hm⟩)) (by omega)
theorem NdA.single {M : PMem} {b el : Nat} {fr : Nat × Nat} {c : NodeC} {k : Node} (hm : M b = some (.cells (List.toArray c.cells) el fr)) (hn : NodeAt M c.cells k) : NdA M (some ⟨b, 0, none⟩) [k] := by
  refine .inr ⟨b, 0, c.cells, el, fr, rfl, hm, fun i x hx => ?_⟩
  cases i with
  | zero =>
    simp only [List.getElem?_cons_zero, Option.some.injEq] at hx
    subst hx
    have : chunk c.cells 0 41 0 = c.cells := by unfold chunk; rw [show 0 + 0 * 41 = 0 from rfl, List.drop_zero, List.take_of_length_le (by rw [NodeC.len]; omega)]
    rw [this]; exact hn
  | succ i => simp at hx
theorem SlA.pair {M : PMem} {b el : Nat} {fr : Nat × Nat} {c d : Change} (hm : M b = some (.cells (List.toArray (c.cells ++ d.cells)) el fr)) : SlA M 71 (byEnc Change.cells) (some ⟨b, 0, none⟩) [c, d] := by
  refine .inr ⟨b, 0, _, el, fr, rfl, hm, fun i x hx => ?_⟩
  match i, hx with
  | 0, hx => simp only [List.getElem?_cons_zero, Option.some.injEq] at hx; subst hx; rfl
  | 1, hx => simp only [List.getElem?_cons_succ, List.getElem?_cons_zero, Option.some.injEq] at hx; subst hx; rfl
  | n + 2, hx => simp at hx

end Go.Proofs.YtgmomhdammdjgaaGreat
