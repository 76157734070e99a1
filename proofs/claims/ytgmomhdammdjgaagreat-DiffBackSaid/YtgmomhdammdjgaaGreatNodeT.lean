/-
  A tree told as raw data (node, Node), walked. Conditions: trees of at most 2^30 parts.
-/
import Derived.Test.YtgmomhdammdjgaaGreatIterP
set_option linter.unusedVariables false
set_option linter.unusedSimpArgs false
set_option maxRecDepth 20000
set_option maxHeartbeats 4000000
namespace Go.Proofs.YtgmomhdammdjgaaGreat
open Go Go.Proofs Go.RowKit

theorem en58 : ∀ (args : Array Value) (w : World), (callFunc 58 args).run Tryz.prog w = .ok (.enter 58 args) w := enters_fn Tryz.func58 (by kernel_rfl) rfl
theorem en17 : ∀ (args : Array Value) (w : World), (callFunc 17 args).run Tryz.prog w = .ok (.enter 17 args) w := enters_fn Tryz.func17 (by kernel_rfl) rfl
theorem node_S (x : Node) (b : Nat) (nm : Str) (M : PMem) (w : World) (hM : Lies M w) (hb : TreeAt M b x) (hsz : x.size ≤ 1073741824) (ih : ∀ (k : Node), k.size < x.size → ∀ (b : Nat) (nm : Str) (M : PMem) (w : World) (hM : Lies M w), TreeAt M b k → k.size ≤ 1073741824 → Ends Tryz.prog 58 [P_ b 0, S nm] w [] M (fun v M' H' => H' = [] ∧ ∃ ks, v = NodeC.val ⟨nm, k.value, k.marks, ks⟩ ∧ KidsAt M' ks k.kids)) : Ends Tryz.prog 58 [P_ b 0, S nm] w [] M (fun v M' H' => H' = [] ∧ ∃ ks, v = NodeC.val ⟨nm, x.value, x.marks, ks⟩ ∧ KidsAt M' ks x.kids) := by
  have hxs := Node.size_eq x
  have hkl := Node.len_sizeL x.kids
  refine Ends.enterM (H := []) Tryz.func58 rfl Tryz.ntmps58 rfl (St.start hM) ?_
  refine R_seq ?_
  refine R_region ?_
  refine R_o (E_alloc (NodeC.cells NodeC.zero) Tryz.zeroValue30 rfl (fun b1 => ?_))
  refine R_nil ?_
  refine R_seq ?_
  refine Y_region [.blk b1 (.cells (List.toArray (NodeC.cells NodeC.zero)) 30)] mixed ?_
  refine Y_r 0 rfl (D_move rfl) ?_
  refine Y_r 1 rfl (D_move rfl) ?_
  refine Y_r 2 rfl (D_nilCheck rfl) ?_
  refine Y_r 3 rfl (D_fieldAddr fa112_0 rfl) ?_
  obtain ⟨ano2, cno2, ako2, cko2, elo2, fro2, hmo2, hcno2, hsno2, hcko2, hsko2⟩ := (hb).open
  refine Y_r 4 rfl (D_load rfl (Has.mem hmo2) (rd24_TreeC_0 (⟨x.value, x.marks, .slice ano2 ((x.kids.map Node.name).length) cno2, .slice ako2 x.kids.length cko2, ((1 + Node.sizeL x.kids : Nat) : Int), ((Node.depthL x.kids : Nat) : Int)⟩ : TreeC))) ?_
  refine Y_r 5 rfl (D_move rfl) ?_
  refine Y_r 6 rfl (D_nilCheck rfl) ?_
  refine Y_r 7 rfl (D_fieldAddr fa112_1 rfl) ?_
  refine Y_r 8 rfl (D_load rfl (Has.mem hmo2) (rd27_TreeC_35 (⟨x.value, x.marks, .slice ano2 ((x.kids.map Node.name).length) cno2, .slice ako2 x.kids.length cko2, ((1 + Node.sizeL x.kids : Nat) : Int), ((Node.depthL x.kids : Nat) : Int)⟩ : TreeC))) ?_
  refine Y_r 9 rfl (D_build rfl (bd30_0_1_2 _ _ _)) ?_
  refine Y_o 10 rfl (E_alloc (NodeC.cells NodeC.zero) Tryz.zeroValue30 rfl (fun b3 => ?_)) (PMem.le_refl _) (fun _ h => List.Sublist.subset (.cons_cons _ (.slnil)) h)
  refine Y_go _ (PMem.le_refl _) (fun _ h => List.Sublist.subset (.cons _ (.cons_cons _ (.slnil))) h) (fun _ h => h) ?_
  refine Y_o 11 rfl (E_store (cs' := (NodeC.cells (⟨nm, x.value, x.marks, .slice none 0 0⟩ : NodeC))) 0 rfl rfl rfl (Wr.agg Tryz.sizeOf30 rfl rfl rfl rfl) ?_) (PMem.le_refl _) (fun _ h => List.Sublist.subset (.cons _ (.cons_cons _ (.slnil))) h)
  refine Y_go _ (PMem.le_refl _) (fun _ h => List.Sublist.subset (.cons _ (.cons_cons _ (.slnil))) h) (fun _ h => h) ?_
  refine Y_nil ?_ (PMem.le_refl _) (fun _ h => List.Sublist.subset (.cons _ (.cons_cons _ (.slnil))) h)
  refine R_seq ?_
  refine R_seq ?_
  refine R_region ?_
  refine R_r (D_move rfl) ?_
  refine R_o (E_callP rfl rfl en94 (fun w hM => Children_C x b M w hM hb (by omega)) (fun vr4 Mr4 Hr4 hler4 hpr4 => ?_))
  have q5 := TreeAt.le hler4 hb
  have q6 := hler4 _ _ hmo2
  have q7 := SlA.le hsno2 hler4
  have q8 := SubA.le hsko2 hler4
  obtain ⟨rfl, bxr4, bsr4, rfl, hpsr4, hitr4⟩ := hpr4
  refine R_nil ?_
  refine R_block ?_
  refine R_row0 30 41 ?_
  refine R_weak (e' := [(4, P_ b1 0), (5, P_ b3 0), (19, .func (.func 118) #[] #[P_ bxr4 0])]) (Env.sub_cons rfl <| Env.sub_cons rfl <| Env.sub_cons rfl <| Env.sub_nil _) ?_
  refine R_rangeFunc (items := itemsC x.kids bsr4) (fun i_ Mv H_ => ∃ (v : Value), ∃ (l : List NodeC), NodesIs Mv l (x.kids.take i_) ∧ PMem.le Mr4 Mv ∧ H_ = [.row v 30 41 l.length (l.flatMap NodeC.cells), .blk b3 (.cells (List.toArray (NodeC.cells (⟨nm, x.value, x.marks, v⟩ : NodeC))) 30), .blk b1 (.cells (List.toArray (NodeC.cells NodeC.zero)) 30)]) rfl rfl en118 (hitr4) (fun y hy => by obtain ⟨j, hj, rfl⟩ := List.getElem_of_mem hy; obtain ⟨_, _, _, _, e⟩ := itemsC_of (List.getElem?_eq_getElem hj); rw [e]; rfl) rfl ⟨.slice none 0 0, [], NodesIs.nil _, PMem.le_refl _, rfl⟩ (fun i_ M_ H_ h_ => by obtain ⟨_, _, _, h_, _⟩ := h_; exact h_) (fun l_ D_ rec_ i_ args_ Mv H_ hi_ hJ_ => ?_) (fun D_ Mv H_ hJ_ => ?_)
  ·
    obtain ⟨v, l, hok_, hleV_, rfl⟩ := hJ_
    have q9 := TreeAt.le hleV_ q5
    have q10 := hleV_ _ _ q6
    have q11 := SlA.le q7 hleV_
    have q12 := SubA.le q8 hleV_
    obtain ⟨kk, bq, hkk, hbq, rfl⟩ := itemsC_of hi_
    have htq := (hpsr4.le hleV_).2 _ _ _ hbq hkk
    have hkm := Node.size_mem (List.mem_of_getElem? hkk)
    have hil := (List.getElem?_eq_some_iff.1 hkk).1
    have hll : l.length = i_ := by rw [hok_.1, List.length_take]; omega
    show Cx.R _ _ _ [(21, P_ bq 0), (20, S kk.name), (4, P_ b1 0), (5, P_ b3 0), (19, .func (.func 118) #[] #[P_ bxr4 0])] Mv [.row v 30 41 l.length (l.flatMap NodeC.cells), .blk b3 (.cells (List.toArray (NodeC.cells (⟨nm, x.value, x.marks, v⟩ : NodeC))) 30), .blk b1 (.cells (List.toArray (NodeC.cells NodeC.zero)) 30), .blk l_ (.loop rec_), .blk D_ (.deferred (some []))]
    refine R_seq ?_
    refine R_region ?_
    refine R_r (D_assign rfl) ?_
    refine R_nil ?_
    refine R_region ?_
    refine R_r (D_assign rfl) ?_
    refine R_nil ?_
    refine R_begin [.row v 30 41 l.length (l.flatMap NodeC.cells), .blk b3 (.cells (List.toArray (NodeC.cells (⟨nm, x.value, x.marks, v⟩ : NodeC))) 30), .blk b1 (.cells (List.toArray (NodeC.cells NodeC.zero)) 30)] rfl (fun rec2_ => ?_)
    refine R_weak (e' := [(4, P_ b1 0), (5, P_ b3 0), (6, S kk.name), (7, P_ bq 0), (19, .func (.func 118) #[] #[P_ bxr4 0]), (20, S kk.name), (21, P_ bq 0)]) (Env.sub_cons rfl <| Env.sub_cons rfl <| Env.sub_cons rfl <| Env.sub_cons rfl <| Env.sub_cons rfl <| Env.sub_cons rfl <| Env.sub_cons rfl <| Env.sub_nil _) ?_
    refine R_eqH (H' := [.row v 30 41 l.length (l.flatMap NodeC.cells), .blk b3 (.cells (List.toArray (NodeC.cells (⟨nm, x.value, x.marks, v⟩ : NodeC))) 30), .blk b1 (.cells (List.toArray (NodeC.cells NodeC.zero)) 30), .blk l_ (.loop rec2_), .blk D_ (.deferred (some []))]) rfl ?_
    refine R_rowShape (fun ad cap hv hcap => ?_)
    subst hv
    refine R_block ?_
    refine Z_region mixed ?_
    refine Z_enter 7 ?_
    refine Z_r 0 rfl (D_fieldAddr fa30_3 rfl) ?_
    refine Z_r 1 rfl (D_load rfl (Has.own 1 rfl) (Rd.one Tryz.isAgg28 rfl)) ?_
    refine Z_r 2 rfl (D_move rfl) ?_
    refine Z_r 3 rfl (D_move rfl) ?_
    refine Z_r 5 rfl (D_lenL Tryz.underlying28 rfl) ?_
    refine S_two 4 6 rfl rfl (PMem.le_refl _) (fun _ h => h) ?_ ?_
    ·
      refine (E_callP rfl rfl en58 (fun w hM => ih kk (Node.size_kid (List.mem_of_getElem? hkk)) bq kk.name Mv w hM htq (by omega)) (fun vr13 Mr13 Hr13 hler13 hpr13 => ?_))
      have q14 := TreeAt.le hler13 q9
      have q15 := hler13 _ _ q10
      have q16 := SlA.le q11 hler13
      have q17 := SubA.le q12 hler13
      have q18 := TreeAt.le hler13 htq
      obtain ⟨rfl, ksr13, rfl, hksr13⟩ := hpr13
      obtain ⟨ar13, cr13, rfl, hccr13, hAr13⟩ := hksr13.sl
      refine S_go [.row (.slice ad l.length cap) 30 41 l.length (l.flatMap NodeC.cells), .blk b3 (.cells (List.toArray (NodeC.cells (⟨nm, x.value, x.marks, .slice ad l.length cap⟩ : NodeC))) 30), .blk b1 (.cells (List.toArray (NodeC.cells NodeC.zero)) 30), .blk l_ (.loop rec2_), .blk D_ (.deferred (some []))] hler13 (fun _ h => List.Sublist.subset ((List.Sublist.refl _)) h) (fun _ h => List.Sublist.subset ((List.Sublist.refl _)) h) ?_
      refine S_one 6 rfl (E_buildSlice (ps := [(0, _)]) (vs := [(0, NodeC.val NodeC.zero)]) (cs := (NodeC.cells NodeC.zero)) rfl (bs28_1 _) (fun b19 => ?_)) (PMem.le_refl _) (fun _ h => h)
      refine S_go [.blk b19 (.cells (List.toArray (NodeC.cells NodeC.zero)) 30), .row (.slice ad l.length cap) 30 41 l.length (l.flatMap NodeC.cells), .blk b3 (.cells (List.toArray (NodeC.cells (⟨nm, x.value, x.marks, .slice ad l.length cap⟩ : NodeC))) 30), .blk b1 (.cells (List.toArray (NodeC.cells NodeC.zero)) 30), .blk l_ (.loop rec2_), .blk D_ (.deferred (some []))] (PMem.le_refl _) (fun _ h => List.Sublist.subset (.cons _ ((List.Sublist.refl _))) h) (fun _ h => List.Sublist.subset (.cons _ ((List.Sublist.refl _))) h) ?_
      refine Z_s rfl (PMem.le_refl _) (fun _ h => h) (E_append (news := (NodeC.cells NodeC.zero)) 1 Tryz.underlying28 el30 rfl rfl rfl (Has.own 0 rfl) rfl rfl (by exact ones_NodeC _ rfl) (by unfold maxLen; omega) (by omega) (fun v20 hv20 => ?_))
      refine R_perm (H' := [.row v20 30 41 (l.length + 1) ((l.flatMap NodeC.cells) ++ (NodeC.cells NodeC.zero)), .blk b19 (.cells (List.toArray (NodeC.cells NodeC.zero)) 30), .blk b3 (.cells (List.toArray (NodeC.cells (⟨nm, x.value, x.marks, .slice ad l.length cap⟩ : NodeC))) 30), .blk b1 (.cells (List.toArray (NodeC.cells NodeC.zero)) 30), .blk l_ (.loop rec2_), .blk D_ (.deferred (some []))]) (perm_front (l := ([.blk b19 (.cells (List.toArray (NodeC.cells NodeC.zero)) 30), .row v20 30 41 (l.length + 1) ((l.flatMap NodeC.cells) ++ (NodeC.cells NodeC.zero)), .blk b3 (.cells (List.toArray (NodeC.cells (⟨nm, x.value, x.marks, .slice ad l.length cap⟩ : NodeC))) 30), .blk b1 (.cells (List.toArray (NodeC.cells NodeC.zero)) 30), .blk l_ (.loop rec2_), .blk D_ (.deferred (some []))] : List Res)) 1 rfl) ?_
      refine R_openRow (fun _ h0 _ => absurd h0 (by omega)) (fun boo21 capo21 cso21 hvo hnco hcmo hcso htso => ?_)
      subst hvo
      refine Z_Y0 ?_
      refine Y_r 8 rfl (D_indexLn l.length Tryz.underlying28 Tryz.sizeOf30 rfl rfl (by simp) (by omega)) ?_
      refine Y_r 10 rfl (D_fieldAddr fa30_3 rfl) ?_
      refine Y_two 9 11 rfl rfl (PMem.le_refl _) (by simp) ?_ ?_
      ·
        refine (E_store (cs' := ((cso21).take (0 + l.length * 41) ++ NodeC.cells (⟨kk.name, kk.value, kk.marks, .slice ar13 kk.kids.length cr13⟩ : NodeC) ++ (cso21).drop ((0 + l.length * 41) + 41))) 0 rfl rfl rfl (Wr.agg (vs := NodeC.cells (⟨kk.name, kk.value, kk.marks, .slice ar13 kk.kids.length cr13⟩ : NodeC)) Tryz.sizeOf30 rfl rfl (by rw [hcso]; exact Nat.ble_eq_true_of_le (by omega))) ?_)
        refine Y_go [] (PMem.le_refl _) (by simp) (by simp) ?_
        refine Y_o 11 rfl (E_store (cs' := (NodeC.cells (⟨nm, x.value, x.marks, .slice (some ⟨boo21, 0, none⟩) (l.length + 1) capo21⟩ : NodeC))) 2 rfl rfl rfl (Wr.one Tryz.sizeOf28 rfl rfl rfl) ?_) (PMem.le_refl _) (by simp)
        refine Y_go [] (PMem.le_refl _) (by simp) (by simp) ?_
        refine Y_nil ?_ (PMem.le_refl _) (by simp)
        have hpl : (0 + l.length * 41) + 41 ≤ cso21.length := by omega
        refine R_closeRow hnco hcmo ((put_len (vs := NodeC.cells (⟨kk.name, kk.value, kk.marks, .slice ar13 kk.kids.length cr13⟩ : NodeC)) (k := 41) rfl hpl).trans hcso) (take_put (a := 0 + l.length * 41) (k := 41) (vs := NodeC.cells (⟨kk.name, kk.value, kk.marks, .slice ar13 kk.kids.length cr13⟩ : NodeC)) (by omega) htso (by rw [len_flat (enc := NodeC.cells) (n := 41) (fun _ => rfl)]; omega) rfl) ?_
        refine R_drop (H' := [.row (.slice (some ⟨boo21, 0, none⟩) (l.length + 1) capo21) 30 41 (l.length + 1) ((l.flatMap NodeC.cells) ++ NodeC.cells (⟨kk.name, kk.value, kk.marks, .slice ar13 kk.kids.length cr13⟩ : NodeC)), .blk b3 (.cells (List.toArray (NodeC.cells (⟨nm, x.value, x.marks, .slice (some ⟨boo21, 0, none⟩) (l.length + 1) capo21⟩ : NodeC))) 30), .blk b1 (.cells (List.toArray (NodeC.cells NodeC.zero)) 30), .blk l_ (.loop rec2_), .blk D_ (.deferred (some []))]) (.cons_cons _ (.cons _ (.cons_cons _ (.cons_cons _ (.cons_cons _ (.cons_cons _ (.slnil))))))) ?_
        exact R_endRound [.row (.slice (some ⟨boo21, 0, none⟩) (l.length + 1) capo21) 30 41 (l.length + 1) ((l.flatMap NodeC.cells) ++ NodeC.cells (⟨kk.name, kk.value, kk.marks, .slice ar13 kk.kids.length cr13⟩ : NodeC)), .blk b3 (.cells (List.toArray (NodeC.cells (⟨nm, x.value, x.marks, .slice (some ⟨boo21, 0, none⟩) (l.length + 1) capo21⟩ : NodeC))) 30), .blk b1 (.cells (List.toArray (NodeC.cells NodeC.zero)) 30)] rfl ⟨.slice (some ⟨boo21, 0, none⟩) (l.length + 1) capo21, l ++ [(⟨kk.name, kk.value, kk.marks, .slice ar13 kk.kids.length cr13⟩ : NodeC)], (by rw [take_snoc hkk]; exact (hok_.le hler13).snoc ⟨rfl, rfl, rfl, KidsAt.of hAr13 hccr13⟩), (PMem.le_trans hleV_ hler13), (by simp)⟩
      ·
        refine (E_store (cs' := (NodeC.cells (⟨nm, x.value, x.marks, .slice (some ⟨boo21, 0, none⟩) (l.length + 1) capo21⟩ : NodeC))) 2 rfl rfl rfl (Wr.one Tryz.sizeOf28 rfl rfl rfl) ?_)
        refine Y_go [] (PMem.le_refl _) (by simp) (by simp) ?_
        refine Y_o 9 rfl (E_store (cs' := ((cso21).take (0 + l.length * 41) ++ NodeC.cells (⟨kk.name, kk.value, kk.marks, .slice ar13 kk.kids.length cr13⟩ : NodeC) ++ (cso21).drop ((0 + l.length * 41) + 41))) 0 rfl rfl rfl (Wr.agg (vs := NodeC.cells (⟨kk.name, kk.value, kk.marks, .slice ar13 kk.kids.length cr13⟩ : NodeC)) Tryz.sizeOf30 rfl rfl (by rw [hcso]; exact Nat.ble_eq_true_of_le (by omega))) ?_) (PMem.le_refl _) (by simp)
        refine Y_go [] (PMem.le_refl _) (by simp) (by simp) ?_
        refine Y_nil ?_ (PMem.le_refl _) (by simp)
        have hpl : (0 + l.length * 41) + 41 ≤ cso21.length := by omega
        refine R_closeRow hnco hcmo ((put_len (vs := NodeC.cells (⟨kk.name, kk.value, kk.marks, .slice ar13 kk.kids.length cr13⟩ : NodeC)) (k := 41) rfl hpl).trans hcso) (take_put (a := 0 + l.length * 41) (k := 41) (vs := NodeC.cells (⟨kk.name, kk.value, kk.marks, .slice ar13 kk.kids.length cr13⟩ : NodeC)) (by omega) htso (by rw [len_flat (enc := NodeC.cells) (n := 41) (fun _ => rfl)]; omega) rfl) ?_
        refine R_drop (H' := [.row (.slice (some ⟨boo21, 0, none⟩) (l.length + 1) capo21) 30 41 (l.length + 1) ((l.flatMap NodeC.cells) ++ NodeC.cells (⟨kk.name, kk.value, kk.marks, .slice ar13 kk.kids.length cr13⟩ : NodeC)), .blk b3 (.cells (List.toArray (NodeC.cells (⟨nm, x.value, x.marks, .slice (some ⟨boo21, 0, none⟩) (l.length + 1) capo21⟩ : NodeC))) 30), .blk b1 (.cells (List.toArray (NodeC.cells NodeC.zero)) 30), .blk l_ (.loop rec2_), .blk D_ (.deferred (some []))]) (.cons_cons _ (.cons _ (.cons_cons _ (.cons_cons _ (.cons_cons _ (.cons_cons _ (.slnil))))))) ?_
        exact R_endRound [.row (.slice (some ⟨boo21, 0, none⟩) (l.length + 1) capo21) 30 41 (l.length + 1) ((l.flatMap NodeC.cells) ++ NodeC.cells (⟨kk.name, kk.value, kk.marks, .slice ar13 kk.kids.length cr13⟩ : NodeC)), .blk b3 (.cells (List.toArray (NodeC.cells (⟨nm, x.value, x.marks, .slice (some ⟨boo21, 0, none⟩) (l.length + 1) capo21⟩ : NodeC))) 30), .blk b1 (.cells (List.toArray (NodeC.cells NodeC.zero)) 30)] rfl ⟨.slice (some ⟨boo21, 0, none⟩) (l.length + 1) capo21, l ++ [(⟨kk.name, kk.value, kk.marks, .slice ar13 kk.kids.length cr13⟩ : NodeC)], (by rw [take_snoc hkk]; exact (hok_.le hler13).snoc ⟨rfl, rfl, rfl, KidsAt.of hAr13 hccr13⟩), (PMem.le_trans hleV_ hler13), (by simp)⟩
    ·
      refine (E_buildSlice (ps := [(0, _)]) (vs := [(0, NodeC.val NodeC.zero)]) (cs := (NodeC.cells NodeC.zero)) rfl (bs28_1 _) (fun b22 => ?_))
      refine S_go [.blk b22 (.cells (List.toArray (NodeC.cells NodeC.zero)) 30), .row (.slice ad l.length cap) 30 41 l.length (l.flatMap NodeC.cells), .blk b3 (.cells (List.toArray (NodeC.cells (⟨nm, x.value, x.marks, .slice ad l.length cap⟩ : NodeC))) 30), .blk b1 (.cells (List.toArray (NodeC.cells NodeC.zero)) 30), .blk l_ (.loop rec2_), .blk D_ (.deferred (some []))] (PMem.le_refl _) (fun _ h => List.Sublist.subset (.cons _ ((List.Sublist.refl _))) h) (fun _ h => List.Sublist.subset (.cons _ ((List.Sublist.refl _))) h) ?_
      refine S_one 4 rfl (E_callP rfl rfl en58 (fun w hM => ih kk (Node.size_kid (List.mem_of_getElem? hkk)) bq kk.name Mv w hM htq (by omega)) (fun vr23 Mr23 Hr23 hler23 hpr23 => ?_)) (PMem.le_refl _) (fun _ h => h)
      have q24 := TreeAt.le hler23 q9
      have q25 := hler23 _ _ q10
      have q26 := SlA.le q11 hler23
      have q27 := SubA.le q12 hler23
      have q28 := TreeAt.le hler23 htq
      obtain ⟨rfl, ksr23, rfl, hksr23⟩ := hpr23
      obtain ⟨ar23, cr23, rfl, hccr23, hAr23⟩ := hksr23.sl
      refine S_go [.blk b22 (.cells (List.toArray (NodeC.cells NodeC.zero)) 30), .row (.slice ad l.length cap) 30 41 l.length (l.flatMap NodeC.cells), .blk b3 (.cells (List.toArray (NodeC.cells (⟨nm, x.value, x.marks, .slice ad l.length cap⟩ : NodeC))) 30), .blk b1 (.cells (List.toArray (NodeC.cells NodeC.zero)) 30), .blk l_ (.loop rec2_), .blk D_ (.deferred (some []))] hler23 (fun _ h => List.Sublist.subset ((List.Sublist.refl _)) h) (fun _ h => List.Sublist.subset ((List.Sublist.refl _)) h) ?_
      refine Z_s rfl (PMem.le_refl _) (fun _ h => h) (E_append (news := (NodeC.cells NodeC.zero)) 1 Tryz.underlying28 el30 rfl rfl rfl (Has.own 0 rfl) rfl rfl (by exact ones_NodeC _ rfl) (by unfold maxLen; omega) (by omega) (fun v29 hv29 => ?_))
      refine R_perm (H' := [.row v29 30 41 (l.length + 1) ((l.flatMap NodeC.cells) ++ (NodeC.cells NodeC.zero)), .blk b22 (.cells (List.toArray (NodeC.cells NodeC.zero)) 30), .blk b3 (.cells (List.toArray (NodeC.cells (⟨nm, x.value, x.marks, .slice ad l.length cap⟩ : NodeC))) 30), .blk b1 (.cells (List.toArray (NodeC.cells NodeC.zero)) 30), .blk l_ (.loop rec2_), .blk D_ (.deferred (some []))]) (perm_front (l := ([.blk b22 (.cells (List.toArray (NodeC.cells NodeC.zero)) 30), .row v29 30 41 (l.length + 1) ((l.flatMap NodeC.cells) ++ (NodeC.cells NodeC.zero)), .blk b3 (.cells (List.toArray (NodeC.cells (⟨nm, x.value, x.marks, .slice ad l.length cap⟩ : NodeC))) 30), .blk b1 (.cells (List.toArray (NodeC.cells NodeC.zero)) 30), .blk l_ (.loop rec2_), .blk D_ (.deferred (some []))] : List Res)) 1 rfl) ?_
      refine R_openRow (fun _ h0 _ => absurd h0 (by omega)) (fun boo30 capo30 cso30 hvo hnco hcmo hcso htso => ?_)
      subst hvo
      refine Z_Y0 ?_
      refine Y_r 8 rfl (D_indexLn l.length Tryz.underlying28 Tryz.sizeOf30 rfl rfl (by simp) (by omega)) ?_
      refine Y_r 10 rfl (D_fieldAddr fa30_3 rfl) ?_
      refine Y_two 9 11 rfl rfl (PMem.le_refl _) (by simp) ?_ ?_
      ·
        refine (E_store (cs' := ((cso30).take (0 + l.length * 41) ++ NodeC.cells (⟨kk.name, kk.value, kk.marks, .slice ar23 kk.kids.length cr23⟩ : NodeC) ++ (cso30).drop ((0 + l.length * 41) + 41))) 0 rfl rfl rfl (Wr.agg (vs := NodeC.cells (⟨kk.name, kk.value, kk.marks, .slice ar23 kk.kids.length cr23⟩ : NodeC)) Tryz.sizeOf30 rfl rfl (by rw [hcso]; exact Nat.ble_eq_true_of_le (by omega))) ?_)
        refine Y_go [] (PMem.le_refl _) (by simp) (by simp) ?_
        refine Y_o 11 rfl (E_store (cs' := (NodeC.cells (⟨nm, x.value, x.marks, .slice (some ⟨boo30, 0, none⟩) (l.length + 1) capo30⟩ : NodeC))) 2 rfl rfl rfl (Wr.one Tryz.sizeOf28 rfl rfl rfl) ?_) (PMem.le_refl _) (by simp)
        refine Y_go [] (PMem.le_refl _) (by simp) (by simp) ?_
        refine Y_nil ?_ (PMem.le_refl _) (by simp)
        have hpl : (0 + l.length * 41) + 41 ≤ cso30.length := by omega
        refine R_closeRow hnco hcmo ((put_len (vs := NodeC.cells (⟨kk.name, kk.value, kk.marks, .slice ar23 kk.kids.length cr23⟩ : NodeC)) (k := 41) rfl hpl).trans hcso) (take_put (a := 0 + l.length * 41) (k := 41) (vs := NodeC.cells (⟨kk.name, kk.value, kk.marks, .slice ar23 kk.kids.length cr23⟩ : NodeC)) (by omega) htso (by rw [len_flat (enc := NodeC.cells) (n := 41) (fun _ => rfl)]; omega) rfl) ?_
        refine R_drop (H' := [.row (.slice (some ⟨boo30, 0, none⟩) (l.length + 1) capo30) 30 41 (l.length + 1) ((l.flatMap NodeC.cells) ++ NodeC.cells (⟨kk.name, kk.value, kk.marks, .slice ar23 kk.kids.length cr23⟩ : NodeC)), .blk b3 (.cells (List.toArray (NodeC.cells (⟨nm, x.value, x.marks, .slice (some ⟨boo30, 0, none⟩) (l.length + 1) capo30⟩ : NodeC))) 30), .blk b1 (.cells (List.toArray (NodeC.cells NodeC.zero)) 30), .blk l_ (.loop rec2_), .blk D_ (.deferred (some []))]) (.cons_cons _ (.cons _ (.cons_cons _ (.cons_cons _ (.cons_cons _ (.cons_cons _ (.slnil))))))) ?_
        exact R_endRound [.row (.slice (some ⟨boo30, 0, none⟩) (l.length + 1) capo30) 30 41 (l.length + 1) ((l.flatMap NodeC.cells) ++ NodeC.cells (⟨kk.name, kk.value, kk.marks, .slice ar23 kk.kids.length cr23⟩ : NodeC)), .blk b3 (.cells (List.toArray (NodeC.cells (⟨nm, x.value, x.marks, .slice (some ⟨boo30, 0, none⟩) (l.length + 1) capo30⟩ : NodeC))) 30), .blk b1 (.cells (List.toArray (NodeC.cells NodeC.zero)) 30)] rfl ⟨.slice (some ⟨boo30, 0, none⟩) (l.length + 1) capo30, l ++ [(⟨kk.name, kk.value, kk.marks, .slice ar23 kk.kids.length cr23⟩ : NodeC)], (by rw [take_snoc hkk]; exact (hok_.le hler23).snoc ⟨rfl, rfl, rfl, KidsAt.of hAr23 hccr23⟩), (PMem.le_trans hleV_ hler23), (by simp)⟩
      ·
        refine (E_store (cs' := (NodeC.cells (⟨nm, x.value, x.marks, .slice (some ⟨boo30, 0, none⟩) (l.length + 1) capo30⟩ : NodeC))) 2 rfl rfl rfl (Wr.one Tryz.sizeOf28 rfl rfl rfl) ?_)
        refine Y_go [] (PMem.le_refl _) (by simp) (by simp) ?_
        refine Y_o 9 rfl (E_store (cs' := ((cso30).take (0 + l.length * 41) ++ NodeC.cells (⟨kk.name, kk.value, kk.marks, .slice ar23 kk.kids.length cr23⟩ : NodeC) ++ (cso30).drop ((0 + l.length * 41) + 41))) 0 rfl rfl rfl (Wr.agg (vs := NodeC.cells (⟨kk.name, kk.value, kk.marks, .slice ar23 kk.kids.length cr23⟩ : NodeC)) Tryz.sizeOf30 rfl rfl (by rw [hcso]; exact Nat.ble_eq_true_of_le (by omega))) ?_) (PMem.le_refl _) (by simp)
        refine Y_go [] (PMem.le_refl _) (by simp) (by simp) ?_
        refine Y_nil ?_ (PMem.le_refl _) (by simp)
        have hpl : (0 + l.length * 41) + 41 ≤ cso30.length := by omega
        refine R_closeRow hnco hcmo ((put_len (vs := NodeC.cells (⟨kk.name, kk.value, kk.marks, .slice ar23 kk.kids.length cr23⟩ : NodeC)) (k := 41) rfl hpl).trans hcso) (take_put (a := 0 + l.length * 41) (k := 41) (vs := NodeC.cells (⟨kk.name, kk.value, kk.marks, .slice ar23 kk.kids.length cr23⟩ : NodeC)) (by omega) htso (by rw [len_flat (enc := NodeC.cells) (n := 41) (fun _ => rfl)]; omega) rfl) ?_
        refine R_drop (H' := [.row (.slice (some ⟨boo30, 0, none⟩) (l.length + 1) capo30) 30 41 (l.length + 1) ((l.flatMap NodeC.cells) ++ NodeC.cells (⟨kk.name, kk.value, kk.marks, .slice ar23 kk.kids.length cr23⟩ : NodeC)), .blk b3 (.cells (List.toArray (NodeC.cells (⟨nm, x.value, x.marks, .slice (some ⟨boo30, 0, none⟩) (l.length + 1) capo30⟩ : NodeC))) 30), .blk b1 (.cells (List.toArray (NodeC.cells NodeC.zero)) 30), .blk l_ (.loop rec2_), .blk D_ (.deferred (some []))]) (.cons_cons _ (.cons _ (.cons_cons _ (.cons_cons _ (.cons_cons _ (.cons_cons _ (.slnil))))))) ?_
        exact R_endRound [.row (.slice (some ⟨boo30, 0, none⟩) (l.length + 1) capo30) 30 41 (l.length + 1) ((l.flatMap NodeC.cells) ++ NodeC.cells (⟨kk.name, kk.value, kk.marks, .slice ar23 kk.kids.length cr23⟩ : NodeC)), .blk b3 (.cells (List.toArray (NodeC.cells (⟨nm, x.value, x.marks, .slice (some ⟨boo30, 0, none⟩) (l.length + 1) capo30⟩ : NodeC))) 30), .blk b1 (.cells (List.toArray (NodeC.cells NodeC.zero)) 30)] rfl ⟨.slice (some ⟨boo30, 0, none⟩) (l.length + 1) capo30, l ++ [(⟨kk.name, kk.value, kk.marks, .slice ar23 kk.kids.length cr23⟩ : NodeC)], (by rw [take_snoc hkk]; exact (hok_.le hler23).snoc ⟨rfl, rfl, rfl, KidsAt.of hAr23 hccr23⟩), (PMem.le_trans hleV_ hler23), (by simp)⟩
  ·
    obtain ⟨v, l, hok_, hleV_, rfl⟩ := hJ_
    rw [itemsC_len hpsr4.1, List.take_length] at hok_
    have q31 := TreeAt.le hleV_ q5
    have q32 := hleV_ _ _ q6
    have q33 := SlA.le q7 hleV_
    have q34 := SubA.le q8 hleV_
    show Cx.R _ _ _ [(4, P_ b1 0), (5, P_ b3 0), (19, .func (.func 118) #[] #[P_ bxr4 0])] Mv [.row v 30 41 l.length (l.flatMap NodeC.cells), .blk b3 (.cells (List.toArray (NodeC.cells (⟨nm, x.value, x.marks, v⟩ : NodeC))) 30), .blk b1 (.cells (List.toArray (NodeC.cells NodeC.zero)) 30), .blk D_ (.deferred (some []))]
    refine R_seq ?_
    refine R_freezeRow (fun M35 hleM35 hrowM35 => ?_)
    have q36 := TreeAt.le hleM35 q31
    have q37 := hleM35 _ _ q32
    have q38 := SlA.le q33 hleM35
    have q39 := SubA.le q34 hleM35
    obtain ⟨av, cv, rfl, hcv, hkv, hkd⟩ := hrowM35.kids (hok_.le hleM35)
    refine R_region ?_
    refine R_r (D_load rfl (Has.own 0 rfl) (rd30_NodeC_0 (⟨nm, x.value, x.marks, .slice av x.kids.length cv⟩ : NodeC))) ?_
    refine R_o (E_store (cs' := (NodeC.cells (⟨nm, x.value, x.marks, .slice av x.kids.length cv⟩ : NodeC))) 1 rfl rfl rfl (Wr.agg Tryz.sizeOf30 rfl rfl rfl rfl) ?_)
    refine R_nil ?_
    refine R_ret ?_
    refine R_finM [.blk b3 (.cells (List.toArray (NodeC.cells (⟨nm, x.value, x.marks, .slice av x.kids.length cv⟩ : NodeC))) 30), .blk b1 (.cells (List.toArray (NodeC.cells (⟨nm, x.value, x.marks, .slice av x.kids.length cv⟩ : NodeC))) 30)] rfl ?_
    refine R_finC rfl rfl (Has.own 1 rfl) (rd30_NodeC_0 (⟨nm, x.value, x.marks, .slice av x.kids.length cv⟩ : NodeC)) [] (by simp) ?_
    exact ⟨rfl, _, rfl, hkd⟩

theorem node_C : ∀ (n : Nat) (x : Node), x.size = n → ∀ (b : Nat) (nm : Str) (M : PMem) (w : World) (hM : Lies M w), TreeAt M b x → x.size ≤ 1073741824 → Ends Tryz.prog 58 [P_ b 0, S nm] w [] M (fun v M' H' => H' = [] ∧ ∃ ks, v = NodeC.val ⟨nm, x.value, x.marks, ks⟩ ∧ KidsAt M' ks x.kids) := by
  intro n
  induction n using Nat.strongRecOn with
  | _ n IH => exact fun x hx b nm M w hM hb hs => node_S x b nm M w hM hb hs (fun k hk b nm M w hM h1 h2 => IH k.size (by omega) k rfl b nm M w hM h1 h2)

theorem NodeT_C (x : Node) (b : Nat) (M : PMem) (w : World) (hM : Lies M w) (hb : TreeAt M b x) (hsz : x.size ≤ 1073741824) : Ends Tryz.prog 17 [P_ b 0] w [] M (fun v M' H' => H' = [] ∧ ∃ ks, v = NodeC.val ⟨[], x.value, x.marks, ks⟩ ∧ KidsAt M' ks x.kids) := by
  refine Ends.enter (H := []) Tryz.func17 rfl Tryz.ntmps17 rfl (St.start hM) ?_
  refine R_seq ?_
  refine R_region ?_
  refine R_o (E_alloc (NodeC.cells NodeC.zero) Tryz.zeroValue30 rfl (fun b1 => ?_))
  refine R_nil ?_
  refine R_seq ?_
  refine R_region ?_
  refine R_r (D_move rfl) ?_
  refine R_o (E_callP rfl rfl en58 (fun w hM => node_C _ x rfl b [] M w hM hb hsz) (fun vr2 Mr2 Hr2 hler2 hpr2 => ?_))
  have q3 := TreeAt.le hler2 hb
  obtain ⟨rfl, ksr2, rfl, hksr2⟩ := hpr2
  obtain ⟨ar2, cr2, rfl, hccr2, hAr2⟩ := hksr2.sl
  refine R_o (E_store (cs' := (NodeC.cells (⟨[], x.value, x.marks, .slice ar2 x.kids.length cr2⟩ : NodeC))) 0 rfl rfl rfl (Wr.agg Tryz.sizeOf30 rfl rfl rfl rfl) ?_)
  refine R_nil ?_
  refine R_ret ?_
  refine R_finC rfl rfl (Has.own 0 rfl) (rd30_NodeC_0 (⟨[], x.value, x.marks, .slice ar2 x.kids.length cr2⟩ : NodeC)) [] (by simp) ?_
  exact ⟨rfl, _, rfl, hksr2⟩

end Go.Proofs.YtgmomhdammdjgaaGreat
