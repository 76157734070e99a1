/-
  The document's changes (twineref13), walked: a tree grown from paths, a list of changes applied. Conditions: names and paths within 2^30 bytes.
-/
import Derived.Test.YtgmomhdammdjgaaGreatRef13
set_option linter.unusedVariables false
set_option linter.unusedSimpArgs false
set_option maxRecDepth 20000
set_option maxHeartbeats 4000000
namespace Go.Proofs.YtgmomhdammdjgaaGreat
open Go Go.Proofs Go.RowKit

theorem en85 : ∀ (args : Array Value) (w : World), (callFunc 85 args).run Tryz.prog w = .ok (.enter 85 args) w := enters_fn Tryz.func85 (by kernel_rfl) rfl
theorem fa99_2 : Fa Tryz.prog 99 2 36 := Fa.mk Tryz.underlying99 rfl rfl (fun w => ⟨3, Tryz.sizeOf27 w⟩)
theorem bd30_0_1_2 (x0 : Str) (x1 : Val) (x2 : Marks) : Bd Tryz.prog 30 [(0, S x0), (1, Val.val x1), (2, Marks.val x2)] (NodeC.val ⟨x0, x1, x2, .slice none 0 0⟩) := fun w => by kernel_rfl
theorem en41 : ∀ (args : Array Value) (w : World), (callFunc 41 args).run Tryz.prog w = .ok (.enter 41 args) w := enters_fn Tryz.func41 (by kernel_rfl) rfl
theorem bd30_ : Bd Tryz.prog 30 [] (NodeC.val NodeC.zero) := fun w => by kernel_rfl
theorem inf99 : (Tryz.prog.info? 99).map (·.size) = some 40 := by kernel_rfl
theorem bd99_0_1 (x0 : Str) (x1 : Val) : Bd Tryz.prog 99 [(0, S x0), (1, Val.val x1)] (Entry.val ⟨x0, x1, Marks.zero⟩) := fun w => by kernel_rfl

theorem grow_S (l : List Entry) (at_ : Nat) (a : Option Addr) (c : Nat) (nm : Str) (M : PMem) (w : World) (hM : Lies M w) (hc : l.length ≤ c) (hsl : SlA M 40 (byEnc Entry.cells) a l) (hat : at_ < l.length) (hn : l.length ≤ 4294967296) (hpl : ∀ e ∈ l, e.path.length ≤ 1073741824) (ih : ∀ at2 : Nat, l.length - at2 < l.length - at_ → ∀ (a : Option Addr) (c : Nat) (nm : Str) (M : PMem) (w : World) (hM : Lies M w), l.length ≤ c → SlA M 40 (byEnc Entry.cells) a l → at2 < l.length → Ends Tryz.prog 85 [.slice a l.length c, I at2, S nm] w [] M (fun v M' H' => H' = [] ∧ ∃ e ks n kv, l[at2]? = some e ∧ GrowR l e.path (at2 + 1) ks n ∧ at2 < n ∧ n ≤ l.length ∧ v = .tuple #[NodeC.val ⟨nm, e.value, e.marks, kv⟩, I (n : Nat)] ∧ KidsAt M' kv ks)) : Ends Tryz.prog 85 [.slice a l.length c, I (at_ : Int), S nm] w [] M (fun v M' H' => H' = [] ∧ ∃ e ks n kv, l[at_]? = some e ∧ GrowR l e.path (at_ + 1) ks n ∧ at_ < n ∧ n ≤ l.length ∧ v = .tuple #[NodeC.val ⟨nm, e.value, e.marks, kv⟩, I (n : Nat)] ∧ KidsAt M' kv ks) := by
  refine Ends.enter (H := []) Tryz.func85 rfl Tryz.ntmps85 rfl (St.start hM) ?_
  refine R_seq ?_
  refine R_region ?_
  refine R_o (E_alloc (NodeC.cells NodeC.zero) Tryz.zeroValue30 rfl (fun b1 => ?_))
  refine R_r (D_assign rfl) ?_
  refine R_nil ?_
  refine R_seq ?_
  refine Y_region [.blk b1 (.cells (List.toArray (NodeC.cells NodeC.zero)) 30)] mixed ?_
  refine Y_r 0 rfl (D_move rfl) ?_
  refine Y_r 1 rfl (D_move rfl) ?_
  refine Y_r 2 rfl (D_move rfl) ?_
  obtain ⟨b2, ob2, csb2, elb2, frb2, rfl, hmb2, hxb2⟩ := hsl.at (i := at_) (by first | omega | (simp; omega))
  obtain ⟨x3, hx3⟩ : ∃ e_, l[at_]? = some e_ := ⟨_, List.getElem?_eq_getElem (by omega)⟩
  have hex3 := hxb2 at_ x3 hx3
  refine Y_r 3 rfl (D_indexLn (at_) Tryz.underlying94 Tryz.sizeOf99 rfl rfl (by first | rfl | omega) (by first | omega | (simp <;> omega))) ?_
  refine Y_r 4 rfl (D_fieldAddr fa99_1 rfl) ?_
  refine Y_r 5 rfl (D_load rfl (Has.mem hmb2) (Rd.elemP (i := at_) (k := 1) hex3 Tryz.underlying24 rfl inf24 rfl rfl rfl)) ?_
  refine Y_r 6 rfl (D_move rfl) ?_
  refine Y_r 7 rfl (D_move rfl) ?_
  refine Y_r 8 rfl (D_indexLn (at_) Tryz.underlying94 Tryz.sizeOf99 rfl rfl (by first | rfl | omega) (by first | omega | (simp <;> omega))) ?_
  refine Y_r 9 rfl (D_fieldAddr fa99_2 rfl) ?_
  refine Y_r 10 rfl (D_load rfl (Has.mem hmb2) (Rd.elemP (i := at_) (k := 36) hex3 Tryz.underlying27 rfl inf27 rfl rfl rfl)) ?_
  refine Y_r 11 rfl (D_build rfl (bd30_0_1_2 _ _ _)) ?_
  refine Y_o 12 rfl (E_alloc (NodeC.cells NodeC.zero) Tryz.zeroValue30 rfl (fun b4 => ?_)) (PMem.le_refl _) (fun _ h => List.Sublist.subset (.cons_cons _ (.slnil)) h)
  refine Y_go _ (PMem.le_refl _) (fun _ h => List.Sublist.subset (.cons _ (.cons_cons _ (.slnil))) h) (fun _ h => h) ?_
  refine Y_o 13 rfl (E_store (cs' := (NodeC.cells (⟨nm, x3.value, x3.marks, .slice none 0 0⟩ : NodeC))) 0 rfl rfl rfl (Wr.agg Tryz.sizeOf30 rfl rfl rfl rfl) ?_) (PMem.le_refl _) (fun _ h => List.Sublist.subset (.cons _ (.cons_cons _ (.slnil))) h)
  refine Y_go _ (PMem.le_refl _) (fun _ h => List.Sublist.subset (.cons _ (.cons_cons _ (.slnil))) h) (fun _ h => h) ?_
  refine Y_nil ?_ (PMem.le_refl _) (fun _ h => List.Sublist.subset (.cons _ (.cons_cons _ (.slnil))) h)
  refine R_seq ?_
  refine R_region ?_
  refine R_r (D_move rfl) ?_
  refine R_r (D_move rfl) ?_
  refine R_r (D_indexLn (at_) Tryz.underlying94 Tryz.sizeOf99 rfl rfl (by first | rfl | omega) (by first | omega | (simp <;> omega))) ?_
  refine R_r (D_fieldAddr fa99_0 rfl) ?_
  refine R_r (D_load rfl (Has.mem hmb2) (Rd.elem0 (i := at_) hex3 Tryz.isAgg9 rfl rfl)) ?_
  refine R_r (D_assign rfl) ?_
  refine R_nil ?_
  refine R_seq ?_
  refine R_region ?_
  refine R_r (D_move rfl) ?_
  refine R_r (D_add rfl rfl rfl (by omega) (by omega)) ?_
  refine R_r (D_assign rfl) ?_
  refine R_nil ?_
  refine R_seq ?_
  refine R_block ?_
  have he0 := hx3
  refine R_row0 30 41 ?_
  refine R_loop (σ := (Value) × (List NodeC) × (List Node) × (Nat) × (PMem)) (fun gs => ([(0, .slice (some ⟨b2, ob2, none⟩) l.length c), (1, I (gs.2.2.2.1 : Int)), (6, P_ b1 0), (8, P_ b4 0), (9, S x3.path)], gs.2.2.2.2, [.row gs.1 30 41 gs.2.1.length (gs.2.1.flatMap NodeC.cells), .blk b4 (.cells (List.toArray (NodeC.cells (⟨nm, x3.value, x3.marks, gs.1⟩ : NodeC))) 30), .blk b1 (.cells (List.toArray (NodeC.cells NodeC.zero)) 30)])) (fun gs => PMem.le M gs.2.2.2.2 ∧ gs.1.oneCell' = true ∧ NodesIs gs.2.2.2.2 gs.2.1 gs.2.2.1 ∧ at_ < gs.2.2.2.1 ∧ gs.2.2.2.1 ≤ l.length ∧ gs.2.2.1.length ≤ gs.2.2.2.1 ∧ ∀ (rest : List Node) (n2 : Nat), GrowR l x3.path gs.2.2.2.1 rest n2 → GrowR l x3.path (at_ + 1) (gs.2.2.1 ++ rest) n2) (fun gs => l.length - gs.2.2.2.1) ((.slice none 0 0 : Value), [], [], at_ + 1, M) ?_ (Env.sub_cons rfl <| Env.sub_cons rfl <| Env.sub_cons rfl <| Env.sub_cons rfl <| Env.sub_cons rfl <| Env.sub_nil _) rfl rfl ?_
  · show PMem.le M M ∧ (.slice none 0 0 : Value).oneCell' = true ∧ NodesIs M ([]) ([]) ∧ at_ < (at_ + 1) ∧ (at_ + 1) ≤ l.length ∧ ([]).length ≤ (at_ + 1) ∧ ∀ (rest : List Node) (n2 : Nat), GrowR l x3.path (at_ + 1) rest n2 → GrowR l x3.path (at_ + 1) (([]) ++ rest) n2; exact ⟨PMem.le_refl _, rfl, NodesIs.nil _, by omega, by omega, by simp, fun rest n2 h => h⟩
  rintro ⟨v, ln, ks, j, Mv⟩ hok
  replace hok : PMem.le M Mv ∧ v.oneCell' = true ∧ NodesIs Mv ln ks ∧ at_ < j ∧ j ≤ l.length ∧ ks.length ≤ j ∧ ∀ (rest : List Node) (n2 : Nat), GrowR l x3.path j rest n2 → GrowR l x3.path (at_ + 1) (ks ++ rest) n2 := hok
  show Cx.R _ _ _ [(0, .slice (some ⟨b2, ob2, none⟩) l.length c), (1, I (j : Int)), (6, P_ b1 0), (8, P_ b4 0), (9, S x3.path)] Mv [.row v 30 41 ln.length (ln.flatMap NodeC.cells), .blk b4 (.cells (List.toArray (NodeC.cells (⟨nm, x3.value, x3.marks, v⟩ : NodeC))) 30), .blk b1 (.cells (List.toArray (NodeC.cells NodeC.zero)) 30)]
  obtain ⟨hleV, ho, hns, hj, hjl, hkl, hg⟩ := hok
  have q5 := SlA.le hsl hleV
  have q6 := hleV _ _ hmb2
  have hll : ln.length = ks.length := hns.1
  refine R_seq ?_
  refine R_seq ?_
  refine R_region ?_
  refine R_r (D_move rfl) ?_
  refine R_r (D_move rfl) ?_
  refine R_r (D_lenL Tryz.underlying94 rfl) ?_
  refine R_r (D_lt rfl rfl) ?_
  refine R_r (D_move rfl) ?_
  refine R_split 37 rfl (fun h1 => ?_) (fun h1 => ?_)
  ·
    have h1p := of_decide_eq_true h1
    refine R_r (D_move rfl) ?_
    refine R_r (D_eqS rfl rfl) ?_
    refine R_r (D_move rfl) ?_
    refine R_split 40 rfl (fun h2 => ?_) (fun h2 => ?_)
    ·
      have h2p := of_decide_eq_true h2
      refine R_skipop rfl rfl rfl ?_
      refine R_skipop rfl rfl rfl ?_
      refine R_skipop rfl rfl rfl ?_
      refine R_skipop rfl rfl rfl ?_
      refine R_skipop rfl rfl rfl ?_
      refine R_skipop rfl rfl rfl ?_
      refine R_skipop rfl rfl rfl ?_
      refine R_r (D_pick true rfl rfl) ?_
      refine R_r (D_pick true rfl rfl) ?_
      refine R_nil ?_
      refine R_cond_t rfl ?_
      refine R_skip ?_
      refine R_block ?_
      refine R_seq ?_
      refine R_region ?_
      refine R_r (D_move rfl) ?_
      refine R_r (D_move rfl) ?_
      obtain ⟨x8, hx8⟩ : ∃ e_, l[j]? = some e_ := ⟨_, List.getElem?_eq_getElem (by omega)⟩
      have hex8 := hxb2 j x8 hx8
      refine R_r (D_indexLn (j) Tryz.underlying94 Tryz.sizeOf99 rfl rfl (by first | rfl | omega) (by first | omega | (simp <;> omega))) ?_
      refine R_r (D_fieldAddr fa99_0 rfl) ?_
      refine R_r (D_load rfl (Has.mem q6) (Rd.elem0 (i := j) hex8 Tryz.isAgg9 rfl rfl)) ?_
      refine R_o (E_callV (v := .tuple #[S ((aboveP x8.path).1), S ((aboveP x8.path).2)]) rfl rfl en84 (fun w hM => Above3_C x8.path Mv w hM (by have := hpl _ (List.mem_of_getElem? hx8); omega)) ?_)
      refine R_r (D_move rfl) ?_
      refine R_r (D_extract rfl rfl) ?_
      refine R_r (D_extract rfl rfl) ?_
      refine R_r (D_assign rfl) ?_
      refine R_r (D_assign rfl) ?_
      refine R_nil ?_
      refine R_seq ?_
      refine R_region ?_
      refine R_r (D_move rfl) ?_
      refine R_r (D_move rfl) ?_
      refine R_r (D_move rfl) ?_
      refine R_o (E_callP rfl rfl en85 (fun w hM => ih j (by omega) (some ⟨b2, ob2, none⟩) c ((aboveP x8.path).2) Mv w hM (by omega) q5 (by omega)) (fun vr9 Mr9 Hr9 hler9 hpr9 => ?_))
      have q10 := SlA.le q5 hler9
      have q11 := hler9 _ _ q6
      obtain ⟨rfl, er9, ksr9, nr9, kvr9, her9, hgr9, hltr9, hle2r9, rfl, hkvr9⟩ := hpr9
      obtain ⟨akr9, ckr9, rfl, hckr9, hAr9⟩ := hkvr9.sl
      have eer9 : x8 = er9 := Option.some.inj (hx8.symm.trans her9)
      subst eer9
      refine R_r (D_move rfl) ?_
      refine R_r (D_extract rfl rfl) ?_
      refine R_r (D_extract rfl rfl) ?_
      refine R_o (E_alloc (NodeC.cells NodeC.zero) Tryz.zeroValue30 rfl (fun b13 => ?_))
      refine R_o (E_store (cs' := (NodeC.cells (⟨(aboveP x8.path).2, x8.value, x8.marks, .slice akr9 ksr9.length ckr9⟩ : NodeC))) 0 rfl rfl rfl (Wr.agg Tryz.sizeOf30 rfl rfl rfl rfl) ?_)
      refine R_r (D_assign rfl) ?_
      refine R_nil ?_
      refine R_seq ?_
      refine R_region ?_
      refine R_r (D_fieldAddr fa30_3 rfl) ?_
      refine R_r (D_load rfl (Has.own 2 rfl) (Rd.one Tryz.isAgg28 rfl)) ?_
      refine R_r (D_load rfl (Has.own 0 rfl) (rd30_NodeC_0 (⟨(aboveP x8.path).2, x8.value, x8.marks, .slice akr9 ksr9.length ckr9⟩ : NodeC))) ?_
      refine R_o (E_buildSlice (ps := [(0, .tmp 68)]) (vs := [(0, NodeC.val (⟨(aboveP x8.path).2, x8.value, x8.marks, .slice akr9 ksr9.length ckr9⟩ : NodeC))]) (cs := (NodeC.cells (⟨(aboveP x8.path).2, x8.value, x8.marks, .slice akr9 ksr9.length ckr9⟩ : NodeC))) rfl (bs28_1 _) (fun b14 => ?_))
      refine R_o (E_append (news := (NodeC.cells (⟨(aboveP x8.path).2, x8.value, x8.marks, .slice akr9 ksr9.length ckr9⟩ : NodeC))) 2 Tryz.underlying28 el30 rfl rfl rfl (Has.own 0 rfl) rfl rfl (by exact ones_NodeC _ rfl) (by unfold maxLen; omega) (by omega) (fun v15 hv15 => ?_))
      refine R_r (D_fieldAddr fa30_3 rfl) ?_
      refine R_o (E_store (cs' := (NodeC.cells (⟨nm, x3.value, x3.marks, v15⟩ : NodeC))) 3 rfl rfl rfl (Wr.one Tryz.sizeOf28 hv15 rfl rfl) ?_)
      refine R_nil ?_
      refine R_region ?_
      refine R_r (D_move rfl) ?_
      refine R_r (D_assign rfl) ?_
      refine R_nil ?_
      refine R_drop (H' := [.row v15 30 41 (ln.length + 1) ((ln.flatMap NodeC.cells) ++ (NodeC.cells (⟨(aboveP x8.path).2, x8.value, x8.marks, .slice akr9 ksr9.length ckr9⟩ : NodeC))), .blk b4 (.cells (List.toArray (NodeC.cells (⟨nm, x3.value, x3.marks, v15⟩ : NodeC))) 30), .blk b1 (.cells (List.toArray (NodeC.cells NodeC.zero)) 30)]) (.cons _ (.cons _ (List.Sublist.refl _))) ?_
      exact R_back (v15, ln ++ [(⟨(aboveP x8.path).2, x8.value, x8.marks, .slice akr9 ksr9.length ckr9⟩ : NodeC)], ks ++ [Node.mk ((aboveP x8.path).2) x8.value x8.marks ksr9], nr9, Mr9) (by show PMem.le M Mr9 ∧ v15.oneCell' = true ∧ NodesIs Mr9 (ln ++ [(⟨(aboveP x8.path).2, x8.value, x8.marks, .slice akr9 ksr9.length ckr9⟩ : NodeC)]) (ks ++ [Node.mk ((aboveP x8.path).2) x8.value x8.marks ksr9]) ∧ at_ < nr9 ∧ nr9 ≤ l.length ∧ (ks ++ [Node.mk ((aboveP x8.path).2) x8.value x8.marks ksr9]).length ≤ nr9 ∧ ∀ (rest : List Node) (n2 : Nat), GrowR l x3.path nr9 rest n2 → GrowR l x3.path (at_ + 1) ((ks ++ [Node.mk ((aboveP x8.path).2) x8.value x8.marks ksr9]) ++ rest) n2; exact ⟨PMem.le_trans hleV hler9, hv15, (hns.le hler9).snoc ⟨rfl, rfl, rfl, KidsAt.of hAr9 hckr9⟩, by omega, by omega, by simp; omega, fun rest n2 hr => by rw [List.append_assoc]; exact hg _ _ (GrowR.step her9 (.inl h2p) hgr9 hr)⟩) (by show l.length - nr9 < l.length - j; omega) (Env.sub_cons rfl <| Env.sub_cons rfl <| Env.sub_cons rfl <| Env.sub_cons rfl <| Env.sub_cons rfl <| Env.sub_nil _) rfl (by simp)
    ·
      have h2p := of_decide_eq_false h2
      refine R_r (D_move rfl) ?_
      refine R_r (D_move rfl) ?_
      obtain ⟨x16, hx16⟩ : ∃ e_, l[j]? = some e_ := ⟨_, List.getElem?_eq_getElem (by omega)⟩
      have hex16 := hxb2 j x16 hx16
      refine R_r (D_indexLn (j) Tryz.underlying94 Tryz.sizeOf99 rfl rfl (by first | rfl | omega) (by first | omega | (simp <;> omega))) ?_
      refine R_r (D_fieldAddr fa99_0 rfl) ?_
      refine R_r (D_load rfl (Has.mem q6) (Rd.elem0 (i := j) hex16 Tryz.isAgg9 rfl rfl)) ?_
      refine R_r (D_move rfl) ?_
      refine R_o (E_callV (v := .bool (underP x16.path x3.path)) rfl rfl en108 (fun w hM => Under_C x16.path x3.path Mv w hM (by have := hpl _ (List.mem_of_getElem? hx16); omega) (by have := hpl _ (List.mem_of_getElem? hx3); omega)) ?_)
      refine R_r (D_pick false rfl rfl) ?_
      refine R_r (D_pick true rfl rfl) ?_
      refine R_nil ?_
      refine R_cond rfl (fun h3 => ?_) (fun h3 => ?_)
      ·
        refine R_skip ?_
        refine R_block ?_
        refine R_seq ?_
        refine R_region ?_
        refine R_r (D_move rfl) ?_
        refine R_r (D_move rfl) ?_
        refine R_r (D_indexLn (j) Tryz.underlying94 Tryz.sizeOf99 rfl rfl (by first | rfl | omega) (by first | omega | (simp <;> omega))) ?_
        refine R_r (D_fieldAddr fa99_0 rfl) ?_
        refine R_r (D_load rfl (Has.mem q6) (Rd.elem0 (i := j) hex16 Tryz.isAgg9 rfl rfl)) ?_
        refine R_o (E_callV (v := .tuple #[S ((aboveP x16.path).1), S ((aboveP x16.path).2)]) rfl rfl en84 (fun w hM => Above3_C x16.path Mv w hM (by have := hpl _ (List.mem_of_getElem? hx16); omega)) ?_)
        refine R_r (D_move rfl) ?_
        refine R_r (D_extract rfl rfl) ?_
        refine R_r (D_extract rfl rfl) ?_
        refine R_r (D_assign rfl) ?_
        refine R_r (D_assign rfl) ?_
        refine R_nil ?_
        refine R_seq ?_
        refine R_region ?_
        refine R_r (D_move rfl) ?_
        refine R_r (D_move rfl) ?_
        refine R_r (D_move rfl) ?_
        refine R_o (E_callP rfl rfl en85 (fun w hM => ih j (by omega) (some ⟨b2, ob2, none⟩) c ((aboveP x16.path).2) Mv w hM (by omega) q5 (by omega)) (fun vr17 Mr17 Hr17 hler17 hpr17 => ?_))
        have q18 := SlA.le q5 hler17
        have q19 := hler17 _ _ q6
        obtain ⟨rfl, er17, ksr17, nr17, kvr17, her17, hgr17, hltr17, hle2r17, rfl, hkvr17⟩ := hpr17
        obtain ⟨akr17, ckr17, rfl, hckr17, hAr17⟩ := hkvr17.sl
        have eer17 : x16 = er17 := Option.some.inj (hx16.symm.trans her17)
        subst eer17
        refine R_r (D_move rfl) ?_
        refine R_r (D_extract rfl rfl) ?_
        refine R_r (D_extract rfl rfl) ?_
        refine R_o (E_alloc (NodeC.cells NodeC.zero) Tryz.zeroValue30 rfl (fun b21 => ?_))
        refine R_o (E_store (cs' := (NodeC.cells (⟨(aboveP x16.path).2, x16.value, x16.marks, .slice akr17 ksr17.length ckr17⟩ : NodeC))) 0 rfl rfl rfl (Wr.agg Tryz.sizeOf30 rfl rfl rfl rfl) ?_)
        refine R_r (D_assign rfl) ?_
        refine R_nil ?_
        refine R_seq ?_
        refine R_region ?_
        refine R_r (D_fieldAddr fa30_3 rfl) ?_
        refine R_r (D_load rfl (Has.own 2 rfl) (Rd.one Tryz.isAgg28 rfl)) ?_
        refine R_r (D_load rfl (Has.own 0 rfl) (rd30_NodeC_0 (⟨(aboveP x16.path).2, x16.value, x16.marks, .slice akr17 ksr17.length ckr17⟩ : NodeC))) ?_
        refine R_o (E_buildSlice (ps := [(0, .tmp 68)]) (vs := [(0, NodeC.val (⟨(aboveP x16.path).2, x16.value, x16.marks, .slice akr17 ksr17.length ckr17⟩ : NodeC))]) (cs := (NodeC.cells (⟨(aboveP x16.path).2, x16.value, x16.marks, .slice akr17 ksr17.length ckr17⟩ : NodeC))) rfl (bs28_1 _) (fun b22 => ?_))
        refine R_o (E_append (news := (NodeC.cells (⟨(aboveP x16.path).2, x16.value, x16.marks, .slice akr17 ksr17.length ckr17⟩ : NodeC))) 2 Tryz.underlying28 el30 rfl rfl rfl (Has.own 0 rfl) rfl rfl (by exact ones_NodeC _ rfl) (by unfold maxLen; omega) (by omega) (fun v23 hv23 => ?_))
        refine R_r (D_fieldAddr fa30_3 rfl) ?_
        refine R_o (E_store (cs' := (NodeC.cells (⟨nm, x3.value, x3.marks, v23⟩ : NodeC))) 3 rfl rfl rfl (Wr.one Tryz.sizeOf28 hv23 rfl rfl) ?_)
        refine R_nil ?_
        refine R_region ?_
        refine R_r (D_move rfl) ?_
        refine R_r (D_assign rfl) ?_
        refine R_nil ?_
        refine R_drop (H' := [.row v23 30 41 (ln.length + 1) ((ln.flatMap NodeC.cells) ++ (NodeC.cells (⟨(aboveP x16.path).2, x16.value, x16.marks, .slice akr17 ksr17.length ckr17⟩ : NodeC))), .blk b4 (.cells (List.toArray (NodeC.cells (⟨nm, x3.value, x3.marks, v23⟩ : NodeC))) 30), .blk b1 (.cells (List.toArray (NodeC.cells NodeC.zero)) 30)]) (.cons _ (.cons _ (List.Sublist.refl _))) ?_
        exact R_back (v23, ln ++ [(⟨(aboveP x16.path).2, x16.value, x16.marks, .slice akr17 ksr17.length ckr17⟩ : NodeC)], ks ++ [Node.mk ((aboveP x16.path).2) x16.value x16.marks ksr17], nr17, Mr17) (by show PMem.le M Mr17 ∧ v23.oneCell' = true ∧ NodesIs Mr17 (ln ++ [(⟨(aboveP x16.path).2, x16.value, x16.marks, .slice akr17 ksr17.length ckr17⟩ : NodeC)]) (ks ++ [Node.mk ((aboveP x16.path).2) x16.value x16.marks ksr17]) ∧ at_ < nr17 ∧ nr17 ≤ l.length ∧ (ks ++ [Node.mk ((aboveP x16.path).2) x16.value x16.marks ksr17]).length ≤ nr17 ∧ ∀ (rest : List Node) (n2 : Nat), GrowR l x3.path nr17 rest n2 → GrowR l x3.path (at_ + 1) ((ks ++ [Node.mk ((aboveP x16.path).2) x16.value x16.marks ksr17]) ++ rest) n2; exact ⟨PMem.le_trans hleV hler17, hv23, (hns.le hler17).snoc ⟨rfl, rfl, rfl, KidsAt.of hAr17 hckr17⟩, by omega, by omega, by simp; omega, fun rest n2 hr => by rw [List.append_assoc]; exact hg _ _ (GrowR.step her17 (.inr h3) hgr17 hr)⟩) (by show l.length - nr17 < l.length - j; omega) (Env.sub_cons rfl <| Env.sub_cons rfl <| Env.sub_cons rfl <| Env.sub_cons rfl <| Env.sub_cons rfl <| Env.sub_nil _) rfl (by simp)
      ·
        refine R_exit rfl ?_
        refine R_seq ?_
        refine R_freezeRow (fun M24 hleM24 hrowM24 => ?_)
        have q25 := SlA.le q5 hleM24
        have q26 := hleM24 _ _ q6
        obtain ⟨av, cv, rfl, hcv, hkv, hkd⟩ := hrowM24.kids (hns.le hleM24)
        refine R_region ?_
        refine R_r (D_load rfl (Has.own 0 rfl) (rd30_NodeC_0 (⟨nm, x3.value, x3.marks, .slice av ks.length cv⟩ : NodeC))) ?_
        refine R_r (D_move rfl) ?_
        refine R_o (E_store (cs' := (NodeC.cells (⟨nm, x3.value, x3.marks, .slice av ks.length cv⟩ : NodeC))) 1 rfl rfl rfl (Wr.agg Tryz.sizeOf30 rfl rfl rfl rfl) ?_)
        refine R_r (D_assign rfl) ?_
        refine R_nil ?_
        refine R_ret ?_
        refine R_finCT rfl rfl rfl (Has.own 1 rfl) (rd30_NodeC_0 (⟨nm, x3.value, x3.marks, .slice av ks.length cv⟩ : NodeC)) [] (by simp) ?_
        have hfin := hg [] j (GrowR.done (fun e he => by rw [hx16] at he; cases he; exact ⟨h2p, h3⟩))
        rw [List.append_nil] at hfin
        exact ⟨rfl, _, ks, j, _, he0, hfin, by omega, by omega, rfl, hkd⟩
  ·
    have h1p := of_decide_eq_false h1
    refine R_skipop rfl rfl rfl ?_
    refine R_skipop rfl rfl rfl ?_
    refine R_skipop rfl rfl rfl ?_
    refine R_skipop rfl rfl rfl ?_
    refine R_skipop rfl rfl rfl ?_
    refine R_skipop rfl rfl rfl ?_
    refine R_skipop rfl rfl rfl ?_
    refine R_skipop rfl rfl rfl ?_
    refine R_skipop rfl rfl rfl ?_
    refine R_skipop rfl rfl rfl ?_
    refine R_skipop rfl rfl rfl ?_
    refine R_r (D_pick false rfl rfl) ?_
    refine R_nil ?_
    refine R_cond_f rfl ?_
    refine R_exit rfl ?_
    refine R_seq ?_
    refine R_freezeRow (fun M28 hleM28 hrowM28 => ?_)
    have q29 := SlA.le q5 hleM28
    have q30 := hleM28 _ _ q6
    obtain ⟨av, cv, rfl, hcv, hkv, hkd⟩ := hrowM28.kids (hns.le hleM28)
    refine R_region ?_
    refine R_r (D_load rfl (Has.own 0 rfl) (rd30_NodeC_0 (⟨nm, x3.value, x3.marks, .slice av ks.length cv⟩ : NodeC))) ?_
    refine R_r (D_move rfl) ?_
    refine R_o (E_store (cs' := (NodeC.cells (⟨nm, x3.value, x3.marks, .slice av ks.length cv⟩ : NodeC))) 1 rfl rfl rfl (Wr.agg Tryz.sizeOf30 rfl rfl rfl rfl) ?_)
    refine R_r (D_assign rfl) ?_
    refine R_nil ?_
    refine R_ret ?_
    refine R_finCT rfl rfl rfl (Has.own 1 rfl) (rd30_NodeC_0 (⟨nm, x3.value, x3.marks, .slice av ks.length cv⟩ : NodeC)) [] (by simp) ?_
    have hfin := hg [] j (GrowR.done (fun e he => absurd (List.getElem?_eq_some_iff.1 he).1 (by omega)))
    rw [List.append_nil] at hfin
    exact ⟨rfl, _, ks, j, _, he0, hfin, by omega, by omega, rfl, hkd⟩

theorem grow_C (l : List Entry) (hn : l.length ≤ 4294967296) (hpl : ∀ e ∈ l, e.path.length ≤ 1073741824) : ∀ (k : Nat) (at_ : Nat), l.length - at_ = k → ∀ (a : Option Addr) (c : Nat) (nm : Str) (M : PMem) (w : World) (hM : Lies M w), l.length ≤ c → SlA M 40 (byEnc Entry.cells) a l → at_ < l.length → Ends Tryz.prog 85 [.slice a l.length c, I at_, S nm] w [] M (fun v M' H' => H' = [] ∧ ∃ e ks n kv, l[at_]? = some e ∧ GrowR l e.path (at_ + 1) ks n ∧ at_ < n ∧ n ≤ l.length ∧ v = .tuple #[NodeC.val ⟨nm, e.value, e.marks, kv⟩, I (n : Nat)] ∧ KidsAt M' kv ks) := by
  intro k
  induction k using Nat.strongRecOn with
  | _ k IH => exact fun at_ hk a c nm M w hM hc hs hat => grow_S l at_ a c nm M w hM hc hs hat hn hpl (fun at2 h2 a c nm M w hM h3 h4 h5 => IH (l.length - at2) (by omega) at2 rfl a c nm M w hM h3 h4 h5)

theorem Grow_C (l : List Entry) (a : Option Addr) (c : Nat) (M : PMem) (w : World) (hM : Lies M w) (hc : l.length ≤ c) (hsl : SlA M 40 (byEnc Entry.cells) a l) (hn : l.length ≤ 4294967296) (hpl : ∀ e ∈ l, e.path.length ≤ 1073741824) (h0 : 0 < l.length) : Ends Tryz.prog 41 [.slice a l.length c] w [] M (fun v M' H' => H' = [] ∧ ∃ e ks n kv, l[0]? = some e ∧ GrowR l e.path 1 ks n ∧ n ≤ l.length ∧ v = NodeC.val ⟨[], e.value, e.marks, kv⟩ ∧ KidsAt M' kv ks) := by
  refine Ends.enter (H := []) Tryz.func41 rfl Tryz.ntmps41 rfl (St.start hM) ?_
  refine R_seq ?_
  refine R_region ?_
  refine R_o (E_alloc (NodeC.cells NodeC.zero) Tryz.zeroValue30 rfl (fun b1 => ?_))
  refine R_nil ?_
  refine R_seq ?_
  refine R_region ?_
  refine R_r (D_move rfl) ?_
  refine R_o (E_callP rfl rfl en85 (fun w hM => grow_C l hn hpl _ 0 rfl a c ([] : Str) M w hM (by omega) hsl (by omega)) (fun vr2 Mr2 Hr2 hler2 hpr2 => ?_))
  have q3 := SlA.le hsl hler2
  obtain ⟨rfl, er2, ksr2, nr2, kvr2, her2, hgr2, hltr2, hle2r2, rfl, hkvr2⟩ := hpr2
  obtain ⟨akr2, ckr2, rfl, hckr2, hAr2⟩ := hkvr2.sl
  refine R_r (D_move rfl) ?_
  refine R_r (D_extract rfl rfl) ?_
  refine R_r (D_extract rfl rfl) ?_
  refine R_o (E_alloc (NodeC.cells NodeC.zero) Tryz.zeroValue30 rfl (fun b4 => ?_))
  refine R_o (E_store (cs' := (NodeC.cells (⟨([] : Str), er2.value, er2.marks, .slice akr2 ksr2.length ckr2⟩ : NodeC))) 0 rfl rfl rfl (Wr.agg Tryz.sizeOf30 rfl rfl rfl rfl) ?_)
  refine R_r (D_assign rfl) ?_
  refine R_nil ?_
  refine R_seq ?_
  refine R_region ?_
  refine R_r (D_load rfl (Has.own 0 rfl) (rd30_NodeC_0 (⟨([] : Str), er2.value, er2.marks, .slice akr2 ksr2.length ckr2⟩ : NodeC))) ?_
  refine R_o (E_store (cs' := (NodeC.cells (⟨([] : Str), er2.value, er2.marks, .slice akr2 ksr2.length ckr2⟩ : NodeC))) 1 rfl rfl rfl (Wr.agg Tryz.sizeOf30 rfl rfl rfl rfl) ?_)
  refine R_nil ?_
  refine R_ret ?_
  refine R_finC rfl rfl (Has.own 1 rfl) (rd30_NodeC_0 (⟨([] : Str), er2.value, er2.marks, .slice akr2 ksr2.length ckr2⟩ : NodeC)) [] (by simp) ?_
  exact ⟨rfl, _, _, _, _, her2, hgr2, hle2r2, rfl, KidsAt.of hAr2 hckr2⟩

theorem Apply13_C (x : Node) (a : Option Addr) (c : Nat) (l : List Change) (b : Option Addr) (d : Nat) (M : PMem) (w : World) (hM : Lies M w) (hc : x.kids.length ≤ c) (hkx : NdA M a x.kids) (hwl : Node.wtL x.kids ≤ 1073741823) (hcl : l.length ≤ d) (hsl : SlA M 71 (byEnc Change.cells) b l) (hn : l.length ≤ 1073741823) (hpl : ∀ e ∈ l, e.path.length ≤ 1073741824) : Ends Tryz.prog 11 [NodeC.val (⟨x.name, x.value, x.marks, .slice a x.kids.length c⟩ : NodeC), .slice b l.length d] w [] M (fun v M' H' => H' = [] ∧ ∃ c, v = .tuple #[NodeC.val c, I (applyE x l)] ∧ c.kids.oneCell' = true ∧ (applyE x l = 0 → ∃ out e ks n, mergeA (x.flat []) l = some out ∧ treeB out = true ∧ out[0]? = some e ∧ GrowR out e.path 1 ks n ∧ c.value = e.value ∧ c.marks = e.marks ∧ KidsAt M' c.kids ks)) := by
  have hfn := Node.flat_room hwl
  have hfp := Node.flat_paths0 hwl
  refine Ends.enter (H := []) Tryz.func11 rfl Tryz.ntmps11 rfl (St.start hM) ?_
  refine R_seq ?_
  refine R_region ?_
  refine R_o (E_box (NodeC.cells (⟨x.name, x.value, x.marks, .slice a x.kids.length c⟩ : NodeC)) rfl rfl (fun b1 => ?_))
  refine R_o (E_alloc (NodeC.cells NodeC.zero) Tryz.zeroValue30 rfl (fun b2 => ?_))
  refine R_r (D_assign rfl) ?_
  refine R_nil ?_
  refine R_seq ?_
  refine R_seq ?_
  refine R_region ?_
  refine R_r (D_move rfl) ?_
  refine R_o (E_callV (v := .bool (risesL l false [])) rfl rfl en35 (fun w hM => rises_C l b d M w hM (by omega) hsl (by omega) hpl) ?_)
  refine R_r (D_not rfl) ?_
  refine R_nil ?_
  refine R_cond rfl (fun h1 => ?_) (fun h1 => ?_)
  ·
    refine R_seq ?_
    refine R_region ?_
    refine R_r (D_build rfl bd30_) ?_
    refine R_o (E_store (cs' := (NodeC.cells NodeC.zero)) 0 rfl rfl rfl (Wr.agg Tryz.sizeOf30 rfl rfl rfl rfl) ?_)
    refine R_r (D_assign rfl) ?_
    refine R_nil ?_
    refine R_ret ?_
    refine R_finCT rfl rfl rfl (Has.own 0 rfl) (rd30_NodeC_0 NodeC.zero) [] (by simp) ?_
    exact ⟨rfl, _, by rw [applyE_order (by simpa using h1)], rfl, fun h => by rw [applyE_order (by simpa using h1)] at h; cases h⟩
  ·
    refine R_skip ?_
    refine R_seq ?_
    refine R_region ?_
    refine R_r (D_load rfl (Has.own 1 rfl) (rd30_NodeC_0 (⟨x.name, x.value, x.marks, .slice a x.kids.length c⟩ : NodeC))) ?_
    refine R_o (E_callP rfl rfl en36 (fun w hM => Flat_C x a c M w hM (by omega) hkx (by omega)) (fun vr3 Mr3 Hr3 hler3 hpr3 => ?_))
    have q4 := NdA.le hkx hler3
    have q5 := SlA.le hsl hler3
    obtain ⟨rfl, hpr3⟩ := hpr3
    obtain ⟨ar3, cr3, rfl, hcr3, hsr3⟩ := hpr3.op
    refine R_r (D_assign rfl) ?_
    refine R_nil ?_
    refine R_seq ?_
    refine R_seq ?_
    refine R_region ?_
    refine R_r (D_assign rfl) ?_
    refine R_nil ?_
    refine R_block ?_
    refine R_loop (σ := (Nat)) (fun gs => ([(1, .slice b l.length d), (2, P_ b1 0), (4, P_ b2 0), (6, .slice ar3 ((x.flat []).length) cr3), (7, I (gs : Int))], Mr3, [.blk b2 (.cells (List.toArray (NodeC.cells NodeC.zero)) 30), .blk b1 (.cells (List.toArray (NodeC.cells (⟨x.name, x.value, x.marks, .slice a x.kids.length c⟩ : NodeC))) 30)])) (fun gs => gs ≤ l.length ∧ (l.take gs).all (fun c => decide (valP (x.flat []) c.path = c.old)) = true) (fun gs => l.length - gs) 0 ?_ (Env.sub_cons rfl <| Env.sub_cons rfl <| Env.sub_cons rfl <| Env.sub_cons rfl <| Env.sub_cons rfl <| Env.sub_nil _) rfl rfl ?_
    · show 0 ≤ l.length ∧ (l.take 0).all (fun c => decide (valP (x.flat []) c.path = c.old)) = true; exact ⟨by omega, by simp⟩
    rintro i hok
    replace hok : i ≤ l.length ∧ (l.take i).all (fun c => decide (valP (x.flat []) c.path = c.old)) = true := hok
    show Cx.R _ _ _ [(1, .slice b l.length d), (2, P_ b1 0), (4, P_ b2 0), (6, .slice ar3 ((x.flat []).length) cr3), (7, I (i : Int))] Mr3 [.blk b2 (.cells (List.toArray (NodeC.cells NodeC.zero)) 30), .blk b1 (.cells (List.toArray (NodeC.cells (⟨x.name, x.value, x.marks, .slice a x.kids.length c⟩ : NodeC))) 30)]
    obtain ⟨hi, hal⟩ := hok
    refine R_seq ?_
    refine R_seq ?_
    refine R_region ?_
    refine R_r (D_move rfl) ?_
    refine R_r (D_move rfl) ?_
    refine R_r (D_lenL Tryz.underlying31 rfl) ?_
    refine R_r (D_lt rfl rfl) ?_
    refine R_nil ?_
    refine R_cond rfl (fun h2 => ?_) (fun h2 => ?_)
    ·
      have h2p := of_decide_eq_true h2
      refine R_skip ?_
      refine R_seq ?_
      refine R_block ?_
      refine R_seq ?_
      refine Y_region [.blk b2 (.cells (List.toArray (NodeC.cells NodeC.zero)) 30), .blk b1 (.cells (List.toArray (NodeC.cells (⟨x.name, x.value, x.marks, .slice a x.kids.length c⟩ : NodeC))) 30)] mixed ?_
      refine Y_r 0 rfl (D_load rfl (Has.own 1 rfl) (rd30_NodeC_0 (⟨x.name, x.value, x.marks, .slice a x.kids.length c⟩ : NodeC))) ?_
      refine Y_r 1 rfl (D_move rfl) ?_
      refine Y_r 2 rfl (D_move rfl) ?_
      obtain ⟨b6, ob6, csb6, elb6, frb6, rfl, hmb6, hxb6⟩ := q5.at (i := i) (by first | omega | (simp; omega))
      obtain ⟨x7, hx7⟩ : ∃ e_, l[i]? = some e_ := ⟨_, List.getElem?_eq_getElem (by omega)⟩
      have hex7 := hxb6 i x7 hx7
      refine Y_r 3 rfl (D_indexLn (i) Tryz.underlying31 Tryz.sizeOf66 rfl rfl (by first | rfl | omega) (by first | omega | (simp <;> omega))) ?_
      refine Y_r 4 rfl (D_fieldAddr fa66_0 rfl) ?_
      refine Y_r 5 rfl (D_load rfl (Has.mem hmb6) (Rd.elem0 (i := i) hex7 Tryz.isAgg9 rfl rfl)) ?_
      refine Y_r 7 rfl (D_move rfl) ?_
      refine Y_r 8 rfl (D_move rfl) ?_
      refine Y_r 9 rfl (D_indexLn (i) Tryz.underlying31 Tryz.sizeOf66 rfl rfl (by first | rfl | omega) (by first | omega | (simp <;> omega))) ?_
      refine Y_r 10 rfl (D_fieldAddr fa66_1 rfl) ?_
      refine Y_r 11 rfl (D_load rfl (Has.mem hmb6) (Rd.elemP (i := i) (k := 1) hex7 Tryz.underlying24 rfl inf24 rfl rfl rfl)) ?_
      refine Y_o 6 rfl (E_callV (v := Val.val (valP (x.flat []) x7.path)) rfl rfl en37 (fun w hM => At13_C x a c x7.path Mr3 w hM (by omega) q4 (by omega)) ?_) (PMem.le_refl _) (fun _ h => List.Sublist.subset (.cons_cons _ (.cons_cons _ (.slnil))) h)
      refine Y_go _ (PMem.le_refl _) (fun _ h => List.Sublist.subset (.cons_cons _ (.cons_cons _ (.slnil))) h) (fun _ h => h) ?_
      refine Y_r 12 rfl (D_neA eg24 rfl rfl (eqa24 _ _)) ?_
      refine Y_nil ?_ (PMem.le_refl _) (fun _ h => List.Sublist.subset (.cons_cons _ (.cons_cons _ (.slnil))) h)
      refine R_cond rfl (fun h3 => ?_) (fun h3 => ?_)
      ·
        have h3p : ¬ ((valP (x.flat []) x7.path) = x7.old) := by simpa using h3
        refine R_seq ?_
        refine R_region ?_
        refine R_r (D_build rfl bd30_) ?_
        refine R_o (E_store (cs' := (NodeC.cells NodeC.zero)) 0 rfl rfl rfl (Wr.agg Tryz.sizeOf30 rfl rfl rfl rfl) ?_)
        refine R_r (D_assign rfl) ?_
        refine R_nil ?_
        refine R_ret ?_
        refine R_finCT rfl rfl rfl (Has.own 0 rfl) (rd30_NodeC_0 NodeC.zero) [] (by simp) ?_
        have hE := applyE_old (x := x) (by simpa using h1) (List.mem_of_getElem? hx7) h3p
        exact ⟨rfl, _, by rw [hE], rfl, fun h => by rw [hE] at h; cases h⟩
      ·
        have h3p : ((valP (x.flat []) x7.path) = x7.old) := by simpa using h3
        refine R_skip ?_
        refine R_region ?_
        refine R_r (D_move rfl) ?_
        refine R_r (D_add rfl rfl rfl (by omega) (by omega)) ?_
        refine R_r (D_assign rfl) ?_
        refine R_nil ?_
        exact R_back (i + 1) (by show (i + 1) ≤ l.length ∧ (l.take (i + 1)).all (fun c => decide (valP (x.flat []) c.path = c.old)) = true; exact ⟨by omega, by rw [all_take hx7, hal]; simpa using h3⟩) (by show l.length - (i + 1) < l.length - i; omega) (Env.sub_cons rfl <| Env.sub_cons rfl <| Env.sub_cons rfl <| Env.sub_cons rfl <| Env.sub_cons rfl <| Env.sub_nil _) rfl rfl
    ·
      have h2p := of_decide_eq_false h2
      have hall : l.all (fun c => decide (valP (x.flat []) c.path = c.old)) = true := by rw [List.take_of_length_le (by omega)] at hal; exact hal
      refine R_exit rfl ?_
      refine R_seq ?_
      refine R_region ?_
      refine R_r (D_assign rfl) ?_
      refine R_nil ?_
      refine R_seq ?_
      refine R_region ?_
      refine R_r (D_assign rfl) ?_
      refine R_r (D_assign rfl) ?_
      refine R_nil ?_
      refine R_seq ?_
      refine R_block ?_
      refine R_row0 99 40 ?_
      refine R_loop (σ := (Value) × (List Entry) × (Nat) × (Nat)) (fun gs => ([(1, .slice b l.length d), (4, P_ b2 0), (6, .slice ar3 ((x.flat []).length) cr3), (8, gs.1), (9, I (gs.2.2.1 : Int)), (10, I (gs.2.2.2 : Int))], Mr3, [.row gs.1 99 40 gs.2.1.length (gs.2.1.flatMap Entry.cells), .blk b2 (.cells (List.toArray (NodeC.cells NodeC.zero)) 30), .blk b1 (.cells (List.toArray (NodeC.cells (⟨x.name, x.value, x.marks, .slice a x.kids.length c⟩ : NodeC))) 30)])) (fun gs => gs.2.2.1 ≤ (x.flat []).length ∧ gs.2.2.2 ≤ l.length ∧ gs.2.1.length ≤ gs.2.2.1 + gs.2.2.2 ∧ (∀ e ∈ gs.2.1, e.path.length ≤ 1073741824) ∧ mergeA (x.flat []) l = (mergeA ((x.flat []).drop gs.2.2.1) (l.drop gs.2.2.2)).map (fun out => gs.2.1 ++ out)) (fun gs => ((x.flat []).length - gs.2.2.1) + (l.length - gs.2.2.2)) ((.slice none 0 0 : Value), ([] : List Entry), 0, 0) ?_ (Env.sub_cons rfl <| Env.sub_cons rfl <| Env.sub_cons rfl <| Env.sub_cons rfl <| Env.sub_cons rfl <| Env.sub_cons rfl <| Env.sub_nil _) rfl rfl ?_
      · show 0 ≤ (x.flat []).length ∧ 0 ≤ l.length ∧ ([] : List Entry).length ≤ 0 + 0 ∧ (∀ e ∈ ([] : List Entry), e.path.length ≤ 1073741824) ∧ mergeA (x.flat []) l = (mergeA ((x.flat []).drop 0) (l.drop 0)).map (fun out => ([] : List Entry) ++ out); exact ⟨by omega, by omega, by simp, by simp, by simp⟩
      rintro ⟨v, ol, i, k⟩ hok
      replace hok : i ≤ (x.flat []).length ∧ k ≤ l.length ∧ ol.length ≤ i + k ∧ (∀ e ∈ ol, e.path.length ≤ 1073741824) ∧ mergeA (x.flat []) l = (mergeA ((x.flat []).drop i) (l.drop k)).map (fun out => ol ++ out) := hok
      show Cx.R _ _ _ [(1, .slice b l.length d), (4, P_ b2 0), (6, .slice ar3 ((x.flat []).length) cr3), (8, v), (9, I (i : Int)), (10, I (k : Int))] Mr3 [.row v 99 40 ol.length (ol.flatMap Entry.cells), .blk b2 (.cells (List.toArray (NodeC.cells NodeC.zero)) 30), .blk b1 (.cells (List.toArray (NodeC.cells (⟨x.name, x.value, x.marks, .slice a x.kids.length c⟩ : NodeC))) 30)]
      obtain ⟨hi, hk, hol, hop, hmg⟩ := hok
      refine R_seq ?_
      refine R_seq ?_
      refine R_join [(1, .slice b l.length d), (4, P_ b2 0), (6, .slice ar3 ((x.flat []).length) cr3), (8, v), (9, I (i : Int)), (10, I (k : Int)), (47, .bool ((decide ((i : Int) < ((x.flat []).length : Int))) || (decide ((k : Int) < (l.length : Int)))))] (M' := Mr3) (H' := [.row v 99 40 ol.length (ol.flatMap Entry.cells), .blk b2 (.cells (List.toArray (NodeC.cells NodeC.zero)) 30), .blk b1 (.cells (List.toArray (NodeC.cells (⟨x.name, x.value, x.marks, .slice a x.kids.length c⟩ : NodeC))) 30)]) ?_ ?_
      ·
        refine R_region ?_
        refine R_r (D_move rfl) ?_
        refine R_r (D_move rfl) ?_
        refine R_r (D_lenL Tryz.underlying94 rfl) ?_
        refine R_r (D_lt rfl rfl) ?_
        refine R_r (D_move rfl) ?_
        refine R_split 42 rfl (fun h3 => ?_) (fun h3 => ?_)
        ·
          have h3p := of_decide_eq_true h3
          refine R_skipop rfl rfl rfl ?_
          refine R_skipop rfl rfl rfl ?_
          refine R_skipop rfl rfl rfl ?_
          refine R_skipop rfl rfl rfl ?_
          refine R_r (D_pick true rfl rfl) ?_
          refine R_nil ?_
          exact R_at (Env.sub_cons rfl <| Env.sub_cons rfl <| Env.sub_cons rfl <| Env.sub_cons rfl <| Env.sub_cons rfl <| Env.sub_cons rfl <| Env.sub_cons (by first | (show some (Value.bool _) = some (Value.bool _); simp only [h3, Bool.true_and, Bool.false_and, Bool.true_or, Bool.false_or, Bool.and_true, Bool.and_false, Bool.or_true, Bool.or_false]; done) | (show some (Value.bool _) = some (Value.bool _); (try rw [h3]); first | done | rfl) | simp [h3, Env.find]) <| Env.sub_nil _)
        ·
          have h3p := of_decide_eq_false h3
          refine R_r (D_move rfl) ?_
          refine R_r (D_move rfl) ?_
          refine R_r (D_lenL Tryz.underlying31 rfl) ?_
          refine R_r (D_lt rfl rfl) ?_
          refine R_r (D_pick false rfl rfl) ?_
          refine R_nil ?_
          exact R_at (Env.sub_cons rfl <| Env.sub_cons rfl <| Env.sub_cons rfl <| Env.sub_cons rfl <| Env.sub_cons rfl <| Env.sub_cons rfl <| Env.sub_cons (by first | (show some (Value.bool _) = some (Value.bool _); simp only [h3, Bool.true_and, Bool.false_and, Bool.true_or, Bool.false_or, Bool.and_true, Bool.and_false, Bool.or_true, Bool.or_false]; done) | (show some (Value.bool _) = some (Value.bool _); (try rw [h3]); first | done | rfl) | simp [h3, Env.find]) <| Env.sub_nil _)
      ·
        refine R_cond rfl (fun h3 => ?_) (fun h3 => ?_)
        ·
          have h3p := h3; simp only [Bool.and_eq_true, Bool.or_eq_true, Bool.not_eq_true', Bool.and_eq_false_imp, Bool.or_eq_false_iff, Bool.not_eq_false', decide_eq_true_eq, decide_eq_false_iff_not] at h3p
          refine R_skip ?_
          refine R_block ?_
          refine R_seq ?_
          refine R_region ?_
          refine R_r (D_assign rfl) ?_
          refine R_nil ?_
          refine R_seq ?_
          refine R_seq ?_
          refine R_region ?_
          refine R_r (D_move rfl) ?_
          refine R_r (D_move rfl) ?_
          refine R_r (D_lenL Tryz.underlying94 rfl) ?_
          refine R_r (D_eq rfl rfl) ?_
          refine R_nil ?_
          refine R_join [(1, .slice b l.length d), (4, P_ b2 0), (6, .slice ar3 ((x.flat []).length) cr3), (8, v), (9, I (i : Int)), (10, I (k : Int)), (11, I (cmpAt (x.flat []) l i k))] (M' := Mr3) (H' := [.row v 99 40 ol.length (ol.flatMap Entry.cells), .blk b2 (.cells (List.toArray (NodeC.cells NodeC.zero)) 30), .blk b1 (.cells (List.toArray (NodeC.cells (⟨x.name, x.value, x.marks, .slice a x.kids.length c⟩ : NodeC))) 30)]) ?_ ?_
          ·
            refine R_cond rfl (fun h4 => ?_) (fun h4 => ?_)
            ·
              have h4p := of_decide_eq_true h4
              refine R_region ?_
              refine R_r (D_assign rfl) ?_
              refine R_nil ?_
              exact R_at (Env.sub_cons rfl <| Env.sub_cons rfl <| Env.sub_cons rfl <| Env.sub_cons rfl <| Env.sub_cons rfl <| Env.sub_cons rfl <| Env.sub_cons (by show some (I _) = some (I _); rw [cmpAt_none (by omega)]) <| Env.sub_nil _)
            ·
              have h4p := of_decide_eq_false h4
              refine R_seq ?_
              refine R_region ?_
              refine R_r (D_move rfl) ?_
              refine R_r (D_move rfl) ?_
              refine R_r (D_lenL Tryz.underlying31 rfl) ?_
              refine R_r (D_eq rfl rfl) ?_
              refine R_nil ?_
              refine R_cond rfl (fun h5 => ?_) (fun h5 => ?_)
              ·
                have h5p := of_decide_eq_true h5
                refine R_region ?_
                refine R_r (D_assign rfl) ?_
                refine R_nil ?_
                exact R_at (Env.sub_cons rfl <| Env.sub_cons rfl <| Env.sub_cons rfl <| Env.sub_cons rfl <| Env.sub_cons rfl <| Env.sub_cons rfl <| Env.sub_cons (by show some (I _) = some (I _); rw [cmpAt_end (by omega) (by omega)]) <| Env.sub_nil _)
              ·
                have h5p := of_decide_eq_false h5
                refine Y_region [.blk b2 (.cells (List.toArray (NodeC.cells NodeC.zero)) 30), .blk b1 (.cells (List.toArray (NodeC.cells (⟨x.name, x.value, x.marks, .slice a x.kids.length c⟩ : NodeC))) 30)] mixed ?_
                refine Y_r 0 rfl (D_move rfl) ?_
                refine Y_r 1 rfl (D_move rfl) ?_
                obtain ⟨b8, ob8, csb8, elb8, frb8, rfl, hmb8, hxb8⟩ := hsr3.at (i := i) (by first | omega | (simp; omega))
                obtain ⟨x9, hx9⟩ : ∃ e_, (x.flat [])[i]? = some e_ := ⟨_, List.getElem?_eq_getElem (by omega)⟩
                have hex9 := hxb8 i x9 hx9
                refine Y_r 2 rfl (D_indexLn (i) Tryz.underlying94 Tryz.sizeOf99 rfl rfl (by first | rfl | omega) (by first | omega | (simp <;> omega))) ?_
                refine Y_r 3 rfl (D_fieldAddr fa99_0 rfl) ?_
                refine Y_r 4 rfl (D_load rfl (Has.mem hmb8) (Rd.elem0 (i := i) hex9 Tryz.isAgg9 rfl rfl)) ?_
                refine Y_r 5 rfl (D_move rfl) ?_
                refine Y_r 6 rfl (D_move rfl) ?_
                obtain ⟨b10, ob10, csb10, elb10, frb10, rfl, hmb10, hxb10⟩ := q5.at (i := k) (by first | omega | (simp; omega))
                obtain ⟨x11, hx11⟩ : ∃ e_, l[k]? = some e_ := ⟨_, List.getElem?_eq_getElem (by omega)⟩
                have hex11 := hxb10 k x11 hx11
                refine Y_r 7 rfl (D_indexLn (k) Tryz.underlying31 Tryz.sizeOf66 rfl rfl (by first | rfl | omega) (by first | omega | (simp <;> omega))) ?_
                refine Y_r 8 rfl (D_fieldAddr fa66_0 rfl) ?_
                refine Y_r 9 rfl (D_load rfl (Has.mem hmb10) (Rd.elem0 (i := k) hex11 Tryz.isAgg9 rfl rfl)) ?_
                refine Y_o 10 rfl (E_callV (v := I (cmpP x9.path x11.path)) rfl rfl en38 (fun w hM => Compare3_C x9.path x11.path Mr3 w hM (by first | (have := hpl _ (List.mem_of_getElem? hx9); omega) | (have := hfp _ (List.mem_of_getElem? hx9); omega)) (by first | (have := hpl _ (List.mem_of_getElem? hx11); omega) | (have := hfp _ (List.mem_of_getElem? hx11); omega))) ?_) (PMem.le_refl _) (fun _ h => List.Sublist.subset (.cons _ (.cons_cons _ (.cons_cons _ (.slnil)))) h)
                refine Y_go _ (PMem.le_refl _) (fun _ h => List.Sublist.subset (.cons _ (.cons_cons _ (.cons_cons _ (.slnil)))) h) (fun _ h => h) ?_
                refine Y_r 11 rfl (D_assign rfl) ?_
                refine Y_nil ?_ (PMem.le_refl _) (fun _ h => List.Sublist.subset (.cons _ (.cons_cons _ (.cons_cons _ (.slnil)))) h)
                exact R_at (Env.sub_cons rfl <| Env.sub_cons rfl <| Env.sub_cons rfl <| Env.sub_cons rfl <| Env.sub_cons rfl <| Env.sub_cons rfl <| Env.sub_cons (by show some (I _) = some (I _); rw [cmpAt_of hx9 hx11]) <| Env.sub_nil _)
          ·
            refine R_seq ?_
            refine R_seq ?_
            refine R_region ?_
            refine R_r (D_move rfl) ?_
            refine R_r (D_lt rfl rfl) ?_
            refine R_nil ?_
            refine R_cond rfl (fun h4 => ?_) (fun h4 => ?_)
            ·
              have h4p := of_decide_eq_true h4
              have hlt := cmpAt_lt h4p
              refine R_seq ?_
              refine R_region ?_
              refine R_r (D_move rfl) ?_
              refine R_r (D_move rfl) ?_
              refine R_r (D_move rfl) ?_
              obtain ⟨b12, ob12, csb12, elb12, frb12, rfl, hmb12, hxb12⟩ := hsr3.at (i := i) (by first | omega | (simp; omega))
              obtain ⟨x13, hx13⟩ : ∃ e_, (x.flat [])[i]? = some e_ := ⟨_, List.getElem?_eq_getElem (by omega)⟩
              have hex13 := hxb12 i x13 hx13
              refine R_r (D_indexLn (i) Tryz.underlying94 Tryz.sizeOf99 rfl rfl (by first | rfl | omega) (by first | omega | (simp <;> omega))) ?_
              refine R_r (D_load rfl (Has.mem hmb12) (Rd.elemA (i := i) hex13 Tryz.underlying99 rfl inf99 rfl)) ?_
              refine R_o (E_buildSlice (ps := [(0, .tmp 73)]) (vs := [(0, Entry.val x13)]) (cs := (Entry.cells x13)) rfl (bs94_1 _) (fun b14 => ?_))
              refine R_o (E_append (news := (Entry.cells x13)) 1 Tryz.underlying94 el99 rfl rfl rfl (Has.own 0 rfl) rfl rfl (by exact ones_Entry _) (by unfold maxLen; omega) (by omega) (fun v15 hv15 => ?_))
              refine R_r (D_assign rfl) ?_
              refine R_nil ?_
              refine R_seq ?_
              refine R_region ?_
              refine R_r (D_move rfl) ?_
              refine R_r (D_add rfl rfl rfl (by omega) (by omega)) ?_
              refine R_r (D_assign rfl) ?_
              refine R_nil ?_
              refine R_exit rfl ?_
              refine R_drop (H' := [.row v15 99 40 (ol.length + 1) ((ol.flatMap Entry.cells) ++ (Entry.cells x13)), .blk b2 (.cells (List.toArray (NodeC.cells NodeC.zero)) 30), .blk b1 (.cells (List.toArray (NodeC.cells (⟨x.name, x.value, x.marks, .slice a x.kids.length c⟩ : NodeC))) 30)]) (.cons _ (List.Sublist.refl _)) ?_
              exact R_back (v15, ol ++ [x13], i + 1, k) (by show (i + 1) ≤ (x.flat []).length ∧ k ≤ l.length ∧ (ol ++ [x13]).length ≤ (i + 1) + k ∧ (∀ e ∈ (ol ++ [x13]), e.path.length ≤ 1073741824) ∧ mergeA (x.flat []) l = (mergeA ((x.flat []).drop (i + 1)) (l.drop k)).map (fun out => (ol ++ [x13]) ++ out); exact ⟨by omega, by omega, by simp; omega, fun e he => by rcases List.mem_append.1 he with he | he; exact hop e he; exact (List.mem_singleton.1 he) ▸ hfp _ (List.mem_of_getElem? hx13), by rw [hmg, mergeA_less hx13 h4p, map_app]⟩) (by show ((x.flat []).length - (i + 1)) + (l.length - k) < ((x.flat []).length - i) + (l.length - k); omega) (Env.sub_cons rfl <| Env.sub_cons rfl <| Env.sub_cons rfl <| Env.sub_cons rfl <| Env.sub_cons rfl <| Env.sub_cons rfl <| Env.sub_nil _) rfl (by simp)
            ·
              have h4p := of_decide_eq_false h4
              have hlt := cmpAt_ge h4p (by omega)
              refine R_skip ?_
              refine R_seq ?_
              refine R_seq ?_
              refine R_region ?_
              refine R_r (D_move rfl) ?_
              refine R_r (D_eq rfl rfl) ?_
              refine R_nil ?_
              refine R_join [(1, .slice b l.length d), (4, P_ b2 0), (6, .slice ar3 ((x.flat []).length) cr3), (8, v), (9, I ((if cmpAt (x.flat []) l i k = 0 then i + 1 else i : Nat) : Int)), (10, I (k : Int))] (M' := Mr3) (H' := [.row v 99 40 ol.length (ol.flatMap Entry.cells), .blk b2 (.cells (List.toArray (NodeC.cells NodeC.zero)) 30), .blk b1 (.cells (List.toArray (NodeC.cells (⟨x.name, x.value, x.marks, .slice a x.kids.length c⟩ : NodeC))) 30)]) ?_ ?_
              ·
                refine R_cond rfl (fun h5 => ?_) (fun h5 => ?_)
                ·
                  have h5p := of_decide_eq_true h5
                  have hlt2 := cmpAt_eq h5p
                  refine R_region ?_
                  refine R_r (D_move rfl) ?_
                  refine R_r (D_add rfl rfl rfl (by omega) (by omega)) ?_
                  refine R_r (D_assign rfl) ?_
                  refine R_nil ?_
                  exact R_at (Env.sub_cons rfl <| Env.sub_cons rfl <| Env.sub_cons rfl <| Env.sub_cons rfl <| Env.sub_cons (by show some (I _) = some (I _); rw [if_pos h5p]; try rfl) <| Env.sub_cons rfl <| Env.sub_nil _)
                ·
                  have h5p := of_decide_eq_false h5
                  refine R_skip ?_
                  exact R_at (Env.sub_cons rfl <| Env.sub_cons rfl <| Env.sub_cons rfl <| Env.sub_cons rfl <| Env.sub_cons (by show some (I _) = some (I _); rw [if_neg h5p]; try rfl) <| Env.sub_cons rfl <| Env.sub_nil _)
              ·
                refine R_seq ?_
                refine R_seq ?_
                refine R_region ?_
                refine R_r (D_move rfl) ?_
                refine R_r (D_move rfl) ?_
                obtain ⟨b16, ob16, csb16, elb16, frb16, rfl, hmb16, hxb16⟩ := q5.at (i := k) (by first | omega | (simp; omega))
                obtain ⟨x17, hx17⟩ : ∃ e_, l[k]? = some e_ := ⟨_, List.getElem?_eq_getElem (by omega)⟩
                have hex17 := hxb16 k x17 hx17
                refine R_r (D_indexLn (k) Tryz.underlying31 Tryz.sizeOf66 rfl rfl (by first | rfl | omega) (by first | omega | (simp <;> omega))) ?_
                refine R_r (D_fieldAddr fa66_2 rfl) ?_
                refine R_r (D_load rfl (Has.mem hmb16) (Rd.elemP (i := k) (k := 36) hex17 Tryz.underlying24 rfl inf24 rfl rfl rfl)) ?_
                refine R_o (E_callV (v := .bool (Val.okN x17.new)) rfl rfl en39 (fun w hM => Right13_C x17.new Mr3 w hM ) ?_)
                refine R_r (D_not rfl) ?_
                refine R_nil ?_
                refine R_cond rfl (fun h5 => ?_) (fun h5 => ?_)
                ·
                  refine R_seq ?_
                  refine R_region ?_
                  refine R_r (D_build rfl bd30_) ?_
                  refine R_o (E_store (cs' := (NodeC.cells NodeC.zero)) 1 rfl rfl rfl (Wr.agg Tryz.sizeOf30 rfl rfl rfl rfl) ?_)
                  refine R_r (D_assign rfl) ?_
                  refine R_nil ?_
                  refine R_ret ?_
                  refine R_finCT rfl rfl rfl (Has.own 1 rfl) (rd30_NodeC_0 NodeC.zero) [] (by simp) ?_
                  have hE := applyE_shape (x := x) (by simpa using h1) hall (by rw [hmg, mergeA_more hx17 h4p, if_neg (by simpa using h5)]; rfl)
                  exact ⟨rfl, _, by rw [hE], rfl, fun h => by rw [hE] at h; cases h⟩
                ·
                  refine R_skip ?_
                  refine R_seq ?_
                  refine R_seq ?_
                  refine R_region ?_
                  refine R_r (D_move rfl) ?_
                  refine R_r (D_move rfl) ?_
                  refine R_r (D_indexLn (k) Tryz.underlying31 Tryz.sizeOf66 rfl rfl (by first | rfl | omega) (by first | omega | (simp <;> omega))) ?_
                  refine R_r (D_fieldAddr fa66_2 rfl) ?_
                  refine R_r (D_fieldAddr fa24_0 rfl) ?_
                  refine R_r (D_load rfl (Has.mem hmb16) (Rd.elem (i := k) (k := 36) hex17 Tryz.isAgg3 rfl rfl)) ?_
                  refine R_r (D_ne rfl rfl) ?_
                  refine R_nil ?_
                  refine R_cond rfl (fun h6 => ?_) (fun h6 => ?_)
                  ·
                    have h6p : ¬ (x17.new.kind = 0) := by simpa using h6
                    refine Y_region [.blk b2 (.cells (List.toArray (NodeC.cells NodeC.zero)) 30), .blk b1 (.cells (List.toArray (NodeC.cells (⟨x.name, x.value, x.marks, .slice a x.kids.length c⟩ : NodeC))) 30)] mixed ?_
                    refine Y_r 0 rfl (D_move rfl) ?_
                    refine Y_r 1 rfl (D_move rfl) ?_
                    refine Y_r 2 rfl (D_move rfl) ?_
                    refine Y_r 3 rfl (D_indexLn (k) Tryz.underlying31 Tryz.sizeOf66 rfl rfl (by first | rfl | omega) (by first | omega | (simp <;> omega))) ?_
                    refine Y_r 4 rfl (D_fieldAddr fa66_0 rfl) ?_
                    refine Y_r 5 rfl (D_load rfl (Has.mem hmb16) (Rd.elem0 (i := k) hex17 Tryz.isAgg9 rfl rfl)) ?_
                    refine Y_r 6 rfl (D_move rfl) ?_
                    refine Y_r 7 rfl (D_move rfl) ?_
                    refine Y_r 8 rfl (D_indexLn (k) Tryz.underlying31 Tryz.sizeOf66 rfl rfl (by first | rfl | omega) (by first | omega | (simp <;> omega))) ?_
                    refine Y_r 9 rfl (D_fieldAddr fa66_2 rfl) ?_
                    refine Y_r 10 rfl (D_load rfl (Has.mem hmb16) (Rd.elemP (i := k) (k := 36) hex17 Tryz.underlying24 rfl inf24 rfl rfl rfl)) ?_
                    refine Y_r 11 rfl (D_build rfl (bd99_0_1 _ _)) ?_
                    refine Y_o 12 rfl (E_buildSlice (ps := [(0, .tmp 108)]) (vs := [(0, Entry.val (⟨x17.path, x17.new, Marks.zero⟩ : Entry))]) (cs := (Entry.cells (⟨x17.path, x17.new, Marks.zero⟩ : Entry))) rfl (bs94_1 _) (fun b18 => ?_)) (PMem.le_refl _) (fun _ h => List.Sublist.subset (.cons _ (.cons_cons _ (.cons_cons _ (.slnil)))) h)
                    refine Y_go _ (PMem.le_refl _) (fun _ h => List.Sublist.subset (.cons _ (.cons _ (.cons_cons _ (.cons_cons _ (.slnil))))) h) (fun _ h => h) ?_
                    refine Y_o 13 rfl (E_append (news := (Entry.cells (⟨x17.path, x17.new, Marks.zero⟩ : Entry))) 1 Tryz.underlying94 el99 rfl rfl rfl (Has.own 0 rfl) rfl rfl (by exact ones_Entry _) (by unfold maxLen; omega) (by omega) (fun v19 hv19 => ?_)) (PMem.le_refl _) (fun _ h => List.Sublist.subset (.cons _ (.cons _ (.cons_cons _ (.cons_cons _ (.slnil))))) h)
                    refine Y_go _ (PMem.le_refl _) (fun _ h => List.Sublist.subset (.cons _ (.cons _ (.cons_cons _ (.cons_cons _ (.slnil))))) h) (fun _ h => h) ?_
                    refine Y_r 14 rfl (D_assign rfl) ?_
                    refine Y_nil ?_ (PMem.le_refl _) (fun _ h => List.Sublist.subset (.cons _ (.cons _ (.cons_cons _ (.cons_cons _ (.slnil))))) h)
                    refine R_region ?_
                    refine R_r (D_move rfl) ?_
                    refine R_r (D_add rfl rfl rfl (by omega) (by omega)) ?_
                    refine R_r (D_assign rfl) ?_
                    refine R_nil ?_
                    have hite := ite_i (h := x.flat []) (l := l) (k := k) hi
                    refine R_drop (H' := [.row v19 99 40 (ol.length + 1) ((ol.flatMap Entry.cells) ++ (Entry.cells (⟨x17.path, x17.new, Marks.zero⟩ : Entry))), .blk b2 (.cells (List.toArray (NodeC.cells NodeC.zero)) 30), .blk b1 (.cells (List.toArray (NodeC.cells (⟨x.name, x.value, x.marks, .slice a x.kids.length c⟩ : NodeC))) 30)]) (.cons _ (List.Sublist.refl _)) ?_
                    exact R_back (v19, ol ++ [(⟨x17.path, x17.new, Marks.zero⟩ : Entry)], if cmpAt (x.flat []) l i k = 0 then i + 1 else i, k + 1) (by show (if cmpAt (x.flat []) l i k = 0 then i + 1 else i) ≤ (x.flat []).length ∧ (k + 1) ≤ l.length ∧ (ol ++ [(⟨x17.path, x17.new, Marks.zero⟩ : Entry)]).length ≤ (if cmpAt (x.flat []) l i k = 0 then i + 1 else i) + (k + 1) ∧ (∀ e ∈ (ol ++ [(⟨x17.path, x17.new, Marks.zero⟩ : Entry)]), e.path.length ≤ 1073741824) ∧ mergeA (x.flat []) l = (mergeA ((x.flat []).drop (if cmpAt (x.flat []) l i k = 0 then i + 1 else i)) (l.drop (k + 1))).map (fun out => (ol ++ [(⟨x17.path, x17.new, Marks.zero⟩ : Entry)]) ++ out); refine ⟨by omega, by omega, by simp only [List.length_append, List.length_singleton]; omega, ?_, ?_⟩; (intro e he; rcases List.mem_append.1 he with he | he; exact hop e he; (have e2 := List.mem_singleton.1 he; subst e2; exact hpl _ (List.mem_of_getElem? hx17))); rw [hmg, mergeA_more hx17 h4p, if_pos (by simpa using h5), if_neg h6p, map_app]) (by show ((x.flat []).length - (if cmpAt (x.flat []) l i k = 0 then i + 1 else i)) + (l.length - (k + 1)) < ((x.flat []).length - i) + (l.length - k); omega) (Env.sub_cons rfl <| Env.sub_cons rfl <| Env.sub_cons rfl <| Env.sub_cons rfl <| Env.sub_cons rfl <| Env.sub_cons rfl <| Env.sub_nil _) rfl (by simp)
                  ·
                    have h6p : (x17.new.kind = 0) := by simpa using h6
                    refine R_skip ?_
                    refine R_region ?_
                    refine R_r (D_move rfl) ?_
                    refine R_r (D_add rfl rfl rfl (by omega) (by omega)) ?_
                    refine R_r (D_assign rfl) ?_
                    refine R_nil ?_
                    have hite := ite_i (h := x.flat []) (l := l) (k := k) hi
                    exact R_back (v, ol, if cmpAt (x.flat []) l i k = 0 then i + 1 else i, k + 1) (by show (if cmpAt (x.flat []) l i k = 0 then i + 1 else i) ≤ (x.flat []).length ∧ (k + 1) ≤ l.length ∧ ol.length ≤ (if cmpAt (x.flat []) l i k = 0 then i + 1 else i) + (k + 1) ∧ (∀ e ∈ ol, e.path.length ≤ 1073741824) ∧ mergeA (x.flat []) l = (mergeA ((x.flat []).drop (if cmpAt (x.flat []) l i k = 0 then i + 1 else i)) (l.drop (k + 1))).map (fun out => ol ++ out); refine ⟨by omega, by omega, by omega, ?_, ?_⟩; exact hop; rw [hmg, mergeA_more hx17 h4p, if_pos (by simpa using h5), if_pos h6p, map_app]; simp) (by show ((x.flat []).length - (if cmpAt (x.flat []) l i k = 0 then i + 1 else i)) + (l.length - (k + 1)) < ((x.flat []).length - i) + (l.length - k); omega) (Env.sub_cons rfl <| Env.sub_cons rfl <| Env.sub_cons rfl <| Env.sub_cons rfl <| Env.sub_cons rfl <| Env.sub_cons rfl <| Env.sub_nil _) rfl (by simp)
        ·
          have h3p := h3; simp only [Bool.and_eq_true, Bool.or_eq_true, Bool.not_eq_true', Bool.and_eq_false_imp, Bool.or_eq_false_iff, Bool.not_eq_false', decide_eq_true_eq, decide_eq_false_iff_not] at h3p
          refine R_exit rfl ?_
          refine R_seq ?_
          refine R_seq ?_
          have hmf : mergeA (x.flat []) l = some ol := by rw [hmg, mergeA_end (by omega) (by omega)]; simp
          refine R_freezeRow (fun M20 hleM20 hrowM20 => ?_)
          have q21 := NdA.le q4 hleM20
          have q22 := SlA.le q5 hleM20
          have q23 := SlA.le hsr3 hleM20
          obtain ⟨az24, cz24, rfl, hcz24, hsz24⟩ := hrowM20.sla (l := ol) (enc := Entry.cells) (fun _ => rfl) (by omega)
          refine R_region ?_
          refine R_r (D_move rfl) ?_
          refine R_o (E_callV (v := .bool (treeB ol)) rfl rfl en40 (fun w hM => tree_C ol az24 cz24 M20 w hM (by omega) hsz24 (by omega) hop) ?_)
          refine R_r (D_not rfl) ?_
          refine R_nil ?_
          refine R_cond rfl (fun h4 => ?_) (fun h4 => ?_)
          ·
            refine R_seq ?_
            refine R_region ?_
            refine R_r (D_build rfl bd30_) ?_
            refine R_o (E_store (cs' := (NodeC.cells NodeC.zero)) 0 rfl rfl rfl (Wr.agg Tryz.sizeOf30 rfl rfl rfl rfl) ?_)
            refine R_r (D_assign rfl) ?_
            refine R_nil ?_
            refine R_ret ?_
            refine R_finCT rfl rfl rfl (Has.own 0 rfl) (rd30_NodeC_0 NodeC.zero) [] (by simp) ?_
            have hE := applyE_tree (x := x) (by simpa using h1) hall hmf (by simpa using h4)
            exact ⟨rfl, _, by rw [hE], rfl, fun h => by rw [hE] at h; cases h⟩
          ·
            refine R_skip ?_
            refine R_seq ?_
            refine R_region ?_
            refine R_r (D_move rfl) ?_
            refine R_o (E_callP rfl rfl en41 (fun w hM => Grow_C ol az24 cz24 M20 w hM (by omega) hsz24 (by omega) hop (by have := treeB_pos (l := ol) (by simpa using h4); omega)) (fun vr25 Mr25 Hr25 hler25 hpr25 => ?_))
            have q26 := NdA.le q21 hler25
            have q27 := SlA.le q22 hler25
            have q28 := SlA.le q23 hler25
            have q29 := SlA.le hsz24 hler25
            obtain ⟨rfl, er25, ksr25, nr25, kvr25, her25, hgr25, hle2r25, rfl, hkvr25⟩ := hpr25
            obtain ⟨akr25, ckr25, rfl, hckr25, hAr25⟩ := hkvr25.sl
            refine R_o (E_store (cs' := (NodeC.cells (⟨([] : Str), er25.value, er25.marks, .slice akr25 ksr25.length ckr25⟩ : NodeC))) 0 rfl rfl rfl (Wr.agg Tryz.sizeOf30 rfl rfl rfl rfl) ?_)
            refine R_r (D_assign rfl) ?_
            refine R_nil ?_
            refine R_ret ?_
            refine R_finCT rfl rfl rfl (Has.own 0 rfl) (rd30_NodeC_0 (⟨([] : Str), er25.value, er25.marks, .slice akr25 ksr25.length ckr25⟩ : NodeC)) [] (by simp) ?_
            have hE := applyE_ok (x := x) (by simpa using h1) hall hmf (by simpa using h4)
            exact ⟨rfl, _, by rw [hE], rfl, fun _ => ⟨_, _, _, _, hmf, by simpa using h4, her25, hgr25, rfl, rfl, KidsAt.of hAr25 hckr25⟩⟩

end Go.Proofs.YtgmomhdammdjgaaGreat
