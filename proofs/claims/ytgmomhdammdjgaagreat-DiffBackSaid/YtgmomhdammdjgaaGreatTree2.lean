/-
  The program's trees (package tree), walked: made of parts, grown of a node. Conditions: trees of at most 2^30 parts.
-/
import Derived.Test.YtgmomhdammdjgaaGreatTree1
set_option linter.unusedVariables false
set_option linter.unusedSimpArgs false
set_option maxRecDepth 20000
set_option maxHeartbeats 4000000
namespace Go.Proofs.YtgmomhdammdjgaaGreat
open Go Go.Proofs Go.RowKit

theorem en75 : ∀ (args : Array Value) (w : World), (callFunc 75 args).run Tryz.prog w = .ok (.enter 75 args) w := enters_fn Tryz.func75 (by kernel_rfl) rfl
theorem bd112_0_1_2_3_4 (x0 : Val) (x1 : Marks) (x2a : Option Addr) (x2n x2c : Nat) (x3a : Option Addr) (x3n x3c : Nat) (x4 : Int) : Bd Tryz.prog 112 [(0, Val.val x0), (1, Marks.val x1), (2, .slice x2a x2n x2c), (3, .slice x3a x3n x3c), (4, I x4)] (TreeC.val ⟨x0, x1, .slice x2a x2n x2c, .slice x3a x3n x3c, x4, 0⟩) := fun w => by kernel_rfl
theorem fa112_4 : Fa Tryz.prog 112 4 41 := Fa.mk Tryz.underlying112 rfl rfl (fun w => ⟨0, Tryz.sizeOf3 w⟩)
theorem fa112_5 : Fa Tryz.prog 112 5 42 := Fa.mk Tryz.underlying112 rfl rfl (fun w => ⟨0, Tryz.sizeOf3 w⟩)
theorem en104 : ∀ (args : Array Value) (w : World), (callFunc 104 args).run Tryz.prog w = .ok (.enter 104 args) w := enters_fn Tryz.func104 (by kernel_rfl) rfl
theorem en76 : ∀ (args : Array Value) (w : World), (callFunc 76 args).run Tryz.prog w = .ok (.enter 76 args) w := enters_fn Tryz.func76 (by kernel_rfl) rfl
theorem bs110_1_ptr (x0 : Nat) : Bs Tryz.prog 110 34 1 [(0, P_ x0 0)] [P_ x0 0] := fun w => by kernel_rfl
theorem el34 : ElemOk Tryz.prog 34 1 8 := ElemOk.mk' (by kernel_rfl) (by omega)
theorem tcheck_C : ∀ (n : Nat) (x : Node), x.size = n → ∀ (a : Option Addr) (c : Nat) (p : Str) (lv : Nat) (M : PMem) (w : World) (hM : Lies M w), x.kids.length ≤ c → NdA M a x.kids → p.length + Node.wtL x.kids ≤ 1073741824 → lv ≤ 64 → Ends Tryz.prog 103 [NodeC.val ⟨x.name, x.value, x.marks, .slice a x.kids.length c⟩, S p, I lv] w [] M (fun v' M' H' => v' = .tuple #[S (tcheck x p lv).1, I (tcheck x p lv).2] ∧ M' = M ∧ H' = []) := by
  intro n
  induction n using Nat.strongRecOn with
  | _ n IH => exact fun x hx a c p lv M w hM hc hk hp hl => tcheck_S x a c p lv M w hM (fun y hy a c p lv M w hM h1 h2 h3 h4 => IH y.size (by omega) y rfl a c p lv M w hM h1 h2 h3 h4) hc hk hp hl

theorem CheckT_C (x : Node) (a : Option Addr) (c : Nat) (M : PMem) (w : World) (hM : Lies M w) (hc : x.kids.length ≤ c) (hkx : NdA M a x.kids) (hwl : Node.wtL x.kids ≤ 1073741824) : Ends Tryz.prog 75 [NodeC.val (⟨x.name, x.value, x.marks, .slice a x.kids.length c⟩ : NodeC)] w [] M (fun v' M' H' => v' = .tuple #[S (tcheck x [] 0).1, I (tcheck x [] 0).2] ∧ M' = M ∧ H' = []) := by
  refine Ends.enter (H := []) Tryz.func75 rfl Tryz.ntmps75 rfl (St.start hM) ?_
  refine R_seq ?_
  refine R_region ?_
  refine R_o (E_box (NodeC.cells (⟨x.name, x.value, x.marks, .slice a x.kids.length c⟩ : NodeC)) rfl rfl (fun b1 => ?_))
  refine R_r (D_assign rfl) ?_
  refine R_r (D_assign rfl) ?_
  refine R_nil ?_
  refine R_seq ?_
  refine R_region ?_
  refine R_r (D_load rfl (Has.own 0 rfl) (rd30_NodeC_0 (⟨x.name, x.value, x.marks, .slice a x.kids.length c⟩ : NodeC))) ?_
  refine R_o (E_callV (v := .tuple #[S ((tcheck x ([] : Str) 0).1), I ((tcheck x ([] : Str) 0).2)]) rfl rfl en103 (fun w hM => tcheck_C _ x rfl a c ([] : Str) 0 M w hM (by omega) hkx (by simpa using hwl) (by omega)) ?_)
  refine R_r (D_extract rfl rfl) ?_
  refine R_r (D_extract rfl rfl) ?_
  refine R_r (D_assign rfl) ?_
  refine R_r (D_assign rfl) ?_
  refine R_nil ?_
  refine R_ret ?_
  refine R_drop (List.nil_sublist _) ?_
  refine R_fin2 rfl rfl rfl ?_
  exact ⟨rfl, rfl, rfl⟩

theorem made_C (v : Val) (m : Marks) (ks : List Node) (an : Option Addr) (cn : Nat) (ak : Option Addr) (ck : Nat) (M : PMem) (w : World) (hM : Lies M w) (hcn : (ks.map Node.name).length ≤ cn) (hsn : SlA M 1 (byEnc fun s : Str => [S s]) an (ks.map Node.name)) (hck : ks.length ≤ ck) (huk : SubA M ak ks) (hsz : Node.sizeL ks ≤ 2147483648) : Ends Tryz.prog 104 [Val.val v, Marks.val m, .slice an ((ks.map Node.name).length) cn, .slice ak ks.length ck] w [] M (fun v' M' H' => H' = [] ∧ ∃ b, v' = P_ b 0 ∧ TreeAt M' b (Node.mk [] v m ks)) := by
  have hkl := Node.len_sizeL ks
  refine Ends.enter (H := []) Tryz.func104 rfl Tryz.ntmps104 rfl (St.start hM) ?_
  refine R_seq ?_
  refine R_region ?_
  refine R_o (E_box (Val.cells v) rfl rfl (fun b1 => ?_))
  refine R_o (E_box (Marks.cells m) rfl rfl (fun b2 => ?_))
  refine R_r (D_assign rfl) ?_
  refine R_nil ?_
  refine R_seq ?_
  refine R_region ?_
  refine R_r (D_load rfl (Has.own 1 rfl) (rd24_Val_0 v)) ?_
  refine R_r (D_load rfl (Has.own 0 rfl) (rd27_Marks_0 m)) ?_
  refine R_r (D_move rfl) ?_
  refine R_r (D_move rfl) ?_
  refine R_r (D_build rfl (bd112_0_1_2_3_4 _ _ _ _ _ _ _ _ _)) ?_
  refine R_o (E_box (TreeC.cells (⟨v, m, .slice an ((ks.map Node.name).length) cn, .slice ak ks.length ck, 1, 0⟩ : TreeC)) rfl rfl (fun b3 => ?_))
  refine R_r (D_assign rfl) ?_
  refine R_nil ?_
  refine R_seq ?_
  refine R_seq ?_
  refine R_region ?_
  refine R_r (D_move rfl) ?_
  refine R_r (D_lenL Tryz.underlying110 rfl) ?_
  refine R_r (D_move rfl) ?_
  refine R_nil ?_
  refine R_block ?_
  refine R_loop (σ := (Nat)) (fun gs => ([(9, P_ b3 0), (18, .slice ak ks.length ck), (19, I (ks.length : Int)), (20, I (gs : Int))], M, [.blk b3 (.cells (List.toArray (TreeC.cells (⟨v, m, .slice an ((ks.map Node.name).length) cn, .slice ak ks.length ck, ((1 + Node.sizeL (ks.take gs) : Nat) : Int), ((Node.depthL (ks.take gs) : Nat) : Int)⟩ : TreeC))) 112), .blk b2 (.cells (List.toArray (Marks.cells m)) 27), .blk b1 (.cells (List.toArray (Val.cells v)) 24)])) (fun gs => gs ≤ ks.length) (fun gs => ks.length - gs) 0 ?_ (Env.sub_cons rfl <| Env.sub_cons rfl <| Env.sub_cons rfl <| Env.sub_cons rfl <| Env.sub_nil _) rfl (by simp [Node.sizeL, Node.depthL]) ?_
  · show 0 ≤ ks.length; omega
  rintro i hok
  replace hok : i ≤ ks.length := hok
  show Cx.R _ _ _ [(9, P_ b3 0), (18, .slice ak ks.length ck), (19, I (ks.length : Int)), (20, I (i : Int))] M [.blk b3 (.cells (List.toArray (TreeC.cells (⟨v, m, .slice an ((ks.map Node.name).length) cn, .slice ak ks.length ck, ((1 + Node.sizeL (ks.take i) : Nat) : Int), ((Node.depthL (ks.take i) : Nat) : Int)⟩ : TreeC))) 112), .blk b2 (.cells (List.toArray (Marks.cells m)) 27), .blk b1 (.cells (List.toArray (Val.cells v)) 24)]
  have hst := Node.sizeL_take ks i
  have hdt := Node.depthL_le (ks.take i)
  refine R_seq ?_
  refine R_region ?_
  refine R_r (D_lt rfl rfl) ?_
  refine R_nil ?_
  refine R_seq ?_
  refine R_cond rfl (fun h1 => ?_) (fun h1 => ?_)
  ·
    have h1p := of_decide_eq_true h1
    refine R_skip ?_
    refine R_seq ?_
    refine R_block ?_
    refine R_seq ?_
    refine R_region ?_
    obtain ⟨b4, ob4, csb4, elb4, frb4, rfl, hmb4, hxb4⟩ := huk.at (i := i) (by first | omega | (simp; omega))
    obtain ⟨x5, hx5⟩ : ∃ e_, ks[i]? = some e_ := ⟨_, List.getElem?_eq_getElem (by omega)⟩
    obtain ⟨tx5, hex5, htx5⟩ := hxb4 i x5 hx5
    refine R_r (D_indexLn (i) Tryz.underlying110 Tryz.sizeOf34 rfl rfl (by first | rfl | omega) (by first | omega | (simp <;> omega))) ?_
    refine R_r (D_load rfl (Has.mem hmb4) (Rd.elem0 (i := i) hex5 Tryz.isAgg34 rfl rfl)) ?_
    refine R_r (D_assign rfl) ?_
    refine R_nil ?_
    refine R_seq ?_
    refine Z_region mixed ?_
    refine Z_enter 11 ?_
    refine Z_r 0 rfl (D_move rfl) ?_
    refine Z_r 1 rfl (D_nilCheck rfl) ?_
    refine Z_r 2 rfl (D_fieldAddr fa112_4 rfl) ?_
    refine Z_r 3 rfl (D_load rfl (Has.own 0 rfl) (Rd.one Tryz.isAgg3 rfl)) ?_
    refine Z_r 4 rfl (D_move rfl) ?_
    refine Z_r 5 rfl (D_nilCheck rfl) ?_
    refine Z_r 6 rfl (D_fieldAddr fa112_4 rfl) ?_
    obtain ⟨ano6, cno6, ako6, cko6, elo6, fro6, hmo6, hcno6, hsno6, hcko6, hsko6⟩ := (htx5).open
    refine Z_r 7 rfl (D_load rfl (Has.mem hmo6) (Rd.one Tryz.isAgg3 rfl)) ?_
    refine Z_r 8 rfl (D_add rfl rfl rfl (by first | omega | (have := Node.sizeL_mem_take (by assumption); dsimp only; omega)) (by first | omega | (have := Node.sizeL_mem_take (by assumption); dsimp only; omega))) ?_
    refine Z_oneS 9 rfl (D_nilCheck rfl) (PMem.le_refl _) (fun _ h => h) ?_
    refine Z_r 10 rfl (D_fieldAddr fa112_4 rfl) ?_
    refine Z_s rfl (PMem.le_refl _) (fun _ h => h) (E_store (cs' := (TreeC.cells (⟨v, m, .slice an ((ks.map Node.name).length) cn, .slice (some ⟨b4, ob4, none⟩) ks.length ck, ((1 + Node.sizeL (ks.take i) : Nat) : Int) + ((1 + Node.sizeL x5.kids : Nat) : Int), ((Node.depthL (ks.take i) : Nat) : Int)⟩ : TreeC))) 0 rfl rfl rfl (Wr.one Tryz.sizeOf3 rfl rfl rfl) ?_)
    refine Z_nil ?_
    refine Z_region mixed ?_
    refine Z_enter 13 ?_
    refine Z_r 0 rfl (D_move rfl) ?_
    refine Z_r 1 rfl (D_move rfl) ?_
    refine Z_r 2 rfl (D_nilCheck rfl) ?_
    refine Z_r 3 rfl (D_fieldAddr fa112_5 rfl) ?_
    refine Z_r 4 rfl (D_load rfl (Has.own 0 rfl) (Rd.one Tryz.isAgg3 rfl)) ?_
    refine Z_r 5 rfl (D_move rfl) ?_
    refine Z_r 6 rfl (D_nilCheck rfl) ?_
    refine Z_r 7 rfl (D_fieldAddr fa112_5 rfl) ?_
    refine Z_r 8 rfl (D_load rfl (Has.mem hmo6) (Rd.one Tryz.isAgg3 rfl)) ?_
    refine Z_r 9 rfl (D_add rfl rfl rfl (by first | omega | (have := Node.sizeL_mem_take (by assumption); dsimp only; omega)) (by first | omega | (have := Node.sizeL_mem_take (by assumption); dsimp only; omega))) ?_
    refine Z_r 10 rfl (D_max rfl rfl) ?_
    refine Z_oneS 11 rfl (D_nilCheck rfl) (PMem.le_refl _) (fun _ h => h) ?_
    refine Z_r 12 rfl (D_fieldAddr fa112_5 rfl) ?_
    refine Z_s rfl (PMem.le_refl _) (fun _ h => h) (E_store (cs' := (TreeC.cells (⟨v, m, .slice an ((ks.map Node.name).length) cn, .slice (some ⟨b4, ob4, none⟩) ks.length ck, ((1 + Node.sizeL (ks.take i) : Nat) : Int) + ((1 + Node.sizeL x5.kids : Nat) : Int), max ((Node.depthL (ks.take i) : Nat) : Int) (((Node.depthL x5.kids : Nat) : Int) + 1)⟩ : TreeC))) 0 rfl rfl rfl (Wr.one Tryz.sizeOf3 rfl rfl rfl) ?_)
    refine Z_nil ?_
    refine R_region ?_
    refine R_r (D_add rfl rfl rfl (by first | omega | (have := Node.sizeL_mem_take (by assumption); dsimp only; omega)) (by first | omega | (have := Node.sizeL_mem_take (by assumption); dsimp only; omega))) ?_
    refine R_r (D_move rfl) ?_
    refine R_nil ?_
    exact R_back (i + 1) (by show (i + 1) ≤ ks.length; omega) (by show ks.length - (i + 1) < ks.length - i; omega) (Env.sub_cons rfl <| Env.sub_cons rfl <| Env.sub_cons rfl <| Env.sub_cons rfl <| Env.sub_nil _) rfl (by have e0 := take_snoc hx5; have e1 : ((1 + Node.sizeL (ks.take (i + 1)) : Nat) : Int) = ((1 + Node.sizeL (ks.take i) : Nat) : Int) + ((1 + Node.sizeL x5.kids : Nat) : Int) := (by rw [e0, Node.sizeL_snoc, Node.size_eq x5]; omega); have e2 : ((Node.depthL (ks.take (i + 1)) : Nat) : Int) = max ((Node.depthL (ks.take i) : Nat) : Int) (((Node.depthL x5.kids : Nat) : Int) + 1) := (by rw [e0, Node.depthL_snoc, Node.depth_eq x5]; omega); dsimp only; rw [e1, e2]; rfl)
  ·
    have h1p := of_decide_eq_false h1
    refine R_exit rfl ?_
    refine R_seq ?_
    refine R_freeze (fun hlef7 hmf7 => ?_)
    have q8 := SlA.le hsn hlef7
    have q9 := SubA.le huk hlef7
    refine R_region ?_
    refine R_r (D_move rfl) ?_
    refine R_r (D_assign rfl) ?_
    refine R_nil ?_
    refine R_ret ?_
    refine R_drop (List.nil_sublist _) ?_
    refine R_fin1 rfl rfl ?_
    have hti : ks.take i = ks := List.take_of_length_le (by omega)
    exact ⟨rfl, _, rfl, TreeAt.of hmf7 rfl rfl (by rw [hti]) (by rw [hti]) hcn q8 hck q9⟩

theorem growT_S (x : Node) (a : Option Addr) (c : Nat) (M : PMem) (w : World) (hM : Lies M w) (ih : ∀ y : Node, y.size < x.size → ∀ (a : Option Addr) (c : Nat) (M : PMem) (w : World) (hM : Lies M w), y.kids.length ≤ c → NdA M a y.kids → Node.wtL y.kids ≤ 1073741824 → Ends Tryz.prog 76 [NodeC.val ⟨y.name, y.value, y.marks, .slice a y.kids.length c⟩] w [] M (fun v' M' H' => H' = [] ∧ ∃ b, v' = P_ b 0 ∧ TreeAt M' b y)) (hc : x.kids.length ≤ c) (hkx : NdA M a x.kids) (hwl : Node.wtL x.kids ≤ 1073741824) : Ends Tryz.prog 76 [NodeC.val (⟨x.name, x.value, x.marks, .slice a x.kids.length c⟩ : NodeC)] w [] M (fun v' M' H' => H' = [] ∧ ∃ b, v' = P_ b 0 ∧ TreeAt M' b x) := by
  have hwk := Node.wt_kids (l := x.kids)
  have hsz := Node.sizeL_wt x.kids
  refine Ends.enter (H := []) Tryz.func76 rfl Tryz.ntmps76 rfl (St.start hM) ?_
  refine R_seq ?_
  refine R_region ?_
  refine R_o (E_box (NodeC.cells (⟨x.name, x.value, x.marks, .slice a x.kids.length c⟩ : NodeC)) rfl rfl (fun b1 => ?_))
  refine R_r (D_assign rfl) ?_
  refine R_nil ?_
  refine R_seq ?_
  refine R_region ?_
  refine R_r (D_assign rfl) ?_
  refine R_nil ?_
  refine R_seq ?_
  refine R_region ?_
  refine R_r (D_assign rfl) ?_
  refine R_nil ?_
  refine R_seq ?_
  refine R_seq ?_
  refine R_region ?_
  refine R_r (D_fieldAddr fa30_3 rfl) ?_
  refine R_r (D_load rfl (Has.own 0 rfl) (Rd.one Tryz.isAgg28 rfl)) ?_
  refine R_r (D_lenL Tryz.underlying28 rfl) ?_
  refine R_r (D_move rfl) ?_
  refine R_nil ?_
  refine R_block ?_
  refine R_row0 34 1 ?_
  refine R_row0 9 1 ?_
  refine R_loop (σ := (Value) × (Value) × (List Nat) × (Nat) × (PMem)) (fun gs => ([(1, P_ b1 0), (3, gs.1), (4, gs.2.1), (8, .slice a x.kids.length c), (9, I (x.kids.length : Int)), (10, I (gs.2.2.2.1 : Int))], gs.2.2.2.2, [.row gs.1 9 1 (((x.kids.take gs.2.2.2.1).map Node.name).length) (((x.kids.take gs.2.2.2.1).map Node.name).flatMap fun q => [S q]), .row gs.2.1 34 1 gs.2.2.1.length (gs.2.2.1.flatMap fun b => [P_ b 0]), .blk b1 (.cells (List.toArray (NodeC.cells (⟨x.name, x.value, x.marks, .slice a x.kids.length c⟩ : NodeC))) 30)])) (fun gs => gs.2.2.2.1 ≤ x.kids.length ∧ PMem.le M gs.2.2.2.2 ∧ PtrsIs gs.2.2.2.2 gs.2.2.1 (x.kids.take gs.2.2.2.1)) (fun gs => x.kids.length - gs.2.2.2.1) ((.slice none 0 0 : Value), (.slice none 0 0 : Value), [], 0, M) ?_ (Env.sub_cons rfl <| Env.sub_cons rfl <| Env.sub_cons rfl <| Env.sub_cons rfl <| Env.sub_cons rfl <| Env.sub_cons rfl <| Env.sub_nil _) rfl rfl ?_
  · show 0 ≤ x.kids.length ∧ PMem.le M M ∧ PtrsIs M ([]) (x.kids.take 0); exact ⟨by omega, PMem.le_refl _, PtrsIs.nil _⟩
  rintro ⟨v1, v2, bs, i, Mv⟩ hok
  replace hok : i ≤ x.kids.length ∧ PMem.le M Mv ∧ PtrsIs Mv bs (x.kids.take i) := hok
  show Cx.R _ _ _ [(1, P_ b1 0), (3, v1), (4, v2), (8, .slice a x.kids.length c), (9, I (x.kids.length : Int)), (10, I (i : Int))] Mv [.row v1 9 1 (((x.kids.take i).map Node.name).length) (((x.kids.take i).map Node.name).flatMap fun q => [S q]), .row v2 34 1 bs.length (bs.flatMap fun b => [P_ b 0]), .blk b1 (.cells (List.toArray (NodeC.cells (⟨x.name, x.value, x.marks, .slice a x.kids.length c⟩ : NodeC))) 30)]
  obtain ⟨hi, hleV, hps⟩ := hok
  have q2 := NdA.le hkx hleV
  have hbl : bs.length = i := by rw [hps.1, List.length_take]; omega
  have hnl : ((x.kids.take i).map Node.name).length = i := by rw [List.length_map, List.length_take]; omega
  refine R_seq ?_
  refine R_region ?_
  refine R_r (D_lt rfl rfl) ?_
  refine R_nil ?_
  refine R_seq ?_
  refine R_cond rfl (fun h1 => ?_) (fun h1 => ?_)
  ·
    have h1p := of_decide_eq_true h1
    refine R_skip ?_
    refine R_seq ?_
    refine R_block ?_
    refine R_seq ?_
    refine R_region ?_
    obtain ⟨b3, ob3, csb3, elb3, frb3, rfl, hmb3, hxb3⟩ := q2.at (i := i) (by first | omega | (simp; omega))
    obtain ⟨x4, hx4⟩ : ∃ e_, x.kids[i]? = some e_ := ⟨_, List.getElem?_eq_getElem (by omega)⟩
    obtain ⟨ksx4, hex4, hkx4⟩ := (hxb3 i x4 hx4).open
    obtain ⟨ax4, cx4, rfl, hcx4, hkx4⟩ := hkx4.sl
    refine R_r (D_indexLn (i) Tryz.underlying28 Tryz.sizeOf30 rfl rfl (by first | rfl | omega) (by first | omega | (simp <;> omega))) ?_
    refine R_r (D_load rfl (Has.mem hmb3) (Rd.elemA (i := i) hex4 Tryz.underlying30 rfl inf30 rfl)) ?_
    refine R_o (E_alloc (NodeC.cells NodeC.zero) Tryz.zeroValue30 rfl (fun b5 => ?_))
    refine R_o (E_store (cs' := (NodeC.cells (⟨x4.name, x4.value, x4.marks, .slice ax4 x4.kids.length cx4⟩ : NodeC))) 0 rfl rfl rfl (Wr.agg Tryz.sizeOf30 rfl rfl rfl rfl) ?_)
    refine R_nil ?_
    refine R_seq ?_
    refine R_region ?_
    refine R_r (D_move rfl) ?_
    refine R_r (D_fieldAddr fa30_0 rfl) ?_
    refine R_r (D_load rfl (Has.own 0 rfl) (Rd.one Tryz.isAgg9 rfl)) ?_
    refine R_o (E_buildSlice (ps := [(0, .tmp 16)]) (vs := [(0, S x4.name)]) (cs := [S x4.name]) rfl (bs109_1_str _) (fun b6 => ?_))
    refine R_o (E_append (news := [S x4.name]) 2 Tryz.underlying109 el9 rfl rfl rfl (Has.own 0 rfl) rfl rfl (by intro u hu; simp at hu; (first | (rcases hu with rfl | hu) | subst hu) <;> rfl) (by unfold maxLen; omega) (by omega) (fun v7 hv7 => ?_))
    refine R_r (D_assign rfl) ?_
    refine R_nil ?_
    refine R_region ?_
    refine R_r (D_move rfl) ?_
    refine R_r (D_load rfl (Has.own 1 rfl) (rd30_NodeC_0 (⟨x4.name, x4.value, x4.marks, .slice ax4 x4.kids.length cx4⟩ : NodeC))) ?_
    refine R_o (E_callP rfl rfl en76 (fun w hM => ih x4 (Node.size_kid (List.mem_of_getElem? hx4)) ax4 cx4 Mv w hM (by omega) hkx4 (by have := Node.wt_mem (List.mem_of_getElem? hx4); have := Node.wt_eq x4; omega)) (fun vr8 Mr8 Hr8 hler8 hpr8 => ?_))
    have q9 := NdA.le q2 hler8
    have q10 := hler8 _ _ hmb3
    have q11 := fun i x h => NodeAt.le hler8 (hxb3 i x h)
    have q12 := NdA.le hkx4 hler8
    obtain ⟨rfl, br8, rfl, htr8⟩ := hpr8
    refine R_o (E_buildSlice (ps := [(0, .tmp 21)]) (vs := [(0, P_ br8 0)]) (cs := [P_ br8 0]) rfl (bs110_1_ptr _) (fun b13 => ?_))
    refine R_o (E_append (news := [P_ br8 0]) 4 Tryz.underlying110 el34 rfl rfl rfl (Has.own 0 rfl) rfl rfl (by intro u hu; simp at hu; (first | (rcases hu with rfl | hu) | subst hu) <;> rfl) (by unfold maxLen; omega) (by omega) (fun v14 hv14 => ?_))
    refine R_r (D_assign rfl) ?_
    refine R_nil ?_
    refine R_region ?_
    refine R_r (D_add rfl rfl rfl (by omega) (by omega)) ?_
    refine R_r (D_move rfl) ?_
    refine R_nil ?_
    refine R_drop (H' := [.row v7 9 1 (((x.kids.take i).map Node.name).length + 1) ((((x.kids.take i).map Node.name).flatMap fun q => [S q]) ++ [S x4.name]), .row v14 34 1 (bs.length + 1) ((bs.flatMap fun b => [P_ b 0]) ++ [P_ br8 0]), .blk b1 (.cells (List.toArray (NodeC.cells (⟨x.name, x.value, x.marks, .slice (some ⟨b3, ob3, none⟩) x.kids.length c⟩ : NodeC))) 30)]) (.cons _ (.cons _ (.cons _ (List.Sublist.refl _)))) ?_
    exact R_back (v7, v14, bs ++ [br8], i + 1, Mr8) (by show (i + 1) ≤ x.kids.length ∧ PMem.le M Mr8 ∧ PtrsIs Mr8 (bs ++ [br8]) (x.kids.take (i + 1)); refine ⟨by omega, PMem.le_trans hleV hler8, ?_⟩; rw [take_snoc hx4]; exact (hps.le hler8).snoc htr8) (by show x.kids.length - (i + 1) < x.kids.length - i; omega) (Env.sub_cons rfl <| Env.sub_cons rfl <| Env.sub_cons rfl <| Env.sub_cons rfl <| Env.sub_cons rfl <| Env.sub_cons rfl <| Env.sub_nil _) rfl (by dsimp only; rw [take_snoc hx4]; simp)
  ·
    have h1p := of_decide_eq_false h1
    refine R_exit rfl ?_
    refine R_seq ?_
    rw [List.take_of_length_le (by omega)] at hps
    refine R_freezeRow (fun M15 hleM15 hrowM15 => ?_)
    have q16 := NdA.le q2 hleM15
    rw [List.take_of_length_le (by omega)] at hrowM15
    obtain ⟨az17, cz17, rfl, hcz17, hsz17⟩ := hrowM15.sla (l := x.kids.map Node.name) (enc := (fun q : Str => [S q])) (fun _ => rfl) (by omega)
    refine R_freezeRow (fun M18 hleM18 hrowM18 => ?_)
    have q19 := NdA.le q16 hleM18
    have q20 := SlA.le hsz17 hleM18
    obtain ⟨av, cv, rfl, hcv, huv⟩ := hrowM18.subs (hps.le (PMem.le_trans hleM15 hleM18))
    refine R_region ?_
    refine R_r (D_fieldAddr fa30_1 rfl) ?_
    refine R_r (D_load rfl (Has.own 0 rfl) (rd24_NodeC_1 (⟨x.name, x.value, x.marks, .slice a x.kids.length c⟩ : NodeC))) ?_
    refine R_r (D_fieldAddr fa30_2 rfl) ?_
    refine R_r (D_load rfl (Has.own 0 rfl) (rd27_NodeC_36 (⟨x.name, x.value, x.marks, .slice a x.kids.length c⟩ : NodeC))) ?_
    refine R_r (D_move rfl) ?_
    refine R_r (D_move rfl) ?_
    refine R_o (E_callP rfl rfl en104 (fun w hM => made_C x.value x.marks x.kids az17 cz17 av cv M18 w hM (by first | omega | (simp; omega)) q20 (by omega) huv (by omega)) (fun vr21 Mr21 Hr21 hler21 hpr21 => ?_))
    have q22 := NdA.le q19 hler21
    have q23 := SlA.le q20 hler21
    have q24 := SubA.le huv hler21
    obtain ⟨rfl, br21, rfl, htr21⟩ := hpr21
    refine R_r (D_assign rfl) ?_
    refine R_nil ?_
    refine R_ret ?_
    refine R_drop (List.nil_sublist _) ?_
    refine R_fin1 rfl rfl ?_
    exact ⟨rfl, _, rfl, by have := TreeAt.anon htr21 x.name; cases x; exact this⟩

theorem growT_C : ∀ (n : Nat) (x : Node), x.size = n → ∀ (a : Option Addr) (c : Nat) (M : PMem) (w : World) (hM : Lies M w), x.kids.length ≤ c → NdA M a x.kids → Node.wtL x.kids ≤ 1073741824 → Ends Tryz.prog 76 [NodeC.val ⟨x.name, x.value, x.marks, .slice a x.kids.length c⟩] w [] M (fun v' M' H' => H' = [] ∧ ∃ b, v' = P_ b 0 ∧ TreeAt M' b x) := by
  intro n
  induction n using Nat.strongRecOn with
  | _ n IH => exact fun x hx a c M w hM hc hk hp => growT_S x a c M w hM (fun y hy a c M w hM h1 h2 h3 => IH y.size (by omega) y rfl a c M w hM h1 h2 h3) hc hk hp

theorem Of_C (x : Node) (a : Option Addr) (c : Nat) (M : PMem) (w : World) (hM : Lies M w) (hc : x.kids.length ≤ c) (hkx : NdA M a x.kids) (hwl : Node.wtL x.kids ≤ 1073741824) : Ends Tryz.prog 33 [NodeC.val (⟨x.name, x.value, x.marks, .slice a x.kids.length c⟩ : NodeC)] w [] M (fun v' M' H' => H' = [] ∧ ((¬ (tcheck x [] 0).2 = 0 ∧ v' = .tuple #[.pointer none, I (tcheck x [] 0).2]) ∨ ((tcheck x [] 0).2 = 0 ∧ ∃ b, v' = .tuple #[P_ b 0, I 0] ∧ TreeAt M' b x))) := by
  refine Ends.enter (H := []) Tryz.func33 rfl Tryz.ntmps33 rfl (St.start hM) ?_
  refine R_seq ?_
  refine R_region ?_
  refine R_o (E_box (NodeC.cells (⟨x.name, x.value, x.marks, .slice a x.kids.length c⟩ : NodeC)) rfl rfl (fun b1 => ?_))
  refine R_r (D_assign rfl) ?_
  refine R_r (D_assign rfl) ?_
  refine R_nil ?_
  refine R_seq ?_
  refine R_seq ?_
  refine R_region ?_
  refine R_r (D_load rfl (Has.own 0 rfl) (rd30_NodeC_0 (⟨x.name, x.value, x.marks, .slice a x.kids.length c⟩ : NodeC))) ?_
  refine R_o (E_callV (v := .tuple #[S ((tcheck x [] 0).1), I ((tcheck x [] 0).2)]) rfl rfl en75 (fun w hM => CheckT_C x a c M w hM (by omega) hkx (by omega)) ?_)
  refine R_r (D_move rfl) ?_
  refine R_r (D_extract rfl rfl) ?_
  refine R_r (D_extract rfl rfl) ?_
  refine R_r (D_assign rfl) ?_
  refine R_r (D_assign rfl) ?_
  refine R_nil ?_
  refine R_seq ?_
  refine R_region ?_
  refine R_r (D_move rfl) ?_
  refine R_r (D_ne rfl rfl) ?_
  refine R_nil ?_
  refine R_cond rfl (fun h1 => ?_) (fun h1 => ?_)
  ·
    have h1p : ¬ (((tcheck x [] 0).2) = 0) := by simpa using h1
    refine R_seq ?_
    refine R_region ?_
    refine R_r (D_move rfl) ?_
    refine R_r (D_assign rfl) ?_
    refine R_r (D_assign rfl) ?_
    refine R_nil ?_
    refine R_ret ?_
    refine R_drop (List.nil_sublist _) ?_
    refine R_fin2 rfl rfl rfl ?_
    exact ⟨rfl, .inl ⟨h1p, rfl⟩⟩
  ·
    have h1p : (((tcheck x [] 0).2) = 0) := by simpa using h1
    refine R_skip ?_
    refine R_seq ?_
    refine R_region ?_
    refine R_r (D_load rfl (Has.own 0 rfl) (rd30_NodeC_0 (⟨x.name, x.value, x.marks, .slice a x.kids.length c⟩ : NodeC))) ?_
    refine R_o (E_callP rfl rfl en76 (fun w hM => growT_C _ x rfl a c M w hM (by omega) hkx (by omega)) (fun vr2 Mr2 Hr2 hler2 hpr2 => ?_))
    have q3 := NdA.le hkx hler2
    obtain ⟨rfl, br2, rfl, htr2⟩ := hpr2
    refine R_r (D_assign rfl) ?_
    refine R_r (D_assign rfl) ?_
    refine R_nil ?_
    refine R_ret ?_
    refine R_drop (List.nil_sublist _) ?_
    refine R_fin2 rfl rfl rfl ?_
    exact ⟨rfl, .inr ⟨h1p, _, rfl, htr2⟩⟩

end Go.Proofs.YtgmomhdammdjgaaGreat
