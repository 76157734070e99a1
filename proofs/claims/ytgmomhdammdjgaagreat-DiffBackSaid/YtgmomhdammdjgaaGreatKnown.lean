/-
  The chapter's examples (twinelaw13.known) and grown, walked: they come out as told. No condition.
-/
import Derived.Test.YtgmomhdammdjgaaGreatApplyL
set_option linter.unusedVariables false
set_option linter.unusedSimpArgs false
set_option maxRecDepth 20000
set_option maxHeartbeats 4000000
namespace Go.Proofs.YtgmomhdammdjgaaGreat
open Go Go.Proofs Go.RowKit

theorem en9 : ∀ (args : Array Value) (w : World), (callFunc 9 args).run Tryz.prog w = .ok (.enter 9 args) w := enters_fn Tryz.func9 (by kernel_rfl) rfl
theorem en14 : ∀ (args : Array Value) (w : World), (callFunc 14 args).run Tryz.prog w = .ok (.enter 14 args) w := enters_fn Tryz.func14 (by kernel_rfl) rfl
theorem bd24_0_1_2 (x0 : Int) (x1 : Int) (x2 : Int) : Bd Tryz.prog 24 [(0, I x0), (1, I x1), (2, I x2)] (Val.val ⟨x0, x1, x2, (Vector.replicate 32 0)⟩) := fun w => by kernel_rfl
theorem bd24_0_1 (x0 : Int) (x1 : Int) : Bd Tryz.prog 24 [(0, I x0), (1, I x1)] (Val.val ⟨x0, x1, 0, (Vector.replicate 32 0)⟩) := fun w => by kernel_rfl
theorem bd30_0_1 (x0 : Str) (x1 : Val) : Bd Tryz.prog 30 [(0, S x0), (1, Val.val x1)] (NodeC.val ⟨x0, x1, Marks.zero, .slice none 0 0⟩) := fun w => by kernel_rfl
theorem bd30_0_1_3 (x0 : Str) (x1 : Val) (x3a : Option Addr) (x3n x3c : Nat) : Bd Tryz.prog 30 [(0, S x0), (1, Val.val x1), (3, .slice x3a x3n x3c)] (NodeC.val ⟨x0, x1, Marks.zero, .slice x3a x3n x3c⟩) := fun w => by kernel_rfl
theorem bd30_1_3 (x1 : Val) (x3a : Option Addr) (x3n x3c : Nat) : Bd Tryz.prog 30 [(1, Val.val x1), (3, .slice x3a x3n x3c)] (NodeC.val ⟨[], x1, Marks.zero, .slice x3a x3n x3c⟩) := fun w => by kernel_rfl
theorem bd66_0_1 (x0 : Str) (x1 : Val) : Bd Tryz.prog 66 [(0, S x0), (1, Val.val x1)] (Change.val ⟨x0, x1, Val.zero⟩) := fun w => by kernel_rfl
theorem bs31_2 (x0 : Change) (x1 : Change) : Bs Tryz.prog 31 66 2 [(0, Change.val x0), (1, Change.val x1)] (Change.cells x0 ++ Change.cells x1) := fun w => by kernel_rfl
theorem grown_C (x : Node) (a : Option Addr) (c : Nat) (M : PMem) (w : World) (hM : Lies M w) (hc : x.kids.length ≤ c) (hkx : NdA M a x.kids) (hwl : Node.wtL x.kids ≤ 1073741823) (hck : (tcheck x [] 0).2 = 0) : Ends Tryz.prog 9 [NodeC.val (⟨x.name, x.value, x.marks, .slice a x.kids.length c⟩ : NodeC)] w [] M (fun v M' H' => H' = [] ∧ ∃ b, v = .tuple #[P_ b 0, .bool true] ∧ TreeAt M' b x) := by
  refine Ends.enter (H := []) Tryz.func9 rfl Tryz.ntmps9 rfl (St.start hM) ?_
  refine R_seq ?_
  refine R_region ?_
  refine R_o (E_box (NodeC.cells (⟨x.name, x.value, x.marks, .slice a x.kids.length c⟩ : NodeC)) rfl rfl (fun b1 => ?_))
  refine R_r (D_assign rfl) ?_
  refine R_r (D_assign rfl) ?_
  refine R_nil ?_
  refine R_seq ?_
  refine R_region ?_
  refine R_r (D_load rfl (Has.own 0 rfl) (rd30_NodeC_0 (⟨x.name, x.value, x.marks, .slice a x.kids.length c⟩ : NodeC))) ?_
  refine R_o (E_callP rfl rfl en33 (fun w hM => Of_C x a c M w hM hc hkx (by omega)) (fun vr2 Mr2 Hr2 hler2 hpr2 => ?_))
  have q3 := NdA.le hkx hler2
  obtain ⟨rfl, ⟨hne_, _⟩ | ⟨_, bt, rfl, htt⟩⟩ := hpr2
  · exact absurd hck hne_
  refine R_r (D_move rfl) ?_
  refine R_r (D_extract rfl rfl) ?_
  refine R_r (D_extract rfl rfl) ?_
  refine R_r (D_assign rfl) ?_
  refine R_r (D_assign rfl) ?_
  refine R_nil ?_
  refine R_seq ?_
  refine R_region ?_
  refine R_r (D_move rfl) ?_
  refine R_r (D_move rfl) ?_
  refine R_o (E_callV (v := I 0) rfl rfl en13 (fun w hM => num_C 0 Mr2 w hM ) ?_)
  refine R_r (D_eq rfl rfl) ?_
  refine R_r (D_move rfl) ?_
  refine R_r (D_move rfl) ?_
  refine R_r (D_ptrNotNil Tryz.underlying34 rfl) ?_
  refine R_r (D_pick true rfl rfl) ?_
  refine R_r (D_assign rfl) ?_
  refine R_r (D_assign rfl) ?_
  refine R_nil ?_
  refine R_ret ?_
  refine R_drop (List.nil_sublist _) ?_
  refine R_fin2 rfl rfl rfl ?_
  exact ⟨rfl, bt, rfl, htt⟩

abbrev kOne : Val := ⟨2, 6, 1, (Vector.replicate 32 0)⟩
abbrev kTwo : Val := ⟨2, 6, 2, (Vector.replicate 32 0)⟩
abbrev kDir : Val := ⟨1, 5, 0, (Vector.replicate 32 0)⟩
abbrev kTop : Val := ⟨1, 7, 0, (Vector.replicate 32 0)⟩
abbrev kF : Node := .mk [102] kOne Marks.zero []
abbrev kD : Node := .mk [100] kDir Marks.zero [kF]
abbrev kE : Node := .mk [100] kTwo Marks.zero []
abbrev kX : Node := .mk [] kTop Marks.zero [kD]
abbrev kY : Node := .mk [] kTop Marks.zero [kE]
abbrev kA : Change := ⟨[100], kDir, kTwo⟩
abbrev kB : Change := ⟨[100, 47, 102], kOne, Val.zero⟩
theorem kXv : Valid kX := valid_of (by kernel_rfl)
theorem kYv : Valid kY := valid_of (by kernel_rfl)
theorem kDif : DifR (some kX) (some kY) [] [kA, kB] := by
  have h1 : DifR (some kF) none [100, 47, 102] [kB] := DifR.mk (ox := some kF) (oy := none) (p := [100, 47, 102]) (l := []) .nil
  have h2 : DifsR [kF] [] [100] [kB] := DifsR.left (l := [kB]) (l' := []) (fun y hy => by simp at hy) h1 .nil
  have h3 : DifR (some kD) (some kE) [100] [kA, kB] := DifR.mk (ox := some kD) (oy := some kE) (p := [100]) (l := [kB]) h2
  have h4 : DifsR [kD] [kE] [] [kA, kB] := DifsR.both (l := [kA, kB]) (l' := []) (by kernel_rfl) (by kernel_rfl) h3 .nil
  exact DifR.mk (ox := some kX) (oy := some kY) (p := []) (l := [kA, kB]) h4
theorem kOK : DifOK kX kY [kA, kB] := difOK kDif kXv.fine kYv.fine
theorem kA132 : applyE kX [kA] = 132 := by kernel_rfl
theorem kB130 : applyE kX [kB, kA] = 130 := by kernel_rfl
theorem kW : Node.wtL kX.kids ≤ 5999 ∧ Node.wtL kY.kids ≤ 5999 := ⟨of_decide_eq_true (by kernel_rfl), of_decide_eq_true (by kernel_rfl)⟩

theorem known_C  (M : PMem) (w : World) (hM : Lies M w) : Ends Tryz.prog 19 [] w [] M (fun v' M' H' => v' = .bool true ∧ H' = []) := by
  have hkw := kW
  refine Ends.enter (H := []) Tryz.func19 rfl Tryz.ntmps19 rfl (St.start hM) ?_
  refine R_seq ?_
  refine R_region ?_
  refine R_r (D_assign rfl) ?_
  refine R_nil ?_
  refine R_seq ?_
  refine R_region ?_
  refine R_r (D_build rfl (bd24_0_1_2 _ _ _)) ?_
  refine R_o (E_alloc (Val.cells Val.zero) Tryz.zeroValue24 rfl (fun b1 => ?_))
  refine R_o (E_store (cs' := (Val.cells (⟨2, 6, 1, (Vector.replicate 32 0)⟩ : Val))) 0 rfl rfl rfl (Wr.agg Tryz.sizeOf24 rfl rfl rfl rfl) ?_)
  refine R_nil ?_
  refine R_seq ?_
  refine R_region ?_
  refine R_r (D_build rfl (bd24_0_1_2 _ _ _)) ?_
  refine R_o (E_alloc (Val.cells Val.zero) Tryz.zeroValue24 rfl (fun b2 => ?_))
  refine R_o (E_store (cs' := (Val.cells (⟨2, 6, 2, (Vector.replicate 32 0)⟩ : Val))) 0 rfl rfl rfl (Wr.agg Tryz.sizeOf24 rfl rfl rfl rfl) ?_)
  refine R_nil ?_
  refine R_seq ?_
  refine R_region ?_
  refine R_r (D_build rfl (bd24_0_1 _ _)) ?_
  refine R_o (E_alloc (Val.cells Val.zero) Tryz.zeroValue24 rfl (fun b3 => ?_))
  refine R_o (E_store (cs' := (Val.cells (⟨1, 5, 0, (Vector.replicate 32 0)⟩ : Val))) 0 rfl rfl rfl (Wr.agg Tryz.sizeOf24 rfl rfl rfl rfl) ?_)
  refine R_nil ?_
  refine R_seq ?_
  refine R_region ?_
  refine R_r (D_build rfl (bd24_0_1 _ _)) ?_
  refine R_o (E_alloc (Val.cells Val.zero) Tryz.zeroValue24 rfl (fun b4 => ?_))
  refine R_o (E_store (cs' := (Val.cells (⟨1, 7, 0, (Vector.replicate 32 0)⟩ : Val))) 0 rfl rfl rfl (Wr.agg Tryz.sizeOf24 rfl rfl rfl rfl) ?_)
  refine R_nil ?_
  refine R_seq ?_
  refine R_region ?_
  refine R_r (D_load rfl (Has.own 0 rfl) (rd24_Val_0 (⟨1, 7, 0, (Vector.replicate 32 0)⟩ : Val))) ?_
  refine R_r (D_load rfl (Has.own 1 rfl) (rd24_Val_0 (⟨1, 5, 0, (Vector.replicate 32 0)⟩ : Val))) ?_
  refine R_r (D_load rfl (Has.own 3 rfl) (rd24_Val_0 (⟨2, 6, 1, (Vector.replicate 32 0)⟩ : Val))) ?_
  refine R_r (D_build rfl (bd30_0_1 _ _)) ?_
  refine R_o (E_buildSlice (ps := [(0, .tmp 25)]) (vs := [(0, NodeC.val (⟨([102] : Str), (⟨2, 6, 1, (Vector.replicate 32 0)⟩ : Val), Marks.zero, .slice none 0 0⟩ : NodeC))]) (cs := (NodeC.cells (⟨([102] : Str), (⟨2, 6, 1, (Vector.replicate 32 0)⟩ : Val), Marks.zero, .slice none 0 0⟩ : NodeC))) rfl (bs28_1 _) (fun b5 => ?_))
  refine R_freeze (fun hlef6 hmf6 => ?_)
  have hkk1 : NdA (PMem.add M b5 (.cells (List.toArray (NodeC.cells (⟨([102] : Str), (⟨2, 6, 1, (Vector.replicate 32 0)⟩ : Val), Marks.zero, .slice none 0 0⟩ : NodeC))) 30)) (some ⟨b5, 0, none⟩) [kF] := NdA.single hmf6 (NodeAt.mk .none)
  refine R_r (D_build rfl (bd30_0_1_3 _ _ _ _ _)) ?_
  refine R_o (E_buildSlice (ps := [(0, .tmp 27)]) (vs := [(0, NodeC.val (⟨([100] : Str), (⟨1, 5, 0, (Vector.replicate 32 0)⟩ : Val), Marks.zero, .slice (some ⟨b5, 0, none⟩) 1 1⟩ : NodeC))]) (cs := (NodeC.cells (⟨([100] : Str), (⟨1, 5, 0, (Vector.replicate 32 0)⟩ : Val), Marks.zero, .slice (some ⟨b5, 0, none⟩) 1 1⟩ : NodeC))) rfl (bs28_1 _) (fun b7 => ?_))
  refine R_freeze (fun hlef8 hmf8 => ?_)
  have q9 := hlef8 _ _ hmf6
  have q10 := NdA.le hkk1 hlef8
  have hkk2 : NdA (PMem.add (PMem.add M b5 (.cells (List.toArray (NodeC.cells (⟨([102] : Str), (⟨2, 6, 1, (Vector.replicate 32 0)⟩ : Val), Marks.zero, .slice none 0 0⟩ : NodeC))) 30)) b7 (.cells (List.toArray (NodeC.cells (⟨([100] : Str), (⟨1, 5, 0, (Vector.replicate 32 0)⟩ : Val), Marks.zero, .slice (some ⟨b5, 0, none⟩) 1 1⟩ : NodeC))) 30)) (some ⟨b7, 0, none⟩) [kD] := NdA.single hmf8 (NodeAt.mk (KidsAt.of q10 (Nat.le_refl _)))
  refine R_r (D_build rfl (bd30_1_3 _ _ _ _)) ?_
  refine R_o (E_callP rfl rfl en9 (fun w hM => grown_C kX (some ⟨b7, 0, none⟩) 1 (PMem.add (PMem.add M b5 (.cells (List.toArray (NodeC.cells (⟨([102] : Str), (⟨2, 6, 1, (Vector.replicate 32 0)⟩ : Val), Marks.zero, .slice none 0 0⟩ : NodeC))) 30)) b7 (.cells (List.toArray (NodeC.cells (⟨([100] : Str), (⟨1, 5, 0, (Vector.replicate 32 0)⟩ : Val), Marks.zero, .slice (some ⟨b5, 0, none⟩) 1 1⟩ : NodeC))) 30)) w hM (Nat.le_refl _) hkk2 (of_decide_eq_true (by kernel_rfl)) (by kernel_rfl)) (fun vr11 Mr11 Hr11 hler11 hpr11 => ?_))
  have q12 := hler11 _ _ q9
  have q13 := NdA.le q10 hler11
  have q14 := hler11 _ _ hmf8
  have q15 := NdA.le hkk2 hler11
  obtain ⟨rfl, btr11, rfl, httr11⟩ := hpr11
  refine R_r (D_move rfl) ?_
  refine R_r (D_extract rfl rfl) ?_
  refine R_r (D_extract rfl rfl) ?_
  refine R_r (D_assign rfl) ?_
  refine R_r (D_assign rfl) ?_
  refine R_nil ?_
  refine R_seq ?_
  refine R_region ?_
  refine R_r (D_load rfl (Has.own 0 rfl) (rd24_Val_0 (⟨1, 7, 0, (Vector.replicate 32 0)⟩ : Val))) ?_
  refine R_r (D_load rfl (Has.own 2 rfl) (rd24_Val_0 (⟨2, 6, 2, (Vector.replicate 32 0)⟩ : Val))) ?_
  refine R_r (D_build rfl (bd30_0_1 _ _)) ?_
  refine R_o (E_buildSlice (ps := [(0, .tmp 36)]) (vs := [(0, NodeC.val (⟨([100] : Str), (⟨2, 6, 2, (Vector.replicate 32 0)⟩ : Val), Marks.zero, .slice none 0 0⟩ : NodeC))]) (cs := (NodeC.cells (⟨([100] : Str), (⟨2, 6, 2, (Vector.replicate 32 0)⟩ : Val), Marks.zero, .slice none 0 0⟩ : NodeC))) rfl (bs28_1 _) (fun b16 => ?_))
  refine R_freeze (fun hlef17 hmf17 => ?_)
  have q18 := hlef17 _ _ q12
  have q19 := NdA.le q13 hlef17
  have q20 := hlef17 _ _ q14
  have q21 := NdA.le q15 hlef17
  have q22 := TreeAt.le hlef17 httr11
  have hkk3 : NdA (PMem.add Mr11 b16 (.cells (List.toArray (NodeC.cells (⟨([100] : Str), (⟨2, 6, 2, (Vector.replicate 32 0)⟩ : Val), Marks.zero, .slice none 0 0⟩ : NodeC))) 30)) (some ⟨b16, 0, none⟩) [kE] := NdA.single hmf17 (NodeAt.mk .none)
  refine R_r (D_build rfl (bd30_1_3 _ _ _ _)) ?_
  refine R_o (E_callP rfl rfl en9 (fun w hM => grown_C kY (some ⟨b16, 0, none⟩) 1 (PMem.add Mr11 b16 (.cells (List.toArray (NodeC.cells (⟨([100] : Str), (⟨2, 6, 2, (Vector.replicate 32 0)⟩ : Val), Marks.zero, .slice none 0 0⟩ : NodeC))) 30)) w hM (Nat.le_refl _) hkk3 (of_decide_eq_true (by kernel_rfl)) (by kernel_rfl)) (fun vr23 Mr23 Hr23 hler23 hpr23 => ?_))
  have q24 := hler23 _ _ q18
  have q25 := NdA.le q19 hler23
  have q26 := hler23 _ _ q20
  have q27 := NdA.le q21 hler23
  have q28 := TreeAt.le hler23 q22
  have q29 := hler23 _ _ hmf17
  have q30 := NdA.le hkk3 hler23
  obtain ⟨rfl, btr23, rfl, httr23⟩ := hpr23
  refine R_r (D_move rfl) ?_
  refine R_r (D_extract rfl rfl) ?_
  refine R_r (D_extract rfl rfl) ?_
  refine R_r (D_assign rfl) ?_
  refine R_r (D_assign rfl) ?_
  refine R_nil ?_
  refine R_seq ?_
  refine R_seq ?_
  refine R_region ?_
  refine R_r (D_move rfl) ?_
  refine R_r (D_not rfl) ?_
  refine R_r (D_move rfl) ?_
  refine R_r (D_move rfl) ?_
  refine R_r (D_not rfl) ?_
  refine R_r (D_pick false rfl rfl) ?_
  refine R_nil ?_
  refine R_cond_f rfl ?_
  refine R_skip ?_
  refine R_seq ?_
  refine R_region ?_
  refine R_r (D_move rfl) ?_
  refine R_r (D_move rfl) ?_
  refine R_o (E_callP rfl rfl en21 (fun w hM => OfD_C btr11 btr23 Mr23 w hM) (fun vr31 Mr31 Hr31 hler31 hpr31 => ?_))
  have q32 := hler31 _ _ q24
  have q33 := NdA.le q25 hler31
  have q34 := hler31 _ _ q26
  have q35 := NdA.le q27 hler31
  have q36 := TreeAt.le hler31 q28
  have q37 := hler31 _ _ q29
  have q38 := NdA.le q30 hler31
  have q39 := TreeAt.le hler31 httr23
  obtain ⟨rfl, btr31, bur31, elr31, eur31, ftr31, fur31, rfl, hmtr31, hmur31⟩ := hpr31
  have hszr40 : (kX).size = 1 + Node.sizeL (kX).kids ∧ (kY).size = 1 + Node.sizeL (kY).kids := ⟨Node.size_eq _, Node.size_eq _⟩; have hswr40 := Node.sizeL_wt (kX).kids; have hsvr40 := Node.sizeL_wt (kY).kids
  refine R_o (E_callP rfl rfl en20 (fun w hM => given_C (some kX) (some kY) (P_ btr11 0) (P_ btr23 0) btr31 bur31 _ _ _ _ Mr31 w hM hmtr31 hmur31 (.inr ⟨btr11, kX, rfl, rfl, q36⟩) (.inr ⟨btr23, kY, rfl, rfl, q39⟩) (by simp only [sizeO]; omega) (by simp only [wtO]; omega) (by simp only [wtO]; omega)) (fun vr40 Mr40 Hr40 hler40 hpr40 => ?_))
  have q41 := hler40 _ _ q32
  have q42 := NdA.le q33 hler40
  have q43 := hler40 _ _ q34
  have q44 := NdA.le q35 hler40
  have q45 := TreeAt.le hler40 q36
  have q46 := hler40 _ _ q37
  have q47 := NdA.le q38 hler40
  have q48 := TreeAt.le hler40 q39
  have q49 := hler40 _ _ hmtr31
  have q50 := hler40 _ _ hmur31
  obtain ⟨rfl, agr40, cgr40, dlr40, rfl, hcgr40, hsgr40, hdr40⟩ := hpr40
  have hdkr40 := difOK hdr40 kXv.fine kYv.fine; have hdnr40 : dlr40.length ≤ (kX).size + (kY).size := hdr40.len; have hdpr40 := dif_few hdkr40 kXv.fine kYv.fine (by omega) (by omega)
  obtain rfl : dlr40 = [kA, kB] := hdkr40.uniq kOK
  have hc2 : 2 ≤ cgr40 := hcgr40
  refine R_r (D_move rfl) ?_
  refine R_r (D_extract rfl rfl) ?_
  refine R_r (D_extract rfl rfl) ?_
  refine R_r (D_assign rfl) ?_
  refine R_r (D_assign rfl) ?_
  refine R_nil ?_
  refine R_seq ?_
  refine R_seq ?_
  refine R_region ?_
  refine R_r (D_move rfl) ?_
  refine R_r (D_not rfl) ?_
  refine R_r (D_move rfl) ?_
  refine R_r (D_move rfl) ?_
  refine R_r (D_load rfl (Has.own 1 rfl) (rd24_Val_0 (⟨1, 5, 0, (Vector.replicate 32 0)⟩ : Val))) ?_
  refine R_r (D_load rfl (Has.own 2 rfl) (rd24_Val_0 (⟨2, 6, 2, (Vector.replicate 32 0)⟩ : Val))) ?_
  refine R_r (D_build rfl (bd66_0_1_2 _ _ _)) ?_
  refine R_r (D_load rfl (Has.own 3 rfl) (rd24_Val_0 (⟨2, 6, 1, (Vector.replicate 32 0)⟩ : Val))) ?_
  refine R_r (D_build rfl (bd66_0_1 _ _)) ?_
  refine R_o (E_buildSlice (ps := [(0, .tmp 61), (1, .tmp 63)]) (vs := [(0, Change.val (⟨([100] : Str), (⟨1, 5, 0, (Vector.replicate 32 0)⟩ : Val), (⟨2, 6, 2, (Vector.replicate 32 0)⟩ : Val)⟩ : Change)), (1, Change.val (⟨([100, 47, 102] : Str), (⟨2, 6, 1, (Vector.replicate 32 0)⟩ : Val), Val.zero⟩ : Change))]) (cs := (Change.cells (⟨([100] : Str), (⟨1, 5, 0, (Vector.replicate 32 0)⟩ : Val), (⟨2, 6, 2, (Vector.replicate 32 0)⟩ : Val)⟩ : Change) ++ Change.cells (⟨([100, 47, 102] : Str), (⟨2, 6, 1, (Vector.replicate 32 0)⟩ : Val), Val.zero⟩ : Change))) rfl (bs31_2 _ _) (fun b51 => ?_))
  refine R_freeze (fun hlef52 hmf52 => ?_)
  have q53 := hlef52 _ _ q41
  have q54 := NdA.le q42 hlef52
  have q55 := hlef52 _ _ q43
  have q56 := NdA.le q44 hlef52
  have q57 := TreeAt.le hlef52 q45
  have q58 := hlef52 _ _ q46
  have q59 := NdA.le q47 hlef52
  have q60 := TreeAt.le hlef52 q48
  have q61 := hlef52 _ _ q49
  have q62 := hlef52 _ _ q50
  have q63 := SlA.le hsgr40 hlef52
  have hsk1 : SlA (PMem.add Mr40 b51 (.cells (List.toArray (Change.cells (⟨([100] : Str), (⟨1, 5, 0, (Vector.replicate 32 0)⟩ : Val), (⟨2, 6, 2, (Vector.replicate 32 0)⟩ : Val)⟩ : Change) ++ Change.cells (⟨([100, 47, 102] : Str), (⟨2, 6, 1, (Vector.replicate 32 0)⟩ : Val), Val.zero⟩ : Change))) 66)) 71 (byEnc Change.cells) (some ⟨b51, 0, none⟩) [kA, kB] := SlA.pair hmf52
  refine R_o (E_callV (v := .bool true) rfl rfl en14 (fun w hM => by have h_ := same_C ([kA, kB]) ([kA, kB]) agr40 cgr40 (some ⟨b51, 0, none⟩) 2 (PMem.add Mr40 b51 (.cells (List.toArray (Change.cells (⟨([100] : Str), (⟨1, 5, 0, (Vector.replicate 32 0)⟩ : Val), (⟨2, 6, 2, (Vector.replicate 32 0)⟩ : Val)⟩ : Change) ++ Change.cells (⟨([100, 47, 102] : Str), (⟨2, 6, 1, (Vector.replicate 32 0)⟩ : Val), Val.zero⟩ : Change))) 66)) w hM hcgr40 q63 (Nat.le_refl _) hsk1 (by first | omega | (simp only [List.length_map]; omega)); rw [decide_eq_true rfl] at h_; exact h_) ?_)
  refine R_r (D_not rfl) ?_
  refine R_r (D_pick false rfl rfl) ?_
  refine R_nil ?_
  refine R_cond_f rfl ?_
  refine R_skip ?_
  refine R_seq ?_
  refine R_region ?_
  refine R_r (D_move rfl) ?_
  refine R_r (D_move rfl) ?_
  have t64 := q63.take (1)
  have t64l : ((([kA, kB]).take (1)).length : Int) = 1 := by simp <;> omega
  refine R_r (D_sliceL0 (m := (([kA, kB]).take (1)).length) Tryz.underlying31 Tryz.sizeOf66 rfl (by rw [t64l]; rfl) (by omega) (by omega)) ?_
  refine R_o (E_callP rfl rfl en12 (fun w hM => ApplyL_C kX btr11 (([kA, kB]).take (1)) agr40 cgr40 (PMem.add Mr40 b51 (.cells (List.toArray (Change.cells (⟨([100] : Str), (⟨1, 5, 0, (Vector.replicate 32 0)⟩ : Val), (⟨2, 6, 2, (Vector.replicate 32 0)⟩ : Val)⟩ : Change) ++ Change.cells (⟨([100, 47, 102] : Str), (⟨2, 6, 1, (Vector.replicate 32 0)⟩ : Val), Val.zero⟩ : Change))) 66)) w hM q57 kXv (by omega) (by show 1 ≤ _; omega) t64 (by first | omega | simp) (fun e he => by simp at he; rw [he]; decide)) (fun vr65 Mr65 Hr65 hler65 hpr65 => ?_))
  have q66 := hler65 _ _ q53
  have q67 := NdA.le q54 hler65
  have q68 := hler65 _ _ q55
  have q69 := NdA.le q56 hler65
  have q70 := TreeAt.le hler65 q57
  have q71 := hler65 _ _ q58
  have q72 := NdA.le q59 hler65
  have q73 := TreeAt.le hler65 q60
  have q74 := hler65 _ _ q61
  have q75 := hler65 _ _ q62
  have q76 := SlA.le q63 hler65
  have q77 := hler65 _ _ hmf52
  have q78 := SlA.le hsk1 hler65
  have q79 := SlA.le t64 hler65
  obtain ⟨rfl, hqr65⟩ := hpr65
  rcases hqr65 with ⟨_, rfl⟩ | ⟨hz_, _⟩
  rotate_left
  · exact absurd (hz_.symm.trans kA132) (by decide)
  rw [show applyE kX (List.take 1 [kA, kB]) = 132 from kA132]
  refine R_r (D_move rfl) ?_
  refine R_r (D_extract rfl rfl) ?_
  refine R_r (D_extract rfl rfl) ?_
  refine R_r (D_assign rfl) ?_
  refine R_r (D_assign rfl) ?_
  refine R_nil ?_
  refine R_seq ?_
  refine Y_region [.blk b4 (.cells (List.toArray (Val.cells (⟨1, 7, 0, (Vector.replicate 32 0)⟩ : Val))) 24), .blk b3 (.cells (List.toArray (Val.cells (⟨1, 5, 0, (Vector.replicate 32 0)⟩ : Val))) 24), .blk b2 (.cells (List.toArray (Val.cells (⟨2, 6, 2, (Vector.replicate 32 0)⟩ : Val))) 24), .blk b1 (.cells (List.toArray (Val.cells (⟨2, 6, 1, (Vector.replicate 32 0)⟩ : Val))) 24)] mixed ?_
  refine Y_r 0 rfl (D_move rfl) ?_
  refine Y_r 1 rfl (D_move rfl) ?_
  obtain ⟨b80, ob80, csb80, elb80, frb80, rfl, hmb80, hxb80⟩ := q76.at (i := 1) (by (first | omega | decide))
  obtain ⟨x81, hx81⟩ : ∃ e_, ([kA, kB])[1]? = some e_ := ⟨_, List.getElem?_eq_getElem (by (first | omega | decide))⟩
  have hex81 := hxb80 1 x81 hx81
  refine Y_r 2 rfl (D_indexLn (1) Tryz.underlying31 Tryz.sizeOf66 rfl rfl (by first | rfl | omega) (by first | omega | (simp <;> omega))) ?_
  have hkex81 : x81 = kB := (Option.some.inj hx81).symm
  refine Y_r 3 rfl (D_load rfl (Has.mem hmb80) (Rd.elemA (i := 1) hex81 Tryz.underlying66 rfl inf66 rfl)) ?_
  refine Y_r 4 rfl (D_move rfl) ?_
  obtain ⟨x82, hx82⟩ : ∃ e_, ([kA, kB])[0]? = some e_ := ⟨_, List.getElem?_eq_getElem (by (first | omega | decide))⟩
  have hex82 := hxb80 0 x82 hx82
  refine Y_r 5 rfl (D_indexLn (0) Tryz.underlying31 Tryz.sizeOf66 rfl rfl (by first | rfl | omega) (by first | omega | (simp <;> omega))) ?_
  have hkex82 : x82 = kA := (Option.some.inj hx82).symm
  refine Y_r 6 rfl (D_load rfl (Has.mem hmb80) (Rd.elemA (i := 0) hex82 Tryz.underlying66 rfl inf66 rfl)) ?_
  refine Y_o 7 rfl (E_buildSlice (ps := [(0, .tmp 79), (1, .tmp 82)]) (vs := [(0, Change.val x81), (1, Change.val x82)]) (cs := (Change.cells x81 ++ Change.cells x82)) rfl (bs31_2 _ _) (fun b83 => ?_)) (PMem.le_refl _) (fun _ h => List.Sublist.subset (.cons_cons _ (.cons_cons _ (.cons_cons _ (.cons_cons _ (.slnil))))) h)
  refine R_freeze (fun hlef84 hmf84 => ?_)
  have q85 := hlef84 _ _ q66
  have q86 := NdA.le q67 hlef84
  have q87 := hlef84 _ _ q68
  have q88 := NdA.le q69 hlef84
  have q89 := TreeAt.le hlef84 q70
  have q90 := hlef84 _ _ q71
  have q91 := NdA.le q72 hlef84
  have q92 := TreeAt.le hlef84 q73
  have q93 := hlef84 _ _ q74
  have q94 := hlef84 _ _ q75
  have q95 := SlA.le q76 hlef84
  have q96 := hlef84 _ _ q77
  have q97 := SlA.le q78 hlef84
  have q98 := SlA.le q79 hlef84
  have q99 := hlef84 _ _ hmb80
  have hsk2 : SlA (PMem.add Mr65 b83 (.cells (List.toArray (Change.cells x81 ++ Change.cells x82)) 66)) 71 (byEnc Change.cells) (some ⟨b83, 0, none⟩) [x81, x82] := SlA.pair hmf84
  refine Y_go _ hlef84 (fun _ h => List.Sublist.subset (.cons_cons _ (.cons_cons _ (.cons_cons _ (.cons_cons _ (.slnil))))) h) (fun _ h => h) ?_
  refine Y_o 8 rfl (E_callP rfl rfl en12 (fun w hM => ApplyL_C kX btr11 ([x81, x82]) (some ⟨b83, 0, none⟩) 2 (PMem.add Mr65 b83 (.cells (List.toArray (Change.cells x81 ++ Change.cells x82)) 66)) w hM q89 kXv (by omega) (Nat.le_refl _) hsk2 (by first | omega | simp) (fun e he => by rw [hkex81, hkex82] at he; simp at he; rcases he with rfl | rfl <;> decide)) (fun vr101 Mr101 Hr101 hler101 hpr101 => ?_)) (PMem.le_refl _) (fun _ h => List.Sublist.subset (.cons_cons _ (.cons_cons _ (.cons_cons _ (.cons_cons _ (.slnil))))) h)
  have q102 := hler101 _ _ q85
  have q103 := NdA.le q86 hler101
  have q104 := hler101 _ _ q87
  have q105 := NdA.le q88 hler101
  have q106 := TreeAt.le hler101 q89
  have q107 := hler101 _ _ q90
  have q108 := NdA.le q91 hler101
  have q109 := TreeAt.le hler101 q92
  have q110 := hler101 _ _ q93
  have q111 := hler101 _ _ q94
  have q112 := SlA.le q95 hler101
  have q113 := hler101 _ _ q96
  have q114 := SlA.le q97 hler101
  have q115 := SlA.le q98 hler101
  have q116 := hler101 _ _ q99
  have q118 := hler101 _ _ hmf84
  have q119 := SlA.le hsk2 hler101
  obtain ⟨rfl, hqr101⟩ := hpr101
  have hke : applyE kX [x81, x82] = 130 := by rw [hkex81, hkex82]; exact kB130
  rcases hqr101 with ⟨_, rfl⟩ | ⟨hz_, _⟩
  rotate_left
  · exact absurd (hz_.symm.trans hke) (by decide)
  rw [hke]
  refine Y_go _ hler101 (fun _ h => List.Sublist.subset (.cons_cons _ (.cons_cons _ (.cons_cons _ (.cons_cons _ (.slnil))))) h) (fun _ h => h) ?_
  refine Y_r 9 rfl (D_move rfl) ?_
  refine Y_r 10 rfl (D_extract rfl rfl) ?_
  refine Y_r 11 rfl (D_extract rfl rfl) ?_
  refine Y_r 12 rfl (D_assign rfl) ?_
  refine Y_r 13 rfl (D_assign rfl) ?_
  refine Y_nil ?_ (PMem.le_refl _) (fun _ h => List.Sublist.subset (.cons_cons _ (.cons_cons _ (.cons_cons _ (.cons_cons _ (.slnil))))) h)
  refine R_seq ?_
  refine R_region ?_
  refine R_r (D_move rfl) ?_
  refine R_r (D_move rfl) ?_
  refine R_o (E_callP rfl rfl en12 (fun w hM => ApplyL_C kX btr11 ([kA, kB]) (some ⟨b80, ob80, none⟩) cgr40 Mr101 w hM q106 kXv (by omega) hcgr40 q112 (by first | omega | simp) (fun e he => by simp at he; rcases he with rfl | rfl <;> decide)) (fun vr120 Mr120 Hr120 hler120 hpr120 => ?_))
  have q121 := hler120 _ _ q102
  have q122 := NdA.le q103 hler120
  have q123 := hler120 _ _ q104
  have q124 := NdA.le q105 hler120
  have q125 := TreeAt.le hler120 q106
  have q126 := hler120 _ _ q107
  have q127 := NdA.le q108 hler120
  have q128 := TreeAt.le hler120 q109
  have q129 := hler120 _ _ q110
  have q130 := hler120 _ _ q111
  have q131 := SlA.le q112 hler120
  have q132 := hler120 _ _ q113
  have q133 := SlA.le q114 hler120
  have q134 := SlA.le q115 hler120
  have q135 := hler120 _ _ q116
  have q137 := hler120 _ _ q118
  have q138 := SlA.le q119 hler120
  obtain ⟨rfl, hqr120⟩ := hpr120
  obtain ⟨es, hmes, hz0, _, _⟩ := apply_dif kXv kYv kOK
  rcases hqr120 with ⟨hz_, _⟩ | ⟨_, bz, z, es2, rfl, htz, hm2, hgz⟩
  · exact absurd hz0 hz_
  have hsame := dif_same kXv kYv kOK hm2 hgz
  have hrz := grown_room hgz hm2 kW.1 (by decide)
  refine R_r (D_move rfl) ?_
  refine R_r (D_extract rfl rfl) ?_
  refine R_r (D_extract rfl rfl) ?_
  refine R_r (D_assign rfl) ?_
  refine R_r (D_assign rfl) ?_
  refine R_nil ?_
  refine R_seq ?_
  refine R_region ?_
  refine R_r (D_move rfl) ?_
  refine R_o (E_callV (v := I 132) rfl rfl en13 (fun w hM => num_C 132 Mr120 w hM ) ?_)
  refine R_r (D_eq rfl rfl) ?_
  refine R_r (D_move rfl) ?_
  refine R_r (D_move rfl) ?_
  refine R_o (E_callV (v := I 130) rfl rfl en13 (fun w hM => num_C 130 Mr120 w hM ) ?_)
  refine R_r (D_eq rfl rfl) ?_
  refine R_r (D_pick true rfl rfl) ?_
  refine R_r (D_move rfl) ?_
  refine R_r (D_move rfl) ?_
  refine R_o (E_callV (v := I 0) rfl rfl en13 (fun w hM => num_C 0 Mr120 w hM ) ?_)
  refine R_r (D_eq rfl rfl) ?_
  refine R_r (D_pick true rfl rfl) ?_
  refine R_r (D_move rfl) ?_
  refine R_r (D_move rfl) ?_
  refine R_r (D_ptrNotNil Tryz.underlying34 rfl) ?_
  refine R_r (D_pick true rfl rfl) ?_
  refine R_r (D_move rfl) ?_
  refine R_r (D_move rfl) ?_
  refine R_r (D_move rfl) ?_
  refine R_o (E_callV (v := .bool (true)) rfl rfl en22 (fun w hM => by have h_ := Same_C _ z rfl kY bz btr23 Mr120 w hM htz q128 (by have := hrz.1; omega); rw [hsame] at h_; exact h_) ?_)
  refine R_r (D_pick true rfl rfl) ?_
  refine R_r (D_assign rfl) ?_
  refine R_nil ?_
  refine R_ret ?_
  refine R_drop (List.nil_sublist _) ?_
  refine R_fin1 rfl rfl ?_
  exact ⟨rfl, rfl⟩

end Go.Proofs.YtgmomhdammdjgaaGreat
