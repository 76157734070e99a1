/-
  The row of DiffApplies, proved: for every input the law returns true; the input reads as it did.
-/
import Derived.Test.YtgmomhdammdjgaaGreatReadNC
set_option linter.unusedVariables false
set_option linter.unusedSimpArgs false
set_option maxRecDepth 20000
set_option maxHeartbeats 4000000
namespace Go.Proofs.YtgmomhdammdjgaaGreat
open Go Go.Proofs Go.RowKit


open Go.ChangeShapes Go.WideShapes Go.ChangeAt
set_option maxRecDepth 100000 in
theorem DiffApplies_lifted (os : Os) (started : os.Started) (H : Type) (enc : TypeId × Value → H) :
    ReturnsInHanded {} Tryz.checked os 3 .any (Rows.diffAppliesSpec.pre6 enc Tryz.prog Tryz.f3 Rows.diffAppliesRow.domain false) (Rows.diffAppliesSpec.post enc Tryz.prog Tryz.f3 false true false false) := by
  refine returnsInHanded_of_change_sized (C := Tryz.checked) Tryz.ownG started (by kernel_rfl) Tryz.func3
    (ChangeSpec.witness6 (enc := enc) (C := Tryz.checked) false ⟨#[], #[.agg #[.string ByteArray.empty, .int .i64 0, .int .i64 0, .int .i64 0, .int .u8 0, .int .u8 0, .int .u8 0, .int .u8 0, .int .u8 0, .int .u8 0, .int .u8 0, .int .u8 0, .int .u8 0, .int .u8 0, .int .u8 0, .int .u8 0, .int .u8 0, .int .u8 0, .int .u8 0, .int .u8 0, .int .u8 0, .int .u8 0, .int .u8 0, .int .u8 0, .int .u8 0, .int .u8 0, .int .u8 0, .int .u8 0, .int .u8 0, .int .u8 0, .int .u8 0, .int .u8 0, .int .u8 0, .int .u8 0, .int .u8 0, .int .u8 0, .int .i64 0, .int .i64 0, .int .i64 0, .int .i64 0, .slice none 0 0], .slice none 0 0], []⟩ 8 (by kernel_rfl) (by kernel_rfl) (by kernel_rfl) (by kernel_rfl)) ?_
  intro W base args ds gs before hval0 hW hcnd hsz _
  have hval : ∀ (j : Nat) t v, Tryz.f3.params[j]? = some t → args[j]? = some v → Value.okWide Tryz.prog W .any base t v := hval0
  have hW2 := hW
  obtain ⟨p, q, hA0, hV, rfl, hfz, hnd⟩ := hW
  have hA : DataW.TrodAll enc Tryz.prog W 0 (fun _ => true) true Tryz.f3.params.toList args.toList ds p := hA0
  rw [Tryz.params3] at hA hval
  obtain ⟨v0, v1, d0, d1, p0, p1, rfl, rfl, rfl, h0, h1⟩ := trodAll_two hA
  obtain ⟨rfl, rfl⟩ := trodVars_none hV
  clear hA0 hval0
  simp only [List.append_nil] at hW2
  have hz := List.all_eq_true.1 hsz
  have hlt := fun x hx => hW2.lt x hx
  have hz0 : ∀ n ∈ d0.weights Tryz.prog 30, n ≤ reachBytes := fun n hn => of_decide_eq_true (hz n (DataW.weights_mem_each (ts := [30, 31] ++ []) (ds := [d0, d1] ++ []) (j := 0) rfl rfl n hn))
  have hz1 : ∀ n ∈ d1.weights Tryz.prog 31, n ≤ reachBytes := fun n hn => of_decide_eq_true (hz n (DataW.weights_mem_each (ts := [30, 31] ++ []) (ds := [d0, d1] ++ []) (j := 1) rfl rfl n hn))
  obtain ⟨x, ax, cx, rfl, hcx, hkx, hsx⟩ := openNode (hval 0 30 v0 rfl rfl) h0 hz0
  obtain ⟨l, al, cl, rfl, hdl, hll, hnl, hml⟩ := openChanges (hval 1 31 v1 rfl rfl) h1 hz1
  refine Calls.mono (by by_cases hE : applyE x l = 0; exact DiffAppliesT_C x ax cx l al cl (memOf W) W (lies_of W) hcx hkx hsx hdl hll hnl hml hE; exact DiffAppliesF_C x ax cx l al cl (memOf W) W (lies_of W) hcx hkx hsx hdl hll hnl hml hE : Ends Tryz.prog 3 [NodeC.val ⟨x.name, x.value, x.marks, .slice ax x.kids.length cx⟩, .slice al l.length cl] W [] (memOf W) (fun v M' H' => v = .bool true ∧ H' = [])) fun e W2 ⟨v, M2, H2, he, hst, hv, _⟩ => ?_
  subst he; subst hv
  have hb := hst.kept.below
  exact ⟨_, rfl, post_kept hW2 rfl rfl (trodAll_mk1 (shut_bool Tryz.underlying4 true)) (trodAll_mk2 (Below.trod laidG (by kernel_rfl) (of_decide_eq_true (by kernel_rfl)) h0 hb (fun x hx => hlt x (by simp [hx]))) (Below.trod laidG (by kernel_rfl) (of_decide_eq_true (by kernel_rfl)) h1 hb (fun x hx => hlt x (by simp [hx])))) hb⟩
theorem DiffApplies_holds : Rows.DiffAppliesSaid :=
  OpenClaim.holds_of_wide 3 Tryz.f3 rfl rfl rfl rfl rfl rfl rfl ⟨rfl, rfl, rfl, rfl, rfl⟩ rfl rfl rfl rfl rfl (by kernel_rfl) Tryz.func3 (by kernel_rfl)
    (of_decide_eq_true (by kernel_rfl)) (by unfold Func.isWrapper; rw [if_neg (of_decide_eq_false (by kernel_rfl))]; exact ⟨rfl, rfl⟩)
    (fun os started H enc _ => DiffApplies_lifted os started H enc)

end Go.Proofs.YtgmomhdammdjgaaGreat
