/-
  A name searched among rising names (slices.BinarySearch), a tree's child, subtree and value at a path. Conditions: lists within 2^30.
-/
import Derived.Test.YtgmomhdammdjgaaGreatTree2
set_option linter.unusedVariables false
set_option linter.unusedSimpArgs false
set_option maxRecDepth 20000
set_option maxHeartbeats 4000000
namespace Go.Proofs.YtgmomhdammdjgaaGreat
open Go Go.Proofs Go.RowKit

theorem en139 : ∀ (args : Array Value) (w : World), (callFunc 139 args).run Tryz.prog w = .ok (.enter 139 args) w := enters_fn Tryz.func139 (by kernel_rfl) rfl
theorem en138 : ∀ (args : Array Value) (w : World), (callFunc 138 args).run Tryz.prog w = .ok (.enter 138 args) w := enters_fn Tryz.func138 (by kernel_rfl) rfl
theorem en121 : ∀ (args : Array Value) (w : World), (callFunc 121 args).run Tryz.prog w = .ok (.enter 121 args) w := enters_fn Tryz.func121 (by kernel_rfl) rfl
theorem fa112_2 : Fa Tryz.prog 112 2 39 := Fa.mk Tryz.underlying112 rfl rfl (fun w => ⟨0, Tryz.sizeOf109 w⟩)
theorem fa112_3 : Fa Tryz.prog 112 3 40 := Fa.mk Tryz.underlying112 rfl rfl (fun w => ⟨0, Tryz.sizeOf110 w⟩)
theorem en99 : ∀ (args : Array Value) (w : World), (callFunc 99 args).run Tryz.prog w = .ok (.enter 99 args) w := enters_fn Tryz.func99 (by kernel_rfl) rfl
theorem en70 : ∀ (args : Array Value) (w : World), (callFunc 70 args).run Tryz.prog w = .ok (.enter 70 args) w := enters_fn Tryz.func70 (by kernel_rfl) rfl
theorem fa112_0 : Fa Tryz.prog 112 0 0 := Fa.mk Tryz.underlying112 rfl rfl (fun w => ⟨34, Tryz.sizeOf24 w⟩)
theorem rd24_TreeC_0 (x : TreeC) : Rd Tryz.prog 24 x.cells 0 (Val.val x.value) := Rd.agg Tryz.underlying24 rfl inf24 rfl rfl
theorem en26 : ∀ (args : Array Value) (w : World), (callFunc 26 args).run Tryz.prog w = .ok (.enter 26 args) w := enters_fn Tryz.func26 (by kernel_rfl) rfl
theorem fa112_1 : Fa Tryz.prog 112 1 35 := Fa.mk Tryz.underlying112 rfl rfl (fun w => ⟨3, Tryz.sizeOf27 w⟩)
theorem rd27_TreeC_35 (x : TreeC) : Rd Tryz.prog 27 x.cells 35 (Marks.val x.marks) := Rd.agg Tryz.underlying27 rfl inf27 rfl rfl
theorem en116 : ∀ (args : Array Value) (w : World), (callFunc 116 args).run Tryz.prog w = .ok (.enter 116 args) w := enters_fn Tryz.func116 (by kernel_rfl) rfl
theorem isNaNS2_C (s : Str) (M : PMem) (w : World) (hM : Lies M w) : Ends Tryz.prog 139 [S s] w [] M (fun v' M' H' => v' = .bool false ∧ M' = M ∧ H' = []) := by
  refine Ends.enter (H := []) Tryz.func139 rfl Tryz.ntmps139 rfl (St.start hM) ?_
  refine R_seq ?_
  refine R_region ?_
  refine R_r (D_assign rfl) ?_
  refine R_nil ?_
  refine R_seq ?_
  refine R_region ?_
  refine R_r (D_move rfl) ?_
  refine R_r (D_move rfl) ?_
  refine R_r (D_neS rfl rfl) ?_
  refine R_r (D_assign rfl) ?_
  refine R_nil ?_
  refine R_ret ?_
  refine R_fin1 rfl rfl ?_
  exact ⟨by simp, rfl, rfl⟩

theorem cmpLess_C (a b : Str) (M : PMem) (w : World) (hM : Lies M w) : Ends Tryz.prog 138 [S a, S b] w [] M (fun v' M' H' => v' = .bool (Op.bytesLess a b) ∧ M' = M ∧ H' = []) := by
  refine Ends.enter (H := []) Tryz.func138 rfl Tryz.ntmps138 rfl (St.start hM) ?_
  refine R_seq ?_
  refine R_region ?_
  refine R_r (D_assign rfl) ?_
  refine R_nil ?_
  refine R_seq ?_
  refine R_join [(0, S a), (1, S b), (4, .bool (Op.bytesLess a b))] (M' := M) (H' := []) ?_ ?_
  ·
    refine R_region ?_
    refine R_r (D_move rfl) ?_
    refine R_o (E_callV (v := .bool false) rfl rfl en141 (fun w hM => isNaNS_C a M w hM ) ?_)
    refine R_r (D_move rfl) ?_
    refine R_skipop rfl rfl rfl ?_
    refine R_skipop rfl rfl rfl ?_
    refine R_skipop rfl rfl rfl ?_
    refine R_r (D_pick false rfl rfl) ?_
    refine R_r (D_move rfl) ?_
    refine R_r (D_move rfl) ?_
    refine R_r (D_move rfl) ?_
    refine R_r (D_ltS rfl rfl) ?_
    refine R_r (D_pick false rfl rfl) ?_
    refine R_r (D_assign rfl) ?_
    refine R_nil ?_
    exact R_at (Env.sub_cons rfl <| Env.sub_cons rfl <| Env.sub_cons rfl <| Env.sub_nil _)
  ·
    refine R_ret ?_
    refine R_fin1 rfl rfl ?_
    exact ⟨rfl, rfl, rfl⟩

theorem BinarySearch_C (l : List Str) (a : Option Addr) (c : Nat) (t : Str) (M : PMem) (w : World) (hM : Lies M w) (hc : l.length ≤ c) (hsl : SlA M 1 (byEnc fun s : Str => [S s]) a l) (hn : l.length ≤ 4294967296) (hr : Rise l) : Ends Tryz.prog 121 [.slice a l.length c, S t] w [] M (fun v' M' H' => v' = .tuple #[I (bsI l t), .bool (bsF l t)] ∧ M' = M ∧ H' = []) := by
  refine Ends.enter (H := []) Tryz.func121 rfl Tryz.ntmps121 rfl (St.start hM) ?_
  refine R_seq ?_
  refine R_region ?_
  refine R_r (D_assign rfl) ?_
  refine R_r (D_assign rfl) ?_
  refine R_nil ?_
  refine R_seq ?_
  refine R_region ?_
  refine R_r (D_move rfl) ?_
  refine R_r (D_lenL Tryz.underlying109 rfl) ?_
  refine R_r (D_assign rfl) ?_
  refine R_nil ?_
  refine R_seq ?_
  refine R_region ?_
  refine R_r (D_move rfl) ?_
  refine R_r (D_assign rfl) ?_
  refine R_r (D_assign rfl) ?_
  refine R_nil ?_
  refine R_seq ?_
  refine R_block ?_
  refine R_loop (σ := (Nat) × (Nat)) (fun gs => ([(0, .slice a l.length c), (1, S t), (6, I (l.length : Int)), (7, I (gs.1 : Int)), (8, I (gs.2 : Int))], M, [])) (fun gs => gs.1 ≤ gs.2 ∧ gs.2 ≤ l.length ∧ (∀ (i : Nat) (x : Str), i < gs.1 → l[i]? = some x → Op.bytesLess x t = true) ∧ (∀ (i : Nat) (x : Str), gs.2 ≤ i → l[i]? = some x → Op.bytesLess x t = false)) (fun gs => gs.2 - gs.1) (0, l.length) ?_ (Env.sub_cons rfl <| Env.sub_cons rfl <| Env.sub_cons rfl <| Env.sub_cons rfl <| Env.sub_cons rfl <| Env.sub_nil _) rfl rfl ?_
  · show 0 ≤ l.length ∧ l.length ≤ l.length ∧ (∀ (i : Nat) (x : Str), i < 0 → l[i]? = some x → Op.bytesLess x t = true) ∧ (∀ (i : Nat) (x : Str), l.length ≤ i → l[i]? = some x → Op.bytesLess x t = false); exact ⟨by omega, by omega, fun i x h => by omega, fun i x h hx => by have := (List.getElem?_eq_some_iff.1 hx).1; omega⟩
  rintro ⟨lo, hi⟩ hok
  replace hok : lo ≤ hi ∧ hi ≤ l.length ∧ (∀ (i : Nat) (x : Str), i < lo → l[i]? = some x → Op.bytesLess x t = true) ∧ (∀ (i : Nat) (x : Str), hi ≤ i → l[i]? = some x → Op.bytesLess x t = false) := hok
  show Cx.R _ _ _ [(0, .slice a l.length c), (1, S t), (6, I (l.length : Int)), (7, I (lo : Int)), (8, I (hi : Int))] M []
  obtain ⟨h12, h2n, hlow, hhigh⟩ := hok
  refine R_seq ?_
  refine R_seq ?_
  refine R_region ?_
  refine R_r (D_move rfl) ?_
  refine R_r (D_move rfl) ?_
  refine R_r (D_lt rfl rfl) ?_
  refine R_nil ?_
  refine R_cond rfl (fun h1 => ?_) (fun h1 => ?_)
  ·
    have h1p := of_decide_eq_true h1
    refine R_skip ?_
    refine R_block ?_
    refine R_seq ?_
    refine R_region ?_
    refine R_r (D_move rfl) ?_
    refine R_r (D_move rfl) ?_
    refine R_r (D_add rfl rfl rfl (by omega) (by omega)) ?_
    refine R_r (D_conv (by rw [Tryz.underlying3]; rfl) Tryz.underlying208 rfl (u64_in _ (by omega) (by omega))) ?_
    refine R_r (D_shr1 (m := (((lo + hi) / 2 : Nat) : Int)) rfl rfl (by omega)) ?_
    refine R_r (D_conv (by rw [Tryz.underlying208]; rfl) Tryz.underlying3 rfl (i64_in _ (by omega) (by omega))) ?_
    refine R_r (D_assign rfl) ?_
    refine R_nil ?_
    refine R_seq ?_
    refine R_region ?_
    refine R_r (D_move rfl) ?_
    refine R_r (D_move rfl) ?_
    obtain ⟨b1, ob1, csb1, elb1, frb1, rfl, hmb1, hxb1⟩ := hsl.at (i := ((lo + hi) / 2 : Nat)) (by first | omega | (simp; omega))
    obtain ⟨x2, hx2⟩ : ∃ e_, l[((lo + hi) / 2 : Nat)]? = some e_ := ⟨_, List.getElem?_eq_getElem (by omega)⟩
    have hex2 := hxb1 ((lo + hi) / 2 : Nat) x2 hx2
    refine R_r (D_indexLn (((lo + hi) / 2 : Nat)) Tryz.underlying109 Tryz.sizeOf9 rfl rfl (by first | rfl | omega) (by first | omega | (simp <;> omega))) ?_
    refine R_r (D_load rfl (Has.mem hmb1) (Rd.elem0 (i := ((lo + hi) / 2 : Nat)) hex2 Tryz.isAgg9 rfl rfl)) ?_
    refine R_r (D_move rfl) ?_
    refine R_o (E_callV (v := .bool (Op.bytesLess x2 t)) rfl rfl en138 (fun w hM => cmpLess_C x2 t M w hM ) ?_)
    refine R_nil ?_
    refine R_cond rfl (fun h2 => ?_) (fun h2 => ?_)
    ·
      refine R_region ?_
      refine R_r (D_move rfl) ?_
      refine R_r (D_add rfl rfl rfl (by omega) (by omega)) ?_
      refine R_r (D_assign rfl) ?_
      refine R_nil ?_
      exact R_back ((lo + hi) / 2 + 1, hi) (by show ((lo + hi) / 2 + 1) ≤ hi ∧ hi ≤ l.length ∧ (∀ (i : Nat) (x : Str), i < ((lo + hi) / 2 + 1) → l[i]? = some x → Op.bytesLess x t = true) ∧ (∀ (i : Nat) (x : Str), hi ≤ i → l[i]? = some x → Op.bytesLess x t = false); exact ⟨by omega, by omega, hr.low hx2 h2, hhigh⟩) (by show hi - ((lo + hi) / 2 + 1) < hi - lo; omega) (Env.sub_cons rfl <| Env.sub_cons rfl <| Env.sub_cons rfl <| Env.sub_cons rfl <| Env.sub_cons rfl <| Env.sub_nil _) rfl rfl
    ·
      refine R_region ?_
      refine R_r (D_move rfl) ?_
      refine R_r (D_assign rfl) ?_
      refine R_nil ?_
      exact R_back (lo, (lo + hi) / 2) (by show lo ≤ ((lo + hi) / 2) ∧ ((lo + hi) / 2) ≤ l.length ∧ (∀ (i : Nat) (x : Str), i < lo → l[i]? = some x → Op.bytesLess x t = true) ∧ (∀ (i : Nat) (x : Str), ((lo + hi) / 2) ≤ i → l[i]? = some x → Op.bytesLess x t = false); exact ⟨by omega, by omega, hlow, hr.high hx2 h2⟩) (by show ((lo + hi) / 2) - lo < hi - lo; omega) (Env.sub_cons rfl <| Env.sub_cons rfl <| Env.sub_cons rfl <| Env.sub_cons rfl <| Env.sub_cons rfl <| Env.sub_nil _) rfl rfl
  ·
    have h1p := of_decide_eq_false h1
    refine R_exit rfl ?_
    refine R_seq ?_
    refine R_region ?_
    refine R_r (D_move rfl) ?_
    refine R_r (D_move rfl) ?_
    refine R_r (D_move rfl) ?_
    refine R_r (D_lt rfl rfl) ?_
    refine R_r (D_move rfl) ?_
    refine R_split 35 rfl (fun h2 => ?_) (fun h2 => ?_)
    ·
      have h2p := of_decide_eq_true h2
      refine R_r (D_move rfl) ?_
      refine R_r (D_move rfl) ?_
      obtain ⟨b3, ob3, csb3, elb3, frb3, rfl, hmb3, hxb3⟩ := hsl.at (i := lo) (by first | omega | (simp; omega))
      obtain ⟨x4, hx4⟩ : ∃ e_, l[lo]? = some e_ := ⟨_, List.getElem?_eq_getElem (by omega)⟩
      have hex4 := hxb3 lo x4 hx4
      refine R_r (D_indexLn (lo) Tryz.underlying109 Tryz.sizeOf9 rfl rfl (by first | rfl | omega) (by first | omega | (simp <;> omega))) ?_
      refine R_r (D_load rfl (Has.mem hmb3) (Rd.elem0 (i := lo) hex4 Tryz.isAgg9 rfl rfl)) ?_
      refine R_r (D_move rfl) ?_
      refine R_r (D_eqS rfl rfl) ?_
      refine R_r (D_move rfl) ?_
      refine R_split 42 rfl (fun h3 => ?_) (fun h3 => ?_)
      ·
        have h3p := of_decide_eq_true h3
        refine R_skipop rfl rfl rfl ?_
        refine R_skipop rfl rfl rfl ?_
        refine R_skipop rfl rfl rfl ?_
        refine R_skipop rfl rfl rfl ?_
        refine R_skipop rfl rfl rfl ?_
        refine R_skipop rfl rfl rfl ?_
        refine R_skipop rfl rfl rfl ?_
        refine R_skipop rfl rfl rfl ?_
        refine R_skipop rfl rfl rfl ?_
        refine R_r (D_pick true rfl rfl) ?_
        refine R_r (D_pick true rfl rfl) ?_
        refine R_r (D_assign rfl) ?_
        refine R_r (D_assign rfl) ?_
        refine R_nil ?_
        refine R_ret ?_
        refine R_fin2 rfl rfl rfl ?_
        have e : bsI l t = lo := bsI_of (by omega) hlow (fun x hx => hhigh lo x (by omega) hx)
        exact ⟨by rw [bsF, e, hx4]; simp only [Option.some.injEq]; rw [h3], rfl, rfl⟩
      ·
        have h3p := of_decide_eq_false h3
        refine R_r (D_move rfl) ?_
        refine R_r (D_move rfl) ?_
        refine R_r (D_indexLn (lo) Tryz.underlying109 Tryz.sizeOf9 rfl rfl (by first | rfl | omega) (by first | omega | (simp <;> omega))) ?_
        refine R_r (D_load rfl (Has.mem hmb3) (Rd.elem0 (i := lo) hex4 Tryz.isAgg9 rfl rfl)) ?_
        refine R_o (E_callV (v := .bool false) rfl rfl en139 (fun w hM => isNaNS2_C x4 M w hM ) ?_)
        refine R_r (D_move rfl) ?_
        refine R_skipop rfl rfl rfl ?_
        refine R_skipop rfl rfl rfl ?_
        refine R_r (D_pick false rfl rfl) ?_
        refine R_r (D_pick false rfl rfl) ?_
        refine R_r (D_pick true rfl rfl) ?_
        refine R_r (D_assign rfl) ?_
        refine R_r (D_assign rfl) ?_
        refine R_nil ?_
        refine R_ret ?_
        refine R_fin2 rfl rfl rfl ?_
        have e : bsI l t = lo := bsI_of (by omega) hlow (fun x hx => hhigh lo x (by omega) hx)
        exact ⟨by rw [bsF, e, hx4]; simp only [Option.some.injEq]; rw [h3], rfl, rfl⟩
    ·
      have h2p := of_decide_eq_false h2
      refine R_skipop rfl rfl rfl ?_
      refine R_skipop rfl rfl rfl ?_
      refine R_skipop rfl rfl rfl ?_
      refine R_skipop rfl rfl rfl ?_
      refine R_skipop rfl rfl rfl ?_
      refine R_skipop rfl rfl rfl ?_
      refine R_skipop rfl rfl rfl ?_
      refine R_skipop rfl rfl rfl ?_
      refine R_skipop rfl rfl rfl ?_
      refine R_skipop rfl rfl rfl ?_
      refine R_skipop rfl rfl rfl ?_
      refine R_skipop rfl rfl rfl ?_
      refine R_skipop rfl rfl rfl ?_
      refine R_skipop rfl rfl rfl ?_
      refine R_skipop rfl rfl rfl ?_
      refine R_skipop rfl rfl rfl ?_
      refine R_skipop rfl rfl rfl ?_
      refine R_r (D_pick false rfl rfl) ?_
      refine R_r (D_assign rfl) ?_
      refine R_r (D_assign rfl) ?_
      refine R_nil ?_
      refine R_ret ?_
      refine R_fin2 rfl rfl rfl ?_
      have e : bsI l t = lo := bsI_of (by omega) hlow (fun x hx => hhigh lo x (by omega) hx)
      exact ⟨by rw [bsF, e, List.getElem?_eq_none (by omega)]; rfl, rfl, rfl⟩

theorem kid_C (x : Node) (b : Nat) (nm : Str) (M : PMem) (w : World) (hM : Lies M w) (hb : TreeAt M b x) (hrx : x.Ris) (hsz : Node.sizeL x.kids ≤ 2147483648) : Ends Tryz.prog 99 [P_ b 0, S nm] w [] M (fun v M' H' => H' = [] ∧ M' = M ∧ ((kidOf x nm = none ∧ v = .tuple #[.pointer none, .bool false]) ∨ ∃ k b', kidOf x nm = some k ∧ v = .tuple #[P_ b' 0, .bool true] ∧ TreeAt M b' k)) := by
  have hkl := Node.len_sizeL x.kids
  refine Ends.enter (H := []) Tryz.func99 rfl Tryz.ntmps99 rfl (St.start hM) ?_
  refine R_seq ?_
  refine R_region ?_
  refine R_r (D_assign rfl) ?_
  refine R_r (D_assign rfl) ?_
  refine R_nil ?_
  refine R_seq ?_
  refine R_region ?_
  refine R_r (D_move rfl) ?_
  refine R_r (D_nilCheck rfl) ?_
  refine R_r (D_fieldAddr fa112_2 rfl) ?_
  obtain ⟨ano1, cno1, ako1, cko1, elo1, fro1, hmo1, hcno1, hsno1, hcko1, hsko1⟩ := (hb).open
  refine R_r (D_load rfl (Has.mem hmo1) (Rd.one Tryz.isAgg109 rfl)) ?_
  refine R_r (D_move rfl) ?_
  refine R_o (E_callV (v := .tuple #[I (bsI (x.kids.map Node.name) nm : Int), .bool (bsF (x.kids.map Node.name) nm)]) rfl rfl en121 (fun w hM => BinarySearch_C (x.kids.map Node.name) ano1 cno1 nm M w hM (by omega) hsno1 (by rw [List.length_map]; omega) hrx.rise) ?_)
  refine R_r (D_move rfl) ?_
  refine R_r (D_extract rfl rfl) ?_
  refine R_r (D_extract rfl rfl) ?_
  refine R_r (D_assign rfl) ?_
  refine R_r (D_assign rfl) ?_
  refine R_nil ?_
  refine R_seq ?_
  refine R_seq ?_
  refine R_region ?_
  refine R_r (D_move rfl) ?_
  refine R_r (D_not rfl) ?_
  refine R_nil ?_
  refine R_cond rfl (fun h1 => ?_) (fun h1 => ?_)
  ·
    refine R_seq ?_
    refine R_region ?_
    refine R_r (D_assign rfl) ?_
    refine R_r (D_assign rfl) ?_
    refine R_nil ?_
    refine R_ret ?_
    refine R_fin2 rfl rfl rfl ?_
    exact ⟨rfl, rfl, .inl ⟨by rw [kidOf, if_neg (by simpa using h1)], rfl⟩⟩
  ·
    have hlt := bsF_lt (l := x.kids.map Node.name) (t := nm) (by simpa using h1)
    rw [List.length_map] at hlt
    refine R_skip ?_
    refine R_seq ?_
    refine R_region ?_
    refine R_r (D_move rfl) ?_
    refine R_r (D_nilCheck rfl) ?_
    refine R_r (D_fieldAddr fa112_3 rfl) ?_
    refine R_r (D_load rfl (Has.mem hmo1) (Rd.one Tryz.isAgg110 rfl)) ?_
    refine R_r (D_move rfl) ?_
    obtain ⟨b2, ob2, csb2, elb2, frb2, rfl, hmb2, hxb2⟩ := hsko1.at (i := bsI (x.kids.map Node.name) nm) (by first | omega | (simp; omega))
    obtain ⟨x3, hx3⟩ : ∃ e_, x.kids[bsI (x.kids.map Node.name) nm]? = some e_ := ⟨_, List.getElem?_eq_getElem (by omega)⟩
    obtain ⟨tx3, hex3, htx3⟩ := hxb2 (bsI (x.kids.map Node.name) nm) x3 hx3
    refine R_r (D_indexLn (bsI (x.kids.map Node.name) nm) Tryz.underlying110 Tryz.sizeOf34 rfl rfl (by first | rfl | omega) (by first | omega | (simp <;> omega))) ?_
    refine R_r (D_load rfl (Has.mem hmb2) (Rd.elem0 (i := (bsI (x.kids.map Node.name) nm)) hex3 Tryz.isAgg34 rfl rfl)) ?_
    refine R_r (D_assign rfl) ?_
    refine R_r (D_assign rfl) ?_
    refine R_nil ?_
    refine R_ret ?_
    refine R_fin2 rfl rfl rfl ?_
    exact ⟨rfl, rfl, .inr ⟨_, _, by rw [kidOf, if_pos (by simpa using h1)]; exact hx3, rfl, htx3⟩⟩

theorem Sub_C (x : Node) (b : Nat) (p : Str) (M : PMem) (w : World) (hM : Lies M w) (hb : TreeAt M b x) (hrx : x.Ris) (hsz : Node.sizeL x.kids ≤ 2147483648) (hp : p.length ≤ 1073741824) : Ends Tryz.prog 70 [P_ b 0, S p] w [] M (fun v M' H' => H' = [] ∧ ((subAt x p = none ∧ v = .tuple #[.pointer none, .bool false]) ∨ ∃ k b', subAt x p = some k ∧ v = .tuple #[P_ b' 0, .bool true] ∧ TreeAt M' b' k)) := by
  have hpn := splitP_len p 64
  refine Ends.enter (H := []) Tryz.func70 rfl Tryz.ntmps70 rfl (St.start hM) ?_
  refine R_seq ?_
  refine R_region ?_
  refine R_r (D_assign rfl) ?_
  refine R_r (D_assign rfl) ?_
  refine R_nil ?_
  refine R_seq ?_
  refine R_region ?_
  refine R_r (D_move rfl) ?_
  refine R_o (E_callP rfl rfl en86 (fun w hM => Split_C p 64 M w hM (by omega)) (fun vr1 Mr1 Hr1 hler1 hpr1 => ?_))
  have q2 := TreeAt.le hler1 hb
  obtain ⟨rfl, vr1, rfl, hpr1⟩ := hpr1
  obtain ⟨ar1, cr1, rfl, hcr1, hsr1⟩ := hpr1.op
  refine R_r (D_move rfl) ?_
  refine R_r (D_extract rfl rfl) ?_
  refine R_r (D_extract rfl rfl) ?_
  refine R_r (D_assign rfl) ?_
  refine R_r (D_assign rfl) ?_
  refine R_nil ?_
  refine R_seq ?_
  refine R_seq ?_
  refine R_region ?_
  refine R_r (D_move rfl) ?_
  refine R_r (D_ne rfl rfl) ?_
  refine R_nil ?_
  refine R_cond rfl (fun h1 => ?_) (fun h1 => ?_)
  ·
    have h1p : ¬ (((splitP p 64).2) = 0) := by simpa using h1
    refine R_seq ?_
    refine R_region ?_
    refine R_r (D_assign rfl) ?_
    refine R_r (D_assign rfl) ?_
    refine R_nil ?_
    refine R_ret ?_
    refine R_fin2 rfl rfl rfl ?_
    exact ⟨rfl, .inl ⟨by rw [subAt, if_neg h1p], rfl⟩⟩
  ·
    have h1p : (((splitP p 64).2) = 0) := by simpa using h1
    refine R_skip ?_
    refine R_seq ?_
    refine R_seq ?_
    refine R_region ?_
    refine R_r (D_move rfl) ?_
    refine R_r (D_lenL Tryz.underlying109 rfl) ?_
    refine R_r (D_move rfl) ?_
    refine R_nil ?_
    refine R_block ?_
    refine R_loop (σ := (Nat) × (Node) × (Nat)) (fun gs => ([(0, P_ gs.2.2 0), (19, .slice ar1 (((splitP p 64).1).length) cr1), (20, I (((splitP p 64).1).length : Int)), (21, I (gs.1 : Int))], Mr1, [])) (fun gs => gs.1 ≤ (splitP p 64).1.length ∧ TreeAt Mr1 gs.2.2 gs.2.1 ∧ gs.2.1.Ris ∧ Node.sizeL gs.2.1.kids ≤ 2147483648 ∧ subOf x (splitP p 64).1 = subOf gs.2.1 ((splitP p 64).1.drop gs.1)) (fun gs => (splitP p 64).1.length - gs.1) (0, x, b) ?_ (Env.sub_cons rfl <| Env.sub_cons rfl <| Env.sub_cons rfl <| Env.sub_cons rfl <| Env.sub_nil _) rfl rfl ?_
    · show 0 ≤ (splitP p 64).1.length ∧ TreeAt Mr1 b x ∧ x.Ris ∧ Node.sizeL x.kids ≤ 2147483648 ∧ subOf x (splitP p 64).1 = subOf x ((splitP p 64).1.drop 0); exact ⟨by omega, q2, hrx, hsz, rfl⟩
    rintro ⟨i, y, t⟩ hok
    replace hok : i ≤ (splitP p 64).1.length ∧ TreeAt Mr1 t y ∧ y.Ris ∧ Node.sizeL y.kids ≤ 2147483648 ∧ subOf x (splitP p 64).1 = subOf y ((splitP p 64).1.drop i) := hok
    show Cx.R _ _ _ [(0, P_ t 0), (19, .slice ar1 (((splitP p 64).1).length) cr1), (20, I (((splitP p 64).1).length : Int)), (21, I (i : Int))] Mr1 []
    obtain ⟨hi, hty, hry, hsy, hso⟩ := hok
    refine R_seq ?_
    refine R_region ?_
    refine R_r (D_lt rfl rfl) ?_
    refine R_nil ?_
    refine R_seq ?_
    refine R_cond rfl (fun h2 => ?_) (fun h2 => ?_)
    ·
      have h2p := of_decide_eq_true h2
      refine R_skip ?_
      refine R_seq ?_
      refine R_block ?_
      refine R_seq ?_
      refine R_region ?_
      obtain ⟨b3, ob3, csb3, elb3, frb3, rfl, hmb3, hxb3⟩ := hsr1.at (i := i) (by first | omega | (simp; omega))
      obtain ⟨x4, hx4⟩ : ∃ e_, ((splitP p 64).1)[i]? = some e_ := ⟨_, List.getElem?_eq_getElem (by omega)⟩
      have hex4 := hxb3 i x4 hx4
      refine R_r (D_indexLn (i) Tryz.underlying109 Tryz.sizeOf9 rfl rfl (by first | rfl | omega) (by first | omega | (simp <;> omega))) ?_
      refine R_r (D_load rfl (Has.mem hmb3) (Rd.elem0 (i := i) hex4 Tryz.isAgg9 rfl rfl)) ?_
      refine R_r (D_assign rfl) ?_
      refine R_nil ?_
      refine R_seq ?_
      refine R_region ?_
      refine R_r (D_move rfl) ?_
      refine R_r (D_move rfl) ?_
      refine R_o (E_callP rfl rfl en99 (fun w hM => kid_C y t x4 Mr1 w hM hty hry hsy) (fun vr5 Mr5 Hr5 hler5 hpr5 => ?_))
      obtain ⟨rfl, hMMr5, hpr5⟩ := hpr5
      have hMsr5 := hMMr5.symm; subst hMsr5
      clear hler5
      rcases hpr5 with ⟨hkr5, rfl⟩ | ⟨kr5, br5, hkr5, rfl, htr5⟩
      ·
        refine R_r (D_move rfl) ?_
        refine R_r (D_extract rfl rfl) ?_
        refine R_r (D_extract rfl rfl) ?_
        refine R_r (D_assign rfl) ?_
        refine R_r (D_assign rfl) ?_
        refine R_nil ?_
        refine R_seq ?_
        refine R_seq ?_
        refine R_region ?_
        refine R_r (D_move rfl) ?_
        refine R_r (D_not rfl) ?_
        refine R_nil ?_
        refine R_cond_t rfl ?_
        refine R_seq ?_
        refine R_region ?_
        refine R_r (D_assign rfl) ?_
        refine R_r (D_assign rfl) ?_
        refine R_nil ?_
        refine R_ret ?_
        refine R_fin2 rfl rfl rfl ?_
        exact ⟨rfl, .inl ⟨by rw [subAt, if_pos h1p, hso, subOf_none hx4 hkr5], rfl⟩⟩
      ·
        refine R_r (D_move rfl) ?_
        refine R_r (D_extract rfl rfl) ?_
        refine R_r (D_extract rfl rfl) ?_
        refine R_r (D_assign rfl) ?_
        refine R_r (D_assign rfl) ?_
        refine R_nil ?_
        refine R_seq ?_
        refine R_seq ?_
        refine R_region ?_
        refine R_r (D_move rfl) ?_
        refine R_r (D_not rfl) ?_
        refine R_nil ?_
        refine R_cond_f rfl ?_
        refine R_skip ?_
        refine R_region ?_
        refine R_r (D_move rfl) ?_
        refine R_r (D_assign rfl) ?_
        refine R_nil ?_
        refine R_region ?_
        refine R_r (D_add rfl rfl rfl (by omega) (by omega)) ?_
        refine R_r (D_move rfl) ?_
        refine R_nil ?_
        exact R_back (i + 1, kr5, br5) (by show (i + 1) ≤ (splitP p 64).1.length ∧ TreeAt Mr1 br5 kr5 ∧ kr5.Ris ∧ Node.sizeL kr5.kids ≤ 2147483648 ∧ subOf x (splitP p 64).1 = subOf kr5 ((splitP p 64).1.drop (i + 1)); exact ⟨by omega, htr5, hry.kid (kidOf_mem hkr5), by have := Node.size_mem (kidOf_mem hkr5); rw [Node.size_eq] at this; omega, by rw [hso, subOf_step hx4 hkr5]⟩) (by show (splitP p 64).1.length - (i + 1) < (splitP p 64).1.length - i; omega) (Env.sub_cons rfl <| Env.sub_cons rfl <| Env.sub_cons rfl <| Env.sub_cons rfl <| Env.sub_nil _) rfl rfl
    ·
      have h2p := of_decide_eq_false h2
      refine R_exit rfl ?_
      refine R_seq ?_
      refine R_region ?_
      refine R_r (D_move rfl) ?_
      refine R_r (D_assign rfl) ?_
      refine R_r (D_assign rfl) ?_
      refine R_nil ?_
      refine R_ret ?_
      refine R_fin2 rfl rfl rfl ?_
      rw [List.drop_eq_nil_of_le (by omega)] at hso
      exact ⟨rfl, .inr ⟨y, t, by rw [subAt, if_pos h1p, hso]; rfl, rfl, hty⟩⟩

theorem At_C (x : Node) (b : Nat) (p : Str) (M : PMem) (w : World) (hM : Lies M w) (hb : TreeAt M b x) (hrx : x.Ris) (hsz : Node.sizeL x.kids ≤ 2147483648) (hp : p.length ≤ 1073741824) : Ends Tryz.prog 26 [P_ b 0, S p] w [] M (fun v' M' H' => v' = .tuple #[Val.val (valAt x p), .bool (subAt x p).isSome] ∧ M' = M ∧ H' = []) := by
  refine Ends.enter (H := []) Tryz.func26 rfl Tryz.ntmps26 rfl (St.start hM) ?_
  refine R_seq ?_
  refine R_region ?_
  refine R_o (E_alloc (Val.cells Val.zero) Tryz.zeroValue24 rfl (fun b1 => ?_))
  refine R_r (D_assign rfl) ?_
  refine R_nil ?_
  refine R_seq ?_
  refine R_seq ?_
  refine R_region ?_
  refine R_r (D_move rfl) ?_
  refine R_r (D_move rfl) ?_
  refine R_o (E_callP rfl rfl en70 (fun w hM => Sub_C x b p M w hM hb hrx hsz (by omega)) (fun vr2 Mr2 Hr2 hler2 hpr2 => ?_))
  have q3 := TreeAt.le hler2 hb
  obtain ⟨rfl, hpr2⟩ := hpr2
  rcases hpr2 with ⟨hkr2, rfl⟩ | ⟨kr2, br2, hkr2, rfl, htr2⟩
  ·
    refine R_r (D_move rfl) ?_
    refine R_r (D_extract rfl rfl) ?_
    refine R_r (D_extract rfl rfl) ?_
    refine R_r (D_assign rfl) ?_
    refine R_r (D_assign rfl) ?_
    refine R_nil ?_
    refine R_seq ?_
    refine R_region ?_
    refine R_r (D_move rfl) ?_
    refine R_nil ?_
    refine R_cond_f rfl ?_
    refine R_skip ?_
    refine R_seq ?_
    refine R_region ?_
    refine R_r (D_build rfl bd24_) ?_
    refine R_o (E_store (cs' := (Val.cells Val.zero)) 0 rfl rfl rfl (Wr.agg Tryz.sizeOf24 rfl rfl rfl rfl) ?_)
    refine R_r (D_assign rfl) ?_
    refine R_nil ?_
    refine R_ret ?_
    refine R_less (M := M) (PMem.le_refl _) hler2 ?_
    refine R_finCT rfl rfl rfl (Has.own 0 rfl) (rd24_Val_0 Val.zero) [] (by simp) ?_
    exact ⟨by rw [valAt, hkr2]; rfl, rfl, rfl⟩
  ·
    refine R_r (D_move rfl) ?_
    refine R_r (D_extract rfl rfl) ?_
    refine R_r (D_extract rfl rfl) ?_
    refine R_r (D_assign rfl) ?_
    refine R_r (D_assign rfl) ?_
    refine R_nil ?_
    refine R_seq ?_
    refine R_region ?_
    refine R_r (D_move rfl) ?_
    refine R_nil ?_
    refine R_cond_t rfl ?_
    refine R_seq ?_
    refine R_region ?_
    refine R_r (D_move rfl) ?_
    refine R_r (D_nilCheck rfl) ?_
    refine R_r (D_fieldAddr fa112_0 rfl) ?_
    obtain ⟨ano4, cno4, ako4, cko4, elo4, fro4, hmo4, hcno4, hsno4, hcko4, hsko4⟩ := (htr2).open
    refine R_r (D_load rfl (Has.mem hmo4) (rd24_TreeC_0 (⟨kr2.value, kr2.marks, .slice ano4 ((kr2.kids.map Node.name).length) cno4, .slice ako4 kr2.kids.length cko4, ((1 + Node.sizeL kr2.kids : Nat) : Int), ((Node.depthL kr2.kids : Nat) : Int)⟩ : TreeC))) ?_
    refine R_o (E_store (cs' := (Val.cells kr2.value)) 0 rfl rfl rfl (Wr.agg Tryz.sizeOf24 rfl rfl rfl rfl) ?_)
    refine R_r (D_assign rfl) ?_
    refine R_nil ?_
    refine R_ret ?_
    refine R_less (M := M) (PMem.le_refl _) hler2 ?_
    refine R_finCT rfl rfl rfl (Has.own 0 rfl) (rd24_Val_0 kr2.value) [] (by simp) ?_
    exact ⟨by rw [valAt, hkr2]; rfl, rfl, rfl⟩

theorem MarksT_C (x : Node) (b : Nat) (M : PMem) (w : World) (hM : Lies M w) (hb : TreeAt M b x) : Ends Tryz.prog 116 [P_ b 0] w [] M (fun v' M' H' => v' = Marks.val x.marks ∧ M' = M ∧ H' = []) := by
  refine Ends.enter (H := []) Tryz.func116 rfl Tryz.ntmps116 rfl (St.start hM) ?_
  refine R_seq ?_
  refine R_region ?_
  refine R_o (E_alloc (Marks.cells Marks.zero) Tryz.zeroValue27 rfl (fun b1 => ?_))
  refine R_nil ?_
  refine R_seq ?_
  refine R_region ?_
  refine R_r (D_move rfl) ?_
  refine R_r (D_nilCheck rfl) ?_
  refine R_r (D_fieldAddr fa112_1 rfl) ?_
  obtain ⟨ano2, cno2, ako2, cko2, elo2, fro2, hmo2, hcno2, hsno2, hcko2, hsko2⟩ := (hb).open
  refine R_r (D_load rfl (Has.mem hmo2) (rd27_TreeC_35 (⟨x.value, x.marks, .slice ano2 ((x.kids.map Node.name).length) cno2, .slice ako2 x.kids.length cko2, ((1 + Node.sizeL x.kids : Nat) : Int), ((Node.depthL x.kids : Nat) : Int)⟩ : TreeC))) ?_
  refine R_o (E_store (cs' := (Marks.cells x.marks)) 0 rfl rfl rfl (Wr.agg Tryz.sizeOf27 rfl rfl rfl rfl) ?_)
  refine R_nil ?_
  refine R_ret ?_
  refine R_finC rfl rfl (Has.own 0 rfl) (rd27_Marks_0 x.marks) [] (by simp) ?_
  exact ⟨rfl, rfl, rfl⟩

theorem way_C (x : Node) (b : Nat) (l : List Str) (a : Option Addr) (c : Nat) (M : PMem) (w : World) (hM : Lies M w) (hb : TreeAt M b x) (hrx : x.Ris) (hsz : Node.sizeL x.kids ≤ 2147483648) (hc : l.length ≤ c) (hl : SlA M 1 (byEnc fun s : Str => [S s]) a l) (hn : l.length ≤ 4294967296) : Ends Tryz.prog 136 [P_ b 0, .slice a l.length c] w [] M (fun v' M' H' => v' = .bool (wayB x l) ∧ M' = M ∧ H' = []) := by
  refine Ends.enter (H := []) Tryz.func136 rfl Tryz.ntmps136 rfl (St.start hM) ?_
  refine R_seq ?_
  refine R_region ?_
  refine R_r (D_assign rfl) ?_
  refine R_nil ?_
  refine R_seq ?_
  refine R_seq ?_
  refine R_region ?_
  refine R_r (D_move rfl) ?_
  refine R_r (D_move rfl) ?_
  refine R_r (D_lenL Tryz.underlying109 rfl) ?_
  refine R_r (D_subI rfl rfl rfl (by omega) (by omega)) ?_
  refine R_r (D_max rfl rfl) ?_
  have t1 := hl.take ((max ((l.length : Int) - 1) 0).toNat)
  have t1l : ((l.take ((max ((l.length : Int) - 1) 0).toNat)).length : Int) = max ((l.length : Int) - 1) 0 := by simp <;> omega
  refine R_r (D_sliceL0 (m := (l.take ((max ((l.length : Int) - 1) 0).toNat)).length) Tryz.underlying109 Tryz.sizeOf9 rfl (by rw [t1l]; rfl) (by omega) (by omega)) ?_
  refine R_r (D_lenL Tryz.underlying109 rfl) ?_
  refine R_r (D_move rfl) ?_
  refine R_nil ?_
  refine R_block ?_
  refine R_loop (σ := (Nat) × (Node) × (Nat)) (fun gs => ([(0, P_ gs.2.2 0), (1, .slice a l.length c), (14, .slice a ((l.take ((max ((l.length : Int) - 1) 0).toNat)).length) c), (15, I ((l.take ((max ((l.length : Int) - 1) 0).toNat)).length : Int)), (16, I (gs.1 : Int))], M, [])) (fun gs => gs.1 ≤ l.length - 1 ∧ TreeAt M gs.2.2 gs.2.1 ∧ gs.2.1.Ris ∧ Node.sizeL gs.2.1.kids ≤ 2147483648 ∧ wayB x l = wayB gs.2.1 (l.drop gs.1)) (fun gs => l.length - gs.1) (0, x, b) ?_ (Env.sub_cons rfl <| Env.sub_cons rfl <| Env.sub_cons rfl <| Env.sub_cons rfl <| Env.sub_cons rfl <| Env.sub_nil _) rfl rfl ?_
  · show 0 ≤ l.length - 1 ∧ TreeAt M b x ∧ x.Ris ∧ Node.sizeL x.kids ≤ 2147483648 ∧ wayB x l = wayB x (l.drop 0); exact ⟨by omega, hb, hrx, hsz, rfl⟩
  rintro ⟨i, y, t⟩ hok
  replace hok : i ≤ l.length - 1 ∧ TreeAt M t y ∧ y.Ris ∧ Node.sizeL y.kids ≤ 2147483648 ∧ wayB x l = wayB y (l.drop i) := hok
  show Cx.R _ _ _ [(0, P_ t 0), (1, .slice a l.length c), (14, .slice a ((l.take ((max ((l.length : Int) - 1) 0).toNat)).length) c), (15, I ((l.take ((max ((l.length : Int) - 1) 0).toNat)).length : Int)), (16, I (i : Int))] M []
  obtain ⟨hi, hty, hry, hsy, hso⟩ := hok
  have htl : (l.take ((max ((l.length : Int) - 1) 0).toNat)).length = l.length - 1 := by rw [List.length_take]; omega
  refine R_seq ?_
  refine R_region ?_
  refine R_r (D_lt rfl rfl) ?_
  refine R_nil ?_
  refine R_seq ?_
  refine R_cond rfl (fun h1 => ?_) (fun h1 => ?_)
  ·
    have h1p := of_decide_eq_true h1
    refine R_skip ?_
    refine R_seq ?_
    refine R_block ?_
    refine R_seq ?_
    refine R_region ?_
    obtain ⟨b2, ob2, csb2, elb2, frb2, rfl, hmb2, hxb2⟩ := t1.at (i := i) (by first | omega | (simp; omega))
    obtain ⟨x3, hx3⟩ : ∃ e_, (l.take ((max ((l.length : Int) - 1) 0).toNat))[i]? = some e_ := ⟨_, List.getElem?_eq_getElem (by omega)⟩
    have hex3 := hxb2 i x3 hx3
    refine R_r (D_indexLn (i) Tryz.underlying109 Tryz.sizeOf9 rfl rfl (by first | rfl | omega) (by first | omega | (simp <;> omega))) ?_
    refine R_r (D_load rfl (Has.mem hmb2) (Rd.elem0 (i := i) hex3 Tryz.isAgg9 rfl rfl)) ?_
    refine R_r (D_assign rfl) ?_
    refine R_nil ?_
    refine R_seq ?_
    refine R_region ?_
    refine R_r (D_move rfl) ?_
    refine R_r (D_move rfl) ?_
    refine R_o (E_callP rfl rfl en99 (fun w hM => kid_C y t x3 M w hM hty hry hsy) (fun vr4 Mr4 Hr4 hler4 hpr4 => ?_))
    obtain ⟨rfl, hMMr4, hpr4⟩ := hpr4
    have hMsr4 := hMMr4.symm; subst hMsr4
    clear hler4
    rcases hpr4 with ⟨hkr4, rfl⟩ | ⟨kr4, br4, hkr4, rfl, htr4⟩
    ·
      refine R_r (D_move rfl) ?_
      refine R_r (D_extract rfl rfl) ?_
      refine R_r (D_extract rfl rfl) ?_
      refine R_r (D_assign rfl) ?_
      refine R_r (D_assign rfl) ?_
      refine R_nil ?_
      refine R_seq ?_
      refine R_seq ?_
      refine R_join [(0, P_ t 0), (1, .slice (some ⟨b2, ob2, none⟩) l.length c), (6, S x3), (7, .pointer none), (8, .bool false), (14, .slice (some ⟨b2, ob2, none⟩) ((l.take ((max ((l.length : Int) - 1) 0).toNat)).length) c), (15, I ((l.take ((max ((l.length : Int) - 1) 0).toNat)).length : Int)), (16, I (i : Int)), (17, .bool (decide ((i : Int) < ((l.take ((max ((l.length : Int) - 1) 0).toNat)).length : Int)))), (18, P_ b2 (ob2 + i * 1)), (19, S x3), (20, .tuple #[.pointer none, .bool false]), (21, P_ t 0), (22, S x3), (23, .tuple #[.pointer none, .bool false]), (24, .pointer none), (25, .bool false), (35, .bool true)] (M' := M) (H' := []) ?_ ?_
      ·
        refine R_region ?_
        refine R_r (D_move rfl) ?_
        refine R_r (D_not rfl) ?_
        refine R_r (D_move rfl) ?_
        refine R_skipop rfl rfl rfl ?_
        refine R_skipop rfl rfl rfl ?_
        refine R_skipop rfl rfl rfl ?_
        refine R_skipop rfl rfl rfl ?_
        refine R_skipop rfl rfl rfl ?_
        refine R_skipop rfl rfl rfl ?_
        refine R_r (D_pick true rfl rfl) ?_
        refine R_nil ?_
        exact R_at (Env.sub_cons rfl <| Env.sub_cons rfl <| Env.sub_cons rfl <| Env.sub_cons rfl <| Env.sub_cons rfl <| Env.sub_cons rfl <| Env.sub_cons rfl <| Env.sub_cons rfl <| Env.sub_cons rfl <| Env.sub_cons rfl <| Env.sub_cons rfl <| Env.sub_cons rfl <| Env.sub_cons rfl <| Env.sub_cons rfl <| Env.sub_cons rfl <| Env.sub_cons rfl <| Env.sub_cons rfl <| Env.sub_cons rfl <| Env.sub_nil _)
      ·
        refine R_cond_t rfl ?_
        refine R_seq ?_
        refine R_region ?_
        refine R_r (D_assign rfl) ?_
        refine R_nil ?_
        refine R_ret ?_
        refine R_fin1 rfl rfl ?_
        exact ⟨by rw [hso, wayB_none (by have hq := hx3; rw [List.getElem?_take] at hq; split at hq; exact hq; cases hq) (by omega) hkr4], rfl, rfl⟩
    ·
      refine R_r (D_move rfl) ?_
      refine R_r (D_extract rfl rfl) ?_
      refine R_r (D_extract rfl rfl) ?_
      refine R_r (D_assign rfl) ?_
      refine R_r (D_assign rfl) ?_
      refine R_nil ?_
      refine R_seq ?_
      refine R_seq ?_
      obtain ⟨ano5, cno5, ako5, cko5, elo5, fro5, hmo5, hcno5, hsno5, hcko5, hsko5⟩ := (hty).open
      refine R_join [(0, P_ t 0), (1, .slice (some ⟨b2, ob2, none⟩) l.length c), (6, S x3), (7, P_ br4 0), (8, .bool true), (14, .slice (some ⟨b2, ob2, none⟩) ((l.take ((max ((l.length : Int) - 1) 0).toNat)).length) c), (15, I ((l.take ((max ((l.length : Int) - 1) 0).toNat)).length : Int)), (16, I (i : Int)), (17, .bool (decide ((i : Int) < ((l.take ((max ((l.length : Int) - 1) 0).toNat)).length : Int)))), (18, P_ b2 (ob2 + i * 1)), (19, S x3), (20, .tuple #[P_ br4 0, .bool true]), (21, P_ t 0), (22, S x3), (23, .tuple #[P_ br4 0, .bool true]), (24, P_ br4 0), (25, .bool true), (35, .bool (!decide (y.value.kind = 1)))] (M' := M) (H' := []) ?_ ?_
      ·
        refine R_region ?_
        refine R_r (D_move rfl) ?_
        refine R_r (D_not rfl) ?_
        refine R_r (D_move rfl) ?_
        refine R_r (D_move rfl) ?_
        refine R_r (D_nilCheck rfl) ?_
        refine R_r (D_fieldAddr fa112_0 rfl) ?_
        refine R_r (D_fieldAddr fa24_0 rfl) ?_
        refine R_r (D_load rfl (Has.mem hmo5) (Rd.one Tryz.isAgg3 rfl)) ?_
        refine R_r (D_ne rfl rfl) ?_
        refine R_r (D_pick false rfl rfl) ?_
        refine R_nil ?_
        exact R_at (Env.sub_cons rfl <| Env.sub_cons rfl <| Env.sub_cons rfl <| Env.sub_cons rfl <| Env.sub_cons rfl <| Env.sub_cons rfl <| Env.sub_cons rfl <| Env.sub_cons rfl <| Env.sub_cons rfl <| Env.sub_cons rfl <| Env.sub_cons rfl <| Env.sub_cons rfl <| Env.sub_cons rfl <| Env.sub_cons rfl <| Env.sub_cons rfl <| Env.sub_cons rfl <| Env.sub_cons rfl <| Env.sub_cons rfl <| Env.sub_nil _)
      ·
        refine R_cond rfl (fun h2 => ?_) (fun h2 => ?_)
        ·
          have h2p : ¬ (y.value.kind = 1) := by simpa using h2
          refine R_seq ?_
          refine R_region ?_
          refine R_r (D_assign rfl) ?_
          refine R_nil ?_
          refine R_ret ?_
          refine R_fin1 rfl rfl ?_
          exact ⟨by rw [hso, wayB_some (by have hq := hx3; rw [List.getElem?_take] at hq; split at hq; exact hq; cases hq) (by omega) hkr4, decide_eq_false (by simpa using h2)]; rfl, rfl, rfl⟩
        ·
          have h2p : (y.value.kind = 1) := by simpa using h2
          refine R_skip ?_
          refine R_region ?_
          refine R_r (D_move rfl) ?_
          refine R_r (D_assign rfl) ?_
          refine R_nil ?_
          refine R_region ?_
          refine R_r (D_add rfl rfl rfl (by omega) (by omega)) ?_
          refine R_r (D_move rfl) ?_
          refine R_nil ?_
          exact R_back (i + 1, kr4, br4) (by show (i + 1) ≤ l.length - 1 ∧ TreeAt M br4 kr4 ∧ kr4.Ris ∧ Node.sizeL kr4.kids ≤ 2147483648 ∧ wayB x l = wayB kr4 (l.drop (i + 1)); exact ⟨by omega, htr4, hry.kid (kidOf_mem hkr4), by have := Node.size_mem (kidOf_mem hkr4); rw [Node.size_eq] at this; omega, by rw [hso, wayB_some (by have hq := hx3; rw [List.getElem?_take] at hq; split at hq; exact hq; cases hq) (by omega) hkr4, decide_eq_true (by simpa using h2)]; rfl⟩) (by show l.length - (i + 1) < l.length - i; omega) (Env.sub_cons rfl <| Env.sub_cons rfl <| Env.sub_cons rfl <| Env.sub_cons rfl <| Env.sub_cons rfl <| Env.sub_nil _) rfl rfl
  ·
    have h1p := of_decide_eq_false h1
    refine R_exit rfl ?_
    refine R_seq ?_
    obtain ⟨ano6, cno6, ako6, cko6, elo6, fro6, hmo6, hcno6, hsno6, hcko6, hsko6⟩ := (hty).open
    refine R_join [(0, P_ t 0), (1, .slice a l.length c), (4, .bool ((decide ((l.length : Int) = 0)) || (decide (y.value.kind = 1)))), (14, .slice a ((l.take ((max ((l.length : Int) - 1) 0).toNat)).length) c), (15, I ((l.take ((max ((l.length : Int) - 1) 0).toNat)).length : Int)), (16, I (i : Int)), (17, .bool (decide ((i : Int) < ((l.take ((max ((l.length : Int) - 1) 0).toNat)).length : Int))))] (M' := M) (H' := []) ?_ ?_
    ·
      refine R_region ?_
      refine R_r (D_move rfl) ?_
      refine R_r (D_lenL Tryz.underlying109 rfl) ?_
      refine R_r (D_eq rfl rfl) ?_
      refine R_r (D_move rfl) ?_
      refine R_split 41 rfl (fun h2 => ?_) (fun h2 => ?_)
      ·
        have h2p := of_decide_eq_true h2
        refine R_skipop rfl rfl rfl ?_
        refine R_skipop rfl rfl rfl ?_
        refine R_skipop rfl rfl rfl ?_
        refine R_skipop rfl rfl rfl ?_
        refine R_skipop rfl rfl rfl ?_
        refine R_skipop rfl rfl rfl ?_
        refine R_r (D_pick true rfl rfl) ?_
        refine R_r (D_assign rfl) ?_
        refine R_nil ?_
        exact R_at (Env.sub_cons rfl <| Env.sub_cons rfl <| Env.sub_cons (by first | (show some (Value.bool _) = some (Value.bool _); simp only [h2, Bool.true_and, Bool.false_and, Bool.true_or, Bool.false_or, Bool.and_true, Bool.and_false, Bool.or_true, Bool.or_false]; done) | (show some (Value.bool _) = some (Value.bool _); (try rw [h2]); first | done | rfl) | simp [h2, Env.find]) <| Env.sub_cons rfl <| Env.sub_cons rfl <| Env.sub_cons rfl <| Env.sub_cons rfl <| Env.sub_nil _)
      ·
        have h2p := of_decide_eq_false h2
        refine R_r (D_move rfl) ?_
        refine R_r (D_nilCheck rfl) ?_
        refine R_r (D_fieldAddr fa112_0 rfl) ?_
        refine R_r (D_fieldAddr fa24_0 rfl) ?_
        refine R_r (D_load rfl (Has.mem hmo6) (Rd.one Tryz.isAgg3 rfl)) ?_
        refine R_r (D_eq rfl rfl) ?_
        refine R_r (D_pick false rfl rfl) ?_
        refine R_r (D_assign rfl) ?_
        refine R_nil ?_
        exact R_at (Env.sub_cons rfl <| Env.sub_cons rfl <| Env.sub_cons (by first | (show some (Value.bool _) = some (Value.bool _); simp only [h2, Bool.true_and, Bool.false_and, Bool.true_or, Bool.false_or, Bool.and_true, Bool.and_false, Bool.or_true, Bool.or_false]; done) | (show some (Value.bool _) = some (Value.bool _); (try rw [h2]); first | done | rfl) | simp [h2, Env.find]) <| Env.sub_cons rfl <| Env.sub_cons rfl <| Env.sub_cons rfl <| Env.sub_cons rfl <| Env.sub_nil _)
    ·
      refine R_ret ?_
      refine R_fin1 rfl rfl ?_
      exact ⟨by rw [hso, wayB_end (by omega)], rfl, rfl⟩

end Go.Proofs.YtgmomhdammdjgaaGreat
