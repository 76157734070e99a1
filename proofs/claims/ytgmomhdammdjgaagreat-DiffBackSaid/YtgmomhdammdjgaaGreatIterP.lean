/-
  What a tree hands out (Children, All), walked: iterators, for whatever function value they call. Conditions: paths within 2^30.
-/
import Derived.Test.YtgmomhdammdjgaaGreatTree4
set_option linter.unusedVariables false
set_option linter.unusedSimpArgs false
set_option maxRecDepth 20000
set_option maxHeartbeats 4000000
namespace Go.Proofs.YtgmomhdammdjgaaGreat
open Go Go.Proofs Go.RowKit

theorem en119 : ∀ (args : Array Value) (w : World), (callFunc 119 args).run Tryz.prog w = .ok (.enter 119 args) w := enters_fn Tryz.func119 (by kernel_rfl) rfl
theorem en125 : ∀ (args : Array Value) (w : World), (callFunc 125 args).run Tryz.prog w = .ok (.enter 125 args) w := enters_fn Tryz.func125 (by kernel_rfl) rfl
theorem en118 : ∀ (args : Array Value) (w : World), (callFunc 118 args).run Tryz.prog w = .ok (.enter 118 args) w := enters_fn Tryz.func118 (by kernel_rfl) rfl
theorem en94 : ∀ (args : Array Value) (w : World), (callFunc 94 args).run Tryz.prog w = .ok (.enter 94 args) w := enters_fn Tryz.func94 (by kernel_rfl) rfl
theorem en113 : ∀ (args : Array Value) (w : World), (callFunc 113 args).run Tryz.prog w = .ok (.enter 113 args) w := enters_fn Tryz.func113 (by kernel_rfl) rfl
theorem en112 : ∀ (args : Array Value) (w : World), (callFunc 112 args).run Tryz.prog w = .ok (.enter 112 args) w := enters_fn Tryz.func112 (by kernel_rfl) rfl
theorem en88 : ∀ (args : Array Value) (w : World), (callFunc 88 args).run Tryz.prog w = .ok (.enter 88 args) w := enters_fn Tryz.func88 (by kernel_rfl) rfl
theorem ValueT_C (x : Node) (b : Nat) (M : PMem) (w : World) (hM : Lies M w) (hb : TreeAt M b x) : Ends Tryz.prog 119 [P_ b 0] w [] M (fun v' M' H' => v' = Val.val x.value ∧ M' = M ∧ H' = []) := by
  refine Ends.enter (H := []) Tryz.func119 rfl Tryz.ntmps119 rfl (St.start hM) ?_
  refine R_seq ?_
  refine R_region ?_
  refine R_o (E_alloc (Val.cells Val.zero) Tryz.zeroValue24 rfl (fun b1 => ?_))
  refine R_nil ?_
  refine R_seq ?_
  refine R_region ?_
  refine R_r (D_move rfl) ?_
  refine R_r (D_nilCheck rfl) ?_
  refine R_r (D_fieldAddr fa112_0 rfl) ?_
  obtain ⟨ano2, cno2, ako2, cko2, elo2, fro2, hmo2, hcno2, hsno2, hcko2, hsko2⟩ := (hb).open
  refine R_r (D_load rfl (Has.mem hmo2) (rd24_TreeC_0 (⟨x.value, x.marks, .slice ano2 ((x.kids.map Node.name).length) cno2, .slice ako2 x.kids.length cko2, ((1 + Node.sizeL x.kids : Nat) : Int), ((Node.depthL x.kids : Nat) : Int)⟩ : TreeC))) ?_
  refine R_o (E_store (cs' := (Val.cells x.value)) 0 rfl rfl rfl (Wr.agg Tryz.sizeOf24 rfl rfl rfl rfl) ?_)
  refine R_nil ?_
  refine R_ret ?_
  refine R_finC rfl rfl (Has.own 0 rfl) (rd24_Val_0 x.value) [] (by simp) ?_
  exact ⟨rfl, rfl, rfl⟩

theorem belowT_C (p nm : Str) (M : PMem) (w : World) (hM : Lies M w) (hp : p.length ≤ 4294967296) (hn : nm.length ≤ 4294967296) : Ends Tryz.prog 125 [S p, S nm] w [] M (fun v' M' H' => v' = S (belowP p nm) ∧ M' = M ∧ H' = []) := by
  refine Ends.enter (H := []) Tryz.func125 rfl Tryz.ntmps125 rfl (St.start hM) ?_
  refine R_seq ?_
  refine R_region ?_
  refine R_r (D_assign rfl) ?_
  refine R_nil ?_
  refine R_seq ?_
  refine R_seq ?_
  refine R_region ?_
  refine R_r (D_move rfl) ?_
  refine R_r (D_eqS rfl rfl) ?_
  refine R_nil ?_
  refine R_cond rfl (fun h1 => ?_) (fun h1 => ?_)
  ·
    have h1p := of_decide_eq_true h1
    refine R_seq ?_
    refine R_region ?_
    refine R_r (D_move rfl) ?_
    refine R_r (D_assign rfl) ?_
    refine R_nil ?_
    refine R_ret ?_
    refine R_fin1 rfl rfl ?_
    exact ⟨by simp_all [belowP], rfl, rfl⟩
  ·
    have h1p := of_decide_eq_false h1
    refine R_skip ?_
    refine R_seq ?_
    refine R_region ?_
    refine R_r (D_move rfl) ?_
    refine R_r (D_addS rfl rfl (by simp; omega)) ?_
    refine R_r (D_move rfl) ?_
    refine R_r (D_addS rfl rfl (by simp; omega)) ?_
    refine R_r (D_assign rfl) ?_
    refine R_nil ?_
    refine R_ret ?_
    refine R_fin1 rfl rfl ?_
    exact ⟨by simp_all [belowP], rfl, rfl⟩

theorem Children1_F (x : Node) (b bx el0 : Nat) (fr0 : Nat × Nat) (bs : List Nat) (an : Option Addr) (cn : Nat) (ak : Option Addr) (ck : Nat) (el : Nat) (fr : Nat × Nat) (fv : Value) (M : PMem) (hbx : M bx = some (.cells (List.toArray [P_ b 0]) el0 fr0)) (hm : M b = some (.cells (List.toArray (TreeC.cells ⟨x.value, x.marks, .slice an (x.kids.map Node.name).length cn, .slice ak x.kids.length ck, (1 + Node.sizeL x.kids : Nat), (Node.depthL x.kids : Nat)⟩)) el fr)) (hcn : (x.kids.map Node.name).length ≤ cn) (hsn : SlA M 1 (byEnc fun s : Str => [S s]) an (x.kids.map Node.name)) (hck : x.kids.length ≤ ck) (hbs : SlA M 1 (byEnc fun b : Nat => [P_ b 0]) ak bs) (hps : PtrsIs M bs x.kids) (hkl : x.kids.length ≤ 4294967296) (Q : Nat → World → Prop) (Qx : World → Prop) (hr : Rounds Tryz.prog M fv (itemsC x.kids bs) Q Qx) (W : World) (hq0 : Q 0 W) : Calls Tryz.prog 118 [fv, P_ bx 0].toArray W (fun e W' => ∃ v, e = .returned v ∧ ((True ∧ Q (itemsC x.kids bs).length W') ∨ (True ∧ Qx W'))) := by
  have hpl := hps.1
  have hnl : (x.kids.map Node.name).length = x.kids.length := by simp
  refine calls_enterQ Tryz.func118 rfl Tryz.ntmps118 rfl (hr.lies _ _ hq0) ?_
  refine R_seq ?_
  refine R_region ?_
  refine R_r (D_load rfl (Has.mem hbx) (Rd.one Tryz.isAgg34 rfl)) ?_
  refine R_r (D_nilCheck rfl) ?_
  refine R_r (D_fieldAddr fa112_3 rfl) ?_
  refine R_r (D_load rfl (Has.mem hm) (Rd.one Tryz.isAgg110 rfl)) ?_
  refine R_r (D_lenL Tryz.underlying110 rfl) ?_
  refine R_r (D_move rfl) ?_
  refine R_nil ?_
  refine R_block ?_
  refine R_loopQ (σ := (Nat)) (fun gs => [(0, fv), (1, P_ bx 0), (8, .slice ak x.kids.length ck), (9, I (x.kids.length : Int)), (10, I (gs : Int))]) (fun gs w => gs ≤ x.kids.length ∧ Q (gs) w) M (fun gs => x.kids.length - gs) 0 (fun gs w h => hr.lies _ _ h.2) (fun w hs => ⟨by omega, hr.kept _ _ _ hq0 hs.kept⟩) (Env.sub_cons rfl <| Env.sub_cons rfl <| Env.sub_cons rfl <| Env.sub_cons rfl <| Env.sub_cons rfl <| Env.sub_nil _) ?_
  rintro i wl1 ⟨hok, hql1⟩
  show Cx.R _ _ _ [(0, fv), (1, P_ bx 0), (8, .slice ak x.kids.length ck), (9, I (x.kids.length : Int)), (10, I (i : Int))] M []
  replace hql1 : Q (i) wl1 := hql1
  refine R_seq ?_
  refine R_region ?_
  refine R_r (D_lt rfl rfl) ?_
  refine R_nil ?_
  refine R_seq ?_
  refine R_cond rfl (fun h1 => ?_) (fun h1 => ?_)
  ·
    have h1p := of_decide_eq_true h1
    refine R_skip ?_
    refine R_seq ?_
    refine R_block ?_
    refine R_seq ?_
    refine R_region ?_
    refine R_r (D_move rfl) ?_
    obtain ⟨b1, ob1, csb1, elb1, frb1, rfl, hmb1, hxb1⟩ := hbs.at (i := i) (by first | omega | (simp; omega))
    obtain ⟨x2, hx2⟩ : ∃ e_, bs[i]? = some e_ := ⟨_, List.getElem?_eq_getElem (by omega)⟩
    have hex2 := hxb1 i x2 hx2
    refine R_r (D_indexLn (i) Tryz.underlying110 Tryz.sizeOf34 rfl rfl (by first | rfl | omega) (by first | omega | (simp <;> omega))) ?_
    refine R_r (D_load rfl (Has.mem hmb1) (Rd.elem0 (i := i) hex2 Tryz.isAgg34 rfl rfl)) ?_
    refine R_r (D_assign rfl) ?_
    refine R_r (D_assign rfl) ?_
    refine R_nil ?_
    refine R_seq ?_
    refine R_region ?_
    refine R_r (D_move rfl) ?_
    refine R_r (D_load rfl (Has.mem hbx) (Rd.one Tryz.isAgg34 rfl)) ?_
    refine R_r (D_nilCheck rfl) ?_
    refine R_r (D_fieldAddr fa112_2 rfl) ?_
    refine R_r (D_load rfl (Has.mem hm) (Rd.one Tryz.isAgg109 rfl)) ?_
    refine R_r (D_move rfl) ?_
    obtain ⟨b3, ob3, csb3, elb3, frb3, rfl, hmb3, hxb3⟩ := hsn.at (i := i) (by first | omega | (simp; omega))
    obtain ⟨x4, hx4⟩ : ∃ e_, (x.kids.map Node.name)[i]? = some e_ := ⟨_, List.getElem?_eq_getElem (by omega)⟩
    have hex4 := hxb3 i x4 hx4
    refine R_r (D_indexLn (i) Tryz.underlying109 Tryz.sizeOf9 rfl rfl (by first | rfl | omega) (by first | omega | (simp <;> omega))) ?_
    refine R_r (D_load rfl (Has.mem hmb3) (Rd.elem0 (i := i) hex4 Tryz.isAgg9 rfl rfl)) ?_
    refine R_r (D_move rfl) ?_
    obtain ⟨kk, hkk⟩ : ∃ k, x.kids[i]? = some k := ⟨_, List.getElem?_eq_getElem (by omega)⟩
    have hnn : x4 = kk.name := by have h_ := hx4; rw [List.getElem?_map, hkk] at h_; exact (Option.some.inj h_).symm
    refine R_o (E_callQ (Q := fun w => Q (i) w) (Post := fun v w' => (v = .bool true ∧ Q (i + 1) w') ∨ (v = .bool false ∧ Qx w')) rfl rfl (fun w hs => hr.kept _ _ _ hql1 hs.kept) (fun w hq => hr.round _ _ w (by rw [hnn]; exact itemsC_at hx2 hkk) hq) (fun vy5 wy5 hpy5 => ?_))
    rcases hpy5 with hpy5 | hpy5
    ·
      obtain ⟨rfl, hqy5⟩ := hpy5
      refine ⟨M, hr.lies _ _ hqy5, ?_⟩
      refine R_r (D_not rfl) ?_
      refine R_nil ?_
      refine R_cond_f rfl ?_
      refine R_skip ?_
      refine R_region ?_
      refine R_r (D_add rfl rfl rfl (by omega) (by omega)) ?_
      refine R_r (D_move rfl) ?_
      refine R_nil ?_
      exact R_backQ (i + 1) (fun w hs => ⟨by first | omega | (show _; omega), by have hq_ := hr.kept _ _ _ hqy5 hs.kept; exact hq_⟩) (by show x.kids.length - (i + 1) < x.kids.length - i; omega) (Env.sub_cons rfl <| Env.sub_cons rfl <| Env.sub_cons rfl <| Env.sub_cons rfl <| Env.sub_cons rfl <| Env.sub_nil _)
    ·
      obtain ⟨rfl, hxy5⟩ := hpy5
      refine ⟨fun _ => none, lies_none _, ?_⟩
      refine R_r (D_not rfl) ?_
      refine R_nil ?_
      refine R_cond_t rfl ?_
      refine R_ret ?_
      refine R_finQ0 rfl ?_
      exact fun w hs => ⟨_, rfl, .inr ⟨trivial, hr.keptx _ _ hxy5 hs.kept⟩⟩
  ·
    have h1p := of_decide_eq_false h1
    refine R_exit rfl ?_
    refine R_finQ0 rfl ?_
    exact fun w hs => ⟨_, rfl, .inl ⟨trivial, by have hq_ := hr.kept _ _ _ hql1 hs.kept; rw [itemsC_len hpl]; exact (by omega : i = x.kids.length) ▸ hq_⟩⟩

theorem Children_C (x : Node) (b : Nat) (M : PMem) (w : World) (hM : Lies M w) (hb : TreeAt M b x) (hkl : x.kids.length ≤ 4294967296) : Ends Tryz.prog 94 [P_ b 0] w [] M (fun v M' H' => H' = [] ∧ ∃ bx bs, v = .func (.func 118) #[] #[P_ bx 0] ∧ PtrsIs M' bs x.kids ∧ Iter Tryz.prog M' 118 [P_ bx 0] (itemsC x.kids bs)) := by
  refine Ends.enter (H := []) Tryz.func94 rfl Tryz.ntmps94 rfl (St.start hM) ?_
  refine R_seq ?_
  refine R_region ?_
  refine R_o (E_box [P_ b 0] rfl rfl (fun b1 => ?_))
  refine R_r (D_assign rfl) ?_
  refine R_nil ?_
  refine R_seq ?_
  refine R_region ?_
  refine R_r (D_makeFunc rfl) ?_
  refine R_r (D_assign rfl) ?_
  refine R_nil ?_
  refine R_ret ?_
  refine R_freeze (fun hlef2 hmf2 => ?_)
  have q3 := TreeAt.le hlef2 hb
  obtain ⟨an, cn, ak, ck, el, fr, hm, hcn, hsn, hck, hsk⟩ := q3.open
  obtain ⟨bs, hps, hbs⟩ := hsk.ptrs
  refine R_fin1 rfl rfl ?_
  exact ⟨rfl, b1, bs, rfl, hps, fun fv Q Qx hr W hq => Children1_F x b b1 _ _ bs an cn ak ck el fr fv _ hmf2 hm hcn hsn hck hbs hps (by omega) Q Qx hr W hq⟩

theorem walk_S (x : Node) (b : Nat) (p : Str) (fv : Value) (M : PMem) (hb : TreeAt M b x) (hpw : p.length + Node.wtL x.kids ≤ 1073741824) (ih : ∀ (k : Node), k.size < x.size → ∀ (b : Nat) (p : Str) (fv : Value) (M : PMem), TreeAt M b k → p.length + Node.wtL k.kids ≤ 1073741824 → Feeds Tryz.prog M 113 [P_ b 0, S p, fv] fv (itemsV k p) (fun v b => v = .bool b)) (Q : Nat → World → Prop) (Qx : World → Prop) (hr : Rounds Tryz.prog M fv (itemsV x p) Q Qx) (W : World) (hq0 : Q 0 W) : Calls Tryz.prog 113 [P_ b 0, S p, fv].toArray W (fun e W' => ∃ v, e = .returned v ∧ ((v = .bool true ∧ Q (itemsV x p).length W') ∨ (v = .bool false ∧ Qx W'))) := by
  obtain ⟨an, cn, ak, ck, el, fr, hm, hcn, hsn, hck, hsk⟩ := hb.open
  obtain ⟨bs, hps, hbs⟩ := hsk.ptrs
  have hpl := hps.1
  have hnl : (x.kids.map Node.name).length = x.kids.length := by simp
  have hkw := Node.wt_kids (l := x.kids)
  have hxs := Node.size_eq x
  refine calls_enterQ Tryz.func113 rfl Tryz.ntmps113 rfl (hr.lies _ _ hq0) ?_
  refine R_seq ?_
  refine R_region ?_
  refine R_r (D_assign rfl) ?_
  refine R_nil ?_
  refine R_seq ?_
  refine R_seq ?_
  refine R_region ?_
  refine R_r (D_move rfl) ?_
  refine R_r (D_move rfl) ?_
  refine R_r (D_move rfl) ?_
  refine R_r (D_nilCheck rfl) ?_
  refine R_r (D_fieldAddr fa112_0 rfl) ?_
  refine R_r (D_load rfl (Has.mem hm) (rd24_TreeC_0 (⟨x.value, x.marks, .slice an ((x.kids.map Node.name).length) cn, .slice ak x.kids.length ck, ((1 + Node.sizeL x.kids : Nat) : Int), ((Node.depthL x.kids : Nat) : Int)⟩ : TreeC))) ?_
  refine R_o (E_callQ (Q := fun w => Q (0) w) (Post := fun v w' => (v = .bool true ∧ Q (0 + 1) w') ∨ (v = .bool false ∧ Qx w')) rfl rfl (fun w hs => hr.kept _ _ _ hq0 hs.kept) (fun w hq => hr.round _ _ w (itemsV_0 x p) hq) (fun vy1 wy1 hpy1 => ?_))
  rcases hpy1 with hpy1 | hpy1
  ·
    obtain ⟨rfl, hqy1⟩ := hpy1
    refine ⟨M, hr.lies _ _ hqy1, ?_⟩
    refine R_r (D_not rfl) ?_
    refine R_nil ?_
    refine R_cond_f rfl ?_
    refine R_skip ?_
    refine R_seq ?_
    refine R_seq ?_
    refine R_region ?_
    refine R_r (D_move rfl) ?_
    refine R_r (D_nilCheck rfl) ?_
    refine R_r (D_fieldAddr fa112_3 rfl) ?_
    refine R_r (D_load rfl (Has.mem hm) (Rd.one Tryz.isAgg110 rfl)) ?_
    refine R_r (D_lenL Tryz.underlying110 rfl) ?_
    refine R_r (D_move rfl) ?_
    refine R_nil ?_
    refine R_block ?_
    refine R_loopQ (σ := (Nat)) (fun gs => [(0, P_ b 0), (1, S p), (2, fv), (20, .slice ak x.kids.length ck), (21, I (x.kids.length : Int)), (22, I (gs : Int))]) (fun gs w => gs ≤ x.kids.length ∧ Q (1 + Node.sizeL (x.kids.take gs)) w) M (fun gs => x.kids.length - gs) 0 (fun gs w h => hr.lies _ _ h.2) (fun w hs => ⟨by omega, hr.kept _ _ _ hqy1 hs.kept⟩) (Env.sub_cons rfl <| Env.sub_cons rfl <| Env.sub_cons rfl <| Env.sub_cons rfl <| Env.sub_cons rfl <| Env.sub_cons rfl <| Env.sub_nil _) ?_
    rintro i wl1 ⟨hok, hql1⟩
    show Cx.R _ _ _ [(0, P_ b 0), (1, S p), (2, fv), (20, .slice ak x.kids.length ck), (21, I (x.kids.length : Int)), (22, I (i : Int))] M []
    replace hql1 : Q (1 + Node.sizeL (x.kids.take i)) wl1 := hql1
    refine R_seq ?_
    refine R_region ?_
    refine R_r (D_lt rfl rfl) ?_
    refine R_nil ?_
    refine R_seq ?_
    refine R_cond rfl (fun h1 => ?_) (fun h1 => ?_)
    ·
      have h1p := of_decide_eq_true h1
      refine R_skip ?_
      refine R_seq ?_
      refine R_block ?_
      refine R_seq ?_
      refine R_region ?_
      refine R_r (D_move rfl) ?_
      obtain ⟨b2, ob2, csb2, elb2, frb2, rfl, hmb2, hxb2⟩ := hbs.at (i := i) (by first | omega | (simp; omega))
      obtain ⟨x3, hx3⟩ : ∃ e_, bs[i]? = some e_ := ⟨_, List.getElem?_eq_getElem (by omega)⟩
      have hex3 := hxb2 i x3 hx3
      refine R_r (D_indexLn (i) Tryz.underlying110 Tryz.sizeOf34 rfl rfl (by first | rfl | omega) (by first | omega | (simp <;> omega))) ?_
      refine R_r (D_load rfl (Has.mem hmb2) (Rd.elem0 (i := i) hex3 Tryz.isAgg34 rfl rfl)) ?_
      refine R_r (D_assign rfl) ?_
      refine R_r (D_assign rfl) ?_
      refine R_nil ?_
      refine R_seq ?_
      refine R_region ?_
      refine R_r (D_move rfl) ?_
      refine R_r (D_move rfl) ?_
      refine R_r (D_move rfl) ?_
      refine R_r (D_nilCheck rfl) ?_
      refine R_r (D_fieldAddr fa112_2 rfl) ?_
      refine R_r (D_load rfl (Has.mem hm) (Rd.one Tryz.isAgg109 rfl)) ?_
      refine R_r (D_move rfl) ?_
      obtain ⟨b4, ob4, csb4, elb4, frb4, rfl, hmb4, hxb4⟩ := hsn.at (i := i) (by first | omega | (simp; omega))
      obtain ⟨x5, hx5⟩ : ∃ e_, (x.kids.map Node.name)[i]? = some e_ := ⟨_, List.getElem?_eq_getElem (by omega)⟩
      have hex5 := hxb4 i x5 hx5
      refine R_r (D_indexLn (i) Tryz.underlying109 Tryz.sizeOf9 rfl rfl (by first | rfl | omega) (by first | omega | (simp <;> omega))) ?_
      refine R_r (D_load rfl (Has.mem hmb4) (Rd.elem0 (i := i) hex5 Tryz.isAgg9 rfl rfl)) ?_
      obtain ⟨kk, hkk⟩ : ∃ k, x.kids[i]? = some k := ⟨_, List.getElem?_eq_getElem (by omega)⟩
      have hnn : x5 = kk.name := by have h_ := hx5; rw [List.getElem?_map, hkk] at h_; exact (Option.some.inj h_).symm
      have hkm := Node.wt_mem (List.mem_of_getElem? hkk)
      have hke := Node.wt_eq kk
      have hbl := belowP_len p kk.name
      rw [← hnn] at hke hbl
      refine R_o (E_callV (v := S (belowP p x5)) rfl rfl en125 (fun w hM => belowT_C p x5 M w hM (by omega) (by omega)) ?_)
      refine R_r (D_move rfl) ?_
      refine R_o (E_callQ (Q := fun w => Q (1 + Node.sizeL (x.kids.take i)) w) (Post := fun v w' => (v = .bool true ∧ Q (1 + Node.sizeL (x.kids.take i) + kk.size) w') ∨ (v = .bool false ∧ Qx w')) rfl rfl (fun w hs => hr.kept _ _ _ hql1 hs.kept) (fun w hq => .inl ⟨113, #[], rfl, en113, by have h_ := ih kk (Node.size_kid (List.mem_of_getElem? hkk)) x3 (belowP p x5) fv M (hps.2 _ _ _ hx3 hkk) (by omega) _ _ (hr.part (1 + Node.sizeL (x.kids.take i)) (fun j y hy => itemsV_part p hkk j y (by rw [hnn] at hy; exact hy))) w hq; rw [itemsV_len] at h_; exact h_⟩) (fun vy6 wy6 hpy6 => ?_))
      rcases hpy6 with hpy6 | hpy6
      ·
        obtain ⟨rfl, hqy6⟩ := hpy6
        refine ⟨M, hr.lies _ _ hqy6, ?_⟩
        refine R_r (D_not rfl) ?_
        refine R_nil ?_
        refine R_cond_f rfl ?_
        refine R_skip ?_
        refine R_region ?_
        refine R_r (D_add rfl rfl rfl (by omega) (by omega)) ?_
        refine R_r (D_move rfl) ?_
        refine R_nil ?_
        exact R_backQ (i + 1) (fun w hs => ⟨by first | omega | (show _; omega), by have hq_ := hr.kept _ _ _ hqy6 hs.kept; rw [take_snoc hkk, Node.sizeL_snoc, ← Nat.add_assoc]; exact hq_⟩) (by show x.kids.length - (i + 1) < x.kids.length - i; omega) (Env.sub_cons rfl <| Env.sub_cons rfl <| Env.sub_cons rfl <| Env.sub_cons rfl <| Env.sub_cons rfl <| Env.sub_cons rfl <| Env.sub_nil _)
      ·
        obtain ⟨rfl, hxy6⟩ := hpy6
        refine ⟨fun _ => none, lies_none _, ?_⟩
        refine R_r (D_not rfl) ?_
        refine R_nil ?_
        refine R_cond_t rfl ?_
        refine R_seq ?_
        refine R_region ?_
        refine R_r (D_assign rfl) ?_
        refine R_nil ?_
        refine R_ret ?_
        refine R_finQ1 rfl rfl ?_
        exact fun w hs => ⟨_, rfl, .inr ⟨rfl, hr.keptx _ _ hxy6 hs.kept⟩⟩
    ·
      have h1p := of_decide_eq_false h1
      refine R_exit rfl ?_
      refine R_seq ?_
      refine R_region ?_
      refine R_r (D_assign rfl) ?_
      refine R_nil ?_
      refine R_ret ?_
      refine R_finQ1 rfl rfl ?_
      exact fun w hs => ⟨_, rfl, .inl ⟨rfl, by have hq_ := hr.kept _ _ _ hql1 hs.kept; rw [itemsV_len, hxs]; rw [List.take_of_length_le (by omega)] at hq_; exact hq_⟩⟩
  ·
    obtain ⟨rfl, hxy1⟩ := hpy1
    refine ⟨fun _ => none, lies_none _, ?_⟩
    refine R_r (D_not rfl) ?_
    refine R_nil ?_
    refine R_cond_t rfl ?_
    refine R_seq ?_
    refine R_region ?_
    refine R_r (D_assign rfl) ?_
    refine R_nil ?_
    refine R_ret ?_
    refine R_finQ1 rfl rfl ?_
    exact fun w hs => ⟨_, rfl, .inr ⟨rfl, hr.keptx _ _ hxy1 hs.kept⟩⟩

theorem walk_F : ∀ (x : Node) (b : Nat) (p : Str) (fv : Value) (M : PMem), TreeAt M b x → p.length + Node.wtL x.kids ≤ 1073741824 → Feeds Tryz.prog M 113 [P_ b 0, S p, fv] fv (itemsV x p) (fun v b => v = .bool b) := by
  have key : ∀ n, ∀ x : Node, x.size = n → ∀ (b : Nat) (p : Str) (fv : Value) (M : PMem), TreeAt M b x → p.length + Node.wtL x.kids ≤ 1073741824 → Feeds Tryz.prog M 113 [P_ b 0, S p, fv] fv (itemsV x p) (fun v b => v = .bool b) := by
    intro n
    induction n using Nat.strongRecOn with
    | _ n ihn =>
      intro x hn b p fv M hb hpw Q Qx hr W hq
      exact walk_S x b p fv M hb hpw (fun k hk => ihn k.size (by omega) k rfl) Q Qx hr W hq
  exact fun x => key _ x rfl

theorem All1_F (x : Node) (b bx el0 : Nat) (fr0 : Nat × Nat) (fv : Value) (M : PMem) (hbx : M bx = some (.cells (List.toArray [P_ b 0]) el0 fr0)) (hb : TreeAt M b x) (hpw : Node.wtL x.kids ≤ 1073741824) (Q : Nat → World → Prop) (Qx : World → Prop) (hr : Rounds Tryz.prog M fv (itemsV x []) Q Qx) (W : World) (hq0 : Q 0 W) : Calls Tryz.prog 112 [fv, P_ bx 0].toArray W (fun e W' => ∃ v, e = .returned v ∧ ((True ∧ Q (itemsV x []).length W') ∨ (True ∧ Qx W'))) := by
  refine calls_enterQ Tryz.func112 rfl Tryz.ntmps112 rfl (hr.lies _ _ hq0) ?_
  refine R_region ?_
  refine R_r (D_load rfl (Has.mem hbx) (Rd.one Tryz.isAgg34 rfl)) ?_
  refine R_r (D_move rfl) ?_
  refine R_o (E_callQ (Q := fun w => Q 0 w) (Post := fun v w' => (v = .bool true ∧ Q (itemsV x []).length w') ∨ (v = .bool false ∧ Qx w')) rfl rfl (fun w hs => hr.kept _ _ _ hq0 hs.kept) (fun w hq => .inl ⟨113, #[], rfl, en113, walk_F x b [] fv M hb (by simp; omega) _ _ hr w hq⟩) (fun vy1 wy1 hpy1 => ?_))
  rcases hpy1 with hpy1 | hpy1
  ·
    obtain ⟨rfl, hqy1⟩ := hpy1
    refine ⟨M, hr.lies _ _ hqy1, ?_⟩
    refine R_nil ?_
    refine R_finQ0 rfl ?_
    exact fun w hs => ⟨_, rfl, .inl ⟨trivial, by have hq_ := hr.kept _ _ _ hqy1 hs.kept; exact hq_⟩⟩
  ·
    obtain ⟨rfl, hxy1⟩ := hpy1
    refine ⟨fun _ => none, lies_none _, ?_⟩
    refine R_nil ?_
    refine R_finQ0 rfl ?_
    exact fun w hs => ⟨_, rfl, .inr ⟨trivial, hr.keptx _ _ hxy1 hs.kept⟩⟩

theorem All_C (x : Node) (b : Nat) (M : PMem) (w : World) (hM : Lies M w) (hb : TreeAt M b x) (hpw : Node.wtL x.kids ≤ 1073741824) : Ends Tryz.prog 88 [P_ b 0] w [] M (fun v M' H' => H' = [] ∧ ∃ bx, v = .func (.func 112) #[] #[P_ bx 0] ∧ Iter Tryz.prog M' 112 [P_ bx 0] (itemsV x [])) := by
  refine Ends.enter (H := []) Tryz.func88 rfl Tryz.ntmps88 rfl (St.start hM) ?_
  refine R_seq ?_
  refine R_region ?_
  refine R_o (E_box [P_ b 0] rfl rfl (fun b1 => ?_))
  refine R_r (D_assign rfl) ?_
  refine R_nil ?_
  refine R_seq ?_
  refine R_region ?_
  refine R_r (D_makeFunc rfl) ?_
  refine R_r (D_assign rfl) ?_
  refine R_nil ?_
  refine R_ret ?_
  refine R_freeze (fun hlef2 hmf2 => ?_)
  have q3 := TreeAt.le hlef2 hb
  refine R_fin1 rfl rfl ?_
  exact ⟨rfl, b1, rfl, fun fv Q Qx hr W hq => All1_F x b b1 _ _ fv _ hmf2 q3 hpw Q Qx hr W hq⟩

end Go.Proofs.YtgmomhdammdjgaaGreat
