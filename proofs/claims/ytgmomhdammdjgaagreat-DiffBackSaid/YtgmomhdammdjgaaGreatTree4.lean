/-
  A tree with another subtree at names (with, Put), walked. Conditions: trees of at most 2^30 parts; a name that is not there comes last.
-/
import Derived.Test.YtgmomhdammdjgaaGreatLib
set_option linter.unusedVariables false
set_option linter.unusedSimpArgs false
set_option maxRecDepth 20000
set_option maxHeartbeats 4000000
namespace Go.Proofs.YtgmomhdammdjgaaGreat
open Go Go.Proofs Go.RowKit

theorem en137 : ∀ (args : Array Value) (w : World), (callFunc 137 args).run Tryz.prog w = .ok (.enter 137 args) w := enters_fn Tryz.func137 (by kernel_rfl) rfl
theorem en136 : ∀ (args : Array Value) (w : World), (callFunc 136 args).run Tryz.prog w = .ok (.enter 136 args) w := enters_fn Tryz.func136 (by kernel_rfl) rfl
theorem made_K (v : Val) (m : Marks) (ks : List Node) (an : Option Addr) (n1 cn : Nat) (ak : Option Addr) (n2 ck : Nat) (h1 : n1 = (ks.map Node.name).length) (h2 : n2 = ks.length) (M : PMem) (w : World) (hM : Lies M w) (hcn : (ks.map Node.name).length ≤ cn) (hsn : SlA M 1 (byEnc fun s : Str => [S s]) an (ks.map Node.name)) (hck : ks.length ≤ ck) (huk : SubA M ak ks) (hsz : Node.sizeL ks ≤ 2147483648) :
    Ends Tryz.prog 104 [Val.val v, Marks.val m, .slice an n1 cn, .slice ak n2 ck] w [] M (fun v' M' H' => H' = [] ∧ ∃ b, v' = P_ b 0 ∧ TreeAt M' b (Node.mk [] v m ks)) := by
  subst h1 h2
  exact made_C v m ks an cn ak ck M w hM hcn hsn hck huk hsz

theorem with_S (x : Node) (b : Nat) (l : List Str) (a : Option Addr) (c : Nat) (bs : Nat) (y : Node) (M : PMem) (w : World) (hM : Lies M w) (hb : TreeAt M b x) (hrx : Node.Ris x) (hc : l.length ≤ c) (hl : SlA M 1 (byEnc fun s : Str => [S s]) a l) (hll : l.length ≤ 4294967296) (hy : TreeAt M bs y) (hadd : Addable x l) (hsz : Node.sizeL x.kids + y.size ≤ 2147483648) (ih : 0 < l.length → ∀ (k : Node) (b : Nat) (a : Option Addr) (c : Nat) (M : PMem) (w : World) (hM : Lies M w) (hb : TreeAt M b k) (hrx : Node.Ris k) (hc : (l.drop 1).length ≤ c) (hl : SlA M 1 (byEnc fun s : Str => [S s]) a (l.drop 1)) (hll : (l.drop 1).length ≤ 4294967296) (hy : TreeAt M bs y) (hadd : Addable k (l.drop 1)) (hsz : Node.sizeL k.kids + y.size ≤ 2147483648), Ends Tryz.prog 137 [P_ b 0, .slice a (l.drop 1).length c, P_ bs 0] w [] M (fun v M' H' => H' = [] ∧ ∃ b', v = P_ b' 0 ∧ TreeAt M' b' (withN k (l.drop 1) y))) : Ends Tryz.prog 137 [P_ b 0, .slice a l.length c, P_ bs 0] w [] M (fun v M' H' => H' = [] ∧ ∃ b', v = P_ b' 0 ∧ TreeAt M' b' (withN x l y)) := by
  have hkl := Node.len_sizeL x.kids
  have hnl : (x.kids.map Node.name).length = x.kids.length := by simp
  have hys := Node.size_eq y
  have hxs := Node.size_eq x
  refine Ends.enter (H := []) Tryz.func137 rfl Tryz.ntmps137 rfl (St.start hM) ?_
  refine R_seq ?_
  refine R_region ?_
  refine R_r (D_assign rfl) ?_
  refine R_nil ?_
  refine R_seq ?_
  refine R_seq ?_
  refine R_region ?_
  refine R_r (D_move rfl) ?_
  refine R_r (D_lenL Tryz.underlying109 rfl) ?_
  refine R_r (D_eq rfl rfl) ?_
  refine R_nil ?_
  refine R_cond rfl (fun h1 => ?_) (fun h1 => ?_)
  ·
    have h1p := of_decide_eq_true h1
    obtain rfl : l = [] := List.eq_nil_of_length_eq_zero (by omega)
    refine R_seq ?_
    refine R_region ?_
    refine R_r (D_move rfl) ?_
    refine R_r (D_assign rfl) ?_
    refine R_nil ?_
    refine R_ret ?_
    refine R_fin1 rfl rfl ?_
    exact ⟨rfl, bs, rfl, hy.named _⟩
  ·
    have h1p := of_decide_eq_false h1
    refine R_skip ?_
    refine R_seq ?_
    refine Y_region [] mixed ?_
    refine Y_r 0 rfl (D_move rfl) ?_
    refine Y_r 1 rfl (D_nilCheck rfl) ?_
    refine Y_r 2 rfl (D_fieldAddr fa112_2 rfl) ?_
    obtain ⟨ano1, cno1, ako1, cko1, elo1, fro1, hmo1, hcno1, hsno1, hcko1, hsko1⟩ := (hb).open
    refine Y_r 3 rfl (D_load rfl (Has.mem hmo1) (Rd.one Tryz.isAgg109 rfl)) ?_
    refine Y_r 5 rfl (D_move rfl) ?_
    refine Y_r 6 rfl (D_nilCheck rfl) ?_
    refine Y_r 7 rfl (D_fieldAddr fa112_3 rfl) ?_
    refine Y_r 8 rfl (D_load rfl (Has.mem hmo1) (Rd.one Tryz.isAgg110 rfl)) ?_
    refine Y_o 4 rfl (E_callP rfl rfl en147 (fun w hM => CloneS_C (x.kids.map Node.name) ano1 cno1 M w hM (by omega) hsno1 (by omega)) (fun vr2 Mr2 Hr2 hler2 hpr2 => ?_)) (PMem.le_refl _) (fun _ h => List.Sublist.subset (.slnil) h)
    obtain ⟨hMMr2, rfl⟩ := hpr2
    have hMsr2 := hMMr2.symm; subst hMsr2; clear hler2
    refine Y_go _ (PMem.le_refl _) (fun _ h => List.Sublist.subset (.cons _ (.slnil)) h) (fun _ h => h) ?_
    refine Y_o 9 rfl (E_callP rfl rfl en148 (fun w hM => CloneT_K x.kids ako1 cko1 M w hM (by omega) hsko1 (by omega)) (fun vr3 Mr3 Hr3 hler3 hpr3 => ?_)) (PMem.le_refl _) (fun _ h => List.Sublist.subset (.cons _ (.slnil)) h)
    obtain ⟨hMMr3, bsr3, hpsr3, rfl⟩ := hpr3
    have hMsr3 := hMMr3.symm; subst hMsr3; clear hler3
    refine Y_go _ (PMem.le_refl _) (fun _ h => List.Sublist.subset (.cons _ (.cons _ (.slnil))) h) (fun _ h => h) ?_
    refine Y_r 10 rfl (D_assign rfl) ?_
    refine Y_r 11 rfl (D_assign rfl) ?_
    refine Y_nil ?_ (PMem.le_refl _) (fun _ h => List.Sublist.subset (.cons _ (.cons _ (.slnil))) h)
    refine R_seq ?_
    refine R_region ?_
    refine R_r (D_move rfl) ?_
    refine R_r (D_move rfl) ?_
    obtain ⟨b4, ob4, csb4, elb4, frb4, rfl, hmb4, hxb4⟩ := hl.at (i := 0) (by first | omega | (simp; omega))
    obtain ⟨x5, hx5⟩ : ∃ e_, l[0]? = some e_ := ⟨_, List.getElem?_eq_getElem (by omega)⟩
    have hex5 := hxb4 0 x5 hx5
    refine R_r (D_indexLn (0) Tryz.underlying109 Tryz.sizeOf9 rfl rfl (by first | rfl | omega) (by first | omega | (simp <;> omega))) ?_
    refine R_r (D_load rfl (Has.mem hmb4) (Rd.elem0 (i := 0) hex5 Tryz.isAgg9 rfl rfl)) ?_
    refine R_o (E_callPure (v := .tuple #[I (bsI (x.kids.map Node.name) x5 : Int), .bool (bsF (x.kids.map Node.name) x5)]) rfl rfl en121 (fun w hs => by obtain ⟨M1, a1, c1, _, hL, hv, hc1, hs1⟩ := hs.lendRow (enc := fun q : Str => [S q]) (l := (x.kids.map Node.name)) (i := 1) rfl (fun _ => rfl) Nat.one_pos; subst hv; exact ⟨M1, BinarySearch_C (x.kids.map Node.name) a1 c1 x5 M1 w hL hc1 hs1 (by rw [List.length_map]; omega) hrx.rise⟩) ?_)
    refine R_r (D_move rfl) ?_
    refine R_r (D_extract rfl rfl) ?_
    refine R_r (D_extract rfl rfl) ?_
    refine R_r (D_assign rfl) ?_
    refine R_r (D_assign rfl) ?_
    refine R_nil ?_
    refine R_seq ?_
    refine R_seq ?_
    refine R_region ?_
    refine R_r (D_move rfl) ?_
    refine R_r (D_not rfl) ?_
    refine R_nil ?_
    refine R_cond rfl (fun h2 => ?_) (fun h2 => ?_)
    ·
      have hkn : kidOf x x5 = none := by rw [kidOf, if_neg (by simpa using h2)]
      obtain ⟨hd1, hbi⟩ := Addable_none hx5 hkn hadd
      refine R_perm (H' := [.row vr2 9 1 ((x.kids.map Node.name).length) ((x.kids.map Node.name).flatMap (fun q : Str => [S q])), .row vr3 34 1 bsr3.length (bsr3.flatMap fun b => [P_ b 0])]) (perm_front (l := ([.row vr3 34 1 bsr3.length (bsr3.flatMap fun b => [P_ b 0]), .row vr2 9 1 ((x.kids.map Node.name).length) ((x.kids.map Node.name).flatMap (fun q : Str => [S q]))] : List Res)) 1 rfl) ?_
      refine R_rowShape (fun ads6 caps6 hvs6 hcaps6 => ?_)
      subst hvs6
      refine R_perm (H' := [.row vr3 34 1 bsr3.length (bsr3.flatMap fun b => [P_ b 0]), .row (.slice ads6 ((x.kids.map Node.name).length) caps6) 9 1 ((x.kids.map Node.name).length) ((x.kids.map Node.name).flatMap (fun q : Str => [S q]))]) (perm_front (l := ([.row (.slice ads6 ((x.kids.map Node.name).length) caps6) 9 1 ((x.kids.map Node.name).length) ((x.kids.map Node.name).flatMap (fun q : Str => [S q])), .row vr3 34 1 bsr3.length (bsr3.flatMap fun b => [P_ b 0])] : List Res)) 1 rfl) ?_
      refine R_rowShape (fun ads7 caps7 hvs7 hcaps7 => ?_)
      subst hvs7
      have hbiS : (bsI (x.kids.map Node.name) x5 : Int) = ((x.kids.map Node.name).length : Int) := by rw [hbi, List.length_map]
      have hbiT : (bsI (x.kids.map Node.name) x5 : Int) = (bsr3.length : Int) := by rw [hbi, hpsr3.1]
      refine R_region ?_
      refine R_r (D_move rfl) ?_
      refine R_r (D_move rfl) ?_
      refine R_r (D_move rfl) ?_
      refine R_r (D_indexLn (0) Tryz.underlying109 Tryz.sizeOf9 rfl rfl (by first | rfl | omega) (by first | omega | (simp <;> omega))) ?_
      refine R_r (D_load rfl (Has.mem hmb4) (Rd.elem0 (i := 0) hex5 Tryz.isAgg9 rfl rfl)) ?_
      refine R_o (E_buildSlice (ps := [(0, .tmp 40)]) (vs := [(0, S x5)]) (cs := [S x5]) rfl (bs109_1_str _) (fun b8 => ?_))
      refine R_freeze (fun hlef9 hmf9 => ?_)
      have q10 := TreeAt.le hlef9 hb
      have q11 := SlA.le hl hlef9
      have q12 := TreeAt.le hlef9 hy
      have q13 := hlef9 _ _ hmo1
      have q14 := SlA.le hsno1 hlef9
      have q15 := SubA.le hsko1 hlef9
      have q16 := hlef9 _ _ hmb4
      have g18 : SlA (PMem.add M b8 (.cells (List.toArray [S x5]) 9)) 1 (byEnc (fun q : Str => [S q])) (some ⟨b8, 0, none⟩) ([x5] : List Str) := .inr ⟨b8, 0, _, _, _, rfl, hmf9, fun i x hi => by cases i with | zero => (simp at hi; subst hi; rfl) | succ i => simp at hi⟩
      refine R_o (E_callH1 1 rfl rfl rfl en149 (fun w hM hr hf => by have h_ := InsertS_S ads6 ((x.kids.map Node.name).length) caps6 ((x.kids.map Node.name).flatMap (fun q : Str => [S q])) x5 (some ⟨b8, 0, none⟩) 1 (PMem.add M b8 (.cells (List.toArray [S x5]) 9)) w hM hr hf hcaps6 (by have hq := hkl; simp; omega) g18; rw [← hbiS] at h_; exact h_) (fun vr19 Mr19 Hr19 hler19 hpr19 => ?_))
      obtain ⟨hMMr19, rfl⟩ := hpr19
      have hMsr19 := hMMr19.symm; subst hMsr19; clear hler19
      refine R_r (D_move rfl) ?_
      refine R_r (D_move rfl) ?_
      refine R_r (D_move rfl) ?_
      refine R_o (E_buildSlice (ps := [(0, .tmp 45)]) (vs := [(0, P_ bs 0)]) (cs := [P_ bs 0]) rfl (bs110_1_ptr _) (fun b20 => ?_))
      refine R_freeze (fun hlef21 hmf21 => ?_)
      have q22 := TreeAt.le hlef21 q10
      have q23 := SlA.le q11 hlef21
      have q24 := TreeAt.le hlef21 q12
      have q25 := hlef21 _ _ q13
      have q26 := SlA.le q14 hlef21
      have q27 := SubA.le q15 hlef21
      have q28 := hlef21 _ _ q16
      have q30 := hlef21 _ _ hmf9
      have q31 := SlA.le g18 hlef21
      have g32 : SlA (PMem.add (PMem.add M b8 (.cells (List.toArray [S x5]) 9)) b20 (.cells (List.toArray [P_ bs 0]) 34)) 1 (byEnc (fun b : Nat => [P_ b 0])) (some ⟨b20, 0, none⟩) ([bs] : List Nat) := .inr ⟨b20, 0, _, _, _, rfl, hmf21, fun i x hi => by cases i with | zero => (simp at hi; subst hi; rfl) | succ i => simp at hi⟩
      refine R_o (E_callH1 1 rfl rfl rfl en150 (fun w hM hr hf => by have h_ := InsertT_S ads7 bsr3.length caps7 (bsr3.flatMap fun b => [P_ b 0]) bs (some ⟨b20, 0, none⟩) 1 (PMem.add (PMem.add M b8 (.cells (List.toArray [S x5]) 9)) b20 (.cells (List.toArray [P_ bs 0]) 34)) w hM hr hf hcaps7 (by have hq := hkl; simp; omega) g32; rw [← hbiT] at h_; exact h_) (fun vr33 Mr33 Hr33 hler33 hpr33 => ?_))
      obtain ⟨hMMr33, rfl⟩ := hpr33
      have hMsr33 := hMMr33.symm; subst hMsr33; clear hler33
      refine R_r (D_assign rfl) ?_
      refine R_r (D_assign rfl) ?_
      refine R_nil ?_
      refine R_seq ?_
      refine R_perm (H' := [.row vr19 9 1 ((x.kids.map Node.name).length + 1) (((x.kids.map Node.name).flatMap (fun q : Str => [S q])) ++ (fun q : Str => [S q]) x5), .row vr33 34 1 (bsr3.length + 1) ((bsr3.flatMap fun b => [P_ b 0]) ++ (fun b : Nat => [P_ b 0]) bs)]) (perm_front (l := ([.row vr33 34 1 (bsr3.length + 1) ((bsr3.flatMap fun b => [P_ b 0]) ++ (fun b : Nat => [P_ b 0]) bs), .row vr19 9 1 ((x.kids.map Node.name).length + 1) (((x.kids.map Node.name).flatMap (fun q : Str => [S q])) ++ (fun q : Str => [S q]) x5)] : List Res)) 1 rfl) ?_
      refine R_rowShape (fun ads34 caps34 hvs34 hcaps34 => ?_)
      subst hvs34
      refine R_perm (H' := [.row vr33 34 1 (bsr3.length + 1) ((bsr3.flatMap fun b => [P_ b 0]) ++ (fun b : Nat => [P_ b 0]) bs), .row (.slice ads34 ((x.kids.map Node.name).length + 1) caps34) 9 1 ((x.kids.map Node.name).length + 1) (((x.kids.map Node.name).flatMap (fun q : Str => [S q])) ++ (fun q : Str => [S q]) x5)]) (perm_front (l := ([.row (.slice ads34 ((x.kids.map Node.name).length + 1) caps34) 9 1 ((x.kids.map Node.name).length + 1) (((x.kids.map Node.name).flatMap (fun q : Str => [S q])) ++ (fun q : Str => [S q]) x5), .row vr33 34 1 (bsr3.length + 1) ((bsr3.flatMap fun b => [P_ b 0]) ++ (fun b : Nat => [P_ b 0]) bs)] : List Res)) 1 rfl) ?_
      refine R_rowShape (fun ads35 caps35 hvs35 hcaps35 => ?_)
      subst hvs35
      refine R_perm (H' := [.row (.slice ads34 ((x.kids.map Node.name).length + 1) caps34) 9 1 ((x.kids.map Node.name).length + 1) (((x.kids.map Node.name).flatMap (fun q : Str => [S q])) ++ (fun q : Str => [S q]) x5), .row (.slice ads35 (bsr3.length + 1) caps35) 34 1 (bsr3.length + 1) ((bsr3.flatMap fun b => [P_ b 0]) ++ (fun b : Nat => [P_ b 0]) bs)]) (perm_front (l := ([.row (.slice ads35 (bsr3.length + 1) caps35) 34 1 (bsr3.length + 1) ((bsr3.flatMap fun b => [P_ b 0]) ++ (fun b : Nat => [P_ b 0]) bs), .row (.slice ads34 ((x.kids.map Node.name).length + 1) caps34) 9 1 ((x.kids.map Node.name).length + 1) (((x.kids.map Node.name).flatMap (fun q : Str => [S q])) ++ (fun q : Str => [S q]) x5)] : List Res)) 1 rfl) ?_
      refine R_freezeRow (fun M36 hleM36 hrowM36 => ?_)
      have q37 := TreeAt.le hleM36 q22
      have q38 := SlA.le q23 hleM36
      have q39 := TreeAt.le hleM36 q24
      have q40 := hleM36 _ _ q25
      have q41 := SlA.le q26 hleM36
      have q42 := SubA.le q27 hleM36
      have q43 := hleM36 _ _ q28
      have q45 := hleM36 _ _ q30
      have q46 := SlA.le q31 hleM36
      have q47 := hleM36 _ _ hmf21
      have q48 := SlA.le g32 hleM36
      refine R_freezeRow (fun M49 hleM49 hrowM49 => ?_)
      have q50 := TreeAt.le hleM49 q37
      have q51 := SlA.le q38 hleM49
      have q52 := TreeAt.le hleM49 q39
      have q53 := hleM49 _ _ q40
      have q54 := SlA.le q41 hleM49
      have q55 := SubA.le q42 hleM49
      have q56 := hleM49 _ _ q43
      have q58 := hleM49 _ _ q45
      have q59 := SlA.le q46 hleM49
      have q60 := hleM49 _ _ q47
      have q61 := SlA.le q48 hleM49
      have hyn : TreeAt M49 bs (y.named x5) := q52.named _
      have hpz : PtrsIs M49 (bsr3 ++ [bs]) (x.kids ++ [y.named x5]) := (hpsr3.le (PMem.le_trans (PMem.le_trans (PMem.le_trans hlef9 hlef21) hleM36) hleM49)).snoc hyn
      have hnz : (x.kids ++ [y.named x5]).map Node.name = (x.kids.map Node.name) ++ [x5] := by simp [Node.named, Node.name]
      have hfs : ((x.kids.map Node.name).flatMap (fun q : Str => [S q])) ++ (fun q : Str => [S q]) x5 = ((x.kids ++ [y.named x5]).map Node.name).flatMap (fun q : Str => [S q]) := by rw [hnz, List.flatMap_append]; simp
      have hft : (bsr3.flatMap (fun b : Nat => [P_ b 0])) ++ (fun b : Nat => [P_ b 0]) bs = (bsr3 ++ [bs]).flatMap (fun b : Nat => [P_ b 0]) := by simp
      rw [hfs] at hrowM36; rw [hft] at hrowM49
      have hwz : 1 + Node.sizeL (x.kids ++ [y.named x5]) ≤ x.size + y.size := by have h_ := withN_size l x y; rw [withN_none hx5 hkn] at h_; exact h_
      obtain ⟨a1, c1, hv1, hc1, hs1⟩ := hrowM36.sla (l := (x.kids ++ [y.named x5]).map Node.name) (enc := (fun q : Str => [S q])) (fun _ => rfl) (by omega)
      obtain ⟨e1, e2, e3⟩ := slice_inj hv1; subst e1; subst e3
      replace hs1 := hs1.le hleM49
      obtain ⟨e4, hc2, hs2⟩ := hrowM49.subs' hpz
      refine Y_region [] mixed ?_
      refine Y_r 0 rfl (D_move rfl) ?_
      refine Y_r 1 rfl (D_nilCheck rfl) ?_
      refine Y_r 2 rfl (D_fieldAddr fa112_0 rfl) ?_
      refine Y_r 3 rfl (D_load rfl (Has.mem q53) (rd24_TreeC_0 (⟨x.value, x.marks, .slice ano1 ((x.kids.map Node.name).length) cno1, .slice ako1 x.kids.length cko1, ((1 + Node.sizeL x.kids : Nat) : Int), ((Node.depthL x.kids : Nat) : Int)⟩ : TreeC))) ?_
      refine Y_r 4 rfl (D_move rfl) ?_
      refine Y_r 5 rfl (D_nilCheck rfl) ?_
      refine Y_r 6 rfl (D_fieldAddr fa112_1 rfl) ?_
      refine Y_r 7 rfl (D_load rfl (Has.mem q53) (rd27_TreeC_35 (⟨x.value, x.marks, .slice ano1 ((x.kids.map Node.name).length) cno1, .slice ako1 x.kids.length cko1, ((1 + Node.sizeL x.kids : Nat) : Int), ((Node.depthL x.kids : Nat) : Int)⟩ : TreeC))) ?_
      refine Y_r 8 rfl (D_move rfl) ?_
      refine Y_r 9 rfl (D_move rfl) ?_
      refine Y_o 10 rfl (E_callP rfl rfl en104 (fun w hM => made_K x.value x.marks (x.kids ++ [y.named x5]) ads34 ((x.kids.map Node.name).length + 1) caps34 ads35 (bsr3.length + 1) caps35 e2 e4 M49 w hM hc1 hs1 hc2 hs2 (by omega)) (fun vr62 Mr62 Hr62 hler62 hpr62 => ?_)) (PMem.le_refl _) (fun _ h => List.Sublist.subset (.slnil) h)
      have q63 := TreeAt.le hler62 q50
      have q64 := SlA.le q51 hler62
      have q65 := TreeAt.le hler62 q52
      have q66 := hler62 _ _ q53
      have q67 := SlA.le q54 hler62
      have q68 := SubA.le q55 hler62
      have q69 := hler62 _ _ q56
      have q71 := hler62 _ _ q58
      have q72 := SlA.le q59 hler62
      have q73 := hler62 _ _ q60
      have q74 := SlA.le q61 hler62
      obtain ⟨rfl, br62, rfl, htr62⟩ := hpr62
      refine Y_go _ hler62 (fun _ h => List.Sublist.subset (.slnil) h) (fun _ h => h) ?_
      refine Y_r 11 rfl (D_assign rfl) ?_
      refine Y_nil ?_ (PMem.le_refl _) (fun _ h => List.Sublist.subset (.slnil) h)
      refine R_ret ?_
      refine R_fin1 rfl rfl ?_
      exact ⟨rfl, _, rfl, by rw [withN_none hx5 hkn]; exact htr62.anon _⟩
    ·
      have hbf : bsF (x.kids.map Node.name) x5 = true := by simpa using h2
      have hbl := bsF_lt hbf
      rw [List.length_map] at hbl
      obtain ⟨kk, hkk⟩ : ∃ k, kidOf x x5 = some k := by rw [kidOf, if_pos hbf]; exact ⟨_, List.getElem?_eq_getElem hbl⟩
      obtain ⟨_, hki, hkn⟩ := kidOf_some hkk
      have hkm := Node.size_mem (kidOf_mem hkk)
      have hke := Node.size_eq kk
      have hwz := withN_size (l.drop 1) kk y
      refine R_seq ?_
      have hpsl := hpsr3.1
      refine R_openRow (fun _ h0 _ => absurd h0 (by omega)) (fun boo capo cso hvo hnco hcmo hcso htso => ?_)
      subst hvo
      obtain ⟨bq, hbq⟩ : ∃ b_, bsr3[bsI (x.kids.map Node.name) x5]? = some b_ := ⟨_, List.getElem?_eq_getElem (by omega)⟩
      have hcell := take_flat_at htso hbq (by omega)
      have htq := (hpsr3.le (PMem.le_refl _)).2 _ _ _ hbq hki
      refine Y_region [.blk boo (.cells (List.toArray cso) 34)] mixed ?_
      refine Y_r 0 rfl (D_move rfl) ?_
      refine Y_r 1 rfl (D_move rfl) ?_
      refine Y_r 2 rfl (D_indexLn (bsI (x.kids.map Node.name) x5) Tryz.underlying110 Tryz.sizeOf34 rfl rfl rfl (by omega)) ?_
      refine Y_r 3 rfl (D_load rfl (Has.own 0 rfl) (Rd.one Tryz.isAgg34 hcell)) ?_
      refine Y_r 4 rfl (D_move rfl) ?_
      have t75 := SlA.drop hl (show l.length ≤ c from hc) 1
      refine Y_r 5 rfl (D_sliceLk (m := (l.drop 1).length) 1 Tryz.underlying109 Tryz.sizeOf9 rfl rfl (by rw [List.length_drop]) (by omega) (by omega)) ?_
      refine Y_r 6 rfl (D_move rfl) ?_
      refine Y_o 7 rfl (E_callP rfl rfl en137 (fun w hM => ih (by omega) kk bq _ _ M w hM htq (hrx.kid (kidOf_mem hkk)) (by rw [List.length_drop]; omega) t75 (by rw [List.length_drop]; omega) hy (Addable_some hx5 hkk hadd) (by omega)) (fun vr76 Mr76 Hr76 hler76 hpr76 => ?_)) (PMem.le_refl _) (fun _ h => List.Sublist.subset (.cons_cons _ (.cons _ (.slnil))) h)
      have q77 := TreeAt.le hler76 hb
      have q78 := SlA.le hl hler76
      have q79 := TreeAt.le hler76 hy
      have q80 := hler76 _ _ hmo1
      have q81 := SlA.le hsno1 hler76
      have q82 := SubA.le hsko1 hler76
      have q83 := hler76 _ _ hmb4
      have q85 := TreeAt.le hler76 htq
      have q86 := SlA.le t75 hler76
      obtain ⟨rfl, br76, rfl, htr76⟩ := hpr76
      refine Y_go _ hler76 (fun _ h => List.Sublist.subset (.cons_cons _ (.cons _ (.slnil))) h) (fun _ h => h) ?_
      refine Y_r 8 rfl (D_assign rfl) ?_
      refine Y_nil ?_ (PMem.le_refl _) (fun _ h => List.Sublist.subset (.cons_cons _ (.cons _ (.slnil))) h)
      refine R_seq ?_
      refine R_region ?_
      refine R_r (D_move rfl) ?_
      refine R_r (D_ptrNotNil Tryz.underlying34 rfl) ?_
      refine R_nil ?_
      refine R_cond_t rfl ?_
      refine R_region ?_
      refine R_r (D_move rfl) ?_
      refine R_r (D_move rfl) ?_
      refine R_r (D_move rfl) ?_
      refine R_r (D_indexLn (bsI (x.kids.map Node.name) x5) Tryz.underlying110 Tryz.sizeOf34 rfl rfl rfl (by omega)) ?_
      refine R_o (E_store (cs' := (cso.set (0 + (bsI (x.kids.map Node.name) x5) * 1) (P_ br76 0))) 0 rfl rfl rfl (Wr.one Tryz.sizeOf34 rfl rfl (by rw [hcso]; exact Nat.ble_eq_true_of_le (by omega))) ?_)
      refine R_nil ?_
      refine R_seq ?_
      refine R_closeRow hnco hcmo (by rw [List.length_set]; exact hcso) (take_set_flat htso (by omega)) ?_
      refine R_perm (H' := [.row vr2 9 1 ((x.kids.map Node.name).length) ((x.kids.map Node.name).flatMap (fun q : Str => [S q])), .row (.slice (some ⟨boo, 0, none⟩) bsr3.length capo) 34 1 bsr3.length ((bsr3.set (bsI (x.kids.map Node.name) x5) br76).flatMap fun b => [P_ b 0])]) (perm_front (l := ([.row (.slice (some ⟨boo, 0, none⟩) bsr3.length capo) 34 1 bsr3.length ((bsr3.set (bsI (x.kids.map Node.name) x5) br76).flatMap fun b => [P_ b 0]), .row vr2 9 1 ((x.kids.map Node.name).length) ((x.kids.map Node.name).flatMap (fun q : Str => [S q]))] : List Res)) 1 rfl) ?_
      refine R_rowShape (fun ads87 caps87 hvs87 hcaps87 => ?_)
      subst hvs87
      refine R_freezeRow (fun M88 hleM88 hrowM88 => ?_)
      have q89 := TreeAt.le hleM88 q77
      have q90 := SlA.le q78 hleM88
      have q91 := TreeAt.le hleM88 q79
      have q92 := hleM88 _ _ q80
      have q93 := SlA.le q81 hleM88
      have q94 := SubA.le q82 hleM88
      have q95 := hleM88 _ _ q83
      have q97 := TreeAt.le hleM88 q85
      have q98 := SlA.le q86 hleM88
      have q99 := TreeAt.le hleM88 htr76
      refine R_freezeRow (fun M100 hleM100 hrowM100 => ?_)
      have q101 := TreeAt.le hleM100 q89
      have q102 := SlA.le q90 hleM100
      have q103 := TreeAt.le hleM100 q91
      have q104 := hleM100 _ _ q92
      have q105 := SlA.le q93 hleM100
      have q106 := SubA.le q94 hleM100
      have q107 := hleM100 _ _ q95
      have q109 := TreeAt.le hleM100 q97
      have q110 := SlA.le q98 hleM100
      have q111 := TreeAt.le hleM100 q99
      have hpz : PtrsIs M100 (bsr3.set (bsI (x.kids.map Node.name) x5) br76) (x.kids.set (bsI (x.kids.map Node.name) x5) (withN kk (l.drop 1) y)) := (hpsr3.le (PMem.le_trans (PMem.le_trans hler76 hleM88) hleM100)).set q111
      have hnz : (x.kids.set (bsI (x.kids.map Node.name) x5) (withN kk (l.drop 1) y)).map Node.name = (x.kids.map Node.name) := names_set hki (withN_name _ _ _)
      rw [← hnz] at hrowM88
      have hwz2 : 1 + Node.sizeL (x.kids.set (bsI (x.kids.map Node.name) x5) (withN kk (l.drop 1) y)) ≤ x.size + y.size := by have h_ := withN_size l x y; rw [withN_some hx5 hkk] at h_; exact h_
      obtain ⟨a1, c1, hv1, hc1, hs1⟩ := hrowM88.sla (l := (x.kids.set (bsI (x.kids.map Node.name) x5) (withN kk (l.drop 1) y)).map Node.name) (enc := (fun q : Str => [S q])) (fun _ => rfl) (by omega)
      obtain ⟨e1, e2, e3⟩ := slice_inj hv1; subst e1; subst e3
      replace e2 : (x.kids.map Node.name).length = ((x.kids.set (bsI (x.kids.map Node.name) x5) (withN kk (l.drop 1) y)).map Node.name).length := by rw [hnz]
      replace hs1 := hs1.le hleM100
      obtain ⟨e4, hc2, hs2⟩ := hrowM100.subs' hpz
      refine Y_region [] mixed ?_
      refine Y_r 0 rfl (D_move rfl) ?_
      refine Y_r 1 rfl (D_nilCheck rfl) ?_
      refine Y_r 2 rfl (D_fieldAddr fa112_0 rfl) ?_
      refine Y_r 3 rfl (D_load rfl (Has.mem q104) (rd24_TreeC_0 (⟨x.value, x.marks, .slice ano1 ((x.kids.map Node.name).length) cno1, .slice ako1 x.kids.length cko1, ((1 + Node.sizeL x.kids : Nat) : Int), ((Node.depthL x.kids : Nat) : Int)⟩ : TreeC))) ?_
      refine Y_r 4 rfl (D_move rfl) ?_
      refine Y_r 5 rfl (D_nilCheck rfl) ?_
      refine Y_r 6 rfl (D_fieldAddr fa112_1 rfl) ?_
      refine Y_r 7 rfl (D_load rfl (Has.mem q104) (rd27_TreeC_35 (⟨x.value, x.marks, .slice ano1 ((x.kids.map Node.name).length) cno1, .slice ako1 x.kids.length cko1, ((1 + Node.sizeL x.kids : Nat) : Int), ((Node.depthL x.kids : Nat) : Int)⟩ : TreeC))) ?_
      refine Y_r 8 rfl (D_move rfl) ?_
      refine Y_r 9 rfl (D_move rfl) ?_
      refine Y_o 10 rfl (E_callP rfl rfl en104 (fun w hM => made_K x.value x.marks (x.kids.set (bsI (x.kids.map Node.name) x5) (withN kk (l.drop 1) y)) ads87 ((x.kids.map Node.name).length) caps87 (some ⟨boo, 0, none⟩) bsr3.length capo e2 e4 M100 w hM hc1 hs1 hc2 hs2 (by omega)) (fun vr112 Mr112 Hr112 hler112 hpr112 => ?_)) (PMem.le_refl _) (fun _ h => List.Sublist.subset (.slnil) h)
      have q113 := TreeAt.le hler112 q101
      have q114 := SlA.le q102 hler112
      have q115 := TreeAt.le hler112 q103
      have q116 := hler112 _ _ q104
      have q117 := SlA.le q105 hler112
      have q118 := SubA.le q106 hler112
      have q119 := hler112 _ _ q107
      have q121 := TreeAt.le hler112 q109
      have q122 := SlA.le q110 hler112
      have q123 := TreeAt.le hler112 q111
      obtain ⟨rfl, br112, rfl, htr112⟩ := hpr112
      refine Y_go _ hler112 (fun _ h => List.Sublist.subset (.slnil) h) (fun _ h => h) ?_
      refine Y_r 11 rfl (D_assign rfl) ?_
      refine Y_nil ?_ (PMem.le_refl _) (fun _ h => List.Sublist.subset (.slnil) h)
      refine R_ret ?_
      refine R_fin1 rfl rfl ?_
      exact ⟨rfl, _, rfl, by rw [withN_some hx5 hkk]; exact htr112.anon _⟩

theorem with_C (bs : Nat) (y : Node) : ∀ (l : List Str) (x : Node) (b : Nat) (a : Option Addr) (c : Nat) (M : PMem) (w : World) (hM : Lies M w) (hb : TreeAt M b x) (hrx : Node.Ris x) (hc : l.length ≤ c) (hl : SlA M 1 (byEnc fun s : Str => [S s]) a l) (hll : l.length ≤ 4294967296) (hy : TreeAt M bs y) (hadd : Addable x l) (hsz : Node.sizeL x.kids + y.size ≤ 2147483648), Ends Tryz.prog 137 [P_ b 0, .slice a l.length c, P_ bs 0] w [] M (fun v M' H' => H' = [] ∧ ∃ b', v = P_ b' 0 ∧ TreeAt M' b' (withN x l y)) := by
  intro l
  have key : ∀ n, ∀ l : List Str, l.length = n → ∀ (x : Node) (b : Nat) (a : Option Addr) (c : Nat) (M : PMem) (w : World) (hM : Lies M w) (hb : TreeAt M b x) (hrx : Node.Ris x) (hc : l.length ≤ c) (hl : SlA M 1 (byEnc fun s : Str => [S s]) a l) (hll : l.length ≤ 4294967296) (hy : TreeAt M bs y) (hadd : Addable x l) (hsz : Node.sizeL x.kids + y.size ≤ 2147483648), Ends Tryz.prog 137 [P_ b 0, .slice a l.length c, P_ bs 0] w [] M (fun v M' H' => H' = [] ∧ ∃ b', v = P_ b' 0 ∧ TreeAt M' b' (withN x l y)) := by
    intro n
    induction n using Nat.strongRecOn with
    | _ n ihn =>
      intro l hln x b a c M w hM hb hrx hc hl hll hy hadd hsz
      exact with_S x b l a c bs y M w hM hb hrx hc hl hll hy hadd hsz (fun h0 => ihn (l.drop 1).length (by rw [List.length_drop]; omega) (l.drop 1) rfl)
  exact key _ l rfl

theorem Put_C (x : Node) (b : Nat) (p : Str) (bs : Nat) (y : Node) (M : PMem) (w : World) (hM : Lies M w) (hb : TreeAt M b x) (hrx : Node.Ris x) (hp : p.length ≤ 1073741824) (hy : TreeAt M bs y) (he : (splitP p 64).2 = 0) (hway : wayB x (splitP p 64).1 = true) (hdep : (splitP p 64).1.length + Node.depthL y.kids ≤ 64) (hadd : Addable x (splitP p 64).1) (hsz : Node.sizeL x.kids + y.size ≤ 2147483648) : Ends Tryz.prog 117 [P_ b 0, S p, P_ bs 0] w [] M (fun v M' H' => H' = [] ∧ ∃ b', v = .tuple #[P_ b' 0, I 0] ∧ TreeAt M' b' (withN x (splitP p 64).1 y)) := by
  have hpn := splitP_len p 64
  have hkl := Node.len_sizeL x.kids
  refine Ends.enter (H := []) Tryz.func117 rfl Tryz.ntmps117 rfl (St.start hM) ?_
  refine R_seq ?_
  refine R_region ?_
  refine R_r (D_assign rfl) ?_
  refine R_r (D_assign rfl) ?_
  refine R_nil ?_
  refine R_seq ?_
  refine R_region ?_
  refine R_r (D_move rfl) ?_
  refine R_o (E_callP rfl rfl en86 (fun w hM => Split_C p 64 M w hM (by omega)) (fun vr1 Mr1 Hr1 hler1 hpr1 => ?_))
  have q2 := TreeAt.le hler1 hb
  have q3 := TreeAt.le hler1 hy
  obtain ⟨rfl, vr1, rfl, hpr1⟩ := hpr1
  obtain ⟨ar1, cr1, rfl, hcr1, hsr1⟩ := hpr1.op
  refine R_r (D_move rfl) ?_
  refine R_r (D_extract rfl rfl) ?_
  refine R_r (D_extract rfl rfl) ?_
  refine R_r (D_assign rfl) ?_
  refine R_r (D_assign rfl) ?_
  refine R_nil ?_
  refine R_seq ?_
  refine R_block ?_
  refine R_seq ?_
  refine R_region ?_
  refine R_r (D_move rfl) ?_
  refine R_r (D_ne rfl rfl) ?_
  refine R_r (D_assign rfl) ?_
  refine R_nil ?_
  refine R_cond rfl (fun h1 => ?_) (fun h1 => ?_)
  ·
    have h1p : ¬ (((splitP p 64).2) = 0) := by simpa using h1
    exact absurd he (by simpa using h1)
  ·
    have h1p : (((splitP p 64).2) = 0) := by simpa using h1
    refine R_seq ?_
    refine R_region ?_
    refine R_r (D_move rfl) ?_
    refine R_r (D_move rfl) ?_
    refine R_o (E_callV (v := .bool (wayB x ((splitP p 64).1))) rfl rfl en136 (fun w hM => way_C x b ((splitP p 64).1) ar1 cr1 Mr1 w hM q2 hrx (by omega) (by omega) hsr1 (by omega)) ?_)
    refine R_r (D_not rfl) ?_
    refine R_r (D_assign rfl) ?_
    refine R_nil ?_
    refine R_cond rfl (fun h2 => ?_) (fun h2 => ?_)
    ·
      exact absurd hway (by simpa using h2)
    ·
      refine R_seq ?_
      refine R_region ?_
      refine R_r (D_move rfl) ?_
      refine R_r (D_lenL Tryz.underlying109 rfl) ?_
      refine R_r (D_move rfl) ?_
      refine R_r (D_nilCheck rfl) ?_
      refine R_r (D_fieldAddr fa112_5 rfl) ?_
      obtain ⟨ano4, cno4, ako4, cko4, elo4, fro4, hmo4, hcno4, hsno4, hcko4, hsko4⟩ := (q3).open
      refine R_r (D_load rfl (Has.mem hmo4) (Rd.one Tryz.isAgg3 rfl)) ?_
      refine R_r (D_add rfl rfl rfl (by first | omega | (dsimp only; omega)) (by first | omega | (dsimp only; omega))) ?_
      refine R_r (D_gt rfl rfl) ?_
      refine R_r (D_assign rfl) ?_
      refine R_nil ?_
      refine R_cond rfl (fun h3 => ?_) (fun h3 => ?_)
      ·
        have h3p := of_decide_eq_true h3
        exact absurd h3p (by dsimp only; omega)
      ·
        have h3p := of_decide_eq_false h3
        refine R_skip ?_
        refine R_seq ?_
        refine R_region ?_
        refine R_r (D_move rfl) ?_
        refine R_r (D_move rfl) ?_
        refine R_r (D_move rfl) ?_
        refine R_o (E_callP rfl rfl en137 (fun w hM => with_C bs y (splitP p 64).1 x b ar1 cr1 Mr1 w hM q2 hrx (by omega) hsr1 (by omega) q3 hadd (by omega)) (fun vr5 Mr5 Hr5 hler5 hpr5 => ?_))
        have q6 := TreeAt.le hler5 q2
        have q7 := TreeAt.le hler5 q3
        have q8 := SlA.le hsr1 hler5
        have q9 := hler5 _ _ hmo4
        have q10 := SlA.le hsno4 hler5
        have q11 := SubA.le hsko4 hler5
        obtain ⟨rfl, br5, rfl, htr5⟩ := hpr5
        refine R_r (D_assign rfl) ?_
        refine R_r (D_assign rfl) ?_
        refine R_nil ?_
        refine R_ret ?_
        refine R_fin2 rfl rfl rfl ?_
        exact ⟨rfl, _, rfl, htr5⟩

end Go.Proofs.YtgmomhdammdjgaaGreat
