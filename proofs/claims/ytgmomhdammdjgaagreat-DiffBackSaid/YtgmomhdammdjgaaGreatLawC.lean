/-
  The plain law of a difference that is applied, closed: the program's answer is the document's; a tree that grew of its paths is that tree. Plain lemmas; no program in sight.
-/
import Derived.Test.YtgmomhdammdjgaaGreatLawB
set_option linter.unusedVariables false
set_option linter.unusedSimpArgs false
namespace Go.Proofs.YtgmomhdammdjgaaGreat
open Go Go.Proofs Go.RowKit

theorem nil_least (p : Str) : 0 ≤ cmpP p [] := by
  unfold cmpP
  show 0 ≤ cmpL (pieces p) []
  cases pieces p <;> simp [cmpL]
theorem SortedE.take {l : List Entry} (h : SortedE l) (i : Nat) : SortedE (l.take i) := List.Pairwise.sublist (List.take_sublist i l) h
theorem kindOf_mem {l : List Entry} (h : SortedE l) {e : Entry} (he : e ∈ l) : kindOf l e.path = some e.value.kind := by
  induction l with
  | nil => simp at he
  | cons y l ih =>
    obtain ⟨h1, h2⟩ := List.pairwise_cons.1 h
    simp only [kindOf]
    rcases List.mem_cons.1 he with rfl | he
    · cases hq : kindOf l e.path with
      | none => simp
      | some v =>
        obtain ⟨d, hd, hd1, _⟩ := kindOf_some hq
        have := h1 d hd
        rw [hd1, cmpP_refl] at this; omega
    · rw [ih h2 he]
theorem dirP_iff {l : List Entry} (h : SortedE l) (q : Str) : dirP l q = true ↔ ∃ e ∈ l, e.path = q ∧ e.value.kind = 1 := by
  rcases findP_cases l q with ⟨h1, h2⟩ | ⟨i, e, h1, h2, h3, _⟩
  · have hlt : findP l q < 0 := by omega
    constructor
    · intro hd
      simp only [dirP, Bool.and_eq_true, decide_eq_true_eq] at hd
      exact absurd hlt hd.1
    · rintro ⟨e, he, hp, _⟩
      exact absurd hp (h2 e he)
  · have hd := dirP_of (l := l) (p := q) (b := true) (e := e) (by rw [h1]; omega) (by rw [h1]; simpa using h2)
    rw [hd]
    simp only [decide_eq_true_eq]
    constructor
    · intro hk; exact ⟨e, List.mem_of_getElem? h2, h3, hk⟩
    · rintro ⟨e', he', hp', hk'⟩
      have := h.inj (List.mem_of_getElem? h2) he' (h3.trans hp'.symm)
      rw [this]; exact hk'
theorem above_lt {p : Str} (hp : (splitP p 64).2 = 0) (h0 : p ≠ []) : cmpP (aboveP p).1 p < 0 := by
  obtain ⟨_, h2, _⟩ := splitP_ok hp
  have hj : joinP (pieces p) = p := joinP_pieces p
  generalize pieces p = ns at *
  rcases snocCases ns with rfl | ⟨q, n, rfl⟩
  · exact absurd hj.symm h0
  · rw [← hj, aboveP_join h2, cmpP_join (fun x hx => h2 x (List.mem_append_left _ hx)) h2, cmpL_self_app q [n] (by simp)]
    decide
theorem upDir_dirP {l : List Entry} (h : SortedE l) {i : Nat} {e : Entry} (he : l[i]? = some e) (hp : (splitP e.path 64).2 = 0) (h0 : e.path ≠ []) : upDir (l.take i) e.path = dirP l (aboveP e.path).1 := by
  rw [Bool.eq_iff_iff, dirP_iff h]
  unfold upDir
  rw [decide_eq_true_eq]
  have hlt := above_lt hp h0
  constructor
  · intro hk
    cases hq : kindOf (l.take i) (aboveP e.path).1 with
    | none => rw [hq] at hk; simp at hk
    | some v =>
      rw [hq] at hk
      obtain ⟨d, hd, h1, h2⟩ := kindOf_some hq
      exact ⟨d, List.mem_of_mem_take hd, h1, by rw [h2]; simpa using hk⟩
  · rintro ⟨d, hd, h1, h2⟩
    obtain ⟨j, hj, rfl⟩ := List.getElem_of_mem hd
    obtain ⟨hi, rfl⟩ := List.getElem?_eq_some_iff.1 he
    have hji : j < i := by
      rcases Nat.lt_or_ge j i with h | h
      · exact h
      · rw [← h1] at hlt
        rcases Nat.lt_or_ge i j with h' | h'
        · have := List.pairwise_iff_getElem.1 ‹SortedE l› i j hi hj h'
          have := cmpP_trans hlt this
          rw [cmpP_refl] at this; omega
        · have : i = j := by omega
          subst this
          rw [cmpP_refl] at hlt; omega
    have hm : l[j] ∈ l.take i := by
      rw [List.mem_iff_getElem?]
      exact ⟨j, by rw [List.getElem?_take, if_pos hji, List.getElem?_eq_getElem hj]⟩
    have := kindOf_mem (SortedE.take ‹SortedE l› i) hm
    rw [h1] at this
    rw [this]; simpa using h2
theorem all_valAt {x : Node} {l : List Change} (hv : Valid x) (hr : risesL l false [] = true) : l.all (fun c => decide (valAt x c.path = c.old)) = l.all (fun c => decide (valP (x.flat []) c.path = c.old)) := by
  obtain ⟨h1, _, _⟩ := rises_spec hr
  rw [Bool.eq_iff_iff, List.all_eq_true, List.all_eq_true]
  constructor
  · intro h c hc; rw [← valAt_eq hv (h1 c hc).1]; exact h c hc
  · intro h c hc; rw [valAt_eq hv (h1 c hc).1]; exact h c hc
/-- the program's answer is the document's -/
theorem apply_law {x : Node} {l : List Change} (hv : Valid x) {v : Value} {M' : PMem} (h : (risesL l false [] = false ∧ v = .tuple #[.pointer none, I 130]) ∨ (risesL l false [] = true ∧ l.all (fun c => decide (valAt x c.path = c.old)) = false ∧ v = .tuple #[.pointer none, I 131]) ∨
    (risesL l false [] = true ∧ l.all (fun c => decide (valAt x c.path = c.old)) = true ∧ l.all shapeB = false ∧ v = .tuple #[.pointer none, I 132]) ∨
    (risesL l false [] = true ∧ l.all (fun c => decide (valAt x c.path = c.old)) = true ∧ l.all shapeB = true ∧ ∃ ls : List Spot, ls.Perm (spots x l) ∧ (∀ (i j : Nat) (a b : Spot), i < j → ls[i]? = some a → ls[j]? = some b → cmpP a.path b.path < 0) ∧ ((runG x l ls [] = none ∧ v = .tuple #[.pointer none, I 132]) ∨ ∃ done, runG x l ls [] = some done ∧ ((done = [] ∧ v = .tuple #[.pointer none, I 0]) ∨ ∃ b z, v = .tuple #[P_ b 0, I 0] ∧ TreeAt M' b z ∧ Grown z done)))) :
    (applyE x l ≠ 0 ∧ v = .tuple #[.pointer none, I (applyE x l)]) ∨ (applyE x l = 0 ∧ ∃ b z es, v = .tuple #[P_ b 0, I 0] ∧ TreeAt M' b z ∧ mergeA (x.flat []) l = some es ∧ Grown z es) := by
  rcases h with ⟨h1, hv1⟩ | ⟨h1, h2, hv1⟩ | ⟨h1, h2, h3, hv1⟩ | ⟨h1, h2, h3, ls, hp, hst, h4⟩
  · left
    have e : applyE x l = 130 := by unfold applyE; rw [if_neg (by rw [h1]; simp)]
    rw [e]; exact ⟨by omega, hv1⟩
  · left
    have e : applyE x l = 131 := by
      unfold applyE
      rw [if_pos h1, if_neg (by rw [← all_valAt hv h1, h2]; simp)]
    rw [e]; exact ⟨by omega, hv1⟩
  · left
    obtain ⟨r1, r2, _⟩ := rises_spec h1
    have e : applyE x l = 132 := by
      unfold applyE
      rw [if_pos h1, if_pos (by rw [← all_valAt hv h1]; exact h2)]
      by_cases hall : ∃ c ∈ l, c.new.okN = false
      · rw [show mergeA (x.flat []) l = none from merge_bad _ _ _ (Nat.le_refl _) hall]
      · have hok : ∀ c ∈ l, c.new.okN = true := fun c hc => by
          cases hq : c.new.okN with
          | true => rfl
          | false => exact absurd ⟨c, hc, hq⟩ hall
        obtain ⟨es, g1, g2, g3⟩ := merge_spec _ (x.flat []) l (Nat.le_refl _) (flat_sorted hv.fine) r2 hok
        rw [show mergeA (x.flat []) l = some es from g1]
        have hbad : ∃ c ∈ l, c.path = [] ∧ c.new.kind = 0 := by
          rcases Classical.em (∃ c ∈ l, shapeB c = false) with ⟨c, hc, hs⟩ | hno
          · refine ⟨c, hc, ?_⟩
            simp only [shapeB, hok c hc, Bool.true_and, Bool.not_eq_false', Bool.and_eq_true, decide_eq_true_eq] at hs
            exact hs
          · exfalso
            rw [Bool.eq_false_iff] at h3
            exact h3 (List.all_eq_true.2 fun c hc => by
              cases hq : shapeB c with
              | true => rfl
              | false => exact absurd ⟨c, hc, hq⟩ hno)
        obtain ⟨c, hc, hcp, hck⟩ := hbad
        have hnop : ∀ e ∈ es, e.path ≠ [] := by
          intro e he hep
          rcases (g3 e).1 he with ⟨_, hn⟩ | ⟨d, hd, hdk, rfl⟩
          · rw [hep, ← hcp, nowOf_mem r2 hc] at hn; cases hn
          · have := r2.inj hd hc (by rw [hcp]; exact hep)
            subst this
            exact hdk hck
        have : treeB es = false := treeB_early (by
          cases es with
          | nil => exact .inl rfl
          | cons y r => exact .inr ⟨y, rfl, hnop y List.mem_cons_self⟩)
        simp [this]
    rw [e]; exact ⟨by omega, hv1⟩
  · obtain ⟨r1, r2, _⟩ := rises_spec h1
    have hm := kept_merge hv h1 h2 h3 hp hst
    have hso := kept_sorted (x := x) (l := l) hst
    have hok := spots_ok hv h1 h3
    obtain ⟨q1, q2⟩ := run_spec (x := x) (l := l) ls []
    have hpaths : ∀ e ∈ kept x l ls, (splitP e.path 64).2 = 0 := fun e he => by
      obtain ⟨s, hs, hk, rfl⟩ := kept_mem.1 he
      exact (hok s (hp.subset hs) hk).1
    generalize kept x l ls = es at *
    -- the root stands
    have hroot : ∃ e ∈ es, e.path = [] := by
      have hf : (⟨[], x.value, x.marks⟩ : Entry) ∈ x.flat [] := by rw [Node.flat_eq]; exact List.mem_cons_self
      obtain ⟨es', g1, _, g3⟩ := merge_spec _ (x.flat []) l (Nat.le_refl _) (flat_sorted hv.fine) r2 (fun c hc => by
        have := List.all_eq_true.1 h3 c hc
        simp only [shapeB, Bool.and_eq_true] at this
        exact this.1)
      have : es' = es := by
        have h_ : some es' = some es := by rw [← hm]; exact g1.symm
        exact Option.some.inj h_
      subst this
      cases hn : nowOf l [] with
      | none => exact ⟨_, (g3 _).2 (.inl ⟨hf, hn⟩), rfl⟩
      | some u =>
        obtain ⟨c, hc, hcp, rfl⟩ := nowOf_some hn
        have hsc := List.all_eq_true.1 h3 c hc
        simp only [shapeB, Bool.and_eq_true, Bool.not_eq_true', Bool.and_eq_false_imp, decide_eq_true_eq, decide_eq_false_iff_not] at hsc
        exact ⟨⟨c.path, c.new, Marks.zero⟩, (g3 _).2 (.inr ⟨c, hc, hsc.2 hcp, rfl⟩), hcp⟩
    obtain ⟨e0, he0, hp0⟩ := hroot
    have hfirst : ∃ y, es[0]? = some y ∧ y.path = [] := by
      cases es with
      | nil => simp at he0
      | cons y r =>
        refine ⟨y, rfl, ?_⟩
        rcases List.mem_cons.1 he0 with rfl | he
        · exact hp0
        · have := (List.pairwise_cons.1 hso).1 e0 he
          rw [hp0] at this
          have := nil_least y.path
          omega
    obtain ⟨y, hy, hyp⟩ := hfirst
    have hother : ∀ i e, 1 ≤ i → es[i]? = some e → e.path ≠ [] := by
      intro i e hi he hep
      obtain ⟨h0, rfl⟩ := List.getElem?_eq_some_iff.1 hy
      obtain ⟨h0', rfl⟩ := List.getElem?_eq_some_iff.1 he
      have := List.pairwise_iff_getElem.1 hso 0 i h0 h0' (by omega)
      rw [hyp, hep, cmpP_refl] at this; omega
    have hE : ∀ b, treeB es = b → applyE x l = if b = true then 0 else 132 := fun b hb => by
      unfold applyE
      rw [if_pos h1, if_pos (by rw [← all_valAt hv h1]; exact h2), hm]
      simp only []
      rw [hb]
    rcases h4 with ⟨hrun, hv1⟩ | ⟨done, hrun, h5⟩
    · left
      obtain ⟨i, e, k1, k2, k3⟩ := q2 hrun
      have hi : 1 ≤ i := by
        rcases Nat.eq_zero_or_pos i with rfl | h
        · rw [hy] at k1; cases k1; exact absurd hyp k2
        · exact h
      rw [List.nil_append, upDir_dirP hso k1 (hpaths e (List.mem_of_getElem? k1)) k2] at k3
      have e2 := hE false (treeB_bad hi k1 k3)
      rw [e2]; exact ⟨by simp, hv1⟩
    · obtain ⟨hde, k2⟩ := q1 done hrun
      rw [List.nil_append] at hde; subst hde
      have ht : treeB done = true := treeB_good hy hyp fun i e hi he => by
        have hne := hother i e hi he
        rcases k2 i e he with h | h
        · exact absurd h hne
        · rw [List.nil_append, upDir_dirP hso he (hpaths e (List.mem_of_getElem? he)) hne] at h
          exact h
      have e2 : applyE x l = 0 := by rw [hE true ht]; simp
      rcases h5 with ⟨h6, _⟩ | ⟨b, z, h6, h7, h8⟩
      · rw [h6] at hy; simp at hy
      · exact .inr ⟨e2, b, z, done, h6, h7, hm, by simpa using h8⟩
/-! ### A tree that grew -/
theorem growR_det {L : List Entry} {p : Str} {i n : Nat} {a : List Node} (h : GrowR L p i a n) : ∀ {b : List Node} {m : Nat}, GrowR L p i b m → a = b ∧ n = m := by
  induction h with
  | @done p i h1 =>
    intro b m hb
    cases hb with
    | done _ => exact ⟨rfl, rfl⟩
    | step he hu _ _ =>
      obtain ⟨g1, g2⟩ := h1 _ he
      rcases hu with hu | hu
      · exact absurd hu g1
      · rw [g2] at hu; cases hu
  | @step p i j n e ks rest he hu _ _ ih1 ih2 =>
    intro b m hb
    cases hb with
    | done h1 =>
      obtain ⟨g1, g2⟩ := h1 _ he
      rcases hu with hu | hu
      · exact absurd hu g1
      · rw [g2] at hu; cases hu
    | step he' _ hk' hr' =>
      rw [he] at he'
      cases he'
      obtain ⟨rfl, rfl⟩ := ih1 hk'
      obtain ⟨rfl, rfl⟩ := ih2 hr'
      exact ⟨rfl, rfl⟩
theorem under_join {q r : List Str} (hq : OkNames q) (hr : OkNames (q ++ r)) : underP (joinP (q ++ r)) (joinP q) = true := by
  unfold underP
  rw [pieces_joinP _ hr, pieces_joinP _ hq]
  simp
theorem under_not {q : List Str} {a b : Str} {r : List Str} (hq : OkNames (q ++ [a])) (hr : OkNames (q ++ b :: r)) (hab : a ≠ b) : underP (joinP (q ++ b :: r)) (joinP (q ++ [a])) = false := by
  unfold underP
  rw [pieces_joinP _ hr, pieces_joinP _ hq, decide_eq_false_iff_not]
  intro h
  have := congrArg (fun l => l[q.length]?) h
  simp at this
  exact hab this.symm
theorem under_up {p : Str} {q : List Str} {a : Str} (hq : OkNames (q ++ [a])) (h : underP p (joinP (q ++ [a])) = true) : underP p (joinP q) = true := by
  have hq' : OkNames q := fun x hx => hq x (List.mem_append_left _ hx)
  unfold underP at h ⊢
  rw [pieces_joinP _ hq, decide_eq_true_eq] at h
  rw [pieces_joinP _ hq', decide_eq_true_eq]
  have := congrArg (List.take q.length) h
  rw [List.take_take] at this
  simpa using this
theorem growR_mk (L : List Entry) : ∀ (n : Nat) (ks : List Node), Node.sizeL ks ≤ n → (∀ k ∈ ks, k.Fine ∧ nameOk k.name = true) → Rise (ks.map Node.name) → ∀ (q : List Str), OkNames q → ∀ (i : Nat) (rest : List Entry), L.drop i = (Node.thingsL ks).map (entT q) ++ rest →
    (∀ e, rest[0]? = some e → joinP q ≠ [] ∧ underP e.path (joinP q) = false) → GrowR L (joinP q) i ks (i + Node.sizeL ks) := by
  intro n
  induction n with
  | zero =>
    intro ks hs _ _ q hq i rest hL hrest
    cases ks with
    | nil =>
      refine .done fun e he => hrest e ?_
      simp only [Node.thingsL, List.map_nil, List.nil_append] at hL
      rw [← hL, List.getElem?_drop, Nat.add_zero]; exact he
    | cons k r => cases k; simp [Node.sizeL, Node.size] at hs
  | succ n ih =>
    intro ks hs hf hr q hq i rest hL hrest
    cases ks with
    | nil =>
      refine .done fun e he => hrest e ?_
      simp only [Node.thingsL, List.map_nil, List.nil_append] at hL
      rw [← hL, List.getElem?_drop, Nat.add_zero]; exact he
    | cons k r =>
      obtain ⟨hkf, hkn⟩ := hf k List.mem_cons_self
      have hqk := hq.snoc hkn
      have hsz := Node.size_eq k
      simp only [Node.sizeL] at hs
      have hL2 : L.drop i = ⟨joinP (q ++ [k.name]), k.value, k.marks⟩ :: ((Node.thingsL k.kids).map (entT (q ++ [k.name])) ++ ((Node.thingsL r).map (entT q) ++ rest)) := by
        rw [hL]
        simp only [Node.thingsL, Node.things_eq k, List.map_append, List.map_cons, List.map_map, List.cons_append, List.append_assoc]
        congr 2
        refine List.map_congr_left fun e _ => ?_
        simp [entT]
      have he : L[i]? = some ⟨joinP (q ++ [k.name]), k.value, k.marks⟩ := by
        have := congrArg (fun l => l[0]?) hL2
        simpa using this
      have hd1 : L.drop (i + 1) = (Node.thingsL k.kids).map (entT (q ++ [k.name])) ++ ((Node.thingsL r).map (entT q) ++ rest) := by
        have := congrArg (List.drop 1) hL2
        simpa [List.drop_drop] using this
      have g1 := ih k.kids (by omega) (fun c hc => ⟨hkf.kid hc, hkf.ok hc⟩) hkf.rise (q ++ [k.name]) hqk (i + 1) _ hd1 (fun e he' => by
        refine ⟨joinP_ne hqk (by simp), ?_⟩
        cases r with
        | nil =>
          simp only [Node.thingsL, List.map_nil, List.nil_append] at he'
          obtain ⟨_, h2⟩ := hrest e he'
          cases hu : underP e.path (joinP (q ++ [k.name])) with
          | false => rfl
          | true => rw [under_up hqk hu] at h2; cases h2
        | cons k2 r2 =>
          obtain ⟨_, hk2n⟩ := hf k2 (by simp)
          have hlt := hr 0 1 k.name k2.name (by omega) rfl rfl
          simp only [Node.thingsL, Node.things_eq k2, List.map_append, List.map_cons, List.cons_append, List.getElem?_cons_zero, Option.some.injEq] at he'
          subst he'
          simp only [entT]
          exact under_not hqk (hq.snoc hk2n) (less_ne hlt))
      have hd2 : L.drop (i + 1 + Node.sizeL k.kids) = (Node.thingsL r).map (entT q) ++ rest := by
        have hlen : ((Node.thingsL k.kids).map (entT (q ++ [k.name]))).length = Node.sizeL k.kids := by
          rw [List.length_map]
          have : ∀ (n : Nat) (l : List Node), Node.sizeL l ≤ n → (Node.thingsL l).length = Node.sizeL l := by
            intro n
            induction n with
            | zero => intro l hl; cases l with
              | nil => rfl
              | cons a l => cases a; simp [Node.sizeL, Node.size] at hl
            | succ n ihn => intro l hl; cases l with
              | nil => rfl
              | cons a l =>
                have ha := Node.size_eq a
                simp only [Node.sizeL] at hl
                simp only [Node.thingsL, Node.things_eq a, Node.sizeL, List.length_append, List.length_map, List.length_cons]
                rw [ihn a.kids (by omega), ihn l (by omega)]; omega
          exact this _ _ (Nat.le_refl _)
        have := congrArg (List.drop (Node.sizeL k.kids)) hd1
        rw [List.drop_drop, ← hlen, List.drop_left] at this
        rw [hlen] at this
        exact this
      have g2 := ih r (by omega) (fun c hc => hf c (List.mem_cons_of_mem _ hc)) (fun a b x y hab hx hy => hr (a + 1) (b + 1) x y (by omega) (by simpa using hx) (by simpa using hy)) q hq _ rest hd2 hrest
      have hk : k = Node.mk (aboveP (joinP (q ++ [k.name]))).2 k.value k.marks k.kids := by
        rw [aboveP_join hqk]; cases k; rfl
      have e3 : i + Node.sizeL (k :: r) = i + 1 + Node.sizeL k.kids + Node.sizeL r := by simp only [Node.sizeL]; omega
      rw [e3]
      have key : ∀ x : Node, x = Node.mk (aboveP (joinP (q ++ [k.name]))).2 k.value k.marks k.kids → GrowR L (joinP q) i (x :: r) (i + 1 + Node.sizeL k.kids + Node.sizeL r) := by
        rintro x rfl
        refine GrowR.step (j := i + 1 + Node.sizeL k.kids) he (.inr (under_join hq hqk)) ?_ ?_
        · simpa using g1
        · exact g2
      exact key k hk
/-- the document's tree of paths is the tree that was laid -/
theorem grown_eq {z : Node} {es : List Entry} (h : Grown z es) {e : Entry} {ks : List Node} {n : Nat} (he : es[0]? = some e) (hg : GrowR es e.path 1 ks n) : ks = z.kids ∧ e.value = z.value ∧ e.marks = z.marks := by
  have hfl : es = z.things.map (entT []) := by rw [← h.flat, Node.flat0 h.fine]
  have hq : OkNames ([] : List Str) := fun n hn => by simp at hn
  have h0 : es[0]? = some ⟨[], z.value, z.marks⟩ := by rw [hfl, Node.things_eq]; rfl
  rw [he] at h0
  cases h0
  have hd : es.drop 1 = (Node.thingsL z.kids).map (entT []) ++ [] := by rw [hfl, Node.things_eq]; simp
  have hm := growR_mk es _ z.kids (Nat.le_refl _) (fun k hk => ⟨h.fine.kid hk, h.fine.ok hk⟩) h.fine.rise [] hq 1 [] hd (fun e he => by simp at he)
  exact ⟨(growR_det hg hm).1, rfl, rfl⟩
mutual
theorem Node.same_refl : ∀ (x : Node), Node.same x x = true
  | .mk s v m ks => by
    rw [Node.same_eq]
    show (decide (v = v) && decide (m = m) && Node.sameL ks ks) = true
    rw [Node.sameL_refl ks]; simp
theorem Node.sameL_refl : ∀ (l : List Node), Node.sameL l l = true
  | [] => rfl
  | k :: r => by simp [Node.sameL, Node.same_refl k, Node.sameL_refl r]
end
end Go.Proofs.YtgmomhdammdjgaaGreat
