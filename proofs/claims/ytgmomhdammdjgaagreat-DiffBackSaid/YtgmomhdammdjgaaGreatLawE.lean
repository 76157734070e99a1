/-
  What a difference of two trees holds: just the paths at which they differ, in order; values along a way down; trees with the same values. Plain lemmas; no program in sight.
-/
import Derived.Test.YtgmomhdammdjgaaGreatDif
set_option linter.unusedVariables false
set_option linter.unusedSimpArgs false
namespace Go.Proofs.YtgmomhdammdjgaaGreat
open Go Go.Proofs Go.RowKit

/-! ### Along a way down -/
def findK (ks : List Node) (a : Str) : Option Node := ks.find? fun k => decide (k.name = a)
def vN : List Str → Option Node → Val
  | [], ox => valO ox
  | a :: m, ox => vN m (findK (kidsO ox) a)
theorem vN_none : ∀ (n : List Str), vN n none = Val.zero
  | [] => rfl
  | a :: m => vN_none m
theorem findK_some {ks : List Node} {a : Str} {k : Node} (h : findK ks a = some k) : k ∈ ks ∧ k.name = a :=
  ⟨List.mem_of_find?_eq_some h, by simpa using List.find?_some h⟩
theorem findK_cons (k : Node) (ks : List Node) (a : Str) : findK (k :: ks) a = if k.name = a then some k else findK ks a := by
  unfold findK
  rw [List.find?_cons]
  by_cases h : k.name = a <;> simp [h]
theorem findK_not {ks : List Node} {a : Str} (h : ∀ k ∈ ks, k.name ≠ a) : findK ks a = none := by
  unfold findK
  rw [List.find?_eq_none]
  intro k hk
  simpa using h k hk
theorem rise_cons {a : Str} {l : List Str} (h : Rise (a :: l)) : Rise l ∧ ∀ b ∈ l, Op.bytesLess a b = true := by
  refine ⟨fun i j x y hij hx hy => h (i + 1) (j + 1) x y (by omega) (by simpa using hx) (by simpa using hy), fun b hb => ?_⟩
  obtain ⟨i, hi, rfl⟩ := List.getElem_of_mem hb
  exact h 0 (i + 1) a _ (by omega) rfl (by simp [hi])
theorem findK_of : ∀ {ks : List Node} {k : Node}, Rise (ks.map Node.name) → k ∈ ks → findK ks k.name = some k
  | x :: ks, k, hr, hk => by
    obtain ⟨h1, h2⟩ := rise_cons (a := x.name) (l := ks.map Node.name) hr
    rw [findK_cons]
    rcases List.mem_cons.1 hk with rfl | hk
    · rw [if_pos rfl]
    · have hne : x.name ≠ k.name := less_ne (h2 _ (List.mem_map_of_mem hk))
      rw [if_neg hne]
      exact findK_of h1 hk
/-! ### What a difference holds -/
def FineL (xs : List Node) : Prop := Rise (xs.map Node.name) ∧ ∀ k ∈ xs, k.Fine ∧ nameOk k.name = true
def FineO (ox : Option Node) : Prop := ∀ x, ox = some x → x.Fine
theorem FineO.kids {ox : Option Node} (h : FineO ox) : FineL (kidsO ox) := by
  cases ox with
  | none => exact ⟨fun i j x y _ hx => by simp [kidsO] at hx, fun k hk => by simp [kidsO] at hk⟩
  | some x => exact ⟨(h x rfl).rise, fun k hk => ⟨(h x rfl).kid hk, (h x rfl).ok hk⟩⟩
theorem FineL.cons {x : Node} {xs : List Node} (h : FineL (x :: xs)) : x.Fine ∧ nameOk x.name = true ∧ FineL xs ∧ ∀ k ∈ xs, Op.bytesLess x.name k.name = true := by
  obtain ⟨h1, h2⟩ := rise_cons (a := x.name) (l := xs.map Node.name) h.1
  exact ⟨(h.2 x List.mem_cons_self).1, (h.2 x List.mem_cons_self).2, ⟨h1, fun k hk => h.2 k (List.mem_cons_of_mem _ hk)⟩, fun k hk => h2 _ (List.mem_map_of_mem hk)⟩
theorem FineL.find {xs : List Node} (h : FineL xs) {a : Str} : FineO (findK xs a) := fun x hx => (h.2 x (findK_some hx).1).1
/-- a way on which something stands is a way of right names -/
theorem vN_ok : ∀ {n : List Str} {ox : Option Node}, FineO ox → vN n ox ≠ Val.zero → OkNames n
  | [], _, _, _ => fun n hn => by simp at hn
  | a :: m, ox, hf, hv => by
    have hm : vN m (findK (kidsO ox) a) ≠ Val.zero := hv
    cases hk : findK (kidsO ox) a with
    | none => rw [hk, vN_none] at hm; exact absurd rfl hm
    | some k =>
      obtain ⟨h1, h2⟩ := findK_some hk
      have h3 := vN_ok (hf.kids.find) hm
      intro n hn
      rcases List.mem_cons.1 hn with rfl | hn
      · rw [← h2]; exact (hf.kids.2 k h1).2
      · exact h3 n hn
def SpecO (ox oy : Option Node) (q : List Str) (l : List Change) : Prop :=
  SortedC l ∧ (∀ c ∈ l, ∃ n, c = ⟨joinP (q ++ n), vN n ox, vN n oy⟩ ∧ vN n ox ≠ vN n oy) ∧ ∀ n, vN n ox ≠ vN n oy → (⟨joinP (q ++ n), vN n ox, vN n oy⟩ : Change) ∈ l
def SpecL (xs ys : List Node) (q : List Str) (l : List Change) : Prop :=
  SortedC l ∧ (∀ c ∈ l, ∃ a m, c = ⟨joinP (q ++ a :: m), vN m (findK xs a), vN m (findK ys a)⟩ ∧ vN m (findK xs a) ≠ vN m (findK ys a)) ∧
    ∀ a m, vN m (findK xs a) ≠ vN m (findK ys a) → (⟨joinP (q ++ a :: m), vN m (findK xs a), vN m (findK ys a)⟩ : Change) ∈ l
theorem ne_ok {ox oy : Option Node} (hx : FineO ox) (hy : FineO oy) {n : List Str} (h : vN n ox ≠ vN n oy) : OkNames n := by
  by_cases h0 : vN n ox = Val.zero
  · exact vN_ok hy (fun e => h (by rw [h0, e]))
  · exact vN_ok hx h0
theorem OkNames.app {q n : List Str} (hq : OkNames q) (hn : OkNames n) : OkNames (q ++ n) := fun a ha => by
  rcases List.mem_append.1 ha with h | h
  · exact hq a h
  · exact hn a h
theorem neL_ok {xs ys : List Node} (hx : FineL xs) (hy : FineL ys) {a : Str} {m : List Str} (h : vN m (findK xs a) ≠ vN m (findK ys a)) : OkNames (a :: m) ∧ ((∃ k ∈ xs, k.name = a) ∨ ∃ k ∈ ys, k.name = a) := by
  have hm := ne_ok hx.find hy.find h
  have : (∃ k ∈ xs, k.name = a) ∨ ∃ k ∈ ys, k.name = a := by
    cases h1 : findK xs a with
    | some k => exact .inl ⟨k, findK_some h1⟩
    | none =>
      cases h2 : findK ys a with
      | some k => exact .inr ⟨k, findK_some h2⟩
      | none => rw [h1, h2] at h; exact absurd rfl h
  refine ⟨fun b hb => ?_, this⟩
  rcases List.mem_cons.1 hb with rfl | hb
  · rcases this with ⟨k, hk, rfl⟩ | ⟨k, hk, rfl⟩
    · exact (hx.2 k hk).2
    · exact (hy.2 k hk).2
  · exact hm b hb
theorem cmp_less {q : List Str} {a b : Str} {m n : List Str} (h1 : OkNames (q ++ a :: m)) (h2 : OkNames (q ++ b :: n)) (h : Op.bytesLess a b = true) : cmpP (joinP (q ++ a :: m)) (joinP (q ++ b :: n)) < 0 := by
  rw [cmpP_join h1 h2, cmpL_app]
  simp [cmpL, h]
/-- the part of one name, the parts of names behind it -/
theorem SpecL.join {xs ys xs' ys' : List Node} {q : List Str} {a : Str} {ox oy : Option Node} {l l' : List Change} (hq : OkNames q) (ha : nameOk a = true) (hox : FineO ox) (hoy : FineO oy) (hxs : FineL xs) (hys : FineL ys)
    (hx : ∀ b, findK xs' b = if a = b then ox else findK xs b) (hy : ∀ b, findK ys' b = if a = b then oy else findK ys b) (hlx : ∀ k ∈ xs, Op.bytesLess a k.name = true) (hly : ∀ k ∈ ys, Op.bytesLess a k.name = true)
    (h : SpecO ox oy (q ++ [a]) l) (h' : SpecL xs ys q l') : SpecL xs' ys' q (l ++ l') := by
  obtain ⟨s1, i1, o1⟩ := h
  obtain ⟨s2, i2, o2⟩ := h'
  have hap : ∀ n, (q ++ [a]) ++ n = q ++ a :: n := fun n => by simp
  have hax : findK xs a = none := findK_not fun k hk e => less_ne (hlx k hk) e.symm
  have hay : findK ys a = none := findK_not fun k hk e => less_ne (hly k hk) e.symm
  refine ⟨?_, fun c hc => ?_, fun b m hne => ?_⟩
  · refine List.pairwise_append.2 ⟨s1, s2, fun c hc d hd => ?_⟩
    obtain ⟨n, rfl, hn⟩ := i1 c hc
    obtain ⟨b, m, rfl, hm⟩ := i2 d hd
    obtain ⟨ok2, hb⟩ := neL_ok hxs hys hm
    have ok1 : OkNames (a :: n) := fun z hz => by
      rcases List.mem_cons.1 hz with rfl | hz
      · exact ha
      · exact ne_ok hox hoy hn z hz
    rw [hap]
    refine cmp_less (hq.app ok1) (hq.app ok2) ?_
    rcases hb with ⟨k, hk, rfl⟩ | ⟨k, hk, rfl⟩
    · exact hlx k hk
    · exact hly k hk
  · rcases List.mem_append.1 hc with hc | hc
    · obtain ⟨n, rfl, hn⟩ := i1 c hc
      refine ⟨a, n, ?_, ?_⟩
      · rw [hx, hy, if_pos rfl, if_pos rfl, hap]
      · rw [hx, hy, if_pos rfl, if_pos rfl]; exact hn
    · obtain ⟨b, m, rfl, hm⟩ := i2 c hc
      have hab : a ≠ b := fun e => by subst e; rw [hax, hay] at hm; exact hm rfl
      refine ⟨b, m, ?_, ?_⟩
      · rw [hx, hy, if_neg hab, if_neg hab]
      · rw [hx, hy, if_neg hab, if_neg hab]; exact hm
  · rw [hx, hy] at hne ⊢
    by_cases hab : a = b
    · subst hab
      rw [if_pos rfl, if_pos rfl] at hne ⊢
      have := o1 m hne
      rw [hap] at this
      exact List.mem_append_left _ this
    · rw [if_neg hab, if_neg hab] at hne ⊢
      exact List.mem_append_right _ (o2 b m hne)
mutual
theorem DifR.spec : ∀ {ox oy : Option Node} {p : Str} {l : List Change}, DifR ox oy p l → ∀ {q : List Str}, p = joinP q → OkNames q → FineO ox → FineO oy → SpecO ox oy q l
  | ox, oy, _, _, .mk (p := p) (l := l) h, q, hp, hq, hx, hy => by
    obtain ⟨s, i, o⟩ := h.spec hp hq hx.kids hy.kids
    have h1 : ∀ n, vN n ox ≠ vN n oy → (⟨joinP (q ++ n), vN n ox, vN n oy⟩ : Change) ∈ (if valO ox = valO oy then [] else [⟨p, valO ox, valO oy⟩]) ++ l := fun n hne => by
      cases n with
      | nil =>
        have hv : valO ox ≠ valO oy := hne
        rw [if_neg hv, List.append_nil, hp]
        exact List.mem_append_left _ (List.mem_singleton.2 rfl)
      | cons a m => exact List.mem_append_right _ (o a m hne)
    refine ⟨List.pairwise_append.2 ⟨?_, s, fun c hc d hd => ?_⟩, fun c hc => ?_, h1⟩
    · split
      · exact List.Pairwise.nil
      · exact List.pairwise_singleton _ _
    · split at hc
      · simp at hc
      · rw [List.mem_singleton.1 hc]
        obtain ⟨a, m, rfl, hm⟩ := i d hd
        have ok := (neL_ok hx.kids hy.kids hm).1
        show cmpP p (joinP (q ++ a :: m)) < 0
        rw [hp, cmpP_join hq (hq.app ok), cmpL_self_app q (a :: m) (by simp)]
        decide
    · rcases List.mem_append.1 hc with hc | hc
      · split at hc
        · simp at hc
        · rename_i hne
          exact ⟨[], by rw [List.mem_singleton.1 hc, List.append_nil, hp]; rfl, hne⟩
      · obtain ⟨a, m, rfl, hm⟩ := i c hc
        exact ⟨a :: m, rfl, hm⟩
theorem DifsR.spec : ∀ {xs ys : List Node} {p : Str} {l : List Change}, DifsR xs ys p l → ∀ {q : List Str}, p = joinP q → OkNames q → FineL xs → FineL ys → SpecL xs ys q l
  | _, _, _, _, .nil, q, hp, hq, hx, hy => ⟨List.Pairwise.nil, fun c hc => by simp at hc, fun a m hne => absurd rfl hne⟩
  | _, _, _, _, .left (x := x) (xs := xs) (ys := ys) hh h1 h2, q, hp, hq, hx, hy => by
    obtain ⟨f1, f2, f3, f4⟩ := hx.cons
    have hly : ∀ k ∈ ys, Op.bytesLess x.name k.name = true := fun k hk => by
      cases ys with
      | nil => simp at hk
      | cons y r =>
        have hy0 := hh y rfl
        rcases List.mem_cons.1 hk with rfl | hk
        · exact hy0
        · exact less_trans hy0 (hy.cons.2.2.2 k hk)
    have hq2 : OkNames (q ++ [x.name]) := hq.snoc f2
    have e1 := h1.spec (q := q ++ [x.name]) (by rw [hp, belowP_join hq]) hq2 (fun z hz => by cases hz; exact f1) (fun z hz => by cases hz)
    have e2 := h2.spec hp hq f3 hy
    refine SpecL.join hq f2 (fun z hz => by cases hz; exact f1) (fun z hz => by cases hz) f3 hy (fun b => findK_cons x xs b) (fun b => ?_) f4 hly e1 e2
    split
    · rename_i e; subst e; exact findK_not fun k hk e => less_ne (hly k hk) e.symm
    · rfl
  | _, _, _, _, .right (y := y) (xs := xs) (ys := ys) hh h1 h2, q, hp, hq, hx, hy => by
    obtain ⟨f1, f2, f3, f4⟩ := hy.cons
    have hlx : ∀ k ∈ xs, Op.bytesLess y.name k.name = true := fun k hk => by
      cases xs with
      | nil => simp at hk
      | cons x r =>
        have hx0 := hh x rfl
        rcases List.mem_cons.1 hk with rfl | hk
        · exact hx0
        · exact less_trans hx0 (hx.cons.2.2.2 k hk)
    have hq2 : OkNames (q ++ [y.name]) := hq.snoc f2
    have e1 := h1.spec (q := q ++ [y.name]) (by rw [hp, belowP_join hq]) hq2 (fun z hz => by cases hz) (fun z hz => by cases hz; exact f1)
    have e2 := h2.spec hp hq hx f3
    refine SpecL.join hq f2 (fun z hz => by cases hz) (fun z hz => by cases hz; exact f1) hx f3 (fun b => ?_) (fun b => findK_cons y ys b) hlx f4 e1 e2
    split
    · rename_i e; subst e; exact findK_not fun k hk e => less_ne (hlx k hk) e.symm
    · rfl
  | _, _, _, _, .both (x := x) (y := y) (xs := xs) (ys := ys) hh1 hh2 h1 h2, q, hp, hq, hx, hy => by
    obtain ⟨f1, f2, f3, f4⟩ := hx.cons
    obtain ⟨g1, g2, g3, g4⟩ := hy.cons
    have hn := less_tri hh1 hh2
    have hq2 : OkNames (q ++ [y.name]) := hq.snoc g2
    have e1 := h1.spec (q := q ++ [y.name]) (by rw [hp, belowP_join hq]) hq2 (fun z hz => by cases hz; exact f1) (fun z hz => by cases hz; exact g1)
    have e2 := h2.spec hp hq f3 g3
    exact SpecL.join hq g2 (fun z hz => by cases hz; exact f1) (fun z hz => by cases hz; exact g1) f3 g3 (fun b => by rw [← hn]; exact findK_cons x xs b) (fun b => findK_cons y ys b) (by rw [← hn]; exact f4) g4 e1 e2
end
end Go.Proofs.YtgmomhdammdjgaaGreat
