/-
  A difference applied leads there; turned round; there is none just of trees with the same values; what applies differs by just that. Plain lemmas; no program in sight.
-/
import Derived.Test.YtgmomhdammdjgaaGreatLawE
set_option linter.unusedVariables false
set_option linter.unusedSimpArgs false
namespace Go.Proofs.YtgmomhdammdjgaaGreat
open Go Go.Proofs Go.RowKit

/-! ### Ways and things -/
theorem vN_thing : ∀ {n : List Str} {x : Node}, vN n (some x) ≠ Val.zero → ∃ m, (n, vN n (some x), m) ∈ x.things
  | [], x, h => ⟨x.marks, Node.root_mem x⟩
  | a :: r, x, h => by
    have hm : vN r (findK x.kids a) ≠ Val.zero := h
    cases hk : findK x.kids a with
    | none => rw [hk, vN_none] at hm; exact absurd rfl hm
    | some k =>
      rw [hk] at hm
      obtain ⟨m, h1⟩ := vN_thing hm
      obtain ⟨h2, h3⟩ := findK_some hk
      refine ⟨m, ?_⟩
      rw [Node.things_eq]
      have e : vN (a :: r) (some x) = vN r (some k) := by show vN r (findK x.kids a) = _; rw [hk]
      rw [e, ← h3]
      exact List.mem_cons_of_mem _ (Node.thingsL_mem h2 h1)
theorem thing_vN : ∀ {n : List Str} {x : Node} {v : Val} {m : Marks}, x.Fine → (n, v, m) ∈ x.things → vN n (some x) = v
  | n, x, v, m, hf, ht => by
    rw [Node.things_eq] at ht
    rcases List.mem_cons.1 ht with h | h
    · cases h; rfl
    · obtain ⟨k, hk, e, he, h2⟩ := Node.thingsL_of h
      obtain ⟨en, ev, em⟩ := e
      cases h2
      show vN en (findK x.kids k.name) = _
      rw [findK_of hf.rise hk]
      exact thing_vN (hf.kid hk) he
  termination_by n => n.length
  decreasing_by all_goals (subst_vars; simp_all)
def NZ (x : Node) : Prop := ∀ e ∈ x.things, e.2.1.kind ≠ 0
theorem Valid.nz {x : Node} (h : Valid x) : NZ x := fun e he => own_kind (h.own e he)
theorem kind_zero {v : Val} (h : v.kind ≠ 0) : v ≠ Val.zero := fun e => h (by rw [e]; rfl)
theorem joinP_inj {a b : List Str} (ha : OkNames a) (hb : OkNames b) (h : joinP a = joinP b) : a = b := by
  rw [← pieces_joinP _ ha, h, pieces_joinP _ hb]
theorem flat_thing {x : Node} (h : x.Fine) {e : Entry} : e ∈ x.flat [] ↔ ∃ n m, e = ⟨joinP n, vN n (some x), m⟩ ∧ (n, vN n (some x), m) ∈ x.things := by
  rw [Node.flat0 h, List.mem_map]
  constructor
  · rintro ⟨⟨n, v, m⟩, ht, rfl⟩
    have := thing_vN h ht
    subst this
    exact ⟨n, m, rfl, ht⟩
  · rintro ⟨n, m, rfl, ht⟩
    exact ⟨_, ht, rfl⟩
theorem valP_vN {x : Node} (h : x.Fine) {n : List Str} (hn : OkNames n) : valP (x.flat []) (joinP n) = vN n (some x) := by
  by_cases h0 : vN n (some x) = Val.zero
  · by_cases he : ∃ e ∈ x.flat [], e.path = joinP n
    · obtain ⟨e, he, hp⟩ := he
      obtain ⟨n', m, rfl, ht⟩ := (flat_thing h).1 he
      have : n' = n := joinP_inj (Node.things_ok h _ ht) hn hp
      subst this
      exact valP_mem (flat_sorted h) he
    · rw [h0]; exact valP_not fun e he' hp => he ⟨e, he', hp⟩
  · obtain ⟨m, hm⟩ := vN_thing h0
    exact valP_mem (flat_sorted h) ((flat_thing h).2 ⟨n, m, rfl, hm⟩)
theorem vN_okN {x : Node} (h : x.Fine) {n : List Str} (h0 : vN n (some x) ≠ Val.zero) : OkNames n := vN_ok (fun z hz => by cases hz; exact h) h0
/-! ### The list of a difference -/
theorem pw_ext {α : Type} {R : α → α → Prop} (asym : ∀ a b, R a b → ¬ R b a) : ∀ {a b : List α}, a.Pairwise R → b.Pairwise R → (∀ e, e ∈ a ↔ e ∈ b) → a = b := by
  have irr : ∀ a, ¬ R a a := fun a h => asym a a h h
  intro a
  induction a with
  | nil =>
    intro b _ _ h
    cases b with
    | nil => rfl
    | cons y b => have := (h y).2 List.mem_cons_self; simp at this
  | cons x a ih =>
    intro b ha hb h
    cases b with
    | nil => have := (h x).1 List.mem_cons_self; simp at this
    | cons y b =>
      obtain ⟨ha1, ha2⟩ := List.pairwise_cons.1 ha
      obtain ⟨hb1, hb2⟩ := List.pairwise_cons.1 hb
      have hxy : x = y := by
        rcases List.mem_cons.1 ((h x).1 List.mem_cons_self) with e | hx
        · exact e
        · rcases List.mem_cons.1 ((h y).2 List.mem_cons_self) with e | hy
          · exact e.symm
          · exact absurd (ha1 y hy) (asym _ _ (hb1 x hx))
      subst hxy
      rw [ih ha2 hb2 (fun e => ?_)]
      constructor
      · intro he
        rcases List.mem_cons.1 ((h e).1 (List.mem_cons_of_mem _ he)) with rfl | he'
        · exact absurd (ha1 e he) (irr e)
        · exact he'
      · intro he
        rcases List.mem_cons.1 ((h e).2 (List.mem_cons_of_mem _ he)) with rfl | he'
        · exact absurd (hb1 e he) (irr e)
        · exact he'
theorem cmpP_asym {a b : Str} (h : cmpP a b < 0) : ¬ cmpP b a < 0 := fun h2 => by
  have := cmpP_trans h h2
  rw [cmpP_refl] at this; omega
def DifOK (x y : Node) (l : List Change) : Prop := SortedC l ∧ ∀ c, c ∈ l ↔ ∃ n, c = ⟨joinP n, vN n (some x), vN n (some y)⟩ ∧ vN n (some x) ≠ vN n (some y)
theorem difOK {x y : Node} {l : List Change} (h : DifR (some x) (some y) [] l) (hx : x.Fine) (hy : y.Fine) : DifOK x y l := by
  obtain ⟨s, i, o⟩ := h.spec (q := []) rfl (fun n hn => by simp at hn) (fun z hz => by cases hz; exact hx) (fun z hz => by cases hz; exact hy)
  refine ⟨s, fun c => ⟨fun hc => i c hc, ?_⟩⟩
  rintro ⟨n, rfl, hn⟩
  exact o n hn
theorem DifOK.uniq {x y : Node} {l l' : List Change} (h : DifOK x y l) (h' : DifOK x y l') : l = l' :=
  pw_ext (R := fun a b : Change => cmpP a.path b.path < 0) (fun a b => cmpP_asym) h.1 h'.1 fun c => (h.2 c).trans (h'.2 c).symm
def turnC (c : Change) : Change := ⟨c.path, c.new, c.old⟩
theorem DifOK.turn {x y : Node} {l : List Change} (h : DifOK x y l) : DifOK y x (l.map turnC) := by
  refine ⟨?_, fun c => ?_⟩
  · unfold SortedC
    rw [List.pairwise_map]
    exact h.1
  · rw [List.mem_map]
    constructor
    · rintro ⟨d, hd, rfl⟩
      obtain ⟨n, rfl, hn⟩ := (h.2 d).1 hd
      exact ⟨n, rfl, Ne.symm hn⟩
    · rintro ⟨n, rfl, hn⟩
      exact ⟨_, (h.2 _).2 ⟨n, rfl, Ne.symm hn⟩, rfl⟩
/-! ### The same values -/
mutual
def Node.sameT : Node → Node → Bool
  | .mk _ v _ ks, .mk _ v' _ ks' => decide (v = v') && decide (ks.map Node.name = ks'.map Node.name) && Node.sameTL ks ks'
def Node.sameTL : List Node → List Node → Bool
  | a :: r, b :: s => Node.sameT a b && Node.sameTL r s
  | _, _ => true
end
theorem Node.sameT_eq (x y : Node) : Node.sameT x y = (decide (x.value = y.value) && decide (x.kids.map Node.name = y.kids.map Node.name) && Node.sameTL x.kids y.kids) := by cases x; cases y; rfl
theorem sameTL_find : ∀ {xs ys : List Node} {a : Str}, xs.map Node.name = ys.map Node.name → Node.sameTL xs ys = true → (findK xs a = none ∧ findK ys a = none) ∨ ∃ k k', findK xs a = some k ∧ findK ys a = some k' ∧ Node.sameT k k' = true
  | [], [], a, _, _ => .inl ⟨rfl, rfl⟩
  | [], y :: ys, a, h, _ => by simp at h
  | x :: xs, [], a, h, _ => by simp at h
  | x :: xs, y :: ys, a, h, hs => by
    simp only [List.map_cons, List.cons.injEq] at h
    simp only [Node.sameTL, Bool.and_eq_true] at hs
    rw [findK_cons, findK_cons, h.1]
    by_cases ha : y.name = a
    · rw [if_pos ha, if_pos ha]; exact .inr ⟨x, y, rfl, rfl, hs.1⟩
    · rw [if_neg ha, if_neg ha]; exact sameTL_find h.2 hs.2
theorem sameT_vN : ∀ {n : List Str} {x y : Node}, Node.sameT x y = true → vN n (some x) = vN n (some y)
  | [], x, y, h => by
    rw [Node.sameT_eq] at h
    simp only [Bool.and_eq_true, decide_eq_true_eq] at h
    exact h.1.1
  | a :: m, x, y, h => by
    rw [Node.sameT_eq] at h
    simp only [Bool.and_eq_true, decide_eq_true_eq] at h
    show vN m (findK x.kids a) = vN m (findK y.kids a)
    rcases sameTL_find (a := a) h.1.2 h.2 with ⟨h1, h2⟩ | ⟨k, k', h1, h2, h3⟩
    · rw [h1, h2]
    · rw [h1, h2]; exact sameT_vN h3
theorem rise_pw {l : List Str} (h : Rise l) : l.Pairwise (fun a b => Op.bytesLess a b = true) :=
  List.pairwise_iff_getElem.2 fun i j hi hj hij => h i j _ _ hij (List.getElem?_eq_getElem hi) (List.getElem?_eq_getElem hj)
theorem NZ.kid {x k : Node} (h : NZ x) (hk : k ∈ x.kids) : NZ k := fun e he => by
  have := h (k.name :: e.1, e.2) (by rw [Node.things_eq]; exact List.mem_cons_of_mem _ (Node.thingsL_mem hk he))
  exact this
theorem sameTL_of : ∀ {xs ys : List Node}, (∀ (i : Nat) (k k' : Node), xs[i]? = some k → ys[i]? = some k' → Node.sameT k k' = true) → Node.sameTL xs ys = true
  | [], _, _ => by unfold Node.sameTL; rfl
  | x :: xs, [], _ => by unfold Node.sameTL; rfl
  | x :: xs, y :: ys, h => by
    simp only [Node.sameTL, Bool.and_eq_true]
    exact ⟨h 0 x y rfl rfl, sameTL_of fun i k k' h1 h2 => h (i + 1) k k' (by simpa using h1) (by simpa using h2)⟩
theorem find_iff {x : Node} (hf : x.Fine) (hz : NZ x) {a : Str} : a ∈ x.kids.map Node.name ↔ vN [a] (some x) ≠ Val.zero := by
  constructor
  · intro h
    obtain ⟨k, hk, rfl⟩ := List.mem_map.1 h
    show vN [] (findK x.kids k.name) ≠ _
    rw [findK_of hf.rise hk]
    exact kind_zero (hz.kid hk _ (Node.root_mem k))
  · intro h
    have h2 : vN [] (findK x.kids a) ≠ Val.zero := h
    cases hk : findK x.kids a with
    | none => rw [hk] at h2; exact absurd rfl h2
    | some k => obtain ⟨h3, h4⟩ := findK_some hk; exact List.mem_map.2 ⟨k, h3, h4⟩
theorem vN_sameT : ∀ (n : Nat) (x y : Node), x.size = n → x.Fine → y.Fine → NZ x → NZ y → (∀ n, vN n (some x) = vN n (some y)) → Node.sameT x y = true := by
  intro n
  induction n using Nat.strongRecOn with
  | _ n ih =>
    intro x y hn hx hy zx zy h
    have hnames : x.kids.map Node.name = y.kids.map Node.name :=
      pw_ext (R := fun a b : Str => Op.bytesLess a b = true) (fun a b h1 h2 => by rw [less_asym h1] at h2; cases h2) (rise_pw hx.rise) (rise_pw hy.rise) fun a => by
        rw [find_iff hx zx, find_iff hy zy, h]
    rw [Node.sameT_eq]
    simp only [Bool.and_eq_true, decide_eq_true_eq]
    refine ⟨⟨h [], hnames⟩, sameTL_of fun i k k' hk hk' => ?_⟩
    have m1 := List.mem_of_getElem? hk
    have m2 := List.mem_of_getElem? hk'
    have hnm : k.name = k'.name := by
      have e1 : (x.kids.map Node.name)[i]? = some k.name := by rw [List.getElem?_map, hk]; rfl
      have e2 : (y.kids.map Node.name)[i]? = some k'.name := by rw [List.getElem?_map, hk']; rfl
      rw [hnames, e2] at e1
      exact (Option.some.inj e1).symm
    refine ih k.size (by have := Node.size_kid m1; omega) k k' rfl (hx.kid m1) (hy.kid m2) (zx.kid m1) (zy.kid m2) fun r => ?_
    have h1 := h (k.name :: r)
    have e1 : vN (k.name :: r) (some x) = vN r (some k) := by show vN r (findK x.kids k.name) = _; rw [findK_of hx.rise m1]
    have e2 : vN (k.name :: r) (some y) = vN r (some k') := by show vN r (findK y.kids k.name) = _; rw [hnm, findK_of hy.rise m2]
    rw [← e1, ← e2]; exact h1
theorem DifOK.nil_iff {x y : Node} {l : List Change} (h : DifOK x y l) (hx : x.Fine) (hy : y.Fine) (zx : NZ x) (zy : NZ y) : decide (l = []) = Node.sameT x y := by
  rw [Bool.eq_iff_iff, decide_eq_true_eq]
  constructor
  · intro e
    refine vN_sameT _ x y rfl hx hy zx zy fun n => ?_
    by_cases hn : vN n (some x) = vN n (some y)
    · exact hn
    · have := (h.2 _).2 ⟨n, rfl, hn⟩
      rw [e] at this; simp at this
  · intro hs
    cases l with
    | nil => rfl
    | cons c r =>
      obtain ⟨n, _, hn⟩ := (h.2 c).1 List.mem_cons_self
      exact absurd (sameT_vN hs) hn
end Go.Proofs.YtgmomhdammdjgaaGreat
