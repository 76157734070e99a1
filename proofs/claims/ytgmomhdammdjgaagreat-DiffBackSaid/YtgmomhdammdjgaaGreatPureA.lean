/-
  Texts and paths as lists of bytes: pieces, names, order. Plain definitions and lemmas; no program in sight.
-/
import Derived.Test.YtgmomhdammdjgaaGreatSlice
set_option linter.unusedVariables false
set_option linter.unusedSimpArgs false
namespace Go.Proofs.YtgmomhdammdjgaaGreat

/-- a text cut at its slashes: never empty -/
def splitOn : Str → List Str
  | [] => [[]]
  | c :: r => if c = 47 then [] :: splitOn r else match splitOn r with
    | p :: ps => (c :: p) :: ps
    | [] => [[c]]
def pieces (s : Str) : List Str := if s = [] then [] else splitOn s
theorem splitOn_ne (s : Str) : splitOn s ≠ [] := by
  cases s with
  | nil => simp [splitOn]
  | cons c r =>
    simp only [splitOn]
    split
    · simp
    · split <;> simp
theorem splitOn_none : ∀ {t : Str}, (∀ c ∈ t, c ≠ 47) → splitOn t = [t] := by
  intro t
  induction t with
  | nil => intro _; rfl
  | cons c r ih =>
    intro h
    have hc : c ≠ 47 := h c (by simp)
    simp only [splitOn, if_neg hc, ih (fun x hx => h x (by simp [hx]))]
theorem splitOn_at : ∀ {t : Str} {k : Nat}, (∀ j, j < k → t[j]? ≠ some 47) → t[k]? = some 47 → splitOn t = t.take k :: splitOn (t.drop (k + 1)) := by
  intro t
  induction t with
  | nil => intro k _ h; simp at h
  | cons c r ih =>
    intro k h hk
    cases k with
    | zero =>
      simp at hk
      subst hk
      simp [splitOn]
    | succ k =>
      have hc : c ≠ 47 := fun e => h 0 (by omega) (by simp [e])
      have hr := ih (k := k) (fun j hj => by have := h (j + 1) (by omega); simpa using this) (by simpa using hk)
      simp only [splitOn, if_neg hc, hr, List.take_succ_cons, List.drop_succ_cons]
/-- where the cutting of s stands at i: l is cut, the next piece began at f -/
structure PInv (s : Str) (l : List Str) (f i : Nat) : Prop where
  fi : f ≤ i
  is_ : i ≤ s.length
  sp : splitOn s = l ++ splitOn (s.drop f)
  no : ∀ j, f ≤ j → j < i → s[j]? ≠ some 47
  lf : l.length ≤ f
theorem PInv.start (s : Str) : PInv s [] 0 0 := ⟨Nat.le_refl _, Nat.zero_le _, by simp, fun j h1 h2 => by omega, by simp⟩
theorem PInv.keep {s : Str} {l : List Str} {f i : Nat} {c : UInt8} (h : PInv s l f i) (hc : s[i]? = some c) (hn : c ≠ 47) : PInv s l f (i + 1) :=
  ⟨by have := h.fi; omega, (List.getElem?_eq_some_iff.1 hc).1, h.sp, fun j h1 h2 => by
    by_cases hj : j = i
    · subst hj; rw [hc]; simpa using hn
    · exact h.no j h1 (by omega), h.lf⟩
theorem PInv.cut {s : Str} {l : List Str} {f i : Nat} (h : PInv s l f i) (hc : s[i]? = some 47) : PInv s (l ++ [(s.drop f).take (i - f)]) (i + 1) (i + 1) := by
  have hfi := h.fi
  refine ⟨Nat.le_refl _, (List.getElem?_eq_some_iff.1 hc).1, ?_, fun j h1 h2 => by omega, ?_⟩
  · have h1 := splitOn_at (t := s.drop f) (k := i - f) (fun j hj => by
      rw [List.getElem?_drop]; exact h.no (f + j) (by omega) (by omega)) (by rw [List.getElem?_drop, show f + (i - f) = i from by omega]; exact hc)
    rw [h.sp, h1, List.drop_drop, show f + (i - f + 1) = i + 1 from by omega]
    simp
  · have := h.lf
    simp; omega
theorem PInv.last {s : Str} {l : List Str} {f : Nat} (h : PInv s l f s.length) : splitOn s = l ++ [s.drop f] := by
  rw [h.sp, splitOn_none]
  intro c hc
  obtain ⟨j, hj, rfl⟩ := List.getElem_of_mem hc
  have hj' : f + j < s.length := by simp at hj; omega
  have := h.no (f + j) (by omega) hj'
  rw [List.getElem?_eq_getElem hj'] at this
  simpa using this
/-- a name -/
def nameOk (s : Str) : Bool := (decide (1 ≤ s.length) && decide (s.length ≤ 255)) && (!decide (s = [46]) && !decide (s = [46, 46])) && s.all (fun c => !decide (c = 47) && !decide (c = 0))
theorem all_take {α : Type} {p : α → Bool} {l : List α} {i : Nat} {c : α} (h : l[i]? = some c) : (l.take (i + 1)).all p = ((l.take i).all p && p c) := by
  obtain ⟨hlt, rfl⟩ := List.getElem?_eq_some_iff.1 h
  rw [List.take_succ_eq_append_getElem hlt, List.all_append]; simp
theorem all_bad {α : Type} {p : α → Bool} {l : List α} {x : α} (h : x ∈ l) (hx : p x = false) : l.all p = false := by
  rw [Bool.eq_false_iff]; intro ha; have := List.all_eq_true.1 ha x h; rw [hx] at this; cases this
theorem nameOk_early {s : Str} (h : ((((decide ((s.length : Int) < 1)) || (decide (255 < (s.length : Int)))) || (decide (s = [46]))) || (decide (s = [46, 46]))) = true) : nameOk s = false := by
  rw [Bool.eq_false_iff]
  intro hn
  simp only [nameOk, Bool.and_eq_true, decide_eq_true_eq, Bool.not_eq_true', decide_eq_false_iff_not] at hn
  simp only [Bool.or_eq_true, decide_eq_true_eq] at h
  obtain ⟨⟨⟨h1, h2⟩, h3, h4⟩, h5⟩ := hn
  rcases h with ((h | h) | h) | h
  · omega
  · omega
  · exact h3 h
  · exact h4 h
theorem nameOk_bad {s : Str} {j : Nat} {c : UInt8} (hc : s[j]? = some c) (h : (decide (c = 47) || decide (c = 0)) = true) : nameOk s = false := by
  rw [Bool.eq_false_iff]
  intro hn
  simp only [nameOk, Bool.and_eq_true] at hn
  have := List.all_eq_true.1 hn.2 c (List.mem_of_getElem? hc)
  simp only [Bool.and_eq_true, Bool.not_eq_true'] at this
  rw [this.1, this.2] at h
  cases h
theorem nameOk_good {s : Str} (h : ((((decide ((s.length : Int) < 1)) || (decide (255 < (s.length : Int)))) || (decide (s = [46]))) || (decide (s = [46, 46]))) = false) (ha : s.all (fun c => !decide (c = 47) && !decide (c = 0)) = true) : nameOk s = true := by
  simp only [Bool.or_eq_false_iff, decide_eq_false_iff_not] at h
  obtain ⟨⟨⟨h1, h2⟩, h3⟩, h4⟩ := h
  simp only [nameOk, Bool.and_eq_true, ha, decide_eq_true_eq, Bool.not_eq_true', decide_eq_false_iff_not]
  exact ⟨⟨⟨by omega, by omega⟩, h3, h4⟩, trivial⟩
theorem splitOn_le : ∀ {t x : Str}, x ∈ splitOn t → x.length ≤ t.length := by
  intro t
  induction t with
  | nil => intro x h; simp [splitOn] at h; simp [h]
  | cons c r ih =>
    intro x h
    simp only [splitOn] at h
    split at h
    · rcases List.mem_cons.1 h with rfl | h
      · simp
      · have := ih h; simp; omega
    · split at h
      · rename_i p ps hp
        rcases List.mem_cons.1 h with rfl | h
        · have := ih (x := p) (by rw [hp]; simp); simp; omega
        · have := ih (x := x) (by rw [hp]; simp [h]); simp; omega
      · simp at h; simp [h]
theorem pieces_le {t x : Str} (h : x ∈ pieces t) : x.length ≤ t.length := by
  unfold pieces at h
  split at h
  · simp at h
  · exact splitOn_le h
theorem splitOn_count : ∀ (t : Str), (splitOn t).length ≤ t.length + 1 := by
  intro t
  induction t with
  | nil => simp [splitOn]
  | cons c r ih =>
    simp only [splitOn]
    split
    · simp; omega
    · split
      · rename_i p ps hp
        rw [hp] at ih
        simp at ih ⊢; omega
      · simp
theorem pieces_count (t : Str) : (pieces t).length ≤ t.length + 1 := by
  unfold pieces
  split
  · simp
  · exact splitOn_count t
/-- pieces as one text -/
def joinP : List Str → Str
  | [] => []
  | [a] => a
  | a :: b :: r => a ++ 47 :: joinP (b :: r)
/-- names of a path, or the error's number -/
def splitP (p : Str) (most : Int) : List Str × Int :=
  if (max most 0) < ((pieces p).length : Int) then ([], 31) else if (pieces p).all nameOk then (pieces p, 0) else ([], 30)
/-- the order of paths' pieces: -1, 0, 1 -/
def cmpL : List Str → List Str → Int
  | [], [] => 0
  | [], _ :: _ => -1
  | _ :: _, [] => 1
  | a :: x, b :: y => if Op.bytesLess a b then -1 else if Op.bytesLess b a then 1 else cmpL x y
def cmpP (a b : Str) : Int := cmpL (pieces a) (pieces b)
theorem u8_47 (c : UInt8) : decide ((c.toNat : Int) = 47) = decide (c = 47) := by
  rw [Bool.eq_iff_iff]
  simp only [decide_eq_true_eq]
  constructor
  · intro h
    exact UInt8.toNat_inj.1 (by have : (47 : UInt8).toNat = 47 := rfl; omega)
  · intro h; subst h; rfl
theorem u8_0 (c : UInt8) : decide ((c.toNat : Int) = 0) = decide (c = 0) := by
  rw [Bool.eq_iff_iff]
  simp only [decide_eq_true_eq]
  constructor
  · intro h
    exact UInt8.toNat_inj.1 (by have : (0 : UInt8).toNat = 0 := rfl; omega)
  · intro h; subst h; rfl
theorem len_flat1 {α : Type} (enc : α → List Value) (n : Nat) (h : ∀ x, (enc x).length = n) (l : List α) : (l.flatMap enc).length = l.length * n := by
  induction l with
  | nil => simp
  | cons x l ih => simp [h, ih, Nat.add_mul, Nat.add_comm]
theorem chunk_flat {α : Type} (enc : α → List Value) (n : Nat) (h : ∀ x, (enc x).length = n) : ∀ (l : List α) (cs : List Value) (i : Nat) (x : α), cs.take (l.length * n) = l.flatMap enc → l[i]? = some x → chunk cs 0 n i = enc x := by
  intro l
  induction l with
  | nil => intro cs i x _ hx; simp at hx
  | cons y l ih =>
    intro cs i x hc hx
    have hlen : n ≤ cs.length := by
      have := congrArg List.length hc
      rw [List.length_take, len_flat1 enc n h] at this
      simp only [List.length_cons, Nat.add_mul, Nat.one_mul] at this
      omega
    have e1 : cs.take n = enc y := by
      have h1 := congrArg (List.take n) hc
      rw [List.take_take] at h1
      simp only [List.length_cons, Nat.add_mul, Nat.one_mul, List.flatMap_cons] at h1
      rw [Nat.min_eq_left (by omega)] at h1
      rw [h1, List.take_append_of_le_length (by rw [h]; omega), List.take_of_length_le (by rw [h]; omega)]
    have e2 : (cs.drop n).take (l.length * n) = l.flatMap enc := by
      have h1 := congrArg (List.drop n) hc
      rw [List.drop_take] at h1
      simp only [List.length_cons, Nat.add_mul, Nat.one_mul, List.flatMap_cons] at h1
      rw [show l.length * n + n - n = l.length * n from by omega] at h1
      rw [h1, List.drop_append_of_le_length (by rw [h]; omega), List.drop_of_length_le (by rw [h]; omega)]
      simp
    cases i with
    | zero =>
      simp at hx
      subst hx
      simp only [chunk, Nat.zero_mul, Nat.zero_add, List.drop_zero]
      exact e1
    | succ i =>
      have := ih (cs.drop n) i x e2 (by simpa using hx)
      rw [← this]
      simp only [chunk, List.drop_drop]
      congr 2
      rw [Nat.add_mul]; omega
/-- a row that was appended to, read -/
theorem RowIn.sl {α : Type} {M : PMem} {v : Value} {el sz n : Nat} {l : List α} (enc : α → List Value) (hsz : ∀ x, (enc x).length = sz) (h0 : 0 < sz) (h : RowIn M v el sz n (l.flatMap enc)) : n = l.length ∧ Sl M sz (byEnc enc) v l := by
  obtain ⟨h1, h2⟩ := h
  have hn : n = l.length := by
    rw [len_flat1 enc sz hsz] at h1
    exact (Nat.eq_of_mul_eq_mul_right h0 h1).symm
  subst hn
  refine ⟨rfl, ?_⟩
  rcases h2 with ⟨rfl, h2⟩ | ⟨g, cap, cs, rfl, hg, hnc, _, _, ht⟩
  · have : l = [] := List.eq_nil_of_length_eq_zero h2
    subst this
    exact Sl.nil M sz _
  · exact ⟨_, cap, rfl, hnc, .inr ⟨g, 0, cs, el, (0, 0), rfl, hg, fun i x hi => chunk_flat enc sz hsz l cs i x ht hi⟩⟩
/-! ### Order of paths -/
theorem less_at : ∀ {a b : Str} {i : Nat} {c d : UInt8}, a.take i = b.take i → a[i]? = some c → b[i]? = some d → c ≠ d → Op.bytesLess a b = decide (c.toNat < d.toNat) := by
  intro a
  induction a with
  | nil => intro b i c d _ h; simp at h
  | cons x a ih =>
    intro b i c d ht hc hd hne
    cases b with
    | nil => simp at hd
    | cons y b =>
      cases i with
      | zero =>
        simp at hc hd
        subst hc; subst hd
        simp only [Op.bytesLess]
        by_cases h : x < y
        · have : x.toNat < y.toNat := UInt8.lt_iff_toNat_lt.1 h
          simp [h, this]
        · have h1 : ¬ x.toNat < y.toNat := fun q => h (UInt8.lt_iff_toNat_lt.2 q)
          have h2 : (x == y) = false := by simpa using hne
          simp [h, h1, hne]
      | succ i =>
        simp only [List.take_succ_cons, List.cons.injEq] at ht
        obtain ⟨rfl, ht⟩ := ht
        have := ih ht (by simpa using hc) (by simpa using hd) hne
        simp only [Op.bytesLess]
        simp [this]
theorem less_pre : ∀ {a b : Str}, a.take (min a.length b.length) = b.take (min a.length b.length) → Op.bytesLess a b = decide (a.length < b.length) := by
  intro a
  induction a with
  | nil => intro b _; cases b <;> simp [Op.bytesLess]
  | cons x a ih =>
    intro b ht
    cases b with
    | nil => simp [Op.bytesLess]
    | cons y b =>
      simp only [List.length_cons, Nat.succ_min_succ, List.take_succ_cons, List.cons.injEq] at ht
      obtain ⟨rfl, ht⟩ := ht
      simp [Op.bytesLess, ih ht]
theorem take_step {α : Type} {a b : List α} {i : Nat} {c : α} (h : a.take i = b.take i) (hc : a[i]? = some c) (hd : b[i]? = some c) : a.take (i + 1) = b.take (i + 1) := by
  obtain ⟨h1, rfl⟩ := List.getElem?_eq_some_iff.1 hc
  obtain ⟨h2, h3⟩ := List.getElem?_eq_some_iff.1 hd
  rw [List.take_succ_eq_append_getElem h1, List.take_succ_eq_append_getElem h2, h, h3]
theorem less_tri {a b : Str} (h1 : Op.bytesLess a b = false) (h2 : Op.bytesLess b a = false) : a = b := by
  induction a generalizing b with
  | nil => cases b with
    | nil => rfl
    | cons y b => simp [Op.bytesLess] at h1
  | cons x a ih =>
    cases b with
    | nil => simp [Op.bytesLess] at h2
    | cons y b =>
      simp only [Op.bytesLess, Bool.or_eq_false_iff, Bool.and_eq_false_imp, decide_eq_false_iff_not, beq_iff_eq] at h1 h2
      have hxy : x = y := by
        rcases Nat.lt_trichotomy x.toNat y.toNat with h | h | h
        · exact absurd (UInt8.lt_iff_toNat_lt.2 h) (by simpa using h1.1)
        · exact UInt8.toNat_inj.1 h
        · exact absurd (UInt8.lt_iff_toNat_lt.2 h) (by simpa using h2.1)
      subst hxy
      rw [ih (h1.2 rfl) (h2.2 rfl)]
theorem less_irr (a : Str) : Op.bytesLess a a = false := by
  have := less_pre (a := a) (b := a) rfl
  simpa using this
theorem cmpL_drop : ∀ {x y : List Str} {i : Nat}, x.take i = y.take i → cmpL x y = cmpL (x.drop i) (y.drop i) := by
  intro x
  induction x with
  | nil =>
    intro y i h
    cases i with
    | zero => simp
    | succ i => cases y with
      | nil => simp
      | cons b y => simp at h
  | cons a x ih =>
    intro y i h
    cases i with
    | zero => simp
    | succ i => cases y with
      | nil => simp at h
      | cons b y =>
        simp only [List.take_succ_cons, List.cons.injEq] at h
        obtain ⟨rfl, h⟩ := h
        simp [cmpL, less_irr, ih h]
theorem cmpL_at {x y : List Str} {i : Nat} {a b : Str} (h : x.take i = y.take i) (ha : x[i]? = some a) (hb : y[i]? = some b) : cmpL x y = if Op.bytesLess a b then -1 else if Op.bytesLess b a then 1 else cmpL (x.drop (i + 1)) (y.drop (i + 1)) := by
  rw [cmpL_drop h]
  obtain ⟨h1, rfl⟩ := List.getElem?_eq_some_iff.1 ha
  obtain ⟨h2, rfl⟩ := List.getElem?_eq_some_iff.1 hb
  rw [List.drop_eq_getElem_cons h1, List.drop_eq_getElem_cons h2]
  rfl
theorem cmpL_end {x y : List Str} (h : x.take (min x.length y.length) = y.take (min x.length y.length)) : cmpL x y = if x.length < y.length then -1 else if y.length < x.length then 1 else 0 := by
  rw [cmpL_drop h]
  rcases Nat.lt_trichotomy x.length y.length with hl | hl | hl
  · rw [Nat.min_eq_left (by omega), List.drop_length, List.drop_eq_getElem_cons hl, if_pos hl]; rfl
  · rw [Nat.min_eq_left (by omega), List.drop_length, hl, List.drop_length, if_neg (by omega), if_neg (by omega)]; rfl
  · rw [Nat.min_eq_right (by omega), List.drop_length, List.drop_eq_getElem_cons hl, if_neg (by omega), if_pos hl]; rfl
/-- does p lie at root or below it? -/
def underP (p root : Str) : Bool := decide ((pieces p).take (pieces root).length = pieces root)
/-- what is above a path, and its last name -/
def aboveP (p : Str) : Str × Str := match (pieces p).getLast? with
  | none => ([], [])
  | some x => (joinP (pieces p).dropLast, x)
theorem joinP_snoc : ∀ {l : List Str} {x : Str}, l ≠ [] → joinP (l ++ [x]) = joinP l ++ 47 :: x := by
  intro l
  induction l with
  | nil => intro x h; exact absurd rfl h
  | cons a l ih =>
    intro x _
    cases l with
    | nil => rfl
    | cons b l =>
      have := ih (x := x) (by simp)
      simp only [List.cons_append] at this ⊢
      simp only [joinP, List.append_assoc, List.cons_append, this]
theorem joinP_split : ∀ (t : Str), joinP (splitOn t) = t := by
  intro t
  induction t with
  | nil => rfl
  | cons c r ih =>
    simp only [splitOn]
    split
    · rename_i hc
      subst hc
      have hne := splitOn_ne r
      cases h : splitOn r with
      | nil => exact absurd h hne
      | cons p ps => rw [h] at ih; simp [joinP, ih]
    · split
      · rename_i p ps hp
        rw [hp] at ih
        cases ps with
        | nil => simp [joinP] at ih ⊢; exact ih
        | cons q qs => simp [joinP] at ih ⊢; exact ih
      · rename_i h; exact absurd h (splitOn_ne r)
theorem joinP_pieces (t : Str) : joinP (pieces t) = t := by
  unfold pieces
  split
  · rename_i h; subst h; rfl
  · exact joinP_split t
theorem joinP_take_le : ∀ (l : List Str) (i : Nat), (joinP (l.take i)).length ≤ (joinP l).length := by
  intro l
  induction l with
  | nil => intro i; simp
  | cons a l ih =>
    intro i
    cases i with
    | zero => simp [joinP]
    | succ i =>
      cases l with
      | nil => simp
      | cons b l =>
        cases i with
        | zero => simp [joinP]
        | succ i =>
          have := ih (i + 1)
          simp only [List.take_succ_cons, joinP] at this ⊢
          simp; omega
theorem joinP_mem_le : ∀ {l : List Str} {x : Str}, x ∈ l → x.length ≤ (joinP l).length := by
  intro l
  induction l with
  | nil => intro x h; simp at h
  | cons a l ih =>
    intro x h
    cases l with
    | nil => simp at h; simp [joinP, h]
    | cons b l =>
      rcases List.mem_cons.1 h with rfl | h
      · simp [joinP]
      · have := ih h
        simp [joinP]; omega
theorem joinP_step {l : List Str} {i : Nat} {x : Str} (h : l[i]? = some x) (h0 : 0 < i) : joinP (l.take (i + 1)) = (joinP (l.take i) ++ [47]) ++ x := by
  obtain ⟨hlt, rfl⟩ := List.getElem?_eq_some_iff.1 h
  rw [List.take_succ_eq_append_getElem hlt, joinP_snoc]
  · simp
  · intro e
    have := congrArg List.length e
    rw [List.length_take] at this
    simp only [List.length_nil] at this
    omega
theorem joinP_step0 {l : List Str} {i : Nat} {x : Str} (h : l[i]? = some x) (h0 : i = 0) : joinP (l.take (i + 1)) = joinP (l.take i) ++ x := by
  subst h0
  obtain ⟨hlt, rfl⟩ := List.getElem?_eq_some_iff.1 h
  rw [List.take_succ_eq_append_getElem hlt]
  simp [joinP]
theorem aboveP_of {p : Str} {x : Str} (h : (pieces p)[(pieces p).length - 1]? = some x) : aboveP p = (joinP ((pieces p).take ((pieces p).length - 1)), x) := by
  unfold aboveP
  rw [List.getLast?_eq_getElem?, h, List.dropLast_eq_take]
theorem aboveP_nil {p : Str} (h : (pieces p).length = 0) : aboveP p = ([], []) := by
  unfold aboveP; rw [List.eq_nil_of_length_eq_zero h]; rfl
theorem underP_len {p r : Str} (h : (pieces p).length < (pieces r).length) : underP p r = false := by
  unfold underP
  rw [decide_eq_false_iff_not]
  intro e
  have := congrArg List.length e
  rw [List.length_take] at this; omega
theorem underP_at {p r : Str} {i : Nat} {x y : Str} (ht : (pieces p).take i = (pieces r).take i) (hx : (pieces p)[i]? = some x) (hy : (pieces r)[i]? = some y) (hne : x ≠ y) : underP p r = false := by
  unfold underP
  rw [decide_eq_false_iff_not]
  intro e
  rw [← e, List.getElem?_take] at hy
  split at hy
  · rw [hx] at hy; exact hne (Option.some.inj hy)
  · cases hy
theorem underP_all {p r : Str} (h : (pieces p).take (pieces r).length = pieces r) : underP p r = true := by
  unfold underP; rw [decide_eq_true_eq]; exact h
end Go.Proofs.YtgmomhdammdjgaaGreat
