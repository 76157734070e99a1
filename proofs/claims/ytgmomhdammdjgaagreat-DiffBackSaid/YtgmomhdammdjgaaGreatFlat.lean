/-
  A tree as the list of its paths: what comes last is laid behind; a subtree, a value at a path. Plain definitions and lemmas; no program in sight.
-/
import Derived.Test.YtgmomhdammdjgaaGreatOrd
set_option linter.unusedVariables false
set_option linter.unusedSimpArgs false
namespace Go.Proofs.YtgmomhdammdjgaaGreat
open Go Go.Proofs Go.RowKit

/-- names that may be, rising, and only a directory has children -/
inductive Node.Fine : Node → Prop
  | mk {s : Str} {v : Val} {m : Marks} {ks : List Node} : Rise (ks.map Node.name) → (∀ k ∈ ks, nameOk k.name = true) → (ks ≠ [] → v.kind = 1) → (∀ k ∈ ks, Node.Fine k) → Node.Fine (.mk s v m ks)
theorem Node.Fine.ris {x : Node} (h : x.Fine) : x.Ris := by
  induction h with
  | mk h1 _ _ _ ih => exact .mk h1 ih
theorem Node.Fine.kid {x k : Node} (h : x.Fine) (hk : k ∈ x.kids) : k.Fine := by cases h with | mk _ _ _ h => exact h k hk
theorem Node.Fine.ok {x k : Node} (h : x.Fine) (hk : k ∈ x.kids) : nameOk k.name = true := by cases h with | mk _ h _ _ => exact h k hk
theorem Node.Fine.dir {x : Node} (h : x.Fine) (hk : x.kids ≠ []) : x.value.kind = 1 := by cases h with | mk _ _ h _ => exact h hk
theorem Node.Fine.rise {x : Node} (h : x.Fine) : Rise (x.kids.map Node.name) := by cases h with | mk h _ _ _ => exact h
theorem Node.Fine.named {x : Node} (h : x.Fine) (s : Str) : (x.named s).Fine := by
  cases h with | mk h1 h2 h3 h4 => exact .mk h1 h2 h3 h4
/-- a leaf -/
def leaf (v : Val) (m : Marks) : Node := .mk [] v m []
theorem leaf_fine (v : Val) (m : Marks) : (leaf v m).Fine := .mk (fun i j x y _ h => by simp at h) (by simp) (by simp) (by simp)

/-- a thing of a tree: its names from the root on -/
abbrev Thing := List Str × Val × Marks
mutual
def Node.things : Node → List Thing
  | .mk _ v m ks => ([], v, m) :: Node.thingsL ks
def Node.thingsL : List Node → List Thing
  | [] => []
  | k :: r => (Node.things k).map (fun e => (k.name :: e.1, e.2)) ++ Node.thingsL r
end
theorem Node.things_eq (x : Node) : x.things = ([], x.value, x.marks) :: Node.thingsL x.kids := by cases x; rfl
theorem Node.thingsL_append (a b : List Node) : Node.thingsL (a ++ b) = Node.thingsL a ++ Node.thingsL b := by
  induction a with
  | nil => rfl
  | cons x a ih => simp [Node.thingsL, ih]
theorem Node.thingsL_mem {l : List Node} {k : Node} (hk : k ∈ l) {e : Thing} (he : e ∈ k.things) : (k.name :: e.1, e.2) ∈ Node.thingsL l := by
  induction l with
  | nil => simp at hk
  | cons y l ih =>
    simp only [Node.thingsL, List.mem_append, List.mem_map]
    rcases List.mem_cons.1 hk with rfl | hk
    · exact .inl ⟨e, he, rfl⟩
    · exact .inr (ih hk)
theorem Node.thingsL_of {l : List Node} {t : Thing} (h : t ∈ Node.thingsL l) : ∃ k ∈ l, ∃ e ∈ k.things, t = (k.name :: e.1, e.2) := by
  induction l with
  | nil => simp [Node.thingsL] at h
  | cons y l ih =>
    simp only [Node.thingsL, List.mem_append, List.mem_map] at h
    rcases h with ⟨e, he, rfl⟩ | h
    · exact ⟨y, List.mem_cons_self, e, he, rfl⟩
    · obtain ⟨k, hk, e, he, rfl⟩ := ih h
      exact ⟨k, List.mem_cons_of_mem _ hk, e, he, rfl⟩
theorem Node.root_mem (x : Node) : (([] : List Str), x.value, x.marks) ∈ x.things := by rw [Node.things_eq]; exact List.mem_cons_self
/-! ### Names and paths -/
theorem nameOk_ne {s : Str} (h : nameOk s = true) : s ≠ [] := fun e => by subst e; simp [nameOk] at h
theorem nameOk_slash {s : Str} (h : nameOk s = true) : ∀ c ∈ s, c ≠ 47 := fun c hc e => by
  unfold nameOk at h
  simp only [Bool.and_eq_true] at h
  have := List.all_eq_true.1 h.2 c hc
  simp [e] at this
theorem splitOn_snoc {a b : Str} (hb : ∀ c ∈ b, c ≠ 47) : splitOn (a ++ 47 :: b) = splitOn a ++ [b] := by
  induction a with
  | nil => simp [splitOn, splitOn_none hb]
  | cons c a ih =>
    simp only [List.cons_append, splitOn]
    by_cases hc : c = 47
    · rw [if_pos hc, if_pos hc, ih]; rfl
    · rw [if_neg hc, if_neg hc, ih]
      have hne := splitOn_ne a
      cases hs : splitOn a with
      | nil => exact absurd hs hne
      | cons p ps => rfl
/-- names as they may stand in a path -/
def OkNames (q : List Str) : Prop := ∀ n ∈ q, nameOk n = true
theorem OkNames.snoc {q : List Str} {n : Str} (h : OkNames q) (hn : nameOk n = true) : OkNames (q ++ [n]) := fun x hx => by
  rcases List.mem_append.1 hx with hx | hx
  · exact h x hx
  · obtain rfl : x = n := by simpa using hx
    exact hn
theorem joinP_ne {q : List Str} (h : OkNames q) (hq : q ≠ []) : joinP q ≠ [] := by
  cases q with
  | nil => exact absurd rfl hq
  | cons a q =>
    have ha := nameOk_ne (h a List.mem_cons_self)
    cases q with
    | nil => simpa [joinP] using ha
    | cons b q => simp [joinP, ha]
theorem snocCases {α : Type} (q : List α) : q = [] ∨ ∃ r x, q = r ++ [x] := by
  rcases List.eq_nil_or_concat q with h | ⟨r, x, h⟩
  · exact .inl h
  · exact .inr ⟨r, x, by simpa using h⟩
theorem snocInd {α : Type} {P : List α → Prop} (h0 : P []) (h1 : ∀ q x, P q → P (q ++ [x])) (q : List α) : P q := by
  have : ∀ n (q : List α), q.length = n → P q := by
    intro n
    induction n with
    | zero => intro q hq; rw [List.eq_nil_of_length_eq_zero hq]; exact h0
    | succ n ih =>
      intro q hq
      rcases snocCases q with rfl | ⟨r, x, rfl⟩
      · simp at hq
      · exact h1 r x (ih r (by simpa using hq))
  exact this _ q rfl
theorem pieces_joinP : ∀ (q : List Str), OkNames q → pieces (joinP q) = q := by
  intro q
  refine snocInd (P := fun q => OkNames q → pieces (joinP q) = q) (fun _ => rfl) (fun q x ih h => ?_) q
  have hq : OkNames q := fun n hn => h n (List.mem_append_left _ hn)
  have hx : nameOk x = true := h x (by simp)
  have hs := nameOk_slash hx
  by_cases h0 : q = []
  · subst h0
    simp only [List.nil_append, joinP, pieces, if_neg (nameOk_ne hx), splitOn_none hs]
  · have hj := joinP_ne hq h0
    have hp := ih hq
    unfold pieces at hp
    rw [if_neg hj] at hp
    rw [joinP_snoc h0]
    unfold pieces
    rw [if_neg (by simp), splitOn_snoc hs, hp]
theorem belowP_join {q : List Str} {n : Str} (h : OkNames q) : belowP (joinP q) n = joinP (q ++ [n]) := by
  unfold belowP
  by_cases h0 : q = []
  · subst h0; simp [joinP]
  · rw [if_neg (joinP_ne h h0), joinP_snoc h0]; simp
theorem aboveP_join {q : List Str} {n : Str} (h : OkNames (q ++ [n])) : aboveP (joinP (q ++ [n])) = (joinP q, n) := by
  unfold aboveP
  rw [pieces_joinP _ h]
  simp
theorem cmpP_join {a b : List Str} (ha : OkNames a) (hb : OkNames b) : cmpP (joinP a) (joinP b) = cmpL a b := by unfold cmpP; rw [pieces_joinP _ ha, pieces_joinP _ hb]
theorem splitP_join {q : List Str} (h : OkNames q) (hl : q.length ≤ 64) : splitP (joinP q) 64 = (q, 0) := by
  unfold splitP
  rw [pieces_joinP _ h, if_neg (by omega), if_pos (List.all_eq_true.2 h)]
theorem splitP_ok {p : Str} (h : (splitP p 64).2 = 0) : (splitP p 64).1 = pieces p ∧ OkNames (pieces p) ∧ (pieces p).length ≤ 64 := by
  unfold splitP at h ⊢
  by_cases h1 : (max (64 : Int) 0) < ((pieces p).length : Int)
  · rw [if_pos h1] at h; simp at h
  · by_cases h2 : (pieces p).all nameOk = true
    · rw [if_neg h1, if_pos h2]
      exact ⟨rfl, fun n hn => List.all_eq_true.1 h2 n hn, by omega⟩
    · rw [if_neg h1, if_neg h2] at h; simp at h
/-! ### A tree's paths are its things' -/
def entT (q : List Str) (e : Thing) : Entry := ⟨joinP (q ++ e.1), e.2.1, e.2.2⟩
theorem Node.things_ok {x : Node} (h : x.Fine) : ∀ e ∈ x.things, OkNames e.1 := by
  induction h with
  | @mk s v m ks _ hok _ _ ih =>
    intro e he
    rw [Node.things_eq] at he
    rcases List.mem_cons.1 he with rfl | he
    · intro n hn; simp at hn
    · obtain ⟨k, hk, e', he', rfl⟩ := Node.thingsL_of he
      intro n hn
      rcases List.mem_cons.1 hn with rfl | hn
      · exact hok k hk
      · exact ih k hk e' he' n hn
theorem Node.flat_things {x : Node} (h : x.Fine) : ∀ (q : List Str), OkNames q → x.flat (joinP q) = x.things.map (entT q) := by
  induction h with
  | @mk s v m ks hr0 hok hd0 hf0 ih =>
    intro q hq
    clear hr0 hd0 hf0
    rw [Node.flat_eq, Node.things_eq, List.map_cons]
    have h0 : entT q ([], v, m) = ⟨joinP q, v, m⟩ := by simp [entT]
    rw [show (Node.mk s v m ks).value = v from rfl, show (Node.mk s v m ks).marks = m from rfl, show (Node.mk s v m ks).kids = ks from rfl, h0]
    congr 1
    clear h0
    induction ks with
    | nil => rfl
    | cons k r ihr =>
      simp only [Node.flatL, Node.thingsL, List.map_append, List.map_map]
      have hk := hok k List.mem_cons_self
      rw [belowP_join hq, ih k List.mem_cons_self (q ++ [k.name]) (hq.snoc hk)]
      congr 1
      · refine List.map_congr_left fun e _ => ?_
        simp [entT]
      · exact ihr (fun k' hk' => hok k' (List.mem_cons_of_mem _ hk')) (fun k' hk' => ih k' (List.mem_cons_of_mem _ hk'))
theorem Node.flat0 {x : Node} (h : x.Fine) : x.flat [] = x.things.map (entT []) := Node.flat_things h [] (fun n hn => by simp at hn)
/-! ### The last path is laid behind -/
theorem bsI_end {l : List Str} {t : Str} (h : ∀ x ∈ l, Op.bytesLess x t = true) : bsI l t = l.length :=
  bsI_of (Nat.le_refl _) (fun i x _ hx => h x (List.mem_of_getElem? hx)) (fun x hx => by rw [List.getElem?_eq_none (Nat.le_refl _)] at hx; cases hx)
theorem withN_things (y : Node) (hy : y.kids = []) (hyf : y.Fine) : ∀ (ns : List Str) (z : Node), z.Fine → OkNames ns → ns ≠ [] → (∀ e ∈ z.things, cmpL e.1 ns < 0) → (∃ e ∈ z.things, e.1 = ns.dropLast ∧ e.2.1.kind = 1) →
    wayB z ns = true ∧ Addable z ns ∧ (withN z ns y).things = z.things ++ [(ns, y.value, y.marks)] ∧ (withN z ns y).Fine := by
  intro ns
  induction ns with
  | nil => intro z _ _ h; exact absurd rfl h
  | cons n r ih =>
    intro z hz hok _ hlt hpar
    have hyt : ∀ s, (y.named s).things = [([], y.value, y.marks)] := fun s => by rw [Node.things_eq]; show _ :: Node.thingsL y.kids = _; rw [hy]; rfl
    have hn := hok n List.mem_cons_self
    cases r with
    | nil =>
      have hdir : z.value.kind = 1 := by
        obtain ⟨e, he, h1, h2⟩ := hpar
        rw [Node.things_eq] at he
        rcases List.mem_cons.1 he with rfl | he
        · exact h2
        · obtain ⟨k, _, e', _, rfl⟩ := Node.thingsL_of he
          simp at h1
      have hall : ∀ x ∈ z.kids.map Node.name, Op.bytesLess x n = true := by
        intro x hx
        obtain ⟨k, hk, rfl⟩ := List.mem_map.1 hx
        have hm : (k.name :: [], k.value, k.marks) ∈ z.things := by
          rw [Node.things_eq]
          exact List.mem_cons_of_mem _ (Node.thingsL_mem hk (Node.root_mem k))
        have := hlt _ hm
        simp only [cmpL] at this
        by_cases h1 : Op.bytesLess k.name n = true
        · exact h1
        · rw [if_neg h1] at this
          split at this <;> omega
      have hbi := bsI_end hall
      have hno : kidOf z n = none := by
        rw [kidOf, if_neg]
        rw [bsF, hbi, List.getElem?_eq_none (Nat.le_refl _)]
        simp
      refine ⟨by simp [wayB, hdir], ?_, ?_, ?_⟩
      · simp only [Addable, hno, true_and]
        rw [hbi, List.length_map]
      · simp only [withN, hno]
        rw [Node.things_eq, Node.things_eq z]
        show _ :: Node.thingsL (z.kids ++ [y.named n]) = _
        rw [Node.thingsL_append]
        simp only [Node.thingsL, hyt]
        simp [Node.named, Node.name, Node.value, Node.marks]
      · simp only [withN, hno]
        refine .mk ?_ ?_ (fun _ => hdir) ?_
        · intro i j a b hij ha hb
          rw [List.map_append, List.getElem?_append] at ha hb
          split at hb
          · rename_i hj
            rw [if_pos (by omega)] at ha
            exact hz.rise i j a b hij ha hb
          · rename_i hj
            have hb' : b = n := by
              have : j - (z.kids.map Node.name).length = 0 := by
                rcases Nat.eq_zero_or_pos (j - (z.kids.map Node.name).length) with h | h
                · exact h
                · rw [List.getElem?_eq_none (by simp only [List.length_cons, List.length_nil, List.map_cons, List.map_nil]; omega)] at hb; cases hb
              rw [this] at hb
              simpa [Node.named, Node.name] using hb.symm
            subst hb'
            split at ha
            · exact hall a (List.mem_of_getElem? ha)
            · rename_i hi
              have h1 := (List.getElem?_eq_some_iff.1 ha).1
              have h2 := (List.getElem?_eq_some_iff.1 hb).1
              simp only [List.map_cons, List.map_nil, List.length_cons, List.length_nil, List.length_map] at h1 h2 hi
              omega
        · intro k hk
          rcases List.mem_append.1 hk with hk | hk
          · exact hz.ok hk
          · obtain rfl : k = y.named n := by simpa using hk
            exact hn
        · intro k hk
          rcases List.mem_append.1 hk with hk | hk
          · exact hz.kid hk
          · obtain rfl : k = y.named n := by simpa using hk
            exact hyf.named n
    | cons m r =>
      obtain ⟨e, he, h1, h2⟩ := hpar
      rw [Node.things_eq] at he
      rcases List.mem_cons.1 he with rfl | he
      · simp at h1
      · obtain ⟨k, hk, e', he', rfl⟩ := Node.thingsL_of he
        simp only [List.dropLast_cons_cons, List.cons.injEq] at h1
        obtain ⟨hkn, h1⟩ := h1
        -- the child's place: it is the last
        obtain ⟨i, hi, hki⟩ := List.getElem_of_mem hk
        have hki' : z.kids[i]? = some k := by rw [List.getElem?_eq_getElem hi, hki]
        have hlast : ∀ j k', z.kids[j]? = some k' → i < j → False := by
          intro j k' hj hij
          have hr := hz.rise i j k.name k'.name hij (by rw [List.getElem?_map, hki']; rfl) (by rw [List.getElem?_map, hj]; rfl)
          have hm : (k'.name :: [], k'.value, k'.marks) ∈ z.things := by
            rw [Node.things_eq]
            exact List.mem_cons_of_mem _ (Node.thingsL_mem (List.mem_of_getElem? hj) (Node.root_mem k'))
          have := hlt _ hm
          simp only [cmpL] at this
          rw [hkn] at hr
          rw [if_neg (by rw [less_asym hr]; simp), if_pos hr] at this
          omega
        have hil : z.kids.length = i + 1 := by
          rcases Nat.lt_or_ge (i + 1) z.kids.length with h | h
          · exact (hlast (i + 1) _ (List.getElem?_eq_getElem h) (by omega)).elim
          · omega
        have hbi : bsI (z.kids.map Node.name) n = i := by
          refine bsI_of (by rw [List.length_map]; omega) (fun j x hj hx => ?_) (fun x hx => ?_)
          · rw [← hkn]
            exact hz.rise j i x k.name hj hx (by rw [List.getElem?_map, hki']; rfl)
          · rw [List.getElem?_map, hki'] at hx
            cases hx
            rw [hkn]; exact less_irr _
        have hko : kidOf z n = some k := by
          rw [kidOf, if_pos, hbi, hki']
          rw [bsF, hbi, List.getElem?_map, hki']
          simp [hkn]
        have hdir : z.value.kind = 1 := hz.dir (fun e => by rw [e] at hk; simp at hk)
        have hok' : OkNames (m :: r) := fun x hx => hok x (List.mem_cons_of_mem _ hx)
        obtain ⟨g1, g2, g3, g4⟩ := ih k (hz.kid hk) hok' (by simp) (fun e'' he'' => by
          have hm : (k.name :: e''.1, e''.2) ∈ z.things := by
            rw [Node.things_eq]
            exact List.mem_cons_of_mem _ (Node.thingsL_mem hk he'')
          have := hlt _ hm
          rw [hkn] at this
          simpa [cmpL_cons] using this) ⟨e', he', h1, h2⟩
        have htake : z.kids = z.kids.take i ++ [k] := by
          conv => lhs; rw [← List.take_append_drop i z.kids]
          rw [List.drop_eq_getElem_cons hi, hki, List.drop_eq_nil_of_le (by omega)]
        have hset : z.kids.set i (withN k (m :: r) y) = z.kids.take i ++ [withN k (m :: r) y] := by
          rw [List.set_eq_take_append_cons_drop, if_pos hi, List.drop_eq_nil_of_le (by omega)]
        have hw : withN z (n :: m :: r) y = .mk z.name z.value z.marks (z.kids.take i ++ [withN k (m :: r) y]) := by
          rw [withN_some (l := n :: m :: r) (n := n) rfl hko, hbi]
          exact congrArg _ hset
        refine ⟨?_, ?_, ?_, ?_⟩
        · simp only [wayB, hko, hdir, decide_true, Bool.true_and]
          exact g1
        · simp only [Addable, hko]; exact g2
        · rw [hw, Node.things_eq, Node.things_eq z]
          show _ :: Node.thingsL (z.kids.take i ++ [withN k (m :: r) y]) = _
          conv => rhs; rw [htake]
          rw [Node.thingsL_append, Node.thingsL_append]
          simp only [Node.thingsL, List.append_nil, withN_name, g3, List.map_append, List.map_cons, List.map_nil, hkn]
          simp [Node.value, Node.marks]
        · rw [hw]
          have hnm : (z.kids.take i ++ [withN k (m :: r) y]).map Node.name = z.kids.map Node.name := by
            conv => rhs; rw [htake]
            simp [withN_name]
          refine .mk (by rw [hnm]; exact hz.rise) ?_ (fun _ => hdir) ?_
          · intro k' hk'
            rcases List.mem_append.1 hk' with hk' | hk'
            · exact hz.ok (List.mem_of_mem_take hk')
            · obtain rfl : k' = withN k (m :: r) y := by simpa using hk'
              rw [withN_name]; exact hz.ok hk
          · intro k' hk'
            rcases List.mem_append.1 hk' with hk' | hk'
            · exact hz.kid (List.mem_of_mem_take hk')
            · obtain rfl : k' = withN k (m :: r) y := by simpa using hk'
              exact g4
end Go.Proofs.YtgmomhdammdjgaaGreat
