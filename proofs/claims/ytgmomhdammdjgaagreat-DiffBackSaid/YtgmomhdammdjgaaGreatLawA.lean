/-
  Trees that may be: what a check that finds nothing says; what stands at a path; the paths rise. Plain lemmas; no program in sight.
-/
import Derived.Test.YtgmomhdammdjgaaGreatLent
set_option linter.unusedVariables false
set_option linter.unusedSimpArgs false
namespace Go.Proofs.YtgmomhdammdjgaaGreat
open Go Go.Proofs Go.RowKit

/-- a tree that may be -/
structure Valid (x : Node) : Prop where
  fine : x.Fine
  own : ∀ e ∈ x.things, ownE e.2.1 e.2.2 0 = 0
  deep : ∀ e ∈ x.things, e.1.length ≤ 64
theorem ownE_kids {v : Val} {m : Marks} {k : Nat} (h : ownE v m k = 0) : ownE v m 0 = 0 ∧ (0 < k → v.kind = 1) ∧ v.kind ≠ 0 := by
  unfold ownE at h ⊢
  by_cases h1 : ((decide (v.kind < 1) || decide (3 < v.kind)) || (!decide (v.kind = 1) && decide (0 < (k : Int)))) = true
  · rw [if_pos h1] at h; omega
  · rw [if_neg h1] at h
    simp only [Bool.or_eq_true, Bool.and_eq_true, decide_eq_true_eq, Bool.not_eq_true', decide_eq_false_iff_not, not_or, not_and] at h1
    obtain ⟨⟨h2, h3⟩, h4⟩ := h1
    refine ⟨?_, fun hk => ?_, by omega⟩
    · rw [if_neg (by simp; omega)]; exact h
    · by_cases he : v.kind = 1
      · exact he
      · have := h4 he; omega
theorem e1E_zero {nm pv : Str} {b : Bool} (h : e1E nm b pv = 0) : nameOk nm = true ∧ (b = true → Op.bytesLess pv nm = true) := by
  unfold e1E at h
  by_cases hn : nameOk nm = true
  · refine ⟨hn, fun hb => ?_⟩
    rw [hn] at h
    cases hl : Op.bytesLess pv nm with
    | true => rfl
    | false => simp [hb, hl] at h
  · simp [hn] at h
theorem check_spec : ∀ (n : Nat) (ks : List Node), Node.sizeL ks ≤ n → ∀ (p : Str) (lv : Nat) (b : Bool) (pv : Str), (Node.checkL ks p lv b pv).2 = 0 →
    (∀ k ∈ ks, nameOk k.name = true ∧ k.Fine ∧ (∀ e ∈ k.things, ownE e.2.1 e.2.2 0 = 0 ∧ lv + 1 + e.1.length ≤ 64)) ∧ Rise (ks.map Node.name) ∧ (b = true → ∀ k ∈ ks, Op.bytesLess pv k.name = true) := by
  intro n
  induction n with
  | zero =>
    intro ks hs p lv b pv h
    cases ks with
    | nil => exact ⟨by simp, fun i j x y _ hx => by simp at hx, by simp⟩
    | cons k r => cases k; simp [Node.sizeL, Node.size] at hs
  | succ n ih =>
    intro ks hs p lv b pv h
    cases ks with
    | nil => exact ⟨by simp, fun i j x y _ hx => by simp at hx, by simp⟩
    | cons k r =>
      have hsz := Node.size_eq k
      simp only [Node.sizeL] at hs
      simp only [Node.checkL] at h
      by_cases hl : 64 < lv + 1
      · rw [if_pos hl] at h; simp at h
      · rw [if_neg hl] at h
        by_cases he : e2E k (e1E k.name b pv) = 0
        · rw [if_pos he] at h
          by_cases hb : (Node.checkB k (qpath p k.name lv) (lv + 1)).2 = 0
          · rw [if_pos hb] at h
            have he1 : e1E k.name b pv = 0 := by
              unfold e2E at he
              by_cases h0 : e1E k.name b pv = 0
              · exact h0
              · rw [if_neg h0] at he; exact absurd he h0
            have he2 : ownE k.value k.marks k.kids.length = 0 := by
              unfold e2E at he
              rw [if_pos he1] at he; exact he
            obtain ⟨hn, hpv⟩ := e1E_zero he1
            obtain ⟨o1, o2, _⟩ := ownE_kids he2
            rw [Node.checkB_eq] at hb
            obtain ⟨a1, a2, _⟩ := ih k.kids (by omega) _ _ _ _ hb
            obtain ⟨b1, b2, b3⟩ := ih r (by omega) _ _ _ _ h
            refine ⟨?_, ?_, ?_⟩
            · intro k' hk'
              rcases List.mem_cons.1 hk' with rfl | hk'
              · refine ⟨hn, ?_, ?_⟩
                · obtain ⟨s, v, m, ks⟩ := k'
                  refine .mk a2 (fun k hk => (a1 k hk).1) (fun hne => o2 ?_) (fun k hk => (a1 k hk).2.1)
                  exact List.length_pos_iff.2 hne
                · intro e he
                  rw [Node.things_eq] at he
                  rcases List.mem_cons.1 he with rfl | he
                  · exact ⟨o1, by simp; omega⟩
                  · obtain ⟨k2, hk2, e', he', rfl⟩ := Node.thingsL_of he
                    obtain ⟨c1, c2⟩ := (a1 k2 hk2).2.2 e' he'
                    exact ⟨c1, by simp only [List.length_cons]; omega⟩
              · exact b1 k' hk'
            · intro i j x y hij hx hy
              cases j with
              | zero => omega
              | succ j =>
                cases i with
                | zero =>
                  simp at hx
                  subst hx
                  rw [List.map_cons, List.getElem?_cons_succ, List.getElem?_map] at hy
                  cases hz : r[j]? with
                  | none => rw [hz] at hy; cases hy
                  | some z => rw [hz] at hy; cases hy; exact b3 rfl z (List.mem_of_getElem? hz)
                | succ i => exact b2 i j x y (by omega) (by simpa using hx) (by simpa using hy)
            · intro hbt k' hk'
              rcases List.mem_cons.1 hk' with rfl | hk'
              · exact hpv hbt
              · exact less_trans (hpv hbt) (b3 rfl k' hk')
          · rw [if_neg hb] at h; exact absurd h hb
        · rw [if_neg he] at h; exact absurd h he
theorem valid_of {x : Node} (h : (Node.check x).2 = 0) : Valid x := by
  unfold Node.check at h
  by_cases h0 : ownE x.value x.marks x.kids.length = 0
  · rw [if_pos h0, Node.checkB_eq] at h
    obtain ⟨o1, o2, _⟩ := ownE_kids h0
    obtain ⟨a1, a2, _⟩ := check_spec _ x.kids (Nat.le_refl _) _ _ _ _ h
    have hth : ∀ e ∈ x.things, ownE e.2.1 e.2.2 0 = 0 ∧ e.1.length ≤ 64 := by
      intro e he
      rw [Node.things_eq] at he
      rcases List.mem_cons.1 he with rfl | he
      · exact ⟨o1, by simp⟩
      · obtain ⟨k2, hk2, e', he', rfl⟩ := Node.thingsL_of he
        obtain ⟨c1, c2⟩ := (a1 k2 hk2).2.2 e' he'
        exact ⟨c1, by simp only [List.length_cons]; omega⟩
    refine ⟨?_, fun e he => (hth e he).1, fun e he => (hth e he).2⟩
    obtain ⟨s, v, m, ks⟩ := x
    exact .mk a2 (fun k hk => (a1 k hk).1) (fun hne => o2 (List.length_pos_iff.2 hne)) (fun k hk => (a1 k hk).2.1)
  · rw [if_neg h0] at h; exact absurd h h0
/-! ### Things rise -/
theorem things_sorted {x : Node} (h : x.Fine) : x.things.Pairwise (fun a b => cmpL a.1 b.1 < 0) := by
  induction h with
  | @mk s v m ks hr hok hd hf ih =>
    rw [Node.things_eq]
    refine List.Pairwise.cons ?_ ?_
    · intro t ht
      obtain ⟨k, _, e, _, rfl⟩ := Node.thingsL_of ht
      simp [cmpL]
    · show (Node.thingsL ks).Pairwise _
      clear hok hd hf
      induction ks with
      | nil => exact List.Pairwise.nil
      | cons k r ihr =>
        simp only [Node.thingsL]
        refine List.pairwise_append.2 ⟨?_, ?_, ?_⟩
        · rw [List.pairwise_map]
          exact (ih k List.mem_cons_self).imp (fun {a b} hab => by rw [cmpL_cons]; exact hab)
        · refine ihr (fun i j x y hij hx hy => ?_) (fun k' hk' => ih k' (List.mem_cons_of_mem _ hk'))
          exact hr (i + 1) (j + 1) x y (by omega) (by simpa using hx) (by simpa using hy)
        · intro a ha b hb
          obtain ⟨e, _, rfl⟩ := List.mem_map.1 ha
          obtain ⟨k', hk', e', _, rfl⟩ := Node.thingsL_of hb
          obtain ⟨j, hj⟩ := List.getElem?_of_mem hk'
          have := hr 0 (j + 1) k.name k'.name (by omega) rfl (by rw [List.map_cons, List.getElem?_cons_succ, List.getElem?_map, hj]; rfl)
          simp [cmpL, this]
def SortedE (l : List Entry) : Prop := l.Pairwise (fun a b => cmpP a.path b.path < 0)
theorem flat_sorted {x : Node} (h : x.Fine) : SortedE (x.flat []) := by
  rw [Node.flat0 h]
  unfold SortedE
  rw [List.pairwise_map]
  have hok := Node.things_ok h
  refine List.Pairwise.imp_of_mem ?_ (things_sorted h)
  intro a b ha hb hab
  simp only [entT, List.nil_append]
  rw [cmpP_join (hok a ha) (hok b hb)]; exact hab
theorem SortedE.nodup {l : List Entry} (h : SortedE l) : (l.map Entry.path).Nodup := by
  unfold List.Nodup
  rw [List.pairwise_map]
  exact h.imp (fun {a b} hab e => by rw [e, cmpP_refl] at hab; omega)
theorem SortedE.inj {l : List Entry} (h : SortedE l) {a b : Entry} (ha : a ∈ l) (hb : b ∈ l) (hp : a.path = b.path) : a = b := by
  obtain ⟨i, hi, rfl⟩ := List.getElem_of_mem ha
  obtain ⟨j, hj, rfl⟩ := List.getElem_of_mem hb
  have h1 := List.pairwise_iff_getElem.1 h
  rcases Nat.lt_trichotomy i j with hij | hij | hij
  · have := h1 i j hi hj hij; rw [hp, cmpP_refl] at this; omega
  · subst hij; rfl
  · have := h1 j i hj hi hij; rw [hp, cmpP_refl] at this; omega
/-- two rising lists of the same things are one -/
theorem sorted_ext : ∀ {a b : List Entry}, SortedE a → SortedE b → (∀ e, e ∈ a ↔ e ∈ b) → a = b := by
  intro a
  induction a with
  | nil =>
    intro b _ _ h
    cases b with
    | nil => rfl
    | cons y b => have := (h y).2 List.mem_cons_self; simp at this
  | cons x a ih =>
    intro b ha hb h
    cases b with
    | nil => have := (h x).1 List.mem_cons_self; simp at this
    | cons y b =>
      obtain ⟨ha1, ha2⟩ := List.pairwise_cons.1 ha
      obtain ⟨hb1, hb2⟩ := List.pairwise_cons.1 hb
      have hxy : x = y := by
        rcases List.mem_cons.1 ((h x).1 List.mem_cons_self) with e | hx
        · exact e
        · rcases List.mem_cons.1 ((h y).2 List.mem_cons_self) with e | hy
          · exact e.symm
          · have h1 := hb1 x hx
            have h2 := ha1 y hy
            have := cmpP_trans h1 h2
            rw [cmpP_refl] at this; omega
      subst hxy
      rw [ih ha2 hb2 (fun e => ?_)]
      constructor
      · intro he
        rcases List.mem_cons.1 ((h e).1 (List.mem_cons_of_mem _ he)) with rfl | he'
        · have := ha1 e he; rw [cmpP_refl] at this; omega
        · exact he'
      · intro he
        rcases List.mem_cons.1 ((h e).2 (List.mem_cons_of_mem _ he)) with rfl | he'
        · have := hb1 e he; rw [cmpP_refl] at this; omega
        · exact he'
/-! ### What stands at a path -/
theorem kidOf_iff {x k : Node} {n : Str} (h : Rise (x.kids.map Node.name)) : kidOf x n = some k ↔ k ∈ x.kids ∧ k.name = n := by
  constructor
  · intro hk
    obtain ⟨_, h2, h3⟩ := kidOf_some hk
    exact ⟨List.mem_of_getElem? h2, h3⟩
  · rintro ⟨hk, rfl⟩
    obtain ⟨i, hi⟩ := List.getElem?_of_mem hk
    have hni : (x.kids.map Node.name)[i]? = some k.name := by rw [List.getElem?_map, hi]; rfl
    have hbi : bsI (x.kids.map Node.name) k.name = i := by
      refine bsI_of (Nat.le_of_lt (List.getElem?_eq_some_iff.1 hni).1) (fun j y hj hy => h j i y k.name hj hy hni) (fun y hy => ?_)
      rw [hni] at hy; cases hy; exact less_irr _
    rw [kidOf, if_pos, hbi, hi]
    rw [bsF, hbi, hni]; simp
theorem subOf_iff : ∀ (ns : List Str) {x : Node}, x.Fine → ∀ (v : Val) (m : Marks), (∃ k, subOf x ns = some k ∧ k.value = v ∧ k.marks = m) ↔ (ns, v, m) ∈ x.things := by
  intro ns
  induction ns with
  | nil =>
    intro x hx v m
    constructor
    · rintro ⟨k, hk, rfl, rfl⟩
      simp only [subOf, Option.some.injEq] at hk
      subst hk
      exact Node.root_mem x
    · intro h
      rw [Node.things_eq] at h
      rcases List.mem_cons.1 h with h | h
      · cases h; exact ⟨x, rfl, rfl, rfl⟩
      · obtain ⟨k, _, e, _, he⟩ := Node.thingsL_of h
        cases he
  | cons n r ih =>
    intro x hx v m
    constructor
    · rintro ⟨k, hk, rfl, rfl⟩
      simp only [subOf] at hk
      cases hko : kidOf x n with
      | none => rw [hko] at hk; cases hk
      | some c =>
        rw [hko] at hk
        obtain ⟨hc, hcn⟩ := (kidOf_iff hx.rise).1 hko
        have := (ih (hx.kid hc) k.value k.marks).1 ⟨k, hk, rfl, rfl⟩
        rw [Node.things_eq, ← hcn]
        exact List.mem_cons_of_mem _ (Node.thingsL_mem hc this)
    · intro h
      rw [Node.things_eq] at h
      rcases List.mem_cons.1 h with h | h
      · cases h
      · obtain ⟨c, hc, e, he, heq⟩ := Node.thingsL_of h
        obtain ⟨en, ev, em⟩ := e
        cases heq
        obtain ⟨k, hk, h1, h2⟩ := (ih (hx.kid hc) v m).2 he
        exact ⟨k, by simp only [subOf, (kidOf_iff hx.rise).2 ⟨hc, rfl⟩]; exact hk, h1, h2⟩
theorem flat_mem {x : Node} (h : Valid x) {e : Entry} : e ∈ x.flat [] ↔ ∃ t ∈ x.things, e = ⟨joinP t.1, t.2.1, t.2.2⟩ := by
  rw [Node.flat0 h.fine]
  simp only [List.mem_map, entT, List.nil_append]
  constructor
  · rintro ⟨t, ht, rfl⟩; exact ⟨t, ht, rfl⟩
  · rintro ⟨t, ht, rfl⟩; exact ⟨t, ht, rfl⟩
theorem flat_ok {x : Node} (h : Valid x) {e : Entry} (he : e ∈ x.flat []) : (splitP e.path 64).2 = 0 ∧ ownE e.value e.marks 0 = 0 := by
  obtain ⟨t, ht, rfl⟩ := (flat_mem h).1 he
  exact ⟨by rw [splitP_join (Node.things_ok h.fine t ht) (h.deep t ht)], h.own t ht⟩
/-- the entry at a path is what the tree has there -/
theorem sub_flat {x : Node} (h : Valid x) {p : Str} (hp : (splitP p 64).2 = 0) (v : Val) (m : Marks) : (∃ k, subAt x p = some k ∧ k.value = v ∧ k.marks = m) ↔ (⟨p, v, m⟩ : Entry) ∈ x.flat [] := by
  obtain ⟨h1, h2, h3⟩ := splitP_ok hp
  unfold subAt
  rw [if_pos hp, h1, subOf_iff _ h.fine, flat_mem h]
  constructor
  · intro ht
    exact ⟨_, ht, by rw [joinP_pieces]⟩
  · rintro ⟨t, ht, he⟩
    injection he with e1 e2 e3
    subst e1; subst e2; subst e3
    rw [pieces_joinP _ (Node.things_ok h.fine t ht)]
    exact ht
theorem valP_mem {l : List Entry} (hl : SortedE l) {e : Entry} (he : e ∈ l) : valP l e.path = e.value := by
  rcases findP_cases l e.path with ⟨_, h2⟩ | ⟨i, e', h1, h2, h3, _⟩
  · exact absurd rfl (h2 e he)
  · have := hl.inj (List.mem_of_getElem? h2) he h3
    subst this
    exact valP_some (by rw [h1]; omega) (by rw [h1]; simpa using h2)
theorem valP_not {l : List Entry} {p : Str} (h : ∀ e ∈ l, e.path ≠ p) : valP l p = Val.zero := by
  rcases findP_cases l p with ⟨h1, _⟩ | ⟨i, e', h1, h2, h3, _⟩
  · exact valP_none (by rw [h1]; omega)
  · exact absurd h3 (h e' (List.mem_of_getElem? h2))
theorem valAt_eq {x : Node} (h : Valid x) {p : Str} (hp : (splitP p 64).2 = 0) : valAt x p = valP (x.flat []) p := by
  unfold valAt
  cases hs : subAt x p with
  | none =>
    symm
    refine valP_not fun e he hep => ?_
    obtain ⟨pe, v, m⟩ := e
    simp only at hep
    subst hep
    obtain ⟨k, hk, _⟩ := (sub_flat h hp v m).2 he
    rw [hs] at hk; cases hk
  | some k =>
    have := (sub_flat h hp k.value k.marks).1 ⟨k, hs, rfl, rfl⟩
    exact (valP_mem (flat_sorted h.fine) this).symm
/-- what may stand is something -/
theorem ok_kind {v : Val} (h : v.ok = true) : v.kind ≠ 0 := fun e => by simp [Val.ok, e] at h
theorem own_kind {v : Val} {m : Marks} {k : Nat} (h : ownE v m k = 0) : v.kind ≠ 0 := (ownE_kids h).2.2
end Go.Proofs.YtgmomhdammdjgaaGreat
