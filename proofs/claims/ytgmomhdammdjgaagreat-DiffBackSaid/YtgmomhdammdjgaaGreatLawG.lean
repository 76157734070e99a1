/-
  A difference applied: it applies, and leads there; a list that applies is the difference of what it makes. Plain lemmas; no program in sight.
-/
import Derived.Test.YtgmomhdammdjgaaGreatLawF
set_option linter.unusedVariables false
set_option linter.unusedSimpArgs false
namespace Go.Proofs.YtgmomhdammdjgaaGreat
open Go Go.Proofs Go.RowKit

theorem rises_mk : ∀ {l : List Change} {b : Bool} {pv : Str}, (∀ c ∈ l, (splitP c.path 64).2 = 0 ∧ c.old ≠ c.new) → SortedC l → (b = true → ∀ c ∈ l, cmpP pv c.path < 0) → risesL l b pv = true
  | [], _, _, _, _, _ => rfl
  | c :: r, b, pv, h1, h2, h3 => by
    obtain ⟨s1, s2⟩ := List.pairwise_cons.1 h2
    obtain ⟨g1, g2⟩ := h1 c List.mem_cons_self
    have hb : ¬ badC c b pv = true := by
      unfold badC
      rw [g1, decide_eq_false g2]
      cases b with
      | false => simp
      | true => have := h3 rfl c List.mem_cons_self; simp; omega
    simp only [risesL]
    rw [if_neg hb]
    exact rises_mk (fun d hd => h1 d (List.mem_cons_of_mem _ hd)) s2 fun _ d hd => s1 d hd
theorem own_ok {v : Val} {m : Marks} {k : Nat} (h : ownE v m k = 0) : v.ok = true := by
  unfold ownE at h
  split at h
  · cases h
  · split at h
    · cases h
    · rename_i _ h2
      cases hv : v.ok with
      | true => rfl
      | false => rw [hv] at h2; simp at h2
theorem vN_shape {y : Node} (hy : Valid y) (n : List Str) : (vN n (some y)).okN = true := by
  by_cases h : vN n (some y) = Val.zero
  · rw [h]; unfold Val.okN; simp
  · obtain ⟨m, hm⟩ := vN_thing h
    have h1 := own_ok (hy.own _ hm)
    have h2 : (vN n (some y)).kind ≠ 0 := hy.nz _ hm
    unfold Val.okN
    simp only [Bool.or_eq_true, Bool.and_eq_true, Bool.not_eq_true', decide_eq_true_eq, decide_eq_false_iff_not]
    exact .inr ⟨h2, h1⟩
theorem dif_path {x y : Node} (hx : Valid x) (hy : Valid y) {n : List Str} (h : vN n (some x) ≠ vN n (some y)) : OkNames n ∧ splitP (joinP n) 64 = (n, 0) := by
  have hn : OkNames n := ne_ok (fun z hz => by cases hz; exact hx.fine) (fun z hz => by cases hz; exact hy.fine) h
  refine ⟨hn, splitP_join hn ?_⟩
  by_cases h0 : vN n (some x) = Val.zero
  · obtain ⟨m, hm⟩ := vN_thing (n := n) (x := y) (fun e => h (by rw [h0, e]))
    exact hy.deep _ hm
  · obtain ⟨m, hm⟩ := vN_thing h0
    exact hx.deep _ hm
theorem thing_up : ∀ {q : List Str} {x : Node} {a : Str} {v : Val} {m : Marks}, x.Fine → (q ++ [a], v, m) ∈ x.things → ∃ m', (q, vN q (some x), m') ∈ x.things ∧ (vN q (some x)).kind = 1
  | [], x, a, v, m, hf, ht => by
    refine ⟨x.marks, Node.root_mem x, hf.dir fun e => ?_⟩
    rw [Node.things_eq, e] at ht
    simp [Node.thingsL] at ht
  | b :: q, x, a, v, m, hf, ht => by
    rw [Node.things_eq] at ht
    rcases List.mem_cons.1 ht with h | h
    · simp at h
    · obtain ⟨k, hk, ⟨en, ev, em⟩, he, h2⟩ := Node.thingsL_of h
      simp only [List.cons_append, Prod.mk.injEq, List.cons.injEq] at h2
      obtain ⟨⟨h3, h4⟩, h5, h6⟩ := h2
      subst h3; subst h5; subst h6
      rw [← h4] at he
      obtain ⟨m', h7, h8⟩ := thing_up (hf.kid hk) he
      have e : vN (k.name :: q) (some x) = vN q (some k) := by show vN q (findK x.kids k.name) = _; rw [findK_of hf.rise hk]
      rw [e]
      refine ⟨m', ?_, h8⟩
      rw [Node.things_eq]
      exact List.mem_cons_of_mem _ (Node.thingsL_mem hk h7)
theorem apply_dif {x y : Node} {l : List Change} (hx : Valid x) (hy : Valid y) (h : DifOK x y l) :
    ∃ es, mergeA (x.flat []) l = some es ∧ applyE x l = 0 ∧ (∀ e ∈ es, e.value.kind ≠ 0) ∧ ∀ n, OkNames n → valP es (joinP n) = vN n (some y) := by
  have hok : ∀ c ∈ l, (splitP c.path 64).2 = 0 ∧ c.old ≠ c.new := fun c hc => by
    obtain ⟨n, rfl, hn⟩ := (h.2 c).1 hc
    exact ⟨by show (splitP (joinP n) 64).2 = 0; rw [(dif_path hx hy hn).2], hn⟩
  have hrise : risesL l false [] = true := rises_mk hok h.1 (fun e => by cases e)
  have hall : (l.all fun c => decide (valP (x.flat []) c.path = c.old)) = true := List.all_eq_true.2 fun c hc => by
    obtain ⟨n, rfl, hn⟩ := (h.2 c).1 hc
    simp only [decide_eq_true_eq]
    exact valP_vN hx.fine (dif_path hx hy hn).1
  obtain ⟨es, hm, hs, hmem⟩ := merge_spec _ (x.flat []) l (Nat.le_refl _) (flat_sorted hx.fine) h.1 fun c hc => by
    obtain ⟨n, rfl, hn⟩ := (h.2 c).1 hc
    exact vN_shape hy n
  have key1 : ∀ e ∈ es, ∃ n, e.path = joinP n ∧ e.value = vN n (some y) ∧ e.value.kind ≠ 0 := fun e he => by
    rcases (hmem e).1 he with ⟨hf, hno⟩ | ⟨c, hc, hk, rfl⟩
    · obtain ⟨n, m, rfl, ht⟩ := (flat_thing hx.fine).1 hf
      refine ⟨n, rfl, ?_, hx.nz _ ht⟩
      by_cases hne : vN n (some x) = vN n (some y)
      · exact hne
      · exact absurd rfl (nowOf_none hno _ ((h.2 _).2 ⟨n, rfl, hne⟩))
    · obtain ⟨n, rfl, hn⟩ := (h.2 c).1 hc
      exact ⟨n, rfl, rfl, hk⟩
  have key2 : ∀ n, vN n (some y) ≠ Val.zero → ∃ m, (⟨joinP n, vN n (some y), m⟩ : Entry) ∈ es := fun n hv => by
    by_cases hne : vN n (some x) = vN n (some y)
    · obtain ⟨m, ht⟩ := vN_thing (n := n) (x := x) (by rw [hne]; exact hv)
      refine ⟨m, (hmem _).2 (.inl ⟨(flat_thing hx.fine).2 ⟨n, m, by rw [hne], ht⟩, ?_⟩)⟩
      show nowOf l (joinP n) = none
      cases hq : nowOf l (joinP n) with
      | none => rfl
      | some v =>
        obtain ⟨c, hc, hp, _⟩ := nowOf_some hq
        obtain ⟨n', rfl, hn'⟩ := (h.2 c).1 hc
        have : n' = n := joinP_inj (dif_path hx hy hn').1 (vN_okN hy.fine hv) hp
        subst this
        exact absurd hne hn'
    · obtain ⟨m, ht⟩ := vN_thing hv
      exact ⟨Marks.zero, (hmem _).2 (.inr ⟨_, (h.2 _).2 ⟨n, rfl, hne⟩, hy.nz _ ht, rfl⟩)⟩
  have hval : ∀ n, OkNames n → valP es (joinP n) = vN n (some y) := fun n hn => by
    by_cases h0 : vN n (some y) = Val.zero
    · rw [h0]
      refine valP_not fun e he hp => ?_
      obtain ⟨n', e1, e2, e3⟩ := key1 e he
      have hv : vN n' (some y) ≠ Val.zero := by rw [← e2]; exact kind_zero e3
      have : n' = n := joinP_inj (vN_okN hy.fine hv) hn (by rw [← e1, hp])
      subst this
      exact hv h0
    · obtain ⟨m, hm⟩ := key2 n h0
      exact valP_mem hs hm
  have hroot : vN [] (some y) ≠ Val.zero := kind_zero (hy.nz _ (Node.root_mem y))
  obtain ⟨m0, hm0⟩ := key2 [] hroot
  have htree : treeB es = true := by
    cases hes : es with
    | nil => rw [hes] at hm0; simp at hm0
    | cons y0 r =>
      rw [← hes]
      have h0 : es[0]? = some y0 := by rw [hes]; rfl
      have hs2 := hs
      unfold SortedE at hs2
      rw [hes] at hs2
      obtain ⟨s1, s2⟩ := List.pairwise_cons.1 hs2
      have hp0 : y0.path = [] := by
        rw [hes] at hm0
        rcases List.mem_cons.1 hm0 with e | he
        · rw [← e]; rfl
        · have h1 := s1 _ he
          have h2 := nil_least y0.path
          exact absurd h1 (by show ¬ cmpP y0.path [] < 0; omega)
      refine treeB_good h0 hp0 fun i e hi he => ?_
      have hem := List.mem_of_getElem? he
      obtain ⟨n, e1, e2, e3⟩ := key1 e hem
      have hv : vN n (some y) ≠ Val.zero := by rw [← e2]; exact kind_zero e3
      rcases snocCases n with rfl | ⟨q, a, rfl⟩
      · exfalso
        have her : e ∈ r := by
          rw [hes] at he
          cases i with
          | zero => omega
          | succ i => exact List.mem_of_getElem? (by simpa using he)
        have := s1 e her
        rw [hp0, e1] at this
        have h3 : cmpP [] (joinP []) = 0 := cmpP_refl []
        omega
      · obtain ⟨m, ht⟩ := vN_thing hv
        obtain ⟨m', h1, h2⟩ := thing_up hy.fine ht
        have hqa := vN_okN hy.fine hv
        rw [e1, aboveP_join hqa, dirP_iff hs]
        obtain ⟨m2, h3⟩ := key2 q (kind_zero (by rw [h2]; decide))
        exact ⟨_, h3, rfl, h2⟩
  refine ⟨es, hm, ?_, fun e he => ?_, hval⟩
  · unfold applyE
    have hm2 : mergeA (x.flat []) l = some es := hm
    rw [if_pos hrise, if_pos hall, hm2]
    simp [htree]
  · obtain ⟨_, _, _, h3⟩ := key1 e he
    exact h3
theorem grown_nz {z : Node} {es : List Entry} (hg : Grown z es) (h : ∀ e ∈ es, e.value.kind ≠ 0) : NZ z := fun e he => by
  have : entT [] e ∈ es := by rw [← hg.flat, Node.flat0 hg.fine]; exact List.mem_map_of_mem he
  exact h _ this
/-- what a difference makes has the values of the other tree -/
theorem dif_same {x y z : Node} {l : List Change} {es : List Entry} (hx : Valid x) (hy : Valid y) (h : DifOK x y l) (hm : mergeA (x.flat []) l = some es) (hg : Grown z es) : Node.sameT z y = true := by
  obtain ⟨es', h1, _, h3, h4⟩ := apply_dif hx hy h
  rw [hm] at h1; cases h1
  refine vN_sameT _ z y rfl hg.fine hy.fine (grown_nz hg h3) hy.nz fun n => ?_
  by_cases hn : OkNames n
  · rw [← h4 n hn, ← valP_vN hg.fine hn, hg.flat]
  · have e1 : vN n (some z) = Val.zero := Classical.byContradiction fun e => hn (vN_okN hg.fine e)
    have e2 : vN n (some y) = Val.zero := Classical.byContradiction fun e => hn (vN_okN hy.fine e)
    rw [e1, e2]
/-- what applies is the difference of what it makes -/
theorem made_dif {x z : Node} {l : List Change} {es : List Entry} (hx : Valid x) (h0 : applyE x l = 0) (hm : mergeA (x.flat []) l = some es) (hg : Grown z es) : DifOK x z l := by
  have hr : risesL l false [] = true := Classical.byContradiction fun e => by unfold applyE at h0; rw [if_neg e] at h0; cases h0
  have ho : (l.all fun c => decide (valP (x.flat []) c.path = c.old)) = true := Classical.byContradiction fun e => by unfold applyE at h0; rw [if_pos hr, if_neg e] at h0; cases h0
  obtain ⟨r1, r2, _⟩ := rises_spec hr
  have hokN : ∀ c ∈ l, c.new.okN = true := fun c hc => by
    cases hq : c.new.okN with
    | true => rfl
    | false => have := merge_bad _ (x.flat []) l (Nat.le_refl _) ⟨c, hc, hq⟩; unfold mergeA at hm; rw [hm] at this; cases this
  obtain ⟨es', hm', hs, hmem⟩ := merge_spec _ (x.flat []) l (Nat.le_refl _) (flat_sorted hx.fine) r2 hokN
  unfold mergeA at hm
  rw [hm] at hm'; cases hm'
  have hz : ∀ n, OkNames n → vN n (some z) = valP es (joinP n) := fun n hn => by rw [← valP_vN hg.fine hn, hg.flat]
  have hc1 : ∀ c ∈ l, ∃ n, OkNames n ∧ c = ⟨joinP n, vN n (some x), vN n (some z)⟩ := fun c hc => by
    obtain ⟨p1, p2⟩ := r1 c hc
    obtain ⟨q1, q2, q3⟩ := splitP_ok p1
    refine ⟨pieces c.path, q2, ?_⟩
    have hold : c.old = vN (pieces c.path) (some x) := by
      rw [← valP_vN hx.fine q2, joinP_pieces]
      exact (of_decide_eq_true (List.all_eq_true.1 ho c hc)).symm
    have hnew : c.new = vN (pieces c.path) (some z) := by
      rw [hz _ q2, joinP_pieces]
      by_cases hk : c.new.kind = 0
      · have h1 := hokN c hc
        have h2 : c.new = Val.zero := by
          unfold Val.okN at h1
          rw [hk] at h1
          simpa using h1
        rw [h2]
        refine (valP_not fun e he hp => ?_).symm
        rcases (hmem e).1 he with ⟨_, hno⟩ | ⟨d, hd, hdk, rfl⟩
        · rw [hp, nowOf_mem r2 hc] at hno; cases hno
        · have : d = c := r2.inj hd hc hp
          subst this
          exact hdk hk
      · exact (valP_mem hs ((hmem ⟨c.path, c.new, Marks.zero⟩).2 (.inr ⟨c, hc, hk, rfl⟩))).symm
    rw [← hold, ← hnew, joinP_pieces]
  refine ⟨r2, fun c => ⟨fun hc => ?_, ?_⟩⟩
  · obtain ⟨n, _, e⟩ := hc1 c hc
    have := (r1 c hc).2
    exact ⟨n, e, by rw [e] at this; exact this⟩
  · rintro ⟨n, rfl, hne⟩
    have hn : OkNames n := ne_ok (fun z hz => by cases hz; exact hx.fine) (fun w hw => by cases hw; exact hg.fine) hne
    by_cases hq : ∃ c ∈ l, c.path = joinP n
    · obtain ⟨c, hc, hp⟩ := hq
      obtain ⟨n', hn', e⟩ := hc1 c hc
      have : n' = n := joinP_inj hn' hn (by rw [e] at hp; exact hp)
      subst this
      rw [← e]; exact hc
    · exfalso
      have hno : nowOf l (joinP n) = none := by
        cases hq2 : nowOf l (joinP n) with
        | none => rfl
        | some v => obtain ⟨c, hc, hp, _⟩ := nowOf_some hq2; exact absurd ⟨c, hc, hp⟩ hq
      refine hne ?_
      rw [hz n hn, ← valP_vN hx.fine hn]
      by_cases he : ∃ e ∈ x.flat [], e.path = joinP n
      · obtain ⟨e, he, hp⟩ := he
        have h1 := valP_mem (flat_sorted hx.fine) he
        have h2 := valP_mem hs ((hmem e).2 (.inl ⟨he, by rw [hp]; exact hno⟩))
        rw [hp] at h1 h2
        rw [h1, h2]
      · rw [valP_not fun e he' hp => he ⟨e, he', hp⟩, valP_not fun e he' hp => ?_]
        rcases (hmem e).1 he' with ⟨hf, _⟩ | ⟨c, hc, _, rfl⟩
        · exact he ⟨e, hf, hp⟩
        · exact hq ⟨c, hc, hp⟩
end Go.Proofs.YtgmomhdammdjgaaGreat
