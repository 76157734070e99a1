/-
  The plain law of a difference that is applied: what the program's grow lays is what the document's merge gives. Plain lemmas; no program in sight.
-/
import Derived.Test.YtgmomhdammdjgaaGreatLawA
set_option linter.unusedVariables false
set_option linter.unusedSimpArgs false
namespace Go.Proofs.YtgmomhdammdjgaaGreat
open Go Go.Proofs Go.RowKit

theorem ownE_okL {v : Val} : ownE v Marks.zero 0 = 0 ↔ v.ok = true := by
  have h1 : Marks.zero.a.ok = true := rfl
  have h2 : Marks.zero.b.ok = true := rfl
  unfold ownE Val.ok
  rw [h1, h2]
  by_cases e1 : v.kind = 1
  · simp [e1]
  · by_cases e2 : v.kind = 2
    · simp [e2]
    · by_cases e3 : v.kind = 3
      · simp [e3]
      · have : v.kind < 1 ∨ 3 < v.kind := by omega
        simp [e1, e2, e3, this]
theorem okN_eqL (v : Val) : v.okN = (decide (ownE v Marks.zero 0 = 0) || decide (v = Val.zero)) := by
  unfold Val.okN
  by_cases h : v.ok = true
  · have h0 : ¬ v.kind = 0 := fun e => by simp [Val.ok, e] at h
    simp [h, h0, ownE_okL.2 h]
  · have h1 : ¬ ownE v Marks.zero 0 = 0 := fun e => h (ownE_okL.1 e)
    simp [h, h1]
/-! ### 1. A list of changes that may be -/
def SortedC (l : List Change) : Prop := l.Pairwise (fun a b => cmpP a.path b.path < 0)
theorem rises_spec : ∀ {l : List Change} {b : Bool} {pv : Str}, risesL l b pv = true → (∀ c ∈ l, (splitP c.path 64).2 = 0 ∧ c.old ≠ c.new) ∧ SortedC l ∧ (b = true → ∀ c ∈ l, cmpP pv c.path < 0) := by
  intro l
  induction l with
  | nil => intro b pv _; exact ⟨by simp, List.Pairwise.nil, by simp⟩
  | cons c r ih =>
    intro b pv h
    simp only [risesL] at h
    by_cases hb : badC c b pv = true
    · rw [if_pos hb] at h; cases h
    · rw [if_neg hb] at h
      obtain ⟨h1, h2, h3⟩ := ih h
      simp only [badC, Bool.or_eq_true, Bool.and_eq_true, Bool.not_eq_true', decide_eq_true_eq, decide_eq_false_iff_not, not_or, not_and, Int.not_le, Classical.not_not] at hb
      obtain ⟨⟨g1, g2⟩, g3⟩ := hb
      refine ⟨?_, List.Pairwise.cons (h3 rfl) h2, ?_⟩
      · intro d hd
        rcases List.mem_cons.1 hd with rfl | hd
        · exact ⟨g1, g2⟩
        · exact h1 d hd
      · intro hbt d hd
        rcases List.mem_cons.1 hd with rfl | hd
        · exact g3 hbt
        · exact cmpP_trans (g3 hbt) (h3 rfl d hd)
theorem SortedC.inj {l : List Change} (h : SortedC l) {a b : Change} (ha : a ∈ l) (hb : b ∈ l) (hp : a.path = b.path) : a = b := by
  obtain ⟨i, hi, rfl⟩ := List.getElem_of_mem ha
  obtain ⟨j, hj, rfl⟩ := List.getElem_of_mem hb
  have h1 := List.pairwise_iff_getElem.1 h
  rcases Nat.lt_trichotomy i j with hij | hij | hij
  · have := h1 i j hi hj hij; rw [hp, cmpP_refl] at this; omega
  · subst hij; rfl
  · have := h1 j i hj hi hij; rw [hp, cmpP_refl] at this; omega
theorem nowOf_mem {l : List Change} (h : SortedC l) {c : Change} (hc : c ∈ l) : nowOf l c.path = some c.new := by
  cases hn : nowOf l c.path with
  | none => exact absurd rfl (nowOf_none hn c hc)
  | some v =>
    obtain ⟨d, hd, h1, h2⟩ := nowOf_some hn
    rw [h.inj hd hc h1] at h2
    rw [h2]
/-! ### 2. Both lists side by side -/
theorem merge_spec : ∀ (n : Nat) (h : List Entry) (l : List Change), h.length + l.length ≤ n → SortedE h → SortedC l → (∀ c ∈ l, c.new.okN = true) →
    ∃ es, mergeF n h l = some es ∧ SortedE es ∧ ∀ e, e ∈ es ↔ (e ∈ h ∧ nowOf l e.path = none) ∨ ∃ c ∈ l, ¬ c.new.kind = 0 ∧ e = ⟨c.path, c.new, Marks.zero⟩ := by
  intro n
  induction n with
  | zero =>
    intro h l hn _ _ _
    have e1 : h = [] := List.eq_nil_of_length_eq_zero (by omega)
    have e2 : l = [] := List.eq_nil_of_length_eq_zero (by omega)
    subst e1; subst e2
    exact ⟨[], rfl, List.Pairwise.nil, fun e => by simp⟩
  | succ n ih =>
    intro h l hn hh hl hok
    rw [mergeF_succ]
    by_cases h0 : h = [] ∧ l = []
    · obtain ⟨rfl, rfl⟩ := h0
      exact ⟨[], rfl, List.Pairwise.nil, fun e => by simp⟩
    · rw [if_neg h0]
      by_cases hc : cmpAt h l 0 0 < 0
      · rw [if_pos hc]
        cases h with
        | nil =>
          have := cmpAt_lt hc; simp at this
        | cons y r =>
          obtain ⟨hh1, hh2⟩ := List.pairwise_cons.1 hh
          have hyl : ∀ c ∈ l, cmpP y.path c.path < 0 := by
            cases l with
            | nil => intro c hc'; simp at hc'
            | cons d q =>
              have : cmpP y.path d.path < 0 := by rw [cmpAt_of (e := y) (c := d) rfl rfl] at hc; exact hc
              intro c hc'
              rcases List.mem_cons.1 hc' with rfl | hc'
              · exact this
              · exact cmpP_trans this ((List.pairwise_cons.1 hl).1 c hc')
          have hno : nowOf l y.path = none := by
            cases hq : nowOf l y.path with
            | none => rfl
            | some v =>
              obtain ⟨d, hd, h1, _⟩ := nowOf_some hq
              have := hyl d hd
              rw [h1, cmpP_refl] at this; omega
          obtain ⟨es, g1, g2, g3⟩ := ih r l (by simp at hn; omega) hh2 hl hok
          refine ⟨[y] ++ es, by simp [g1], ?_, fun e => ?_⟩
          · refine List.Pairwise.cons (fun e he => ?_) g2
            rcases (g3 e).1 he with ⟨he, _⟩ | ⟨c, hc', _, rfl⟩
            · exact hh1 e he
            · exact hyl c hc'
          · rw [List.singleton_append, List.mem_cons, g3, List.mem_cons]
            constructor
            · rintro (rfl | ⟨he, hn'⟩ | hx)
              · exact .inl ⟨.inl rfl, hno⟩
              · exact .inl ⟨.inr he, hn'⟩
              · exact .inr hx
            · rintro (⟨rfl | he, hn'⟩ | hx)
              · exact .inl rfl
              · exact .inr (.inl ⟨he, hn'⟩)
              · exact .inr (.inr hx)
      · rw [if_neg hc]
        cases l with
        | nil =>
          have := cmpAt_ge hc (by
            rcases Nat.eq_zero_or_pos h.length with hz | hz
            · exact absurd ⟨List.eq_nil_of_length_eq_zero hz, rfl⟩ h0
            · exact .inl hz)
          simp at this
        | cons c r =>
          obtain ⟨hl1, hl2⟩ := List.pairwise_cons.1 hl
          simp only []
          rw [if_pos (hok c List.mem_cons_self)]
          -- what is left of the tree's paths lies behind c, but one of c's own path
          have hsplit : ∃ h', (if cmpAt h (c :: r) 0 0 = 0 then h.drop 1 else h) = h' ∧ h'.length ≤ h.length ∧ SortedE h' ∧ (∀ e ∈ h', cmpP c.path e.path < 0) ∧ (∀ e, e ∈ h ↔ e ∈ h' ∨ (e ∈ h ∧ e.path = c.path)) ∧ (∀ e ∈ h', e ∈ h) := by
            cases h with
            | nil => exact ⟨[], by simp, Nat.le_refl _, List.Pairwise.nil, by simp, by simp, by simp⟩
            | cons y q =>
              obtain ⟨hh1, hh2⟩ := List.pairwise_cons.1 hh
              rw [cmpAt_of (e := y) (c := c) rfl rfl] at hc ⊢
              have hsw := cmpP_swap y.path c.path
              by_cases hz : cmpP y.path c.path = 0
              · have hyc := cmpP_zero hz
                rw [if_pos hz]
                refine ⟨q, rfl, by simp, hh2, fun e he => by rw [← hyc]; exact hh1 e he, fun e => ?_, fun e he => List.mem_cons_of_mem _ he⟩
                constructor
                · intro he
                  rcases List.mem_cons.1 he with rfl | he'
                  · exact .inr ⟨he, hyc⟩
                  · exact .inl he'
                · rintro (he | ⟨he, _⟩)
                  · exact List.mem_cons_of_mem _ he
                  · exact he
              · rw [if_neg hz]
                refine ⟨y :: q, rfl, Nat.le_refl _, hh, fun e he => ?_, fun e => ⟨fun he => .inl he, fun he => he.elim id (fun h => h.1)⟩, fun e he => he⟩
                have hcy : cmpP c.path y.path < 0 := by omega
                rcases List.mem_cons.1 he with rfl | he'
                · exact hcy
                · exact cmpP_trans hcy (hh1 e he')
          obtain ⟨h', e1, e2, e3, e4, e5, e6⟩ := hsplit
          rw [e1]
          obtain ⟨es, g1, g2, g3⟩ := ih h' r (by simp at hn; omega) e3 hl2 (fun d hd => hok d (List.mem_cons_of_mem _ hd))
          have hbeh : ∀ e ∈ es, cmpP c.path e.path < 0 := fun e he => by
            rcases (g3 e).1 he with ⟨he, _⟩ | ⟨d, hd, _, rfl⟩
            · exact e4 e he
            · exact hl1 d hd
          have hnow : ∀ p, nowOf (c :: r) p = match nowOf r p with | some v => some v | none => if c.path = p then some c.new else none := fun p => rfl
          have hmem : ∀ e, ((e ∈ h' ∧ nowOf r e.path = none) ∨ ∃ d ∈ r, ¬ d.new.kind = 0 ∧ e = ⟨d.path, d.new, Marks.zero⟩) ∨ (¬ c.new.kind = 0 ∧ e = ⟨c.path, c.new, Marks.zero⟩) ↔ (e ∈ h ∧ nowOf (c :: r) e.path = none) ∨ ∃ d ∈ c :: r, ¬ d.new.kind = 0 ∧ e = ⟨d.path, d.new, Marks.zero⟩ := by
            intro e
            constructor
            · rintro ((⟨he, hn'⟩ | ⟨d, hd, hx⟩) | hx)
              · refine .inl ⟨e6 e he, ?_⟩
                rw [hnow, hn']
                have := e4 e he
                simp only []
                rw [if_neg (fun eq => by rw [eq, cmpP_refl] at this; omega)]
              · exact .inr ⟨d, List.mem_cons_of_mem _ hd, hx⟩
              · exact .inr ⟨c, List.mem_cons_self, hx⟩
            · rintro (⟨he, hn'⟩ | ⟨d, hd, hx⟩)
              · rw [hnow] at hn'
                cases hr : nowOf r e.path with
                | some v => rw [hr] at hn'; simp at hn'
                | none =>
                  rw [hr] at hn'
                  simp only [] at hn'
                  have hne : ¬ c.path = e.path := fun eq => by rw [if_pos eq] at hn'; cases hn'
                  rcases (e5 e).1 he with he' | ⟨_, he'⟩
                  · exact .inl (.inl ⟨he', rfl⟩)
                  · exact absurd he'.symm hne
              · rcases List.mem_cons.1 hd with rfl | hd
                · exact .inr hx
                · exact .inl (.inr ⟨d, hd, hx⟩)
          by_cases hk : c.new.kind = 0
          · refine ⟨es, by simp [g1, hk], g2, fun e => ?_⟩
            rw [← hmem, g3]
            constructor
            · exact .inl
            · rintro (hx | ⟨hx, _⟩)
              · exact hx
              · exact absurd hk hx
          · refine ⟨⟨c.path, c.new, Marks.zero⟩ :: es, by simp [g1, hk], List.Pairwise.cons hbeh g2, fun e => ?_⟩
            rw [← hmem, List.mem_cons, g3]
            constructor
            · rintro (rfl | hx)
              · exact .inr ⟨hk, rfl⟩
              · exact .inl hx
            · rintro (hx | ⟨_, rfl⟩)
              · exact .inr hx
              · exact .inl rfl
theorem merge_bad : ∀ (n : Nat) (h : List Entry) (l : List Change), h.length + l.length ≤ n → (∃ c ∈ l, c.new.okN = false) → mergeF n h l = none := by
  intro n
  induction n with
  | zero =>
    intro h l hn ⟨c, hc, _⟩
    have e2 : l = [] := List.eq_nil_of_length_eq_zero (by omega)
    subst e2; simp at hc
  | succ n ih =>
    intro h l hn hbad
    rw [mergeF_succ, if_neg (fun e => by obtain ⟨c, hc, _⟩ := hbad; rw [e.2] at hc; simp at hc)]
    by_cases hc : cmpAt h l 0 0 < 0
    · have := cmpAt_lt hc
      rw [if_pos hc, ih (h.drop 1) l (by simp; omega) hbad]; rfl
    · rw [if_neg hc]
      cases l with
      | nil => obtain ⟨c, hc', _⟩ := hbad; simp at hc'
      | cons c r =>
        simp only []
        by_cases hok : c.new.okN = true
        · rw [if_pos hok]
          have hr : ∃ d ∈ r, d.new.okN = false := by
            obtain ⟨d, hd, hd'⟩ := hbad
            rcases List.mem_cons.1 hd with rfl | hd
            · rw [hok] at hd'; cases hd'
            · exact ⟨d, hd, hd'⟩
          have : (if cmpAt h (c :: r) 0 0 = 0 then h.drop 1 else h).length ≤ h.length := by split <;> simp
          simp only [List.length_cons] at hn
          rw [ih _ r (by omega) hr]; rfl
        · rw [if_neg hok]
/-! ### 3. All spots -/
theorem spots_nodup {x : Node} {l : List Change} (hv : Valid x) (hr : risesL l false [] = true) (ho : l.all (fun c => decide (valAt x c.path = c.old)) = true) : ((spots x l).map Spot.path).Nodup := by
  obtain ⟨h1, h2, _⟩ := rises_spec hr
  have hF := flat_sorted hv.fine
  have hm1 : (spotsT l (x.flat [])).map Spot.path = (x.flat []).map Entry.path := by simp [spotsT]
  have hm2 : (spotsN l).map Spot.path = (l.filter fun c => decide (c.old.kind = 0)).map Change.path := by simp [spotsN]
  unfold spots
  rw [List.map_append, hm1, hm2]
  refine List.nodup_append.2 ⟨hF.nodup, ?_, ?_⟩
  · unfold List.Nodup
    rw [List.pairwise_map]
    exact (h2.filter _).imp (fun {a b} hab e => by rw [e, cmpP_refl] at hab; omega)
  · intro a ha b hb
    obtain ⟨e, he, rfl⟩ := List.mem_map.1 ha
    obtain ⟨c, hc, rfl⟩ := List.mem_map.1 hb
    obtain ⟨hc1, hc2⟩ := List.mem_filter.1 hc
    intro heq
    have hold := List.all_eq_true.1 ho c hc1
    simp only [decide_eq_true_eq] at hold hc2
    rw [valAt_eq hv (h1 c hc1).1, ← heq, valP_mem hF he] at hold
    have := own_kind (flat_ok hv he).2
    rw [hold] at this
    exact this hc2
theorem spots_mem {x : Node} {l : List Change} {s : Spot} : s ∈ spots x l ↔ (∃ e ∈ x.flat [], s = ⟨e.path, (nowOf l e.path).getD e.value⟩) ∨ ∃ c ∈ l, c.old.kind = 0 ∧ s = ⟨c.path, c.new⟩ := by
  unfold spots spotsT spotsN
  rw [List.mem_append, List.mem_map, List.mem_map]
  constructor
  · rintro (⟨e, he, rfl⟩ | ⟨c, hc, rfl⟩)
    · exact .inl ⟨e, he, rfl⟩
    · obtain ⟨hc1, hc2⟩ := List.mem_filter.1 hc
      exact .inr ⟨c, hc1, by simpa using hc2, rfl⟩
  · rintro (⟨e, he, rfl⟩ | ⟨c, hc, hc2, rfl⟩)
    · exact .inl ⟨e, he, rfl⟩
    · exact .inr ⟨c, List.mem_filter.2 ⟨hc, by simpa using hc2⟩, rfl⟩
theorem marks_flat {x : Node} (hv : Valid x) {e : Entry} (he : e ∈ x.flat []) : marksAt x e.path false = e.marks := by
  obtain ⟨p, v, m⟩ := e
  obtain ⟨k, hk, _, hm⟩ := (sub_flat hv (flat_ok hv he).1 v m).2 he
  simp only [marksAt, Bool.false_eq_true, if_false, hk, hm]
def shapeB (c : Change) : Bool := c.new.okN && !(decide (c.path = []) && decide (c.new.kind = 0))
theorem okN_own {v : Val} (h : v.okN = true) (hk : ¬ v.kind = 0) : ownE v Marks.zero 0 = 0 := by
  rw [okN_eqL] at h
  simp only [Bool.or_eq_true, decide_eq_true_eq] at h
  rcases h with h | h
  · exact h
  · subst h; exact absurd rfl hk
theorem spots_ok {x : Node} {l : List Change} (hv : Valid x) (hr : risesL l false [] = true) (hs : l.all shapeB = true) : ∀ s ∈ spots x l, ¬ s.value.kind = 0 → (splitP s.path 64).2 = 0 ∧ ownE s.value (marksAt x s.path (nowOf l s.path).isSome) 0 = 0 := by
  obtain ⟨h1, h2, _⟩ := rises_spec hr
  have hok : ∀ c ∈ l, c.new.okN = true := fun c hc => by
    have := List.all_eq_true.1 hs c hc
    simp only [shapeB, Bool.and_eq_true] at this
    exact this.1
  intro s hs hk
  rcases spots_mem.1 hs with ⟨e, he, rfl⟩ | ⟨c, hc, _, rfl⟩
  · obtain ⟨g1, g2⟩ := flat_ok hv he
    refine ⟨g1, ?_⟩
    simp only at hk ⊢
    cases hn : nowOf l e.path with
    | none => simp only [Option.getD_none, Option.isSome_none]; rw [marks_flat hv he]; exact g2
    | some v =>
      rw [hn] at hk
      simp only [Option.getD_some, Option.isSome_some] at hk ⊢
      obtain ⟨c, hc, _, rfl⟩ := nowOf_some hn
      simp only [marksAt, if_true]
      exact okN_own (hok c hc) hk
  · refine ⟨(h1 c hc).1, ?_⟩
    simp only at hk ⊢
    rw [nowOf_mem h2 hc]
    simp only [Option.isSome_some, marksAt, if_true]
    exact okN_own (hok c hc) hk
/-! ### 4. Laid one behind the other -/
def kept (x : Node) (l : List Change) (ls : List Spot) : List Entry := (ls.filter fun s => !decide (s.value.kind = 0)).map (laidE x l)
theorem run_spec {x : Node} {l : List Change} : ∀ (ls : List Spot) (done : List Entry), (∀ out, runG x l ls done = some out → out = done ++ kept x l ls ∧ ∀ i e, (kept x l ls)[i]? = some e → e.path = [] ∨ upDir (done ++ (kept x l ls).take i) e.path = true) ∧
    (runG x l ls done = none → ∃ i e, (kept x l ls)[i]? = some e ∧ e.path ≠ [] ∧ upDir (done ++ (kept x l ls).take i) e.path = false) := by
  intro ls
  induction ls with
  | nil => intro done; exact ⟨fun out h => by simp only [runG, Option.some.injEq] at h; subst h; exact ⟨by simp [kept], fun i e h => by simp [kept] at h⟩, fun h => by simp [runG] at h⟩
  | cons s r ih =>
    intro done
    simp only [runG]
    by_cases hk : s.value.kind = 0
    · have e1 : kept x l (s :: r) = kept x l r := by simp [kept, hk]
      rw [if_pos hk, e1]; exact ih done
    · have e1 : kept x l (s :: r) = laidE x l s :: kept x l r := by simp [kept, hk]
      rw [if_neg hk, e1]
      by_cases hc : (!decide (s.path = []) && !upDir done s.path) = true
      · rw [if_pos hc]
        simp only [Bool.and_eq_true, Bool.not_eq_true', decide_eq_false_iff_not] at hc
        exact ⟨fun out h => (by cases h), fun _ => ⟨0, laidE x l s, rfl, hc.1, by simpa [laidE] using hc.2⟩⟩
      · rw [if_neg hc]
        obtain ⟨h1, h2⟩ := ih (done ++ [laidE x l s])
        refine ⟨fun out h => ?_, fun h => ?_⟩
        · obtain ⟨g1, g2⟩ := h1 out h
          refine ⟨by rw [g1]; simp, fun i e he => ?_⟩
          cases i with
          | zero =>
            simp only [List.getElem?_cons_zero, Option.some.injEq] at he
            subst he
            by_cases hp : s.path = []
            · exact .inl hp
            · right
              simp only [hp, decide_false, Bool.not_false, Bool.true_and, Bool.not_eq_true', Bool.not_eq_false] at hc
              simpa [laidE] using hc
          | succ i =>
            have := g2 i e (by simpa using he)
            simpa using this
        · obtain ⟨i, e, g1, g2, g3⟩ := h2 h
          exact ⟨i + 1, e, by simpa using g1, g2, by simpa using g3⟩
theorem kept_mem {x : Node} {l : List Change} {ls : List Spot} {e : Entry} : e ∈ kept x l ls ↔ ∃ s ∈ ls, ¬ s.value.kind = 0 ∧ e = laidE x l s := by
  unfold kept
  rw [List.mem_map]
  constructor
  · rintro ⟨s, hs, rfl⟩
    obtain ⟨h1, h2⟩ := List.mem_filter.1 hs
    exact ⟨s, h1, by simpa using h2, rfl⟩
  · rintro ⟨s, hs, hk, rfl⟩
    exact ⟨s, List.mem_filter.2 ⟨hs, by simpa using hk⟩, rfl⟩
theorem kept_sorted {x : Node} {l : List Change} {ls : List Spot} (h : ∀ (i j : Nat) (a b : Spot), i < j → ls[i]? = some a → ls[j]? = some b → cmpP a.path b.path < 0) : SortedE (kept x l ls) := by
  have h1 : ls.Pairwise (fun a b => cmpP a.path b.path < 0) := List.pairwise_iff_getElem.2 fun i j hi hj hij => h i j _ _ hij (List.getElem?_eq_getElem hi) (List.getElem?_eq_getElem hj)
  unfold SortedE kept
  rw [List.pairwise_map]
  exact (h1.filter _)
/-- what is kept of the spots is what the merge gives -/
theorem kept_merge {x : Node} {l : List Change} {ls : List Spot} (hv : Valid x) (hr : risesL l false [] = true) (ho : l.all (fun c => decide (valAt x c.path = c.old)) = true) (hs : l.all shapeB = true) (hp : ls.Perm (spots x l))
    (hst : ∀ (i j : Nat) (a b : Spot), i < j → ls[i]? = some a → ls[j]? = some b → cmpP a.path b.path < 0) : mergeA (x.flat []) l = some (kept x l ls) := by
  obtain ⟨h1, h2, _⟩ := rises_spec hr
  have hok : ∀ c ∈ l, c.new.okN = true := fun c hc => by
    have := List.all_eq_true.1 hs c hc
    simp only [shapeB, Bool.and_eq_true] at this
    exact this.1
  obtain ⟨es, g1, g2, g3⟩ := merge_spec _ (x.flat []) l (Nat.le_refl _) (flat_sorted hv.fine) h2 hok
  unfold mergeA
  rw [g1]
  congr 1
  refine sorted_ext g2 (kept_sorted hst) fun e => ?_
  rw [g3, kept_mem]
  constructor
  · rintro (⟨he, hn⟩ | ⟨c, hc, hk, rfl⟩)
    · refine ⟨⟨e.path, e.value⟩, hp.symm.subset (spots_mem.2 (.inl ⟨e, he, by rw [hn]; rfl⟩)), own_kind (flat_ok hv he).2, ?_⟩
      simp only [laidE, hn, Option.isSome_none, marks_flat hv he]
    · refine ⟨⟨c.path, c.new⟩, hp.symm.subset ?_, hk, ?_⟩
      · by_cases hz : c.old.kind = 0
        · exact spots_mem.2 (.inr ⟨c, hc, hz, rfl⟩)
        · -- the path stands in the tree
          have hold := List.all_eq_true.1 ho c hc
          simp only [decide_eq_true_eq] at hold
          rw [valAt_eq hv (h1 c hc).1] at hold
          rcases Classical.em (∃ e ∈ x.flat [], e.path = c.path) with ⟨e, he, hep⟩ | hno
          · exact spots_mem.2 (.inl ⟨e, he, by rw [hep, nowOf_mem h2 hc]; rfl⟩)
          · rw [valP_not (fun e he hep => hno ⟨e, he, hep⟩)] at hold
            rw [← hold] at hz; exact absurd rfl hz
      · simp only [laidE, nowOf_mem h2 hc, Option.isSome_some, marksAt, if_true]
  · rintro ⟨s, hsm, hk, rfl⟩
    rcases spots_mem.1 (hp.subset hsm) with ⟨e, he, rfl⟩ | ⟨c, hc, _, rfl⟩
    · simp only [laidE] at hk ⊢
      cases hn : nowOf l e.path with
      | none =>
        left
        simp only [Option.getD_none, Option.isSome_none, marks_flat hv he]
        exact ⟨he, trivial⟩
      | some v =>
        rw [hn] at hk
        simp only [Option.getD_some] at hk
        obtain ⟨c, hc, hcp, rfl⟩ := nowOf_some hn
        right
        exact ⟨c, hc, hk, by simp only [Option.getD_some, Option.isSome_some, marksAt, if_true, hcp]⟩
    · right
      exact ⟨c, hc, hk, by simp only [laidE, nowOf_mem h2 hc, Option.isSome_some, marksAt, if_true]⟩
end Go.Proofs.YtgmomhdammdjgaaGreat
