/-
  Sizes of a tree that grew of a merged list, counted lists, what a lent list holds; small rules of tests. Plain lemmas; the rules are over any program.
-/
import Derived.Test.YtgmomhdammdjgaaGreatLawC
import Derived.Test.YtgmomhdammdjgaaGreatLent
set_option linter.unusedVariables false
set_option linter.unusedSimpArgs false
namespace Go.Proofs.YtgmomhdammdjgaaGreat
open Go Go.Proofs Go.RowKit

theorem wtC_mem : ∀ {l : List Change}, l.length ≤ wtC l ∧ ∀ e ∈ l, e.path.length ≤ wtC l
  | [] => ⟨Nat.le_refl _, fun e he => by simp at he⟩
  | c :: r => by
    obtain ⟨h1, h2⟩ := wtC_mem (l := r)
    refine ⟨by simp only [List.length_cons, wtC]; omega, fun e he => ?_⟩
    simp only [wtC]
    rcases List.mem_cons.1 he with rfl | he
    · omega
    · have := h2 e he; omega
theorem few_facts {l : List Change} (h : 0 ≤ cntC 6000 l) : l.length ≤ 6000 ∧ ∀ e ∈ l, e.path.length ≤ 6000 := by
  have h1 := (cntC_wt l 6000 h).1
  obtain ⟨h2, h3⟩ := wtC_mem (l := l)
  exact ⟨by omega, fun e he => by have := h3 e he; omega⟩
mutual
theorem Node.flat_few : ∀ (x : Node) (p : Str) (n : Nat), p.length + Node.wtL x.kids ≤ n → ∀ e ∈ x.flat p, e.path.length ≤ n
  | .mk s v m ks, p, n, h => fun e he => by
    have h' : p.length + Node.wtL ks ≤ n := h
    rcases List.mem_cons.1 he with rfl | he
    · show p.length ≤ n; omega
    · exact Node.flatL_few ks p n h' e he
theorem Node.flatL_few : ∀ (l : List Node) (p : Str) (n : Nat), p.length + Node.wtL l ≤ n → ∀ e ∈ Node.flatL l p, e.path.length ≤ n
  | [], p, n, h => fun e he => by cases he
  | k :: r, p, n, h => fun e he => by
    have hk := Node.wt_eq k
    have hb := belowP_len p k.name
    simp only [Node.wtL] at h
    rcases List.mem_append.1 he with he | he
    · exact Node.flat_few k _ n (by omega) e he
    · exact Node.flatL_few r p n (by omega) e he
end
/-! ### A merged list -/
theorem merge_room : ∀ (n : Nat) (h : List Entry) (l : List Change) (out : List Entry), mergeF n h l = some out → out.length ≤ h.length + l.length ∧ ∀ e ∈ out, (∃ a ∈ h, a.path = e.path) ∨ ∃ c ∈ l, c.path = e.path := by
  intro n
  induction n with
  | zero => intro h l out hm; simp only [mergeF] at hm; cases hm; exact ⟨by simp, fun e he => by simp at he⟩
  | succ n ih =>
    intro h l out hm
    rw [mergeF_succ] at hm
    by_cases h0 : h = [] ∧ l = []
    · rw [if_pos h0] at hm; cases hm; exact ⟨by simp, fun e he => by simp at he⟩
    rw [if_neg h0] at hm
    by_cases h1 : cmpAt h l 0 0 < 0
    · rw [if_pos h1] at hm
      cases hr : mergeF n (h.drop 1) l with
      | none => rw [hr] at hm; cases hm
      | some o =>
        rw [hr] at hm; cases hm
        obtain ⟨g1, g2⟩ := ih _ _ _ hr
        cases h with
        | nil => simp at g1 g2 ⊢; exact ⟨g1, g2⟩
        | cons a h =>
          simp only [List.drop_succ_cons, List.drop_zero, List.take_succ_cons, List.take_zero, List.length_append, List.length_cons, List.length_nil] at g1 g2 ⊢
          refine ⟨by omega, fun e he => ?_⟩
          rcases List.mem_append.1 he with he | he
          · exact .inl ⟨a, List.mem_cons_self, by rw [List.mem_singleton.1 he]⟩
          · rcases g2 e he with ⟨b, hb, hp⟩ | hc
            · exact .inl ⟨b, List.mem_cons_of_mem _ hb, hp⟩
            · exact .inr hc
    · rw [if_neg h1] at hm
      cases l with
      | nil => cases hm; exact ⟨by simp, fun e he => by simp at he⟩
      | cons c r =>
        simp only [] at hm
        by_cases h2 : c.new.okN = true
        · rw [if_pos h2] at hm
          cases hr : mergeF n (if cmpAt h (c :: r) 0 0 = 0 then h.drop 1 else h) r with
          | none => rw [hr] at hm; cases hm
          | some o =>
            rw [hr] at hm; cases hm
            obtain ⟨g1, g2⟩ := ih _ _ _ hr
            have hsub : ∀ a ∈ (if cmpAt h (c :: r) 0 0 = 0 then h.drop 1 else h), a ∈ h := fun a ha => by
              split at ha
              · exact List.mem_of_mem_drop ha
              · exact ha
            have hl : (if cmpAt h (c :: r) 0 0 = 0 then h.drop 1 else h).length ≤ h.length := by split <;> simp
            have hl2 : (if c.new.kind = 0 then [] else [(⟨c.path, c.new, Marks.zero⟩ : Entry)]).length ≤ 1 := by split <;> simp
            refine ⟨by simp only [List.length_append, List.length_cons]; omega, fun e he => ?_⟩
            rcases List.mem_append.1 he with he | he
            · split at he
              · simp at he
              · exact .inr ⟨c, List.mem_cons_self, by rw [List.mem_singleton.1 he]⟩
            · rcases g2 e he with ⟨b, hb, hp⟩ | ⟨b, hb, hp⟩
              · exact .inl ⟨b, hsub b hb, hp⟩
              · exact .inr ⟨b, List.mem_cons_of_mem _ hb, hp⟩
        · rw [if_neg h2] at hm; cases hm
theorem joinP_mem : ∀ {q : List Str} {n : Str}, n ∈ q → n.length ≤ (joinP q).length
  | [a], n, h => by rw [List.mem_singleton.1 h]; exact Nat.le_refl _
  | a :: b :: r, n, h => by
    show n.length ≤ (a ++ 47 :: joinP (b :: r)).length
    rcases List.mem_cons.1 h with rfl | h
    · simp
    · have := joinP_mem h; simp; omega
mutual
theorem wt_things (B : Nat) : ∀ (x : Node), (∀ t ∈ x.things, ∀ n ∈ t.1, n.length ≤ B) → Node.wtL x.kids ≤ Node.sizeL x.kids * (B + 1)
  | .mk s v m ks, h => wtL_things B ks fun t ht => h t (by rw [Node.things_eq]; exact List.mem_cons_of_mem _ ht)
theorem wtL_things (B : Nat) : ∀ (l : List Node), (∀ t ∈ Node.thingsL l, ∀ n ∈ t.1, n.length ≤ B) → Node.wtL l ≤ Node.sizeL l * (B + 1)
  | [], h => by simp [Node.wtL]
  | k :: r, h => by
    have h1 := wt_things B k fun t ht n hn => h (k.name :: t.1, t.2) (by simp only [Node.thingsL, List.mem_append, List.mem_map]; exact .inl ⟨t, ht, rfl⟩) n (List.mem_cons_of_mem _ hn)
    have h2 := wtL_things B r fun t ht => h t (by simp only [Node.thingsL, List.mem_append]; exact .inr ht)
    have h3 := h (k.name :: [], k.value, k.marks) (by simp only [Node.thingsL, List.mem_append, List.mem_map]; exact .inl ⟨_, Node.root_mem k, rfl⟩) k.name List.mem_cons_self
    have h4 := Node.wt_eq k
    have h5 := Node.size_eq k
    simp only [Node.wtL, Node.sizeL, h4, h5]
    rw [Nat.add_mul, Nat.add_mul]
    omega
end
/-- a tree that grew of a merged list of few parts has few parts -/
theorem grown_room {x z : Node} {l : List Change} {es : List Entry} (hg : Grown z es) (hm : mergeA (x.flat []) l = some es) (hx : Node.wtL x.kids ≤ 5999) (hl : 0 ≤ cntC 6000 l) : z.size ≤ 12000 ∧ Node.wtL z.kids ≤ 80000000 := by
  obtain ⟨l1, l2⟩ := few_facts hl
  obtain ⟨m1, m2⟩ := merge_room _ _ _ _ hm
  have hs := Node.size_eq x
  have hw := Node.sizeL_wt x.kids
  rw [Node.flat_len, hs] at m1
  have hz := hg.size
  have hz2 := Node.size_eq z
  have hpx : ∀ e ∈ x.flat [], e.path.length ≤ 6000 := Node.flat_few x [] 6000 (by simp only [List.length_nil]; omega)
  have hfl : es = z.things.map (entT []) := by rw [← hg.flat, Node.flat0 hg.fine]
  refine ⟨by omega, ?_⟩
  have := wt_things 6000 z fun t ht n hn => by
    have he : entT [] t ∈ es := by rw [hfl]; exact List.mem_map_of_mem ht
    have hp : (entT [] t).path.length ≤ 6000 := by
      rcases m2 _ he with ⟨a, ha, hp⟩ | ⟨c, hc, hp⟩
      · rw [← hp]; exact hpx a ha
      · rw [← hp]; have := l2 c hc; omega
    have hj := joinP_mem hn
    simp only [entT, List.nil_append] at hp
    omega
  have : Node.sizeL z.kids * (6000 + 1) ≤ 12000 * (6000 + 1) := Nat.mul_le_mul_right _ (by omega)
  omega
/-- the document's tree and the program's are the same -/
theorem want_same {z : Node} {es : List Entry} (hg : Grown z es) {e : Entry} {ks : List Node} {n : Nat} (he : es[0]? = some e) (hr : GrowR es e.path 1 ks n) {v : Val} {m : Marks} (hv : v = e.value) (hm : m = e.marks) (nm nm' : Str) : Node.same (Node.mk nm' z.value z.marks z.kids) (Node.mk nm v m ks) = true ∧ ks = z.kids := by
  obtain ⟨rfl, h1, h2⟩ := grown_eq hg he hr
  subst hv; subst hm
  rw [h1, h2, Node.same_eq]
  refine ⟨?_, rfl⟩
  show (decide (z.value = z.value) && decide (z.marks = z.marks) && Node.sameL z.kids z.kids) = true
  rw [Node.sameL_refl]; simp
/-! ### What a lent list holds -/
theorem lent_at {l : List Change} {csf : List Value} (h : csf.take ((l.length + 40) * 71) = (l ++ markL 40).flatMap Change.cells) : (∀ (i : Nat) (x : Change), l[i]? = some x → byEnc Change.cells (chunk csf 0 71 i) x) ∧ MarksAt csf l.length (l.length + 40) := by
  have hl : (l ++ markL 40).length = l.length + 40 := by rw [List.length_append, markL_len]
  rw [← hl] at h
  refine ⟨fun i x hx => ?_, fun k h1 h2 => ?_⟩
  · exact chunk_flat Change.cells 71 (fun _ => rfl) _ _ _ _ h (by rw [List.getElem?_append_left (List.getElem?_eq_some_iff.1 hx).1]; exact hx)
  · refine chunk_flat Change.cells 71 (fun _ => rfl) _ _ _ _ h ?_
    rw [List.getElem?_append_right h1]
    simp only [markL, List.getElem?_map, List.getElem?_range (show k - l.length < 40 by omega)]
    rfl
theorem MarksAt.put {cs vs : List Value} {i n tot : Nat} (h : MarksAt cs n tot) (hi : i < n) (hv : vs.length = 71) (hc : (i + 1) * 71 ≤ cs.length) : MarksAt (cs.take (0 + i * 71) ++ vs ++ cs.drop (0 + i * 71 + 71)) n tot := fun k h1 h2 => by
  rw [← h k h1 h2]
  unfold chunk
  congr 1
  have e1 : (cs.take (0 + i * 71) ++ vs).length = (i + 1) * 71 := by rw [List.length_append, List.length_take, hv]; omega
  have hk : (i + 1) * 71 ≤ k * 71 := Nat.mul_le_mul_right _ (by omega)
  rw [List.drop_append, List.drop_eq_nil_of_le (by rw [e1]; omega), List.nil_append, List.drop_drop, e1]
  congr 1
  omega
section
variable {P : Program} {e : Env} {M : PMem} {H : List Res}
theorem D_as {op : Op} {v v' : Value} (h : Dv P e M H op v) (hv : v = v') : Dv P e M H op v' := hv ▸ h
theorem equalIn_bool (k : Nat) {t : Nat} {a b : Bool} (ht : P.underlying t = some .bool) (w : World) : (Op.equalIn (k + 1) t (.bool a) (.bool b)).run P w = .ok (a == b) w := by
  simp [Op.equalIn, run_underlying ht]
theorem D_neB {x y : Operand} {t t' : Nat} {a b : Bool} (ht : P.underlying t = some .bool) (hx : e.val x = some (.bool a)) (hy : e.val y = some (.bool b)) : Dv P e M H (.binOp .neq t x y t') (.bool (!(a == b))) :=
  ⟨(fun _ h => by cases h), fun _ a' w _ _ _ _ _ hk hs => by
    have h1 : (Op.equal t (.bool a) (.bool b)).run P w = .ok (a == b) w := equalIn_bool 9999 ht w
    have h2 : (eqGuard .neq t x y (.bool a) (.bool b)).run P w = .ok () w := by simp [eqGuard]
    have h3 : (binOp .neq t (.bool a) (.bool b)).run P w = .ok (.bool (!(a == b))) w := by
      rw [show binOp .neq t (.bool a) (.bool b) = (Op.equal t (.bool a) (.bool b) >>= fun r => pure (Value.bool (!r))) from rfl, bind_ok h1, Sem.run_pure]
    simp only [execOp, hk.eval hx, hk.eval hy, Sem.run_bind, h2, h3, Result.andThen_ok, Sem.run_pure]⟩
end
end Go.Proofs.YtgmomhdammdjgaaGreat
