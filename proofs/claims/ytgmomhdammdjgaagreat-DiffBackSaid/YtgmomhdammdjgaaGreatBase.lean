/-
  A small separation logic over the walk's calculus: what a function knows of its slots (Env), of memory that nobody writes any more (PMem) and of what it owns (Res).
  No condition: plain definitions and theorems, over any program.
-/
import Derived.TacticsIn
import Derived.OrdersIn
import Derived.Below
import Derived.OwnWalkIn
import Derived.RangeFuncRecord
import Derived.RangeFuncIn
import Derived.Deep.MidRow
import Derived.KernelRfl
set_option linter.unusedVariables false
set_option linter.unusedSimpArgs false
namespace Go.Proofs.YtgmomhdammdjgaaGreat
open Go Go.RowKit

/-! ### 1. What is known of the slots -/
abbrev Env := List (Nat × Value)
def Env.find : Env → Nat → Option Value
  | [], _ => none
  | (k, v) :: r, t => bif Nat.beq k t then some v else Env.find r t
def Env.val (e : Env) : Operand → Option Value
  | .tmp t => e.find t
  | .const v => some v
  | .global g => some (.pointer (some ⟨g, 0, none⟩))
  | .func f => some (.func (.func f) #[] #[])
def Env.vals (e : Env) : List Operand → Option (List Value)
  | [] => some []
  | x :: r => match e.val x, e.vals r with
    | some v, some vs => some (v :: vs)
    | _, _ => none
structure Knows (n : Nat) (e : Env) (a : Act) : Prop where
  size : a.tmps.size = n
  at_ : ∀ t v, e.find t = some v → a.tmps.getD t undef = v
theorem Knows.eval {n : Nat} {e : Env} {a : Act} (h : Knows n e a) {x : Operand} {v : Value} (hx : e.val x = some v) : a.eval x = v := by
  cases x with
  | tmp t => exact h.at_ t v hx
  | const c => simpa [Env.val, Act.eval] using hx
  | global g => simpa [Env.val, Act.eval] using hx
  | func f => simpa [Env.val, Act.eval] using hx
theorem Knows.evals {n : Nat} {e : Env} {a : Act} (h : Knows n e a) : ∀ {xs : List Operand} {vs : List Value}, e.vals xs = some vs → xs.map a.eval = vs := by
  intro xs
  induction xs with
  | nil => intro vs hx; simpa [Env.vals] using hx
  | cons x r ih =>
    intro vs hx
    simp only [Env.vals] at hx
    cases h1 : e.val x with
    | none => simp [h1] at hx
    | some v =>
      cases h2 : e.vals r with
      | none => simp [h1, h2] at hx
      | some us =>
        simp only [h1, h2, Option.some.injEq] at hx
        subst hx
        simp [h.eval h1, ih h2]
theorem Env.find_cons (k : Nat) (v : Value) (e : Env) (t : Nat) : Env.find ((k, v) :: e) t = if k = t then some v else Env.find e t := by
  by_cases h : k = t
  · subst h; simp [Env.find]
  · have hb : Nat.beq k t = false := by
      cases hq : Nat.beq k t with
      | false => rfl
      | true => exact absurd (Nat.eq_of_beq_eq_true hq) h
    simp [Env.find, h, hb]
theorem Knows.put {n : Nat} {e : Env} {a : Act} (h : Knows n e a) {d : Nat} (hd : d < n) (v : Value) : Knows n ((d, v) :: e) (a.put (some d) v) := by
  refine ⟨by simp [Act.put, h.size], fun t u hu => ?_⟩
  rw [Env.find_cons] at hu
  by_cases ht : d = t
  · subst ht
    rw [if_pos rfl] at hu
    cases hu
    have : d < a.tmps.size := by rw [h.size]; exact hd
    simp [Act.put, this]
  · rw [if_neg ht] at hu
    have := h.at_ t u hu
    simp only [Act.put, Array.getD_eq_getD_getElem?] at this ⊢
    rw [Array.getElem?_setIfInBounds_ne ht]
    exact this
/-- e' says nothing that e doesn't. -/
def Env.sub (e' e : Env) : Prop := ∀ t v, e'.find t = some v → e.find t = some v
theorem Env.sub_nil (e : Env) : Env.sub [] e := fun t v h => by simp [Env.find] at h
theorem Env.sub_cons {e' e : Env} {t : Nat} {v : Value} (h : e.find t = some v) (hs : Env.sub e' e) : Env.sub ((t, v) :: e') e := fun t' v' h' => by
  rw [Env.find_cons] at h'
  by_cases ht : t = t'
  · subst ht; rw [if_pos rfl] at h'; cases h'; exact h
  · rw [if_neg ht] at h'; exact hs t' v' h'
theorem Env.sub_refl (e : Env) : Env.sub e e := fun _ _ h => h
theorem Knows.sub {n : Nat} {e e' : Env} {a : Act} (h : Knows n e a) (hs : Env.sub e' e) : Knows n e' a := ⟨h.size, fun t v hv => h.at_ t v (hs t v hv)⟩

/-! ### 2. Memory -/
abbrev PMem := Nat → Option Obj
def PMem.le (M M' : PMem) : Prop := ∀ b o, M b = some o → M' b = some o
theorem PMem.le_refl (M : PMem) : PMem.le M M := fun _ _ h => h
theorem PMem.le_trans {A B C : PMem} (h : PMem.le A B) (k : PMem.le B C) : PMem.le A C := fun b o x => k b o (h b o x)
def Lies (M : PMem) (w : World) : Prop := ∀ b o, M b = some o → w.heap[b]? = some o
def PMem.add (M : PMem) (b : Nat) (o : Obj) : PMem := fun k => if k = b then some o else M k
theorem PMem.add_same (M : PMem) (b : Nat) (o : Obj) : M.add b o b = some o := by simp [PMem.add]
theorem PMem.le_add {M : PMem} {b : Nat} {o : Obj} (h : M b = none) : PMem.le M (M.add b o) := fun k o' hk => by
  have : k ≠ b := fun e => by subst e; rw [h] at hk; cases hk
  simp [PMem.add, this, hk]

inductive Res where
  | blk (b : Nat) (o : Obj)
  | row (v : Value) (e : TypeId) (sz : Nat) (n : Nat) (xs : List Value)
def Res.fp : Res → Option Nat
  | .blk b _ => some b
  | .row v _ _ _ _ => v.ownBlock
def Res.holds (w : World) : Res → Prop
  | .blk b o => w.heap[b]? = some o
  | .row v e sz n xs => w.ownsRow 0 e sz v n xs
theorem Res.holds_lt {w : World} {r : Res} (h : r.holds w) {b : Nat} (hb : r.fp = some b) : b < w.heap.size := by
  cases r with
  | blk k o => simp only [Res.fp, Option.some.injEq] at hb; subst hb; exact (Array.getElem?_eq_some_iff.1 h).1
  | row v e sz n xs => exact (World.ownsRow.lt h b hb).2
/-- What is said of a resource depends on its own block alone. -/
theorem Res.holds_of {w w' : World} {r : Res} (h : r.holds w) (hb : ∀ b, r.fp = some b → w'.heap[b]? = w.heap[b]?) : r.holds w' := by
  cases r with
  | blk k o => exact (hb k rfl).trans h
  | row v e sz n xs =>
    obtain ⟨h1, h2⟩ := h
    refine ⟨h1, ?_⟩
    rcases h2 with h2 | ⟨g, cap, cur, hv, hg, hh, r⟩
    · exact .inl h2
    · exact .inr ⟨g, cap, cur, hv, hg, by rw [hb g (by subst hv; rfl)]; exact hh, r⟩

/-- From w0 on the blocks of w0 outside X stand as they stood. -/
structure Kept (X : List Nat) (w0 w : World) : Prop where
  os : w.os = w0.os
  tape : w.tape = w0.tape
  output : w.output = w0.output
  size : w0.heap.size ≤ w.heap.size
  block : ∀ k, k < w0.heap.size → k ∉ X → w.heap[k]? = w0.heap[k]?
  drawn : w0.drawn ≤ w.drawn
theorem Kept.refl (X : List Nat) (w : World) : Kept X w w := ⟨rfl, rfl, rfl, Nat.le_refl _, fun _ _ _ => rfl, Nat.le_refl _⟩
theorem Kept.below {w0 w : World} (h : Kept [] w0 w) : Below w0.heap.size w0 w := ⟨h.os, h.tape, h.output, h.size, fun k hk => h.block k hk (by simp)⟩

structure St (w0 : World) (X : List Nat) (M0 M : PMem) (H : List Res) (w : World) : Prop where
  kept : Kept X w0 w
  sub : PMem.le M0 M
  mem : Lies M w
  new : ∀ b o, M b = some o → M0 b = some o ∨ w0.heap.size ≤ b ∨ b ∈ X
  own : ∀ r ∈ H, r.holds w
  free : ∀ r ∈ H, ∀ b, r.fp = some b → M b = none ∧ (w0.heap.size ≤ b ∨ b ∈ X)
  apart : H.Pairwise (fun x y => ∀ b, x.fp = some b → y.fp ≠ some b)
namespace St
variable {w0 : World} {X : List Nat} {M0 M : PMem} {H : List Res} {w : World}
theorem start (hM : Lies M w) : St w [] M M [] w :=
  ⟨Kept.refl _ _, PMem.le_refl _, hM, fun _ _ h => .inl h, by simp, by simp, List.Pairwise.nil⟩
theorem start_own (hM : Lies M w) (H : List Res) (hX : ∀ r ∈ H, ∀ b, r.fp = some b → b ∈ X) (hH : ∀ r ∈ H, r.holds w) (hf : ∀ r ∈ H, ∀ b, r.fp = some b → M b = none)
    (ha : H.Pairwise (fun x y => ∀ b, x.fp = some b → y.fp ≠ some b)) : St w X M M H w :=
  ⟨Kept.refl _ _, PMem.le_refl _, hM, fun _ _ h => .inl h, hH, fun r hr b hb => ⟨hf r hr b hb, .inr (hX r hr b hb)⟩, ha⟩
theorem lies_lt (h : St w0 X M0 M H w) {b : Nat} {o : Obj} (hb : M b = some o) : b < w.heap.size := (Array.getElem?_eq_some_iff.1 (h.mem b o hb)).1
theorem drew (h : St w0 X M0 M H w) : St w0 X M0 M H w.drew :=
  ⟨⟨h.kept.os, h.kept.tape, h.kept.output, h.kept.size, h.kept.block, Nat.le_succ_of_le h.kept.drawn⟩, h.sub, h.mem, h.new, fun r hr => Res.holds_of (h.own r hr) (fun _ _ => rfl), h.free, h.apart⟩
theorem fresh (h : St w0 X M0 M H w) : M w.heap.size = none := by
  cases hm : M w.heap.size with
  | none => rfl
  | some o => exact absurd (h.lies_lt hm) (Nat.lt_irrefl _)
theorem alloc (h : St w0 X M0 M H w) (o : Obj) : St w0 X M0 M (.blk w.heap.size o :: H) (w.alloc o) := by
  have old : ∀ k, k < w.heap.size → (w.alloc o).heap[k]? = w.heap[k]? := fun k hk => Below.heap_alloc w o k hk
  refine ⟨⟨h.kept.os, h.kept.tape, h.kept.output, by have := h.kept.size; simp; omega, fun k hk hx => (old k (Nat.lt_of_lt_of_le hk h.kept.size)).trans (h.kept.block k hk hx), h.kept.drawn⟩,
    h.sub, fun b o' hb => (old b (h.lies_lt hb)).trans (h.mem b o' hb), h.new, ?_, ?_, ?_⟩
  · intro r hr
    rcases List.mem_cons.1 hr with rfl | hr
    · exact World.alloc_heap_new w o
    · exact Res.holds_of (h.own r hr) (fun b hb => old b (Res.holds_lt (h.own r hr) hb))
  · intro r hr b hb
    rcases List.mem_cons.1 hr with rfl | hr
    · cases hb
      exact ⟨h.fresh, .inl h.kept.size⟩
    · exact h.free r hr b hb
  · refine List.Pairwise.cons ?_ h.apart
    intro r hr b hb hb'
    cases hb
    exact absurd (Res.holds_lt (h.own r hr) hb') (Nat.lt_irrefl _)
/-- One resource is turned: of the blocks that lay none but its own. -/
theorem turn (h : St w0 X M0 M H w) {i : Nat} {r : Res} (hi : H[i]? = some r) {w' : World} (r' : Res) (hg : w.grownBy w' r.fp) (hdr : w.drawn ≤ w'.drawn) (hr' : r'.holds w')
    (hfp : ∀ b, r'.fp = some b → r.fp = some b ∨ w.heap.size ≤ b) : St w0 X M0 M (H.set i r') w' := by
  have hmem : r ∈ H := List.mem_of_getElem? hi
  have hilt : i < H.length := (List.getElem?_eq_some_iff.1 hi).1
  have pw := List.pairwise_iff_getElem.1 h.apart
  have hri : H[i]'hilt = r := (List.getElem?_eq_some_iff.1 hi).2
  have other : ∀ j, j ≠ i → ∀ (hj : j < H.length), ∀ b, (H[j]'hj).fp = some b → r.fp ≠ some b := by
    intro j hji hj b hb hrb
    rcases Nat.lt_or_gt_of_ne hji with hlt | hgt
    · exact pw j i hj hilt hlt b hb (by rw [hri]; exact hrb)
    · exact pw i j hilt hj hgt b (by rw [hri]; exact hrb) hb
  have keep : ∀ j, j ≠ i → ∀ (hj : j < H.length), (H[j]'hj).holds w' := by
    intro j hji hj
    have hold := h.own _ (List.getElem_mem hj)
    refine Res.holds_of hold (fun b hb => hg.block b (Res.holds_lt hold hb) ?_)
    exact fun e => other j hji hj b hb e.symm
  refine ⟨⟨hg.os.trans h.kept.os, hg.tape.trans h.kept.tape, hg.output.trans h.kept.output, Nat.le_trans h.kept.size hg.size, ?_, Nat.le_trans h.kept.drawn hdr⟩, h.sub, ?_, h.new, ?_, ?_, ?_⟩
  · intro k hk hx
    refine (hg.block k (Nat.lt_of_lt_of_le hk h.kept.size) ?_).trans (h.kept.block k hk hx)
    intro e
    rcases (h.free r hmem k e.symm).2 with h1 | h1
    · omega
    · exact hx h1
  · intro b o hb
    refine (hg.block b (h.lies_lt hb) ?_).trans (h.mem b o hb)
    intro e
    have := (h.free r hmem b e.symm).1
    rw [hb] at this; cases this
  · intro x hx
    obtain ⟨j, hj, hxj⟩ := List.getElem_of_mem hx
    rw [List.getElem_set] at hxj
    have hj' : j < H.length := by simpa using hj
    by_cases hji : i = j
    · rw [if_pos hji] at hxj; subst hxj; exact hr'
    · rw [if_neg hji] at hxj; subst hxj; exact keep j (Ne.symm hji) hj'
  · intro x hx b hb
    obtain ⟨j, hj, hxj⟩ := List.getElem_of_mem hx
    rw [List.getElem_set] at hxj
    have hj' : j < H.length := by simpa using hj
    by_cases hji : i = j
    · rw [if_pos hji] at hxj; subst hxj
      rcases hfp b hb with h1 | h1
      · exact h.free r hmem b h1
      · refine ⟨?_, .inl (Nat.le_trans h.kept.size h1)⟩
        cases hm : M b with
        | none => rfl
        | some o => have := h.lies_lt hm; omega
    · rw [if_neg hji] at hxj; subst hxj; exact h.free _ (List.getElem_mem hj') b hb
  · refine List.pairwise_iff_getElem.2 ?_
    intro p q hp hq hpq b hb hb'
    have hp' : p < H.length := by simpa using hp
    have hq' : q < H.length := by simpa using hq
    rw [List.getElem_set] at hb hb'
    by_cases hip : i = p
    · have hiq : ¬ i = q := by omega
      rw [if_pos hip] at hb
      rw [if_neg hiq] at hb'
      rcases hfp b hb with h1 | h1
      · exact other q (Ne.symm hiq) hq' b hb' h1
      · have := Res.holds_lt (h.own _ (List.getElem_mem hq')) hb'; omega
    · rw [if_neg hip] at hb
      by_cases hiq : i = q
      · rw [if_pos hiq] at hb'
        rcases hfp b hb' with h1 | h1
        · exact other p (Ne.symm hip) hp' b hb h1
        · have := Res.holds_lt (h.own _ (List.getElem_mem hp')) hb; omega
      · rw [if_neg hiq] at hb'
        exact pw p q hp' hq' hpq b hb hb'
/-- What is owned is looked at no more. -/
theorem drop {H' : List Res} (h : St w0 X M0 M H w) (hs : H'.Sublist H) : St w0 X M0 M H' w :=
  ⟨h.kept, h.sub, h.mem, h.new, fun r hr => h.own r (hs.subset hr), fun r hr => h.free r (hs.subset hr), h.apart.sublist hs⟩
/-- Less is known of what lies. -/
theorem less {M' : PMem} (h : St w0 X M0 M' H w) (h0 : PMem.le M0 M) (hM : PMem.le M M') : St w0 X M0 M H w :=
  ⟨h.kept, h0, fun b o hb => h.mem b o (hM b o hb), fun b o hb => h.new b o (hM b o hb), h.own, fun r hr b hb => by
    refine ⟨?_, (h.free r hr b hb).2⟩
    cases hm : M b with
    | none => rfl
    | some o => have := (h.free r hr b hb).1; exact absurd (hM b o hm) (by rw [this]; simp), h.apart⟩
theorem perm {H' : List Res} (h : St w0 X M0 M H w) (hp : H'.Perm H) : St w0 X M0 M H' w :=
  ⟨h.kept, h.sub, h.mem, h.new, fun r hr => h.own r (hp.subset hr), fun r hr => h.free r (hp.subset hr),
    (List.Perm.pairwise_iff (fun {x y} hxy b hb hb' => hxy b hb' hb) hp).2 h.apart⟩
/-- A block of one's own is written no more: it is handed over. -/
theorem freeze {b : Nat} {o : Obj} (h : St w0 X M0 M (.blk b o :: H) w) : St w0 X M0 (M.add b o) H w := by
  have hf := h.free _ (List.mem_cons_self) b rfl
  have hown := h.own _ (List.mem_cons_self)
  obtain ⟨hp, hap⟩ := List.pairwise_cons.1 h.apart
  refine ⟨h.kept, PMem.le_trans h.sub (PMem.le_add hf.1), ?_, ?_, fun r hr => h.own r (List.mem_cons_of_mem _ hr), ?_, hap⟩
  · intro k o' hk
    simp only [PMem.add] at hk
    split at hk
    · rename_i e; subst e; cases hk; exact hown
    · exact h.mem k o' hk
  · intro k o' hk
    simp only [PMem.add] at hk
    split at hk
    · rename_i e; subst e; exact .inr hf.2
    · exact h.new k o' hk
  · intro r hr k hk
    have h1 := h.free r (List.mem_cons_of_mem _ hr) k hk
    refine ⟨?_, h1.2⟩
    have hne : k ≠ b := fun e => by subst e; exact hp r hr k rfl hk
    simp [PMem.add, hne, h1.1]
theorem freeze_add {b : Nat} {o : Obj} (h : St w0 X M0 M (.blk b o :: H) w) : PMem.le M (M.add b o) := PMem.le_add (h.free _ (List.mem_cons_self) b rfl).1
/-- A call: it was handed Hc (its blocks are Y) and left H'. -/
theorem call {Hc H' : List Res} {Y : List Nat} {M' : PMem} {w' : World} (h : St w0 X M0 M (Hc ++ H) w) (hY : ∀ y ∈ Y, ∃ r ∈ Hc, r.fp = some y)
    (h' : St w Y M M' H' w') : St w0 X M0 M' (H' ++ H) w' := by
  obtain ⟨hap1, hap2, hap3⟩ := List.pairwise_append.1 h.apart
  have notY : ∀ r ∈ H, ∀ b, r.fp = some b → b ∉ Y := by
    intro r hr b hb hy
    obtain ⟨c, hc, hcb⟩ := hY b hy
    exact hap3 c hc r hr b hcb hb
  have inX : ∀ y ∈ Y, w0.heap.size ≤ y ∨ y ∈ X := by
    intro y hy
    obtain ⟨c, hc, hcb⟩ := hY y hy
    exact (h.free c (List.mem_append_left _ hc) y hcb).2
  refine ⟨⟨h'.kept.os.trans h.kept.os, h'.kept.tape.trans h.kept.tape, h'.kept.output.trans h.kept.output, Nat.le_trans h.kept.size h'.kept.size, ?_, Nat.le_trans h.kept.drawn h'.kept.drawn⟩, PMem.le_trans h.sub h'.sub, h'.mem, ?_, ?_, ?_, ?_⟩
  · intro k hk hx
    refine (h'.kept.block k (Nat.lt_of_lt_of_le hk h.kept.size) ?_).trans (h.kept.block k hk hx)
    intro hy
    rcases inX k hy with h1 | h1
    · omega
    · exact hx h1
  · intro b o hb
    rcases h'.new b o hb with h1 | h1 | h1
    · exact h.new b o h1
    · exact .inr (.inl (Nat.le_trans h.kept.size h1))
    · exact .inr (inX b h1)
  · intro r hr
    rcases List.mem_append.1 hr with hr | hr
    · exact h'.own r hr
    · have hold := h.own r (List.mem_append_right _ hr)
      exact Res.holds_of hold (fun b hb => h'.kept.block b (Res.holds_lt hold hb) (notY r hr b hb))
  · intro r hr b hb
    rcases List.mem_append.1 hr with hr | hr
    · obtain ⟨h1, h2⟩ := h'.free r hr b hb
      refine ⟨h1, ?_⟩
      rcases h2 with h2 | h2
      · exact .inl (Nat.le_trans h.kept.size h2)
      · exact inX b h2
    · have hold := h.own r (List.mem_append_right _ hr)
      have hlt := Res.holds_lt hold hb
      have hfr := h.free r (List.mem_append_right _ hr) b hb
      refine ⟨?_, hfr.2⟩
      cases hm : M' b with
      | none => rfl
      | some o =>
        rcases h'.new b o hm with h1 | h1 | h1
        · rw [hfr.1] at h1; cases h1
        · omega
        · exact absurd h1 (notY r hr b hb)
  · refine List.pairwise_append.2 ⟨h'.apart, hap2, ?_⟩
    intro x hx y hy b hb hb'
    have hlt := Res.holds_lt (h.own y (List.mem_append_right _ hy)) hb'
    rcases (h'.free x hx b hb).2 with h1 | h1
    · omega
    · exact notY y hy b hb' h1
end St
end Go.Proofs.YtgmomhdammdjgaaGreat
