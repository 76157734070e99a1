/-
  The program's trees: in memory, and what its functions say of them. No condition: plain definitions and lemmas.
-/
import Derived.Test.YtgmomhdammdjgaaGreatStr
set_option linter.unusedVariables false
set_option linter.unusedSimpArgs false
namespace Go.Proofs.YtgmomhdammdjgaaGreat
open Go Go.RowKit

def Mark.okT (m : Mark) : Bool := decide (m = Mark.zero) || (decide (1 ≤ min m.number m.stamp) && decide (max m.number m.stamp ≤ 72057594037927935))
theorem Mark.okT_eq (m : Mark) : m.okT = m.ok := by
  rw [Bool.eq_iff_iff]
  have hz : m = Mark.zero ↔ m.number = 0 ∧ m.stamp = 0 := by rw [Mark.ext_iff]; rfl
  simp only [Mark.okT, Mark.ok, Bool.or_eq_true, Bool.and_eq_true, decide_eq_true_eq, hz]
  omega
/-- may a thing have this value and these marks? -/
def possE (v : Val) (m : Marks) : Int :=
  if v.kind = 1 then (if ((decide (m = Marks.zero) && (decide (v.size = 0) && decide (v.sum = Sum32.zero))) && (decide (0 ≤ v.mode) && decide (v.mode ≤ 8))) = true then 0 else 41)
  else if v.kind = 2 then (if ((((m.a.okT && m.b.okT) && (decide (0 ≤ v.mode) && decide (v.mode ≤ 8))) && decide (0 ≤ v.size)) && decide (v.size ≤ 1099511627775)) = true then 0 else 41)
  else if v.kind = 3 then (if (((decide (m = Marks.zero) && decide (v.mode = 0)) && decide (1 ≤ v.size)) && decide (v.size ≤ 4095)) = true then 0 else 41) else 40
theorem Marks.zero_ok {m : Marks} (h : m = Marks.zero) : m.a.ok = true ∧ m.b.ok = true := by subst h; exact ⟨rfl, rfl⟩
theorem possE_own {v : Val} {m : Marks} {k : Nat} (h : ((decide (v.kind < 1) || decide (3 < v.kind)) || (!decide (v.kind = 1) && decide (0 < (k : Int)))) = false) : possE v m = ownE v m k := by
  have hb := h
  simp only [Bool.or_eq_false_iff, decide_eq_false_iff_not, Bool.and_eq_false_imp, Bool.not_eq_true'] at h
  obtain ⟨⟨h1, h2⟩, h3⟩ := h
  unfold possE ownE
  rw [if_neg (Bool.eq_false_iff.1 hb)]
  have hk : v.kind = 1 ∨ v.kind = 2 ∨ v.kind = 3 := by omega
  by_cases hz : m = Marks.zero
  · obtain ⟨za, zb⟩ := Marks.zero_ok hz
    rcases hk with hk | hk | hk
    · simp only [hk, Val.ok, hz, Mark.okT_eq, if_true, decide_true, Bool.true_and]
      by_cases a : 0 ≤ v.mode <;> by_cases b : v.mode ≤ 8 <;> by_cases c : v.size = 0 <;> by_cases d : v.sum = Sum32.zero <;> simp [a, b, c, d, Marks.zero, Mark.zero, Mark.ok]
    · simp only [hk, Val.ok, hz, Mark.okT_eq]
      by_cases a : 0 ≤ v.mode <;> by_cases b : v.mode ≤ 8 <;> by_cases c : 0 ≤ v.size <;> by_cases d : v.size ≤ 1099511627775 <;> simp [a, b, c, d, Marks.zero, Mark.zero, Mark.ok]
    · simp only [hk, Val.ok, hz, Mark.okT_eq]
      by_cases a : v.mode = 0 <;> by_cases c : 1 ≤ v.size <;> by_cases d : v.size ≤ 4095 <;> simp [a, c, d, Marks.zero, Mark.zero, Mark.ok]
  · rcases hk with hk | hk | hk
    · simp [hk, Val.ok, hz, Mark.okT_eq]
    · simp only [hk, Val.ok, Mark.okT_eq]
      cases m.a.ok <;> cases m.b.ok <;> by_cases a : 0 ≤ v.mode <;> by_cases b : v.mode ≤ 8 <;> by_cases c : 0 ≤ v.size <;> by_cases d : v.size ≤ 1099511627775 <;> simp [a, b, c, d]
    · simp [hk, Val.ok, hz, Mark.okT_eq]
/-- the first wrong thing of a node and below -/
def tcheck (x : Node) (p : Str) (lv : Nat) : Str × Int := if ownE x.value x.marks x.kids.length = 0 then Node.checkB x p lv else (p, ownE x.value x.marks x.kids.length)
theorem leS_ge (a b : Str) : (Op.bytesLess a b || decide (a = b)) = !Op.bytesLess b a := by
  cases h1 : Op.bytesLess a b with
  | true => rw [less_asym h1]; rfl
  | false =>
    by_cases hab : a = b
    · subst hab; rw [less_irr]; simp
    · cases h2 : Op.bytesLess b a with
      | true => simp [hab]
      | false => exact absurd (less_tri h1 h2) hab
theorem tcheck_deep {x : Node} {p : Str} {lv i : Nat} {k : Node} (hck : Node.checkL x.kids p lv false [] = Node.checkL (x.kids.drop i) p lv (decide (0 < (i : Int))) (pvOf x.kids i)) (hi : x.kids[i]? = some k) (h0 : ownE x.value x.marks x.kids.length = 0) (hl : 64 < lv + 1) : tcheck x p lv = (qpath p k.name lv, 43) := by
  obtain ⟨y, hy⟩ : ∃ y, x.kids[i - 1]? = some y := ⟨_, List.getElem?_eq_getElem (by have := (List.getElem?_eq_some_iff.1 hi).1; omega)⟩
  rw [tcheck, if_pos h0, Node.checkB_eq, hck, Node.checkL_step hi hy, if_pos hl]
theorem tcheck_e {x : Node} {p : Str} {lv i : Nat} {k y : Node} {e : Int} (hck : Node.checkL x.kids p lv false [] = Node.checkL (x.kids.drop i) p lv (decide (0 < (i : Int))) (pvOf x.kids i)) (hi : x.kids[i]? = some k) (hy : x.kids[i - 1]? = some y) (h0 : ownE x.value x.marks x.kids.length = 0) (hl : ¬ 64 < lv + 1)
    (he : e1E k.name (decide (0 < (i : Int))) y.name = e) (hne : e ≠ 0) : tcheck x p lv = (qpath p k.name lv, e) := by
  have e2 : e2E k (e1E k.name (decide (0 < (i : Int))) y.name) = e := by rw [he, e2E, if_neg hne]
  rw [tcheck, if_pos h0, Node.checkB_eq, hck, Node.checkL_step hi hy, if_neg hl, if_neg (by rw [e2]; exact hne), e2]
theorem tcheck_kid {x : Node} {p : Str} {lv i : Nat} {k y : Node} (hck : Node.checkL x.kids p lv false [] = Node.checkL (x.kids.drop i) p lv (decide (0 < (i : Int))) (pvOf x.kids i)) (hi : x.kids[i]? = some k) (hy : x.kids[i - 1]? = some y) (h0 : ownE x.value x.marks x.kids.length = 0) (hl : ¬ 64 < lv + 1)
    (he : e1E k.name (decide (0 < (i : Int))) y.name = 0) (hne : ¬ (tcheck k (qpath p k.name lv) (lv + 1)).2 = 0) : tcheck x p lv = tcheck k (qpath p k.name lv) (lv + 1) := by
  have e2 : e2E k (e1E k.name (decide (0 < (i : Int))) y.name) = ownE k.value k.marks k.kids.length := by rw [he, e2E, if_pos rfl]
  rw [tcheck, if_pos h0, Node.checkB_eq, hck, Node.checkL_step hi hy, if_neg hl, e2]
  unfold tcheck at hne ⊢
  by_cases ho : ownE k.value k.marks k.kids.length = 0
  · rw [if_pos ho] at hne ⊢
    rw [if_pos ho, if_neg hne]
  · rw [if_neg ho, if_neg ho]
theorem tcheck_step {x : Node} {p : Str} {lv i : Nat} {k y : Node} (hck : Node.checkL x.kids p lv false [] = Node.checkL (x.kids.drop i) p lv (decide (0 < (i : Int))) (pvOf x.kids i)) (hi : x.kids[i]? = some k) (hy : x.kids[i - 1]? = some y) (hl : ¬ 64 < lv + 1)
    (he : e1E k.name (decide (0 < (i : Int))) y.name = 0) (hne : (tcheck k (qpath p k.name lv) (lv + 1)).2 = 0) : Node.checkL x.kids p lv false [] = Node.checkL (x.kids.drop (i + 1)) p lv (decide (0 < ((i + 1 : Nat) : Int))) (pvOf x.kids (i + 1)) := by
  have e2 : e2E k (e1E k.name (decide (0 < (i : Int))) y.name) = ownE k.value k.marks k.kids.length := by rw [he, e2E, if_pos rfl]
  rw [hck, Node.checkL_step hi hy, if_neg hl, e2]
  unfold tcheck at hne
  by_cases ho : ownE k.value k.marks k.kids.length = 0
  · rw [if_pos ho] at hne
    rw [if_pos ho, if_pos hne]
  · rw [if_neg ho] at hne
    exact absurd hne ho
theorem e1E_name {nm pv : Str} {b : Bool} (h : nameOk nm = false) : e1E nm b pv = 30 := by simp [e1E, h]
theorem e1E_order {nm pv : Str} {b : Bool} (h : nameOk nm = true) (hb : (b && (Op.bytesLess nm pv || decide (nm = pv))) = true) : e1E nm b pv = 42 := by
  rw [leS_ge] at hb
  simp only [Bool.and_eq_true, Bool.not_eq_true'] at hb
  simp [e1E, h, hb.1, hb.2]
theorem e1E_ok {nm pv : Str} {b : Bool} (h : nameOk nm = true) (hb : (b && (Op.bytesLess nm pv || decide (nm = pv))) = false) : e1E nm b pv = 0 := by
  rw [leS_ge] at hb
  cases b with
  | false => simp [e1E, h]
  | true =>
    have : Op.bytesLess pv nm = true := by simpa using hb
    simp [e1E, h, this]
/-! ### Trees in memory -/
mutual
def Node.depth : Node → Nat
  | .mk _ _ _ ks => Node.depthL ks
def Node.depthL : List Node → Nat
  | [] => 0
  | n :: r => max (Node.depth n + 1) (Node.depthL r)
end
mutual
/-- at this block stands the tree of a node (its own name apart) -/
inductive TreeAt (M : PMem) : Nat → Node → Prop
  | mk {b el : Nat} {fr : Nat × Nat} {s : Str} {v : Val} {m : Marks} {ks : List Node} {nv kv : Value} : M b = some (.cells (List.toArray (TreeC.cells ⟨v, m, nv, kv, (1 + Node.sizeL ks : Nat), (Node.depthL ks : Nat)⟩)) el fr) →
      StrsAt M nv (ks.map Node.name) → SubsAt M kv ks → TreeAt M b (Node.mk s v m ks)
/-- this slice holds the trees of these nodes -/
inductive SubsAt (M : PMem) : Value → List Node → Prop
  | none {a : Option Addr} {c : Nat} : SubsAt M (.slice a 0 c) []
  | some {b o n c el : Nat} {cs : List Value} {fr : Nat × Nat} {ks : List Node} {bs : Nat → Nat} : ks.length = n → 0 < n → n ≤ c → M b = some (.cells cs.toArray el fr) →
      (∀ i k, ks[i]? = some k → chunk cs o 1 i = [P_ (bs i) 0]) → (∀ i k, ks[i]? = some k → TreeAt M (bs i) k) → SubsAt M (.slice (some ⟨b, o, none⟩) n c) ks
end
mutual
theorem TreeAt.le {M M' : PMem} (hM : PMem.le M M') : ∀ {b : Nat} {n : Node}, TreeAt M b n → TreeAt M' b n
  | _, _, .mk h1 h2 h3 => .mk (hM _ _ h1) (h2.le hM) (SubsAt.le hM h3)
theorem SubsAt.le {M M' : PMem} (hM : PMem.le M M') : ∀ {v : Value} {l : List Node}, SubsAt M v l → SubsAt M' v l
  | _, _, .none => .none
  | _, _, .some h1 h2 h3 h4 h5 h6 => .some h1 h2 h3 (hM _ _ h4) h5 (fun i k hi => TreeAt.le hM (h6 i k hi))
end
/-- a cell that points at a tree -/
def SubR (M : PMem) (cs : List Value) (k : Node) : Prop := ∃ b, cs = [P_ b 0] ∧ TreeAt M b k
theorem SubR.le {M M' : PMem} (hM : PMem.le M M') {cs : List Value} {k : Node} (h : SubR M cs k) : SubR M' cs k := by
  obtain ⟨b, h1, h2⟩ := h
  exact ⟨b, h1, h2.le hM⟩
abbrev SubA (M : PMem) (a : Option Addr) (l : List Node) : Prop := SlA M 1 (SubR M) a l
theorem SubA.le {M M' : PMem} {a : Option Addr} {l : List Node} (h : SubA M a l) (hM : PMem.le M M') : SubA M' a l := SlA.mono h hM (fun _ _ _ h => h.le hM)
theorem SubsAt.sl {M : PMem} {v : Value} {l : List Node} (h : SubsAt M v l) : ∃ a c, v = .slice a l.length c ∧ l.length ≤ c ∧ SubA M a l := by
  cases h with
  | none => exact ⟨_, _, rfl, Nat.zero_le _, .inl rfl⟩
  | some h1 h2 h3 h4 h5 h6 => exact ⟨_, _, by rw [h1], by rw [h1]; exact h3, .inr ⟨_, _, _, _, _, rfl, h4, fun i x hi => ⟨_, h5 i x hi, h6 i x hi⟩⟩⟩
theorem SubsAt.of {M : PMem} {a : Option Addr} {c : Nat} {l : List Node} (h : SubA M a l) (hc : l.length ≤ c) : SubsAt M (.slice a l.length c) l := by
  rcases h with h | ⟨b, o, cs, el, fr, rfl, hb, hx⟩
  · subst h; exact .none
  · cases l with
    | nil => exact .none
    | cons x l =>
      have hch : ∀ i : Nat, ∃ b', ∀ k : Node, (x :: l)[i]? = Option.some k → chunk cs o 1 i = [P_ b' 0] ∧ TreeAt M b' k := fun i => by
        cases hi : (x :: l)[i]? with
        | none => exact ⟨0, fun k hk => by cases hk⟩
        | some k =>
          obtain ⟨b', h1, h2⟩ := hx i k hi
          exact ⟨b', fun k' hk => by cases hk; exact ⟨h1, h2⟩⟩
      exact .some (bs := fun i => Classical.choose (hch i)) rfl (by simp) hc hb (fun i k hi => (Classical.choose_spec (hch i) k hi).1) (fun i k hi => (Classical.choose_spec (hch i) k hi).2)
/-- a tree, opened -/
theorem TreeAt.open {M : PMem} {b : Nat} {x : Node} (h : TreeAt M b x) : ∃ an cn ak ck el fr, M b = some (.cells (List.toArray (TreeC.cells ⟨x.value, x.marks, .slice an (x.kids.map Node.name).length cn, .slice ak x.kids.length ck, (1 + Node.sizeL x.kids : Nat), (Node.depthL x.kids : Nat)⟩)) el fr) ∧
    (x.kids.map Node.name).length ≤ cn ∧ SlA M 1 (byEnc fun s : Str => [S s]) an (x.kids.map Node.name) ∧ x.kids.length ≤ ck ∧ SubA M ak x.kids := by
  cases h with
  | mk h1 h2 h3 =>
    obtain ⟨an, cn, rfl, hcn, hsn⟩ := h2.op
    obtain ⟨ak, ck, rfl, hck, hsk⟩ := h3.sl
    exact ⟨an, cn, ak, ck, _, _, h1, hcn, hsn, hck, hsk⟩
theorem TreeAt.of {M : PMem} {b el : Nat} {fr : Nat × Nat} {s : Str} {v : Val} {m : Marks} {ks : List Node} {an ak : Option Addr} {n cn k ck : Nat} {cnt dep : Int} (h : M b = some (.cells (List.toArray (TreeC.cells ⟨v, m, .slice an n cn, .slice ak k ck, cnt, dep⟩)) el fr)) (hn : n = (ks.map Node.name).length) (hk : k = ks.length)
    (hc : cnt = (1 + Node.sizeL ks : Nat)) (hd : dep = (Node.depthL ks : Nat)) (h1 : (ks.map Node.name).length ≤ cn) (h2 : SlA M 1 (byEnc fun s : Str => [S s]) an (ks.map Node.name)) (h3 : ks.length ≤ ck) (h4 : SubA M ak ks) : TreeAt M b (Node.mk s v m ks) := by
  subst hn; subst hk; subst hc; subst hd
  exact .mk h (h2.sl h1) (SubsAt.of h4 h3)
/-- the own name doesn't matter -/
theorem TreeAt.anon {M : PMem} {b : Nat} {x : Node} (h : TreeAt M b x) (s : Str) : TreeAt M b (Node.mk s x.value x.marks x.kids) := by
  cases h with
  | mk h1 h2 h3 => exact .mk h1 h2 h3
theorem Node.sizeL_snoc (l : List Node) (x : Node) : Node.sizeL (l ++ [x]) = Node.sizeL l + x.size := by
  induction l with
  | nil => simp [Node.sizeL]
  | cons y l ih => simp [Node.sizeL, ih]; omega
theorem Node.depthL_snoc (l : List Node) (x : Node) : Node.depthL (l ++ [x]) = max (Node.depthL l) (x.depth + 1) := by
  induction l with
  | nil => simp [Node.depthL]
  | cons y l ih => simp only [List.cons_append, Node.depthL, ih]; omega
theorem Node.size_eq (x : Node) : x.size = 1 + Node.sizeL x.kids := by cases x; rfl
theorem Node.depth_eq (x : Node) : x.depth = Node.depthL x.kids := by cases x; rfl
mutual
theorem Node.depth_le : ∀ (x : Node), x.depth ≤ x.size
  | .mk _ _ _ ks => by have := Node.depthL_le ks; simp only [Node.depth, Node.size]; omega
theorem Node.depthL_le : ∀ (l : List Node), Node.depthL l ≤ Node.sizeL l
  | [] => Nat.le_refl _
  | n :: r => by
    have h1 := Node.depth_le' n
    have h2 := Node.depthL_le r
    simp only [Node.depthL, Node.sizeL]; omega
theorem Node.depth_le' : ∀ (x : Node), x.depth + 1 ≤ x.size
  | .mk _ _ _ ks => by have := Node.depthL_le ks; simp only [Node.depth, Node.size]; omega
end
/-- pointers and nodes, one by one -/
def PtrsIs (M : PMem) (l : List Nat) (ks : List Node) : Prop := l.length = ks.length ∧ ∀ (i : Nat) (b : Nat) (n : Node), l[i]? = some b → ks[i]? = some n → TreeAt M b n
theorem PtrsIs.nil (M : PMem) : PtrsIs M [] [] := ⟨rfl, fun i b n h => by simp at h⟩
theorem PtrsIs.le {M M' : PMem} {l : List Nat} {ks : List Node} (h : PtrsIs M l ks) (hM : PMem.le M M') : PtrsIs M' l ks := ⟨h.1, fun i b n h1 h2 => (h.2 i b n h1 h2).le hM⟩
theorem PtrsIs.snoc {M : PMem} {l : List Nat} {ks : List Node} {b : Nat} {n : Node} (h : PtrsIs M l ks) (hc : TreeAt M b n) : PtrsIs M (l ++ [b]) (ks ++ [n]) := by
  refine ⟨by simp [h.1], fun i c' n' h1 h2 => ?_⟩
  rw [List.getElem?_append] at h1 h2
  by_cases hi : i < l.length
  · rw [if_pos hi] at h1
    rw [if_pos (by rw [← h.1]; exact hi)] at h2
    exact h.2 i c' n' h1 h2
  · rw [if_neg hi] at h1
    rw [if_neg (by rw [← h.1]; exact hi), ← h.1] at h2
    by_cases h0 : i - l.length = 0
    · rw [h0] at h1 h2
      simp at h1 h2
      subst h1; subst h2
      exact hc
    · rw [List.getElem?_eq_none (by simp; omega)] at h1
      cases h1
theorem RowIn.subs {M : PMem} {v : Value} {el n : Nat} {l : List Nat} {ks : List Node} (h : RowIn M v el 1 n (l.flatMap fun b => [P_ b 0])) (hl : PtrsIs M l ks) : ∃ a c, v = .slice a ks.length c ∧ ks.length ≤ c ∧ SubA M a ks := by
  obtain ⟨hn, hsl⟩ := h.sl (sz := 1) (fun b : Nat => [P_ b 0]) (fun _ => rfl) (by omega)
  obtain ⟨a, c, hv, hc, hs⟩ := hsl
  have hA : SubA M a ks := by
    rcases hs with hs | ⟨b, o, cs, el', fr, ha, hb, hx⟩
    · subst hs
      refine .inl (List.eq_nil_of_length_eq_zero ?_)
      rw [← hl.1]; rfl
    · refine .inr ⟨b, o, cs, el', fr, ha, hb, fun i x hi => ?_⟩
      have hlt : i < l.length := by rw [hl.1]; exact (List.getElem?_eq_some_iff.1 hi).1
      have h1 := hx i (l[i]'hlt) (List.getElem?_eq_getElem hlt)
      exact ⟨l[i]'hlt, h1, hl.2 i _ x (List.getElem?_eq_getElem hlt) hi⟩
  rw [hl.1] at hv hc
  exact ⟨a, c, hv, hc, hA⟩
theorem Node.len_sizeL : ∀ (l : List Node), l.length ≤ Node.sizeL l
  | [] => Nat.le_refl _
  | n :: r => by
    have := Node.len_sizeL r
    have := Node.size_eq n
    simp only [List.length_cons, Node.sizeL]; omega
theorem Node.sizeL_mem_take {l : List Node} {i : Nat} {x : Node} (h : l[i]? = some x) : Node.sizeL (l.take i) + (1 + Node.sizeL x.kids) ≤ Node.sizeL l ∧ Node.depthL x.kids ≤ Node.sizeL x.kids := by
  have h1 := Node.sizeL_take l (i + 1)
  rw [take_snoc h, Node.sizeL_snoc, Node.size_eq x] at h1
  exact ⟨h1, Node.depthL_le _⟩
/-! ### A name's place -/
def bsI (l : List Str) (t : Str) : Nat := (l.takeWhile (fun x => Op.bytesLess x t)).length
def bsF (l : List Str) (t : Str) : Bool := decide (l[bsI l t]? = some t)
/-- names rise -/
def Rise (l : List Str) : Prop := ∀ (i j : Nat) (x y : Str), i < j → l[i]? = some x → l[j]? = some y → Op.bytesLess x y = true
theorem less_trans : ∀ {a b c : Str}, Op.bytesLess a b = true → Op.bytesLess b c = true → Op.bytesLess a c = true := by
  intro a
  induction a with
  | nil => intro b c h1 h2; cases b with
    | nil => simp [Op.bytesLess] at h1
    | cons y b => cases c with
      | nil => simp [Op.bytesLess] at h2
      | cons z c => simp [Op.bytesLess]
  | cons x a ih => intro b c h1 h2; cases b with
    | nil => simp [Op.bytesLess] at h1
    | cons y b => cases c with
      | nil => simp [Op.bytesLess] at h2
      | cons z c =>
        simp only [Op.bytesLess, Bool.or_eq_true, Bool.and_eq_true, decide_eq_true_eq, beq_iff_eq] at h1 h2 ⊢
        rcases h1 with h1 | ⟨rfl, h1⟩
        · have a1 := UInt8.lt_iff_toNat_lt.1 h1
          rcases h2 with h2 | ⟨rfl, h2⟩
          · have a2 := UInt8.lt_iff_toNat_lt.1 h2
            exact .inl (UInt8.lt_iff_toNat_lt.2 (by omega))
          · exact .inl h1
        · rcases h2 with h2 | ⟨rfl, h2⟩
          · exact .inl h2
          · exact .inr ⟨rfl, ih h1 h2⟩
theorem bsI_of : ∀ {l : List Str} {t : Str} {k : Nat}, k ≤ l.length → (∀ (i : Nat) (x : Str), i < k → l[i]? = some x → Op.bytesLess x t = true) → (∀ x, l[k]? = some x → Op.bytesLess x t = false) → bsI l t = k := by
  intro l
  induction l with
  | nil => intro t k hk _ _; simp at hk; simp [bsI, hk]
  | cons a l ih =>
    intro t k hk h1 h2
    cases k with
    | zero => have := h2 a rfl; simp [bsI, this]
    | succ k =>
      have h0 := h1 0 a (by omega) rfl
      have := ih (t := t) (k := k) (by simpa using hk) (fun i x hi hx => h1 (i + 1) x (by omega) (by simpa using hx)) (fun x hx => h2 x (by simpa using hx))
      unfold bsI at this ⊢
      rw [List.takeWhile_cons, if_pos h0, List.length_cons, this]
theorem bsI_le (l : List Str) (t : Str) : bsI l t ≤ l.length := by
  unfold bsI
  induction l with
  | nil => simp
  | cons a l ih => rw [List.takeWhile_cons]; split <;> simp <;> omega
theorem Rise.low {l : List Str} (h : Rise l) {t : Str} {m : Nat} {y : Str} (hy : l[m]? = some y) (hl : Op.bytesLess y t = true) : ∀ (i : Nat) (x : Str), i < m + 1 → l[i]? = some x → Op.bytesLess x t = true := fun i x hi hx => by
  by_cases hm : i = m
  · subst hm; rw [hy] at hx; cases hx; exact hl
  · exact less_trans (h i m x y (by omega) hx hy) hl
theorem Rise.high {l : List Str} (h : Rise l) {t : Str} {m : Nat} {y : Str} (hy : l[m]? = some y) (hl : Op.bytesLess y t = false) : ∀ (i : Nat) (x : Str), m ≤ i → l[i]? = some x → Op.bytesLess x t = false := fun i x hi hx => by
  by_cases hm : i = m
  · subst hm; rw [hy] at hx; cases hx; exact hl
  · cases hq : Op.bytesLess x t with
    | false => rfl
    | true => rw [less_trans (h m i y x (by omega) hy hx) hq] at hl; cases hl
/-- names rise at every level -/
inductive Node.Ris : Node → Prop
  | mk {s : Str} {v : Val} {m : Marks} {ks : List Node} : Rise (ks.map Node.name) → (∀ k ∈ ks, Node.Ris k) → Node.Ris (.mk s v m ks)
theorem Node.Ris.rise {x : Node} (h : x.Ris) : Rise (x.kids.map Node.name) := by cases h; assumption
theorem Node.Ris.kid {x k : Node} (h : x.Ris) (hk : k ∈ x.kids) : k.Ris := by cases h with | mk _ h => exact h k hk
/-- the child of a name -/
def kidOf (x : Node) (nm : Str) : Option Node := if bsF (x.kids.map Node.name) nm = true then x.kids[bsI (x.kids.map Node.name) nm]? else none
theorem kidOf_mem {x k : Node} {nm : Str} (h : kidOf x nm = some k) : k ∈ x.kids := by
  unfold kidOf at h
  split at h
  · exact List.mem_of_getElem? h
  · cases h
theorem bsF_lt {l : List Str} {t : Str} (h : bsF l t = true) : bsI l t < l.length := by
  have := of_decide_eq_true h
  exact (List.getElem?_eq_some_iff.1 this).1
/-- what stands behind names -/
def subOf : Node → List Str → Option Node
  | x, [] => some x
  | x, n :: r => match kidOf x n with
    | none => none
    | some k => subOf k r
theorem subOf_step {x k : Node} {l : List Str} {i : Nat} {n : Str} (hl : l[i]? = some n) (h : kidOf x n = some k) : subOf x (l.drop i) = subOf k (l.drop (i + 1)) := by
  obtain ⟨hlt, hg⟩ := List.getElem?_eq_some_iff.1 hl
  rw [List.drop_eq_getElem_cons hlt, hg, subOf, h]
theorem subOf_none {x : Node} {l : List Str} {i : Nat} {n : Str} (hl : l[i]? = some n) (h : kidOf x n = none) : subOf x (l.drop i) = none := by
  obtain ⟨hlt, hg⟩ := List.getElem?_eq_some_iff.1 hl
  rw [List.drop_eq_getElem_cons hlt, hg, subOf, h]
/-- the subtree at a path -/
def subAt (x : Node) (p : Str) : Option Node := if (splitP p 64).2 = 0 then subOf x (splitP p 64).1 else none
/-- the value at a path -/
def valAt (x : Node) (p : Str) : Val := match subAt x p with
  | none => Val.zero
  | some k => k.value
theorem splitP_len (p : Str) (m : Int) : (splitP p m).1.length ≤ p.length + 1 := by
  have := pieces_count p
  unfold splitP
  split
  · simp
  · split
    · exact this
    · simp
/-- are all places above the last name directories? -/
def wayB : Node → List Str → Bool
  | _, [] => true
  | x, [_] => decide (x.value.kind = 1)
  | x, n :: m :: r => match kidOf x n with
    | none => false
    | some k => decide (x.value.kind = 1) && wayB k (m :: r)
theorem drop_two {α : Type} {l : List α} {i : Nat} {a : α} (h : l[i]? = some a) (hi : i + 1 < l.length) : ∃ b r, l.drop i = a :: b :: r ∧ l.drop (i + 1) = b :: r := by
  obtain ⟨hlt, hg⟩ := List.getElem?_eq_some_iff.1 h
  refine ⟨l[i + 1], l.drop (i + 2), ?_, List.drop_eq_getElem_cons hi⟩
  rw [List.drop_eq_getElem_cons hlt, hg, List.drop_eq_getElem_cons hi]
theorem wayB_none {x : Node} {l : List Str} {i : Nat} {n : Str} (h : l[i]? = some n) (hi : i + 1 < l.length) (hk : kidOf x n = none) : wayB x (l.drop i) = false := by
  obtain ⟨b, r, h1, _⟩ := drop_two h hi
  rw [h1, wayB, hk]
theorem wayB_some {x k : Node} {l : List Str} {i : Nat} {n : Str} (h : l[i]? = some n) (hi : i + 1 < l.length) (hk : kidOf x n = some k) : wayB x (l.drop i) = (decide (x.value.kind = 1) && wayB k (l.drop (i + 1))) := by
  obtain ⟨b, r, h1, h2⟩ := drop_two h hi
  rw [h1, wayB, hk, h2]
theorem wayB_end {x : Node} {l : List Str} {i : Nat} (hi : i = l.length - 1) : wayB x (l.drop i) = (decide ((l.length : Int) = 0) || decide (x.value.kind = 1)) := by
  subst hi
  cases hl : l with
  | nil => rfl
  | cons a r =>
    have h1 : (a :: r)[(a :: r).length - 1]? = some ((a :: r)[(a :: r).length - 1]'(by simp)) := List.getElem?_eq_getElem _
    have h2 : (a :: r).drop ((a :: r).length - 1) = [(a :: r)[(a :: r).length - 1]'(by simp)] := by
      rw [List.drop_eq_getElem_cons (by simp)]
      rw [List.drop_eq_nil_of_le (by simp)]
    rw [h2, wayB]
    have : ¬ (((a :: r).length : Int) = 0) := by simp only [List.length_cons]; omega
    rw [decide_eq_false this, Bool.false_or]
end Go.Proofs.YtgmomhdammdjgaaGreat
