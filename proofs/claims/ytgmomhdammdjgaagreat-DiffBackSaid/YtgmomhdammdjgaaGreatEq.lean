/-
  Values of a struct's or an array's type, compared: part by part. No condition: over any program.
-/
import Derived.Test.YtgmomhdammdjgaaGreatPureA
import Derived.Laws.StructEq
set_option linter.unusedVariables false
set_option linter.unusedSimpArgs false
namespace Go.Proofs.YtgmomhdammdjgaaGreat
open Go Go.RowKit

def EqI (P : Program) (d t : Nat) (x y : Value) (b : Bool) : Prop := ∀ w : World, (Op.equalIn d t x y).run P w = .ok b w
def Pt (P : Program) (t : Nat) (cs : Array Value) (off : Nat) (v : Value) : Prop := ∀ w : World, (part t cs off).run P w = .ok v w
def EqF (P : Program) (d : Nat) (xs ys : Array Value) (fs : List Field) (b : Bool) : Prop := ∀ w : World, (Op.eqFields d xs ys fs).run P w = .ok b w
section
variable {P : Program}
theorem EqI.to {t : Nat} {x y : Value} {b : Bool} (h : EqI P 10000 t x y b) : EqA P t x y b := h
theorem EqI.int {d t : Nat} {k k' : IntKind} {a b : Int} (h : P.underlying t = some (.int k')) : EqI P (d + 1) t (.int k a) (.int k b) (decide (a = b)) := fun w => by
  rw [run_equalIn_int w d t k k' a b h, int_beq]
theorem EqI.str {d t : Nat} {a b : Str} (h : P.underlying t = some .string) : EqI P (d + 1) t (S a) (S b) (decide (a = b)) := fun w => by
  unfold S
  rw [run_equalIn_string w d t _ _ h, S_list, S_list, str_beq]
theorem Pt.one {t : Nat} {cs : Array Value} {off : Nat} {v : Value} (ha : ∀ w, (isAgg t).run P w = .ok false w) (h : cs[off]? = some v) : Pt P t cs off v := fun w => by simp [part, ha, h]
theorem Pt.agg {t n : Nat} {cs : List Value} {off : Nat} {vs : List Value} (ha : ∀ w, (isAgg t).run P w = .ok true w) (hs : ∀ w, (sizeOf t).run P w = .ok n w) (h : (cs.drop off).take n = vs) : Pt P t cs.toArray off (.agg vs.toArray) := fun w => by
  subst h
  simp [part, ha, hs, List.extract_eq_take_drop]
theorem EqF.nil {d : Nat} {xs ys : Array Value} : EqF P d xs ys [] true := fun w => by simp [Op.eqFields]
theorem EqF.cons {d : Nat} {xs ys : Array Value} {f : Field} {fs : List Field} {a b : Value} {r r' : Bool} (hf : (f.name == "_") = false) (ha : Pt P f.type xs f.offset a) (hb : Pt P f.type ys f.offset b) (hr : EqI P d f.type a b r)
    (h : EqF P d xs ys fs r') : EqF P d xs ys (f :: fs) (r && r') := fun w => by
  have hn : f.name ≠ "_" := by simpa using hf
  simp only [Op.eqFields, if_pos hn, Sem.run_bind, ha w, hb w, hr w, Result.andThen_ok]
  cases r
  · simp
  · simpa using h w
theorem EqI.struct {d t : Nat} {fs : Array Field} {xs ys : Array Value} {b : Bool} (ht : P.underlying t = some (.struct fs)) (hp : P.stoodInHeld t = false) (h : EqF P d xs ys fs.toList b) : EqI P (d + 1) t (.agg xs) (.agg ys) b := fun w => by
  have hf : P.fieldsOf t = fs := by simp [Program.fieldsOf, ht]
  rw [run_equalIn_struct w d t xs ys (by rw [hf]; exact ht) hp, hf]
  exact h w
theorem EqI.array {d t e n len : Nat} {xs ys : Array Value} (f g : Nat → Value) (r : Nat → Bool) (ht : P.underlying t = some (.array len e)) (hs : ∀ w, (sizeOf e).run P w = .ok n w)
    (hx : ∀ i, i < len → Pt P e xs (i * n) (f i)) (hy : ∀ i, i < len → Pt P e ys (i * n) (g i)) (hr : ∀ i, i < len → EqI P d e (f i) (g i) (r i)) : EqI P (d + 1) t (.agg xs) (.agg ys) ((List.range len).all r) := fun w => by
  simp only [Op.equalIn, Sem.run_bind, run_underlying ht, Result.andThen_ok, hs, Std.Legacy.Range.forIn_eq_forIn_range', Std.Legacy.Range.size, Nat.sub_zero, Nat.add_sub_cancel, Nat.div_one]
  have key : ∀ (k a : Nat), a + k = len → (do
      let r ← forIn (List.range' a k 1) ((none : Option Bool), ()) fun i _ => do
          let __do_lift ← part e xs (i * n)
          let __do_lift_1 ← part e ys (i * n)
          let __do_lift ← Op.equalIn d e __do_lift __do_lift_1
          if (!__do_lift) = true then pure (ForInStep.done (some false, ())) else do
              pure ()
              pure (ForInStep.yield (none, ()))
      match r.fst with
        | some a => pure a
        | none => pure true : Sem Bool).run P w = .ok ((List.range' a k 1).all r) w := by
    intro k
    induction k with
    | zero => intro a _; simp
    | succ k ih =>
      intro a hak
      have h1 := hx a (by omega)
      have h2 := hy a (by omega)
      have h3 := hr a (by omega)
      have hi := ih (a + 1) (by omega)
      simp only [List.range'_succ, List.forIn_cons, Sem.run_bind, h1 w, h2 w, h3 w, Result.andThen_ok, List.all_cons] at hi ⊢
      cases hra : r a
      · simp
      · simpa using hi
  have := key len 0 (by omega)
  rw [← List.range_eq_range'] at this
  simp only [← List.range_eq_range', Sem.run_bind] at this ⊢
  refine Eq.trans (congrArg _ (funext fun p => funext fun w' => ?_)) this
  obtain ⟨o, _⟩ := p
  cases o <;> rfl
/-! ### The program's own -/
def Sum32.cells (s : Sum32) : List Value := sumCells s
abbrev Sum32.val (s : Sum32) : Value := .agg (Sum32.cells s).toArray
def Sum32.zero : Sum32 := Vector.replicate 32 0
theorem Sum32.eq {d t e : Nat} (x y : Sum32) (ht : P.underlying t = some (.array 32 e)) (he : P.underlying e = some (.int .u8)) (hs : ∀ w, (sizeOf e).run P w = .ok 1 w) (ha : ∀ w, (isAgg e).run P w = .ok false w) :
    EqI P (d + 2) t (Sum32.val x) (Sum32.val y) (decide (x = y)) := by
  have h := EqI.array (P := P) (d := d + 1) (xs := (Sum32.cells x).toArray) (ys := (Sum32.cells y).toArray) (fun i => U8 (x.toArray.getD i 0)) (fun i => U8 (y.toArray.getD i 0)) (fun i => decide (((x.toArray.getD i 0).toNat : Int) = ((y.toArray.getD i 0).toNat : Int))) ht hs
    (fun i hi => Pt.one ha (by rw [Nat.mul_one]; have := sumCells_at x i hi; simpa [Sum32.cells, hi, Array.getD] using this)) (fun i hi => Pt.one ha (by rw [Nat.mul_one]; have := sumCells_at y i hi; simpa [Sum32.cells, hi, Array.getD] using this)) (fun i hi => EqI.int he)
  have e1 : ((List.range 32).all fun i => decide (((x.toArray.getD i 0).toNat : Int) = ((y.toArray.getD i 0).toNat : Int))) = decide (x = y) := by
    rw [Bool.eq_iff_iff, List.all_eq_true, decide_eq_true_eq]
    constructor
    · intro h
      refine Vector.ext fun i hi => ?_
      have h1 := of_decide_eq_true (h i (List.mem_range.2 hi))
      have h2 := UInt8.toNat_inj.1 (Int.ofNat_inj.1 h1)
      simpa [hi, Array.getD] using h2
    · rintro rfl i _
      simp
  rw [e1] at h
  exact h
theorem Val.eq_iff (x y : Val) : (decide (x.kind = y.kind) && (decide (x.mode = y.mode) && (decide (x.size = y.size) && (decide (x.sum = y.sum) && true)))) = decide (x = y) := by
  rw [Bool.eq_iff_iff]; simp [Val.ext_iff]
theorem Mark.eq_iff (x y : Mark) : (decide (x.number = y.number) && (decide (x.stamp = y.stamp) && true)) = decide (x = y) := by
  rw [Bool.eq_iff_iff]; simp [Mark.ext_iff]
theorem Change.eq_iff (x y : Change) : (decide (x.path = y.path) && (decide (x.old = y.old) && (decide (x.new = y.new) && true))) = decide (x = y) := by
  rw [Bool.eq_iff_iff]; simp [Change.ext_iff]
theorem Marks.eq {d t e : Nat} (x y : Marks) (ht : P.underlying t = some (.array 2 e)) (hs : ∀ w, (sizeOf e).run P w = .ok 2 w) (ha : ∀ w, (isAgg e).run P w = .ok true w) (he : ∀ a b : Mark, EqI P d e a.val b.val (decide (a = b))) :
    EqI P (d + 1) t (Marks.val x) (Marks.val y) (decide (x = y)) := by
  have h := EqI.array (P := P) (d := d) (xs := (Marks.cells x).toArray) (ys := (Marks.cells y).toArray) (fun i => (if i = 0 then x.a else x.b).val) (fun i => (if i = 0 then y.a else y.b).val) (fun i => decide ((if i = 0 then x.a else x.b) = (if i = 0 then y.a else y.b))) ht hs
    (fun i hi => Pt.agg ha hs (by match i, hi with
      | 0, _ => rfl
      | 1, _ => rfl)) (fun i hi => Pt.agg ha hs (by match i, hi with
      | 0, _ => rfl
      | 1, _ => rfl)) (fun i hi => he _ _)
  have e1 : ((List.range 2).all fun i => decide ((if i = 0 then x.a else x.b) = (if i = 0 then y.a else y.b))) = decide (x = y) := by
    rw [Bool.eq_iff_iff, List.all_eq_true, decide_eq_true_eq, Marks.ext_iff]
    constructor
    · intro h
      have h0 := of_decide_eq_true (h 0 (by simp))
      have h1 := of_decide_eq_true (h 1 (by simp))
      simp at h0 h1
      exact ⟨h0, h1⟩
    · rintro ⟨h0, h1⟩ i _
      simp [h0, h1]
  rw [e1] at h
  exact h
end
/-! ### Results that are variables -/
/-- a list of results: values, and where the variables lie -/
def Rs (P : Program) (e : Env) (M : PMem) (H : List Res) : List ResultVar → List Value → Prop
  | [], [] => True
  | .tmp t :: r, v :: vs => e.find t = some v ∧ Rs P e M H r vs
  | .cell t T :: r, v :: vs => (∃ b off cs el fr, e.find t = some (P_ b off) ∧ Has M H b (.cells (List.toArray cs) el fr) ∧ Rd P T cs off v) ∧ Rs P e M H r vs
  | _, _ => False
theorem R_finC {Γ : Cx} {dl : List Deferred} {e : Env} {M : PMem} {H : List Res} {post : Value → PMem → List Res → Prop} {fn : Func} {t T b off el : Nat} {fr : Nat × Nat} {cs : List Value} {v : Value} (hr : fn.results = #[.cell t T]) (ht : e.find t = some (P_ b off)) (hb : Has M H b (.cells cs.toArray el fr)) (hv : Rd Γ.P T cs off v)
    (H' : List Res) (hH : H'.Sublist H) (hp : post v M H') : Γ.R dl (Γ.fin fn dl post) e M H := fun a w hk hd hs => by
  refine ⟨hd, v, M, H', ?_, hs.drop hH, hp⟩
  simp only [results, hr]
  have h1 := hk.at_ t _ ht
  have h2 := hv w b el fr (hb.at hs.cls)
  have h1' : a.tmps[t]?.getD undef = P_ b off := by simpa using h1
  simp [h1', asAddr, h2]
theorem R_finCT {Γ : Cx} {dl : List Deferred} {e : Env} {M : PMem} {H : List Res} {post : Value → PMem → List Res → Prop} {fn : Func} {t T u b off el : Nat} {fr : Nat × Nat} {cs : List Value} {v x : Value} (hr : fn.results = #[.cell t T, .tmp u]) (ht : e.find t = some (P_ b off)) (hu : e.find u = some x) (hb : Has M H b (.cells cs.toArray el fr)) (hv : Rd Γ.P T cs off v)
    (H' : List Res) (hH : H'.Sublist H) (hp : post (.tuple #[v, x]) M H') : Γ.R dl (Γ.fin fn dl post) e M H := fun a w hk hd hs => by
  refine ⟨hd, .tuple #[v, x], M, H', ?_, hs.drop hH, hp⟩
  simp only [results, hr]
  have h1 := hk.at_ t _ ht
  have h3 := hk.at_ u _ hu
  have h2 := hv w b el fr (hb.at hs.cls)
  have h1' : a.tmps[t]?.getD undef = P_ b off := by simpa using h1
  have h3' : a.tmps[u]?.getD undef = x := by simpa using h3
  simp [h1', h3', asAddr, h2]
/-! ### Nodes -/
mutual
def Node.size : Node → Nat
  | .mk _ _ _ ks => 1 + Node.sizeL ks
def Node.sizeL : List Node → Nat
  | [] => 0
  | n :: r => Node.size n + Node.sizeL r
end
theorem Node.size_mem : ∀ {l : List Node} {x : Node}, x ∈ l → x.size ≤ Node.sizeL l := by
  intro l
  induction l with
  | nil => intro x h; simp at h
  | cons y l ih =>
    intro x h
    rcases List.mem_cons.1 h with rfl | h
    · simp [Node.sizeL]
    · have := ih h; simp [Node.sizeL]; omega
theorem Node.size_kid {n x : Node} (h : x ∈ n.kids) : x.size < n.size := by
  cases n with
  | mk a b c ks => have := Node.size_mem (l := ks) h; simp [Node.size]; omega
/-! names' bytes and places -/
mutual
def Node.wt : Node → Nat
  | .mk s _ _ ks => s.length + 1 + Node.wtL ks
def Node.wtL : List Node → Nat
  | [] => 0
  | n :: r => Node.wt n + Node.wtL r
end
theorem Node.wt_mem : ∀ {l : List Node} {x : Node}, x ∈ l → x.wt ≤ Node.wtL l := by
  intro l
  induction l with
  | nil => intro x h; simp at h
  | cons y l ih =>
    intro x h
    rcases List.mem_cons.1 h with rfl | h
    · simp [Node.wtL]
    · have := ih h; simp [Node.wtL]; omega
theorem Node.wt_kids : ∀ {l : List Node}, l.length ≤ Node.wtL l := by
  intro l
  induction l with
  | nil => simp
  | cons y l ih => cases y; simp [Node.wtL, Node.wt]; omega
theorem Node.wt_eq (n : Node) : n.wt = n.name.length + 1 + Node.wtL n.kids := by cases n; rfl
theorem Node.wt_kid {n x : Node} (h : x ∈ n.kids) : x.wt + n.name.length + 1 ≤ n.wt := by
  have := Node.wt_mem h; rw [Node.wt_eq n]; omega
/-! the same values, marks and names, but their own -/
mutual
def Node.same : Node → Node → Bool
  | .mk _ v m ks, .mk _ v' m' ks' => decide (v = v') && decide (m = m') && Node.sameL ks ks'
def Node.sameL : List Node → List Node → Bool
  | [], [] => true
  | a :: x, b :: y => decide (a.name = b.name) && Node.same a b && Node.sameL x y
  | _, _ => false
end
theorem Node.same_eq (a b : Node) : Node.same a b = (decide (a.value = b.value) && decide (a.marks = b.marks) && Node.sameL a.kids b.kids) := by cases a; cases b; rfl
theorem Node.sameL_len : ∀ {x y : List Node}, Node.sameL x y = true → x.length = y.length := by
  intro x
  induction x with
  | nil => intro y h; cases y with
    | nil => rfl
    | cons b y => simp [Node.sameL] at h
  | cons a x ih => intro y h; cases y with
    | nil => simp [Node.sameL] at h
    | cons b y => simp only [Node.sameL, Bool.and_eq_true] at h; simp [ih h.2]
theorem Node.sameL_take : ∀ {x y : List Node} {i : Nat} {a b : Node}, x[i]? = some a → y[i]? = some b → Node.sameL (x.take (i + 1)) (y.take (i + 1)) = (Node.sameL (x.take i) (y.take i) && (decide (a.name = b.name) && Node.same a b)) := by
  intro x
  induction x with
  | nil => intro y i a b h; simp at h
  | cons p x ih =>
    intro y i a b h1 h2
    cases y with
    | nil => simp at h2
    | cons q y =>
      cases i with
      | zero => simp at h1 h2; subst h1; subst h2; simp [Node.sameL]
      | succ i => simp only [List.take_succ_cons, Node.sameL, ih (by simpa using h1) (by simpa using h2), Bool.and_assoc]
theorem Node.sameL_bad : ∀ {x y : List Node} {i : Nat}, Node.sameL (x.take i) (y.take i) = false → Node.sameL x y = false := by
  intro x
  induction x with
  | nil => intro y i h; cases i <;> cases y <;> simp [Node.sameL] at h ⊢
  | cons p x ih =>
    intro y i h
    cases i with
    | zero => simp [Node.sameL] at h
    | succ i => cases y with
      | nil => simp [Node.sameL]
      | cons q y =>
        simp only [List.take_succ_cons, Node.sameL, Bool.and_eq_false_iff] at h ⊢
        rcases h with h | h
        · exact .inl h
        · exact .inr (ih h)
/-- a node as it lies: its parts -/
def NodeIs (M : PMem) (c : NodeC) (n : Node) : Prop := c.name = n.name ∧ c.value = n.value ∧ c.marks = n.marks ∧ KidsAt M c.kids n.kids
theorem NodeIs.le {M M' : PMem} {c : NodeC} {n : Node} (h : NodeIs M c n) (hM : PMem.le M M') : NodeIs M' c n := ⟨h.1, h.2.1, h.2.2.1, h.2.2.2.le hM⟩
theorem NodeIs.at {M : PMem} {c : NodeC} {n : Node} (h : NodeIs M c n) : NodeAt M c.cells n := by
  obtain ⟨h1, h2, h3, h4⟩ := h
  cases c; cases n
  simp only [Node.name, Node.value, Node.marks, Node.kids] at h1 h2 h3 h4
  subst h1; subst h2; subst h3
  exact .mk h4
/-- cells' nodes and nodes, one by one -/
def NodesIs (M : PMem) (l : List NodeC) (ks : List Node) : Prop := l.length = ks.length ∧ ∀ (i : Nat) (c : NodeC) (n : Node), l[i]? = some c → ks[i]? = some n → NodeIs M c n
theorem NodesIs.nil (M : PMem) : NodesIs M [] [] := ⟨rfl, fun i c n h => by simp at h⟩
theorem NodesIs.le {M M' : PMem} {l : List NodeC} {ks : List Node} (h : NodesIs M l ks) (hM : PMem.le M M') : NodesIs M' l ks := ⟨h.1, fun i c n h1 h2 => (h.2 i c n h1 h2).le hM⟩
theorem NodesIs.snoc {M : PMem} {l : List NodeC} {ks : List Node} {c : NodeC} {n : Node} (h : NodesIs M l ks) (hc : NodeIs M c n) : NodesIs M (l ++ [c]) (ks ++ [n]) := by
  refine ⟨by simp [h.1], fun i c' n' h1 h2 => ?_⟩
  rw [List.getElem?_append] at h1 h2
  by_cases hi : i < l.length
  · rw [if_pos hi] at h1
    rw [if_pos (by rw [← h.1]; exact hi)] at h2
    exact h.2 i c' n' h1 h2
  · rw [if_neg hi] at h1
    rw [if_neg (by rw [← h.1]; exact hi), ← h.1] at h2
    by_cases h0 : i - l.length = 0
    · rw [h0] at h1 h2
      simp at h1 h2
      subst h1; subst h2
      exact hc
    · rw [List.getElem?_eq_none (by simp; omega)] at h1
      cases h1
theorem take_snoc {α : Type} {l : List α} {i : Nat} {x : α} (h : l[i]? = some x) : l.take (i + 1) = l.take i ++ [x] := by
  obtain ⟨hlt, rfl⟩ := List.getElem?_eq_some_iff.1 h
  exact List.take_succ_eq_append_getElem hlt
/-- a row of nodes that was appended to, read -/
theorem RowIn.kids {M : PMem} {v : Value} {el n : Nat} {l : List NodeC} {ks : List Node} (h : RowIn M v el 41 n (l.flatMap NodeC.cells)) (hl : NodesIs M l ks) : ∃ a c, v = .slice a ks.length c ∧ ks.length ≤ c ∧ NdA M a ks ∧ KidsAt M v ks := by
  obtain ⟨hn, hsl⟩ := h.sl (sz := 41) NodeC.cells (fun _ => rfl) (by omega)
  obtain ⟨a, c, hv, hc, hs⟩ := hsl
  have hA : NdA M a ks := by
    rcases hs with hs | ⟨b, o, cs, el', fr, ha, hb, hx⟩
    · subst hs
      refine .inl (List.eq_nil_of_length_eq_zero ?_)
      rw [← hl.1]; rfl
    · refine .inr ⟨b, o, cs, el', fr, ha, hb, fun i x hi => ?_⟩
      have hlt : i < l.length := by rw [hl.1]; exact (List.getElem?_eq_some_iff.1 hi).1
      have h1 := hx i (l[i]'hlt) (List.getElem?_eq_getElem hlt)
      rw [h1]
      exact (hl.2 i _ x (List.getElem?_eq_getElem hlt) hi).at
  rw [hl.1] at hv hc
  exact ⟨a, c, hv, hc, hA, (by rw [hv]; exact KidsAt.of hA hc)⟩
/-- is it a mark? -/
def Mark.ok (m : Mark) : Bool := (decide (m.number = 0) && decide (m.stamp = 0)) || (((decide (1 ≤ m.number) && decide (m.number ≤ 72057594037927935)) && decide (1 ≤ m.stamp)) && decide (m.stamp ≤ 72057594037927935))
/-- is it a value? -/
def Val.ok (v : Val) : Bool :=
  if v.kind = 1 then ((decide (0 ≤ v.mode) && decide (v.mode ≤ 8)) && decide (v.size = 0)) && decide (v.sum = Sum32.zero)
  else if v.kind = 2 then ((decide (0 ≤ v.mode) && decide (v.mode ≤ 8)) && decide (0 ≤ v.size)) && decide (v.size ≤ 1099511627775)
  else if v.kind = 3 then (decide (v.mode = 0) && decide (1 ≤ v.size)) && decide (v.size ≤ 4095) else false
/-- what is wrong with a thing itself -/
def ownE (v : Val) (m : Marks) (k : Nat) : Int :=
  if (decide (v.kind < 1) || decide (3 < v.kind)) || (!decide (v.kind = 1) && decide (0 < (k : Int))) then 40
  else if ((!Val.ok v || !Mark.ok m.a) || !Mark.ok m.b) || (!decide (v.kind = 2) && !decide (m = Marks.zero)) then 41 else 0
/-- a thing's path -/
def qpath (p name : Str) (lv : Nat) : Str := if 0 < (lv : Int) then (p ++ [47]) ++ name else name
theorem qpath_len (p name : Str) (lv : Nat) : (qpath p name lv).length ≤ p.length + 1 + name.length := by
  unfold qpath; split <;> simp <;> omega
/-- a name, behind another: 0, 30, 42 -/
def e1E (nm : Str) (b : Bool) (pv : Str) : Int := if ((decide ((if nameOk nm then (0 : Int) else 30) = 0) && b) && !Op.bytesLess pv nm) = true then 42 else if nameOk nm then 0 else 30
def e2E (k : Node) (e : Int) : Int := if e = 0 then ownE k.value k.marks k.kids.length else e
/-! the first wrong thing below a node -/
mutual
def Node.checkB : Node → Str → Nat → Str × Int
  | .mk _ _ _ ks, p, lv => Node.checkL ks p lv false []
def Node.checkL : List Node → Str → Nat → Bool → Str → Str × Int
  | [], _, _, _, _ => ([], 0)
  | k :: r, p, lv, b, pv =>
    if 64 < lv + 1 then (qpath p k.name lv, 43)
    else if e2E k (e1E k.name b pv) = 0 then
      if (Node.checkB k (qpath p k.name lv) (lv + 1)).2 = 0 then Node.checkL r p lv true k.name else Node.checkB k (qpath p k.name lv) (lv + 1)
    else (qpath p k.name lv, e2E k (e1E k.name b pv))
end
/-- the first wrong thing of a tree -/
def Node.check (n : Node) : Str × Int := if ownE n.value n.marks n.kids.length = 0 then Node.checkB n [] 0 else ([], ownE n.value n.marks n.kids.length)
theorem Node.checkB_eq (n : Node) (p : Str) (lv : Nat) : Node.checkB n p lv = Node.checkL n.kids p lv false [] := by cases n; rfl
/-- the name ahead -/
def pvOf (l : List Node) (i : Nat) : Str := ((l[i - 1]?).map Node.name).getD []
theorem e1E_pv (nm a b : Str) : e1E nm false a = e1E nm false b := by simp [e1E]
theorem Node.checkL_pv (l : List Node) (p : Str) (lv : Nat) (a b : Str) : Node.checkL l p lv false a = Node.checkL l p lv false b := by
  cases l with
  | nil => rfl
  | cons k r => simp only [Node.checkL, e1E_pv k.name a b]
theorem Node.checkL_start (l : List Node) (p : Str) (lv : Nat) : Node.checkL l p lv false [] = Node.checkL (l.drop 0) p lv (decide (0 < ((0 : Nat) : Int))) (pvOf l 0) := Node.checkL_pv l p lv _ _
theorem Node.checkL_step {l : List Node} {i : Nat} {k : Node} {p : Str} {lv : Nat} {x : Node} (h : l[i]? = some k) (hx : l[i - 1]? = some x) : Node.checkL (l.drop i) p lv (decide (0 < (i : Int))) (pvOf l i) =
    if 64 < lv + 1 then (qpath p k.name lv, 43)
    else if e2E k (e1E k.name (decide (0 < (i : Int))) x.name) = 0 then
      if (Node.checkB k (qpath p k.name lv) (lv + 1)).2 = 0 then Node.checkL (l.drop (i + 1)) p lv (decide (0 < ((i + 1 : Nat) : Int))) (pvOf l (i + 1)) else Node.checkB k (qpath p k.name lv) (lv + 1)
    else (qpath p k.name lv, e2E k (e1E k.name (decide (0 < (i : Int))) x.name)) := by
  have e0 : pvOf l i = x.name := by simp [pvOf, hx]
  have e1 : pvOf l (i + 1) = k.name := by simp [pvOf, h]
  obtain ⟨hlt, hk⟩ := List.getElem?_eq_some_iff.1 h
  rw [List.drop_eq_getElem_cons hlt, hk, e0, e1, show decide (0 < ((i + 1 : Nat) : Int)) = true from decide_eq_true (by omega)]
  rfl
/-! ### Each cell is one cell -/
theorem ones_sum (s : Sum32) : ∀ u ∈ sumCells s, u.oneCell' = true := fun u hu => by
  obtain ⟨i, hi, rfl⟩ := List.getElem_of_mem hu
  have h32 : i < 32 := hi
  have := sumCells_at s i h32
  rw [List.getElem?_eq_getElem hi] at this
  rw [Option.some.inj this]
  rfl
theorem ones_Val (v : Val) : ∀ u ∈ v.cells, u.oneCell' = true := fun u hu => by
  simp only [Val.cells, List.mem_cons] at hu
  rcases hu with rfl | rfl | rfl | hu
  · rfl
  · rfl
  · rfl
  · exact ones_sum _ u hu
theorem ones_Marks (v : Marks) : ∀ u ∈ v.cells, u.oneCell' = true := fun u hu => by
  simp only [Marks.cells, List.mem_cons, List.not_mem_nil, or_false] at hu
  rcases hu with rfl | rfl | rfl | rfl <;> rfl
theorem ones_NodeC (x : NodeC) (h : x.kids.oneCell' = true) : ∀ u ∈ x.cells, u.oneCell' = true := fun u hu => by
  simp only [NodeC.cells, List.mem_cons, List.mem_append, List.not_mem_nil, or_false] at hu
  rcases hu with rfl | hu | hu | rfl
  · rfl
  · exact ones_Val _ u hu
  · exact ones_Marks _ u hu
  · exact h
theorem ones_Change (x : Change) : ∀ u ∈ x.cells, u.oneCell' = true := fun u hu => by
  simp only [Change.cells, List.mem_cons, List.mem_append] at hu
  rcases hu with rfl | hu | hu
  · rfl
  · exact ones_Val _ u hu
  · exact ones_Val _ u hu
theorem ones_Entry (x : Entry) : ∀ u ∈ x.cells, u.oneCell' = true := fun u hu => by
  simp only [Entry.cells, List.mem_cons, List.mem_append] at hu
  rcases hu with rfl | hu | hu
  · rfl
  · exact ones_Val _ u hu
  · exact ones_Marks _ u hu
theorem ones_Spot (x : Spot) : ∀ u ∈ x.cells, u.oneCell' = true := fun u hu => by
  simp only [Spot.cells, List.mem_cons] at hu
  rcases hu with rfl | hu
  · rfl
  · exact ones_Val _ u hu
/-! ### Slices' elements as cells -/
theorem chunks_flat {α : Type} (enc : α → List Value) (n : Nat) (h : ∀ x, (enc x).length = n) : ∀ (l : List α) (cs : List Value) (o : Nat), (∀ (i : Nat) (x : α), l[i]? = some x → byEnc enc (chunk cs o n i) x) → (cs.drop o).take (l.length * n) = l.flatMap enc := by
  intro l
  induction l with
  | nil => intro cs o _; simp
  | cons y l ih =>
    intro cs o hx
    have h0 := hx 0 y rfl
    have h1 := ih cs (o + n) (fun i x hi => by
      have := hx (i + 1) x (by simpa using hi)
      have e : chunk cs (o + n) n i = chunk cs o n (i + 1) := by
        simp only [chunk]; congr 2; rw [Nat.add_mul]; omega
      show chunk cs (o + n) n i = enc x
      rw [e]; exact this)
    have e0 : (cs.drop o).take n = enc y := by
      have : chunk cs o n 0 = enc y := h0
      simpa [chunk] using this
    rw [List.length_cons, Nat.add_mul, Nat.one_mul, List.flatMap_cons, ← h1, ← e0, Nat.add_comm, List.take_add, List.drop_drop]
theorem ones_flat {α : Type} {enc : α → List Value} (h : ∀ x, ∀ u ∈ enc x, u.oneCell' = true) (l : List α) : ∀ u ∈ l.flatMap enc, u.oneCell' = true := fun u hu => by
  obtain ⟨x, _, hx⟩ := List.mem_flatMap.1 hu
  exact h x u hx
theorem len_flat {α : Type} {enc : α → List Value} {n : Nat} (h : ∀ x, (enc x).length = n) (l : List α) : (l.flatMap enc).length = l.length * n := len_flat1 enc n h l
/-- a row that was appended to, as a slice -/
theorem RowIn.sla {α : Type} {enc : α → List Value} {M : PMem} {v : Value} {el sz n : Nat} {l : List α} (h : RowIn M v el sz n (l.flatMap enc)) (hsz : ∀ x, (enc x).length = sz) (h0 : 0 < sz) : ∃ a c, v = .slice a l.length c ∧ l.length ≤ c ∧ SlA M sz (byEnc enc) a l := (h.sl enc hsz h0).2
/-! ### A tree's paths -/
/-- the path of a name below a path -/
def belowP (p nm : Str) : Str := if p = [] then nm else (p ++ [47]) ++ nm
theorem belowP_len (p nm : Str) : (belowP p nm).length ≤ p.length + 1 + nm.length := by
  unfold belowP; split <;> simp <;> omega
mutual
def Node.flat : Node → Str → List Entry
  | .mk _ v m ks, p => ⟨p, v, m⟩ :: Node.flatL ks p
def Node.flatL : List Node → Str → List Entry
  | [], _ => []
  | k :: r, p => Node.flat k (belowP p k.name) ++ Node.flatL r p
end
theorem Node.flat_eq (x : Node) (p : Str) : x.flat p = ⟨p, x.value, x.marks⟩ :: Node.flatL x.kids p := by cases x; rfl
theorem Node.flat_pos (x : Node) (p : Str) : 0 < (x.flat p).length := by rw [Node.flat_eq]; simp
mutual
theorem Node.flat_len : ∀ (x : Node) (p : Str), (x.flat p).length = x.size
  | .mk _ v m ks, p => by simp [Node.flat, Node.size, Node.flatL_len ks p]; omega
theorem Node.flatL_len : ∀ (l : List Node) (p : Str), (Node.flatL l p).length = Node.sizeL l
  | [], p => rfl
  | k :: r, p => by simp [Node.flatL, Node.sizeL, Node.flat_len k, Node.flatL_len r p]
end
theorem Node.flatL_take {l : List Node} {i : Nat} {k : Node} (p : Str) (h : l[i]? = some k) : Node.flatL (l.take (i + 1)) p = Node.flatL (l.take i) p ++ k.flat (belowP p k.name) := by
  induction l generalizing i with
  | nil => simp at h
  | cons y l ih =>
    cases i with
    | zero => simp at h; subst h; simp [Node.flatL]
    | succ i => simp only [List.take_succ_cons, Node.flatL, ih (by simpa using h), List.append_assoc]
mutual
theorem Node.size_wt : ∀ (x : Node), x.size ≤ x.wt
  | .mk s v m ks => by have := Node.sizeL_wt ks; simp [Node.size, Node.wt]; omega
theorem Node.sizeL_wt : ∀ (l : List Node), Node.sizeL l ≤ Node.wtL l
  | [] => Nat.le_refl _
  | k :: r => by have := Node.size_wt k; have := Node.sizeL_wt r; simp [Node.sizeL, Node.wtL]; omega
end
theorem Node.sizeL_take (l : List Node) (i : Nat) : Node.sizeL (l.take i) ≤ Node.sizeL l := by
  induction l generalizing i with
  | nil => simp
  | cons y l ih =>
    cases i with
    | zero => simp [Node.sizeL]
    | succ i => have := ih i; simp [Node.sizeL]; omega
theorem Node.flatL_room {l : List Node} {i : Nat} {k : Node} (p : Str) (h : l[i]? = some k) : (Node.flatL (l.take i) p).length + (k.flat (belowP p k.name)).length ≤ Node.wtL l := by
  have e := congrArg List.length (Node.flatL_take p h)
  rw [List.length_append] at e
  rw [← e, Node.flatL_len]
  exact Nat.le_trans (Node.sizeL_take _ _) (Node.sizeL_wt _)
/-! ### Changes applied, as the document has it -/
def Val.okN (v : Val) : Bool := decide (v = Val.zero) || (!decide (v.kind = 0) && v.ok)
/-- the place of a path in a list, or -1 -/
def findP : List Entry → Str → Int
  | [], _ => -1
  | e :: r, p => if e.path = p then 0 else if findP r p = -1 then -1 else findP r p + 1
theorem findP_cases (l : List Entry) (p : Str) : (findP l p = -1 ∧ ∀ e ∈ l, e.path ≠ p) ∨ ∃ (i : Nat) (e : Entry), findP l p = i ∧ l[i]? = some e ∧ e.path = p ∧ ∀ x ∈ l.take i, x.path ≠ p := by
  induction l with
  | nil => exact .inl ⟨rfl, by simp⟩
  | cons y l ih =>
    by_cases hy : y.path = p
    · exact .inr ⟨0, y, by simp [findP, hy], rfl, hy, by simp⟩
    · rcases ih with ⟨h1, h2⟩ | ⟨i, e, h1, h2, h3, h4⟩
      · refine .inl ⟨by simp [findP, hy, h1], ?_⟩
        intro e he
        rcases List.mem_cons.1 he with rfl | he
        · exact hy
        · exact h2 e he
      · refine .inr ⟨i + 1, e, ?_, by simpa using h2, h3, ?_⟩
        · rw [findP, if_neg hy, h1, if_neg (by omega)]; omega
        · intro x hx
          rw [List.take_succ_cons] at hx
          rcases List.mem_cons.1 hx with rfl | hx
          · exact hy
          · exact h4 x hx
theorem findP_at {l : List Entry} {p : Str} {i : Nat} {e : Entry} (h : ∀ x ∈ l.take i, x.path ≠ p) (he : l[i]? = some e) (hp : e.path = p) : findP l p = i := by
  rcases findP_cases l p with ⟨_, h2⟩ | ⟨j, x, h1, h2, h3, h4⟩
  · exact absurd hp (h2 e (List.mem_of_getElem? he))
  · rcases Nat.lt_trichotomy i j with hij | hij | hij
    · exact absurd hp (h4 e (List.mem_of_getElem? (i := i) (by rw [List.getElem?_take, if_pos hij]; exact he)))
    · rw [h1, hij]
    · exact absurd h3 (h x (List.mem_of_getElem? (i := j) (by rw [List.getElem?_take, if_pos hij]; exact h2)))
theorem findP_none {l : List Entry} {p : Str} (h : ∀ x ∈ l, x.path ≠ p) : findP l p = -1 := by
  rcases findP_cases l p with ⟨h1, _⟩ | ⟨j, x, _, h2, h3, _⟩
  · exact h1
  · exact absurd h3 (h x (List.mem_of_getElem? h2))
theorem take_ne {l : List Entry} {p : Str} {i : Nat} {e : Entry} (h : ∀ x ∈ l.take i, x.path ≠ p) (he : l[i]? = some e) (hp : ¬ e.path = p) : ∀ x ∈ l.take (i + 1), x.path ≠ p := by
  rw [take_snoc he]
  intro x hx
  rcases List.mem_append.1 hx with hx | hx
  · exact h x hx
  · simp at hx; subst hx; exact hp
theorem findP_le (l : List Entry) (p : Str) : findP l p < l.length ∧ -1 ≤ findP l p := by
  rcases findP_cases l p with ⟨h1, _⟩ | ⟨j, x, h1, h2, _, _⟩
  · rw [h1]; omega
  · have := (List.getElem?_eq_some_iff.1 h2).1
    rw [h1]; omega
/-- what stands at a path of a list -/
def valP (l : List Entry) (p : Str) : Val := if findP l p < 0 then Val.zero else ((l[(findP l p).toNat]?).map Entry.value).getD Val.zero
theorem valP_none {l : List Entry} {p : Str} (h : findP l p < 0) : valP l p = Val.zero := if_pos h
theorem valP_some {l : List Entry} {p : Str} {e : Entry} (h : ¬ findP l p < 0) (he : l[(findP l p).toNat]? = some e) : valP l p = e.value := by simp [valP, h, he]
/-- a list of changes: does it rise? -/
def badC (c : Change) (b : Bool) (pv : Str) : Bool := ((!decide ((splitP c.path 64).2 = 0)) || decide (c.old = c.new)) || (b && decide (0 ≤ cmpP pv c.path))
def risesL : List Change → Bool → Str → Bool
  | [], _, _ => true
  | c :: r, b, pv => if badC c b pv = true then false else risesL r true c.path
theorem badC_t {c : Change} {b : Bool} {pv : Str} (h : (((!decide ((splitP c.path 64).2 = 0)) || decide (c.old = c.new)) || (b && decide (0 ≤ cmpP pv c.path))) = true) : badC c b pv = true := h
theorem badC_f {c : Change} {b : Bool} {pv : Str} (h : (((!decide ((splitP c.path 64).2 = 0)) || decide (c.old = c.new)) || (b && decide (0 ≤ cmpP pv c.path))) = false) : ¬ badC c b pv = true := Bool.eq_false_iff.1 h
def pvC (l : List Change) (i : Nat) : Str := ((l[i - 1]?).map Change.path).getD []
theorem risesL_start (l : List Change) : risesL l false [] = risesL (l.drop 0) (decide (0 < ((0 : Nat) : Int))) (pvC l 0) := by
  cases l with
  | nil => rfl
  | cons c r => simp [risesL, badC]
theorem risesL_step {l : List Change} {i : Nat} {c x : Change} (h : l[i]? = some c) (hx : l[i - 1]? = some x) : risesL (l.drop i) (decide (0 < (i : Int))) (pvC l i) = if badC c (decide (0 < (i : Int))) x.path = true then false else risesL (l.drop (i + 1)) (decide (0 < ((i + 1 : Nat) : Int))) (pvC l (i + 1)) := by
  have e0 : pvC l i = x.path := by simp [pvC, hx]
  have e1 : pvC l (i + 1) = c.path := by simp [pvC, h]
  obtain ⟨hlt, hk⟩ := List.getElem?_eq_some_iff.1 h
  rw [List.drop_eq_getElem_cons hlt, hk, e0, e1, show decide (0 < ((i + 1 : Nat) : Int)) = true from decide_eq_true (by omega)]
  rfl
/-- is there a directory at a path of a list? -/
def dirP (l : List Entry) (p : Str) : Bool := decide (¬ findP l p < 0) && decide (((l[(findP l p).toNat]?).map (fun e => e.value.kind)).getD 0 = 1)
theorem dirP_of {l : List Entry} {p : Str} {b : Bool} {e : Entry} (h : ¬ findP l p < 0) (he : l[(findP l p).toNat]? = some e) : dirP l p = decide (e.value.kind = 1) := by simp [dirP, h, he]
/-- are these a tree's paths? -/
def treeB (l : List Entry) : Bool := match l with
  | [] => false
  | e :: r => decide (e.path = []) && r.all (fun x => dirP l (aboveP x.path).1)
theorem treeB_early {l : List Entry} (h : l = [] ∨ ∃ e, l[0]? = some e ∧ e.path ≠ []) : treeB l = false := by
  rcases h with rfl | ⟨e, he, hp⟩
  · rfl
  · cases l with
    | nil => rfl
    | cons y r => simp at he; subst he; simp [treeB, hp]
theorem treeB_bad {l : List Entry} {i : Nat} {e : Entry} (hi : 1 ≤ i) (he : l[i]? = some e) (h : dirP l (aboveP e.path).1 = false) : treeB l = false := by
  cases l with
  | nil => rfl
  | cons y r =>
    have : e ∈ r := List.mem_of_getElem? (i := i - 1) (by rw [show i = (i - 1) + 1 from by omega] at he; simpa using he)
    have h2 := all_bad (p := fun x : Entry => dirP (y :: r) (aboveP x.path).1) this h
    simp [treeB, h2]
theorem treeB_good {l : List Entry} {e : Entry} (h0 : l[0]? = some e) (hp : e.path = []) (h : ∀ i x, 1 ≤ i → l[i]? = some x → dirP l (aboveP x.path).1 = true) : treeB l = true := by
  cases l with
  | nil => simp at h0
  | cons y r =>
    simp at h0
    subst h0
    simp only [treeB, hp, decide_true, Bool.true_and, List.all_eq_true]
    intro x hx
    obtain ⟨j, hj, rfl⟩ := List.getElem_of_mem hx
    exact h (j + 1) _ (by omega) (by simp [hj])
/-- the order of what stands at two places -/
def cmpAt (h : List Entry) (l : List Change) (i k : Nat) : Int := match h[i]?, l[k]? with
  | none, _ => 1
  | some _, none => -1
  | some e, some c => cmpP e.path c.path
theorem cmpAt_lt {h : List Entry} {l : List Change} {i k : Nat} (hc : cmpAt h l i k < 0) : i < h.length := by
  rcases Nat.lt_or_ge i h.length with hi | hi
  · exact hi
  · unfold cmpAt at hc
    rw [List.getElem?_eq_none hi] at hc
    simp at hc
theorem cmpAt_ge {h : List Entry} {l : List Change} {i k : Nat} (hc : ¬ cmpAt h l i k < 0) (hor : i < h.length ∨ k < l.length) : k < l.length := by
  rcases Nat.lt_or_ge k l.length with hi | hi
  · exact hi
  · have h1 : i < h.length := by omega
    unfold cmpAt at hc
    rw [List.getElem?_eq_getElem h1, List.getElem?_eq_none hi] at hc
    simp at hc
theorem cmpAt_eq {h : List Entry} {l : List Change} {i k : Nat} (hc : cmpAt h l i k = 0) : i < h.length := by
  rcases Nat.lt_or_ge i h.length with hi | hi
  · exact hi
  · unfold cmpAt at hc
    rw [List.getElem?_eq_none hi] at hc
    simp at hc
/-- both lists side by side: what comes of it, or nothing -/
def mergeF : Nat → List Entry → List Change → Option (List Entry)
  | 0, _, _ => some []
  | n + 1, h, l =>
    if h = [] ∧ l = [] then some []
    else if cmpAt h l 0 0 < 0 then (mergeF n (h.drop 1) l).map (fun out => h.take 1 ++ out)
    else match l with
      | [] => some []
      | c :: r => if c.new.okN = true then (mergeF n (if cmpAt h l 0 0 = 0 then h.drop 1 else h) r).map (fun out => (if c.new.kind = 0 then [] else [⟨c.path, c.new, Marks.zero⟩]) ++ out) else none
theorem mergeF_succ (n : Nat) (h : List Entry) (l : List Change) : mergeF (n + 1) h l = (if h = [] ∧ l = [] then some []
    else if cmpAt h l 0 0 < 0 then (mergeF n (h.drop 1) l).map (fun out => h.take 1 ++ out)
    else match l with
      | [] => some []
      | c :: r => if c.new.okN = true then (mergeF n (if cmpAt h l 0 0 = 0 then h.drop 1 else h) r).map (fun out => (if c.new.kind = 0 then [] else [⟨c.path, c.new, Marks.zero⟩]) ++ out) else none) := rfl
def mergeA (h : List Entry) (l : List Change) : Option (List Entry) := mergeF (h.length + l.length) h l
theorem mergeF_fuel : ∀ (n m : Nat) (h : List Entry) (l : List Change), h.length + l.length ≤ n → h.length + l.length ≤ m → mergeF n h l = mergeF m h l := by
  intro n
  induction n with
  | zero =>
    intro m h l h1 h2
    have e1 : h = [] := List.eq_nil_of_length_eq_zero (by omega)
    have e2 : l = [] := List.eq_nil_of_length_eq_zero (by omega)
    subst e1; subst e2
    cases m <;> simp [mergeF]
  | succ n ih =>
    intro m h l h1 h2
    cases m with
    | zero =>
      have e1 : h = [] := List.eq_nil_of_length_eq_zero (by omega)
      have e2 : l = [] := List.eq_nil_of_length_eq_zero (by omega)
      subst e1; subst e2
      simp [mergeF]
    | succ m =>
      simp only [mergeF]
      by_cases h0 : h = [] ∧ l = []
      · rw [if_pos h0, if_pos h0]
      · rw [if_neg h0, if_neg h0]
        by_cases hc : cmpAt h l 0 0 < 0
        · have := cmpAt_lt hc
          rw [if_pos hc, if_pos hc, ih m (h.drop 1) l (by simp; omega) (by simp; omega)]
        · rw [if_neg hc, if_neg hc]
          cases l with
          | nil => rfl
          | cons c r =>
            simp only [List.length_cons] at h1 h2
            have : (if cmpAt h (c :: r) 0 0 = 0 then h.drop 1 else h).length ≤ h.length := by split <;> simp
            simp only []
            rw [ih m _ r (by omega) (by omega)]
theorem cmpAt_drop (h : List Entry) (l : List Change) (i k : Nat) : cmpAt (h.drop i) (l.drop k) 0 0 = cmpAt h l i k := by simp [cmpAt]
theorem mergeA_less {h : List Entry} {l : List Change} {i k : Nat} {e : Entry} (he : h[i]? = some e) (hc : cmpAt h l i k < 0) : mergeA (h.drop i) (l.drop k) = (mergeA (h.drop (i + 1)) (l.drop k)).map (fun out => [e] ++ out) := by
  obtain ⟨hlt, hk⟩ := List.getElem?_eq_some_iff.1 he
  unfold mergeA
  rw [show (h.drop i).length + (l.drop k).length = ((h.drop (i + 1)).length + (l.drop k).length) + 1 from by simp; omega, mergeF_succ, if_neg (by
    intro hh
    have := congrArg List.length hh.1
    simp at this; omega), cmpAt_drop, if_pos hc, List.drop_drop, List.drop_eq_getElem_cons hlt, hk]
  rfl
theorem mergeA_more {h : List Entry} {l : List Change} {i k : Nat} {c : Change} (hl : l[k]? = some c) (hc : ¬ cmpAt h l i k < 0) : mergeA (h.drop i) (l.drop k) =
    if c.new.okN = true then (mergeA (h.drop (if cmpAt h l i k = 0 then i + 1 else i)) (l.drop (k + 1))).map (fun out => (if c.new.kind = 0 then [] else [⟨c.path, c.new, Marks.zero⟩]) ++ out) else none := by
  obtain ⟨hlt, hk⟩ := List.getElem?_eq_some_iff.1 hl
  unfold mergeA
  rw [show (h.drop i).length + (l.drop k).length = ((h.drop i).length + (l.drop (k + 1)).length) + 1 from by simp; omega, mergeF_succ, if_neg (by
    intro hh
    have := congrArg List.length hh.2
    simp at this; omega), cmpAt_drop, if_neg hc]
  rw [List.drop_eq_getElem_cons hlt, hk]
  simp only []
  by_cases h0 : cmpAt h l i k = 0
  · have := cmpAt_eq h0
    simp only [if_pos h0, List.drop_drop]
    rw [mergeF_fuel _ ((h.drop (i + 1)).length + (l.drop (k + 1)).length) _ _ (by simp; omega) (by simp)]
  · simp only [if_neg h0]
theorem mergeA_end {h : List Entry} {l : List Change} {i k : Nat} (h1 : h.length ≤ i) (h2 : l.length ≤ k) : mergeA (h.drop i) (l.drop k) = some [] := by
  rw [List.drop_eq_nil_of_le h1, List.drop_eq_nil_of_le h2]
  rfl
theorem map_app {o : Option (List Entry)} {a b : List Entry} : (o.map (fun out => b ++ out)).map (fun out => a ++ out) = o.map (fun out => (a ++ b) ++ out) := by
  cases o <;> simp
/-- what grows of a list of paths, from a place on, below a path -/
inductive GrowR (l : List Entry) : Str → Nat → List Node → Nat → Prop
  | done {p : Str} {i : Nat} : (∀ e, l[i]? = some e → p ≠ [] ∧ underP e.path p = false) → GrowR l p i [] i
  | step {p : Str} {i j n : Nat} {e : Entry} {ks rest : List Node} : l[i]? = some e → (p = [] ∨ underP e.path p = true) → GrowR l e.path (i + 1) ks j → GrowR l p j rest n → GrowR l p i (Node.mk (aboveP e.path).2 e.value e.marks ks :: rest) n
/-- the document's answer to a list of changes: the error's number -/
def applyE (x : Node) (l : List Change) : Int :=
  if risesL l false [] = true then
    if l.all (fun c => decide (valP (x.flat []) c.path = c.old)) = true then
      match mergeA (x.flat []) l with
      | none => 132
      | some out => if treeB out = true then 0 else 132
    else 131
  else 130
mutual
theorem Node.flat_paths : ∀ (x : Node) (p : Str), p.length + Node.wtL x.kids ≤ 1073741824 → ∀ e ∈ x.flat p, e.path.length ≤ 1073741824
  | .mk s v m ks, p, h => fun e he => by
    have h' : p.length + Node.wtL ks ≤ 1073741824 := h
    rcases List.mem_cons.1 he with rfl | he
    · show p.length ≤ 1073741824; omega
    · exact Node.flatL_paths ks p h' e he
theorem Node.flatL_paths : ∀ (l : List Node) (p : Str), p.length + Node.wtL l ≤ 1073741824 → ∀ e ∈ Node.flatL l p, e.path.length ≤ 1073741824
  | [], p, h => fun e he => by cases he
  | k :: r, p, h => fun e he => by
    have hk := Node.wt_eq k
    have hb := belowP_len p k.name
    simp only [Node.wtL] at h
    rcases List.mem_append.1 he with he | he
    · exact Node.flat_paths k _ (by omega) e he
    · exact Node.flatL_paths r p (by omega) e he
end
theorem Node.flat_room {x : Node} (h : Node.wtL x.kids ≤ 1073741823) : (x.flat []).length ≤ 1073741824 := by
  rw [Node.flat_len]
  have := Node.sizeL_wt x.kids
  have : x.size = 1 + Node.sizeL x.kids := by cases x; rfl
  omega
theorem Node.flat_paths0 {x : Node} (h : Node.wtL x.kids ≤ 1073741823) : ∀ e ∈ x.flat [], e.path.length ≤ 1073741824 := Node.flat_paths x [] (by simp; omega)
theorem step_all {α : Type} {l : List α} {p : α → Prop} {i n : Nat} {x : α} (h : ∀ (j : Nat) (y : α), n ≤ j → j < i → l[j]? = some y → p y) (hx : l[i]? = some x) (hp : p x) : ∀ (j : Nat) (y : α), n ≤ j → j < i + 1 → l[j]? = some y → p y := fun j y h1 h2 h3 => by
  by_cases hj : j = i
  · subst hj; rw [hx] at h3; cases h3; exact hp
  · exact h j y h1 (by omega) h3
theorem cmpAt_none {h : List Entry} {l : List Change} {i k : Nat} (hi : h.length ≤ i) : cmpAt h l i k = 1 := by simp [cmpAt, List.getElem?_eq_none hi]
theorem cmpAt_end {h : List Entry} {l : List Change} {i k : Nat} (hi : i < h.length) (hk : l.length ≤ k) : cmpAt h l i k = -1 := by simp [cmpAt, List.getElem?_eq_none hk, List.getElem?_eq_getElem hi]
theorem cmpAt_of {h : List Entry} {l : List Change} {i k : Nat} {e : Entry} {c : Change} (he : h[i]? = some e) (hc : l[k]? = some c) : cmpAt h l i k = cmpP e.path c.path := by simp [cmpAt, he, hc]
theorem treeB_pos {l : List Entry} (h : treeB l = true) : 0 < l.length := by
  cases l with
  | nil => simp [treeB] at h
  | cons e r => simp
theorem applyE_order {x : Node} {l : List Change} (h : risesL l false [] = false) : applyE x l = 130 := by simp [applyE, h]
theorem applyE_old {x : Node} {l : List Change} (h : risesL l false [] = true) {c : Change} (hc : c ∈ l) (hv : ¬ valP (x.flat []) c.path = c.old) : applyE x l = 131 := by
  have := all_bad (p := fun c : Change => decide (valP (x.flat []) c.path = c.old)) hc (by simpa using hv)
  simp [applyE, h, this]
theorem applyE_shape {x : Node} {l : List Change} (h : risesL l false [] = true) (ha : l.all (fun c => decide (valP (x.flat []) c.path = c.old)) = true) (hm : mergeA (x.flat []) l = none) : applyE x l = 132 := by
  unfold applyE; rw [if_pos h, if_pos ha, hm]
theorem applyE_tree {x : Node} {l : List Change} {out : List Entry} (h : risesL l false [] = true) (ha : l.all (fun c => decide (valP (x.flat []) c.path = c.old)) = true) (hm : mergeA (x.flat []) l = some out) (ht : treeB out = false) : applyE x l = 132 := by
  unfold applyE; rw [if_pos h, if_pos ha, hm]; simp [ht]
theorem applyE_ok {x : Node} {l : List Change} {out : List Entry} (h : risesL l false [] = true) (ha : l.all (fun c => decide (valP (x.flat []) c.path = c.old)) = true) (hm : mergeA (x.flat []) l = some out) (ht : treeB out = true) : applyE x l = 0 := by
  unfold applyE; rw [if_pos h, if_pos ha, hm]; simp [ht]
theorem ite_i {h : List Entry} {l : List Change} {i k : Nat} (hi : i ≤ h.length) : i ≤ (if cmpAt h l i k = 0 then i + 1 else i) ∧ (if cmpAt h l i k = 0 then i + 1 else i) ≤ i + 1 ∧ (if cmpAt h l i k = 0 then i + 1 else i) ≤ h.length := by
  split
  · rename_i hc
    have := cmpAt_eq hc
    omega
  · omega
end Go.Proofs.YtgmomhdammdjgaaGreat
