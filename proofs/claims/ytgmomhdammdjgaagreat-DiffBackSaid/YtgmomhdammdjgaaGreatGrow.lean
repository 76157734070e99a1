/-
  What the program's grow reckons: all spots in their order, laid one behind the other. Plain definitions and lemmas; no program in sight.
-/
import Derived.Test.YtgmomhdammdjgaaGreatFlat
set_option linter.unusedVariables false
set_option linter.unusedSimpArgs false
namespace Go.Proofs.YtgmomhdammdjgaaGreat
open Go Go.Proofs Go.RowKit

/-- what a list of changes says of a path -/
def nowOf : List Change → Str → Option Val
  | [], _ => none
  | c :: r, p => match nowOf r p with
    | some v => some v
    | none => if c.path = p then some c.new else none
theorem nowOf_snoc (l : List Change) (c : Change) (p : Str) : nowOf (l ++ [c]) p = if p = c.path then some c.new else nowOf l p := by
  induction l with
  | nil => simp [nowOf, eq_comm]
  | cons d l ih =>
    simp only [List.cons_append, nowOf, ih]
    by_cases h : p = c.path
    · simp [h]
    · simp [h]
theorem nowOf_some {l : List Change} {p : Str} {v : Val} (h : nowOf l p = some v) : ∃ c ∈ l, c.path = p ∧ c.new = v := by
  induction l with
  | nil => simp [nowOf] at h
  | cons d l ih =>
    simp only [nowOf] at h
    split at h
    · rename_i u hu
      cases h
      obtain ⟨c, h1, h2, h3⟩ := ih hu
      exact ⟨c, List.mem_cons_of_mem _ h1, h2, h3⟩
    · split at h
      · rename_i h1
        cases h
        exact ⟨d, List.mem_cons_self, h1, rfl⟩
      · cases h
theorem nowOf_none {l : List Change} {p : Str} (h : nowOf l p = none) : ∀ c ∈ l, c.path ≠ p := by
  induction l with
  | nil => intro c hc; simp at hc
  | cons d l ih =>
    simp only [nowOf] at h
    split at h
    · cases h
    · rename_i hu
      split at h
      · cases h
      · rename_i h1
        intro c hc
        rcases List.mem_cons.1 hc with rfl | hc
        · exact h1
        · exact ih hu c hc
/-- the spots of a tree's paths -/
def spotsT (l : List Change) (fl : List Entry) : List Spot := fl.map fun e => ⟨e.path, (nowOf l e.path).getD e.value⟩
/-- the spots that come -/
def spotsN (l : List Change) : List Spot := (l.filter fun c => decide (c.old.kind = 0)).map fun c => ⟨c.path, c.new⟩
def spots (x : Node) (l : List Change) : List Spot := spotsT l (x.flat []) ++ spotsN l
theorem spotsN_snoc (l : List Change) (c : Change) : spotsN (l ++ [c]) = if c.old.kind = 0 then spotsN l ++ [⟨c.path, c.new⟩] else spotsN l := by
  unfold spotsN
  rw [List.filter_append]
  by_cases h : c.old.kind = 0 <;> simp [h]
theorem spotsN_len (l : List Change) : (spotsN l).length ≤ l.length := by
  unfold spotsN
  rw [List.length_map]; exact List.length_filter_le _ _
/-- the kind that was laid at a path -/
def kindOf : List Entry → Str → Option Int
  | [], _ => none
  | e :: r, p => match kindOf r p with
    | some v => some v
    | none => if e.path = p then some e.value.kind else none
theorem kindOf_snoc (l : List Entry) (e : Entry) (p : Str) : kindOf (l ++ [e]) p = if p = e.path then some e.value.kind else kindOf l p := by
  induction l with
  | nil => simp [kindOf, eq_comm]
  | cons d l ih =>
    simp only [List.cons_append, kindOf, ih]
    by_cases h : p = e.path
    · simp [h]
    · simp [h]
theorem kindOf_some {l : List Entry} {p : Str} {v : Int} (h : kindOf l p = some v) : ∃ e ∈ l, e.path = p ∧ e.value.kind = v := by
  induction l with
  | nil => simp [kindOf] at h
  | cons d l ih =>
    simp only [kindOf] at h
    split at h
    · rename_i u hu
      cases h
      obtain ⟨c, h1, h2, h3⟩ := ih hu
      exact ⟨c, List.mem_cons_of_mem _ h1, h2, h3⟩
    · split at h
      · rename_i h1
        cases h
        exact ⟨d, List.mem_cons_self, h1, rfl⟩
      · cases h
/-- is what is above a directory that was laid? -/
def upDir (done : List Entry) (p : Str) : Bool := decide ((kindOf done (aboveP p).1).getD 0 = 1)
/-- the marks that a thing gets -/
def marksAt (x : Node) (p : Str) (named : Bool) : Marks := if named = true then Marks.zero else match subAt x p with
  | some k => k.marks
  | none => Marks.zero
/-- a spot, as it is laid -/
def laidE (x : Node) (l : List Change) (s : Spot) : Entry := ⟨s.path, s.value, marksAt x s.path (nowOf l s.path).isSome⟩
/-- the spots, laid one behind the other; none: one has no directory above it -/
def runG (x : Node) (l : List Change) : List Spot → List Entry → Option (List Entry)
  | [], done => some done
  | s :: r, done => if s.value.kind = 0 then runG x l r done else if (!decide (s.path = []) && !upDir done s.path) = true then none else runG x l r (done ++ [laidE x l s])
theorem runG_step {x : Node} {l : List Change} {ss : List Spot} {i : Nat} {s : Spot} {done : List Entry} (h : ss[i]? = some s) : runG x l (ss.drop i) done = if s.value.kind = 0 then runG x l (ss.drop (i + 1)) done else if (!decide (s.path = []) && !upDir done s.path) = true then none else runG x l (ss.drop (i + 1)) (done ++ [laidE x l s]) := by
  obtain ⟨hlt, hk⟩ := List.getElem?_eq_some_iff.1 h
  rw [List.drop_eq_getElem_cons hlt, hk, runG]
/-- the tree that was laid so far -/
structure Grown (z : Node) (done : List Entry) : Prop where
  fine : z.Fine
  name : z.name = []
  flat : z.flat [] = done
theorem Grown.size {z : Node} {done : List Entry} (h : Grown z done) : z.size = done.length := by rw [← h.flat, Node.flat_len]
theorem Grown.first (v : Val) (m : Marks) : Grown (leaf v m) [⟨[], v, m⟩] := ⟨leaf_fine v m, rfl, rfl⟩
theorem Grown.step {z : Node} {done : List Entry} (h : Grown z done) {p : Str} (hp : (splitP p 64).2 = 0) (h0 : p ≠ []) (hlt : ∀ e ∈ done, cmpP e.path p < 0) (hup : upDir done p = true) (v : Val) (m : Marks) :
    wayB z (splitP p 64).1 = true ∧ (splitP p 64).1.length + 0 ≤ 64 ∧ Addable z (splitP p 64).1 ∧ Grown (withN z (splitP p 64).1 (leaf v m)) (done ++ [⟨p, v, m⟩]) := by
  obtain ⟨h1, h2, h3⟩ := splitP_ok hp
  rw [h1]
  have hj : joinP (pieces p) = p := joinP_pieces p
  generalize hns : pieces p = ns at *
  have hne : ns ≠ [] := fun e => by subst e; exact h0 hj.symm
  have hfl : done = z.things.map (entT []) := by rw [← h.flat, Node.flat0 h.fine]
  have hok := Node.things_ok h.fine
  rcases snocCases ns with rfl | ⟨q, n, rfl⟩
  · exact absurd rfl hne
  · have hab : aboveP p = (joinP q, n) := by rw [← hj]; exact aboveP_join h2
    have hq : OkNames q := fun x hx => h2 x (List.mem_append_left _ hx)
    obtain ⟨g1, g2, g3, g4⟩ := withN_things (leaf v m) rfl (leaf_fine v m) (q ++ [n]) z h.fine h2 hne (fun e he => by
        have := hlt (entT [] e) (by rw [hfl]; exact List.mem_map_of_mem he)
        rw [← hj] at this
        simp only [entT, List.nil_append] at this
        rwa [cmpP_join (hok e he) h2] at this) (by
        unfold upDir at hup
        rw [hab] at hup
        simp only [decide_eq_true_eq] at hup
        cases hk : kindOf done (joinP q) with
        | none => rw [hk] at hup; simp at hup
        | some u =>
          rw [hk] at hup
          simp only [Option.getD_some] at hup
          subst hup
          obtain ⟨e, he, hep, hek⟩ := kindOf_some hk
          rw [hfl] at he
          obtain ⟨t, ht, rfl⟩ := List.mem_map.1 he
          refine ⟨t, ht, ?_, hek⟩
          have : pieces (joinP t.1) = pieces (joinP q) := by
            simp only [entT, List.nil_append] at hep
            rw [hep]
          rw [pieces_joinP _ (hok t ht), pieces_joinP _ hq] at this
          rw [this]; simp)
    refine ⟨g1, by omega, g2, g4, by rw [withN_name, h.name], ?_⟩
    rw [Node.flat0 g4, g3, List.map_append, ← hfl]
    simp only [List.map_cons, List.map_nil, entT, List.nil_append]
    rw [hj]
    rfl
theorem spotsT_snoc (l : List Change) (fl : List Entry) (e : Entry) : spotsT l (fl ++ [e]) = spotsT l fl ++ [⟨e.path, (nowOf l e.path).getD e.value⟩] := by simp [spotsT]
theorem itemsV_of {x : Node} {p : Str} {i : Nat} {y : List Value} (h : (itemsV x p)[i]? = some y) : ∃ e, (x.flat p)[i]? = some e ∧ y = [S e.path, Val.val e.value] := by
  unfold itemsV at h
  rw [List.getElem?_map] at h
  cases hz : (x.flat p)[i]? with
  | none => rw [hz] at h; cases h
  | some e => rw [hz] at h; cases h; exact ⟨e, rfl, rfl⟩
/-- what stands for the tree that was laid so far -/
def OutT (M : PMem) (v : Value) (done : List Entry) : Prop := (v = .pointer none ∧ done = []) ∨ ∃ b z, v = P_ b 0 ∧ TreeAt M b z ∧ Grown z done ∧ done ≠ []
theorem OutT.le {M M' : PMem} {v : Value} {done : List Entry} (h : OutT M v done) (hM : PMem.le M M') : OutT M' v done := by
  rcases h with h | ⟨b, z, h1, h2, h3⟩
  · exact .inl h
  · exact .inr ⟨b, z, h1, h2.le hM, h3⟩
section
variable {P : Program} {Γ : Cx} {dl : List Deferred} {f : Then} {e : Env} {M : PMem} {H : List Res} {K : Kont} {d ty : Nat} {pos : String} {af : Array Edge} {g : Option (Nat × Bool)}
theorem D_lookVal {t key elem : TypeId} {x k : Operand} {r clock : Nat} {l : MapL} {s : Str} (nw : Str → Option Val) (hnw : ∀ p, lookL l p = (nw p).map Val.val) (ht : P.underlying t = some (.map key elem)) (hk : P.underlying key = some .string) (hz : ∀ w, (zeroValue elem).run P w = .ok (Val.val Val.zero) w)
    (hx : e.val x = some (.map (some r))) (hs : e.val k = some (S s)) (hb : Has M H r (mobj l clock)) : Dv P e M H (.lookup t x k true) (.tuple #[Val.val ((nw s).getD Val.zero), .bool (nw s).isSome]) := by
  have h := D_lookOk (M := M) (H := H) ht hk hz hx hs hb
  rw [hnw] at h
  cases hn : nw s with
  | none => rw [hn] at h; exact h
  | some u => rw [hn] at h; exact h
theorem D_lookKind {t key elem : TypeId} {x k : Operand} {r clock : Nat} {l : MapL} {s : Str} (kd : Str → Option Int) (hkd : ∀ p, lookL l p = (kd p).map (fun n => I n)) (ht : P.underlying t = some (.map key elem)) (hk : P.underlying key = some .string) (hz : ∀ w, (zeroValue elem).run P w = .ok (I 0) w)
    (hx : e.val x = some (.map (some r))) (hs : e.val k = some (S s)) (hb : Has M H r (mobj l clock)) : Dv P e M H (.lookup t x k false) (I ((kd s).getD 0)) := by
  have h := D_look (M := M) (H := H) ht hk hz hx hs hb
  rw [hkd] at h
  cases hn : kd s with
  | none => rw [hn] at h; exact h
  | some u => rw [hn] at h; exact h
/-- a row that is not empty has a block -/
theorem R_rowSome {v : Value} {el sz n : Nat} {xs : List Value} (hn : 0 < n) (h : ∀ b cap, v = .slice (some ⟨b, 0, none⟩) n cap → n ≤ cap → Γ.R dl f e M (.row v el sz n xs :: H)) : Γ.R dl f e M (.row v el sz n xs :: H) := fun a w hk hd hs => by
  obtain ⟨h1, h2⟩ := hs.own _ (List.mem_cons_self)
  rcases h2 with ⟨rfl, rfl⟩ | ⟨gb, cap, cur, rfl, _, hg, hnc, hcm, hcs, ht⟩
  · omega
  · exact h _ cap rfl hnc a w hk hd hs
end
theorem kindOf_map_snoc {km : MapL} {done : List Entry} {e : Entry} (h : ∀ p, lookL km p = (kindOf done p).map (fun n => I n)) (c : Nat) : ∀ p, lookL (updL km e.path (I e.value.kind) c) p = (kindOf (done ++ [e]) p).map (fun n => I n) := fun p => by
  rw [lookL_upd, kindOf_snoc, h]
  split <;> rfl
theorem nowOf_map_snoc {ml : MapL} {l : List Change} {c : Change} (h : ∀ p, lookL ml p = (nowOf l p).map Val.val) (k : Nat) : ∀ p, lookL (updL ml c.path (Val.val c.new) k) p = (nowOf (l ++ [c]) p).map Val.val := fun p => by
  rw [lookL_upd, nowOf_snoc, h]
  split <;> rfl
theorem upDir_nil (p : Str) : upDir [] p = false := rfl
end Go.Proofs.YtgmomhdammdjgaaGreat
