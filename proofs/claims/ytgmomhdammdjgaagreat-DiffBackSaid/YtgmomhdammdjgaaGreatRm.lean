/-
  An own block handed to a function and back; what the room's counting counts. No condition: plain definitions and rules over any program.
-/
import Derived.Test.YtgmomhdammdjgaaGreatEq
set_option linter.unusedVariables false
set_option linter.unusedSimpArgs false
namespace Go.Proofs.YtgmomhdammdjgaaGreat
open Go Go.RowKit

theorem St.start1 {w : World} {M : PMem} {b : Nat} {o : Obj} (hM : Lies M w) (hb : w.heap[b]? = some o) (hf : M b = none) : St w [b] M M [.blk b o] w :=
  St.start_own hM [.blk b o] (fun r hr k hk => by simp at hr; subst hr; cases hk; simp) (fun r hr => by simp at hr; subst hr; exact hb) (fun r hr k hk => by simp at hr; subst hr; cases hk; exact hf) (List.pairwise_singleton _ _)
/-- what a function does to one block of the caller's: its answer, the block behind -/
abbrev Ends1 (P : Program) (fn : Nat) (args : List Value) (w : World) (b : Nat) (M : PMem) (v : Value) (o : Obj) : Prop := Ends P fn args w [b] M (fun v' M' H' => v' = v ∧ M' = M ∧ H' = [.blk b o])
section
variable {P : Program} {Γ : Cx} {dl : List Deferred} {f : Then} {e : Env} {M : PMem} {H : List Res} {K : Kont} {d ty : Nat} {pos : String} {af : Array Edge} {g : Option (Nat × Bool)}
theorem set_perm {α : Type} : ∀ {l : List α} {i : Nat} {x y : α}, l[i]? = some x → (y :: (l.take i ++ l.drop (i + 1))).Perm (l.set i y) := by
  intro l i x y h
  have h1 := perm_front (l := l.set i y) i (x := y) (by
    obtain ⟨hlt, _⟩ := List.getElem?_eq_some_iff.1 h
    simp [hlt])
  have e1 : (l.set i y).take i = l.take i := by
    rw [List.take_set, List.set_eq_of_length_le (by rw [List.length_take]; omega)]
  have e2 : (l.set i y).drop (i + 1) = l.drop (i + 1) := by rw [List.drop_set_of_lt (by omega)]
  rw [e1, e2] at h1
  exact h1
theorem E_call1 {c : Operand} {xs : List Operand} {at_ : Array TypeId} {vs : List Value} {fid : Nat} {cap : Array Value} {b : Nat} {o o' : Obj} {v : Value} (i : Nat) (hi : H[i]? = some (.blk b o))
    (hc : e.val c = some (.func (.func fid) #[] cap)) (hx : e.vals xs = some vs) (hen : ∀ (args : Array Value) (w : World), (callFunc fid args).run Γ.P w = .ok (.enter fid args) w)
    (hcon : ∀ w, Lies M w → w.heap[b]? = some o → M b = none → Ends1 Γ.P fid (vs ++ cap.toList) w b M v o')
    (k : Γ.R dl f ((d, v) :: e) M (H.set i (.blk b o'))) (hdn : Nat.ble (d + 1) Γ.n = true := by rfl) :
    Γ.R dl (Γ.op ⟨some d, .call ⟨.value c, xs.toArray, at_⟩, ty, pos, af, g⟩ f K) e M H :=
  E_call (Hc := [.blk b o]) (Hr := H.take i ++ H.drop (i + 1)) (Y := [b]) hc hx hen (perm_front i hi).symm (fun y hy => by simp at hy; subst hy; exact ⟨_, List.mem_singleton.2 rfl, rfl⟩)
    (fun w hM hown hfree _ => hcon w hM (hown _ (List.mem_singleton.2 rfl)) (hfree _ (List.mem_singleton.2 rfl) b rfl))
    (fun v' M' H' _ ⟨h1, h2, h3⟩ => by
      subst h1; subst h2; subst h3
      exact R_perm (set_perm hi).symm k) hdn
end
/-! ### Counting parts -/
def addC (k n : Int) : Int := if 0 ≤ k then k - n else k
mutual
def cntN : Int → Node → Int
  | k, .mk s _ _ ks => cntL (addC (addC k 1) s.length) ks
def cntL : Int → List Node → Int
  | k, [] => k
  | k, n :: r => if 0 ≤ k then cntL (cntN k n) r else k
end
theorem cntN_eq (k : Int) (n : Node) : cntN k n = cntL (addC (addC k 1) n.name.length) n.kids := by cases n; rfl
def cntC : Int → List Change → Int
  | k, [] => k
  | k, c :: r => if 0 ≤ k then cntC (addC (addC k 1) c.path.length) r else k
theorem addC_le {k n : Int} (h : 0 ≤ n) : addC k n ≤ k := by unfold addC; split <;> omega
theorem addC_ge {k n : Int} (h : 0 ≤ n) (h0 : 0 ≤ addC k n) : addC k n = k - n ∧ 0 ≤ k := by
  unfold addC at h0 ⊢
  split at h0
  · rename_i hk; rw [if_pos hk]; omega
  · omega
theorem addC_lo {k n : Int} (h : n ≤ 4611686018427387904) (h0 : -4611686018427387904 ≤ k) : -4611686018427387904 ≤ addC k n := by unfold addC; split <;> omega
mutual
theorem cntN_le : ∀ (n : Node) (k : Int), cntN k n ≤ k
  | .mk s v m ks, k => by
    have h1 := cntL_le ks (addC (addC k 1) s.length)
    have h2 := addC_le (k := addC k 1) (n := s.length) (by omega)
    have h3 := addC_le (k := k) (n := 1) (by omega)
    show cntL (addC (addC k 1) s.length) ks ≤ k
    omega
theorem cntL_le : ∀ (l : List Node) (k : Int), cntL k l ≤ k
  | [], k => Int.le_refl _
  | n :: r, k => by
    show (if 0 ≤ k then cntL (cntN k n) r else k) ≤ k
    split
    · have h1 := cntL_le r (cntN k n); have h2 := cntN_le n k; omega
    · omega
end
mutual
theorem cntN_wt : ∀ (n : Node) (k : Int), 0 ≤ cntN k n → cntN k n = k - n.wt ∧ 0 ≤ k
  | .mk s v m ks, k, h => by
    have h' : 0 ≤ cntL (addC (addC k 1) s.length) ks := h
    obtain ⟨h1, h2⟩ := cntL_wt ks _ h'
    obtain ⟨h3, h4⟩ := addC_ge (by omega) h2
    obtain ⟨h5, h6⟩ := addC_ge (by omega) h4
    refine ⟨?_, h6⟩
    show cntL (addC (addC k 1) s.length) ks = _
    rw [h1, h3, h5]
    simp only [Node.wt]
    omega
theorem cntL_wt : ∀ (l : List Node) (k : Int), 0 ≤ cntL k l → cntL k l = k - Node.wtL l ∧ 0 ≤ k
  | [], k, h => ⟨by simp [cntL, Node.wtL], h⟩
  | n :: r, k, h => by
    have h' : 0 ≤ (if 0 ≤ k then cntL (cntN k n) r else k) := h
    by_cases hk : 0 ≤ k
    · rw [if_pos hk] at h'
      obtain ⟨h1, h2⟩ := cntL_wt r _ h'
      obtain ⟨h3, h4⟩ := cntN_wt n k h2
      refine ⟨?_, hk⟩
      show (if 0 ≤ k then cntL (cntN k n) r else k) = _
      rw [if_pos hk, h1, h3]
      simp only [Node.wtL]
      omega
    · rw [if_neg hk] at h'; exact absurd h' hk
end
theorem cntL_step {l : List Node} {i : Nat} {x : Node} {k0 k : Int} (h : cntL k0 l = cntL k (l.drop i)) (hx : l[i]? = some x) (hk : 0 ≤ k) : cntL k0 l = cntL (cntN k x) (l.drop (i + 1)) := by
  obtain ⟨hlt, hg⟩ := List.getElem?_eq_some_iff.1 hx
  rw [h, List.drop_eq_getElem_cons hlt, hg]
  exact if_pos hk
theorem cntL_stop {l : List Node} {i : Nat} {k0 k : Int} (h : cntL k0 l = cntL k (l.drop i)) (hk : l.length ≤ i ∨ k < 0) : cntL k0 l = k := by
  rw [h]
  cases hd : l.drop i with
  | nil => rfl
  | cons x r =>
    rcases hk with hk | hk
    · rw [List.drop_eq_nil_of_le hk] at hd; cases hd
    · exact if_neg (by omega)
theorem cntC_step {l : List Change} {i : Nat} {x : Change} {k0 k : Int} (h : cntC k0 l = cntC k (l.drop i)) (hx : l[i]? = some x) (hk : 0 ≤ k) : cntC k0 l = cntC (addC (addC k 1) x.path.length) (l.drop (i + 1)) := by
  obtain ⟨hlt, hg⟩ := List.getElem?_eq_some_iff.1 hx
  rw [h, List.drop_eq_getElem_cons hlt, hg]
  exact if_pos hk
theorem cntC_stop {l : List Change} {i : Nat} {k0 k : Int} (h : cntC k0 l = cntC k (l.drop i)) (hk : l.length ≤ i ∨ k < 0) : cntC k0 l = k := by
  rw [h]
  cases hd : l.drop i with
  | nil => rfl
  | cons x r =>
    rcases hk with hk | hk
    · rw [List.drop_eq_nil_of_le hk] at hd; cases hd
    · exact if_neg (by omega)
/-- every name and every list of children is of a length that a machine can count -/
inductive Node.Small : Node → Prop
  | mk {s : Str} {v : Val} {m : Marks} {ks : List Node} : s.length ≤ 4611686018427387904 → ks.length ≤ 4611686018427387904 → (∀ k ∈ ks, Node.Small k) → Node.Small (.mk s v m ks)
theorem Node.Small.name {n : Node} (h : n.Small) : n.name.length ≤ 4611686018427387904 := by cases h; assumption
theorem Node.Small.len {n : Node} (h : n.Small) : n.kids.length ≤ 4611686018427387904 := by cases h; assumption
theorem Node.Small.kid {n k : Node} (h : n.Small) (hk : k ∈ n.kids) : k.Small := by cases h with | mk _ _ h => exact h k hk
mutual
theorem cntN_lo : ∀ (n : Node) (k : Int), n.Small → -4611686018427387904 ≤ k → -4611686018427387904 ≤ cntN k n
  | .mk s v m ks, k, h, hk => by
    show -4611686018427387904 ≤ cntL (addC (addC k 1) s.length) ks
    have hn : s.length ≤ 4611686018427387904 := h.name
    exact cntL_lo ks _ (fun x hx => h.kid hx) (addC_lo (by omega) (addC_lo (by omega) hk))
theorem cntL_lo : ∀ (l : List Node) (k : Int), (∀ x ∈ l, x.Small) → -4611686018427387904 ≤ k → -4611686018427387904 ≤ cntL k l
  | [], k, h, hk => hk
  | n :: r, k, h, hk => by
    show -4611686018427387904 ≤ (if 0 ≤ k then cntL (cntN k n) r else k)
    split
    · exact cntL_lo r _ (fun x hx => h x (by simp [hx])) (cntN_lo n k (h n (by simp)) hk)
    · exact hk
end
theorem cntC_le : ∀ (l : List Change) (k : Int), cntC k l ≤ k
  | [], k => Int.le_refl _
  | c :: r, k => by
    show (if 0 ≤ k then cntC (addC (addC k 1) c.path.length) r else k) ≤ k
    split
    · have h1 := cntC_le r (addC (addC k 1) c.path.length)
      have h2 := addC_le (k := addC k 1) (n := c.path.length) (by omega)
      have h3 := addC_le (k := k) (n := 1) (by omega)
      omega
    · omega
def wtC : List Change → Nat
  | [] => 0
  | c :: r => c.path.length + 1 + wtC r
theorem cntC_wt : ∀ (l : List Change) (k : Int), 0 ≤ cntC k l → cntC k l = k - wtC l ∧ 0 ≤ k
  | [], k, h => ⟨by simp [cntC, wtC], h⟩
  | c :: r, k, h => by
    have h' : 0 ≤ (if 0 ≤ k then cntC (addC (addC k 1) c.path.length) r else k) := h
    by_cases hk : 0 ≤ k
    · rw [if_pos hk] at h'
      obtain ⟨h1, h2⟩ := cntC_wt r _ h'
      obtain ⟨h3, h4⟩ := addC_ge (by omega) h2
      obtain ⟨h5, h6⟩ := addC_ge (by omega) h4
      refine ⟨?_, hk⟩
      show (if 0 ≤ k then cntC (addC (addC k 1) c.path.length) r else k) = _
      rw [if_pos hk, h1, h3, h5]
      simp only [wtC]
      omega
    · rw [if_neg hk] at h'; exact absurd h' hk
end Go.Proofs.YtgmomhdammdjgaaGreat
