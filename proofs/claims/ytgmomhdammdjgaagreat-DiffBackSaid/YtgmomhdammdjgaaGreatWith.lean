/-
  A tree with another subtree at names. No condition: plain definitions and lemmas.
-/
import Derived.Test.YtgmomhdammdjgaaGreatRow
set_option linter.unusedVariables false
set_option linter.unusedSimpArgs false
namespace Go.Proofs.YtgmomhdammdjgaaGreat
open Go Go.RowKit

/-- a node under another name -/
def Node.named (x : Node) (s : Str) : Node := .mk s x.value x.marks x.kids
/-- the tree with y at these names (a name that is not there comes last) -/
def withN : Node → List Str → Node → Node
  | x, [], y => y.named x.name
  | x, n :: r, y => match kidOf x n with
    | none => .mk x.name x.value x.marks (x.kids ++ [y.named n])
    | some k => .mk x.name x.value x.marks (x.kids.set (bsI (x.kids.map Node.name) n) (withN k r y))
/-- at the last name all names are less -/
def Addable : Node → List Str → Prop
  | _, [] => True
  | x, n :: r => match kidOf x n with
    | none => r = [] ∧ bsI (x.kids.map Node.name) n = x.kids.length
    | some k => Addable k r
theorem Node.named_name (x : Node) : x.named x.name = x := by cases x; rfl
theorem withN_name (x : Node) (l : List Str) (y : Node) : (withN x l y).name = x.name := by
  cases l with
  | nil => rfl
  | cons n r => simp only [withN]; split <;> rfl
theorem TreeAt.named {M : PMem} {b : Nat} {x : Node} (h : TreeAt M b x) (s : Str) : TreeAt M b (x.named s) := h.anon s
theorem kidOf_none {x : Node} {n : Str} (h : kidOf x n = none) : bsF (x.kids.map Node.name) n = false := by
  unfold kidOf at h
  cases hb : bsF (x.kids.map Node.name) n with
  | false => rfl
  | true =>
    rw [if_pos hb] at h
    have := bsF_lt hb
    rw [List.length_map] at this
    rw [List.getElem?_eq_getElem this] at h
    cases h
theorem kidOf_some {x k : Node} {n : Str} (h : kidOf x n = some k) : bsF (x.kids.map Node.name) n = true ∧ x.kids[bsI (x.kids.map Node.name) n]? = some k ∧ k.name = n := by
  unfold kidOf at h
  cases hb : bsF (x.kids.map Node.name) n with
  | false => rw [hb] at h; simp at h
  | true =>
    rw [if_pos hb] at h
    refine ⟨rfl, h, ?_⟩
    have := of_decide_eq_true hb
    rw [List.getElem?_map, h] at this
    exact Option.some.inj this
/-- the pointers of a slice of trees -/
theorem SubA.ptrs {M : PMem} {a : Option Addr} {ks : List Node} (h : SubA M a ks) : ∃ bs : List Nat, PtrsIs M bs ks ∧ SlA M 1 (byEnc fun b : Nat => [P_ b 0]) a bs := by
  rcases h with h | ⟨b, o, cs, el, fr, ha, hb, hx⟩
  · subst h; exact ⟨[], PtrsIs.nil M, .inl rfl⟩
  · have key : ∀ n, n ≤ ks.length → ∃ bs : List Nat, PtrsIs M bs (ks.take n) ∧ ∀ (i : Nat) (x : Nat), bs[i]? = some x → byEnc (fun b : Nat => [P_ b 0]) (chunk cs o 1 i) x := by
      intro n
      induction n with
      | zero => intro _; exact ⟨[], by simpa using PtrsIs.nil M, fun i x hx => by simp at hx⟩
      | succ n ih =>
        intro hn
        obtain ⟨bs, h1, h2⟩ := ih (by omega)
        have hk : ks[n]? = some ks[n] := List.getElem?_eq_getElem (by omega)
        obtain ⟨b', h3, h4⟩ := hx n _ hk
        refine ⟨bs ++ [b'], by rw [take_snoc hk]; exact h1.snoc h4, fun i x hix => ?_⟩
        have hl : bs.length = n := by rw [h1.1, List.length_take]; omega
        rw [List.getElem?_append] at hix
        split at hix
        · exact h2 i x hix
        · rename_i hge
          by_cases h0 : i - bs.length = 0
          · rw [h0] at hix
            simp at hix
            subst hix
            have : i = n := by omega
            subst this
            exact h3
          · rw [List.getElem?_eq_none (by simp; omega)] at hix
            cases hix
    obtain ⟨bs, h1, h2⟩ := key ks.length (Nat.le_refl _)
    rw [List.take_length] at h1
    exact ⟨bs, h1, .inr ⟨b, o, cs, el, fr, ha, hb, h2⟩⟩
section
variable {P : Program} {Γ : Cx} {dl : List Deferred} {f : Then} {e : Env} {M : PMem} {H : List Res} {K : Kont} {d ty : Nat} {pos : String} {af : Array Edge} {g : Option (Nat × Bool)}
/-- A call that only reads and answers: whatever of the world it is shown. -/
theorem E_callPure {c : Operand} {xs : List Operand} {at_ : Array TypeId} {vs : List Value} {fid : Nat} {cap : Array Value} {v : Value}
    (hc : e.val c = some (.func (.func fid) #[] cap)) (hx : e.vals xs = some vs) (hen : ∀ (args : Array Value) (w : World), (callFunc fid args).run Γ.P w = .ok (.enter fid args) w)
    (hcon : ∀ w, St Γ.w0 Γ.X Γ.M0 M H w → ∃ M1, Ends Γ.P fid (vs ++ cap.toList) w [] M1 (fun v' M' H' => v' = v ∧ M' = M1 ∧ H' = []))
    (k : Γ.R dl f ((d, v) :: e) M H) (hdn : Nat.ble (d + 1) Γ.n = true := by rfl) :
    Γ.R dl (Γ.op ⟨some d, .call ⟨.value c, xs.toArray, at_⟩, ty, pos, af, g⟩ f K) e M H := fun a w hk hd hs => by
  have hargs := hk.evals hx
  have hrun : (execOp a.eval ⟨some d, .call ⟨.value c, xs.toArray, at_⟩, ty, pos, af, g⟩).run Γ.P w = .ok (.enter fid (vs.toArray ++ cap)) w := by
    have : xs.toArray.map a.eval = vs.toArray := by rw [← hargs]; simp
    simp [execOp, resolve, this, hk.eval hc, Deferred.ofValue, invoke, hen]
  show Oper.uponIn _ _ _ _ _ _ _ _
  rw [semAt_ex _ _ (fun _ h => by cases h), hrun]
  refine ⟨fun h => by simp [Fw, Fence.wide] at h, callsIn_fw ?_⟩
  obtain ⟨M1, hcalls⟩ := hcon w hs
  unfold Ends at hcalls
  have harr : (vs ++ cap.toList).toArray = vs.toArray ++ cap := by simp
  rw [harr] at hcalls
  refine hcalls.mono ?_
  rintro en w' ⟨v', M', H', rfl, hst, rfl, rfl, rfl⟩
  have hkept := hst.kept
  have hlt : ∀ r ∈ H, ∀ b', r.fp = some b' → b' < w.heap.size := fun r hr b' hb' => Res.holds_lt (hs.own r hr) hb'
  refine k _ _ (hk.put (Nat.le_of_ble_eq_true hdn) _) (by simpa [Act.put] using hd) ?_
  exact ⟨⟨hkept.os.trans hs.kept.os, hkept.tape.trans hs.kept.tape, hkept.output.trans hs.kept.output, Nat.le_trans hs.kept.size hkept.size, fun k' hk' hx' => (hkept.block k' (Nat.lt_of_lt_of_le hk' hs.kept.size) (by simp)).trans (hs.kept.block k' hk' hx'), Nat.le_trans hs.kept.drawn hkept.drawn⟩,
    hs.sub, fun b' o' hb' => (hkept.block b' (hs.lies_lt hb') (by simp)).trans (hs.mem b' o' hb'), hs.new, fun r hr => Res.holds_of (hs.own r hr) (fun b' hb' => hkept.block b' (hlt r hr b' hb') (by simp)), hs.free, hs.apart⟩
/-- what a row shows when it is lent -/
theorem St.lendRow {α : Type} {enc : α → List Value} {l : List α} {v : Value} {el sz n i : Nat} {w0 w : World} {X : List Nat} {M0 : PMem} (hs : St w0 X M0 M H w) (hi : H[i]? = some (.row v el sz n (l.flatMap enc))) (hsz : ∀ x, (enc x).length = sz) (h0 : 0 < sz) :
    ∃ M1 a c, PMem.le M M1 ∧ Lies M1 w ∧ v = .slice a l.length c ∧ l.length ≤ c ∧ SlA M1 sz (byEnc enc) a l := by
  have hmem : Res.row v el sz n (l.flatMap enc) ∈ H := List.mem_of_getElem? hi
  have hown := hs.own _ hmem
  obtain ⟨h1, h2⟩ := hown
  rcases h2 with ⟨rfl, rfl⟩ | ⟨gb, cap, cur, rfl, _, hg, hnc, hcm, hcs, ht⟩
  · obtain ⟨hn, a, c, hv, hc, hsl⟩ := RowIn.sl (M := M) (v := .slice none 0 0) (el := el) (n := 0) enc hsz h0 ⟨h1, .inl ⟨rfl, rfl⟩⟩
    exact ⟨M, a, c, PMem.le_refl _, hs.mem, hv, hc, hsl⟩
  · have hMb : M gb = none := (hs.free _ hmem gb rfl).1
    have hL : Lies (M.add gb (.cells (List.toArray cur.toList) el)) w := fun k o' hk' => by
      simp only [PMem.add] at hk'
      split at hk'
      · rename_i e1; subst e1; cases hk'; simpa using hg
      · exact hs.mem k o' hk'
    obtain ⟨hn, a, c, hv, hc, hsl⟩ := RowIn.sl (M := M.add gb (.cells (List.toArray cur.toList) el)) (v := .slice (some ⟨gb, 0, none⟩) n cap) (el := el) (n := n) enc hsz h0 ⟨h1, .inr ⟨gb, cap, cur.toList, rfl, PMem.add_same _ _ _, hnc, hcm, by simpa using hcs, ht⟩⟩
    exact ⟨_, a, c, PMem.le_add hMb, hL, hv, hc, hsl⟩
end
theorem Node.sizeL_set : ∀ {l : List Node} {i : Nat} {k z : Node}, l[i]? = some k → Node.sizeL (l.set i z) + k.size = Node.sizeL l + z.size := by
  intro l
  induction l with
  | nil => intro i k z h; simp at h
  | cons y l ih =>
    intro i k z h
    cases i with
    | zero => simp at h; subst h; simp only [List.set_cons_zero, Node.sizeL]; omega
    | succ i =>
      have := ih (i := i) (k := k) (z := z) (by simpa using h)
      simp only [List.set_cons_succ, Node.sizeL]; omega
theorem Node.named_size (x : Node) (s : Str) : (x.named s).size = x.size := by cases x; rfl
theorem withN_size : ∀ (l : List Str) (x y : Node), (withN x l y).size ≤ x.size + y.size := by
  intro l
  induction l with
  | nil => intro x y; simp only [withN, Node.named_size]; omega
  | cons n r ih =>
    intro x y
    simp only [withN]
    cases hk : kidOf x n with
    | none =>
      simp only [Node.size, Node.sizeL_snoc, Node.named_size]
      have := Node.size_eq x; omega
    | some k =>
      have h1 := Node.sizeL_set (z := withN k r y) (kidOf_some hk).2.1
      have h2 := ih k y
      have h3 := Node.size_eq x
      simp only [Node.size]; omega
theorem names_set {l : List Node} {i : Nat} {k z : Node} (h : l[i]? = some k) (hz : z.name = k.name) : (l.set i z).map Node.name = l.map Node.name := by
  rw [List.map_set, hz]
  refine List.ext_getElem? fun j => ?_
  rw [List.getElem?_set]
  split
  · rename_i hij
    subst hij
    split
    · simp [h]
    · rename_i hlt; rw [List.getElem?_eq_none (by simpa using hlt)]
  · rfl
theorem PtrsIs.set {M : PMem} {bs : List Nat} {ks : List Node} {i b : Nat} {z : Node} (h : PtrsIs M bs ks) (hz : TreeAt M b z) : PtrsIs M (bs.set i b) (ks.set i z) := by
  refine ⟨by simp [h.1], fun j c n h1 h2 => ?_⟩
  rw [List.getElem?_set] at h1 h2
  split at h1
  · rename_i hij
    rw [if_pos hij] at h2
    split at h1
    · split at h2
      · cases h1; cases h2; exact hz
      · cases h2
    · cases h1
  · rename_i hij
    rw [if_neg hij] at h2
    exact h.2 j c n h1 h2
/-- l[k:] -/
theorem D_sliceLk {P : Program} {e : Env} {M : PMem} {H : List Res} {t el sz : Nat} {x lo : Operand} {ad : Option Addr} {n c m : Nat} (k : Nat) (ht : P.underlying t = some (.slice el)) (hsz : ∀ w, (sizeOf el).run P w = .ok sz w) (hx : e.val x = some (.slice ad n c)) (hl : optInt e 0 (some lo) = some (k : Int)) (hm : n - k = m) (hk : k ≤ n) (hnc : n ≤ c) :
    Dv P e M H (.slice t x (some lo) none none) (.slice (if c = k then ad else ad.map (·.add (k * sz))) m (c - k)) := by
  have := D_sliceL (P := P) (e := e) (M := M) (H := H) (lo := some lo) (hi := none) (a := k) (b := n) ht hsz hx hl rfl (by omega) (by omega) (by omega) hnc
  simpa [hm] using this
theorem list_head {α : Type} {l : List α} {n : α} (h : l[0]? = some n) : l = n :: l.drop 1 := by
  cases l with
  | nil => simp at h
  | cons a r => simp at h; simp [h]
theorem Addable_none {x : Node} {l : List Str} {n : Str} (h : l[0]? = some n) (hk : kidOf x n = none) (ha : Addable x l) : l.drop 1 = [] ∧ bsI (x.kids.map Node.name) n = x.kids.length := by
  have e := list_head h
  generalize l.drop 1 = r at e
  subst e
  simpa [Addable, hk] using ha
theorem Addable_some {x k : Node} {l : List Str} {n : Str} (h : l[0]? = some n) (hk : kidOf x n = some k) (ha : Addable x l) : Addable k (l.drop 1) := by
  have e := list_head h
  generalize l.drop 1 = r at e
  subst e
  simpa [Addable, hk] using ha
theorem withN_none {x y : Node} {l : List Str} {n : Str} (h : l[0]? = some n) (hk : kidOf x n = none) : withN x l y = .mk x.name x.value x.marks (x.kids ++ [y.named n]) := by
  have e := list_head h
  generalize l.drop 1 = r at e
  subst e
  simp [withN, hk]
theorem withN_some {x y k : Node} {l : List Str} {n : Str} (h : l[0]? = some n) (hk : kidOf x n = some k) : withN x l y = .mk x.name x.value x.marks (x.kids.set (bsI (x.kids.map Node.name) n) (withN k (l.drop 1) y)) := by
  have e := list_head h
  generalize l.drop 1 = r at e
  subst e
  simp [withN, hk]
theorem flat_ptr (bs : List Nat) : (bs.flatMap fun b => [P_ b 0]) = bs.map fun b => P_ b 0 := by
  induction bs with
  | nil => rfl
  | cons b bs ih => simp [ih]
theorem take_set_flat {cs : List Value} {bs : List Nat} {i b : Nat} {n : Nat} (h : cs.take (n * 1) = bs.flatMap fun b => [P_ b 0]) (hi : i < n) : (cs.set (0 + i * 1) (P_ b 0)).take (n * 1) = (bs.set i b).flatMap fun b => [P_ b 0] := by
  rw [flat_ptr] at h ⊢
  rw [List.take_set, h, List.map_set]
  congr 1
  omega
theorem flat_ptr_at {bs : List Nat} {i b : Nat} (h : bs[i]? = some b) : (bs.flatMap fun b => [P_ b 0])[i]? = some (P_ b 0) := by
  rw [flat_ptr, List.getElem?_map, h]; rfl
theorem take_flat_at {cs : List Value} {bs : List Nat} {i b n : Nat} (h : cs.take (n * 1) = bs.flatMap fun b => [P_ b 0]) (hb : bs[i]? = some b) (hi : i < n) : cs[0 + i * 1]? = some (P_ b 0) := by
  have h1 := flat_ptr_at hb
  rw [← h, List.getElem?_take, if_pos (by omega)] at h1
  rw [Nat.zero_add, Nat.mul_one]; exact h1
theorem slice_inj {a a' : Option Addr} {n n' c c' : Nat} (h : Value.slice a n c = .slice a' n' c') : a = a' ∧ n = n' ∧ c = c' := by
  injection h with h1 h2 h3; exact ⟨h1, h2, h3⟩
theorem RowIn.subs' {M : PMem} {a : Option Addr} {el n c : Nat} {l : List Nat} {ks : List Node} (h : RowIn M (.slice a n c) el 1 n (l.flatMap fun b => [P_ b 0])) (hl : PtrsIs M l ks) : n = ks.length ∧ ks.length ≤ c ∧ SubA M a ks := by
  obtain ⟨a', c', hv, hc, hs⟩ := h.subs hl
  obtain ⟨rfl, hn, rfl⟩ := slice_inj hv
  exact ⟨hn, hc, hs⟩
end Go.Proofs.YtgmomhdammdjgaaGreat
