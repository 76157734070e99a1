/-
  What a difference of two trees is (as a relation), trees that may be absent, lists of children with their names; several resources handed to a call. Plain definitions and lemmas; the rules are over any program.
-/
import Derived.Test.YtgmomhdammdjgaaGreatLawD
set_option linter.unusedVariables false
set_option linter.unusedSimpArgs false
namespace Go.Proofs.YtgmomhdammdjgaaGreat
open Go Go.Proofs Go.RowKit

/-! ### Handed over -/
def fps (H : List Res) : List Nat := H.flatMap fun r => r.fp.toList
theorem fps_mem {H : List Res} {b : Nat} : b ∈ fps H ↔ ∃ r ∈ H, r.fp = some b := by
  unfold fps
  rw [List.mem_flatMap]
  constructor
  · rintro ⟨r, hr, hb⟩; exact ⟨r, hr, by simpa using hb⟩
  · rintro ⟨r, hr, hb⟩; exact ⟨r, hr, by simpa using hb⟩
structure Handed (M : PMem) (H : List Res) (w : World) : Prop where
  own : ∀ r ∈ H, r.holds w
  free : ∀ r ∈ H, ∀ b, r.fp = some b → M b = none
  apart : H.Pairwise (fun x y => ∀ b, x.fp = some b → y.fp ≠ some b)
theorem St.startH {w : World} {M : PMem} {H : List Res} (hM : Lies M w) (h : Handed M H w) : St w (fps H) M M H w :=
  St.start_own hM H (fun r hr b hb => fps_mem.2 ⟨r, hr, hb⟩) h.own h.free h.apart
section
variable {Γ : Cx} {dl : List Deferred} {f : Then} {K : Kont} {e : Env} {M : PMem} {H : List Res} {ty pos : _} {af g : _} {d : Nat}
/-- a call that is handed the resources ahead -/
theorem E_callHN {c : Operand} {xs : List Operand} {at_ : Array TypeId} {vs : List Value} {fid : Nat} {cap : Array Value} {post : Value → PMem → List Res → Prop} (Hc Hr : List Res) (hH : H = Hc ++ Hr)
    (hc : e.val c = some (.func (.func fid) #[] cap)) (hx : e.vals xs = some vs) (hen : ∀ (args : Array Value) (w : World), (callFunc fid args).run Γ.P w = .ok (.enter fid args) w)
    (hcon : ∀ w, Lies M w → Handed M Hc w → Ends Γ.P fid (vs ++ cap.toList) w (fps Hc) M post)
    (k : ∀ v M' H', PMem.le M M' → post v M' H' → Γ.R dl f ((d, v) :: e) M' (H' ++ Hr)) (hdn : Nat.ble (d + 1) Γ.n = true := by rfl) :
    Γ.R dl (Γ.op ⟨some d, .call ⟨.value c, xs.toArray, at_⟩, ty, pos, af, g⟩ f K) e M H :=
  E_call (Hc := Hc) (Hr := Hr) (Y := fps Hc) hc hx hen (hH ▸ List.Perm.refl _) (fun y hy => fps_mem.1 hy) (fun w hM h1 h2 h3 => hcon w hM ⟨h1, h2, h3⟩) k hdn
/-- .. the resources behind -/
theorem E_callHE {c : Operand} {xs : List Operand} {at_ : Array TypeId} {vs : List Value} {fid : Nat} {cap : Array Value} {post : Value → PMem → List Res → Prop} (Hr Hc : List Res) (hH : H = Hr ++ Hc)
    (hc : e.val c = some (.func (.func fid) #[] cap)) (hx : e.vals xs = some vs) (hen : ∀ (args : Array Value) (w : World), (callFunc fid args).run Γ.P w = .ok (.enter fid args) w)
    (hcon : ∀ w, Lies M w → Handed M Hc w → Ends Γ.P fid (vs ++ cap.toList) w (fps Hc) M post)
    (k : ∀ v M' H', PMem.le M M' → post v M' H' → Γ.R dl f ((d, v) :: e) M' (Hr ++ H')) (hdn : Nat.ble (d + 1) Γ.n = true := by rfl) :
    Γ.R dl (Γ.op ⟨some d, .call ⟨.value c, xs.toArray, at_⟩, ty, pos, af, g⟩ f K) e M H :=
  E_call (Hc := Hc) (Hr := Hr) (Y := fps Hc) hc hx hen (hH ▸ List.perm_append_comm) (fun y hy => fps_mem.1 hy) (fun w hM h1 h2 h3 => hcon w hM ⟨h1, h2, h3⟩) (fun v M' H' hle hp => R_perm List.perm_append_comm (k v M' H' hle hp)) hdn
/-- what a row's value looks like, wherever it stands -/
theorem R_rowShapeAt (i : Nat) {v : Value} {el sz n : Nat} {xs : List Value} (hi : H[i]? = some (.row v el sz n xs)) (h : ∀ ad cap, v = .slice ad n cap → n ≤ cap → Γ.R dl f e M H) : Γ.R dl f e M H := fun a w hk hd hs => by
  obtain ⟨h1, h2⟩ := hs.own _ (List.mem_of_getElem? hi)
  rcases h2 with ⟨rfl, rfl⟩ | ⟨gb, cap, cur, rfl, _, hg, hnc, hcm, hcs, ht⟩
  · exact h none 0 rfl (Nat.le_refl _) a w hk hd hs
  · exact h _ cap rfl hnc a w hk hd hs
end
section
variable {P : Program} {e : Env} {M : PMem} {H : List Res}
theorem equalIn_func (k : Nat) {t : Nat} {ps rs : Array TypeId} {vd : Bool} {fn : Fn} {r : Array Value} {cap : Array Value} (ht : P.underlying t = some (.func ps rs vd)) (w : World) : (Op.equalIn (k + 1) t (.func fn r cap) .nilFunc).run P w = .ok false w := by
  simp [Op.equalIn, run_underlying ht]
theorem D_funcNil {x : Operand} {t t' : Nat} {ps rs : Array TypeId} {vd : Bool} {fn : Fn} {r : Array Value} {cap : Array Value} (ht : P.underlying t = some (.func ps rs vd)) (hx : e.val x = some (.func fn r cap)) : Dv P e M H (.binOp .eql t x (.const .nilFunc) t') (.bool false) :=
  ⟨(fun _ h => by cases h), fun _ a w _ _ _ _ _ hk hs => by
    have h1 : (Op.equal t (.func fn r cap) .nilFunc).run P w = .ok false w := equalIn_func 9999 ht w
    have h2 : (eqGuard .eql t x (.const .nilFunc) (.func fn r cap) .nilFunc).run P w = .ok () w := by simp [eqGuard]
    have h3 : (binOp .eql t (.func fn r cap) .nilFunc).run P w = .ok (.bool false) w := by
      rw [show binOp .eql t (.func fn r cap) .nilFunc = (Op.equal t (.func fn r cap) .nilFunc >>= fun r => pure (Value.bool r)) from rfl, bind_ok h1, Sem.run_pure]
    have hc : a.eval (.const .nilFunc) = .nilFunc := rfl
    simp only [execOp, hk.eval hx, hc, Sem.run_bind, h2, h3, Result.andThen_ok, Sem.run_pure]⟩
end
/-! ### A slice without its first -/
theorem SlA.tail {α : Type} {M : PMem} {sz c : Nat} {R : List Value → α → Prop} {a : Option Addr} {l : List α} (h : SlA M sz R a l) : SlA M sz R (if c = 1 then a else a.map (·.add (1 * sz))) (l.drop 1) ∨ l.length ≥ 2 ∧ c = 1 := by
  by_cases hc : c = 1
  · rw [if_pos hc]
    by_cases hl : l.length ≥ 2
    · exact .inr ⟨hl, hc⟩
    · exact .inl (.inl (List.drop_eq_nil_of_le (by omega)))
  · rw [if_neg hc]
    left
    rcases h with h | ⟨b, o, cs, el, fr, rfl, hm, hx⟩
    · exact .inl (by rw [h]; rfl)
    · by_cases hs : sz = 0
      · subst hs
        refine .inr ⟨b, o, cs, el, fr, by simp [Addr.add], hm, fun i x hi => ?_⟩
        rw [List.getElem?_drop] at hi
        have := hx (1 + i) x hi
        unfold chunk at this ⊢
        simpa using this
      · refine .inr ⟨b, o + sz, cs, el, fr, by simp [Addr.add, hs], hm, fun i x hi => ?_⟩
        rw [List.getElem?_drop] at hi
        have := hx (1 + i) x hi
        unfold chunk at this ⊢
        rw [show o + sz + i * sz = o + (1 + i) * sz by rw [Nat.add_mul]; omega]
        exact this
theorem SlA.tailC {α : Type} {M : PMem} {sz c : Nat} {R : List Value → α → Prop} {a : Option Addr} {l : List α} (h : SlA M sz R a l) (hc : l.length ≤ c) : SlA M sz R (if c = 1 then a else a.map (·.add (1 * sz))) (l.drop 1) := by
  rcases h.tail (c := c) with h | ⟨h1, h2⟩
  · exact h
  · omega
/-! ### A child and its name -/
@[ext] structure ChildC where
  name : Str
  t : Value
def ChildC.cells (c : ChildC) : List Value := [S c.name, c.t]
abbrev ChildC.val (c : ChildC) : Value := .agg c.cells.toArray
def ChildC.zero : ChildC := ⟨[], .pointer none⟩
theorem ones_ChildC (x : ChildC) (h : x.t.oneCell' = true) : ∀ u ∈ x.cells, u.oneCell' = true := fun u hu => by
  simp only [ChildC.cells, List.mem_cons, List.not_mem_nil, or_false] at hu
  rcases hu with rfl | rfl
  · rfl
  · exact h
def ChildR (M : PMem) (cs : List Value) (k : Node) : Prop := ∃ b, cs = ChildC.cells ⟨k.name, P_ b 0⟩ ∧ TreeAt M b k
theorem ChildR.le {M M' : PMem} (hM : PMem.le M M') {cs : List Value} {k : Node} (h : ChildR M cs k) : ChildR M' cs k := by
  obtain ⟨b, h1, h2⟩ := h
  exact ⟨b, h1, h2.le hM⟩
abbrev ChA (M : PMem) (a : Option Addr) (l : List Node) : Prop := SlA M 2 (ChildR M) a l
theorem ChA.le {M M' : PMem} {a : Option Addr} {l : List Node} (h : ChA M a l) (hM : PMem.le M M') : ChA M' a l := SlA.mono h hM (fun _ _ _ h => h.le hM)
def childL (ks : List Node) (bs : List Nat) : List ChildC := (ks.zip bs).map fun p => ⟨p.1.name, P_ p.2 0⟩
theorem childL_len {ks : List Node} {bs : List Nat} (h : bs.length = ks.length) : (childL ks bs).length = ks.length := by simp [childL, h]
theorem childL_at {ks : List Node} {bs : List Nat} {i b : Nat} {k : Node} (h1 : bs[i]? = some b) (h2 : ks[i]? = some k) : (childL ks bs)[i]? = some ⟨k.name, P_ b 0⟩ := by
  unfold childL
  rw [List.getElem?_map, (List.getElem?_zip_eq_some (z := (k, b))).2 ⟨h2, h1⟩]; rfl
theorem childL_of {ks : List Node} {bs : List Nat} {i : Nat} {c : ChildC} (h : (childL ks bs)[i]? = some c) : ∃ k b, ks[i]? = some k ∧ bs[i]? = some b ∧ c = ⟨k.name, P_ b 0⟩ := by
  unfold childL at h
  rw [List.getElem?_map] at h
  obtain ⟨p, hp, rfl⟩ := Option.map_eq_some_iff.1 h
  obtain ⟨h1, h2⟩ := List.getElem?_zip_eq_some.1 hp
  exact ⟨p.1, p.2, h1, h2, rfl⟩
theorem childs_of {M : PMem} {a : Option Addr} {ks : List Node} {bs : List Nat} (h : SlA M 2 (byEnc ChildC.cells) a (childL ks bs)) (hp : PtrsIs M bs ks) : ChA M a ks := by
  rcases h with h | ⟨b, o, cs, el, fr, rfl, hm, hx⟩
  · left
    have := childL_len hp.1
    rw [h] at this
    exact List.eq_nil_of_length_eq_zero this.symm
  · refine .inr ⟨b, o, cs, el, fr, rfl, hm, fun i k hk => ?_⟩
    have hi : i < bs.length := by rw [hp.1]; exact (List.getElem?_eq_some_iff.1 hk).1
    have hb : bs[i]? = some bs[i] := List.getElem?_eq_getElem hi
    exact ⟨_, hx i _ (childL_at hb hk), hp.2 i _ k hb hk⟩
/-! ### A tree that may be absent -/
def OptAt (M : PMem) (v : Value) (ox : Option Node) : Prop := (ox = none ∧ v = .pointer none) ∨ ∃ b x, ox = some x ∧ v = P_ b 0 ∧ TreeAt M b x
theorem OptAt.le {M M' : PMem} {v : Value} {ox : Option Node} (h : OptAt M v ox) (hM : PMem.le M M') : OptAt M' v ox := by
  rcases h with h | ⟨b, x, h1, h2, h3⟩
  · exact .inl h
  · exact .inr ⟨b, x, h1, h2, h3.le hM⟩
def valO : Option Node → Val
  | none => Val.zero
  | some x => x.value
def kidsO : Option Node → List Node
  | none => []
  | some x => x.kids
def sizeO : Option Node → Nat
  | none => 0
  | some x => x.size
def wtO : Option Node → Nat
  | none => 0
  | some x => 1 + Node.wtL x.kids
theorem sizeO_kids (ox : Option Node) : Node.sizeL (kidsO ox) ≤ sizeO ox := by
  cases ox with
  | none => exact Nat.le_refl _
  | some x => have := Node.size_eq x; simp only [kidsO, sizeO]; omega
theorem sizeO_lt {ox : Option Node} (h : 0 < Node.sizeL (kidsO ox)) : Node.sizeL (kidsO ox) < sizeO ox := by
  cases ox with
  | none => exact absurd h (Nat.lt_irrefl _)
  | some x => have := Node.size_eq x; simp only [kidsO, sizeO] at h ⊢; omega
theorem wtO_lt {ox : Option Node} (h : 0 < Node.wtL (kidsO ox)) : Node.wtL (kidsO ox) < wtO ox := by
  cases ox with
  | none => exact absurd h (Nat.lt_irrefl _)
  | some x => simp only [kidsO, wtO] at h ⊢; omega
theorem sizeL_one {l : List Node} {x : Node} (h : l[0]? = some x) : Node.sizeL l = x.size + Node.sizeL (l.drop 1) := by
  cases l with
  | nil => simp at h
  | cons a r => simp at h; subst h; rfl
theorem wtL_one {l : List Node} {x : Node} (h : l[0]? = some x) : Node.wtL l = x.wt + Node.wtL (l.drop 1) := by
  cases l with
  | nil => simp at h
  | cons a r => simp at h; subst h; rfl
theorem size_pos (x : Node) : 0 < x.size := by have := Node.size_eq x; omega
theorem wtO_kids (ox : Option Node) : Node.wtL (kidsO ox) ≤ wtO ox := by
  cases ox with
  | none => exact Nat.le_refl _
  | some x => simp only [kidsO, wtO]; omega
mutual
/-- what differs: from x to y, at the path p -/
inductive DifR : Option Node → Option Node → Str → List Change → Prop
  | mk {ox oy : Option Node} {p : Str} {l : List Change} : DifsR (kidsO ox) (kidsO oy) p l → DifR ox oy p ((if valO ox = valO oy then [] else [⟨p, valO ox, valO oy⟩]) ++ l)
inductive DifsR : List Node → List Node → Str → List Change → Prop
  | nil {p : Str} : DifsR [] [] p []
  | left {x : Node} {xs ys : List Node} {p : Str} {l l' : List Change} : (∀ y, ys[0]? = some y → Op.bytesLess x.name y.name = true) → DifR (some x) none (belowP p x.name) l → DifsR xs ys p l' → DifsR (x :: xs) ys p (l ++ l')
  | right {y : Node} {xs ys : List Node} {p : Str} {l l' : List Change} : (∀ x, xs[0]? = some x → Op.bytesLess y.name x.name = true) → DifR none (some y) (belowP p y.name) l → DifsR xs ys p l' → DifsR xs (y :: ys) p (l ++ l')
  | both {x y : Node} {xs ys : List Node} {p : Str} {l l' : List Change} : Op.bytesLess x.name y.name = false → Op.bytesLess y.name x.name = false → DifR (some x) (some y) (belowP p y.name) l → DifsR xs ys p l' → DifsR (x :: xs) (y :: ys) p (l ++ l')
end
mutual
theorem DifR.len : ∀ {ox oy : Option Node} {p : Str} {l : List Change}, DifR ox oy p l → l.length ≤ sizeO ox + sizeO oy
  | ox, oy, p, _, .mk (l := l) h => by
    have h1 := h.len
    have h2 := sizeO_kids ox
    have h3 := sizeO_kids oy
    have h4 : (if valO ox = valO oy then [] else [(⟨p, valO ox, valO oy⟩ : Change)]).length ≤ sizeO ox + sizeO oy - (Node.sizeL (kidsO ox) + Node.sizeL (kidsO oy)) := by
      split
      · exact Nat.zero_le _
      · rename_i hne
        cases ox with
        | none =>
          cases oy with
          | none => exact absurd rfl hne
          | some y => have := Node.size_eq y; simp only [List.length_singleton, sizeO, kidsO, Node.sizeL] at h3 ⊢; omega
        | some x => have := Node.size_eq x; simp only [List.length_singleton, sizeO, kidsO] at h2 h3 ⊢; omega
    rw [List.length_append]; omega
theorem DifsR.len : ∀ {xs ys : List Node} {p : Str} {l : List Change}, DifsR xs ys p l → l.length ≤ Node.sizeL xs + Node.sizeL ys
  | _, _, _, _, .nil => Nat.zero_le _
  | _, _, _, _, .left _ h1 h2 => by
    have := h1.len; have := h2.len
    simp only [sizeO, Node.sizeL, List.length_append] at *; omega
  | _, _, _, _, .right _ h1 h2 => by
    have := h1.len; have := h2.len
    simp only [sizeO, Node.sizeL, List.length_append] at *; omega
  | _, _, _, _, .both _ _ h1 h2 => by
    have := h1.len; have := h2.len
    simp only [sizeO, Node.sizeL, List.length_append] at *; omega
end
theorem drop1_at {α : Type} {l : List α} {x : α} (h : l[0]? = some x) : l = x :: l.drop 1 := list_head h
end Go.Proofs.YtgmomhdammdjgaaGreat
