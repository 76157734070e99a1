/-
  Slices: those that nobody writes any more, those of one's own that are appended to. No condition: over any program.
-/
import Derived.Test.YtgmomhdammdjgaaGreatOpsC
set_option linter.unusedVariables false
set_option linter.unusedSimpArgs false
namespace Go.Proofs.YtgmomhdammdjgaaGreat
open Go Go.RowKit

/-- a slice that nobody writes any more: element i's cells stand in R to l's i-th -/
def Sl {α : Type} (M : PMem) (sz : Nat) (R : List Value → α → Prop) (v : Value) (l : List α) : Prop :=
  ∃ a c, v = .slice a l.length c ∧ l.length ≤ c ∧ (l = [] ∨ ∃ b o cs el fr, a = some ⟨b, o, none⟩ ∧ M b = some (.cells (List.toArray cs) el fr) ∧ ∀ i x, l[i]? = some x → R (chunk cs o sz i) x)
/-- by an encoding -/
def byEnc {α : Type} (enc : α → List Value) (cs : List Value) (x : α) : Prop := cs = enc x
abbrev StrsAt (M : PMem) (v : Value) (l : List Str) : Prop := Sl M 1 (byEnc fun s : Str => [S s]) v l
abbrev ChangesAt (M : PMem) (v : Value) (l : List Change) : Prop := Sl M 71 (byEnc Change.cells) v l
abbrev EntriesAt (M : PMem) (v : Value) (l : List Entry) : Prop := Sl M 40 (byEnc Entry.cells) v l
theorem Sl.mono {α : Type} {M M' : PMem} {sz : Nat} {R R' : List Value → α → Prop} {v : Value} {l : List α} (h : Sl M sz R v l) (hM : PMem.le M M') (hR : ∀ cs x, x ∈ l → R cs x → R' cs x) : Sl M' sz R' v l := by
  obtain ⟨a, c, hv, hc, h⟩ := h
  refine ⟨a, c, hv, hc, ?_⟩
  rcases h with h | ⟨b, o, cs, el, fr, ha, hb, hx⟩
  · exact .inl h
  · exact .inr ⟨b, o, cs, el, fr, ha, hM _ _ hb, fun i x hi => hR _ _ (List.mem_of_getElem? hi) (hx i x hi)⟩
theorem Sl.le {α : Type} {M M' : PMem} {sz : Nat} {R : List Value → α → Prop} {v : Value} {l : List α} (h : Sl M sz R v l) (hM : PMem.le M M') : Sl M' sz R v l := h.mono hM (fun _ _ _ h => h)
theorem Sl.nil {α : Type} (M : PMem) (sz : Nat) (R : List Value → α → Prop) : Sl M sz R (.slice none 0 0) [] := ⟨none, 0, rfl, Nat.le_refl _, .inl rfl⟩
/-- opened where there is an element -/
theorem Sl.open {α : Type} {M : PMem} {sz : Nat} {R : List Value → α → Prop} {a : Option Addr} {n c : Nat} {l : List α} (h : Sl M sz R (.slice a n c) l) :
    n = l.length ∧ n ≤ c ∧ (l = [] ∨ ∃ b o cs el fr, a = some ⟨b, o, none⟩ ∧ M b = some (.cells (List.toArray cs) el fr) ∧ ∀ i x, l[i]? = some x → R (chunk cs o sz i) x) := by
  obtain ⟨a', c', hv, hc, h⟩ := h
  injection hv with h1 h2 h3
  subst h1; subst h2; subst h3
  exact ⟨rfl, hc, h⟩
theorem chunk_at {cs : List Value} {o sz i k : Nat} (hk : k < sz) : (chunk cs o sz i)[k]? = cs[o + i * sz + k]? := by
  simp [chunk, hk]
/-- a cell of an element -/
theorem Rd.elem {P : Program} {t : Nat} {cs us : List Value} {o sz i k : Nat} {v : Value} (hc : chunk cs o sz i = us) (ha : ∀ w, (isAgg t).run P w = .ok false w) (hk : Nat.ble (k + 1) sz = true) (hv : us[k]? = some v) : Rd P t cs (o + i * sz + k) v :=
  Rd.one ha (by rw [← chunk_at (Nat.le_of_ble_eq_true hk), hc]; exact hv)
theorem Rd.elem0 {P : Program} {t : Nat} {cs us : List Value} {o sz i : Nat} {v : Value} (hc : chunk cs o sz i = us) (ha : ∀ w, (isAgg t).run P w = .ok false w) (hk : Nat.ble 1 sz = true) (hv : us[0]? = some v) : Rd P t cs (o + i * sz) v := by
  have := Rd.elem (P := P) (k := 0) hc ha hk hv
  exact this
/-- an element whole -/
theorem Rd.elemA {P : Program} {t : Nat} {dsc : TypeDesc} {cs us : List Value} {o sz i : Nat} (hc : chunk cs o sz i = us) (hu : P.underlying t = some dsc) (hd : dsc.isRow = true) (hi : (P.info? t).map (·.size) = some sz) (hn : us.length = sz) : Rd P t cs (o + i * sz) (.agg us.toArray) :=
  Rd.agg hu hd hi hc hn
/-- a part of an element -/
theorem Rd.elemP {P : Program} {t : Nat} {dsc : TypeDesc} {cs us vs : List Value} {o sz i k n : Nat} (hc : chunk cs o sz i = us) (hu : P.underlying t = some dsc) (hd : dsc.isRow = true) (hi : (P.info? t).map (·.size) = some n) (hkn : Nat.ble (k + n) sz = true) (hv : (us.drop k).take n = vs) (hn : vs.length = n) : Rd P t cs (o + i * sz + k) (.agg vs.toArray) :=
  Rd.agg hu hd hi (by
    have hle := Nat.le_of_ble_eq_true hkn
    rw [← hv, ← hc]
    simp only [chunk, List.drop_take, List.take_take, List.drop_drop]
    rw [Nat.min_eq_left (by omega)]) hn

/-- where a slice's elements stand -/
def SlA {α : Type} (M : PMem) (sz : Nat) (R : List Value → α → Prop) (a : Option Addr) (l : List α) : Prop :=
  l = [] ∨ ∃ b o cs el fr, a = some ⟨b, o, none⟩ ∧ M b = some (.cells (List.toArray cs) el fr) ∧ ∀ i x, l[i]? = some x → R (chunk cs o sz i) x
theorem Sl.op {α : Type} {M : PMem} {sz : Nat} {R : List Value → α → Prop} {v : Value} {l : List α} (h : Sl M sz R v l) : ∃ a c, v = .slice a l.length c ∧ l.length ≤ c ∧ SlA M sz R a l := h
theorem SlA.sl {α : Type} {M : PMem} {sz : Nat} {R : List Value → α → Prop} {a : Option Addr} {c : Nat} {l : List α} (h : SlA M sz R a l) (hc : l.length ≤ c) : Sl M sz R (.slice a l.length c) l := ⟨a, c, rfl, hc, h⟩
theorem SlA.mono {α : Type} {M M' : PMem} {sz : Nat} {R R' : List Value → α → Prop} {a : Option Addr} {l : List α} (h : SlA M sz R a l) (hM : PMem.le M M') (hR : ∀ cs x, x ∈ l → R cs x → R' cs x) : SlA M' sz R' a l := by
  rcases h with h | ⟨b, o, cs, el, fr, ha, hb, hx⟩
  · exact .inl h
  · exact .inr ⟨b, o, cs, el, fr, ha, hM _ _ hb, fun i x hi => hR _ _ (List.mem_of_getElem? hi) (hx i x hi)⟩
theorem SlA.le {α : Type} {M M' : PMem} {sz : Nat} {enc : α → List Value} {a : Option Addr} {l : List α} (h : SlA M sz (byEnc enc) a l) (hM : PMem.le M M') : SlA M' sz (byEnc enc) a l := h.mono hM (fun _ _ _ h => h)
theorem SlA.at {α : Type} {M : PMem} {sz : Nat} {R : List Value → α → Prop} {a : Option Addr} {l : List α} (h : SlA M sz R a l) {i : Nat} (hi : i < l.length) :
    ∃ b o cs el fr, a = some ⟨b, o, none⟩ ∧ M b = some (.cells (List.toArray cs) el fr) ∧ ∀ i x, l[i]? = some x → R (chunk cs o sz i) x := by
  rcases h with h | h
  · subst h; simp at hi
  · exact h
theorem SlA.take {α : Type} {M : PMem} {sz : Nat} {R : List Value → α → Prop} {a : Option Addr} {l : List α} (h : SlA M sz R a l) (n : Nat) : SlA M sz R a (l.take n) := by
  rcases h with h | ⟨b, o, cs, el, fr, ha, hb, hx⟩
  · subst h; exact .inl (by simp)
  · refine .inr ⟨b, o, cs, el, fr, ha, hb, fun i x hi => hx i x ?_⟩
    rw [List.getElem?_take] at hi
    split at hi
    · exact hi
    · cases hi
theorem SlA.drop {α : Type} {M : PMem} {sz : Nat} {R : List Value → α → Prop} {a : Option Addr} {l : List α} {c : Nat} (h : SlA M sz R a l) (hc : l.length ≤ c) (k : Nat) : SlA M sz R (if c = k then a else a.map (·.add (k * sz))) (l.drop k) := by
  by_cases hk : c = k
  · refine .inl ?_
    rw [List.drop_eq_nil_of_le]; omega
  · rw [if_neg hk]
    rcases h with h | ⟨b, o, cs, el, fr, ha, hb, hx⟩
    · subst h; exact .inl (by simp)
    · refine .inr ⟨b, o + k * sz, cs, el, fr, by rw [ha]; simp [add_none], hb, fun i x hi => ?_⟩
      have := hx (k + i) x (by simpa using hi)
      have e : chunk cs (o + k * sz) sz i = chunk cs o sz (k + i) := by
        simp only [chunk]; congr 2; rw [Nat.add_mul]; omega
      rw [e]; exact this
/-- l[:hi] -/
theorem D_sliceL0 {P : Program} {e : Env} {M : PMem} {H : List Res} {t el sz : Nat} {x : Operand} {hi : Option Operand} {ad : Option Addr} {n c m : Nat} (ht : P.underlying t = some (.slice el)) (hsz : ∀ w, (sizeOf el).run P w = .ok sz w) (hx : e.val x = some (.slice ad n c))
    (hhi : optInt e n hi = some (m : Int)) (h2 : m ≤ c) (hnc : n ≤ c) : Dv P e M H (.slice t x none hi none) (.slice ad m c) := by
  have := D_sliceL (P := P) (e := e) (M := M) (H := H) (lo := none) (a := 0) ht hsz hx rfl hhi (by omega) (by omega) (by omega) hnc
  have e1 : (if c = (0 : Int).toNat then ad else ad.map (·.add ((0 : Int).toNat * sz))) = ad := by
    have : (fun x : Addr => x.add (0 * sz)) = id := by
      funext x; simp [Addr.add]
    split
    · rfl
    · cases ad <;> simp [Addr.add]
  rw [e1] at this
  simpa using this
mutual
theorem NodeAt.le {M M' : PMem} (hM : PMem.le M M') : ∀ {cs : List Value} {n : Node}, NodeAt M cs n → NodeAt M' cs n
  | _, _, .mk hk => .mk (KidsAt.le hM hk)
theorem KidsAt.le {M M' : PMem} (hM : PMem.le M M') : ∀ {v : Value} {l : List Node}, KidsAt M v l → KidsAt M' v l
  | _, _, .none => .none
  | _, _, .some h1 h2 h3 h4 h5 => .some h1 h2 h3 (hM _ _ h4) (fun i k hi => NodeAt.le hM (h5 i k hi))
end
theorem NodeAt.open {M : PMem} {cs : List Value} {n : Node} (h : NodeAt M cs n) : ∃ ks, cs = NodeC.cells ⟨n.name, n.value, n.marks, ks⟩ ∧ KidsAt M ks n.kids := by
  cases h with
  | mk hk => exact ⟨_, rfl, hk⟩
theorem KidsAt.sl {M : PMem} {v : Value} {l : List Node} (h : KidsAt M v l) : ∃ a c, v = .slice a l.length c ∧ l.length ≤ c ∧ SlA M 41 (NodeAt M) a l := by
  cases h with
  | none => exact ⟨_, _, rfl, Nat.zero_le _, .inl rfl⟩
  | some h1 h2 h3 h4 h5 => exact ⟨_, _, by rw [h1], by rw [h1]; exact h3, .inr ⟨_, _, _, _, _, rfl, h4, h5⟩⟩
theorem KidsAt.of {M : PMem} {a : Option Addr} {c : Nat} {l : List Node} (h : SlA M 41 (NodeAt M) a l) (hc : l.length ≤ c) : KidsAt M (.slice a l.length c) l := by
  rcases h with h | ⟨b, o, cs, el, fr, rfl, hb, hx⟩
  · subst h; exact .none
  · cases l with
    | nil => exact .none
    | cons x l => exact .some rfl (by simp) hc hb hx
/-- an api.Node -/
abbrev NdA (M : PMem) (a : Option Addr) (l : List Node) : Prop := SlA M 41 (NodeAt M) a l
theorem NdA.le {M M' : PMem} {a : Option Addr} {l : List Node} (h : NdA M a l) (hM : PMem.le M M') : NdA M' a l := SlA.mono h hM (fun _ _ _ h => h.le hM)
theorem Has.le {M M' : PMem} {b : Nat} {o : Obj} (h : M b = some o) (hM : PMem.le M M') : M' b = some o := hM _ _ h

/-! ### Rows of one's own -/
section
variable {P : Program} {Γ : Cx} {dl : List Deferred} {f : Then} {e : Env} {M : PMem} {H : List Res} {K : Kont} {d ty : Nat} {pos : String} {af : Array Edge} {g : Option (Nat × Bool)}
/-- a nil slice, to be appended to -/
theorem R_row0 (el sz : Nat) (h : Γ.R dl f e M (.row (.slice none 0 0) el sz 0 [] :: H)) : Γ.R dl f e M H := fun a w hk hd hs =>
  h a w hk hd ⟨hs.kept, hs.sub, hs.mem, hs.new, fun r hr => by
    rcases List.mem_cons.1 hr with rfl | hr
    · exact ⟨by simp, .inl ⟨rfl, rfl⟩⟩
    · exact hs.own r hr, fun r hr b hb => by
    rcases List.mem_cons.1 hr with rfl | hr
    · simp [Res.fp, Value.ownBlock] at hb
    · exact hs.free r hr b hb, List.Pairwise.cons (fun r hr b hb => by simp [Res.fp, Value.ownBlock] at hb) hs.apart⟩
/-- a block just laid, as a row -/
theorem R_rowblk {b el : Nat} {cs : List Value} (sz n : Nat) (hn : cs.length = n * sz) (hm : n ≤ maxLen) (h : Γ.R dl f e M (.row (.slice (some ⟨b, 0, none⟩) n n) el sz n cs :: H)) : Γ.R dl f e M (.blk b (.cells cs.toArray el) :: H) := fun a w hk hd hs =>
  h a w hk hd ⟨hs.kept, hs.sub, hs.mem, hs.new, fun r hr => by
    rcases List.mem_cons.1 hr with rfl | hr
    · exact ⟨hn, .inr ⟨b, n, cs.toArray, rfl, Nat.zero_le _, hs.own _ (List.mem_cons_self), Nat.le_refl _, hm, by simpa using hn, by simp [← hn]⟩⟩
    · exact hs.own r (List.mem_cons_of_mem _ hr), fun r hr k hb => by
    rcases List.mem_cons.1 hr with rfl | hr
    · exact hs.free _ (List.mem_cons_self) k hb
    · exact hs.free r (List.mem_cons_of_mem _ hr) k hb, by
    obtain ⟨h1, h2⟩ := List.pairwise_cons.1 hs.apart
    exact List.Pairwise.cons (fun r hr k hb => h1 r hr k hb) h2⟩
/-- what a row that is written no more is -/
def RowIn (M : PMem) (v : Value) (el sz n : Nat) (xs : List Value) : Prop :=
  xs.length = n * sz ∧ ((v = .slice none 0 0 ∧ n = 0) ∨ ∃ g cap cs, v = .slice (some ⟨g, 0, none⟩) n cap ∧ M g = some (.cells (List.toArray cs) el) ∧ n ≤ cap ∧ cap ≤ maxLen ∧ cs.length = cap * sz ∧ cs.take (n * sz) = xs)
theorem R_freezeRow {v : Value} {el sz n : Nat} {xs : List Value} (h : ∀ M', PMem.le M M' → RowIn M' v el sz n xs → Γ.R dl f e M' H) : Γ.R dl f e M (.row v el sz n xs :: H) := fun a w hk hd hs => by
  obtain ⟨h1, h2⟩ := hs.own _ (List.mem_cons_self)
  rcases h2 with ⟨rfl, rfl⟩ | ⟨gb, cap, cur, rfl, _, hg, hnc, hcm, hcs, ht⟩
  · exact h M (PMem.le_refl _) ⟨h1, .inl ⟨rfl, rfl⟩⟩ a w hk hd (hs.drop (List.sublist_cons_self _ _))
  · have hb : St Γ.w0 Γ.X Γ.M0 M (.blk gb (.cells cur el) :: H) w := ⟨hs.kept, hs.sub, hs.mem, hs.new, fun r hr => by
        rcases List.mem_cons.1 hr with rfl | hr
        · exact hg
        · exact hs.own r (List.mem_cons_of_mem _ hr), fun r hr k hb => by
        rcases List.mem_cons.1 hr with rfl | hr
        · exact hs.free _ (List.mem_cons_self) k hb
        · exact hs.free r (List.mem_cons_of_mem _ hr) k hb, by
        obtain ⟨h1, h2⟩ := List.pairwise_cons.1 hs.apart
        exact List.Pairwise.cons (fun r hr k hb => h1 r hr k hb) h2⟩
    refine h _ hb.freeze_add ⟨h1, .inr ⟨gb, cap, cur.toList, rfl, by simp [PMem.add], hnc, hcm, by simpa using hcs, ht⟩⟩ a w hk hd hb.freeze
/-- append's row lies where it lay, or in a new block -/
theorem append_where {t ty el sz bytes : Nat} {i0 : TypeInfo} {z v : Value} {n m c : Nat} {xs news : List Value} {ad : Addr} {w w' : World} {v' : Value}
    (h1 : P.underlying t = some (.slice el)) (h2 : P.info? el = some i0) (h3 : i0.zero = some z) (h4 : i0.size = sz) (h5 : i0.bytes = bytes) (h6 : z.cells.size = sz) (h7 : 0 < sz)
    (hown : w.ownsRow 0 el sz v n xs) (hl : news.length = m * sz) (hnews : ∀ j u, news[j]? = some u → w.cell? (ad.add j) = some u) (h1c : ∀ u ∈ news, u.oneCell' = true) (b1 : n + m ≤ maxLen) (b2 : (n + m) * bytes ≤ 140737488355328)
    (hrun : (Builtin.append_ #[t, t] ty #[v, .slice (some ad) m c]).run P w = .ok v' w') : (∀ b, v'.ownBlock = some b → v.ownBlock = some b ∨ w.heap.size ≤ b) ∧ w.drawn ≤ w'.drawn := by
  rcases hown.2 with ⟨rfl, rfl⟩ | ⟨g0, cap0, cur0, rfl, _, hg0, hnc, hcm, hcs, htk⟩
  · have hx : xs = [] := List.eq_nil_of_length_eq_zero (by simpa using hown.1)
    subst hx
    refine ⟨fun b hb => ?_, ?_⟩
    · obtain ⟨v2, w2, hrun2, r1, _, _⟩ := run_append_own (P := P) w w.heap.size t ty el i0 z sz bytes h1 h2 h3 h4 h5 h6 h7 (.slice none 0 0) 0 [] (World.ownsRow_nil w _ el sz) ad m c news hl hnews h1c b1 b2 (Nat.le_refl _)
      rw [hrun] at hrun2
      injection hrun2 with e1 e2
      subst e1; subst e2
      exact .inr (World.ownsRow.lt r1 b hb).1
    · by_cases hm : 0 < m
      · subst h4
        subst h5
        have hr := run_append_nil (P := P) w t ty el i0 z h1 h2 h3 ad m c news hl hnews hm (by simp only [maxLen] at b1; omega) (by simp only [Nat.zero_add] at b2; omega)
        rw [hrun] at hr
        injection hr with e1 e2
        rw [e2]
        exact Nat.le_succ _
      · obtain rfl : m = 0 := by omega
        have hz : (Builtin.append_ #[t, t] ty #[.slice none 0 0, .slice (some ad) 0 c]).run P w = .ok (.slice none 0 0) w := by
          simp [Builtin.append_, run_underlying h1, sizeOf, typeInfo, h2, Builtin.lenOf, Builtin.firstCells, loadCells, loadCellsFrom, storeCells]
        rw [hrun] at hz
        injection hz with e1 e2
        rw [e2]; exact Nat.le_refl _
  · by_cases hroom : n + m ≤ cap0
    · subst h4
      have hr := run_append_room (P := P) w t ty el i0 h1 h2 g0 n cap0 cur0 hg0 ad m c news hl hnews h1c hroom (by rw [hcs, hl, ← Nat.add_mul]; exact Nat.mul_le_mul_right _ hroom)
      rw [hrun] at hr
      injection hr with e1 e2
      subst e1
      refine ⟨fun b hb => ?_, by rw [e2]; exact Nat.le_refl _⟩
      simp only [Value.ownBlock, Option.some.injEq] at hb ⊢
      exact .inl hb
    · subst h4
      subst h5
      have holds : ∀ j u, xs[j]? = some u → w.cell? ((⟨g0, 0, none⟩ : Addr).add j) = some u := hown.cells (g := g0) rfl
      have hr := run_append_grow (P := P) w t ty el i0 z h1 h2 h3 ⟨g0, 0, none⟩ n cap0 xs hown.1 holds ad m c news hl hnews (by omega) (by simp only [maxLen] at b1; omega) (growslice_fits (by omega) b2)
      rw [hrun] at hr
      injection hr with e1 e2
      subst e1
      refine ⟨fun b hb => ?_, by rw [e2]; exact Nat.le_succ _⟩
      simp only [Value.ownBlock, Option.some.injEq] at hb
      exact .inr (by omega)
/-- what append asks of an element's type -/
def ElemOk (P : Program) (el sz bytes : Nat) : Prop := ∃ i0 z, P.info? el = some i0 ∧ i0.zero = some z ∧ i0.size = sz ∧ i0.bytes = bytes ∧ z.cells.size = sz ∧ 0 < sz
theorem ElemOk.mk' {P : Program} {el sz bytes : Nat} (h : (P.info? el).map (fun i => (i.zero.map (·.cells.size), i.size, i.bytes)) = some (some sz, sz, bytes)) (h0 : 0 < sz) : ElemOk P el sz bytes := by
  cases hi : P.info? el with
  | none => simp [hi] at h
  | some i0 =>
    simp only [hi, Option.map_some, Option.some.injEq, Prod.mk.injEq] at h
    obtain ⟨h1, h2, h3⟩ := h
    cases hz : i0.zero with
    | none => simp [hz] at h1
    | some z => exact ⟨i0, z, hi, hz, h2, h3, by simpa [hz] using h1, h0⟩
/-- append: to a row of one's own, from a block that is known -/
theorem E_append {s x : Operand} {t el sz bytes : Nat} {v : Value} {n bx ox m c : Nat} {elx : Nat} {fr : Nat × Nat} {xs cs news : List Value} (i : Nat)
    (h1 : Γ.P.underlying t = some (.slice el)) (hE : ElemOk Γ.P el sz bytes)
    (hs : e.val s = some v) (hx : e.val x = some (.slice (some ⟨bx, ox, none⟩) m c)) (hrow : H[i]? = some (.row v el sz n xs)) (hsrc : Has M H bx (.cells cs.toArray elx fr)) (hn : (cs.drop ox).take (m * sz) = news) (hl : news.length = m * sz) (h1c : ∀ u ∈ news, u.oneCell' = true)
    (b1 : n + m ≤ maxLen) (b2 : (n + m) * bytes ≤ 140737488355328)
    (k : ∀ v', v'.oneCell' = true → Γ.R dl f ((d, v') :: e) M (H.set i (.row v' el sz (n + m) (xs ++ news)))) (hdn : Nat.ble (d + 1) Γ.n = true := by rfl) :
    Γ.R dl (Γ.op ⟨some d, .call ⟨.builtin .append, #[s, x], #[t, t]⟩, ty, pos, af, g⟩ f K) e M H :=
  E_val hdn (fun _ h => by cases h) fun a w hk hst => by
    obtain ⟨i0, z, h2, h3, h4, h5, h6, h7⟩ := hE
    have hown : w.ownsRow 0 el sz v n xs := hst.own _ (List.mem_of_getElem? hrow)
    have hb := hsrc.at hst.cls
    obtain ⟨v', w', hrun, r1, r2, r3⟩ := run_append_own (P := Γ.P) w 0 t ty el i0 z sz bytes h1 h2 h3 h4 h5 h6 h7 v n xs hown ⟨bx, ox, none⟩ m c news hl
      (fun j u hj => by
        rw [add_none, cell_of_row w bx (ox + j) _ elx fr hb]
        rw [← hn, List.getElem?_take] at hj
        split at hj
        · simpa using hj
        · cases hj) h1c b1 b2 (Nat.zero_le _)
    have hw := append_where (P := Γ.P) h1 h2 h3 h4 h5 h6 h7 hown hl (fun j u hj => (by
      rw [add_none, cell_of_row w bx (ox + j) _ elx fr hb]
      rw [← hn, List.getElem?_take] at hj
      split at hj
      · simpa using hj
      · cases hj)) h1c b1 b2 hrun
    refine ⟨v', w', M, _, ?_, hst.turn hrow (.row v' el sz (n + m) (xs ++ news)) r2 hw.2 r1 hw.1, k v' (by
      rcases r1.2 with ⟨rfl, _⟩ | ⟨g, cap, cur, rfl, _⟩ <;> rfl)⟩
    simp [execOp, resolve, invoke, builtin, hk.eval hs, hk.eval hx, hrun]
end
end Go.Proofs.YtgmomhdammdjgaaGreat
