/-
  How the form's reading of an argument becomes memory that lies: ints, texts, structs, arrays, slices; api.Value, api.Mark, api.Change, api.Node. Condition: the form's own reach.
-/
import Derived.Test.YtgmomhdammdjgaaGreatLawD
import Derived.SizedLaws
import Derived.OpenShut
set_option linter.unusedVariables false
set_option linter.unusedSimpArgs false
namespace Go.Proofs.YtgmomhdammdjgaaGreat
open Go Go.Proofs Go.RowKit

theorem piece_drop {cs a : List Value} {o n : Nat} (h : (cs.drop o).take n = a) : cs.drop o = a ++ cs.drop (o + n) := by
  rw [← h, ← List.drop_drop, List.take_append_drop]
theorem all_u8 : ∀ {cs : List Value}, (∀ u ∈ cs, ∃ c : UInt8, u = U8 c) → ∃ l : List UInt8, cs = l.map U8
  | [], _ => ⟨[], rfl⟩
  | u :: cs, h => by
    obtain ⟨c, rfl⟩ := h u List.mem_cons_self
    obtain ⟨l, rfl⟩ := all_u8 (cs := cs) fun v hv => h v (List.mem_cons_of_mem _ hv)
    exact ⟨c :: l, rfl⟩
theorem sum_of {l : List UInt8} (h : l.length = 32) : ∃ s : Sum32, sumCells s = l.map U8 := by
  refine ⟨⟨l.toArray, by simpa using h⟩, ?_⟩
  apply List.ext_getElem?
  intro i
  by_cases hi : i < 32
  · rw [sumCells_at _ i hi, List.getElem?_map, List.getElem?_eq_getElem (by omega)]
    simp
  · rw [List.getElem?_eq_none (by rw [sumCells_len]; omega), List.getElem?_eq_none (by rw [List.length_map]; omega)]
theorem choose_list {α : Type} (R : Nat → α → Prop) : ∀ n, (∀ i, i < n → ∃ k, R i k) → ∃ l : List α, l.length = n ∧ ∀ i k, l[i]? = some k → R i k
  | 0, _ => ⟨[], rfl, fun i k h => by simp at h⟩
  | n + 1, h => by
    obtain ⟨l, h1, h2⟩ := choose_list R n fun i hi => h i (by omega)
    obtain ⟨k, hk⟩ := h n (by omega)
    refine ⟨l ++ [k], by simp [h1], fun i q hq => ?_⟩
    by_cases hi : i < l.length
    · rw [List.getElem?_append_left hi] at hq; exact h2 i q hq
    · rw [List.getElem?_append_right (by omega)] at hq
      have e : i - l.length = 0 := by
        rcases Nat.eq_zero_or_pos (i - l.length) with e | e
        · exact e
        · rw [List.getElem?_eq_none (by simp; omega)] at hq; cases hq
      rw [e] at hq
      simp only [List.getElem?_cons_zero, Option.some.injEq] at hq
      subst hq
      rw [show i = n by omega]; exact hk
theorem cells_chunk {w : World} {ad : Addr} {n : Nat} {c : List Value} (h : w.cells? 0 ad n = some c) (hn : 0 < n) : ∃ arr t fr, w.heap[ad.block]? = some (.cells arr t fr) ∧ ad.spot = none ∧ c = (arr.toList.drop ad.off).take n := by
  unfold World.cells? at h
  rw [if_pos (Nat.zero_le _)] at h
  have hlen : c.length = n := by simpa using mapM_some_length h
  have hget : ∀ i, i < n → w.cell? (ad.add i) = c[i]? := fun i hi => mapM_some_get h i i (by simp [hi])
  have h0 := hget 0 hn
  rw [List.getElem?_eq_getElem (by omega)] at h0
  have ea : ad.add 0 = ad := by simp [Addr.add]
  rw [ea] at h0
  unfold World.cell? at h0
  split at h0
  · rename_i arr t fr hb
    have hsp : ad.spot = none := by
      cases hq : ad.spot with
      | none => rfl
      | some _ => rw [hq] at h0; simp at h0
    refine ⟨arr, t, fr, hb, hsp, ?_⟩
    have hat : ∀ i, i < n → arr.toList[ad.off + i]? = c[i]? := fun i hi => by
      rw [← hget i hi]
      have e1 : (ad.add i).block = ad.block ∧ (ad.add i).off = ad.off + i ∧ (ad.add i).spot = none := by
        unfold Addr.add; split
        · subst_vars; exact ⟨rfl, rfl, hsp⟩
        · exact ⟨rfl, rfl, rfl⟩
      simp [World.cell?, e1, hb]
    apply List.ext_getElem?
    intro i
    by_cases hi : i < n
    · rw [← hat i hi, List.getElem?_take, if_pos hi, List.getElem?_drop]
    · rw [List.getElem?_eq_none (by omega), List.getElem?_eq_none (by simp; omega)]
  · cases h0

section
variable {H : Type} {enc : TypeId × Value → H} {P : Program} {w : World} {sp : Nat → Bool} {held : Bool}
theorem weightsAll_mem {e : TypeId} : ∀ {ds : List (DataW H)} {d : DataW H}, d ∈ ds → ∀ n ∈ d.weights P e, n ∈ DataW.weightsAll P e ds
  | d0 :: ds, d, hd, n, hn => by
    simp only [DataW.weightsAll, List.mem_append]
    rcases List.mem_cons.1 hd with rfl | hd
    · exact .inl hn
    · exact .inr (weightsAll_mem hd n hn)
theorem rd_int {t fuel : Nat} {cs : List Value} {x : DataW H × List MemPlace} (ht : P.underlying t = some (.int .i64)) (h : DataW.trod enc P w 0 sp held fuel t cs = some x) : ∃ n, cs = [I n] := by
  obtain ⟨n, hn, _⟩ := DataW.trod_int ht h
  exact ⟨n, hn⟩
theorem rd_str {t fuel : Nat} {cs : List Value} {x : DataW H × List MemPlace} (ht : P.underlying t = some .string) (h : DataW.trod enc P w 0 sp held fuel t cs = some x) (hw : ∀ n ∈ x.1.weights P t, n ≤ reachBytes) :
    ∃ s : Str, cs = [S s] ∧ s.length ≤ 4611686018427387904 := by
  obtain ⟨s, rfl, rfl, _⟩ := DataW.trod_string ht h
  refine ⟨s.data.toList, by simp [S], ?_⟩
  have := hw s.data.toList.length (by simp [DataW.weights])
  unfold reachBytes at this
  omega
theorem rd_field {t fuel : Nat} {fs : Array Field} {cs : List Value} {x : DataW H × List MemPlace} (ht : P.underlying t = some (.struct fs)) (h : DataW.trod enc P w 0 sp held fuel t cs = some x) : cs.length = P.cellsOf t ∧
    ∃ m, fuel = m + 1 ∧ ∀ (i : Nat) (f : Field), fs[i]? = some f → ∃ y, DataW.trod enc P w 0 sp held m f.type ((cs.drop f.offset).take (P.cellsOf f.type)) = some y ∧ ∀ n ∈ y.1.weights P f.type, n ∈ x.1.weights P t := by
  obtain ⟨xs, m, hm, rfl, hl, hlen, hf⟩ := DataW.trod_struct ht h
  refine ⟨hl, m, hm, fun i f hi => ?_⟩
  have hi2 : i < xs.length := by rw [hlen]; exact (Array.getElem?_eq_some_iff.1 hi).1
  refine ⟨xs[i], by rw [hf i f hi, List.getElem?_eq_getElem hi2], fun n hn => ?_⟩
  have hfl : (fs.toList.map (·.type))[i]? = some f.type := by simp [hi]
  have hxl : (xs.map (·.1))[i]? = some xs[i].1 := by simp [hi2]
  simp only [DataW.weights, ht]
  exact DataW.weights_mem_each hfl hxl n hn
theorem rd_sum {t u fuel : Nat} {cs : List Value} {x : DataW H × List MemPlace} (ht : P.underlying t = some (.array 32 u)) (hu : P.underlying u = some (.int .u8)) (hc : P.cellsOf u = 1) (hct : P.cellsOf t = 32)
    (h : DataW.trod enc P w 0 sp held fuel t cs = some x) : ∃ s : Sum32, cs = sumCells s := by
  obtain ⟨xs, m, _, _, hl, hlen, hf⟩ := DataW.trod_array ht h
  have : ∀ v ∈ cs, ∃ c : UInt8, v = U8 c := fun v hv => by
    obtain ⟨i, hi, rfl⟩ := List.getElem_of_mem hv
    have h1 := hf i (by omega)
    rw [List.getElem?_eq_getElem (by omega), hc, Nat.mul_one] at h1
    obtain ⟨n, hn, _, hwf⟩ := DataW.trod_int hu h1
    have h2 := congrArg (fun l => l[0]?) hn
    simp only [List.getElem?_take, List.getElem?_drop, Nat.add_zero, Nat.zero_lt_one, if_true, List.getElem?_cons_zero, List.getElem?_eq_getElem hi, Option.some.injEq] at h2
    obtain ⟨b1, b2⟩ := bounds_u8 hwf
    refine ⟨UInt8.ofNat n.toNat, ?_⟩
    rw [h2]
    have : (UInt8.ofNat n.toNat).toNat = n.toNat := by simp; omega
    show Value.int .u8 n = Value.int .u8 ((UInt8.ofNat n.toNat).toNat : Int)
    rw [this]; congr 1; omega
  obtain ⟨l, rfl⟩ := all_u8 this
  obtain ⟨s, hs⟩ := sum_of (l := l) (by rw [← hct, ← hl]; simp)
  exact ⟨s, hs.symm⟩
theorem len1 {cs : List Value} {n : Nat} {l : List Value} (h : cs.length = n) (hl : l.length = n) (hd : cs = l ++ cs.drop n) : cs = l := by
  rw [hd, List.drop_eq_nil_of_le (by omega), List.append_nil]
/-- api.Value's types -/
structure ValTy (P : Program) (t : Nat) : Prop where
  ex : ∃ (a b c d u : Nat) (n0 n1 n2 n3 : Field), P.underlying t = some (.struct #[n0, n1, n2, n3]) ∧ P.cellsOf t = 35 ∧ n0.type = a ∧ n1.type = b ∧ n2.type = c ∧ n3.type = d ∧ n0.offset = 0 ∧ n1.offset = 1 ∧ n2.offset = 2 ∧ n3.offset = 3 ∧
    P.underlying a = some (.int .i64) ∧ P.underlying b = some (.int .i64) ∧ P.underlying c = some (.int .i64) ∧ P.cellsOf a = 1 ∧ P.cellsOf b = 1 ∧ P.cellsOf c = 1 ∧ P.underlying d = some (.array 32 u) ∧ P.underlying u = some (.int .u8) ∧ P.cellsOf u = 1 ∧ P.cellsOf d = 32
theorem rd_val {t fuel : Nat} {cs : List Value} {x : DataW H × List MemPlace} (hT : ValTy P t) (h : DataW.trod enc P w 0 sp held fuel t cs = some x) : ∃ v : Val, cs = v.cells := by
  obtain ⟨a, b, c, d, u, n0, n1, n2, n3, ht, hc, rfl, rfl, rfl, rfl, o0, o1, o2, o3, u0, u1, u2, c0, c1, c2, u3, uu, cu, c3⟩ := hT.ex
  obtain ⟨hl, m, _, hf⟩ := rd_field ht h
  obtain ⟨y0, h0, _⟩ := hf 0 n0 rfl
  obtain ⟨y1, h1, _⟩ := hf 1 n1 rfl
  obtain ⟨y2, h2, _⟩ := hf 2 n2 rfl
  obtain ⟨y3, h3, _⟩ := hf 3 n3 rfl
  rw [o0, c0] at h0; rw [o1, c1] at h1; rw [o2, c2] at h2; rw [o3, c3] at h3
  obtain ⟨k0, e0⟩ := rd_int u0 h0
  obtain ⟨k1, e1⟩ := rd_int u1 h1
  obtain ⟨k2, e2⟩ := rd_int u2 h2
  obtain ⟨s, e3⟩ := rd_sum u3 uu cu c3 h3
  refine ⟨⟨k0, k1, k2, s⟩, ?_⟩
  have g0 := piece_drop e0
  rw [piece_drop e1, piece_drop e2, piece_drop e3, List.drop_zero] at g0
  rw [g0, List.drop_eq_nil_of_le (by omega)]
  simp [Val.cells]
/-- api.Mark's types -/
structure MarkTy (P : Program) (t : Nat) : Prop where
  ex : ∃ (n0 n1 : Field), P.underlying t = some (.struct #[n0, n1]) ∧ P.cellsOf t = 2 ∧ n0.offset = 0 ∧ n1.offset = 1 ∧ P.underlying n0.type = some (.int .i64) ∧ P.underlying n1.type = some (.int .i64) ∧ P.cellsOf n0.type = 1 ∧ P.cellsOf n1.type = 1
theorem rd_mark {t fuel : Nat} {cs : List Value} {x : DataW H × List MemPlace} (hT : MarkTy P t) (h : DataW.trod enc P w 0 sp held fuel t cs = some x) : ∃ v : Mark, cs = v.cells := by
  obtain ⟨n0, n1, ht, hc, o0, o1, u0, u1, c0, c1⟩ := hT.ex
  obtain ⟨hl, m, _, hf⟩ := rd_field ht h
  obtain ⟨y0, h0, _⟩ := hf 0 n0 rfl
  obtain ⟨y1, h1, _⟩ := hf 1 n1 rfl
  rw [o0, c0] at h0; rw [o1, c1] at h1
  obtain ⟨k0, e0⟩ := rd_int u0 h0
  obtain ⟨k1, e1⟩ := rd_int u1 h1
  refine ⟨⟨k0, k1⟩, ?_⟩
  have g0 := piece_drop e0
  rw [piece_drop e1, List.drop_zero] at g0
  rw [g0, List.drop_eq_nil_of_le (by omega)]
  simp [Mark.cells]
structure MarksTy (P : Program) (t : Nat) : Prop where
  ex : ∃ u, P.underlying t = some (.array 2 u) ∧ P.cellsOf t = 4 ∧ P.cellsOf u = 2 ∧ MarkTy P u
theorem rd_marks {t fuel : Nat} {cs : List Value} {x : DataW H × List MemPlace} (hT : MarksTy P t) (h : DataW.trod enc P w 0 sp held fuel t cs = some x) : ∃ v : Marks, cs = v.cells := by
  obtain ⟨u, ht, hc, hcu, hu⟩ := hT.ex
  obtain ⟨xs, m, _, _, hl, hlen, hf⟩ := DataW.trod_array ht h
  have h0 := hf 0 (by omega)
  have h1 := hf 1 (by omega)
  rw [List.getElem?_eq_getElem (by omega), hcu] at h0 h1
  obtain ⟨a, e0⟩ := rd_mark hu h0
  obtain ⟨b, e1⟩ := rd_mark hu h1
  refine ⟨⟨a, b⟩, ?_⟩
  have g0 := piece_drop e0
  rw [Nat.zero_mul, Nat.zero_add, show (2 : Nat) = 1 * 2 from rfl, piece_drop e1, List.drop_zero] at g0
  rw [g0, List.drop_eq_nil_of_le (by omega)]
  simp [Marks.cells, Mark.cells]
/-- api.Change's types -/
structure ChangeTy (P : Program) (t : Nat) : Prop where
  ex : ∃ (n0 n1 n2 : Field), P.underlying t = some (.struct #[n0, n1, n2]) ∧ P.cellsOf t = 71 ∧ n0.offset = 0 ∧ n1.offset = 1 ∧ n2.offset = 36 ∧ P.underlying n0.type = some .string ∧ P.cellsOf n0.type = 1 ∧ ValTy P n1.type ∧ P.cellsOf n1.type = 35 ∧ ValTy P n2.type ∧ P.cellsOf n2.type = 35
theorem rd_change {t fuel : Nat} {cs : List Value} {x : DataW H × List MemPlace} (hT : ChangeTy P t) (h : DataW.trod enc P w 0 sp held fuel t cs = some x) (hw : ∀ n ∈ x.1.weights P t, n ≤ reachBytes) : ∃ c : Change, cs = c.cells ∧ c.path.length ≤ 4611686018427387904 := by
  obtain ⟨n0, n1, n2, ht, hc, o0, o1, o2, u0, c0, u1, c1, u2, c2⟩ := hT.ex
  obtain ⟨hl, m, _, hf⟩ := rd_field ht h
  obtain ⟨y0, h0, w0⟩ := hf 0 n0 rfl
  obtain ⟨y1, h1, _⟩ := hf 1 n1 rfl
  obtain ⟨y2, h2, _⟩ := hf 2 n2 rfl
  rw [o0, c0] at h0; rw [o1, c1] at h1; rw [o2, c2] at h2
  obtain ⟨s, e0, hs⟩ := rd_str u0 h0 fun n hn => hw n (w0 n hn)
  obtain ⟨v1, e1⟩ := rd_val u1 h1
  obtain ⟨v2, e2⟩ := rd_val u2 h2
  refine ⟨⟨s, v1, v2⟩, ?_, hs⟩
  have g0 := piece_drop e0
  rw [piece_drop e1, piece_drop e2, List.drop_zero] at g0
  rw [g0, List.drop_eq_nil_of_le (by omega)]
  simp [Change.cells]
/-- a world's memory, as it lies -/
def memOf (w : World) : PMem := fun b => w.heap[b]?
theorem lies_of (w : World) : Lies (memOf w) w := fun _ _ h => h
/-- a slice, read: its elements, each in its cells -/
theorem rd_slice {α : Type} {t e sz fuel : Nat} {cs : List Value} {x : DataW H × List MemPlace} (R : List Value → α → Prop) (ht : P.underlying t = some (.slice e)) (hsz : P.cellsOf e = sz) (hpos : 0 < sz) (hb : 0 < P.bytesOf e)
    (h : DataW.trod enc P w 0 (fun _ => true) held fuel t cs = some x) (hw : ∀ n ∈ x.1.weights P t, n ≤ reachBytes)
    (hR : ∀ m c y, m < fuel → DataW.trod enc P w 0 (fun _ => true) held m e c = some y → (∀ n ∈ y.1.weights P e, n ≤ reachBytes) → ∃ k, R c k) :
    ∃ (a : Option Addr) (c : Nat) (l : List α), cs = [.slice a l.length c] ∧ l.length ≤ c ∧ l.length ≤ 4611686018427387904 ∧ SlA (memOf w) sz R a l := by
  rcases DataW.trod_slice ht h with ⟨rfl, _⟩ | ⟨ad, len, cap, elems, rest, m, hm, rfl, hx, _, hlc, hcm, hel, hat, hre, _⟩
  · exact ⟨none, 0, [], rfl, Nat.le_refl _, Nat.zero_le _, .inl rfl⟩
  · have hx1 : x.1 = .slice (elems.map (·.1)) (rest.map (·.1)) := by rw [hx]
    have hlen : len ≤ 4611686018427387904 := by
      have := hw ((elems.length + rest.length) * P.bytesOf e) (by rw [hx1]; simp [DataW.weights, ht])
      have h2 : elems.length * 1 ≤ (elems.length + rest.length) * P.bytesOf e := Nat.mul_le_mul (by omega) hb
      unfold reachBytes at this
      omega
    rw [hsz] at hat
    have hc : ∀ i, i < len → ∃ c y, w.cells? 0 (ad.add (i * sz)) sz = some c ∧ DataW.trod enc P w 0 (fun _ => true) held m e c = some y ∧ ∀ n ∈ y.1.weights P e, n ≤ reachBytes := fun i hi => by
      have h1 := hat i hi
      rw [List.getElem?_eq_getElem (by omega)] at h1
      obtain ⟨c, hc1, hc2⟩ := Option.bind_eq_some_iff.1 h1
      refine ⟨c, _, hc1, hc2, fun n hn => hw n ?_⟩
      rw [hx1]
      simp only [DataW.weights, ht, List.mem_cons, List.mem_append]
      refine .inr (.inl (weightsAll_mem (List.mem_map_of_mem (List.getElem_mem (by omega))) n hn))
    by_cases h0 : len = 0
    · subst h0
      exact ⟨some ad, cap, [], rfl, Nat.zero_le _, Nat.zero_le _, .inl rfl⟩
    obtain ⟨c0, y0, hc0, _, _⟩ := hc 0 (by omega)
    rw [Nat.zero_mul, show ad.add 0 = ad by simp [Addr.add]] at hc0
    obtain ⟨arr, el, fr, hblk, hspot, _⟩ := cells_chunk hc0 hpos
    obtain ⟨l, hl1, hl2⟩ := choose_list (fun i k => R (chunk arr.toList ad.off sz i) k) len fun i hi => by
      obtain ⟨c, y, h1, h2, h3⟩ := hc i hi
      obtain ⟨arr', el', fr', hb', _, hcc⟩ := cells_chunk h1 hpos
      have e1 : (ad.add (i * sz)).block = ad.block ∧ (ad.add (i * sz)).off = ad.off + i * sz := by
        unfold Addr.add; split
        · rename_i hz; rw [hz]; exact ⟨rfl, rfl⟩
        · exact ⟨rfl, rfl⟩
      rw [e1.1, hblk] at hb'
      cases hb'
      rw [e1.2] at hcc
      obtain ⟨k, hk⟩ := hR m c y (by omega) h2 h3
      exact ⟨k, by rw [hcc] at hk; exact hk⟩
    obtain ⟨bk, off, spot⟩ := ad
    simp only at hspot
    subst hspot
    exact ⟨some ⟨bk, off, none⟩, cap, l, by rw [hl1], by omega, by omega, .inr ⟨bk, off, arr.toList, el, fr, rfl, by simpa [memOf] using hblk, hl2⟩⟩
/-- api.Node's types -/
structure NodeTy (P : Program) (t : Nat) : Prop where
  ex : ∃ (n0 n1 n2 n3 : Field), P.underlying t = some (.struct #[n0, n1, n2, n3]) ∧ P.cellsOf t = 41 ∧ n0.offset = 0 ∧ n1.offset = 1 ∧ n2.offset = 36 ∧ n3.offset = 40 ∧ P.underlying n0.type = some .string ∧ P.cellsOf n0.type = 1 ∧ ValTy P n1.type ∧ P.cellsOf n1.type = 35 ∧ MarksTy P n2.type ∧ P.cellsOf n2.type = 4 ∧
    P.underlying n3.type = some (.slice t) ∧ P.cellsOf n3.type = 1 ∧ 0 < P.bytesOf t
theorem rd_node {t : Nat} (hT : NodeTy P t) : ∀ (fuel : Nat) (cs : List Value) (x : DataW H × List MemPlace), DataW.trod enc P w 0 (fun _ => true) held fuel t cs = some x → (∀ n ∈ x.1.weights P t, n ≤ reachBytes) → ∃ n : Node, NodeAt (memOf w) cs n ∧ n.Small := by
  intro fuel
  induction fuel using Nat.strongRecOn with
  | _ fuel ih =>
    intro cs x h hw
    obtain ⟨n0, n1, n2, n3, ht, hc, o0, o1, o2, o3, u0, c0, u1, c1, u2, c2, u3, c3, hb⟩ := hT.ex
    obtain ⟨hl, m, hm, hf⟩ := rd_field ht h
    obtain ⟨y0, h0, w0⟩ := hf 0 n0 rfl
    obtain ⟨y1, h1, _⟩ := hf 1 n1 rfl
    obtain ⟨y2, h2, _⟩ := hf 2 n2 rfl
    obtain ⟨y3, h3, w3⟩ := hf 3 n3 rfl
    rw [o0, c0] at h0; rw [o1, c1] at h1; rw [o2, c2] at h2; rw [o3, c3] at h3
    obtain ⟨s, e0, hs⟩ := rd_str u0 h0 fun n hn => hw n (w0 n hn)
    obtain ⟨v, e1⟩ := rd_val u1 h1
    obtain ⟨mk, e2⟩ := rd_marks u2 h2
    obtain ⟨a, c, l, e3, hlc, hl2, hsl⟩ := rd_slice (fun c k => NodeAt (memOf w) c k ∧ k.Small) u3 hc (by omega) hb h3 (fun n hn => hw n (w3 n hn)) fun m' c y hlt h1 h2 => ih m' (by omega) c y h1 h2
    refine ⟨.mk s v mk l, ?_, .mk hs hl2 fun k hk => ?_⟩
    · have g0 := piece_drop e0
      rw [piece_drop e1, piece_drop e2, piece_drop e3, List.drop_zero] at g0
      rw [g0, List.drop_eq_nil_of_le (by omega)]
      have e : [S s] ++ (v.cells ++ (mk.cells ++ ([Value.slice a l.length c] ++ []))) = NodeC.cells ⟨s, v, mk, .slice a l.length c⟩ := by simp [NodeC.cells]
      rw [e]
      refine .mk (KidsAt.of (SlA.mono hsl (PMem.le_refl _) fun _ _ _ h => h.1) hlc)
    · obtain ⟨i, hi, rfl⟩ := List.getElem_of_mem hk
      rcases hsl with rfl | ⟨bk, o, cs', el, fr, _, _, hx⟩
      · simp at hi
      · exact (hx i _ (List.getElem?_eq_getElem hi)).2
end
end Go.Proofs.YtgmomhdammdjgaaGreat
