/-
  A range over a text; bytes and runes: a slash and a zero byte are never part of another rune. No condition: over any program.
-/
import Derived.Test.YtgmomhdammdjgaaGreatRm
import Derived.Laws.RangeString
set_option linter.unusedVariables false
set_option linter.unusedSimpArgs false
namespace Go.Proofs.YtgmomhdammdjgaaGreat
open Go Go.RowKit

/-- what stands at a place of a text: its rune and how many bytes it takes -/
def DecAt (s : Str) (pos c wd : Nat) : Prop := ∃ x : UInt8, s[pos]? = some x ∧ ((c = x.toNat ∧ x.toNat < 128 ∧ wd = 1) ∨ (128 ≤ c ∧ 1 ≤ wd ∧ pos + wd ≤ s.length ∧ ∀ j y, pos ≤ j → j < pos + wd → s[j]? = some y → 128 ≤ y.toNat))
theorem get_bang (s : Str) (k : Nat) (h : k < s.length) : (⟨s.toArray⟩ : ByteArray).get! k = s[k] := by
  simp [ByteArray.get!, h]
theorem decAt (s : Str) (pos : Nat) (h : pos < s.length) : DecAt s pos (Utf8.decode ⟨s.toArray⟩ pos).1 (Utf8.decode ⟨s.toArray⟩ pos).2 := by
  have g0 := get_bang s pos h
  have hsz : (⟨s.toArray⟩ : ByteArray).size = s.length := S_size s
  refine ⟨s[pos], List.getElem?_eq_getElem h, ?_⟩
  unfold Utf8.decode
  simp only [Nat.add_zero, g0, hsz]
  have one : 128 ≤ (s[pos]).toNat → ∀ j y, pos ≤ j → j < pos + 1 → s[j]? = some y → 128 ≤ y.toNat := fun h0 j y h1 h2 h3 => by
    have : j = pos := by omega
    subst this
    rw [List.getElem?_eq_getElem h] at h3
    cases h3; exact h0
  have more : ∀ k, (decide (pos + k < s.length) && ((⟨s.toArray⟩ : ByteArray).get! (pos + k)).toNat / 64 == 2) = true → ∃ hk : pos + k < s.length, 128 ≤ (s[pos + k]).toNat := fun k hk => by
    simp only [Bool.and_eq_true, decide_eq_true_eq, beq_iff_eq] at hk
    refine ⟨hk.1, ?_⟩
    have := hk.2
    rw [get_bang s _ hk.1] at this
    omega
  split
  · rename_i hb
    exact .inl ⟨rfl, hb, rfl⟩
  · rename_i hb
    have hb' : 128 ≤ (s[pos]).toNat := by omega
    have fall : ∀ c, 128 ≤ c → (c = (s[pos]).toNat ∧ (s[pos]).toNat < 128 ∧ (1 : Nat) = 1) ∨ (128 ≤ c ∧ 1 ≤ 1 ∧ pos + 1 ≤ s.length ∧ ∀ j y, pos ≤ j → j < pos + 1 → s[j]? = some y → 128 ≤ y.toNat) := fun c hc => .inr ⟨hc, Nat.le_refl _, h, one hb'⟩
    have step : ∀ n, (∀ k, 1 ≤ k → k < n → ∃ hk : pos + k < s.length, 128 ≤ (s[pos + k]).toNat) → ∀ j y, pos ≤ j → j < pos + n → s[j]? = some y → 128 ≤ y.toNat := fun n hn j y h1 h2 h3 => by
      by_cases hj : j = pos
      · subst hj; rw [List.getElem?_eq_getElem h] at h3; cases h3; exact hb'
      · obtain ⟨hk, h4⟩ := hn (j - pos) (by omega) (by omega)
        have e : pos + (j - pos) = j := by omega
        have : s[j]? = some (s[pos + (j - pos)]) := by rw [← List.getElem?_eq_getElem hk, e]
        rw [this] at h3
        cases h3; exact h4
    have he : 128 ≤ Utf8.runeError := by decide
    split
    · rename_i h2
      simp only [Bool.and_eq_true] at h2
      have m1 := more 1 (by simpa using h2.2)
      split
      · rename_i hc
        refine .inr ⟨hc, by omega, m1.1, step 2 (fun k a b => ?_)⟩
        have : k = 1 := by omega
        subst this; exact m1
      · exact fall _ he
    · split
      · rename_i h2 h3
        simp only [Bool.and_eq_true] at h3
        have m1 := more 1 (by simpa using h3.1.2)
        have m2 := more 2 (by simpa using h3.2)
        split
        · rename_i hc
          simp only [Bool.and_eq_true, decide_eq_true_eq] at hc
          refine .inr ⟨by have := hc.1; show 128 ≤ _; omega, by omega, m2.1, step 3 (fun k a b => ?_)⟩
          have : k = 1 ∨ k = 2 := by omega
          rcases this with rfl | rfl
          · exact m1
          · exact m2
        · exact fall _ he
      · split
        · rename_i h2 h3 h4
          simp only [Bool.and_eq_true] at h4
          have m1 := more 1 (by simpa using h4.1.1.2)
          have m2 := more 2 (by simpa using h4.1.2)
          have m3 := more 3 (by simpa using h4.2)
          split
          · rename_i hc
            simp only [Bool.and_eq_true, decide_eq_true_eq] at hc
            refine .inr ⟨by have := hc.1; show 128 ≤ _; omega, by omega, m3.1, step 4 (fun k a b => ?_)⟩
            have : k = 1 ∨ k = 2 ∨ k = 3 := by omega
            rcases this with rfl | rfl | rfl
            · exact m1
            · exact m2
            · exact m3
          · exact fall _ he
        · exact fall _ he
section
variable {P : Program} {Γ : Cx} {dl : List Deferred} {f : Then} {e : Env} {M : PMem} {H : List Res} {K : Kont} {d ty : Nat} {pos : String} {af : Array Edge} {g : Option (Nat × Bool)}
theorem E_range {t : Nat} {x : Operand} {s : Str} (ht : Γ.P.underlying t = some .string) (hx : e.val x = some (S s)) (k : ∀ b, Γ.R dl f ((d, P_ b 0) :: e) M (.blk b (.stringIter ⟨s.toArray⟩ 0) :: H)) (hdn : Nat.ble (d + 1) Γ.n = true := by rfl) :
    Γ.R dl (Γ.op ⟨some d, .range t x, ty, pos, af, g⟩ f K) e M H :=
  E_val hdn (fun _ h => by cases h) (fun a w hk hs => ⟨_, _, _, _, by
    simp only [execOp, hk.eval hx, S, Sem.run_bind, run_range_string w t _ ht, Result.andThen_ok, Sem.run_pure]
    rfl, hs.alloc _, k _⟩)
theorem E_next {x : Operand} {b at_ : Nat} {s : Str} (i : Nat) (hx : e.val x = some (P_ b 0)) (hi : H[i]? = some (.blk b (.stringIter ⟨s.toArray⟩ at_)))
    (k1 : ∀ c wd, at_ < s.length → DecAt s at_ c wd → Γ.R dl f ((d, .tuple #[.bool true, I at_, .int .i32 (c : Int)]) :: e) M (H.set i (.blk b (.stringIter ⟨s.toArray⟩ (at_ + wd)))))
    (k2 : s.length ≤ at_ → Γ.R dl f ((d, .tuple #[.bool false]) :: e) M H) (hdn : Nat.ble (d + 1) Γ.n = true := by rfl) :
    Γ.R dl (Γ.op ⟨some d, .next x true, ty, pos, af, g⟩ f K) e M H :=
  E_val hdn (fun _ h => by cases h) (fun a w hk hs => by
    have hb : w.heap[b]? = some (.stringIter ⟨s.toArray⟩ at_) := hs.own _ (List.mem_of_getElem? hi)
    by_cases hlt : at_ < s.length
    · refine ⟨.tuple #[.bool true, I at_, .int .i32 ((Utf8.decode ⟨s.toArray⟩ at_).1 : Int)], { w with heap := w.heap.setIfInBounds b (.stringIter ⟨s.toArray⟩ (at_ + (Utf8.decode ⟨s.toArray⟩ at_).2)) }, M, H.set i (.blk b (.stringIter ⟨s.toArray⟩ (at_ + (Utf8.decode ⟨s.toArray⟩ at_).2))), ?_, ?_, k1 _ _ hlt (decAt s at_ hlt)⟩
      · have hb' : b < w.heap.size := (Array.getElem?_eq_some_iff.1 hb).1
        have hb2 : w.heap[b] = .stringIter ⟨s.toArray⟩ at_ := (Array.getElem?_eq_some_iff.1 hb).2
        have hlt' : at_ < (⟨s.toArray⟩ : ByteArray).size := by rw [S_size]; exact hlt
        simp [execOp, hk.eval hx, Instr.next, getObj, setObj, Sem.run, hb, hlt', goInt, hb', hb2]
      · refine hs.turn hi _ ⟨rfl, rfl, rfl, by simp, fun k hk' hne => ?_⟩ (Nat.le_refl _) ?_ (fun b' hb' => .inl hb')
        · have hne' : b ≠ k := fun e => hne (by subst e; rfl)
          simp only [Array.getElem?_setIfInBounds]
          rw [if_neg hne']
        · show (w.heap.setIfInBounds b _)[b]? = _
          have hb' : b < w.heap.size := (Array.getElem?_eq_some_iff.1 hb).1
          simp [hb']
    · refine ⟨_, w, M, H, ?_, hs, k2 (by omega)⟩
      have hlt' : ¬ at_ < (⟨s.toArray⟩ : ByteArray).size := by rw [S_size]; exact hlt
      simp [execOp, hk.eval hx, Instr.next, getObj, Sem.run, hb, hlt'])
end
/-! ### Ints of other kinds -/
section
variable {P : Program} {e : Env} {M : PMem} {H : List Res}
theorem D_conv {x : Operand} {src dst : Nat} {k k' : IntKind} {n m : Int} (hs : (P.underlying src).isSome = true) (hd : P.underlying dst = some (.int k')) (hx : e.val x = some (.int k n)) (hw : k'.wrap n = m) : Dv P e M H (.convert src dst x) (.int k' m) :=
  ⟨(fun _ h => by cases h), fun _ a w _ _ _ _ _ hk hs' => by
    subst hw
    have hk' : P.intKind dst = k' := by simp [Program.intKind, hd]
    have h := run_convert_int (P := P) w src dst k n hs (by rw [hk']; exact hd)
    rw [hk'] at h
    simp [execOp, hk.eval hx, h]⟩
theorem D_shr1 {x y : Operand} {t t' : Nat} {n m : Int} (hx : e.val x = some (.int .u64 n)) (hy : e.val y = some (.int .u64 1)) (hm : n / 2 = m) : Dv P e M H (.binOp .shr t x y t') (.int .u64 m) :=
  D_int hx hy (fun P w => by
    subst hm
    have h1 : (2 : Int) ^ min 1 IntKind.u64.bits = 2 := by decide
    simp only [binOp, Op.shift]
    simp [h1, Int.fdiv_eq_ediv])
theorem u64_in (n : Int) (h0 : 0 ≤ n) (h1 : n ≤ 18446744073709551615) : IntKind.u64.wrap n = n := by
  simp [IntKind.wrap, IntKind.bits, IntKind.signed]; omega
end
/-! ### Cutting, by runes -/
theorem DecAt.lt {s : Str} {i c wd : Nat} (h : DecAt s i c wd) : i < s.length ∧ 1 ≤ wd ∧ i + wd ≤ s.length := by
  obtain ⟨x, hx, h⟩ := h
  have := (List.getElem?_eq_some_iff.1 hx).1
  rcases h with ⟨_, _, rfl⟩ | ⟨_, h1, h2, _⟩
  · omega
  · omega
theorem PInv.runeKeep {s : Str} {l : List Str} {f i c wd : Nat} (h : PInv s l f i) (hd : DecAt s i c wd) (hn : ¬ (c : Int) = 47) : PInv s l f (i + wd) := by
  have hl := hd.lt
  obtain ⟨x, hx, hd⟩ := hd
  refine ⟨by have := h.fi; omega, hl.2.2, h.sp, fun j h1 h2 => ?_, h.lf⟩
  by_cases hj : j < i
  · exact h.no j h1 hj
  · rcases hd with ⟨h3, _, h4⟩ | ⟨_, _, _, h4⟩
    · have : j = i := by omega
      subst this
      rw [hx]
      intro e
      cases e
      exact hn (by rw [h3]; rfl)
    · intro e
      have := h4 j 47 (by omega) h2 e
      have e2 : (47 : UInt8).toNat = 47 := rfl
      omega
theorem PInv.runeCut {s : Str} {l : List Str} {f i c wd : Nat} (h : PInv s l f i) (hd : DecAt s i c wd) (hn : (c : Int) = 47) : PInv s (l ++ [(s.drop f).take (i - f)]) (i + 1) (i + wd) := by
  obtain ⟨x, hx, hd⟩ := hd
  rcases hd with ⟨h3, h5, h4⟩ | ⟨h4, _⟩
  · subst h4
    exact h.cut (by rw [hx]; congr 1; exact UInt8.toNat_inj.1 (by have e2 : (47 : UInt8).toNat = 47 := rfl; omega))
  · omega
/-- no slash and no zero byte so far -/
theorem runeOk {s : Str} {i c wd : Nat} (h : (s.take i).all (fun c => !decide (c = 47) && !decide (c = 0)) = true) (hd : DecAt s i c wd) (h1 : ¬ (c : Int) = 47) (h2 : ¬ (c : Int) = 0) : (s.take (i + wd)).all (fun c => !decide (c = 47) && !decide (c = 0)) = true := by
  have hl := hd.lt
  obtain ⟨x, hx, hd⟩ := hd
  rw [List.all_eq_true] at h ⊢
  intro y hy
  obtain ⟨j, hj, rfl⟩ := List.getElem_of_mem hy
  rw [List.length_take] at hj
  rw [List.getElem_take]
  by_cases hji : j < i
  · exact h _ (by
      have : (s.take i)[j]? = some s[j] := by rw [List.getElem?_take, if_pos hji]; exact List.getElem?_eq_getElem (by omega)
      exact List.mem_of_getElem? this)
  · have e47 : (47 : UInt8).toNat = 47 := rfl
    have e0 : (0 : UInt8).toNat = 0 := rfl
    rcases hd with ⟨h3, _, h4⟩ | ⟨_, _, _, h4⟩
    · have : j = i := by omega
      subst this
      have hx2 : s[j] = x := by rw [List.getElem?_eq_getElem (by omega)] at hx; exact Option.some.inj hx
      rw [hx2]
      have a1 : x ≠ 47 := fun e => h1 (by rw [h3, e]; rfl)
      have a2 : x ≠ 0 := fun e => h2 (by rw [h3, e]; rfl)
      simp [a1, a2]
    · have := h4 j s[j] (by omega) (by omega) (List.getElem?_eq_getElem (by omega))
      have a1 : s[j] ≠ 47 := fun e => by rw [e] at this; omega
      have a2 : s[j] ≠ 0 := fun e => by rw [e] at this; omega
      simp [a1, a2]
theorem runeBad {s : Str} {i c wd : Nat} (hd : DecAt s i c wd) (h : (c : Int) = 47 ∨ (c : Int) = 0) : nameOk s = false := by
  obtain ⟨x, hx, hd⟩ := hd
  rcases hd with ⟨h3, _, h4⟩ | ⟨h4, _⟩
  · refine nameOk_bad hx ?_
    rcases h with h | h
    · have : x = 47 := UInt8.toNat_inj.1 (by have e2 : (47 : UInt8).toNat = 47 := rfl; omega)
      simp [this]
    · have : x = 0 := UInt8.toNat_inj.1 (by have e2 : (0 : UInt8).toNat = 0 := rfl; omega)
      simp [this]
  · omega
/-! ### Order, the last slash -/
def cmpS (a b : Str) : Int := if Op.bytesLess a b = true then -1 else if Op.bytesLess b a = true then 1 else 0
theorem less_asym {a b : Str} (h : Op.bytesLess a b = true) : Op.bytesLess b a = false := by
  induction a generalizing b with
  | nil => cases b with
    | nil => simp [Op.bytesLess] at h
    | cons y b => simp [Op.bytesLess]
  | cons x a ih =>
    cases b with
    | nil => simp [Op.bytesLess] at h
    | cons y b =>
      simp only [Op.bytesLess, Bool.or_eq_true, Bool.and_eq_true, decide_eq_true_eq, beq_iff_eq] at h
      simp only [Op.bytesLess, Bool.or_eq_false_iff, Bool.and_eq_false_imp, decide_eq_false_iff_not, beq_iff_eq]
      rcases h with h | ⟨h1, h2⟩
      · have h' := UInt8.lt_iff_toNat_lt.1 h
        exact ⟨fun q => by have := UInt8.lt_iff_toNat_lt.1 q; omega, fun q => by subst q; omega⟩
      · subst h1
        exact ⟨fun q => by have := UInt8.lt_iff_toNat_lt.1 q; omega, fun _ => ih h2⟩
theorem cmpS_gt {a b : Str} (h1 : Op.bytesLess a b = false) : (!(Op.bytesLess a b || decide (a = b))) = Op.bytesLess b a := by
  rw [h1, Bool.false_or]
  by_cases hab : a = b
  · subst hab; simp [less_irr]
  · cases h2 : Op.bytesLess b a with
    | true => simp [hab]
    | false => exact absurd (less_tri h1 h2) hab
theorem cmpS_zero {a b : Str} (h : cmpS a b = 0) : a = b := by
  unfold cmpS at h
  cases h1 : Op.bytesLess a b with
  | true => simp [h1] at h
  | false => cases h2 : Op.bytesLess b a with
    | true => simp [h1, h2] at h
    | false => exact less_tri h1 h2
theorem cmpL_cmpS {x y : List Str} {i : Nat} {a b : Str} (h : x.take i = y.take i) (ha : x[i]? = some a) (hb : y[i]? = some b) (hne : ¬ cmpS a b = 0) : cmpL x y = cmpS a b := by
  rw [cmpL_at h ha hb]
  unfold cmpS at hne ⊢
  split
  · rfl
  · split
    · rfl
    · rename_i h1 h2; simp [h1, h2] at hne
theorem cmpL_more {x y : List Str} {i : Nat} (h : x.take i = y.take i) (h1 : y.length ≤ i) (h2 : i < x.length) : cmpL x y = 1 := by
  have hy : y.length = i := by
    have := congrArg List.length h
    rw [List.length_take, List.length_take] at this; omega
  rw [cmpL_end (by rw [show min x.length y.length = i from by omega]; exact h), if_neg (by omega), if_pos (by omega)]
/-- the last place of a byte, or -1 -/
def lastI : Str → UInt8 → Int
  | [], _ => -1
  | x :: r, c => if 0 ≤ lastI r c then lastI r c + 1 else if x = c then 0 else -1
theorem lastI_none : ∀ {s : Str} {c : UInt8}, (∀ k : Nat, s[k]? ≠ some c) → lastI s c = -1 := by
  intro s
  induction s with
  | nil => intro c _; rfl
  | cons x r ih =>
    intro c h
    have h1 := ih (c := c) (fun k => by have := h (k + 1); simpa using this)
    have h2 : ¬ x = c := fun e => h 0 (by simp [e])
    simp [lastI, h1, h2]
theorem lastI_at : ∀ {s : Str} {c : UInt8} {i : Nat}, s[i]? = some c → (∀ k : Nat, i < k → s[k]? ≠ some c) → lastI s c = i := by
  intro s
  induction s with
  | nil => intro c i h; simp at h
  | cons x r ih =>
    intro c i h hk
    cases i with
    | zero =>
      have h1 := lastI_none (s := r) (c := c) (fun k => by have := hk (k + 1) (by omega); simpa using this)
      simp at h
      simp [lastI, h1, h]
    | succ i =>
      have h1 := ih (c := c) (i := i) (by simpa using h) (fun k hk' => by have := hk (k + 1) (by omega); simpa using this)
      have h2 : 0 ≤ lastI r c := by omega
      simp only [lastI, if_pos h2, h1]
      omega
theorem lastI_spec (s : Str) (c : UInt8) : (lastI s c = -1 ∧ ∀ k : Nat, s[k]? ≠ some c) ∨ ∃ i : Nat, lastI s c = i ∧ s[i]? = some c ∧ i < s.length ∧ ∀ k : Nat, i < k → s[k]? ≠ some c := by
  induction s with
  | nil => exact .inl ⟨rfl, by simp⟩
  | cons x r ih =>
    rcases ih with ⟨h1, h2⟩ | ⟨i, h1, h2, h4, h3⟩
    · by_cases hx : x = c
      · exact .inr ⟨0, by simp [lastI, h1, hx], by simp [hx], by simp, fun k hk => by
          cases k with
          | zero => omega
          | succ k => simpa using h2 k⟩
      · exact .inl ⟨by simp [lastI, h1, hx], fun k => by
          cases k with
          | zero => simpa using hx
          | succ k => simpa using h2 k⟩
    · refine .inr ⟨i + 1, ?_, by simpa using h2, by simp; omega, fun k hk => ?_⟩
      · rw [lastI, if_pos (by omega), h1]; omega
      · cases k with
        | zero => omega
        | succ k => simpa using h3 k (by omega)
theorem splitOn_last : ∀ {t : Str} {i : Nat}, t[i]? = some 47 → (∀ k : Nat, i < k → t[k]? ≠ some 47) → splitOn t = splitOn (t.take i) ++ [t.drop (i + 1)] := by
  intro t
  induction t with
  | nil => intro i h; simp at h
  | cons c r ih =>
    intro i h hk
    cases i with
    | zero =>
      simp at h
      subst h
      have : splitOn r = [r] := splitOn_none (fun x hx e => by
        obtain ⟨j, hj, rfl⟩ := List.getElem_of_mem hx
        exact hk (j + 1) (by omega) (by simp [hj, e]))
      simp [splitOn, this]
    | succ i =>
      have h1 := ih (i := i) (by simpa using h) (fun k hk' => by have := hk (k + 1) (by omega); simpa using this)
      simp only [List.take_succ_cons, List.drop_succ_cons, splitOn]
      by_cases hc : c = 47
      · simp [hc, h1]
      · simp only [if_neg hc, h1]
        cases hs : splitOn (r.take i) with
        | nil => exact absurd hs (splitOn_ne _)
        | cons p ps => simp
theorem aboveP_last {s : Str} {i : Nat} (h : lastI s 47 = i) : aboveP s = (s.take i, s.drop (i + 1)) := by
  rcases lastI_spec s 47 with ⟨h1, _⟩ | ⟨j, h1, h2, h4, h3⟩
  · omega
  · have hij : j = i := by omega
    subst hij
    have hs : s ≠ [] := fun e => by subst e; simp at h4
    have hp : pieces s = splitOn (s.take j) ++ [s.drop (j + 1)] := by rw [pieces, if_neg hs, splitOn_last h2 h3]
    unfold aboveP
    rw [hp, List.getLast?_append]
    simp [joinP_split]
theorem aboveP_one {s : Str} (h : lastI s 47 < 0) : aboveP s = ([], s) := by
  rcases lastI_spec s 47 with ⟨_, h2⟩ | ⟨j, h1, _⟩
  · by_cases hs : s = []
    · subst hs; rfl
    · have : pieces s = [s] := by
        rw [pieces, if_neg hs, splitOn_none (fun x hx e => by
          obtain ⟨j, hj, rfl⟩ := List.getElem_of_mem hx
          exact h2 j (by simp [hj, e]))]
      unfold aboveP
      rw [this]
      rfl
  · omega
end Go.Proofs.YtgmomhdammdjgaaGreat
