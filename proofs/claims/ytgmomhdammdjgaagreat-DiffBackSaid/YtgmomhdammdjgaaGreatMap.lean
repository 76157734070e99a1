/-
  Maps with texts as keys: made, asked, written. No condition: over any program.
-/
import Derived.Test.YtgmomhdammdjgaaGreatIter
import Derived.Carry
set_option linter.unusedVariables false
set_option linter.unusedSimpArgs false
namespace Go.Proofs.YtgmomhdammdjgaaGreat
open Go Go.RowKit

theorem ba_beq (a b : ByteArray) : (a == b) = true ↔ a = b := by
  obtain ⟨x⟩ := a
  obtain ⟨y⟩ := b
  constructor
  · intro h
    have e : x = y := by simpa using (show (x == y) = true from h)
    rw [e]
  · intro h
    cases h
    show (x == x) = true
    simp
/-- what a map holds: keys, values, births -/
abbrev MapL := List (Str × Value × Nat)
def ents (l : MapL) : List MapEntry := l.map fun e => ⟨S e.1, e.2.1, e.2.2⟩
def mobj (l : MapL) (clock : Nat) : Obj := .map (ents l).toArray clock
def lookL : MapL → Str → Option Value
  | [], _ => none
  | e :: r, k => if e.1 = k then some e.2.1 else lookL r k
def updL : MapL → Str → Value → Nat → MapL
  | [], k, v, c => [(k, v, c)]
  | e :: r, k, v, c => if e.1 = k then (e.1, v, e.2.2) :: r else e :: updL r k v c
def updC (l : MapL) (k : Str) (c : Nat) : Nat := if (lookL l k).isSome then c else c + 1
theorem lookL_upd (l : MapL) (k : Str) (v : Value) (c : Nat) (q : Str) : lookL (updL l k v c) q = if q = k then some v else lookL l q := by
  induction l with
  | nil =>
    simp only [updL, lookL]
    by_cases h : q = k
    · simp [h]
    · simp [h, Ne.symm h]
  | cons e r ih =>
    simp only [updL]
    by_cases h : e.1 = k
    · rw [if_pos h]
      simp only [lookL]
      by_cases hq : q = k
      · simp [hq, h]
      · simp [hq, h, Ne.symm hq]
    · rw [if_neg h]
      simp only [lookL, ih]
      by_cases hq : e.1 = q
      · have : ¬ q = k := fun e1 => h (hq.trans e1)
        simp [hq, this]
      · simp [hq]
/-- the place of a key -/
def placeL : MapL → Str → Nat → Option (Nat × Value)
  | [], _, _ => none
  | e :: r, k, i => if e.1 = k then some (i, e.2.1) else placeL r k (i + 1)
theorem findNow_L (k : Str) : ∀ (l : MapL) (i : Nat), Instr.findNow .string (S k) (ents l) i = some (placeL l k i) := by
  intro l
  induction l with
  | nil => intro i; rfl
  | cons e r ih =>
    intro i
    have h1 : Instr.sameNow .string (S k) (S e.1) = some (decide (k = e.1)) := by
      simp only [Instr.sameNow, S]
      congr 1
      rw [Bool.eq_iff_iff, ba_beq]
      simp
    simp only [ents, List.map_cons, Instr.findNow, h1, placeL]
    by_cases h : e.1 = k
    · simp [h]
    · have : ¬ k = e.1 := fun e1 => h e1.symm
      simp only [this, h, decide_false, if_false]
      exact ih (i + 1)
theorem placeL_look (k : Str) : ∀ (l : MapL) (i : Nat), (placeL l k i).map Prod.snd = lookL l k := by
  intro l
  induction l with
  | nil => intro i; rfl
  | cons e r ih =>
    intro i
    simp only [placeL, lookL]
    split
    · rfl
    · exact ih (i + 1)
theorem placeL_some {k : Str} : ∀ {l : MapL} {i j : Nat} {v : Value}, placeL l k i = some (j, v) → ∃ n e, j = i + n ∧ l[n]? = some e ∧ e.1 = k ∧ e.2.1 = v ∧ ∀ w c, updL l k w c = l.set n (e.1, w, e.2.2) := by
  intro l
  induction l with
  | nil => intro i j v h; simp [placeL] at h
  | cons e r ih =>
    intro i j v h
    simp only [placeL] at h
    by_cases he : e.1 = k
    · rw [if_pos he] at h
      cases h
      exact ⟨0, e, rfl, rfl, he, rfl, fun w c => by simp [updL, he]⟩
    · rw [if_neg he] at h
      obtain ⟨n, e', h1, h2, h3, h4, h5⟩ := ih h
      exact ⟨n + 1, e', by omega, by simpa using h2, h3, h4, fun w c => by simp [updL, he, h5]⟩
theorem placeL_none {k : Str} : ∀ {l : MapL} {i : Nat}, placeL l k i = none → ∀ w c, updL l k w c = l ++ [(k, w, c)] := by
  intro l
  induction l with
  | nil => intro i _ w c; rfl
  | cons e r ih =>
    intro i h w c
    simp only [placeL] at h
    by_cases he : e.1 = k
    · rw [if_pos he] at h; cases h
    · rw [if_neg he] at h
      simp [updL, he, ih h]
section
variable {P : Program} {Γ : Cx} {dl : List Deferred} {f : Then} {e : Env} {M : PMem} {H : List Res} {K : Kont} {d ty : Nat} {pos : String} {af : Array Edge} {g : Option (Nat × Bool)}
theorem run_checkKey {t : TypeId} (ht : P.underlying t = some .string) (b : Bool) (k : Str) (w : World) : (Instr.checkKey b 10000 t (S k)).run P w = .ok () w := by
  show (Instr.checkKey b (9999 + 1) t (S k)).run P w = _
  rw [Instr.checkKey]
  simp only [Sem.run_bind, run_underlying ht, Result.andThen_ok]
  rfl
theorem run_findKey {t : TypeId} (ht : P.underlying t = some .string) (k : Str) (l : MapL) (w : World) : (Instr.findKey t (S k) (ents l)).run P w = .ok (placeL l k 0) w := by
  simp [Instr.findKey, run_underlying ht, findNow_L]
theorem run_getMap {w : World} {r clock : Nat} {l : MapL} (h : w.heap[r]? = some (mobj l clock)) : (getObj r).run P w = .ok (mobj l clock) w := by
  simp [getObj, Sem.run, h, mobj]
theorem run_look {t key elem : TypeId} {z : Value} {w : World} {r clock : Nat} {l : MapL} (ht : P.underlying t = some (.map key elem)) (hk : P.underlying key = some .string) (hz : ∀ w, (zeroValue elem).run P w = .ok z w) (h : w.heap[r]? = some (mobj l clock)) (k : Str) (ok : Bool) :
    (Instr.lookup t (.map (some r)) (S k) ok).run P w = .ok (if ok then .tuple #[(lookL l k).getD z, .bool (lookL l k).isSome] else (lookL l k).getD z) w := by
  have h1 : (getObj r).run P w = .ok (Obj.map (ents l).toArray clock) w := run_getMap h
  have h2 := placeL_look k l 0
  cases hp : placeL l k 0 with
  | none =>
    rw [hp] at h2
    rw [← h2]
    cases ok <;> simp [Instr.lookup, run_underlying ht, h1, run_checkKey hk, run_findKey hk, hp, hz]
  | some p =>
    rw [hp] at h2
    rw [← h2]
    cases ok <;> simp [Instr.lookup, run_underlying ht, h1, run_checkKey hk, run_findKey hk, hp]
theorem D_look {t key elem : TypeId} {z : Value} {x k : Operand} {r clock : Nat} {l : MapL} {s : Str} (ht : P.underlying t = some (.map key elem)) (hk : P.underlying key = some .string) (hz : ∀ w, (zeroValue elem).run P w = .ok z w)
    (hx : e.val x = some (.map (some r))) (hs : e.val k = some (S s)) (hb : Has M H r (mobj l clock)) : Dv P e M H (.lookup t x k false) ((lookL l s).getD z) :=
  ⟨(fun _ h => by cases h), fun _ a w _ _ _ _ _ hkn hc => by
    simp only [execOp, hkn.eval hx, hkn.eval hs, Sem.run_bind, run_look ht hk hz (hb.at hc) s false, Result.andThen_ok, Sem.run_pure]; rfl⟩
theorem D_lookOk {t key elem : TypeId} {z : Value} {x k : Operand} {r clock : Nat} {l : MapL} {s : Str} (ht : P.underlying t = some (.map key elem)) (hk : P.underlying key = some .string) (hz : ∀ w, (zeroValue elem).run P w = .ok z w)
    (hx : e.val x = some (.map (some r))) (hs : e.val k = some (S s)) (hb : Has M H r (mobj l clock)) : Dv P e M H (.lookup t x k true) (.tuple #[(lookL l s).getD z, .bool (lookL l s).isSome]) :=
  ⟨(fun _ h => by cases h), fun _ a w _ _ _ _ _ hkn hc => by
    simp only [execOp, hkn.eval hx, hkn.eval hs, Sem.run_bind, run_look ht hk hz (hb.at hc) s true, Result.andThen_ok, Sem.run_pure]; rfl⟩
theorem E_makeMap {t : TypeId} (k : ∀ b, Γ.R dl f ((d, .map (some b)) :: e) M (.blk b (mobj [] 0) :: H)) (hdn : Nat.ble (d + 1) Γ.n = true := by rfl) : Γ.R dl (Γ.op ⟨some d, .makeMap t none, ty, pos, af, g⟩ f K) e M H :=
  E_val hdn (fun _ h => by cases h) fun a w hk hs => ⟨_, w.alloc (mobj [] 0), M, _, by simp [execOp, run_makeMap, mobj, ents], hs.alloc _, k _⟩
theorem run_upd {t key elem : TypeId} {w : World} {r clock : Nat} {l : MapL} (ht : P.underlying t = some (.map key elem)) (hk : P.underlying key = some .string) (h : w.heap[r]? = some (mobj l clock)) (k : Str) (v : Value) :
    (Instr.mapUpdate t (.map (some r)) (S k) v).run P w = .ok () (w.putObj r (mobj (updL l k v clock) (updC l k clock))) := by
  have h1 : (getObj r).run P w = .ok (Obj.map (ents l).toArray clock) w := run_getMap h
  have hlt : r < w.heap.size := (Array.getElem?_eq_some_iff.1 h).1
  have hset : ∀ o, (setObj r o).run P w = .ok () (w.putObj r o) := fun o => by simp [setObj, Sem.run, World.putObj, h, mobj]
  have h2 := placeL_look k l 0
  cases hp : placeL l k 0 with
  | none =>
    rw [hp] at h2
    have h3 := placeL_none hp v clock
    have e1 : updC l k clock = clock + 1 := by simp [updC, ← h2]
    rw [h3, e1]
    simp only [Instr.mapUpdate, Sem.run_bind, run_underlying ht, Result.andThen_ok, h1, run_checkKey hk, run_findKey hk, hp]
    rw [hset]
    simp [mobj, ents]
  | some p =>
    obtain ⟨j, u⟩ := p
    obtain ⟨n, en, h3, h4, h5, h6, h7⟩ := placeL_some hp
    rw [hp] at h2
    have e1 : updC l k clock = clock := by simp [updC, ← h2]
    obtain rfl : j = n := by omega
    have hes : (ents l)[j]? = some ⟨S en.1, en.2.1, en.2.2⟩ := by simp [ents, h4]
    have hst : (Instr.keyThatStays (((((ents l).toArray)[j]?).map (·.key)).getD (S k)) (S k)).run P w = .ok (S k) w := by
      have : (((ents l).toArray)[j]?).map (·.key) = some (S k) := by simp [hes, h5]
      rw [this]
      have hb : Instr.sameBits 10000 (S k) (S k) = true := by
        show Instr.sameBits (9999 + 1) (S k) (S k) = true
        rw [S, Instr.sameBits]; exact (ba_beq _ _).2 rfl
      simp only [Option.getD_some, Instr.keyThatStays, hb, if_true, Sem.run_pure]
    rw [h7, e1]
    simp only [Instr.mapUpdate, Sem.run_bind, run_underlying ht, Result.andThen_ok, h1, run_checkKey hk, run_findKey hk, hp, hst]
    rw [hset]
    congr 2
    simp only [mobj]
    congr 1
    refine Array.ext' ?_
    simp only [Array.toList_modify]
    refine List.ext_getElem? fun i => ?_
    rw [List.getElem?_modify]
    simp only [ents, List.getElem?_map, List.getElem?_set]
    by_cases hi : j = i
    · subst hi
      have hl : j < l.length := (List.getElem?_eq_some_iff.1 h4).1
      have h8 : l[j]'hl = en := (List.getElem?_eq_some_iff.1 h4).2
      simp [h5, hl, h8]
    · simp [hi]
theorem E_mapUpdate {t key elem : TypeId} {x k y : Operand} {r clock : Nat} {l : MapL} {s : Str} {v : Value} (i : Nat) (ht : Γ.P.underlying t = some (.map key elem)) (hk : Γ.P.underlying key = some .string) (hx : e.val x = some (.map (some r))) (hs : e.val k = some (S s)) (hy : e.val y = some v)
    (hb : H[i]? = some (.blk r (mobj l clock))) (kk : Γ.R dl f e M (H.set i (.blk r (mobj (updL l s v clock) (updC l s clock))))) : Γ.R dl (Γ.op ⟨none, .mapUpdate t x k y, ty, pos, af, g⟩ f K) e M H :=
  E_unit (fun _ h => by cases h) fun a w hkn hst => by
    have hl : w.heap[r]? = some (mobj l clock) := hst.own _ (List.mem_of_getElem? hb)
    refine ⟨w.putObj r (mobj (updL l s v clock) (updC l s clock)), M, _, ?_, hst.turn hb (.blk r (mobj (updL l s v clock) (updC l s clock))) (grownBy_putObj' w r _) (Nat.le_refl _) (World.putObj_heap_same (Array.getElem?_eq_some_iff.1 hl).1) (fun b hb => .inl hb), kk⟩
    simp only [execOp, hkn.eval hx, hkn.eval hs, hkn.eval hy, Sem.run_bind, run_upd ht hk hl s v, Result.andThen_ok, Sem.run_pure]
end
end Go.Proofs.YtgmomhdammdjgaaGreat
