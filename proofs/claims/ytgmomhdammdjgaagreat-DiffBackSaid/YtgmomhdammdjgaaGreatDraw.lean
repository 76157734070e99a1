/-
  A region whose order of evaluation Go leaves open: readings may be taken first, an operation with an effect when nothing else can come. No condition: over any program.
-/
import Derived.Test.YtgmomhdammdjgaaGreatOpsB
import Derived.Still
set_option linter.unusedVariables false
set_option linter.unusedSimpArgs false
namespace Go.Proofs.YtgmomhdammdjgaaGreat
open Go Go.RowKit

/-- In every order that is left; every world on the way is one of C. -/
def anyC (P : Program) (r : Option Nat) (ops : Array Oper) (Q : Exit → Act → World → Prop) (C : World → Prop) : Nat → Array Bool → Act → World → Prop
  | 0, listed, a, w => Region.ready .any ops listed = [] ∧ Q .normal a w
  | fuel + 1, listed, a, w => (Region.ready .any ops listed = [] → Q .normal a w) ∧
    ∀ i ∈ Region.ready .any ops listed, wpOpIn (Fw r) 0 P ops Q i (fun a' w' => C w' ∧ anyC P r ops Q C fuel (listed.setIfInBounds i true) a' w') a w
section
variable {P : Program} {r : Option Nat} {ops : Array Oper} {Q : Exit → Act → World → Prop} {C : World → Prop}
theorem anyC_any : ∀ (fuel : Nat) (listed : Array Bool) (a : Act) (w : World), anyC P r ops Q C fuel listed a w → wpAnyIn (Fw r) 0 P .any ops Q fuel listed a w := by
  intro fuel
  induction fuel with
  | zero => exact fun _ _ _ h => h
  | succ fuel ih => exact fun listed a w h => ⟨h.1, fun i hi => wpOpIn_mono (fun a' w' hh => ih _ _ _ hh.2) (h.2 i hi)⟩
theorem anyC_mono {C' : World → Prop} (hC : ∀ w, C' w → C w) : ∀ (fuel : Nat) (listed : Array Bool) (a : Act) (w : World), anyC P r ops Q C' fuel listed a w → anyC P r ops Q C fuel listed a w := by
  intro fuel
  induction fuel with
  | zero => exact fun _ _ _ h => h
  | succ fuel ih => exact fun listed a w h => ⟨h.1, fun i hi => wpOpIn_mono (fun a' w' hh => ⟨hC _ hh.1, ih _ _ _ hh.2⟩) (h.2 i hi)⟩
/-- no select, no defer -/
def plainOps (ops : List Oper) : Bool := ops.all fun o => match o.op with
  | .select .. => false
  | .defer .. => false
  | _ => true
theorem plainOps_spec {l : List Oper} (h : plainOps l = true) {j : Nat} {o : Oper} (hj : l.toArray[j]? = some o) : (∀ cs b, o.op ≠ .select cs b) ∧ (∀ c, o.op ≠ .defer c) := by
  have hmem : o ∈ l := by
    have : l[j]? = some o := by simpa using hj
    exact List.mem_of_getElem? this
  have := List.all_eq_true.1 h o hmem
  constructor
  · intro cs b e; simp [e] at this
  · intro c e; simp [e] at this
def Yields (P : Program) (ops : Array Oper) (C : World → Prop) (o : Oper) (v : Value) (a : Act) : Prop :=
  (Region.wanted o (yielded ops a.tmps) = true ∧ ∀ w, C w → (execOp a.eval o).run P w = .ok (.value v) w) ∨ (Region.wanted o (yielded ops a.tmps) = false ∧ v = undef)
theorem Yields.now {i : Nat} {o : Oper} {v : Value} {a : Act} {w : World} {Kn : Act → World → Prop} (hi : ops[i]? = some o) (hnd : ∀ c, o.op ≠ .defer c) (hy : Yields P ops C o v a) (hC : C w) (h : Kn (a.put o.dst v) w) :
    wpOpIn (Fw r) 0 P ops Q i Kn a w := by
  unfold wpOpIn
  simp only [hi]
  rcases hy with ⟨hw, hv⟩ | ⟨hw, rfl⟩
  · rw [if_pos hw]
    refine ⟨fun f _ => fw_fn _ f, ?_⟩
    rw [semAt_ex _ _ hnd, hv w hC]
    exact h
  · rw [hw]
    simp only [Bool.false_eq_true, if_false]
    exact ⟨fun f _ => fw_fn _ f, h⟩
theorem wpOpIn_put {j : Nat} {oi oj : Oper} {v : Value} (hj : ops[j]? = some oj) (hap : oi.apart ops oj = true)
    (hsi : ∀ cs b, oi.op ≠ .select cs b) (hsj : ∀ cs b, oj.op ≠ .select cs b) (hdi : ∀ c, oi.op ≠ .defer c) (hdj : ∀ c, oj.op ≠ .defer c) (hQ : ∀ ch a a' w, Q (.panic ch) a w → Q (.panic ch) a' w) {Kn : Act → World → Prop} {a : Act} {w : World}
    (hy : Yields P ops C oi v a) (h : wpOpIn (Fw r) 0 P ops Q j Kn (a.put oi.dst v) w) :
    wpOpIn (Fw r) 0 P ops Q j (fun a' w' => Yields P ops C oi v a' ∧ Kn (a'.put oi.dst v) w') a w := by
  obtain ⟨h1, h2, h3⟩ := Oper.apart_spec hap
  have keep : ∀ u, Yields P ops C oi v (a.put oj.dst u) := fun u => by
    unfold Yields at *
    rw [execOp_put oi hsi a oj.dst u h3, wanted_put oi a oj.dst u h3]
    exact hy
  unfold wpOpIn at *
  simp only [hj] at *
  rw [wanted_put oj a oi.dst v h1] at h
  split
  · rename_i hw
    rw [if_pos hw] at h
    refine ⟨fun f _ => fw_fn _ f, ?_⟩
    have h := h.2
    rw [semAt_ex _ _ hdj] at h ⊢
    rw [execOp_put oj hsj a oi.dst v h1] at h
    generalize (execOp a.eval oj).run P w = rr at *
    cases rr with
    | ok n w' =>
      cases n <;> simp only [Oper.uponIn] at h ⊢
      case value u => exact ⟨keep u, by rw [← Act.put_comm a v u h2]; exact h⟩
      case skip => exact ⟨keep _, by rw [← Act.put_comm a v undef h2]; exact h⟩
      case defer d =>
        refine ⟨?_, ?_⟩
        · have hkeep := keep undef
          unfold Yields at hkeep ⊢
          cases hod : oj.dst with
          | none => simp only [hod, Act.put] at hkeep ⊢; exact hkeep
          | some dd => simp only [hod, Act.put] at hkeep ⊢; exact hkeep
        · have hc := Act.put_comm a v undef h2
          have : ({ a with defers := d :: a.defers }.put oj.dst undef).put oi.dst v = { a.put oi.dst v with defers := d :: (a.put oi.dst v).defers }.put oj.dst undef := by
            cases hod : oj.dst <;> cases hoi : oi.dst <;> simp [Act.put, hod, hoi] at hc ⊢
            exact hc.symm
          rw [this]; exact h
      case enter f args => exact ⟨h.1, CallsIn.mono h.2 (fun en w'' he => by
        cases en with
        | returned u => exact ⟨keep u, by rw [← Act.put_comm a v u h2]; exact he⟩
        | panicked ch => exact hQ _ _ _ _ he
        | outgrown => exact he)⟩
      case row rw_ args => exact ⟨h.1, RowsIn.mono h.2 (fun u w'' he => ⟨keep u, by rw [← Act.put_comm a v u h2]; exact he⟩)⟩
      case round l f tmps asg body => exact ⟨h.1, RoundIn.mono h.2 (fun en w'' he => by
        cases en with
        | returned u => exact ⟨keep u, by rw [← Act.put_comm a v u h2]; exact he⟩
        | panicked ch => exact hQ _ _ _ _ he
        | outgrown => exact he)⟩
    | halt x w' =>
      cases x <;> simp only [Oper.uponIn] at h ⊢ <;> first | exact hQ _ _ _ _ h | exact h
  · rename_i hw
    rw [if_neg hw] at h
    exact ⟨fun f _ => fw_fn _ f, keep _, by rw [← Act.put_comm a v undef h2]; exact h.2⟩
theorem anyC_first {i : Nat} {oi : Oper} {v : Value} (hi : ops[i]? = some oi) (hsel : ∀ (j : Nat) (o : Oper), ops[j]? = some o → (∀ cs b, o.op ≠ .select cs b) ∧ (∀ c, o.op ≠ .defer c)) (hQ : ∀ ch a a' w, Q (.panic ch) a w → Q (.panic ch) a' w) :
    ∀ (fuel : Nat) (listed : Array Bool) (a : Act) (w : World),
      (∀ j oj, ops[j]? = some oj → j ≠ i → listed.getD j true = false → (∀ e ∈ oj.after, Region.binds .any e = true → e.on ≠ i) → oi.apart ops oj = true) →
      i ∈ Region.ready .any ops listed → C w → Yields P ops C oi v a →
      anyC P r ops Q C fuel (listed.setIfInBounds i true) (a.put oi.dst v) w → anyC P r ops Q C (fuel + 1) listed a w := by
  intro fuel
  induction fuel with
  | zero =>
    intro listed a w _ hr hC hy H
    refine ⟨fun h => (by rw [h] at hr; cases hr), fun j hj => ?_⟩
    by_cases hji : j = i
    · subst hji; exact hy.now hi (hsel _ _ hi).2 hC ⟨hC, H⟩
    · have := ready_mono hj hji
      rw [H.1] at this
      cases this
  | succ fuel ih =>
    intro listed a w hfree hr hC hy H
    refine ⟨fun h => (by rw [h] at hr; cases hr), fun j hj => ?_⟩
    by_cases hji : j = i
    · subst hji; exact hy.now hi (hsel _ _ hi).2 hC ⟨hC, H⟩
    · have h1 := H.2 j (ready_mono hj hji)
      obtain ⟨hjun, oj, hoj, hall⟩ := mem_ready.1 hj
      have hnot : ∀ e ∈ oj.after, Region.binds .any e = true → e.on ≠ i := fun e he hb heq => by
        have h1 := hall e he hb
        have h0 := (mem_ready.1 hr).1
        rw [heq] at h1
        rcases Nat.lt_or_ge i listed.size with h' | h'
        · simp [h'] at h0 h1; rw [h0] at h1; cases h1
        · simp [Array.getElem?_eq_none h'] at h1
      have h2 := wpOpIn_put hoj (hfree j oj hoj hji hjun hnot) (hsel i oi hi).1 (hsel j oj hoj).1 (hsel i oi hi).2 (hsel j oj hoj).2 hQ hy h1
      have hfree' : ∀ k ok, ops[k]? = some ok → k ≠ i → (listed.setIfInBounds j true).getD k true = false →
          (∀ e ∈ ok.after, Region.binds .any e = true → e.on ≠ i) → oi.apart ops ok = true := fun k ok hk hki hun hno => by
        refine hfree k ok hk hki ?_ hno
        by_cases hjk : j = k
        · subst hjk; exact hjun
        · rw [getD_set_ne true hjk] at hun; exact hun
      refine wpOpIn_mono (fun a' w' h3 => ⟨h3.2.1, ih (listed.setIfInBounds j true) a' w' hfree' (ready_mono hr (Ne.symm hji)) h3.2.1 h3.1 ?_⟩) h2
      rw [Array.setIfInBounds_comm _ _ hji]
      exact h3.2.2
end

/-! ### The rules -/
/-- what is still to come of a region that draws; C: what every world on the way keeps -/
def Cx.any (Γ : Cx) (full : List Oper) (K : Kont) (M0 : PMem) (H0 : List Res) (fuel : Nat) (listed : List Bool) : Then :=
  fun a w => cls M0 H0 w ∧ anyC Γ.P Γ.r full.toArray K.q (cls M0 H0) fuel listed.toArray a w
section
variable {Γ : Cx} {dl : List Deferred} {f : Then} {e : Env} {M M0 : PMem} {H H0 : List Res} {K : Kont} {full : List Oper} {fuel : Nat} {listed : List Bool}
theorem q_panic (K : Kont) : ∀ ch a a' w, K.q (.panic ch) a w → K.q (.panic ch) a' w := fun _ _ _ _ h => h
theorem Y_region {id : Nat} {l : List Oper} (H0 : List Res) (hm : Γ.P.follows .mixedOrders = true) (h : Γ.R dl (Γ.any l K M H0 l.length (List.replicate l.length false)) e M H) : Γ.R dl (Γ.run (.region id l.toArray true) K) e M H := fun a w hk hd hs => by
  refine wpIn_region_draw fun t => ?_
  simp only [Region.schedule, hm, Bool.true_or, if_true]
  have h1 := (h a w.drew hk hd hs.drew).2
  have h2 := wpAnyIn_sound l.length t _ a w.drew (anyC_any _ _ _ _ h1)
  have : (List.replicate l.length false).toArray = Array.replicate l.toArray.size false := by simp
  rw [this] at h2
  exact h2
/-- may the operation i come, and does nothing that is left stand in its way? -/
def mayFirst (full : List Oper) (listed : List Bool) (i : Nat) : Bool :=
  (Region.ready .any full.toArray listed.toArray).contains i && plainOps full &&
  match full[i]? with
  | some oi => (List.range full.length).all fun j => match full[j]? with
    | some oj => j == i || listed.toArray.getD j true || oj.after.any (fun e => Region.binds .any e && e.on == i) || oi.apart full.toArray oj
    | none => true
  | none => false
theorem mayFirst_spec {i : Nat} {oi : Oper} (hi : full[i]? = some oi) (h : mayFirst full listed i = true) :
    i ∈ Region.ready .any full.toArray listed.toArray ∧ plainOps full = true ∧ (∀ j oj, full.toArray[j]? = some oj → j ≠ i → listed.toArray.getD j true = false → (∀ e ∈ oj.after, Region.binds .any e = true → e.on ≠ i) → oi.apart full.toArray oj = true) := by
  simp only [mayFirst, hi, Bool.and_eq_true] at h
  obtain ⟨⟨h1, h2⟩, h3⟩ := h
  refine ⟨by simpa using h1, h2, fun j oj hj hji hl he => ?_⟩
  have hj' : full[j]? = some oj := by simpa using hj
  have hlt : j < full.length := (List.getElem?_eq_some_iff.1 hj').1
  have h4 := List.all_eq_true.1 h3 j (List.mem_range.2 hlt)
  simp only [hj', Bool.or_eq_true] at h4
  rcases h4 with ((h4 | h4) | h4) | h4
  · exact absurd (by simpa using h4) hji
  · rw [hl] at h4; cases h4
  · obtain ⟨ed, hed, hb⟩ := Array.any_eq_true'.1 h4
    simp only [Bool.and_eq_true, beq_iff_eq] at hb
    exact absurd hb.2 (he ed hed hb.1)
  · exact h4
/-- A reading is taken first. -/
theorem Y_r (i : Nat) {op : Op} {d ty : Nat} {pos : String} {af : Array Edge} {g : Option (Nat × Bool)} {v : Value} (hi : full[i]? = some ⟨some d, op, ty, pos, af, g⟩) (h : Dv Γ.P e M0 H0 op v)
    (k : Γ.R dl (Γ.any full K M0 H0 fuel (listed.set i true)) ((d, v) :: e) M H) (hg : gv full e g = some true := by rfl) (hf : mayFirst full listed i = true := by kernel_rfl) (hdn : Nat.ble (d + 1) Γ.n = true := by rfl) :
    Γ.R dl (Γ.any full K M0 H0 (fuel + 1) listed) e M H := fun a w hk hd hs => by
  obtain ⟨h1, h2, h3⟩ := mayFirst_spec hi hf
  obtain ⟨hC, hA⟩ := k (a.put (some d) v) w (hk.put (Nat.le_of_ble_eq_true hdn) v) (by simpa [Act.put] using hd) hs
  refine ⟨hC, anyC_first (i := i) (oi := ⟨some d, op, ty, pos, af, g⟩) (v := v) (by simpa using hi) (fun j o hj => plainOps_spec h2 hj) (q_panic K) fuel listed.toArray a w h3 h1 hC (.inl ⟨gv_wanted hk hg, fun w' hw' => h.2 _ a w' _ _ _ _ _ hk hw'⟩) ?_⟩
  simpa using hA
/-- An operation that isn't carried out. -/
theorem Y_skip (i : Nat) {o : Oper} {d : Nat} (hi : full[i]? = some o) (hd : o.dst = some d)
    (k : Γ.R dl (Γ.any full K M0 H0 fuel (listed.set i true)) ((d, undef) :: e) M H) (hg : gv full e o.guard = some false := by rfl) (hf : mayFirst full listed i = true := by kernel_rfl) (hdn : Nat.ble (d + 1) Γ.n = true := by rfl) :
    Γ.R dl (Γ.any full K M0 H0 (fuel + 1) listed) e M H := fun a w hk hdl hs => by
  obtain ⟨h1, h2, h3⟩ := mayFirst_spec hi hf
  obtain ⟨hC, hA⟩ := k (a.put (some d) undef) w (hk.put (Nat.le_of_ble_eq_true hdn) undef) (by simpa [Act.put] using hdl) hs
  refine ⟨hC, anyC_first (i := i) (oi := o) (v := undef) (by simpa using hi) (fun j o hj => plainOps_spec h2 hj) (q_panic K) fuel listed.toArray a w h3 h1 hC (.inr ⟨gv_wanted hk hg, rfl⟩) ?_⟩
  rw [hd]
  simpa using hA
/-- what stands behind an operation with an effect -/
def Cx.past (Γ : Cx) (full : List Oper) (K : Kont) (M0 : PMem) (H0 : List Res) (fuel : Nat) (listed : List Bool) : Then :=
  fun a w => cls M0 H0 w ∧ Γ.any full K M0 H0 fuel listed a w
/-- Nothing else can come: the operation i, whatever it does. -/
theorem Y_o (i : Nat) {o : Oper} (hi : full[i]? = some o)
    (h : Γ.R dl (Γ.op o (Γ.past full K M0 H0 fuel (listed.set i true)) K) e M H) (hM : PMem.le M0 M) (hH : ∀ r ∈ H0, r ∈ H) (hr : Region.ready .any full.toArray listed.toArray = [i] := by kernel_rfl) (hg : gv full e o.guard = some true := by rfl) :
    Γ.R dl (Γ.any full K M0 H0 (fuel + 1) listed) e M H := fun a w hk hd hs => by
  refine ⟨hs.cls.mono hM hH, fun hnil => (by rw [hr] at hnil; cases hnil), fun j hj => ?_⟩
  rw [hr] at hj
  obtain rfl : j = i := by simpa using hj
  have hi' : full.toArray[j]? = some o := by simpa using hi
  unfold wpOpIn
  simp only [hi']
  rw [gv_wanted hk hg, if_pos rfl]
  refine ⟨fun f _ => fw_fn _ f, ?_⟩
  have := h a w hk hd hs
  simp only [List.setIfInBounds_toArray]
  refine (Oper.wpIn_mono (F := Fw Γ.r) (n := 0) (P := Γ.P) (o := o) (a := a) (w := w) (Q := K.q) (fun a' w' hh => ⟨hh.1, hh.2.2⟩) ⟨fun f _ => fw_fn _ f, this⟩).2
/-- Behind an operation with an effect: what every world on the way keeps may grow. -/
theorem Y_go (H1 : List Res) (hM : PMem.le M0 M) (hH : ∀ r ∈ H0, r ∈ H) (hH1 : ∀ r ∈ H0, r ∈ H1) (h : Γ.R dl (Γ.any full K M H1 fuel listed) e M H) : Γ.R dl (Γ.past full K M0 H0 fuel listed) e M H := fun a w hk hd hs => by
  have hc : ∀ w, cls M H1 w → cls M0 H0 w := fun w hw => hw.mono hM hH1
  have h1 := h a w hk hd hs
  exact ⟨hs.cls.mono hM hH, hc w h1.1, anyC_mono hc _ _ _ _ h1.2⟩
theorem Y_nil (h : Γ.R dl K.norm e M H) (hM : PMem.le M0 M) (hH : ∀ r ∈ H0, r ∈ H) (hr : Region.ready .any full.toArray listed.toArray = [] := by kernel_rfl) : Γ.R dl (Γ.any full K M0 H0 fuel listed) e M H := fun a w hk hd hs => by
  refine ⟨hs.cls.mono hM hH, ?_⟩
  cases fuel with
  | zero => exact ⟨hr, h a w hk hd hs⟩
  | succ n => exact ⟨fun _ => h a w hk hd hs, fun j hj => by rw [hr] at hj; cases hj⟩
/-- Several can come: each of them. -/
theorem Y_each (h : ∀ i ∈ Region.ready .any full.toArray listed.toArray, ∃ o, full[i]? = some o ∧ gv full e o.guard = some true ∧ Γ.R dl (Γ.op o (Γ.past full K M0 H0 fuel (listed.set i true)) K) e M H)
    (hM : PMem.le M0 M) (hH : ∀ r ∈ H0, r ∈ H) (hr : (Region.ready .any full.toArray listed.toArray).isEmpty = false := by kernel_rfl) :
    Γ.R dl (Γ.any full K M0 H0 (fuel + 1) listed) e M H := fun a w hk hd hs => by
  refine ⟨hs.cls.mono hM hH, fun hnil => (by rw [hnil] at hr; simp at hr), fun j hj => ?_⟩
  obtain ⟨o, hi, hg, hR⟩ := h j hj
  have hi' : full.toArray[j]? = some o := by simpa using hi
  unfold wpOpIn
  simp only [hi']
  rw [gv_wanted hk hg, if_pos rfl]
  refine ⟨fun f _ => fw_fn _ f, ?_⟩
  have := hR a w hk hd hs
  simp only [List.setIfInBounds_toArray]
  refine (Oper.wpIn_mono (F := Fw Γ.r) (n := 0) (P := Γ.P) (o := o) (a := a) (w := w) (Q := K.q) (fun a' w' hh => ⟨hh.1, hh.2.2⟩) ⟨fun f _ => fw_fn _ f, this⟩).2
end
/-! ### Up to an operation with an effect, by itself: behind it all may be otherwise -/
def anySo (P : Program) (r : Option Nat) (ops : Array Oper) (Q : Exit → Act → World → Prop) (C : World → Prop) (s : Nat) : Nat → Array Bool → Act → World → Prop
  | 0, listed, a, w => Region.ready .any ops listed = [] ∧ Q .normal a w
  | fuel + 1, listed, a, w => (Region.ready .any ops listed = [] → Q .normal a w) ∧
    ∀ i ∈ Region.ready .any ops listed, wpOpIn (Fw r) 0 P ops Q i (fun a' w' => if i = s then wpAnyIn (Fw r) 0 P .any ops Q fuel (listed.setIfInBounds i true) a' w' else C w' ∧ anySo P r ops Q C s fuel (listed.setIfInBounds i true) a' w') a w
section
variable {P : Program} {r : Option Nat} {ops : Array Oper} {Q : Exit → Act → World → Prop} {C : World → Prop} {s : Nat}
theorem anyS_any : ∀ (fuel : Nat) (listed : Array Bool) (a : Act) (w : World), anySo P r ops Q C s fuel listed a w → wpAnyIn (Fw r) 0 P .any ops Q fuel listed a w := by
  intro fuel
  induction fuel with
  | zero => exact fun _ _ _ h => h
  | succ fuel ih => exact fun listed a w h => ⟨h.1, fun i hi => wpOpIn_mono (fun a' w' hh => by
      split at hh
      · exact hh
      · exact ih _ _ _ hh.2) (h.2 i hi)⟩
theorem anyS_first {i : Nat} {oi : Oper} {v : Value} (hi : ops[i]? = some oi) (his : i ≠ s) (hsd : ∀ os, ops[s]? = some os → ∃ e ∈ os.after, Region.binds .any e = true ∧ e.on = i) (hsel : ∀ (j : Nat) (o : Oper), ops[j]? = some o → (∀ cs b, o.op ≠ .select cs b) ∧ (∀ c, o.op ≠ .defer c)) (hQ : ∀ ch a a' w, Q (.panic ch) a w → Q (.panic ch) a' w) :
    ∀ (fuel : Nat) (listed : Array Bool) (a : Act) (w : World),
      (∀ j oj, ops[j]? = some oj → j ≠ i → listed.getD j true = false → (∀ e ∈ oj.after, Region.binds .any e = true → e.on ≠ i) → oi.apart ops oj = true) →
      i ∈ Region.ready .any ops listed → C w → Yields P ops C oi v a →
      anySo P r ops Q C s fuel (listed.setIfInBounds i true) (a.put oi.dst v) w → anySo P r ops Q C s (fuel + 1) listed a w := by
  intro fuel
  induction fuel with
  | zero =>
    intro listed a w _ hr hC hy H
    refine ⟨fun h => (by rw [h] at hr; cases hr), fun j hj => ?_⟩
    by_cases hji : j = i
    · subst hji
      exact hy.now hi (hsel _ _ hi).2 hC (by rw [if_neg his]; exact ⟨hC, H⟩)
    · have := ready_mono hj hji
      rw [H.1] at this
      cases this
  | succ fuel ih =>
    intro listed a w hfree hr hC hy H
    refine ⟨fun h => (by rw [h] at hr; cases hr), fun j hj => ?_⟩
    by_cases hji : j = i
    · subst hji
      exact hy.now hi (hsel _ _ hi).2 hC (by rw [if_neg his]; exact ⟨hC, H⟩)
    · have h1 := H.2 j (ready_mono hj hji)
      obtain ⟨hjun, oj, hoj, hall⟩ := mem_ready.1 hj
      have hnot : ∀ e ∈ oj.after, Region.binds .any e = true → e.on ≠ i := fun e he hb heq => by
        have h1 := hall e he hb
        have h0 := (mem_ready.1 hr).1
        rw [heq] at h1
        rcases Nat.lt_or_ge i listed.size with h' | h'
        · simp [h'] at h0 h1; rw [h0] at h1; cases h1
        · simp [Array.getElem?_eq_none h'] at h1
      have hjs : j ≠ s := fun e => by
        subst e
        obtain ⟨ed, hed, hb, hon⟩ := hsd oj hoj
        exact hnot ed hed hb hon
      have h2 := wpOpIn_put hoj (hfree j oj hoj hji hjun hnot) (hsel i oi hi).1 (hsel j oj hoj).1 (hsel i oi hi).2 (hsel j oj hoj).2 hQ hy h1
      have hfree' : ∀ k ok, ops[k]? = some ok → k ≠ i → (listed.setIfInBounds j true).getD k true = false →
          (∀ e ∈ ok.after, Region.binds .any e = true → e.on ≠ i) → oi.apart ops ok = true := fun k ok hk hki hun hno => by
        refine hfree k ok hk hki ?_ hno
        by_cases hjk : j = k
        · subst hjk; exact hjun
        · rw [getD_set_ne true hjk] at hun; exact hun
      refine wpOpIn_mono (fun a' w' h3 => ?_) h2
      rw [if_neg hjs] at h3 ⊢
      refine ⟨h3.2.1, ih (listed.setIfInBounds j true) a' w' hfree' (ready_mono hr (Ne.symm hji)) h3.2.1 h3.1 ?_⟩
      rw [Array.setIfInBounds_comm _ _ hji]
      exact h3.2.2
end
/-- what is still to come, whatever may be of the world -/
def Cx.anyP (Γ : Cx) (full : List Oper) (K : Kont) (fuel : Nat) (listed : List Bool) : Then := fun a w => wpAnyIn (Fw Γ.r) 0 Γ.P .any full.toArray K.q fuel listed.toArray a w
/-- .. up to the operation s -/
def Cx.anyS (Γ : Cx) (full : List Oper) (K : Kont) (M0 : PMem) (H0 : List Res) (s fuel : Nat) (listed : List Bool) : Then :=
  fun a w => cls M0 H0 w ∧ anySo Γ.P Γ.r full.toArray K.q (cls M0 H0) s fuel listed.toArray a w
section
variable {Γ : Cx} {dl : List Deferred} {f : Then} {e : Env} {M M0 : PMem} {H H0 : List Res} {K : Kont} {full : List Oper} {fuel s : Nat} {listed : List Bool}
theorem Z_region {id : Nat} {l : List Oper} (hm : Γ.P.follows .mixedOrders = true) (h : Γ.R dl (Γ.anyP l K l.length (List.replicate l.length false)) e M H) : Γ.R dl (Γ.run (.region id l.toArray true) K) e M H := fun a w hk hd hs => by
  refine wpIn_region_draw fun t => ?_
  simp only [Region.schedule, hm, Bool.true_or, if_true]
  have h2 := wpAnyIn_sound l.length t _ a w.drew (h a w.drew hk hd hs.drew)
  have : (List.replicate l.length false).toArray = Array.replicate l.toArray.size false := by simp
  rw [this] at h2
  exact h2
theorem Z_enter (s : Nat) (h : Γ.R dl (Γ.anyS full K M H s fuel listed) e M H) : Γ.R dl (Γ.anyP full K fuel listed) e M H := fun a w hk hd hs => anyS_any _ _ _ _ (h a w hk hd hs).2
def mayFirstS (full : List Oper) (listed : List Bool) (s i : Nat) : Bool :=
  mayFirst full listed i && !(i == s) && match full[s]? with
  | some os => os.after.any (fun e => Region.binds .any e && e.on == i)
  | none => true
theorem Z_r (i : Nat) {op : Op} {d ty : Nat} {pos : String} {af : Array Edge} {g : Option (Nat × Bool)} {v : Value} (hi : full[i]? = some ⟨some d, op, ty, pos, af, g⟩) (h : Dv Γ.P e M0 H0 op v)
    (k : Γ.R dl (Γ.anyS full K M0 H0 s fuel (listed.set i true)) ((d, v) :: e) M H) (hg : gv full e g = some true := by rfl) (hf : mayFirstS full listed s i = true := by kernel_rfl) (hdn : Nat.ble (d + 1) Γ.n = true := by rfl) :
    Γ.R dl (Γ.anyS full K M0 H0 s (fuel + 1) listed) e M H := fun a w hk hd hs => by
  simp only [mayFirstS, Bool.and_eq_true] at hf
  obtain ⟨h1, h2, h3⟩ := mayFirst_spec hi hf.1.1
  obtain ⟨hC, hA⟩ := k (a.put (some d) v) w (hk.put (Nat.le_of_ble_eq_true hdn) v) (by simpa [Act.put] using hd) hs
  refine ⟨hC, anyS_first (i := i) (oi := ⟨some d, op, ty, pos, af, g⟩) (v := v) (by simpa using hi) (by simpa using hf.1.2) (fun os hos => ?_) (fun j o hj => plainOps_spec h2 hj) (q_panic K) fuel listed.toArray a w h3 h1 hC (.inl ⟨gv_wanted hk hg, fun w' hw' => h.2 _ a w' _ _ _ _ _ hk hw'⟩) ?_⟩
  · have hos' : full[s]? = some os := by simpa using hos
    have := hf.2
    rw [hos'] at this
    obtain ⟨ed, hed, hb⟩ := Array.any_eq_true'.1 this
    simp only [Bool.and_eq_true, beq_iff_eq] at hb
    exact ⟨ed, hed, hb.1, hb.2⟩
  · simpa using hA
/-- The one that can come: whatever it does. -/
theorem Z_o (i : Nat) {o : Oper} (hi : full[i]? = some o) (h : Γ.R dl (Γ.op o (Γ.anyP full K fuel (listed.set i true)) K) e M H) (hr : Region.ready .any full.toArray listed.toArray = [i] := by kernel_rfl) (hg : gv full e o.guard = some true := by rfl) :
    Γ.R dl (Γ.anyP full K (fuel + 1) listed) e M H := fun a w hk hd hs => by
  refine ⟨fun hnil => (by rw [hr] at hnil; cases hnil), fun j hj => ?_⟩
  rw [hr] at hj
  obtain rfl : j = i := by simpa using hj
  have hi' : full.toArray[j]? = some o := by simpa using hi
  unfold wpOpIn
  simp only [hi']
  rw [gv_wanted hk hg, if_pos rfl]
  refine ⟨fun f _ => fw_fn _ f, ?_⟩
  have := h a w hk hd hs
  simp only [List.setIfInBounds_toArray]
  exact (Oper.wpIn_mono (F := Fw Γ.r) (n := 0) (P := Γ.P) (o := o) (a := a) (w := w) (Q := K.q) (fun a' w' hh => hh) ⟨fun f _ => fw_fn _ f, this⟩).2
theorem Z_nil (h : Γ.R dl K.norm e M H) (hr : Region.ready .any full.toArray listed.toArray = [] := by kernel_rfl) : Γ.R dl (Γ.anyP full K fuel listed) e M H := fun a w hk hd hs => by
  cases fuel with
  | zero => exact ⟨hr, h a w hk hd hs⟩
  | succ n => exact ⟨fun _ => h a w hk hd hs, fun j hj => by rw [hr] at hj; cases hj⟩
/-- the operation s itself, alone -/
theorem Z_s {o : Oper} (hi : full[s]? = some o) (hM : PMem.le M0 M) (hH : ∀ r ∈ H0, r ∈ H) (h : Γ.R dl (Γ.op o (Γ.anyP full K fuel (listed.set s true)) K) e M H) (hr : Region.ready .any full.toArray listed.toArray = [s] := by kernel_rfl) (hg : gv full e o.guard = some true := by rfl) :
    Γ.R dl (Γ.anyS full K M0 H0 s (fuel + 1) listed) e M H := fun a w hk hd hs => by
  refine ⟨hs.cls.mono hM hH, fun hnil => (by rw [hr] at hnil; cases hnil), fun j hj => ?_⟩
  rw [hr] at hj
  obtain rfl : j = s := by simpa using hj
  have hi' : full.toArray[j]? = some o := by simpa using hi
  unfold wpOpIn
  simp only [hi']
  rw [gv_wanted hk hg, if_pos rfl]
  refine ⟨fun f _ => fw_fn _ f, ?_⟩
  have := h a w hk hd hs
  simp only [if_true, List.setIfInBounds_toArray]
  exact (Oper.wpIn_mono (F := Fw Γ.r) (n := 0) (P := Γ.P) (o := o) (a := a) (w := w) (Q := K.q) (fun a' w' hh => hh) ⟨fun f _ => fw_fn _ f, this⟩).2
/-- a reading that alone can come -/
theorem Z_one (i : Nat) {op : Op} {d ty : Nat} {pos : String} {af : Array Edge} {g : Option (Nat × Bool)} {v : Value} (hi : full[i]? = some ⟨some d, op, ty, pos, af, g⟩) (h : Dv Γ.P e M H op v)
    (k : Γ.R dl (Γ.anyP full K fuel (listed.set i true)) ((d, v) :: e) M H) (hg : gv full e g = some true := by rfl) (hr : Region.ready .any full.toArray listed.toArray = [i] := by kernel_rfl) (hdn : Nat.ble (d + 1) Γ.n = true := by rfl) :
    Γ.R dl (Γ.anyP full K (fuel + 1) listed) e M H :=
  Z_o i hi (E_val hdn h.1 fun a w hk hs => ⟨v, w, M, H, h.2 _ a w _ _ _ _ _ hk hs.cls, hs, k⟩) hr hg
/-- .. while something is kept -/
theorem Z_oneS (i : Nat) {op : Op} {d ty : Nat} {pos : String} {af : Array Edge} {g : Option (Nat × Bool)} {v : Value} (hi : full[i]? = some ⟨some d, op, ty, pos, af, g⟩) (h : Dv Γ.P e M H op v) (hM : PMem.le M0 M) (hH : ∀ r ∈ H0, r ∈ H)
    (k : Γ.R dl (Γ.anyS full K M0 H0 s fuel (listed.set i true)) ((d, v) :: e) M H) (hg : gv full e g = some true := by rfl) (hr : Region.ready .any full.toArray listed.toArray = [i] := by kernel_rfl) (his : (i == s) = false := by rfl) (hdn : Nat.ble (d + 1) Γ.n = true := by rfl) :
    Γ.R dl (Γ.anyS full K M0 H0 s (fuel + 1) listed) e M H := fun a w hk hd hs => by
  refine ⟨hs.cls.mono hM hH, fun hnil => (by rw [hr] at hnil; cases hnil), fun j hj => ?_⟩
  rw [hr] at hj
  obtain rfl : j = i := by simpa using hj
  have hi' : full.toArray[j]? = some ⟨some d, op, ty, pos, af, g⟩ := by simpa using hi
  unfold wpOpIn
  simp only [hi']
  rw [gv_wanted hk hg, if_pos rfl]
  refine ⟨fun f _ => fw_fn _ f, ?_⟩
  rw [semAt_ex _ _ h.1, h.2 _ a w _ _ _ _ _ hk hs.cls]
  have hne : j ≠ s := by simpa using his
  have := k (a.put (some d) v) w (hk.put (Nat.le_of_ble_eq_true hdn) v) (by simpa [Act.put] using hd) hs
  show (if j = s then _ else _)
  rw [if_neg hne]
  simp only [List.setIfInBounds_toArray]
  exact ⟨hs.cls.mono hM hH, this.2⟩
theorem Z_Y (h : Γ.R dl (Γ.any full K M H fuel listed) e M H) : Γ.R dl (Γ.anyP full K fuel listed) e M H := fun a w hk hd hs => anyC_any _ _ _ _ (h a w hk hd hs).2
end
end Go.Proofs.YtgmomhdammdjgaaGreat
