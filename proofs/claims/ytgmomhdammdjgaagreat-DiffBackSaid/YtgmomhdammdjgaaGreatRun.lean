/-
  The symbolic walk: one rule for each form of code and for each plain operation, over the separation layer's states. No condition: over any program.
-/
import Derived.Test.YtgmomhdammdjgaaGreatBase
set_option linter.unusedVariables false
set_option linter.unusedSimpArgs false
namespace Go.Proofs.YtgmomhdammdjgaaGreat
open Go Go.RowKit

structure Cx where
  P : Program
  r : Option Nat
  n : Nat
  w0 : World
  X : List Nat
  M0 : PMem
def Fw (r : Option Nat) : Fence := { Fence.wide with round := r }
theorem fw_fn (r : Option Nat) (f : FuncId) : (Fw r).fn f := trivial
theorem fw_room (r : Option Nat) (n : Nat) : (Fw r).room n := fun _ h => by simp [Fw, Fence.wide] at h
theorem callsIn_fw {r : Option Nat} {n : Nat} {P : Program} {f : FuncId} {args : Array Value} {w : World} {R : Ending → World → Prop} (h : Calls P f args w R) : CallsIn (Fw r) n P f args w R :=
  (callsIn_wide (n := n)).2 h

abbrev Then := Act → World → Prop
def exFind : List (Nat × Then) → Nat → Option Then
  | [], _ => none
  | (k, f) :: l, id => bif Nat.beq k id then some f else exFind l id
structure Kont where
  norm : Then
  ex : List (Nat × Then)
  ret : Then
def Kont.q (K : Kont) : Exit → Act → World → Prop
  | .normal => K.norm
  | .exit id => fun a w => ∃ f, exFind K.ex id = some f ∧ f a w
  | .ret => K.ret
  | _ => fun _ _ => False

/-- From whatever frame and world are as described, f holds. -/
def Cx.R (Γ : Cx) (dl : List Deferred) (f : Then) (e : Env) (M : PMem) (H : List Res) : Prop :=
  ∀ a w, Knows Γ.n e a → a.defers = dl → St Γ.w0 Γ.X Γ.M0 M H w → f a w
def Cx.run (Γ : Cx) (c : Code) (K : Kont) : Then := fun a w => c.wpIn (Fw Γ.r) 0 Γ.P K.q a w
def Cx.ops (Γ : Cx) (l full : List Oper) (K : Kont) : Then := fun a w => wpListIn (Fw Γ.r) 0 Γ.P full.toArray K.q l a w

section
variable {Γ : Cx} {dl : List Deferred} {f : Then} {e : Env} {M : PMem} {H : List Res} {K : Kont}
theorem R_seq {x y : Code} (h : Γ.R dl (Γ.run x { K with norm := Γ.run y K }) e M H) : Γ.R dl (Γ.run (.seq x y) K) e M H := fun a w hk hd hs => by
  refine wpIn_seq (wpIn_mono (h a w hk hd hs) (fun ex a w hq => ?_))
  cases ex <;> exact hq
theorem R_skip (h : Γ.R dl K.norm e M H) : Γ.R dl (Γ.run .skip K) e M H := fun a w hk hd hs => wpIn_skip (h a w hk hd hs)
theorem R_ret (h : Γ.R dl K.ret e M H) : Γ.R dl (Γ.run .ret K) e M H := fun a w hk hd hs => wpIn_ret (h a w hk hd hs)
theorem R_exit {id : Nat} {g : Then} (hf : exFind K.ex id = some g) (h : Γ.R dl g e M H) : Γ.R dl (Γ.run (.exit id) K) e M H := fun a w hk hd hs => wpIn_exit ⟨g, hf, h a w hk hd hs⟩
theorem R_block {id : Nat} {c : Code} (h : Γ.R dl (Γ.run c { K with ex := (id, K.norm) :: K.ex }) e M H) : Γ.R dl (Γ.run (.block id c) K) e M H := fun a w hk hd hs => by
  refine wpIn_block (wpIn_mono (h a w hk hd hs) (fun ex a w hq => ?_))
  cases ex with
  | exit id' =>
    obtain ⟨g, hg, hga⟩ := hq
    simp only [Exit.inBlock]
    by_cases hid : id' = id
    · rw [if_pos hid]
      have hb : Nat.beq id id' = true := by simp [hid]
      simp only [exFind, hb, cond_true, Option.some.injEq] at hg
      subst hg
      exact hga
    · rw [if_neg hid]
      have hb : Nat.beq id id' = false := by
        cases hq' : Nat.beq id id' with
        | false => rfl
        | true => exact absurd (Nat.eq_of_beq_eq_true hq').symm hid
      simp only [exFind, hb, cond_false] at hg
      exact ⟨g, hg, hga⟩
  | _ => exact hq
theorem R_cond {c : Operand} {x y : Code} {b : Bool} (hc : e.val c = some (.bool b)) (ht : b = true → Γ.R dl (Γ.run x K) e M H) (hf : b = false → Γ.R dl (Γ.run y K) e M H) :
    Γ.R dl (Γ.run (.cond c x y) K) e M H := fun a w hk hd hs => wpIn_cond_split (hk.eval hc) (fun h => ht h a w hk hd hs) (fun h => hf h a w hk hd hs)
theorem R_cond_t {c : Operand} {x y : Code} (hc : e.val c = some (.bool true)) (ht : Γ.R dl (Γ.run x K) e M H) : Γ.R dl (Γ.run (.cond c x y) K) e M H :=
  R_cond hc (fun _ => ht) (fun h => by cases h)
theorem R_cond_f {c : Operand} {x y : Code} (hc : e.val c = some (.bool false)) (hf : Γ.R dl (Γ.run y K) e M H) : Γ.R dl (Γ.run (.cond c x y) K) e M H :=
  R_cond hc (fun h => by cases h) (fun _ => hf)
theorem R_region {id : Nat} {l : List Oper} (h : Γ.R dl (Γ.ops l l K) e M H) : Γ.R dl (Γ.run (.region id l.toArray false) K) e M H := fun a w hk hd hs => wpIn_region_lit (h a w hk hd hs)
theorem R_nil {full : List Oper} (h : Γ.R dl K.norm e M H) : Γ.R dl (Γ.ops [] full K) e M H := fun a w hk hd hs => h a w hk hd hs
/-- Less is known. -/
theorem R_weak {e' : Env} (he : Env.sub e' e) (h : Γ.R dl f e' M H) : Γ.R dl f e M H := fun a w hk hd hs => h a w (hk.sub he) hd hs
theorem R_drop {H' : List Res} (hH : H'.Sublist H) (h : Γ.R dl f e M H') : Γ.R dl f e M H := fun a w hk hd hs => h a w hk hd (hs.drop hH)
theorem R_less {M' : PMem} (h0 : PMem.le Γ.M0 M) (hM : PMem.le M M') (h : Γ.R dl f e M H) : Γ.R dl f e M' H := fun a w hk hd hs => h a w hk hd (hs.less h0 hM)
theorem R_perm {H' : List Res} (hH : H'.Perm H) (h : Γ.R dl f e M H') : Γ.R dl f e M H := fun a w hk hd hs => h a w hk hd (hs.perm hH)
theorem R_freeze {b : Nat} {o : Obj} (h : PMem.le M (M.add b o) → (M.add b o) b = some o → Γ.R dl f e (M.add b o) H) : Γ.R dl f e M (.blk b o :: H) :=
  fun a w hk hd hs => h hs.freeze_add (PMem.add_same _ _ _) a w hk hd hs.freeze
/-- The memory that the function began with is still there. -/
theorem R_sub (h : PMem.le Γ.M0 M → Γ.R dl f e M H) : Γ.R dl f e M H := fun a w hk hd hs => h hs.sub a w hk hd hs
/-- A Bool in a slot, told apart. -/
theorem R_split (d : Nat) {b : Bool} (hb : e.find d = some (.bool b)) (ht : b = true → Γ.R dl f ((d, .bool true) :: e) M H) (hf : b = false → Γ.R dl f ((d, .bool false) :: e) M H) : Γ.R dl f e M H :=
  fun a w hk hd hs => by
    have hv := hk.at_ d _ hb
    cases b with
    | true => exact ht rfl a w ⟨hk.size, fun t v h => by
        rw [Env.find_cons] at h
        split at h
        · rename_i e1; subst e1; cases h; exact hv
        · exact hk.at_ t v h⟩ hd hs
    | false => exact hf rfl a w ⟨hk.size, fun t v h => by
        rw [Env.find_cons] at h
        split at h
        · rename_i e1; subst e1; cases h; exact hv
        · exact hk.at_ t v h⟩ hd hs

/-- A state that several ways come to. -/
def Cx.at (Γ : Cx) (dl : List Deferred) (e : Env) (M : PMem) (H : List Res) : Then := fun a w => Knows Γ.n e a ∧ a.defers = dl ∧ St Γ.w0 Γ.X Γ.M0 M H w
theorem R_at {e' : Env} (he : Env.sub e' e) : Γ.R dl (Γ.at dl e' M H) e M H := fun a w hk hd hs => ⟨hk.sub he, hd, hs⟩
theorem R_atx {e' : Env} {H' : List Res} (he : Env.sub e' e) (hH : H'.Sublist H) : Γ.R dl (Γ.at dl e' M H') e M H := fun a w hk hd hs => ⟨hk.sub he, hd, hs.drop hH⟩
/-- The code c, cut off behind: all its ways come to e'. -/
theorem R_join (e' : Env) {M' : PMem} {H' : List Res} {c : Code} (h1 : Γ.R dl (Γ.run c { K with norm := Γ.at dl e' M' H' }) e M H) (h2 : Γ.R dl K.norm e' M' H') : Γ.R dl (Γ.run c K) e M H := fun a w hk hd hs => by
  refine wpIn_mono (h1 a w hk hd hs) (fun ex a' w' hq => ?_)
  cases ex with
  | normal => exact h2 a' w' hq.1 hq.2.1 hq.2.2
  | _ => exact hq
/-- e with more in front is e, where the keys are others. -/
theorem Env.sub_app {e : Env} {ks : List Nat} (hks : ∀ t v, e.find t = some v → t ∈ ks) : ∀ (x : Env), x.all (fun p => !ks.contains p.1) = true → Env.sub e (x ++ e) := by
  intro x
  induction x with
  | nil => intro _; exact Env.sub_refl _
  | cons p x ih =>
    intro h t v hv
    simp only [List.all_cons, Bool.and_eq_true] at h
    rw [List.cons_append, Env.find_cons]
    have hne : ¬ p.1 = t := fun e1 => by
      have := hks t v hv
      rw [← e1] at this
      simp [this] at h
    rw [if_neg hne]
    exact ih h.2 t v hv
/-! ### Loops -/
/-- What a round must come back to: one of the states again, nearer to the end. -/
def Cx.back (Γ : Cx) (dl : List Deferred) {σ : Type} (I : σ → Env × PMem × List Res) (ok : σ → Prop) (μ : σ → Nat) (s : σ) : Then :=
  fun a w => ∃ s', ok s' ∧ μ s' < μ s ∧ Knows Γ.n (I s').1 a ∧ a.defers = dl ∧ St Γ.w0 Γ.X Γ.M0 (I s').2.1 (I s').2.2 w
theorem R_back {σ : Type} {I : σ → Env × PMem × List Res} {ok : σ → Prop} {μ : σ → Nat} {s : σ} (s' : σ) (hok : ok s') (hμ : μ s' < μ s)
    (he : Env.sub (I s').1 e) (hM : (I s').2.1 = M) (hH : (I s').2.2 = H) : Γ.R dl (Γ.back dl I ok μ s) e M H := fun a w hk hd hs =>
  ⟨s', hok, hμ, hk.sub he, hd, by rw [hM, hH]; exact hs⟩
theorem R_loop {σ : Type} (I : σ → Env × PMem × List Res) (ok : σ → Prop) (μ : σ → Nat) (s0 : σ) {c : Code} (hok : ok s0) (he : Env.sub (I s0).1 e) (hM : (I s0).2.1 = M) (hH : (I s0).2.2 = H)
    (h : ∀ s, ok s → Γ.R dl (Γ.run c { K with norm := Γ.back dl I ok μ s }) (I s).1 (I s).2.1 (I s).2.2) : Γ.R dl (Γ.run (.loop c) K) e M H := fun a w hk hd hs => by
  have key : ∀ n s, μ s = n → ok s → ∀ a w, Knows Γ.n (I s).1 a → a.defers = dl → St Γ.w0 Γ.X Γ.M0 (I s).2.1 (I s).2.2 w → (Code.loop c).wpIn (Fw Γ.r) 0 Γ.P K.q a w := by
    intro n s hn hoks a w hka hda hsa
    refine wpIn_loop (fun a w => ∃ s, ok s ∧ Knows Γ.n (I s).1 a ∧ a.defers = dl ∧ St Γ.w0 Γ.X Γ.M0 (I s).2.1 (I s).2.2 w)
      (fun a w => Classical.epsilon (fun m => (∃ s, μ s = m ∧ ok s ∧ Knows Γ.n (I s).1 a ∧ a.defers = dl ∧ St Γ.w0 Γ.X Γ.M0 (I s).2.1 (I s).2.2 w) ∧
        ∀ s, ok s → Knows Γ.n (I s).1 a → a.defers = dl → St Γ.w0 Γ.X Γ.M0 (I s).2.1 (I s).2.2 w → m ≤ μ s)) ⟨s, hoks, hka, hda, hsa⟩ ?_
    intro a w hI
    have least : ∀ a w, (∃ s, ok s ∧ Knows Γ.n (I s).1 a ∧ a.defers = dl ∧ St Γ.w0 Γ.X Γ.M0 (I s).2.1 (I s).2.2 w) →
        ∃ m, (∃ s, μ s = m ∧ ok s ∧ Knows Γ.n (I s).1 a ∧ a.defers = dl ∧ St Γ.w0 Γ.X Γ.M0 (I s).2.1 (I s).2.2 w) ∧
          ∀ s, ok s → Knows Γ.n (I s).1 a → a.defers = dl → St Γ.w0 Γ.X Γ.M0 (I s).2.1 (I s).2.2 w → m ≤ μ s := by
      intro a w ⟨s, hs⟩
      have : ∀ n s, μ s = n → (ok s ∧ Knows Γ.n (I s).1 a ∧ a.defers = dl ∧ St Γ.w0 Γ.X Γ.M0 (I s).2.1 (I s).2.2 w) → ∃ m, (∃ s, μ s = m ∧ ok s ∧ Knows Γ.n (I s).1 a ∧ a.defers = dl ∧ St Γ.w0 Γ.X Γ.M0 (I s).2.1 (I s).2.2 w) ∧
          ∀ s, ok s → Knows Γ.n (I s).1 a → a.defers = dl → St Γ.w0 Γ.X Γ.M0 (I s).2.1 (I s).2.2 w → m ≤ μ s := by
        intro n
        induction n using Nat.strongRecOn with
        | _ n ih =>
          intro s hn hs
          by_cases hx : ∃ s', μ s' < n ∧ ok s' ∧ Knows Γ.n (I s').1 a ∧ a.defers = dl ∧ St Γ.w0 Γ.X Γ.M0 (I s').2.1 (I s').2.2 w
          · obtain ⟨s', hlt, hs'⟩ := hx
            exact ih (μ s') hlt s' rfl hs'
          · refine ⟨n, ⟨s, hn, hs⟩, fun s' h1 h2 h3 h4 => ?_⟩
            rcases Nat.lt_or_ge (μ s') n with hlt | hge
            · exact absurd ⟨s', hlt, h1, h2, h3, h4⟩ hx
            · exact hge
      exact this _ s rfl hs
    obtain ⟨⟨s1, hm1, hok1, hk1, hd1, hs1⟩, hle1⟩ := Classical.epsilon_spec (least a w hI)
    refine wpIn_mono (h s1 hok1 a w hk1 hd1 hs1) (fun ex a' w' hq => ?_)
    cases ex with
    | normal =>
      obtain ⟨s', hok', hμ', hk', hd', hs'⟩ := hq
      have hI' : ∃ s, ok s ∧ Knows Γ.n (I s).1 a' ∧ a'.defers = dl ∧ St Γ.w0 Γ.X Γ.M0 (I s).2.1 (I s).2.2 w' := ⟨s', hok', hk', hd', hs'⟩
      refine ⟨hI', ?_⟩
      obtain ⟨_, hle'⟩ := Classical.epsilon_spec (least a' w' hI')
      have h1 := hle' s' hok' hk' hd' hs'
      omega
    | _ => exact hq
  exact key _ s0 rfl hok a w (hk.sub he) hd (by rw [hM, hH]; exact hs)

/-! ### Operations -/
/-- What a guard says by what is known of the slots. -/
def gv (full : List Oper) (e : Env) : Option (Nat × Bool) → Option Bool
  | none => some true
  | some (g, want) => match full[g]? with
    | some o => match o.dst with
      | some d => match e.find d with
        | some (.bool b) => some (b == want)
        | some _ => some false
        | none => none
      | none => none
    | none => none
theorem gv_wanted {full : List Oper} {o : Oper} {b : Bool} {a : Act} {n : Nat} (hk : Knows n e a) (hg : gv full e o.guard = some b) : Region.wanted o (yielded full.toArray a.tmps) = b := by
  unfold Region.wanted
  cases hgd : o.guard with
  | none => rw [hgd] at hg; simp [gv] at hg; simp [hg]
  | some p =>
    obtain ⟨g, want⟩ := p
    rw [hgd] at hg
    simp only [gv] at hg
    cases ho : full[g]? with
    | none => simp [ho] at hg
    | some o' =>
      cases hd : o'.dst with
      | none => simp [ho, hd] at hg
      | some d =>
        cases hf : e.find d with
        | none => simp [ho, hd, hf] at hg
        | some v =>
          have hv := hk.at_ d v hf
          by_cases hb : ∃ b', v = .bool b'
          · obtain ⟨b', rfl⟩ := hb
            simp [ho, hd, hf] at hg
            subst hg
            have hy : yielded full.toArray a.tmps g = some b' := by
              unfold yielded
              have : a.tmps[d]? = some (.bool b') := by
                simp only [Array.getD_eq_getD_getElem?] at hv
                cases hq : a.tmps[d]? with
                | none => simp [hq, undef] at hv
                | some u => simp [hq] at hv; rw [hv]
              simp [ho, hd, this]
            simp [hy]
          · have hg' : b = false := by
              cases v <;> simp_all
            subst hg'
            have hy : yielded full.toArray a.tmps g = none := by
              unfold yielded
              simp only [Array.getD_eq_getD_getElem?] at hv
              cases hq : a.tmps[d]? with
              | none => simp [ho, hd, hq]
              | some u =>
                simp [hq] at hv
                subst hv
                cases u <;> simp_all
            simp [hy]
theorem R_op {o : Oper} {l full : List Oper} (hg : gv full e o.guard = some true)
    (h : ∀ a w, Knows Γ.n e a → a.defers = dl → St Γ.w0 Γ.X Γ.M0 M H w → o.uponIn (Fw Γ.r) 0 Γ.P a (Γ.ops l full K) K.q ((o.semAt Γ.r a.eval).run Γ.P w)) : Γ.R dl (Γ.ops (o :: l) full K) e M H := fun a w hk hd hs => by
  show wpListIn _ _ _ _ _ _ _ _
  unfold wpListIn
  rw [gv_wanted hk hg, if_pos rfl]
  exact ⟨fun f _ => fw_fn _ f, h a w hk hd hs⟩
/-- An operation that isn't carried out. -/
theorem R_skipop {o : Oper} {l full : List Oper} {d : Nat} (hd : o.dst = some d) (hdn : Nat.ble (d + 1) Γ.n = true) (hg : gv full e o.guard = some false)
    (h : Γ.R dl (Γ.ops l full K) ((d, undef) :: e) M H) : Γ.R dl (Γ.ops (o :: l) full K) e M H := fun a w hk hdl hs => by
  show wpListIn _ _ _ _ _ _ _ _
  unfold wpListIn
  rw [gv_wanted hk hg, if_neg (by simp), hd]
  exact ⟨fun f _ => fw_fn _ f, h _ w (hk.put (Nat.le_of_ble_eq_true hdn) _) (by simpa [Act.put] using hdl) hs⟩
theorem R_skipnone {o : Oper} {l full : List Oper} (hd : o.dst = none) (hg : gv full e o.guard = some false)
    (h : Γ.R dl (Γ.ops l full K) e M H) : Γ.R dl (Γ.ops (o :: l) full K) e M H := fun a w hk hdl hs => by
  show wpListIn _ _ _ _ _ _ _ _
  unfold wpListIn
  rw [gv_wanted hk hg, if_neg (by simp), hd]
  exact ⟨fun f _ => fw_fn _ f, h _ w hk hdl hs⟩
theorem semAt_ex {o : Oper} (r : Option Nat) (ρ : Operand → Value) (h : ∀ c, o.op ≠ .defer c) : o.semAt r ρ = execOp ρ o := Oper.semAt_eq r ρ o h
/-- One operation, carried out; f holds behind it. -/
def Cx.op (Γ : Cx) (o : Oper) (f : Then) (K : Kont) : Then := fun a w => o.uponIn (Fw Γ.r) 0 Γ.P a f K.q ((o.semAt Γ.r a.eval).run Γ.P w)
theorem R_o {o : Oper} {l full : List Oper} (h : Γ.R dl (Γ.op o (Γ.ops l full K) K) e M H) (hg : gv full e o.guard = some true := by rfl) : Γ.R dl (Γ.ops (o :: l) full K) e M H :=
  R_op hg fun a w hk hd hs => h a w hk hd hs
/-- An operation that hands a value back; what becomes of memory is its own. -/
theorem E_val {op : Op} {d ty : Nat} {pos : String} {af : Array Edge} {g : Option (Nat × Bool)} (hdn : Nat.ble (d + 1) Γ.n = true) (hnd : ∀ c, op ≠ .defer c)
    (h : ∀ a w, Knows Γ.n e a → St Γ.w0 Γ.X Γ.M0 M H w → ∃ v w' M' H', (execOp a.eval ⟨some d, op, ty, pos, af, g⟩).run Γ.P w = .ok (.value v) w' ∧ St Γ.w0 Γ.X Γ.M0 M' H' w' ∧ Γ.R dl f ((d, v) :: e) M' H') :
    Γ.R dl (Γ.op ⟨some d, op, ty, pos, af, g⟩ f K) e M H := fun a w hk hd hs => by
  obtain ⟨v, w', M', H', hrun, hs', hR⟩ := h a w hk hs
  show Oper.uponIn _ _ _ _ _ _ _ _
  rw [semAt_ex _ _ hnd, hrun]
  exact hR _ _ (hk.put (Nat.le_of_ble_eq_true hdn) v) (by simpa [Act.put] using hd) hs'
/-- One that hands none back (a store). -/
theorem E_unit {op : Op} {ty : Nat} {pos : String} {af : Array Edge} {g : Option (Nat × Bool)} (hnd : ∀ c, op ≠ .defer c)
    (h : ∀ a w, Knows Γ.n e a → St Γ.w0 Γ.X Γ.M0 M H w → ∃ w' M' H', (execOp a.eval ⟨none, op, ty, pos, af, g⟩).run Γ.P w = .ok .skip w' ∧ St Γ.w0 Γ.X Γ.M0 M' H' w' ∧ Γ.R dl f e M' H') :
    Γ.R dl (Γ.op ⟨none, op, ty, pos, af, g⟩ f K) e M H := fun a w hk hd hs => by
  obtain ⟨w', M', H', hrun, hs', hR⟩ := h a w hk hs
  show Oper.uponIn _ _ _ _ _ _ _ _
  rw [semAt_ex _ _ hnd, hrun]
  exact hR _ _ hk hd hs'
/-- What a reading needs of the world. -/
def cls (M : PMem) (H : List Res) (w : World) : Prop := Lies M w ∧ ∀ r ∈ H, r.holds w
theorem _root_.Go.Proofs.YtgmomhdammdjgaaGreat.St.cls {w0 : World} {X : List Nat} {M0 M : PMem} {H : List Res} {w : World} (h : St w0 X M0 M H w) : cls M H w := ⟨h.mem, h.own⟩
theorem cls.mono {M M' : PMem} {H H' : List Res} {w : World} (h : cls M' H' w) (hM : PMem.le M M') (hH : ∀ r ∈ H, r ∈ H') : cls M H w := ⟨fun b o hb => h.1 b o (hM b o hb), fun r hr => h.2 r (hH r hr)⟩
/-- An operation that reads and computes alone. -/
def Dv (P : Program) (e : Env) (M : PMem) (H : List Res) (op : Op) (v : Value) : Prop :=
  (∀ c, op ≠ .defer c) ∧ ∀ (n : Nat) (a : Act) (w : World) (d : Option Nat) (ty : Nat) (pos : String) (af : Array Edge) (g : Option (Nat × Bool)), Knows n e a → cls M H w → (execOp a.eval ⟨d, op, ty, pos, af, g⟩).run P w = .ok (.value v) w
theorem R_r {op : Op} {d ty : Nat} {pos : String} {af : Array Edge} {g : Option (Nat × Bool)} {l full : List Oper} {v : Value} (h : Dv Γ.P e M H op v) (k : Γ.R dl (Γ.ops l full K) ((d, v) :: e) M H)
    (hg : gv full e g = some true := by rfl) (hdn : Nat.ble (d + 1) Γ.n = true := by rfl) : Γ.R dl (Γ.ops (⟨some d, op, ty, pos, af, g⟩ :: l) full K) e M H :=
  R_o (E_val hdn h.1 fun a w hk hs => ⟨v, w, M, H, h.2 _ a w _ _ _ _ _ hk hs.cls, hs, k⟩) hg
end
end Go.Proofs.YtgmomhdammdjgaaGreat
