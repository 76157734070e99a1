/-
  A range over a function, a function that hands its answers to a function value; a state that is told by the world alone. No condition: over any program.
-/
import Derived.Test.YtgmomhdammdjgaaGreatWith
import Derived.RangeFuncLeaves
import Derived.RangeFuncStops
import Derived.RangeFuncNested
set_option linter.unusedVariables false
set_option linter.unusedSimpArgs false
namespace Go.Proofs.YtgmomhdammdjgaaGreat
open Go Go.RowKit

/-! ### 1. A function value, called -/
/-- what a call of a function value comes to: a function's, or a loop's round -/
def CallAt (P : Program) (fv : Value) (args : List Value) (w : World) (R : Ending → World → Prop) : Prop :=
  (∃ fid cap, fv = .func (.func fid) #[] cap ∧ (∀ (args : Array Value) (w : World), (callFunc fid args).run P w = .ok (.enter fid args) w) ∧ Calls P fid (args.toArray ++ cap) w R) ∨
  (∃ l, fv = .func (.yield l) #[] #[] ∧ YieldAt Fence.wide 0 P l args.toArray w R)
theorem CallAt.mono {P : Program} {fv : Value} {args : List Value} {w : World} {R R' : Ending → World → Prop} (h : CallAt P fv args w R) (hr : ∀ e w', R e w' → R' e w') : CallAt P fv args w R' := by
  rcases h with ⟨fid, cap, h1, h2, h3⟩ | ⟨l, h1, fn, tmps, asg, body, h2, h3⟩
  · exact .inl ⟨fid, cap, h1, h2, h3.mono hr⟩
  · exact .inr ⟨l, h1, fn, tmps, asg, body, h2, h3.mono hr⟩
theorem lies_none (w : World) : Lies (fun _ => none) w := fun b o h => by cases h
/-- the walk, begun anew at a world -/
def Cx.from (Γ : Cx) (w : World) (M : PMem) : Cx := { Γ with w0 := w, X := [], M0 := M }
section
variable {Γ : Cx} {dl : List Deferred} {f : Then} {e : Env} {M : PMem} {H : List Res} {K : Kont} {d ty : Nat} {pos : String} {af : Array Edge} {g : Option (Nat × Bool)}
theorem R_eqH {H' : List Res} (h : H = H') (k : Γ.R dl f e M H') : Γ.R dl f e M H := h ▸ k
theorem Kept.trans0 {a b c : World} (h : Kept [] a b) (k : Kept [] b c) : Kept [] a c :=
  ⟨k.os.trans h.os, k.tape.trans h.tape, k.output.trans h.output, Nat.le_trans h.size k.size, fun i hi hx => (k.block i (Nat.lt_of_lt_of_le hi h.size) hx).trans (h.block i hi hx), Nat.le_trans h.drawn k.drawn⟩
theorem Kept.lies {M : PMem} {w w' : World} (h : Kept [] w w') (hM : Lies M w) : Lies M w' := fun b o hb => by
  have := hM b o hb
  rw [h.block b (Array.getElem?_eq_some_iff.1 this).1 (by simp)]; exact this
theorem Kept.drew (w : World) : Kept [] w w.drew := ⟨rfl, rfl, rfl, Nat.le_refl _, fun _ _ _ => rfl, Nat.le_succ _⟩
/-- What is known, and what is owned, stands where nothing of it was turned. -/
theorem _root_.Go.Proofs.YtgmomhdammdjgaaGreat.St.later {w0 : World} {X : List Nat} {M0 M : PMem} {H : List Res} {w w' : World} (h : St w0 X M0 M H w) (k : Kept [] w w') : St w0 X M0 M H w' :=
  ⟨⟨k.os.trans h.kept.os, k.tape.trans h.kept.tape, k.output.trans h.kept.output, Nat.le_trans h.kept.size k.size, fun i hi hx => (k.block i (Nat.lt_of_lt_of_le hi h.kept.size) (by simp)).trans (h.kept.block i hi hx), Nat.le_trans h.kept.drawn k.drawn⟩,
    h.sub, k.lies h.mem, h.new, fun r hr => Res.holds_of (h.own r hr) (fun b hb => k.block b (Res.holds_lt (h.own r hr) hb) (by simp)), h.free, h.apart⟩
/-- A function value is called; the walk goes on in the world that it left. -/
theorem E_callQ {c : Operand} {xs : List Operand} {at_ : Array TypeId} {vs : List Value} {fv : Value} {l full : List Oper} {Q : World → Prop} {Post : Value → World → Prop}
    (hc : e.val c = some fv) (hx : e.vals xs = some vs) (hQ : ∀ w, St Γ.w0 Γ.X Γ.M0 M H w → Q w)
    (hcall : ∀ w, Q w → CallAt Γ.P fv vs w (fun en w' => ∃ v, en = .returned v ∧ Post v w'))
    (k : ∀ v w', Post v w' → ∃ M', Lies M' w' ∧ (Γ.from w' M').R dl ((Γ.from w' M').ops l full K) ((d, v) :: e) M' []) (hdn : Nat.ble (d + 1) Γ.n = true := by rfl) :
    Γ.R dl (Γ.op ⟨some d, .call ⟨.value c, xs.toArray, at_⟩, ty, pos, af, g⟩ (Γ.ops l full K) K) e M H := fun a w hk hd hs => by
  have hargs := hk.evals hx
  have hmap : xs.toArray.map a.eval = vs.toArray := by rw [← hargs]; simp
  have fin : ∀ v w', Post v w' → (Γ.ops l full K) (a.put (some d) v) w' := fun v w' hp => by
    obtain ⟨M', hM', hR⟩ := k v w' hp
    exact hR _ _ (hk.put (Nat.le_of_ble_eq_true hdn) v) (by simpa [Act.put] using hd) (St.start hM')
  show Oper.uponIn _ _ _ _ _ _ _ _
  rw [semAt_ex _ _ (fun _ h => by cases h)]
  rcases hcall w (hQ w hs) with ⟨fid, cap, rfl, hen, hcalls⟩ | ⟨lp, rfl, fn, tmps, asg, body, hy, hR⟩
  · have hrun : (execOp a.eval ⟨some d, .call ⟨.value c, xs.toArray, at_⟩, ty, pos, af, g⟩).run Γ.P w = .ok (.enter fid (vs.toArray ++ cap)) w := by
      simp [execOp, resolve, hmap, hk.eval hc, Deferred.ofValue, invoke, hen]
    rw [hrun]
    refine ⟨fun h => by simp [Fw, Fence.wide] at h, callsIn_fw (hcalls.mono ?_)⟩
    rintro en w' ⟨v, rfl, hp⟩
    exact fin v w' hp
  · have hrun : (execOp a.eval ⟨some d, .call ⟨.value c, xs.toArray, at_⟩, ty, pos, af, g⟩).run Γ.P w = .ok (.round lp fn tmps asg body) w := by
      simp [execOp, resolve, hmap, hk.eval hc, Deferred.ofValue, invoke, hy]
    rw [hrun, Oper.uponIn_round]
    refine ⟨fun h => by simp [Fw, Fence.wide] at h, ?_⟩
    refine RoundIn.mono (R := fun en w' => ∃ v, en = .returned v ∧ Post v w') (show RoundIn Fence.wide 0 Γ.P lp fn tmps asg body w _ from hR) ?_
    rintro en w' ⟨v, rfl, hp⟩
    exact fin v w' hp
/-- a loop, by whatever relation of states -/
theorem loop_gen {σ : Type} (S : σ → Act → World → Prop) (μ : σ → Nat) {c : Code} (h : ∀ s a w, S s a w → (Γ.run c { K with norm := fun a w => ∃ s', μ s' < μ s ∧ S s' a w }) a w) :
    ∀ s a w, S s a w → Γ.run (.loop c) K a w := by
  intro s a w hs
  have least : ∀ a w, (∃ s, S s a w) → ∃ m, (∃ s, μ s = m ∧ S s a w) ∧ ∀ s, S s a w → m ≤ μ s := by
    intro a w ⟨s, hs⟩
    have : ∀ n s, μ s = n → S s a w → ∃ m, (∃ s, μ s = m ∧ S s a w) ∧ ∀ s, S s a w → m ≤ μ s := by
      intro n
      induction n using Nat.strongRecOn with
      | _ n ih =>
        intro s hn hs
        by_cases hx : ∃ s', μ s' < n ∧ S s' a w
        · obtain ⟨s', hlt, hs'⟩ := hx
          exact ih (μ s') hlt s' rfl hs'
        · refine ⟨n, ⟨s, hn, hs⟩, fun s' h1 => ?_⟩
          rcases Nat.lt_or_ge (μ s') n with hlt | hge
          · exact absurd ⟨s', hlt, h1⟩ hx
          · exact hge
    exact this _ s rfl hs
  refine wpIn_loop (fun a w => ∃ s, S s a w) (fun a w => Classical.epsilon (fun m => (∃ s, μ s = m ∧ S s a w) ∧ ∀ s, S s a w → m ≤ μ s)) ⟨s, hs⟩ ?_
  intro a w hI
  obtain ⟨⟨s1, hm1, hs1⟩, hle1⟩ := Classical.epsilon_spec (least a w hI)
  refine wpIn_mono (h s1 a w hs1) (fun ex a' w' hq => ?_)
  cases ex with
  | normal =>
    obtain ⟨s', hμ', hs'⟩ := hq
    refine ⟨⟨s', hs'⟩, ?_⟩
    obtain ⟨_, hle'⟩ := Classical.epsilon_spec (least a' w' ⟨s', hs'⟩)
    have h1 := hle' s' hs'
    omega
  | _ => exact hq
/-- what a round must come back to -/
def Cx.backQ (Γ : Cx) (dl : List Deferred) {σ : Type} (I : σ → Env) (ok : σ → World → Prop) (μ : σ → Nat) (s : σ) : Then :=
  fun a w => ∃ s', μ s' < μ s ∧ Knows Γ.n (I s') a ∧ a.defers = dl ∧ ok s' w
/-- a loop whose state is told by the world alone -/
theorem R_loopQ {σ : Type} (I : σ → Env) (ok : σ → World → Prop) (M' : PMem) (μ : σ → Nat) (s0 : σ) {c : Code} (hM : ∀ s w, ok s w → Lies M' w) (hok : ∀ w, St Γ.w0 Γ.X Γ.M0 M H w → ok s0 w) (he : Env.sub (I s0) e)
    (h : ∀ s w, ok s w → (Γ.from w M').R dl ((Γ.from w M').run c { K with norm := Γ.backQ dl I ok μ s }) (I s) M' []) : Γ.R dl (Γ.run (.loop c) K) e M H := fun a w hk hd hs => by
  refine loop_gen (K := K) (fun s a w => Knows Γ.n (I s) a ∧ a.defers = dl ∧ ok s w) μ (fun s a w hq => ?_) s0 a w ⟨hk.sub he, hd, hok w hs⟩
  obtain ⟨h1, h2, h3⟩ := hq
  exact h s w h3 a w h1 h2 (St.start (hM s w h3))
theorem R_backQ {σ : Type} {Γ' : Cx} {I : σ → Env} {ok : σ → World → Prop} {μ : σ → Nat} {s : σ} (s' : σ) (hok : ∀ w, St Γ'.w0 Γ'.X Γ'.M0 M H w → ok s' w) (hμ : μ s' < μ s) (he : Env.sub (I s') e) (hn : Γ'.n = Γ.n := by rfl) : Γ'.R dl (Γ.backQ dl I ok μ s) e M H := fun a w hk hd hs =>
  ⟨s', hμ, by rw [← hn]; exact hk.sub he, hd, hok w hs⟩
structure finQ (fn : Func) (P : Program) (R : Ending → World → Prop) (a : Act) (w' : World) : Prop where
  defers : a.defers = []
  res : ∃ v, (results fn a.tmps).run P w' = .ok v w' ∧ R (.returned v) w'
/-- into a function, out of it with whatever is said of the world -/
theorem calls_enterQ {P : Program} {f : Nat} {fn : Func} {c : Code} {args : List Value} {w : World} {M : PMem} {R : Ending → World → Prop}
    (hf : P.funcs[f]? = some fn) (hb : fn.body = some c) {n : Nat} (hn : fn.ntmps = n) (hle : Nat.ble args.length n = true) (hM : Lies M w)
    (h : (Cx.mk P none n w [] M).R [] ((Cx.mk P none n w [] M).run c (finK (finQ fn P R))) (argEnv 0 args) M []) :
    Calls P f args.toArray w R := by
  have hle' := Nat.le_of_ble_eq_true hle
  refine (callsIn_wide (n := 0)).1 (callsIn_of_wp hf hb trivial ?_ rfl)
  have hk : Knows n (argEnv 0 args) { tmps := args.toArray ++ Array.replicate (fn.ntmps - args.toArray.size) undef, defers := [] } := by
    refine ⟨by simp; omega, fun t v hv => ?_⟩
    obtain ⟨_, h2⟩ := argEnv_find args 0 t v hv
    have hlt : t < args.length := (List.getElem?_eq_some_iff.1 h2).1
    simp only [Nat.sub_zero] at h2
    rw [Array.getD_eq_getD_getElem?, Array.getElem?_append_left (by simpa using hlt)]
    simp [h2]
  refine wpIn_mono (h _ w hk rfl (St.start hM)) (fun ex a' w' hq => ?_)
  cases ex with
  | normal => obtain ⟨hd, v, hr, hp⟩ := hq; exact ⟨hd, v, hr, hp⟩
  | ret => obtain ⟨hd, v, hr, hp⟩ := hq; exact ⟨hd, v, hr, hp⟩
  | exit id => obtain ⟨g, hg, _⟩ := hq; simp [finK, exFind] at hg
  | goto l => exact hq.elim
  | panic ch => exact hq.elim
  | outgrown => exact hq.elim
/-- out of it: no results, or one -/
theorem R_finQ0 {fn : Func} {P : Program} {R : Ending → World → Prop} (hr : fn.results = #[]) (hp : ∀ w, St Γ.w0 Γ.X Γ.M0 M H w → R (.returned (.tuple #[])) w) :
    Γ.R [] (finQ fn P R) e M H := fun a w hk hd hs => ⟨hd, _, results_none hr _ _ _, hp w hs⟩
theorem R_finQ1 {fn : Func} {P : Program} {R : Ending → World → Prop} {t : Nat} {v : Value} (hr : fn.results = #[.tmp t]) (hv : e.find t = some v) (hp : ∀ w, St Γ.w0 Γ.X Γ.M0 M H w → R (.returned v) w) :
    Γ.R [] (finQ fn P R) e M H := fun a w hk hd hs => ⟨hd, v, by rw [results_tmp hr, hk.at_ t v hv], hp w hs⟩
end

/-! ### 2. An iterator -/
/-- What the rounds keep: a state for each place; it abides whatever turns nothing. -/
structure Rounds (P : Program) (M : PMem) (fv : Value) (items : List (List Value)) (Q : Nat → World → Prop) (Qx : World → Prop) : Prop where
  lies : ∀ i W, Q i W → Lies M W
  kept : ∀ i W W', Q i W → Kept [] W W' → Q i W'
  keptx : ∀ W W', Qx W → Kept [] W W' → Qx W'
  round : ∀ i args W, items[i]? = some args → Q i W → CallAt P fv args W fun e W' => ∃ v, e = .returned v ∧ ((v = .bool true ∧ Q (i + 1) W') ∨ (v = .bool false ∧ Qx W'))
/-- The function fid, called with these arguments (the function value among them), hands these items to it, one behind the other. -/
def Feeds (P : Program) (M : PMem) (fid : Nat) (args : List Value) (fv : Value) (items : List (List Value)) (post : Value → Bool → Prop) : Prop :=
  ∀ (Q : Nat → World → Prop) (Qx : World → Prop), Rounds P M fv items Q Qx → ∀ W, Q 0 W →
    Calls P fid args.toArray W fun e W' => ∃ v, e = .returned v ∧ ((post v true ∧ Q items.length W') ∨ (post v false ∧ Qx W'))
def Iter (P : Program) (M : PMem) (gf : Nat) (lb : List Value) (items : List (List Value)) : Prop :=
  ∀ fv, Feeds P M gf (fv :: lb) fv items (fun _ _ => True)
theorem Rounds.le {P : Program} {M M' : PMem} {fv : Value} {items : List (List Value)} {Q : Nat → World → Prop} {Qx : World → Prop} (h : Rounds P M' fv items Q Qx) (hM : PMem.le M M') : Rounds P M fv items Q Qx :=
  ⟨fun i W hq b o hb => h.lies i W hq b o (hM b o hb), h.kept, h.keptx, h.round⟩
theorem Iter.le {P : Program} {M M' : PMem} {gf : Nat} {lb : List Value} {items : List (List Value)} (h : Iter P M gf lb items) (hM : PMem.le M M') : Iter P M' gf lb items :=
  fun fv Q Qx hr => h fv Q Qx (hr.le hM)
/-- the rounds of a part of the items -/
theorem Rounds.part {P : Program} {M : PMem} {fv : Value} {items sub : List (List Value)} {Q : Nat → World → Prop} {Qx : World → Prop} (h : Rounds P M fv items Q Qx) (k : Nat) (hs : ∀ i x, sub[i]? = some x → items[k + i]? = some x) : Rounds P M fv sub (fun i => Q (k + i)) Qx :=
  ⟨fun i W => h.lies _ W, fun i W W' => h.kept _ W W', h.keptx, fun i args W hi hq => h.round (k + i) args W (hs i args hi) hq⟩

/-! ### 3. The statement -/
def book (l D : Nat) (r : Loop) : List Res := [.blk l (.loop r), .blk D (.deferred (some []))]
theorem St_book {w0 : World} {X : List Nat} {M0 M : PMem} {H : List Res} {w : World} {l D : Nat} {r : Loop} (h : St w0 X M0 M (H ++ book l D r) w) (r' : Loop) : St w0 X M0 M (H ++ book l D r') (w.putObj l (.loop r')) := by
  have hi : (H ++ book l D r)[H.length]? = some (.blk l (.loop r)) := by simp [book]
  have hl : w.heap[l]? = some (.loop r) := h.own _ (List.mem_of_getElem? hi)
  have := h.turn hi (.blk l (.loop r')) (grownBy_putObj' w l (.loop r')) (Nat.le_refl _) (World.putObj_heap_same (Array.getElem?_eq_some_iff.1 hl).1) (fun b hb => .inl hb)
  rwa [List.set_append_right _ _ (Nat.le_refl _), Nat.sub_self] at this
theorem St_book_at {w0 : World} {X : List Nat} {M0 M : PMem} {H : List Res} {w : World} {l D : Nat} {r : Loop} (h : St w0 X M0 M (H ++ book l D r) w) : w.heap[l]? = some (.loop r) :=
  h.own (.blk l (.loop r)) (by simp [book])
/-- a round, begun: the loop's own block is turned -/
def Cx.beginK (Γ : Cx) (l D : Nat) (rec : Loop) (J : PMem → List Res → Prop) (body : Code) : Kont :=
  ⟨fun a w => ∃ e2 M2 H2, Knows Γ.n e2 a ∧ a.defers = [] ∧ St Γ.w0 Γ.X Γ.M0 M2 (H2 ++ book l D rec) w ∧
      ∀ rec', Γ.R [] (Γ.run body ⟨fun _ w => ∃ M3 H3, J M3 H3 ∧ St Γ.w0 Γ.X Γ.M0 M3 (H3 ++ book l D rec') w, [], fun _ _ => False⟩) e2 M2 (H2 ++ book l D rec'), [], fun _ _ => False⟩
section
variable {Γ : Cx} {dl : List Deferred} {f : Then} {e : Env} {M : PMem} {H : List Res} {K : Kont}
theorem R_begin {l D : Nat} {J : PMem → List Res → Prop} {body : Code} {rec : Loop} (H2 : List Res) (he : H = H2 ++ book l D rec) (h : ∀ rec', Γ.R [] (Γ.run body ⟨fun _ w => ∃ M3 H3, J M3 H3 ∧ St Γ.w0 Γ.X Γ.M0 M3 (H3 ++ book l D rec') w, [], fun _ _ => False⟩) e M (H2 ++ book l D rec')) :
    Γ.R [] (Γ.beginK l D rec J body).norm e M H := fun a w hk hd hs => ⟨e, M, H2, hk, hd, he ▸ hs, h⟩
theorem R_endRound {l D : Nat} {J : PMem → List Res → Prop} {rec' : Loop} (H2 : List Res) (he : H = H2 ++ book l D rec') (h : J M H2) : Γ.R [] (fun _ w => ∃ M3 H3, J M3 H3 ∧ St Γ.w0 Γ.X Γ.M0 M3 (H3 ++ book l D rec') w) e M H :=
  fun a w hk hd hs => ⟨M, H2, h, he ▸ hs⟩
/-- the parameters of a round -/
def penv : List Nat → List Value → Env
  | p :: ps, v :: vs => (p, v) :: penv ps vs
  | _, _ => []
theorem Knows.params {n : Nat} {e : Env} : ∀ {ps : List Nat} {vs : List Value} {tmps : Array Value}, Knows n e { tmps := tmps, defers := [] } → (∀ p ∈ ps, p < n) →
    ∃ e', Knows n e' { tmps := (ps.zip vs).foldl (fun t (p, v) => t.setIfInBounds p v) tmps, defers := [] } ∧ e' = (penv ps vs).reverse ++ e := by
  intro ps
  induction ps generalizing e with
  | nil => intro vs tmps h _; exact ⟨e, by simpa [List.zip] using h, by simp [penv]⟩
  | cons p ps ih =>
    intro vs tmps h hp
    cases vs with
    | nil => exact ⟨e, by simpa [List.zip] using h, by simp [penv]⟩
    | cons v vs =>
      have h1 := h.put (hp p (List.mem_cons_self)) v
      obtain ⟨e', h2, h3⟩ := ih (vs := vs) (tmps := tmps.setIfInBounds p v) (by simpa [Act.put] using h1) (fun q hq => hp q (List.mem_cons_of_mem _ hq))
      exact ⟨e', by simpa [List.zip] using h2, by rw [h3]; simp [penv]⟩
/-- **A range over a function**, in a function's own frame. J i: what is known, and what is owned, when i items have come. -/
theorem R_rangeFunc {g : Operand} {ps : List Nat} {assign body : Code} {gf : Nat} {lb : List Value} {items : List (List Value)} (J : Nat → PMem → List Res → Prop)
    (hro : Γ.r = none) (hg : e.val g = some (.func (.func gf) #[] lb.toArray)) (hen : ∀ (args : Array Value) (w : World), (callFunc gf args).run Γ.P w = .ok (.enter gf args) w)
    (hit : Iter Γ.P M gf lb items) (hps : ∀ x ∈ items, x.length = ps.length) (hpn : (ps.all fun p => Nat.ble (p + 1) Γ.n) = true) (h0 : J 0 M H) (hJ : ∀ i M' H', J i M' H' → PMem.le M M')
    (hbody : ∀ (l D : Nat) (rec : Loop) (i : Nat) (args : List Value) (M' : PMem) (H' : List Res), items[i]? = some args → J i M' H' →
      ({ Γ with r := some l } : Cx).R [] (({ Γ with r := some l } : Cx).run assign (({ Γ with r := some l } : Cx).beginK l D rec (J (i + 1)) body)) ((penv ps args).reverse ++ e) M' (H' ++ book l D rec))
    (hdone : ∀ D M' H', J items.length M' H' → Γ.R (⟨.collected D, #[]⟩ :: dl) K.norm e M' (H' ++ [.blk D (.deferred (some []))])) :
    Γ.R dl (Γ.run (.rangeFunc g ps.toArray assign body) K) e M H := fun a w hk hd hs => by
  show (Code.rangeFunc g ps.toArray assign body).wpIn (Fw Γ.r) 0 Γ.P K.q a w
  refine wpIn_rangeFunc fun fn hfn => ?_
  obtain ⟨D, hD⟩ : ∃ D, D = w.heap.size := ⟨_, rfl⟩
  obtain ⟨l, hl⟩ : ∃ l, l = w.heap.size + 1 := ⟨_, rfl⟩
  obtain ⟨rec, hrec⟩ : ∃ rec : LoopState → Option Code → Loop, rec = fun st pe => { state := st, pending := pe, fn, tmps := a.tmps, params := ps.toArray, assign, body, defers := D } := ⟨_, rfl⟩
  have hs1 : St Γ.w0 Γ.X Γ.M0 M (H ++ book l D (rec .ready none)) ((w.alloc (.deferred (some []))).alloc (.loop (rec .ready none))) := by
    have h1 := (hs.alloc (.deferred (some []))).alloc (.loop (rec .ready none))
    rw [World.size_alloc, ← hl, ← hD] at h1
    exact h1.perm (by
      refine (List.perm_append_comm (l₁ := H) (l₂ := book l D (rec .ready none))).trans ?_
      simp [book, hl, hD])
  let Q : Nat → World → Prop := fun i W => ∃ M' H', J i M' H' ∧ St Γ.w0 Γ.X Γ.M0 M' (H' ++ book l D (rec .ready none)) W
  have hrounds : Rounds Γ.P M (.func (.yield l) #[] #[]) items Q (fun _ => False) := by
    refine ⟨?_, ?_, fun _ _ h _ => h, ?_⟩
    · rintro i W ⟨M', H', h1, h2⟩ b o hb
      exact h2.mem b o (hJ _ _ _ h1 b o hb)
    · rintro i W W' ⟨M', H', h1, h2⟩ hkp
      exact ⟨M', H', h1, h2.later hkp⟩
    · rintro i args W hi ⟨M', H', h1, h2⟩
      have hlen : args.length = ps.length := hps args (List.mem_of_getElem? hi)
      have hL := St_book_at h2
      have hy := run_yield (P := Γ.P) (args := args.toArray) hL (by rw [hrec]; simp [hlen])
      rw [hrec] at hy
      refine .inr ⟨l, rfl, fn, _, assign, body, hy, roundIn_of_wpIn (F := Fence.wide) trivial ?_⟩
      have hk0 : Knows Γ.n e { tmps := a.tmps, defers := [] } := ⟨hk.size, hk.at_⟩
      obtain ⟨e', hke, he'⟩ := Knows.params (vs := args) hk0 (fun p hp => Nat.le_of_ble_eq_true (List.all_eq_true.1 hpn p hp))
      subst he'
      have hb := hbody l D (rec .ready none) i args M' H' hi h1
      have hz : (ps.toArray.zip args.toArray).foldl (fun t (p, v) => t.setIfInBounds p v) a.tmps = (ps.zip args).foldl (fun t (p, v) => t.setIfInBounds p v) a.tmps := by
        rw [List.zip_toArray, List.foldl_toArray]
      rw [hz]
      refine wpIn_mono (hb _ W hke rfl h2) (fun ex a1 w1 hq => ?_)
      cases ex with
      | normal =>
        obtain ⟨e2, M2, H2, hk2, hd2, hs2, hgo⟩ := hq
        have hL2 := St_book_at hs2
        refine ⟨_, run_beginRound hL2 (by rw [hrec]), ?_⟩
        have hs3 := St_book hs2 { rec .ready none with state := .busy }
        refine wpIn_mono (hgo _ _ _ hk2 hd2 hs3) (fun ex2 a3 w3 hq3 => ?_)
        cases ex2 with
        | normal =>
          obtain ⟨M3, H3, h3, hs4⟩ := hq3
          have hL3 := St_book_at hs4
          refine ⟨_, _, run_endRound none hL3, .bool true, rfl, .inl ⟨rfl, M3, H3, h3, ?_⟩⟩
          have h5 := St_book hs4 (rec .ready none)
          rw [hrec] at h5 ⊢
          exact h5
        | ret => exact hq3.elim
        | exit id => obtain ⟨g', hg', _⟩ := hq3; simp [exFind] at hg'
        | goto t => exact hq3.elim
        | panic ch => exact hq3.elim
        | outgrown => exact hq3.elim
      | ret => exact hq.elim
      | exit id => obtain ⟨g', hg', _⟩ := hq; simp [Cx.beginK, exFind] at hg'
      | goto t => exact hq.elim
      | panic ch => exact hq.elim
      | outgrown => exact hq.elim
  obtain ⟨W1, hW1⟩ : ∃ W1, (w.alloc (.deferred (some []))).alloc (.loop (rec .ready none)) = W1 := ⟨_, rfl⟩
  rw [hW1] at hs1
  refine ⟨l, [{ target := .collected D, args := #[] }], W1, { target := .fn (.func gf) lb.toArray, args := #[.func (.yield l) #[] #[]] }, W1, gf, #[.func (.yield l) #[] #[]] ++ lb.toArray, W1, ?_, ?_, fun f' _ => fw_fn _ f', ?_, fun h => by simp [Fw, Fence.wide] at h, ?_⟩
  · rw [← hW1, hrec, hl, hD]
    show (Instr.enterLoop fn a.tmps ps.toArray assign body Γ.r).run Γ.P w = _
    rw [hro]; exact run_enterLoop_outer _ _ _ _ _
  · simp only [resolve, hk.eval hg]
    simp [go_sem]
  · simp [invoke, go_sem, hen]
  · refine callsIn_fw ?_
    have hc := hit (.func (.yield l) #[] #[]) Q (fun _ => False) hrounds W1 ⟨M, H, h0, hs1⟩
    have he : (Value.func (.yield l) #[] #[] :: lb).toArray = #[.func (.yield l) #[] #[]] ++ lb.toArray := by simp
    rw [he] at hc
    refine hc.mono ?_
    rintro en w3 ⟨v, rfl, ⟨_, M', H', h1, h2⟩ | ⟨_, hf⟩⟩
    · have hL := St_book_at h2
      refine ⟨none, _, by have := run_endLoop (P := Γ.P) hL (by rw [hrec]; simp); rw [hrec] at this; exact this, ?_⟩
      have h5 := St_book h2 { rec .ready none with state := .exhausted }
      rw [hrec] at h5
      refine hdone D M' H' h1 _ _ ⟨hk.size, hk.at_⟩ (by simp [hd]) ?_
      exact h5.drop (List.Sublist.append_left (by simp [book]) _)
    · exact hf.elim
/-! ### 4. Out of a function that holds such a loop -/
def Cx.finM (Γ : Cx) (fn : Func) (post : Value → PMem → List Res → Prop) : Then :=
  fun a w => Γ.fin fn [] post a w ∨ ∃ D w', a.defers = [⟨.collected D, #[]⟩] ∧ (Instr.takeDeferred D).run Γ.P w = .ok [] w' ∧ Γ.fin fn [] post { a with defers := [] } w'
theorem R_finM0 {fn : Func} {post : Value → PMem → List Res → Prop} (h : Γ.R [] (Γ.fin fn [] post) e M H) : Γ.R [] (Γ.finM fn post) e M H := fun a w hk hd hs => .inl (h a w hk hd hs)
theorem R_finM {fn : Func} {post : Value → PMem → List Res → Prop} {D : Nat} {H' : List Res} (H : List Res) (he : H' = H ++ [.blk D (.deferred (some []))]) (h : Γ.R [] (Γ.fin fn [] post) e M H) : Γ.R [⟨.collected D, #[]⟩] (Γ.finM fn post) e M H' := fun a w hk hd hs => by
  subst he
  have hi : (H ++ [Res.blk D (.deferred (some []))])[H.length]? = some (.blk D (.deferred (some []))) := by simp
  have hl : w.heap[D]? = some (.deferred (some [])) := hs.own _ (List.mem_of_getElem? hi)
  have h1 := hs.turn hi (.blk D (.deferred none)) (grownBy_putObj' w D (.deferred none)) (Nat.le_refl _) (World.putObj_heap_same (Array.getElem?_eq_some_iff.1 hl).1) (fun b hb => .inl hb)
  rw [List.set_append_right _ _ (Nat.le_refl _), Nat.sub_self] at h1
  exact .inr ⟨D, _, hd, run_takeDeferred hl, h _ _ ⟨hk.size, hk.at_⟩ rfl (h1.drop (List.sublist_append_left _ _))⟩
theorem Ends.enterM {P : Program} {f : Nat} {fn : Func} {c : Code} {args : List Value} {w : World} {X : List Nat} {M : PMem} {H : List Res} {post : Value → PMem → List Res → Prop}
    (hf : P.funcs[f]? = some fn) (hb : fn.body = some c) {n : Nat} (hn : fn.ntmps = n) (hle : Nat.ble args.length n = true) (hs : St w X M M H w)
    (h : (Cx.mk P none n w X M).R [] ((Cx.mk P none n w X M).run c (finK ((Cx.mk P none n w X M).finM fn post))) (argEnv 0 args) M H) :
    Ends P f args w X M post := by
  have hle' := Nat.le_of_ble_eq_true hle
  refine (callsIn_wide (n := 0)).1 (callsIn_of_wp_marks hf hb trivial ?_ rfl)
  have hk : Knows n (argEnv 0 args) { tmps := args.toArray ++ Array.replicate (fn.ntmps - args.toArray.size) undef, defers := [] } := by
    refine ⟨by simp; omega, fun t v hv => ?_⟩
    obtain ⟨_, h2⟩ := argEnv_find args 0 t v hv
    have hlt : t < args.length := (List.getElem?_eq_some_iff.1 h2).1
    simp only [Nat.sub_zero] at h2
    rw [Array.getD_eq_getD_getElem?, Array.getElem?_append_left (by simpa using hlt)]
    simp [h2]
  have fin : ∀ a' w', (Cx.mk P none n w X M).finM fn post a' w' → LeavesInM Fence.wide 0 P fn a'.tmps (fun en w' => ∃ v M' H', en = .returned v ∧ St w X M M' H' w' ∧ post v M' H') a'.defers .returning w' := by
    rintro a' w' (⟨hd, v, M', H', hr, hst, hp⟩ | ⟨D, w2, hd, ht, hd2, v, M', H', hr, hst, hp⟩)
    · rw [hd]; exact ⟨v, hr, v, M', H', rfl, hst, hp⟩
    · rw [hd]; exact ⟨by simp, .inl ⟨D, w2, rfl, ht, ⟨v, hr, v, M', H', rfl, hst, hp⟩⟩⟩
  refine wpIn_mono (h _ w hk rfl hs) (fun ex a' w' hq => ?_)
  cases ex with
  | normal => exact fin _ _ hq
  | ret => exact fin _ _ hq
  | exit id => obtain ⟨g, hg, _⟩ := hq; simp [finK, exFind] at hg
  | goto l => exact hq.elim
  | panic ch => exact hq.elim
  | outgrown => exact hq.elim
end
/-! ### 5. What a tree hands out -/
def itemsC (ks : List Node) (bs : List Nat) : List (List Value) := (ks.zip bs).map fun p => [S p.1.name, P_ p.2 0]
theorem itemsC_at {ks : List Node} {bs : List Nat} {i b : Nat} {k : Node} (h1 : bs[i]? = some b) (h2 : ks[i]? = some k) : (itemsC ks bs)[i]? = some [S k.name, P_ b 0] := by
  unfold itemsC
  rw [List.getElem?_map, (List.getElem?_zip_eq_some (z := (k, b))).2 ⟨h2, h1⟩]; rfl
theorem itemsC_len {ks : List Node} {bs : List Nat} (h : bs.length = ks.length) : (itemsC ks bs).length = ks.length := by simp [itemsC, h]
theorem itemsC_of {ks : List Node} {bs : List Nat} {i : Nat} {x : List Value} (h : (itemsC ks bs)[i]? = some x) : ∃ k b, ks[i]? = some k ∧ bs[i]? = some b ∧ x = [S k.name, P_ b 0] := by
  unfold itemsC at h
  rw [List.getElem?_map] at h
  cases hz : (ks.zip bs)[i]? with
  | none => rw [hz] at h; cases h
  | some p => rw [hz] at h; cases h; obtain ⟨h1, h2⟩ := List.getElem?_zip_eq_some.1 hz; exact ⟨p.1, p.2, h1, h2, rfl⟩
def entV (e : Entry) : List Value := [S e.path, Val.val e.value]
def itemsV (x : Node) (p : Str) : List (List Value) := (x.flat p).map entV
theorem itemsV_len (x : Node) (p : Str) : (itemsV x p).length = x.size := by simp [itemsV, Node.flat_len]
theorem itemsV_0 (x : Node) (p : Str) : (itemsV x p)[0]? = some [S p, Val.val x.value] := by rw [itemsV, Node.flat_eq]; rfl
theorem Node.flatL_append (a b : List Node) (p : Str) : Node.flatL (a ++ b) p = Node.flatL a p ++ Node.flatL b p := by
  induction a with
  | nil => rfl
  | cons x a ih => simp [Node.flatL, ih]
theorem itemsV_part {x k : Node} {i : Nat} (p : Str) (h : x.kids[i]? = some k) (j : Nat) (y : List Value) (hy : (itemsV k (belowP p k.name))[j]? = some y) : (itemsV x p)[1 + Node.sizeL (x.kids.take i) + j]? = some y := by
  have e1 : x.kids = x.kids.take (i + 1) ++ x.kids.drop (i + 1) := (List.take_append_drop _ _).symm
  have e2 : Node.flatL x.kids p = Node.flatL (x.kids.take i) p ++ (k.flat (belowP p k.name) ++ Node.flatL (x.kids.drop (i + 1)) p) := by
    conv => lhs; rw [e1]
    rw [Node.flatL_append, Node.flatL_take p h, List.append_assoc]
  unfold itemsV at hy ⊢
  rw [List.getElem?_map] at hy ⊢
  rw [Node.flat_eq, e2, Nat.add_assoc, Nat.add_comm 1, List.getElem?_cons_succ, List.getElem?_append_right (by rw [Node.flatL_len]; omega), Node.flatL_len, Nat.add_sub_cancel_left]
  cases hz : (k.flat (belowP p k.name))[j]? with
  | none => rw [hz] at hy; cases hy
  | some z => rw [List.getElem?_append_left (List.getElem?_eq_some_iff.1 hz).1, hz]; rw [hz] at hy; exact hy

/-! ### 6. Regions in which two operations with effects may come in either order -/
section
variable {P : Program} {r : Option Nat} {ops : Array Oper} {Q : Exit → Act → World → Prop} {C C' : World → Prop} {s : Nat}
theorem anySo_mono (hC : ∀ w, C' w → C w) : ∀ (fuel : Nat) (listed : Array Bool) (a : Act) (w : World), anySo P r ops Q C' s fuel listed a w → anySo P r ops Q C s fuel listed a w := by
  intro fuel
  induction fuel with
  | zero => exact fun _ _ _ h => h
  | succ fuel ih => exact fun listed a w h => ⟨h.1, fun i hi => wpOpIn_mono (fun a' w' hh => by
      split at hh
      · rename_i e; rw [if_pos e]; exact hh
      · rename_i e; rw [if_neg e]; exact ⟨hC _ hh.1, ih _ _ _ hh.2⟩) (h.2 i hi)⟩
end
def Cx.pastS (Γ : Cx) (full : List Oper) (K : Kont) (M0 : PMem) (H0 : List Res) (s fuel : Nat) (listed : List Bool) : Then :=
  fun a w => cls M0 H0 w ∧ Γ.anyS full K M0 H0 s fuel listed a w
section
variable {Γ : Cx} {dl : List Deferred} {f : Then} {e : Env} {M M0 : PMem} {H H0 : List Res} {K : Kont} {full : List Oper} {fuel s : Nat} {listed : List Bool}
theorem S_go (H1 : List Res) (hM : PMem.le M0 M) (hH : ∀ r ∈ H0, r ∈ H) (hH1 : ∀ r ∈ H0, r ∈ H1) (h : Γ.R dl (Γ.anyS full K M H1 s fuel listed) e M H) : Γ.R dl (Γ.pastS full K M0 H0 s fuel listed) e M H := fun a w hk hd hs => by
  have hc : ∀ w, cls M H1 w → cls M0 H0 w := fun w hw => hw.mono hM hH1
  have h1 := h a w hk hd hs
  exact ⟨hs.cls.mono hM hH, hc w h1.1, anySo_mono hc _ _ _ _ h1.2⟩
theorem S_op {i : Nat} {o : Oper} (his : (i == s) = false) (hi : full[i]? = some o) (hg : gv full e o.guard = some true) (h : Γ.R dl (Γ.op o (Γ.pastS full K M0 H0 s fuel (listed.set i true)) K) e M H) :
    ∀ a w, Knows Γ.n e a → a.defers = dl → St Γ.w0 Γ.X Γ.M0 M H w → wpOpIn (Fw Γ.r) 0 Γ.P full.toArray K.q i (fun a' w' => if i = s then wpAnyIn (Fw Γ.r) 0 Γ.P .any full.toArray K.q fuel (listed.toArray.setIfInBounds i true) a' w' else cls M0 H0 w' ∧ anySo Γ.P Γ.r full.toArray K.q (cls M0 H0) s fuel (listed.toArray.setIfInBounds i true) a' w') a w := fun a w hk hd hs => by
  have his' : ¬ i = s := by simpa using his
  have hi' : full.toArray[i]? = some o := by simpa using hi
  simp only [if_neg his']
  unfold wpOpIn
  simp only [hi']
  rw [gv_wanted hk hg, if_pos rfl]
  refine ⟨fun f _ => fw_fn _ f, ?_⟩
  have := h a w hk hd hs
  simp only [List.setIfInBounds_toArray]
  exact (Oper.wpIn_mono (F := Fw Γ.r) (n := 0) (P := Γ.P) (o := o) (a := a) (w := w) (Q := K.q) (fun a' w' hh => ⟨hh.1, hh.2.2⟩) ⟨fun f _ => fw_fn _ f, this⟩).2
/-- one operation with an effect can come, ahead of s -/
theorem S_one (i : Nat) {o : Oper} (hi : full[i]? = some o) (h : Γ.R dl (Γ.op o (Γ.pastS full K M0 H0 s fuel (listed.set i true)) K) e M H) (hM : PMem.le M0 M) (hH : ∀ r ∈ H0, r ∈ H)
    (hr : Region.ready .any full.toArray listed.toArray = [i] := by kernel_rfl) (his : (i == s) = false := by rfl) (hg : gv full e o.guard = some true := by rfl) : Γ.R dl (Γ.anyS full K M0 H0 s (fuel + 1) listed) e M H := fun a w hk hd hs => by
  refine ⟨hs.cls.mono hM hH, fun hnil => (by rw [hr] at hnil; cases hnil), fun j hj => ?_⟩
  rw [hr] at hj
  obtain rfl : j = i := by simpa using hj
  exact S_op his hi hg h a w hk hd hs
/-- two can come -/
theorem S_two (i j : Nat) {oi oj : Oper} (hi : full[i]? = some oi) (hj : full[j]? = some oj) (hM : PMem.le M0 M) (hH : ∀ r ∈ H0, r ∈ H) (h1 : Γ.R dl (Γ.op oi (Γ.pastS full K M0 H0 s fuel (listed.set i true)) K) e M H) (h2 : Γ.R dl (Γ.op oj (Γ.pastS full K M0 H0 s fuel (listed.set j true)) K) e M H)
    (hr : Region.ready .any full.toArray listed.toArray = [i, j] := by kernel_rfl) (his : (i == s) = false := by rfl) (hjs : (j == s) = false := by rfl) (hgi : gv full e oi.guard = some true := by rfl) (hgj : gv full e oj.guard = some true := by rfl) : Γ.R dl (Γ.anyS full K M0 H0 s (fuel + 1) listed) e M H := fun a w hk hd hs => by
  refine ⟨hs.cls.mono hM hH, fun hnil => (by rw [hr] at hnil; cases hnil), fun q hq => ?_⟩
  rw [hr] at hq
  rcases List.mem_cons.1 hq with rfl | hq
  · exact S_op his hi hgi h1 a w hk hd hs
  · obtain rfl : q = j := by simpa using hq
    exact S_op hjs hj hgj h2 a w hk hd hs
theorem Y_two (i j : Nat) {oi oj : Oper} (hi : full[i]? = some oi) (hj : full[j]? = some oj) (hM : PMem.le M0 M) (hH : ∀ r ∈ H0, r ∈ H) (h1 : Γ.R dl (Γ.op oi (Γ.past full K M0 H0 fuel (listed.set i true)) K) e M H) (h2 : Γ.R dl (Γ.op oj (Γ.past full K M0 H0 fuel (listed.set j true)) K) e M H)
    (hr : Region.ready .any full.toArray listed.toArray = [i, j] := by kernel_rfl) (hgi : gv full e oi.guard = some true := by rfl) (hgj : gv full e oj.guard = some true := by rfl) : Γ.R dl (Γ.any full K M0 H0 (fuel + 1) listed) e M H :=
  Y_each (fun q hq => by
    rw [hr] at hq
    rcases List.mem_cons.1 hq with rfl | hq
    · exact ⟨oi, hi, hgi, h1⟩
    · obtain rfl : q = j := by simpa using hq
      exact ⟨oj, hj, hgj, h2⟩) hM hH (by rw [hr]; rfl)
/-- nothing is kept -/
theorem Z_Y0 (h : Γ.R dl (Γ.any full K M [] fuel listed) e M H) : Γ.R dl (Γ.anyP full K fuel listed) e M H := fun a w hk hd hs => anyC_any _ _ _ _ (h a w hk hd hs).2
end
/-! ### 7. An element of a row of one's own, written -/
theorem take_put {cs xs zs vs : List Value} {a k n : Nat} (hn : n = a + k) (h : cs.take n = xs ++ zs) (hx : xs.length = a) (hv : vs.length = k) : (cs.take a ++ vs ++ cs.drop (a + k)).take n = xs ++ vs := by
  subst hn
  have h1 : cs.take a = xs := by
    have := congrArg (List.take a) h
    rw [List.take_take, Nat.min_eq_left (by omega), List.take_left' hx] at this
    exact this
  rw [h1, List.take_left' (by rw [List.length_append]; omega)]
theorem put_len {cs vs : List Value} {a k : Nat} (hv : vs.length = k) (h : a + k ≤ cs.length) : (cs.take a ++ vs ++ cs.drop (a + k)).length = cs.length := by
  simp only [List.length_append, List.length_take, List.length_drop]; omega
end Go.Proofs.YtgmomhdammdjgaaGreat
