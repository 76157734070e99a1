/-
  The rules of places, structs, slices, calls. No condition: over any program.
-/
import Derived.Test.YtgmomhdammdjgaaGreatOps
import Derived.Deep.DeepAppendWide
import Derived.Laws.OwnMore
set_option linter.unusedVariables false
set_option linter.unusedSimpArgs false
namespace Go.Proofs.YtgmomhdammdjgaaGreat
open Go Go.RowKit

theorem add_none (b o k : Nat) : (⟨b, o, none⟩ : Addr).add k = ⟨b, o + k, none⟩ := by unfold Addr.add; split <;> simp_all
theorem bind_ok {α β : Type} {P : Program} {x : Sem α} {f : α → Sem β} {w w' : World} {v : α} (h : x.run P w = .ok v w') : (x >>= f).run P w = (f v).run P w' := by simp [h]

/-! ### Closed facts of a program's types -/
/-- field i of struct s lies so many cells behind -/
def Fa (P : Program) (s i off : Nat) : Prop := ∀ (b o : Nat) (w : World), (Instr.fieldAt s (P_ b o) i).run P w = .ok (P_ b (o + off)) w
theorem Fa.mk {P : Program} {s i off : Nat} {fs : Array Field} {fl : Field} (hu : P.underlying s = some (.struct fs)) (hf : fs[i]? = some fl) (ho : fl.offset = off) (hz : ∀ w, ∃ k, (sizeOf fl.type).run P w = .ok (k + 1) w) : Fa P s i off := fun b o w => by
  obtain ⟨k, hk⟩ := hz w
  simp [Instr.fieldAt, run_underlying hu, hf, Instr.sureAddr, fieldPlace, hk, add_none, ho]
theorem Rd.field {P : Program} {t : Nat} {cs : List Value} {off : Nat} {v v' : Value} (h : Rd P t cs off v) (e : v = v') : Rd P t cs off v' := e ▸ h

section
variable {P : Program} {Γ : Cx} {dl : List Deferred} {f : Then} {e : Env} {M : PMem} {H : List Res} {K : Kont} {l full : List Oper} {d ty : Nat} {pos : String} {af : Array Edge} {g : Option (Nat × Bool)}
theorem D_fieldAddr {s i off : Nat} {x : Operand} {b o : Nat} (hF : Fa P s i off) (hx : e.val x = some (P_ b o)) 
      :
    Dv P e M H (.fieldAddr s x i) (P_ b (o + off)) :=
  ⟨(fun _ h => by cases h), fun _ a w _ _ _ _ _ hk hs => by simp [execOp, hk.eval hx, hF b o w]⟩
/-- a part of a struct's value -/
def Fd (P : Program) (s i : Nat) (v u : Value) : Prop := ∀ w : World, (Instr.field s v i).run P w = .ok u w
theorem D_field {s i : Nat} {x : Operand} {v u : Value} (hx : e.val x = some v) (hF : Fd P s i v u) 
      :
    Dv P e M H (.field s x i) (u) :=
  ⟨(fun _ h => by cases h), fun _ a w _ _ _ _ _ hk hs => by simp [execOp, hk.eval hx, hF w]⟩
/-- the place of a slice's element -/
theorem D_indexL {t el sz : Nat} {x i : Operand} {b o n c : Nat} {m : Int} {kd : IntKind} (ht : P.underlying t = some (.slice el)) (hsz : ∀ w, (sizeOf el).run P w = .ok sz w) (hx : e.val x = some (.slice (some ⟨b, o, none⟩) n c)) (hi : e.val i = some (.int kd m))
    (h0 : 0 ≤ m) (h1 : m < n) 
      :
    Dv P e M H (.indexAddr t x i) (P_ b (o + m.toNat * sz)) :=
  ⟨(fun _ h => by cases h), fun _ a w _ _ _ _ _ hk hs => by
    simp [execOp, hk.eval hx, hk.eval hi, Instr.indexAt, asIntOf, run_underlying ht, h0, h1, hsz, add_none]⟩
theorem D_indexLn {t el sz : Nat} {x i : Operand} {b o n c : Nat} {m : Int} {kd : IntKind} (k : Nat) (ht : P.underlying t = some (.slice el)) (hsz : ∀ w, (sizeOf el).run P w = .ok sz w) (hx : e.val x = some (.slice (some ⟨b, o, none⟩) n c)) (hi : e.val i = some (.int kd m))
    (hk : m = (k : Int)) (h1 : k < n) : Dv P e M H (.indexAddr t x i) (P_ b (o + k * sz)) := by
  subst hk
  exact D_indexL (M := M) (H := H) ht hsz hx hi (by omega) (by omega)
/-- the place of an array's element -/
theorem D_indexA {t el sz len : Nat} {x i : Operand} {b o : Nat} {m : Int} {kd : IntKind} (ht : P.underlying t = some (.array len el)) (hsz : ∀ w, (sizeOf el).run P w = .ok sz w) (hx : e.val x = some (P_ b o)) (hi : e.val i = some (.int kd m))
    (h0 : 0 ≤ m) (h1 : m < len) 
      :
    Dv P e M H (.indexAddr t x i) (P_ b (o + m.toNat * sz)) :=
  ⟨(fun _ h => by cases h), fun _ a w _ _ _ _ _ hk hs => by
    simp [execOp, hk.eval hx, hk.eval hi, Instr.indexAt, asIntOf, run_underlying ht, h0, h1, hsz, add_none, Instr.sureAddr]⟩
/-- an aggregate put together -/
def Bd (P : Program) (t : Nat) (ps : List (Nat × Value)) (v : Value) : Prop := ∀ w : World, (Instr.build t ps.toArray).run P w = .ok v w
def Env.parts (e : Env) : List (Nat × Operand) → Option (List (Nat × Value))
  | [] => some []
  | (i, x) :: r => match e.val x, e.parts r with
    | some v, some vs => some ((i, v) :: vs)
    | _, _ => none
theorem Knows.parts {n : Nat} {e : Env} {a : Act} (h : Knows n e a) : ∀ {xs : List (Nat × Operand)} {vs : List (Nat × Value)}, e.parts xs = some vs → xs.map (fun p => (p.1, a.eval p.2)) = vs := by
  intro xs
  induction xs with
  | nil => intro vs hx; simpa [Env.parts] using hx
  | cons x r ih =>
    intro vs hx
    obtain ⟨i, x⟩ := x
    simp only [Env.parts] at hx
    cases h1 : e.val x with
    | none => simp [h1] at hx
    | some v =>
      cases h2 : e.parts r with
      | none => simp [h1, h2] at hx
      | some us =>
        simp only [h1, h2, Option.some.injEq] at hx
        subst hx
        simp [h.eval h1, ih h2]
theorem D_build {t : Nat} {ps : List (Nat × Operand)} {vs : List (Nat × Value)} {v : Value} (hp : e.parts ps = some vs) (hB : Bd P t vs v) 
      :
    Dv P e M H (.build t ps.toArray) (v) :=
  ⟨(fun _ h => by cases h), fun _ a w _ _ _ _ _ hk hs => by
    have := hk.parts hp
    have he : ps.toArray.map (fun x => (x.1, a.eval x.2)) = vs.toArray := by rw [← this]; simp
    simp only [execOp, he, Sem.run_bind, hB w, Result.andThen_ok, Sem.run_pure]⟩
/-- a slice's literal: a new row -/
def Bs (P : Program) (t el len : Nat) (ps : List (Nat × Value)) (cs : List Value) : Prop :=
  ∀ w : World, (Instr.buildSlice t len ps.toArray).run P w = .ok (.slice (some ⟨w.heap.size, 0, none⟩) len len) (w.alloc (.cells cs.toArray el))
theorem E_buildSlice {t el len : Nat} {ps : List (Nat × Operand)} {vs : List (Nat × Value)} {cs : List Value} (hp : e.parts ps = some vs) (hB : Bs Γ.P t el len vs cs)
    (k : ∀ b, Γ.R dl f ((d, .slice (some ⟨b, 0, none⟩) len len) :: e) M (.blk b (.cells cs.toArray el) :: H))
     (hdn : Nat.ble (d + 1) Γ.n = true := by rfl) :
    Γ.R dl (Γ.op ⟨some d, .buildSlice t len ps.toArray, ty, pos, af, g⟩ f K) e M H :=
  E_val hdn (fun _ h => by cases h) (fun a w hk hs => by
    have := hk.parts hp
    have he : ps.toArray.map (fun x => (x.1, a.eval x.2)) = vs.toArray := by rw [← this]; simp
    exact ⟨_, _, _, _, by simp only [execOp, he, Sem.run_bind, hB w, Result.andThen_ok, Sem.run_pure], hs.alloc _, k _⟩)
theorem D_makeFunc {fn : Fn} {cap : List Operand} {vs : List Value} (hc : e.vals cap = some vs) 
      :
    Dv P e M H (.makeFunc fn #[] cap.toArray) (.func fn #[] vs.toArray) :=
  ⟨(fun _ h => by cases h), fun _ a w _ _ _ _ _ hk hs => by
    have := hk.evals hc
    simp [execOp, Instr.makeFunc, ← this]⟩
/-! ### Calls -/
/-- a call enters a function that has a body -/
theorem enters_fn {P : Program} {f : Nat} {fn : Func} {c : Code} (hf : P.funcs[f]? = some fn) (hname : (fn.name == "runtime.NumGoroutine") = false) (hb : fn.body = some c) (args : Array Value) (w : World) : (callFunc f args).run P w = .ok (.enter f args) w := by
  have h1 : fn.name ≠ "runtime.NumGoroutine" := by simpa using hname
  simp [callFunc, hf, h1, hb, mark]
/-- What a call came to: the value, the memory that is now written no more, what the caller now owns. -/
def Ends (P : Program) (fn : Nat) (args : List Value) (w : World) (X : List Nat) (M : PMem) (post : Value → PMem → List Res → Prop) : Prop :=
  Calls P fn args.toArray w fun en w' => ∃ v M' H', en = .returned v ∧ St w X M M' H' w' ∧ post v M' H'
theorem Ends.mono {P : Program} {fn : Nat} {args : List Value} {w : World} {X : List Nat} {M : PMem} {post post' : Value → PMem → List Res → Prop} (h : Ends P fn args w X M post)
    (hp : ∀ v M' H', PMem.le M M' → post v M' H' → post' v M' H') : Ends P fn args w X M post' :=
  Calls.mono h fun en w' ⟨v, M', H', he, hs, hpo⟩ => ⟨v, M', H', he, hs, hp v M' H' hs.sub hpo⟩
/-- A function's contract at a state: handed the resources Hc (their blocks are Y). -/
theorem E_call {c : Operand} {xs : List Operand} {at_ : Array TypeId} {vs : List Value} {fid : Nat} {cap : Array Value} {Hc Hr : List Res} {Y : List Nat} {post : Value → PMem → List Res → Prop}
    (hc : e.val c = some (.func (.func fid) #[] cap)) (hx : e.vals xs = some vs) (hen : ∀ (args : Array Value) (w : World), (callFunc fid args).run Γ.P w = .ok (.enter fid args) w)
    (hH : H.Perm (Hc ++ Hr)) (hY : ∀ y ∈ Y, ∃ r ∈ Hc, r.fp = some y)
    (hcon : ∀ w, Lies M w → (∀ r ∈ Hc, r.holds w) → (∀ r ∈ Hc, ∀ b, r.fp = some b → M b = none) → Hc.Pairwise (fun x y => ∀ b, x.fp = some b → y.fp ≠ some b) → Ends Γ.P fid (vs ++ cap.toList) w Y M post)
    (k : ∀ v M' H', PMem.le M M' → post v M' H' → Γ.R dl f ((d, v) :: e) M' (H' ++ Hr)) (hdn : Nat.ble (d + 1) Γ.n = true := by rfl) :
    Γ.R dl (Γ.op ⟨some d, .call ⟨.value c, xs.toArray, at_⟩, ty, pos, af, g⟩ f K) e M H := fun a w hk hd hs => by
  have hargs := hk.evals hx
  have hs' : St Γ.w0 Γ.X Γ.M0 M (Hc ++ Hr) w := hs.perm hH.symm
  have hrun : (execOp a.eval ⟨some d, .call ⟨.value c, xs.toArray, at_⟩, ty, pos, af, g⟩).run Γ.P w = .ok (.enter fid (vs.toArray ++ cap)) w := by
    have : xs.toArray.map a.eval = vs.toArray := by rw [← hargs]; simp
    simp [execOp, resolve, this, hk.eval hc, Deferred.ofValue, invoke, hen]
  show Oper.uponIn _ _ _ _ _ _ _ _
  rw [semAt_ex _ _ (fun _ h => by cases h), hrun]
  refine ⟨fun h => by simp [Fw, Fence.wide] at h, callsIn_fw ?_⟩
  have hcalls := hcon w hs'.mem (fun r hr => hs'.own r (List.mem_append_left _ hr)) (fun r hr b hb => (hs'.free r (List.mem_append_left _ hr) b hb).1) (List.pairwise_append.1 hs'.apart).1
  unfold Ends at hcalls
  have harr : (vs ++ cap.toList).toArray = vs.toArray ++ cap := by simp
  rw [harr] at hcalls
  refine hcalls.mono ?_
  rintro en w' ⟨v, M', H', rfl, hst, hpost⟩
  exact k v M' H' hst.sub hpost _ _ (hk.put (Nat.le_of_ble_eq_true hdn) v) (by simpa [Act.put] using hd) (hs'.call hY hst)
/-- The plain kind: nothing is handed over. -/
theorem E_callP {c : Operand} {xs : List Operand} {at_ : Array TypeId} {vs : List Value} {fid : Nat} {cap : Array Value} {post : Value → PMem → List Res → Prop}
    (hc : e.val c = some (.func (.func fid) #[] cap)) (hx : e.vals xs = some vs) (hen : ∀ (args : Array Value) (w : World), (callFunc fid args).run Γ.P w = .ok (.enter fid args) w)
    (hcon : ∀ w, Lies M w → Ends Γ.P fid (vs ++ cap.toList) w [] M post)
    (k : ∀ v M' H', PMem.le M M' → post v M' H' → Γ.R dl f ((d, v) :: e) M' (H' ++ H)) (hdn : Nat.ble (d + 1) Γ.n = true := by rfl) :
    Γ.R dl (Γ.op ⟨some d, .call ⟨.value c, xs.toArray, at_⟩, ty, pos, af, g⟩ f K) e M H :=
  E_call (Hc := []) (Hr := H) (Y := []) hc hx hen (List.Perm.refl _) (by simp) (fun w hM _ _ _ => hcon w hM) k hdn
/-- A function that only computes: nothing of memory is turned, nothing comes. -/
theorem E_callV {c : Operand} {xs : List Operand} {at_ : Array TypeId} {vs : List Value} {fid : Nat} {cap : Array Value} {v : Value}
    (hc : e.val c = some (.func (.func fid) #[] cap)) (hx : e.vals xs = some vs) (hen : ∀ (args : Array Value) (w : World), (callFunc fid args).run Γ.P w = .ok (.enter fid args) w)
    (hcon : ∀ w, Lies M w → Ends Γ.P fid (vs ++ cap.toList) w [] M (fun v' M' H' => v' = v ∧ M' = M ∧ H' = []))
    (k : Γ.R dl f ((d, v) :: e) M H) (hdn : Nat.ble (d + 1) Γ.n = true := by rfl) :
    Γ.R dl (Γ.op ⟨some d, .call ⟨.value c, xs.toArray, at_⟩, ty, pos, af, g⟩ f K) e M H :=
  E_callP hc hx hen hcon (fun v' M' H' _ ⟨h1, h2, h3⟩ => by subst h1; subst h2; subst h3; exact k) hdn
end

/-! ### Into a function and out of it -/
def Cx.fin (Γ : Cx) (fn : Func) (dl : List Deferred) (post : Value → PMem → List Res → Prop) : Then :=
  fun a w => a.defers = dl ∧ ∃ v M' H', (results fn a.tmps).run Γ.P w = .ok v w ∧ St Γ.w0 Γ.X Γ.M0 M' H' w ∧ post v M' H'
def finK (f : Then) : Kont := ⟨f, [], f⟩
def argEnv : Nat → List Value → Env
  | _, [] => []
  | i, v :: r => (i, v) :: argEnv (i + 1) r
theorem argEnv_find : ∀ (vs : List Value) (i t : Nat) (v : Value), (argEnv i vs).find t = some v → i ≤ t ∧ vs[t - i]? = some v := by
  intro vs
  induction vs with
  | nil => intro i t v h; simp [argEnv, Env.find] at h
  | cons u r ih =>
    intro i t v h
    rw [argEnv, Env.find_cons] at h
    by_cases he : i = t
    · subst he; rw [if_pos rfl] at h; cases h; simp
    · rw [if_neg he] at h
      obtain ⟨h1, h2⟩ := ih (i + 1) t v h
      refine ⟨by omega, ?_⟩
      have : t - i = (t - (i + 1)) + 1 := by omega
      rw [this, List.getElem?_cons_succ]
      exact h2
theorem Ends.enter {P : Program} {f : Nat} {fn : Func} {c : Code} {args : List Value} {w : World} {X : List Nat} {M : PMem} {H : List Res} {post : Value → PMem → List Res → Prop}
    (hf : P.funcs[f]? = some fn) (hb : fn.body = some c) {n : Nat} (hn : fn.ntmps = n) (hle : Nat.ble args.length n = true) (hs : St w X M M H w)
    (h : (Cx.mk P none n w X M).R [] ((Cx.mk P none n w X M).run c (finK ((Cx.mk P none n w X M).fin fn [] post))) (argEnv 0 args) M H) :
    Ends P f args w X M post := by
  have hle' := Nat.le_of_ble_eq_true hle
  refine (callsIn_wide (n := 0)).1 (callsIn_of_wp hf hb trivial ?_ rfl)
  have hk : Knows n (argEnv 0 args) { tmps := args.toArray ++ Array.replicate (fn.ntmps - args.toArray.size) undef, defers := [] } := by
    refine ⟨by simp; omega, fun t v hv => ?_⟩
    obtain ⟨_, h2⟩ := argEnv_find args 0 t v hv
    have hlt : t < args.length := (List.getElem?_eq_some_iff.1 h2).1
    simp only [Nat.sub_zero] at h2
    rw [Array.getD_eq_getD_getElem?, Array.getElem?_append_left (by simpa using hlt)]
    simp [h2]
  refine wpIn_mono (h _ w hk rfl hs) (fun ex a' w' hq => ?_)
  cases ex with
  | normal =>
    obtain ⟨hd, v, M', H', hr, hst, hp⟩ := hq
    exact ⟨hd, v, hr, v, M', H', rfl, hst, hp⟩
  | ret =>
    obtain ⟨hd, v, M', H', hr, hst, hp⟩ := hq
    exact ⟨hd, v, hr, v, M', H', rfl, hst, hp⟩
  | exit id => obtain ⟨g, hg, _⟩ := hq; simp [finK, exFind] at hg
  | goto l => exact hq.elim
  | panic ch => exact hq.elim
  | outgrown => exact hq.elim
section
variable {P : Program} {Γ : Cx} {dl : List Deferred} {e : Env} {M : PMem} {H : List Res} {post : Value → PMem → List Res → Prop} {fn : Func}
theorem R_fin0 (hr : fn.results = #[]) (hp : post (.tuple #[]) M H) : Γ.R dl (Γ.fin fn dl post) e M H := fun a w hk hd hs =>
  ⟨hd, _, M, H, results_none hr _ _ _, hs, hp⟩
theorem R_fin1 {t : Nat} {v : Value} (hr : fn.results = #[.tmp t]) (hv : e.find t = some v) (hp : post v M H) : Γ.R dl (Γ.fin fn dl post) e M H := fun a w hk hd hs =>
  ⟨hd, v, M, H, by rw [results_tmp hr, hk.at_ t v hv], hs, hp⟩
theorem R_fin2 {t u : Nat} {v x : Value} (hr : fn.results = #[.tmp t, .tmp u]) (hv : e.find t = some v) (hx : e.find u = some x) (hp : post (.tuple #[v, x]) M H) : Γ.R dl (Γ.fin fn dl post) e M H := fun a w hk hd hs =>
  ⟨hd, _, M, H, by rw [results_tmp2 hr, hk.at_ t v hv, hk.at_ u x hx], hs, hp⟩
end
end Go.Proofs.YtgmomhdammdjgaaGreat
