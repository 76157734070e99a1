/-
  The rules of the plain operations: slots, numbers, texts, blocks of cells, slices. No condition: over any program.
-/
import Derived.Test.YtgmomhdammdjgaaGreatRun
import Derived.Laws.Strings
import Derived.Laws.Slices
set_option linter.unusedVariables false
set_option linter.unusedSimpArgs false
namespace Go.Proofs.YtgmomhdammdjgaaGreat
open Go Go.RowKit

abbrev Str := List UInt8
/-- a text -/
def S (s : Str) : Value := .string ⟨s.toArray⟩
/-- an int -/
abbrev I (n : Int) : Value := .int .i64 n
abbrev B (b : Bool) : Value := .bool b
/-- an address -/
abbrev P_ (b o : Nat) : Value := .pointer (some ⟨b, o, none⟩)
theorem S_list (s : Str) : (⟨s.toArray⟩ : ByteArray).toList = s := by rw [Go.ByteArray.toList_eq]
theorem int_beq (a b : Int) : (a == b) = decide (a = b) := by rw [Bool.eq_iff_iff]; simp
theorem str_beq (a b : Str) : (a == b) = decide (a = b) := by rw [Bool.eq_iff_iff]; simp
theorem S_size (s : Str) : (⟨s.toArray⟩ : ByteArray).size = s.length := by simp [ByteArray.size]
theorem i64_in (n : Int) (h0 : -9223372036854775808 ≤ n) (h1 : n ≤ 9223372036854775807) : IntKind.i64.wrap n = n := by
  rw [IntKind.wrap_i64]; omega
def Has (M : PMem) (H : List Res) (b : Nat) (o : Obj) : Prop := M b = some o ∨ .blk b o ∈ H
theorem Has.mem {M : PMem} {H : List Res} {b : Nat} {o : Obj} (h : M b = some o) : Has M H b o := .inl h
theorem Has.own {M : PMem} {H : List Res} {b : Nat} {o : Obj} (i : Nat) (h : H[i]? = some (.blk b o)) : Has M H b o := .inr (List.mem_of_getElem? h)
theorem Has.at {M : PMem} {H : List Res} {w : World} {b : Nat} {o : Obj} (hs : cls M H w) (h : Has M H b o) : w.heap[b]? = some o := by
  rcases h with h | h
  · exact hs.1 b o h
  · exact hs.2 _ h

theorem perm_front {α : Type} {l : List α} (i : Nat) {x : α} (h : l[i]? = some x) : (x :: (l.take i ++ l.drop (i + 1))).Perm l := by
  obtain ⟨hlt, rfl⟩ := List.getElem?_eq_some_iff.1 h
  have : l = l.take i ++ l[i] :: l.drop (i + 1) := by
    rw [← List.drop_eq_getElem_cons hlt, List.take_append_drop]
  conv => rhs; rw [this]
  exact List.perm_middle.symm
section
variable {P : Program} {Γ : Cx} {dl : List Deferred} {f : Then} {e : Env} {M : PMem} {H : List Res} {K : Kont} {l full : List Oper} {d ty : Nat} {pos : String} {af : Array Edge} {g : Option (Nat × Bool)}

theorem D_move {x : Operand} {v : Value} (hx : e.val x = some v)    :
    Dv P e M H (.move x) (v) :=
  ⟨(fun _ h => by cases h), fun _ a w _ _ _ _ _ hk hs => by simp [execOp, hk.eval hx]⟩
theorem D_assign {x : Operand} {v : Value} (hx : e.val x = some v)    :
    Dv P e M H (.assign x) (v) :=
  ⟨(fun _ h => by cases h), fun _ a w _ _ _ _ _ hk hs => by simp [execOp, hk.eval hx]⟩
theorem D_pick {c x y : Operand} {v : Value} (b : Bool) (hc : e.val c = some (.bool b)) (hx : (bif b then e.val x else e.val y) = some v) 
      :
    Dv P e M H (.pick c x y) (v) :=
  ⟨(fun _ h => by cases h), fun _ a w _ _ _ _ _ hk hs => by
    cases b
    · simp [execOp, hk.eval hc, asBool, hk.eval hx]
    · simp [execOp, hk.eval hc, asBool, hk.eval hx]⟩
theorem D_extract {x : Operand} {vs : Array Value} {i : Nat} {v : Value} (hx : e.val x = some (.tuple vs)) (hi : vs[i]? = some v) 
      :
    Dv P e M H (.extract x i) (v) :=
  ⟨(fun _ h => by cases h), fun _ a w _ _ _ _ _ hk hs => by simp [execOp, hk.eval hx, Instr.extract, hi]⟩
theorem D_not {x : Operand} {b : Bool} {t : Nat} (hx : e.val x = some (.bool b))    :
    Dv P e M H (.unOp .not t x) (.bool (!b)) :=
  ⟨(fun _ h => by cases h), fun _ a w _ _ _ _ _ hk hs => by simp [execOp, hk.eval hx, Op.unary]⟩
theorem D_nilCheck {x : Operand} {ad : Addr} (hx : e.val x = some (.pointer (some ad)))    :
    Dv P e M H (.nilCheck x) (.pointer (some ad)) :=
  ⟨(fun _ h => by cases h), fun _ a w _ _ _ _ _ hk hs => by simp [execOp, hk.eval hx]⟩
/-! ### Numbers -/
theorem eqGuard_int (op : BinOp) (t : Nat) (x y : Operand) (k k' : IntKind) (a b : Int) (P : Program) (w : World) : (eqGuard op t x y (.int k a) (.int k' b)).run P w = .ok () w := by
  cases op <;> simp [eqGuard]
theorem D_int {op : BinOp} {x y : Operand} {t t' : Nat} {kd : IntKind} {a b : Int} {v : Value} (hx : e.val x = some (.int kd a)) (hy : e.val y = some (.int kd b))
    (hrun : ∀ P w, (binOp op t (.int kd a) (.int kd b)).run P w = .ok v w)    :
    Dv P e M H (.binOp op t x y t') (v) :=
  ⟨(fun _ h => by cases h), fun _ a w _ _ _ _ _ hk hs => by simp [execOp, hk.eval hx, hk.eval hy, eqGuard_int, hrun]⟩
theorem D_add {x y : Operand} {t t' : Nat} {a b c : Int} (hx : e.val x = some (I a)) (hy : e.val y = some (I b)) (hc : a + b = c) (h0 : -9223372036854775808 ≤ c) (h1 : c ≤ 9223372036854775807)
       :
    Dv P e M H (.binOp .add t x y t') (I c) :=
  D_int hx hy (fun P w => by simp [binOp, Op.intArith, hc, i64_in c h0 h1])
theorem D_subI {x y : Operand} {t t' : Nat} {a b c : Int} (hx : e.val x = some (I a)) (hy : e.val y = some (I b)) (hc : a - b = c) (h0 : -9223372036854775808 ≤ c) (h1 : c ≤ 9223372036854775807)
       :
    Dv P e M H (.binOp .sub t x y t') (I c) :=
  D_int hx hy (fun P w => by simp [binOp, Op.intArith, hc, i64_in c h0 h1])
theorem D_eq {x y : Operand} {t t' : Nat} {kd : IntKind} {a b : Int} (hx : e.val x = some (.int kd a)) (hy : e.val y = some (.int kd b))
       :
    Dv P e M H (.binOp .eql t x y t') (.bool (decide (a = b))) :=
  D_int hx hy (fun P w => by simp [binOp, Op.intCmp, int_beq])
theorem D_ne {x y : Operand} {t t' : Nat} {kd : IntKind} {a b : Int} (hx : e.val x = some (.int kd a)) (hy : e.val y = some (.int kd b))
       :
    Dv P e M H (.binOp .neq t x y t') (.bool (!decide (a = b))) :=
  D_int hx hy (fun P w => by simp [binOp, Op.intCmp, bne, int_beq])
theorem D_lt {x y : Operand} {t t' : Nat} {kd : IntKind} {a b : Int} (hx : e.val x = some (.int kd a)) (hy : e.val y = some (.int kd b))
       :
    Dv P e M H (.binOp .lss t x y t') (.bool (decide (a < b))) :=
  D_int hx hy (fun P w => by simp [binOp, Op.intCmp])
theorem D_le {x y : Operand} {t t' : Nat} {kd : IntKind} {a b : Int} (hx : e.val x = some (.int kd a)) (hy : e.val y = some (.int kd b))
       :
    Dv P e M H (.binOp .leq t x y t') (.bool (decide (a ≤ b))) :=
  D_int hx hy (fun P w => by simp [binOp, Op.intCmp])
theorem D_gt {x y : Operand} {t t' : Nat} {kd : IntKind} {a b : Int} (hx : e.val x = some (.int kd a)) (hy : e.val y = some (.int kd b))
       :
    Dv P e M H (.binOp .gtr t x y t') (.bool (decide (b < a))) :=
  D_int hx hy (fun P w => by simp [binOp, Op.intCmp])
theorem D_ge {x y : Operand} {t t' : Nat} {kd : IntKind} {a b : Int} (hx : e.val x = some (.int kd a)) (hy : e.val y = some (.int kd b))
       :
    Dv P e M H (.binOp .geq t x y t') (.bool (decide (b ≤ a))) :=
  D_int hx hy (fun P w => by simp [binOp, Op.intCmp])
/-! ### Texts -/
theorem D_str {op : BinOp} {x y : Operand} {t t' : Nat} {sa sb : Str} {v : Value} (hx : e.val x = some (S sa)) (hy : e.val y = some (S sb))
    (hrun : ∀ P w, (binOp op t (S sa) (S sb)).run P w = .ok v w)    :
    Dv P e M H (.binOp op t x y t') (v) :=
  ⟨(fun _ h => by cases h), fun _ a w _ _ _ _ _ hk hs => by
    have he : ∀ P w, (eqGuard op t x y (S sa) (S sb)).run P w = .ok () w := fun P w => by cases op <;> simp [eqGuard, S]
    simp [execOp, hk.eval hx, hk.eval hy, he, hrun]⟩
theorem D_eqS {x y : Operand} {t t' : Nat} {a b : Str} (hx : e.val x = some (S a)) (hy : e.val y = some (S b))
       :
    Dv P e M H (.binOp .eql t x y t') (.bool (decide (a = b))) :=
  D_str hx hy (fun P w => by simp only [S, binOp, Op.stringOp, S_list, str_beq]; rfl)
theorem D_neS {x y : Operand} {t t' : Nat} {a b : Str} (hx : e.val x = some (S a)) (hy : e.val y = some (S b))
       :
    Dv P e M H (.binOp .neq t x y t') (.bool (!decide (a = b))) :=
  D_str hx hy (fun P w => by simp only [S, binOp, Op.stringOp, S_list, str_beq]; rfl)
theorem D_ltS {x y : Operand} {t t' : Nat} {a b : Str} (hx : e.val x = some (S a)) (hy : e.val y = some (S b))
       :
    Dv P e M H (.binOp .lss t x y t') (.bool (Op.bytesLess a b)) :=
  D_str hx hy (fun P w => by simp [S, binOp, Op.stringOp, S_list])
theorem D_leS {x y : Operand} {t t' : Nat} {a b : Str} (hx : e.val x = some (S a)) (hy : e.val y = some (S b))
       :
    Dv P e M H (.binOp .leq t x y t') (.bool (Op.bytesLess a b || decide (a = b))) :=
  D_str hx hy (fun P w => by simp only [S, binOp, Op.stringOp, S_list, str_beq]; rfl)
theorem D_gtS {x y : Operand} {t t' : Nat} {a b : Str} (hx : e.val x = some (S a)) (hy : e.val y = some (S b))
       :
    Dv P e M H (.binOp .gtr t x y t') (.bool (!(Op.bytesLess a b || decide (a = b)))) :=
  D_str hx hy (fun P w => by simp only [S, binOp, Op.stringOp, S_list, str_beq]; rfl)
theorem D_geS {x y : Operand} {t t' : Nat} {a b : Str} (hx : e.val x = some (S a)) (hy : e.val y = some (S b))
       :
    Dv P e M H (.binOp .geq t x y t') (.bool (!Op.bytesLess a b)) :=
  D_str hx hy (fun P w => by simp [S, binOp, Op.stringOp, S_list])
theorem S_append (a b : Str) : (⟨a.toArray⟩ : ByteArray) ++ ⟨b.toArray⟩ = ⟨(a ++ b).toArray⟩ := by
  apply ByteArray.ext
  simp
theorem D_addS {x y : Operand} {t t' : Nat} {a b : Str} (hx : e.val x = some (S a)) (hy : e.val y = some (S b)) (hl : a.length + b.length ≤ 9223372036854775807)
       :
    Dv P e M H (.binOp .add t x y t') (S (a ++ b)) :=
  D_str hx hy (fun P w => by
    have h : ¬ (((a.length + b.length : Nat) : Int) > IntKind.i64.max) := by
      show ¬ (((a.length + b.length : Nat) : Int) > 9223372036854775807)
      omega
    simp only [S, binOp, Op.stringOp, S_size, S_append]
    rw [if_neg h]
    rfl)
/-- a byte of a text -/
theorem D_index {t : Nat} {x i : Operand} {s : Str} {n : Int} {c : UInt8} {kd : IntKind} (ht : P.underlying t = some .string) (hx : e.val x = some (S s)) (hi : e.val i = some (.int kd n)) (h0 : 0 ≤ n) (hc : s[n.toNat]? = some c)
       :
    Dv P e M H (.index t x i) (.int .u8 c.toNat) :=
  ⟨(fun _ h => by cases h), fun _ a w _ _ _ _ _ hk hs => by
    have hb : (⟨s.toArray⟩ : ByteArray)[n.toNat]? = some c := by
      obtain ⟨hlt, hcc⟩ := List.getElem?_eq_some_iff.1 hc
      have : n.toNat < (⟨s.toArray⟩ : ByteArray).size := by rw [S_size]; exact hlt
      rw [getElem?_pos (⟨s.toArray⟩ : ByteArray) n.toNat this]
      simp [ByteArray.getElem_eq_getElem_data, hcc]
    simp [execOp, hk.eval hx, hk.eval hi, S, Instr.index, asIntOf, run_underlying ht, h0, hb]⟩
theorem D_indexN {t : Nat} {x i : Operand} {s : Str} {n : Int} {c : UInt8} {kd : IntKind} (k : Nat) (ht : P.underlying t = some .string) (hx : e.val x = some (S s)) (hi : e.val i = some (.int kd n)) (hk : n = (k : Int)) (hc : s[k]? = some c) : Dv P e M H (.index t x i) (.int .u8 c.toNat) := by
  subst hk
  exact D_index (M := M) (H := H) ht hx hi (by omega) hc
theorem D_lenS {t : Nat} {x : Operand} {s : Str} (ht : P.underlying t = some .string) (hx : e.val x = some (S s))
       :
    Dv P e M H (.call ⟨.builtin .len, #[x], #[t]⟩) (I s.length) :=
  ⟨(fun _ h => by cases h), fun _ a w _ _ _ _ _ hk hs => by
    simp [execOp, resolve, invoke, builtin, Builtin.len_, hk.eval hx, S, run_underlying ht, S_size, goInt]⟩
theorem D_lenL {t el : Nat} {x : Operand} {ad : Option Addr} {n c : Nat} (ht : P.underlying t = some (.slice el)) (hx : e.val x = some (.slice ad n c))
       :
    Dv P e M H (.call ⟨.builtin .len, #[x], #[t]⟩) (I n) :=
  ⟨(fun _ h => by cases h), fun _ a w _ _ _ _ _ hk hs => by
    simp [execOp, resolve, invoke, builtin, Builtin.len_, hk.eval hx, run_underlying ht, goInt]⟩
/-- s[lo:hi] of a text; a bound that is left out is given -/
theorem S_extract (s : Str) (a b : Nat) : (⟨s.toArray⟩ : ByteArray).extract a b = ⟨((s.drop a).take (b - a)).toArray⟩ := by
  apply ByteArray.ext
  simp [ByteArray.data_extract, List.extract_eq_take_drop]
def optInt (e : Env) (dflt : Int) : Option Operand → Option Int
  | none => some dflt
  | some x => match e.val x with
    | some (.int _ n) => some n
    | _ => none
theorem run_bnd {e : Env} {dflt : Int} {o : Option Operand} {n : Int} (h : optInt e dflt o = some n) {m : Nat} {a : Act} (hk : Knows m e a) :
    (o = none ∧ n = dflt) ∨ ∃ x kd, o = some x ∧ a.eval x = .int kd n := by
  cases o with
  | none => simp [optInt] at h; exact .inl ⟨rfl, h.symm⟩
  | some x =>
    simp only [optInt] at h
    cases hv : e.val x with
    | none => simp [hv] at h
    | some v => cases v <;> simp [hv] at h; rename_i kd n'; subst h; exact .inr ⟨x, kd, rfl, hk.eval hv⟩
theorem run_sliceBounds_in (P : Program) (w : World) (isS : Bool) (len cap : Nat) (lo hi : Option Value) (a b : Int) (hlo : (lo = none ∧ a = 0) ∨ ∃ kd, lo = some (.int kd a)) (hhi : (hi = none ∧ b = len) ∨ ∃ kd, hi = some (.int kd b))
    (h0 : 0 ≤ a) (h1 : a ≤ b) (h2 : b ≤ cap) (hlc : len ≤ cap) : (Instr.sliceBounds isS len cap lo hi none).run P w = .ok (a.toNat, b.toNat, cap) w := by
  have hb : ∀ (kd : IntKind) (n : Int) (y : Nat) c, 0 ≤ n → n ≤ y → (Instr.sliceBound (.int kd n) y c).run P w = .ok n.toNat w := fun kd n y c p q => by
    simp [Instr.sliceBound, asIntOf, p, q]
  rcases hlo with ⟨rfl, rfl⟩ | ⟨kl, rfl⟩ <;> rcases hhi with ⟨rfl, rfl⟩ | ⟨kh, rfl⟩
  · simp [Instr.sliceBounds]
  · simp [Instr.sliceBounds, hb kh b cap _ (by omega) h2]
  · simp [Instr.sliceBounds, hb kl a len _ h0 h1]
  · simp [Instr.sliceBounds, hb kh b cap _ (by omega) h2, hb kl a b.toNat _ h0 (by omega)]
theorem D_sliceS {t : Nat} {x : Operand} {lo hi : Option Operand} {s : Str} {a b : Int} (ht : P.underlying t = some .string) (hx : e.val x = some (S s)) (hlo : optInt e 0 lo = some a) (hhi : optInt e s.length hi = some b)
    (h0 : 0 ≤ a) (h1 : a ≤ b) (h2 : b ≤ s.length)
       :
    Dv P e M H (.slice t x lo hi none) (S ((s.drop a.toNat).take (b.toNat - a.toNat))) :=
  ⟨(fun _ h => by cases h), fun _ act w _ _ _ _ _ hk hs => by
    have hb := run_sliceBounds_in P w false s.length s.length (lo.map act.eval) (hi.map act.eval) a b
      (by rcases run_bnd hlo hk with ⟨rfl, h⟩ | ⟨x, kd, rfl, h⟩
          · exact .inl ⟨rfl, h⟩
          · exact .inr ⟨kd, by simp [h]⟩)
      (by rcases run_bnd hhi hk with ⟨rfl, h⟩ | ⟨x, kd, rfl, h⟩
          · exact .inl ⟨rfl, h⟩
          · exact .inr ⟨kd, by simp [h]⟩) h0 h1 h2 (Nat.le_refl _)
    simp only [execOp, hk.eval hx, S, Instr.sliceAt, Sem.run_bind, run_underlying ht, Result.andThen_ok, Instr.slice, S_size, Option.map_none, Option.isSome_none, Bool.false_eq_true, if_false, hb, S_extract, Sem.run_pure]⟩
theorem D_sliceL {t el : Nat} {sz : Nat} {x : Operand} {lo hi : Option Operand} {ad : Option Addr} {n c : Nat} {a b : Int} (ht : P.underlying t = some (.slice el)) (hsz : ∀ w, (sizeOf el).run P w = .ok sz w) (hx : e.val x = some (.slice ad n c))
    (hlo : optInt e 0 lo = some a) (hhi : optInt e n hi = some b) (h0 : 0 ≤ a) (h1 : a ≤ b) (h2 : b ≤ c) (hnc : n ≤ c)
       :
    Dv P e M H (.slice t x lo hi none) (.slice (if c = a.toNat then ad else ad.map (·.add (a.toNat * sz))) (b.toNat - a.toNat) (c - a.toNat)) :=
  ⟨(fun _ h => by cases h), fun _ act w _ _ _ _ _ hk hs => by
    have hb := run_sliceBounds_in P w true n c (lo.map act.eval) (hi.map act.eval) a b
      (by rcases run_bnd hlo hk with ⟨rfl, h⟩ | ⟨x, kd, rfl, h⟩
          · exact .inl ⟨rfl, h⟩
          · exact .inr ⟨kd, by simp [h]⟩)
      (by rcases run_bnd hhi hk with ⟨rfl, h⟩ | ⟨x, kd, rfl, h⟩
          · exact .inl ⟨rfl, h⟩
          · exact .inr ⟨kd, by simp [h]⟩) h0 h1 h2 hnc
    simp only [execOp, hk.eval hx, Instr.sliceAt, Sem.run_bind, run_underlying ht, Result.andThen_ok, Instr.slice, Option.map_none, hb, hsz, Sem.run_pure]⟩
/-! ### Blocks of cells -/
theorem E_box {t : Nat} {x : Operand} {v : Value} (cs : List Value) (hx : e.val x = some v) (hc : v.cells = cs.toArray) (k : ∀ b, Γ.R dl f ((d, P_ b 0) :: e) M (.blk b (.cells cs.toArray t) :: H))
     (hdn : Nat.ble (d + 1) Γ.n = true := by rfl) :
    Γ.R dl (Γ.op ⟨some d, .box t x, ty, pos, af, g⟩ f K) e M H :=
  E_val hdn (fun _ h => by cases h) (fun a w hk hs => ⟨_, _, _, _, by
    simp only [execOp, hk.eval hx, Instr.box, newVar, newRow, newObj, Sem.run_bind, Sem.run, Result.andThen_ok, hc, Sem.run_pure, World.alloc_eq], hs.alloc _, k _⟩)
theorem E_alloc {t : Nat} {z : Value} (cs : List Value) (hz : ∀ w, (zeroValue t).run Γ.P w = .ok z w) (hc : z.cells = cs.toArray) (k : ∀ b, Γ.R dl f ((d, P_ b 0) :: e) M (.blk b (.cells cs.toArray t) :: H))
     (hdn : Nat.ble (d + 1) Γ.n = true := by rfl) :
    Γ.R dl (Γ.op ⟨some d, .alloc t, ty, pos, af, g⟩ f K) e M H :=
  E_val hdn (fun _ h => by cases h) (fun a w hk hs => ⟨_, _, _, _, by
    simp only [execOp, Instr.alloc, newVar, newRow, newObj, Sem.run_bind, hz, Sem.run, Result.andThen_ok, hc, Sem.run_pure, World.alloc_eq], hs.alloc _, k _⟩)
/-- how a variable of type t reads in a block of these cells -/
def Rd (P : Program) (t : Nat) (cs : List Value) (off : Nat) (v : Value) : Prop :=
  ∀ (w : World) (b : Nat) (el : Nat) (fr : Nat × Nat), w.heap[b]? = some (.cells cs.toArray el fr) → (loadVar t ⟨b, off, none⟩).run P w = .ok v w
theorem Rd.one {P : Program} {t : Nat} {cs : List Value} {off : Nat} {v : Value} (ha : ∀ w, (isAgg t).run P w = .ok false w) (hv : cs[off]? = some v) : Rd P t cs off v := fun w b el fr hb => by
  have hc : w.cell? ⟨b, off, none⟩ = some v := by rw [cell_of_row w b off _ el fr hb]; simpa using hv
  simp [loadVar, ha, load, Sem.run, hc]
theorem Rd.agg {P : Program} {t : Nat} {dsc : TypeDesc} {cs : List Value} {off n : Nat} {vs : List Value} (hu : P.underlying t = some dsc) (hd : dsc.isRow = true) (hi : (P.info? t).map (·.size) = some n) (hv : (cs.drop off).take n = vs) (hn : vs.length = n) :
    Rd P t cs off (.agg vs.toArray) := fun w b el fr hb => by
  refine run_loadVar_mid w b off t vs dsc (fun j v hj => ?_) hu hd (by rw [hi, hn])
  rw [cell_of_row w b (off + j) _ el fr hb]
  subst hv
  rw [List.getElem?_take] at hj
  split at hj
  · simpa using hj
  · cases hj
theorem D_load {t : Nat} {x : Operand} {b off : Nat} {cs : List Value} {el : Nat} {fr : Nat × Nat} {v : Value} (hx : e.val x = some (P_ b off)) (hb : Has M H b (.cells cs.toArray el fr)) (hr : Rd P t cs off v)
       :
    Dv P e M H (.load t x) (v) :=
  ⟨(fun _ h => by cases h), fun _ a w _ _ _ _ _ hk hs => by
    simp [execOp, hk.eval hx, Instr.loadAt, Instr.sureAddr, hr w b el fr (hb.at hs)]⟩
/-- what a store makes of a block's cells -/
def Wr (P : Program) (t : Nat) (cs : List Value) (off : Nat) (v : Value) (cs' : List Value) : Prop :=
  ∀ (w : World) (b : Nat) (el : Nat), w.heap[b]? = some (.cells cs.toArray el) → (storeVar t ⟨b, off, none⟩ v).run P w = .ok () (w.setRow b cs'.toArray)
theorem E_store {t : Nat} {x y : Operand} {b off : Nat} {cs cs' : List Value} {el : Nat} {v : Value} (i : Nat) (hx : e.val x = some (P_ b off)) (hy : e.val y = some v) (hb : H[i]? = some (.blk b (.cells cs.toArray el))) (hw : Wr Γ.P t cs off v cs')
    (k : Γ.R dl f e M (H.set i (.blk b (.cells cs'.toArray el))))  :
    Γ.R dl (Γ.op ⟨none, .store t x y, ty, pos, af, g⟩ f K) e M H :=
  E_unit (fun _ h => by cases h) (fun a w hk hs => by
    have hbw : w.heap[b]? = some (.cells cs.toArray el) := (Has.own (M := M) i hb).at hs.cls
    have hlt : b < w.heap.size := (Array.getElem?_eq_some_iff.1 hbw).1
    refine ⟨w.setRow b cs'.toArray, M, H.set i (.blk b (.cells cs'.toArray el)), by simp [execOp, hk.eval hx, hk.eval hy, Instr.storeAt, Instr.sureAddr, hw w b el hbw], hs.turn hb _ ⟨rfl, rfl, rfl, by simp, fun k hk' hne => ?_⟩ (Nat.le_refl _) ?_ (fun b' hb' => .inl hb'), k⟩
    · have hne' : k ≠ b := fun e => hne (by subst e; rfl)
      simp only [World.setRow, Array.getElem?_modify]
      rw [if_neg (fun e => hne' e.symm)]
    · show (w.setRow b cs'.toArray).heap[b]? = _
      simp only [World.setRow, Array.getElem?_modify, if_true, hbw, Option.map_some])
end
end Go.Proofs.YtgmomhdammdjgaaGreat
