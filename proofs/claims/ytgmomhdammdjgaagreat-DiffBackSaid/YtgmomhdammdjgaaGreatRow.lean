/-
  A row of one's own, opened and closed; lent to a function that only reads; nil slices told apart. No condition: over any program.
-/
import Derived.Test.YtgmomhdammdjgaaGreatTree
set_option linter.unusedVariables false
set_option linter.unusedSimpArgs false
namespace Go.Proofs.YtgmomhdammdjgaaGreat
open Go Go.RowKit

theorem tmod_abs (a b : Int) (hb : 0 < b) : -b < a.tmod b ∧ a.tmod b < b := by
  have h2 := Int.tmod_lt_of_pos a hb
  have h1 := Int.lt_tmod_of_pos a hb
  omega
theorem tmod_lo (a b : Int) (hb : 0 < b) (h : b ≤ 1000000) : -9223372036854775808 ≤ a.tmod b := by have := tmod_abs a b hb; omega
theorem tmod_hi (a b : Int) (hb : 0 < b) (h : b ≤ 1000000) : a.tmod b ≤ 9223372036854775807 := by have := tmod_abs a b hb; omega
def wordS (k : Int) : Str := if k.tmod 2 = 0 then [60, 111, 110, 101, 62] else [60, 116, 119, 111, 62]
/-- the mark at a place behind a list of changes -/
def markC (k : Nat) : Change := ⟨wordS k, Val.zero, Val.zero⟩
theorem ones_Ptr (b : Nat) : ∀ u ∈ [P_ b 0], u.oneCell' = true := fun u hu => by simp at hu; subst hu; rfl
theorem ones_Str (q : Str) : ∀ u ∈ [S q], u.oneCell' = true := fun u hu => by simp at hu; subst hu; rfl
section
variable {P : Program} {Γ : Cx} {dl : List Deferred} {f : Then} {e : Env} {M : PMem} {H : List Res} {K : Kont} {d ty : Nat} {pos : String} {af : Array Edge} {g : Option (Nat × Bool)}
/-- a row, opened: no block at all, or one -/
theorem R_openRow {v : Value} {el sz n : Nat} {xs : List Value} (h0 : v = .slice none 0 0 → n = 0 → xs = [] → Γ.R dl f e M H)
    (h : ∀ b cap cs, v = .slice (some ⟨b, 0, none⟩) n cap → n ≤ cap → cap ≤ maxLen → cs.length = cap * sz → cs.take (n * sz) = xs → Γ.R dl f e M (.blk b (.cells (List.toArray cs) el) :: H)) :
    Γ.R dl f e M (.row v el sz n xs :: H) := fun a w hk hd hs => by
  obtain ⟨h1, h2⟩ := hs.own _ (List.mem_cons_self)
  rcases h2 with ⟨rfl, rfl⟩ | ⟨gb, cap, cur, rfl, _, hg, hnc, hcm, hcs, ht⟩
  · exact h0 rfl rfl (List.eq_nil_of_length_eq_zero (by simpa using h1)) a w hk hd (hs.drop (List.sublist_cons_self _ _))
  · have hb : St Γ.w0 Γ.X Γ.M0 M (.blk gb (.cells (List.toArray cur.toList) el) :: H) w := ⟨hs.kept, hs.sub, hs.mem, hs.new, fun r hr => by
        rcases List.mem_cons.1 hr with rfl | hr
        · show w.heap[gb]? = _
          simpa using hg
        · exact hs.own r (List.mem_cons_of_mem _ hr), fun r hr k hb => by
        rcases List.mem_cons.1 hr with rfl | hr
        · exact hs.free _ (List.mem_cons_self) k hb
        · exact hs.free r (List.mem_cons_of_mem _ hr) k hb, by
        obtain ⟨h1, h2⟩ := List.pairwise_cons.1 hs.apart
        exact List.Pairwise.cons (fun r hr k hb => h1 r hr k hb) h2⟩
    exact h gb cap cur.toList rfl hnc hcm (by simpa using hcs) ht a w hk hd hb
/-- .. and closed -/
theorem R_closeRow {b el sz n cap : Nat} {cs xs : List Value} (hnc : n ≤ cap) (hcm : cap ≤ maxLen) (hcs : cs.length = cap * sz) (hx : cs.take (n * sz) = xs) (h : Γ.R dl f e M (.row (.slice (some ⟨b, 0, none⟩) n cap) el sz n xs :: H)) : Γ.R dl f e M (.blk b (.cells (List.toArray cs) el) :: H) := fun a w hk hd hs =>
  h a w hk hd ⟨hs.kept, hs.sub, hs.mem, hs.new, fun r hr => by
    rcases List.mem_cons.1 hr with rfl | hr
    · refine ⟨?_, .inr ⟨b, cap, cs.toArray, rfl, Nat.zero_le _, hs.own _ (List.mem_cons_self), hnc, hcm, by simpa using hcs, by simpa using hx⟩⟩
      rw [← hx, List.length_take, hcs]
      exact Nat.min_eq_left (Nat.mul_le_mul_right _ hnc)
    · exact hs.own r (List.mem_cons_of_mem _ hr), fun r hr k hb => by
    rcases List.mem_cons.1 hr with rfl | hr
    · exact hs.free _ (List.mem_cons_self) k hb
    · exact hs.free r (List.mem_cons_of_mem _ hr) k hb, by
    obtain ⟨h1, h2⟩ := List.pairwise_cons.1 hs.apart
    exact List.Pairwise.cons (fun r hr k hb => h1 r hr k hb) h2⟩
/-- A call that only reads is lent a block of one's own. -/
theorem E_callL {c : Operand} {xs : List Operand} {at_ : Array TypeId} {vs : List Value} {fid : Nat} {cap : Array Value} {v : Value} {b : Nat} {o : Obj} (i : Nat) (hi : H[i]? = some (.blk b o))
    (hc : e.val c = some (.func (.func fid) #[] cap)) (hx : e.vals xs = some vs) (hen : ∀ (args : Array Value) (w : World), (callFunc fid args).run Γ.P w = .ok (.enter fid args) w)
    (hcon : ∀ w, PMem.le M (M.add b o) → (M.add b o) b = some o → Lies (M.add b o) w → Ends Γ.P fid (vs ++ cap.toList) w [] (M.add b o) (fun v' M' H' => v' = v ∧ M' = M.add b o ∧ H' = []))
    (k : Γ.R dl f ((d, v) :: e) M H) (hdn : Nat.ble (d + 1) Γ.n = true := by rfl) :
    Γ.R dl (Γ.op ⟨some d, .call ⟨.value c, xs.toArray, at_⟩, ty, pos, af, g⟩ f K) e M H := fun a w hk hd hs => by
  have hargs := hk.evals hx
  have hrun : (execOp a.eval ⟨some d, .call ⟨.value c, xs.toArray, at_⟩, ty, pos, af, g⟩).run Γ.P w = .ok (.enter fid (vs.toArray ++ cap)) w := by
    have : xs.toArray.map a.eval = vs.toArray := by rw [← hargs]; simp
    simp [execOp, resolve, this, hk.eval hc, Deferred.ofValue, invoke, hen]
  show Oper.uponIn _ _ _ _ _ _ _ _
  rw [semAt_ex _ _ (fun _ h => by cases h), hrun]
  refine ⟨fun h => by simp [Fw, Fence.wide] at h, callsIn_fw ?_⟩
  have hmem : Res.blk b o ∈ H := List.mem_of_getElem? hi
  have hMb : M b = none := (hs.free _ hmem b rfl).1
  have hle : PMem.le M (M.add b o) := PMem.le_add hMb
  have hL : Lies (M.add b o) w := fun k o' hk' => by
    simp only [PMem.add] at hk'
    split at hk'
    · rename_i e1; subst e1; cases hk'; exact hs.own _ hmem
    · exact hs.mem k o' hk'
  have hcalls := hcon w hle (PMem.add_same _ _ _) hL
  unfold Ends at hcalls
  have harr : (vs ++ cap.toList).toArray = vs.toArray ++ cap := by simp
  rw [harr] at hcalls
  refine hcalls.mono ?_
  rintro en w' ⟨v', M', H', rfl, hst, rfl, rfl, rfl⟩
  have hkept := hst.kept
  have hlt : ∀ r ∈ H, ∀ b', r.fp = some b' → b' < w.heap.size := fun r hr b' hb' => Res.holds_lt (hs.own r hr) hb'
  refine k _ _ (hk.put (Nat.le_of_ble_eq_true hdn) _) (by simpa [Act.put] using hd) ?_
  exact ⟨⟨hkept.os.trans hs.kept.os, hkept.tape.trans hs.kept.tape, hkept.output.trans hs.kept.output, Nat.le_trans hs.kept.size hkept.size, fun k' hk' hx' => (hkept.block k' (Nat.lt_of_lt_of_le hk' hs.kept.size) (by simp)).trans (hs.kept.block k' hk' hx'), Nat.le_trans hs.kept.drawn hkept.drawn⟩,
    hs.sub, fun b' o' hb' => (hkept.block b' (hs.lies_lt hb') (by simp)).trans (hs.mem b' o' hb'), hs.new, fun r hr => Res.holds_of (hs.own r hr) (fun b' hb' => hkept.block b' (hlt r hr b' hb') (by simp)), hs.free, hs.apart⟩
/-- append of nothing -/
theorem E_append0 {s x : Operand} {t el sz bytes : Nat} {v : Value} {n c : Nat} {ad : Addr} {xs : List Value} (i : Nat)
    (h1 : Γ.P.underlying t = some (.slice el)) (hE : ElemOk Γ.P el sz bytes) (hs : e.val s = some v) (hx : e.val x = some (.slice (some ad) 0 c)) (hrow : H[i]? = some (.row v el sz n xs)) (b1 : n ≤ maxLen) (b2 : n * bytes ≤ 140737488355328)
    (k : ∀ v', v'.oneCell' = true → Γ.R dl f ((d, v') :: e) M (H.set i (.row v' el sz n xs))) (hdn : Nat.ble (d + 1) Γ.n = true := by rfl) :
    Γ.R dl (Γ.op ⟨some d, .call ⟨.builtin .append, #[s, x], #[t, t]⟩, ty, pos, af, g⟩ f K) e M H :=
  E_val hdn (fun _ h => by cases h) fun a w hk hst => by
    obtain ⟨i0, z, h2, h3, h4, h5, h6, h7⟩ := hE
    have hown : w.ownsRow 0 el sz v n xs := hst.own _ (List.mem_of_getElem? hrow)
    obtain ⟨v', w', hrun, r1, r2, r3⟩ := run_append_own (P := Γ.P) w 0 t ty el i0 z sz bytes h1 h2 h3 h4 h5 h6 h7 v n xs hown ad 0 c [] (by simp) (fun j u hj => by simp at hj) (by simp) (by simpa using b1) (by simpa using b2) (Nat.zero_le _)
    rw [List.append_nil, Nat.add_zero] at r1
    have hw := append_where (P := Γ.P) (news := []) (m := 0) h1 h2 h3 h4 h5 h6 h7 hown (by simp) (fun j u hj => by simp at hj) (by simp) (by simpa using b1) (by simpa using b2) hrun
    refine ⟨v', w', M, _, ?_, hst.turn hrow (.row v' el sz n xs) r2 hw.2 r1 hw.1, k v' (by
      rcases r1.2 with ⟨rfl, _⟩ | ⟨g, cap, cur, rfl, _⟩ <;> rfl)⟩
    simp [execOp, resolve, invoke, builtin, hk.eval hs, hk.eval hx, hrun]
theorem equalIn_nil (k : Nat) {t el n c : Nat} {ad : Option Addr} (ht : P.underlying t = some (.slice el)) (w : World) : (Op.equalIn (k + 1) t (.slice ad n c) (.slice none 0 0)).run P w = .ok ad.isNone w := by
  cases ad <;> simp [Op.equalIn, run_underlying ht]
/-- a slice against nil -/
theorem D_sliceNil {x : Operand} {t t' el : Nat} {ad : Option Addr} {n c : Nat} (ht : P.underlying t = some (.slice el)) (hx : e.val x = some (.slice ad n c)) : Dv P e M H (.binOp .eql t x (.const (.slice none 0 0)) t') (.bool ad.isNone) :=
  ⟨(fun _ h => by cases h), fun _ a w _ _ _ _ _ hk hs => by
    have h1 : (Op.equal t (.slice ad n c) (.slice none 0 0)).run P w = .ok ad.isNone w := equalIn_nil 9999 ht w
    have h2 : (eqGuard .eql t x (.const (.slice none 0 0)) (.slice ad n c) (.slice none 0 0)).run P w = .ok () w := by simp [eqGuard]
    have h3 : (binOp .eql t (.slice ad n c) (.slice none 0 0)).run P w = .ok (.bool ad.isNone) w := by
      rw [show binOp .eql t (.slice ad n c) (.slice none 0 0) = (Op.equal t (.slice ad n c) (.slice none 0 0) >>= fun r => pure (Value.bool r)) from rfl, bind_ok h1, Sem.run_pure]
    have hc : a.eval (.const (.slice none 0 0)) = .slice none 0 0 := rfl
    simp only [execOp, hk.eval hx, hc, Sem.run_bind, h2, h3, Result.andThen_ok, Sem.run_pure]⟩
theorem equalIn_ptr (k : Nat) {t el : Nat} {o : Option Addr} (ht : P.underlying t = some (.pointer el)) (w : World) : (Op.equalIn (k + 1) t (.pointer o) (.pointer none)).run P w = .ok o.isNone w := by
  cases o <;> simp [Op.equalIn, run_underlying ht]
/-- a pointer against nil -/
theorem D_ptrNil {x : Operand} {t t' el : Nat} {o : Option Addr} (ht : P.underlying t = some (.pointer el)) (hx : e.val x = some (.pointer o)) : Dv P e M H (.binOp .eql t x (.const (.pointer none)) t') (.bool o.isNone) :=
  ⟨(fun _ h => by cases h), fun _ a w _ _ _ _ _ hk hs => by
    have h1 : (Op.equal t (.pointer o) (.pointer none)).run P w = .ok o.isNone w := equalIn_ptr 9999 ht w
    have h2 : (eqGuard .eql t x (.const (.pointer none)) (.pointer o) (.pointer none)).run P w = .ok () w := by simp [eqGuard]
    have h3 : (binOp .eql t (.pointer o) (.pointer none)).run P w = .ok (.bool o.isNone) w := by
      rw [show binOp .eql t (.pointer o) (.pointer none) = (Op.equal t (.pointer o) (.pointer none) >>= fun r => pure (Value.bool r)) from rfl, bind_ok h1, Sem.run_pure]
    have hc : a.eval (.const (.pointer none)) = .pointer none := rfl
    simp only [execOp, hk.eval hx, hc, Sem.run_bind, h2, h3, Result.andThen_ok, Sem.run_pure]⟩
theorem D_ptrNotNil {x : Operand} {t t' el : Nat} {o : Option Addr} (ht : P.underlying t = some (.pointer el)) (hx : e.val x = some (.pointer o)) : Dv P e M H (.binOp .neq t x (.const (.pointer none)) t') (.bool (!o.isNone)) :=
  ⟨(fun _ h => by cases h), fun _ a w _ _ _ _ _ hk hs => by
    have h1 : (Op.equal t (.pointer o) (.pointer none)).run P w = .ok o.isNone w := equalIn_ptr 9999 ht w
    have h2 : (eqGuard .neq t x (.const (.pointer none)) (.pointer o) (.pointer none)).run P w = .ok () w := by simp [eqGuard]
    have h3 : (binOp .neq t (.pointer o) (.pointer none)).run P w = .ok (.bool (!o.isNone)) w := by
      rw [show binOp .neq t (.pointer o) (.pointer none) = (Op.equal t (.pointer o) (.pointer none) >>= fun r => pure (Value.bool (!r))) from rfl, bind_ok h1, Sem.run_pure]
    have hc : a.eval (.const (.pointer none)) = .pointer none := rfl
    simp only [execOp, hk.eval hx, hc, Sem.run_bind, h2, h3, Result.andThen_ok, Sem.run_pure]⟩
/-- the rest of a division -/
theorem D_rem {x y : Operand} {t t' : Nat} {a b c : Int} (hx : e.val x = some (I a)) (hy : e.val y = some (I b)) (hb : ¬ b = 0) (hc : a.tmod b = c) (h0 : -9223372036854775808 ≤ c) (h1 : c ≤ 9223372036854775807) : Dv P e M H (.binOp .rem t x y t') (I c) :=
  D_int hx hy (fun P w => by
    subst hc
    simp [binOp, Op.intArith, Op.intDiv, hb, i64_in _ h0 h1])
/-- l[:hi:max] -/
theorem D_slice3 {t el sz : Nat} {x hi mx : Operand} {ad : Option Addr} {n c m q : Nat} (ht : P.underlying t = some (.slice el)) (hsz : ∀ w, (sizeOf el).run P w = .ok sz w) (hx : e.val x = some (.slice ad n c)) (hh : e.val hi = some (I (m : Int))) (hm : e.val mx = some (I (q : Int))) (h1 : m ≤ q) (h2 : q ≤ c) (hnc : n ≤ c) :
    Dv P e M H (.slice t x none (some hi) (some mx)) (.slice ad m q) :=
  ⟨(fun _ h => by cases h), fun _ act w _ _ _ _ _ hk hs => by
    have hb : (Instr.sliceBounds true n c none (some (I (m : Int))) (some (I (q : Int)))).run P w = .ok (0, m, q) w := by
      have hq : ∀ (k y : Nat) c', k ≤ y → (Instr.sliceBound (I (k : Int)) y c').run P w = .ok k w := fun k y c' h => by
        simp [Instr.sliceBound, asIntOf, h]
      simp [Instr.sliceBounds, hq q c _ h2, hq m q _ h1]
    have e1 : (if q = 0 then ad else ad.map (·.add (0 * sz))) = ad := by
      split
      · rfl
      · cases ad <;> simp [Addr.add]
    simp only [execOp, hk.eval hx, Instr.sliceAt, Sem.run_bind, run_underlying ht, Result.andThen_ok, Instr.slice, Option.map_none, Option.map_some, hk.eval hh, hk.eval hm, hb, hsz, Sem.run_pure, Nat.sub_zero]
    rw [e1]⟩
theorem run_append_nil {t el sz ty n cap c : Nat} {base ad : Option Addr} (h1 : P.underlying t = some (.slice el)) (hsz : ∀ w, (sizeOf el).run P w = .ok sz w) (hn : n ≤ cap) (w : World) : (Builtin.append_ #[t, t] ty #[.slice base n cap, .slice ad 0 c]).run P w = .ok (.slice base n cap) w := by
  have hl : ∀ a : Addr, (loadCells a 0).run P w = .ok #[] w := fun a => by simp [loadCells, loadCellsFrom]
  have hf : (Builtin.firstCells sz 0 (.slice ad 0 c)).run P w = .ok #[] w := by
    cases ad with
    | none => simp [Builtin.firstCells]
    | some a => simp [Builtin.firstCells, hl]
  cases base <;> simp [Builtin.append_, run_underlying h1, hsz, Builtin.lenOf, hn, hf, storeCells]
/-- append of nothing, a nil slice too -/
theorem E_appendNil {s x : Operand} {t el sz n cap c : Nat} {base ad : Option Addr} (h1 : Γ.P.underlying t = some (.slice el)) (hsz : ∀ w, (sizeOf el).run Γ.P w = .ok sz w) (hs : e.val s = some (.slice base n cap)) (hx : e.val x = some (.slice ad 0 c)) (hn : n ≤ cap)
    (k : Γ.R dl f ((d, .slice base n cap) :: e) M H) (hdn : Nat.ble (d + 1) Γ.n = true := by rfl) : Γ.R dl (Γ.op ⟨some d, .call ⟨.builtin .append, #[s, x], #[t, t]⟩, ty, pos, af, g⟩ f K) e M H :=
  E_val hdn (fun _ h => by cases h) fun a w hk hst => ⟨_, w, M, H, by
    simp [execOp, resolve, invoke, builtin, hk.eval hs, hk.eval hx, run_append_nil h1 hsz hn w], hst, k⟩
/-- a row's value is a slice -/
theorem R_rowShape {v : Value} {el sz n : Nat} {xs : List Value} (h : ∀ ad cap, v = .slice ad n cap → n ≤ cap → Γ.R dl f e M (.row v el sz n xs :: H)) : Γ.R dl f e M (.row v el sz n xs :: H) := fun a w hk hd hs => by
  obtain ⟨h1, h2⟩ := hs.own _ (List.mem_cons_self)
  rcases h2 with ⟨rfl, rfl⟩ | ⟨gb, cap, cur, rfl, _, hg, hnc, hcm, hcs, ht⟩
  · exact h none 0 rfl (Nat.le_refl _) a w hk hd hs
  · exact h _ cap rfl hnc a w hk hd hs
theorem _root_.Go.Proofs.YtgmomhdammdjgaaGreat.St.startR {w : World} {M : PMem} {r : Res} (hM : Lies M w) (hr : r.holds w) (hf : ∀ b, r.fp = some b → M b = none) : St w r.fp.toList M M [r] w :=
  St.start_own hM [r] (fun q hq b hb => by simp at hq; subst hq; simp [hb]) (fun q hq => by simp at hq; subst hq; exact hr) (fun q hq b hb => by simp at hq; subst hq; exact hf b hb) (List.pairwise_singleton _ _)
/-- a call that is handed one resource -/
theorem E_callH1 {c : Operand} {xs : List Operand} {at_ : Array TypeId} {vs : List Value} {fid : Nat} {cap : Array Value} {r : Res} {post : Value → PMem → List Res → Prop} (i : Nat) (hi : H[i]? = some r)
    (hc : e.val c = some (.func (.func fid) #[] cap)) (hx : e.vals xs = some vs) (hen : ∀ (args : Array Value) (w : World), (callFunc fid args).run Γ.P w = .ok (.enter fid args) w)
    (hcon : ∀ w, Lies M w → r.holds w → (∀ b, r.fp = some b → M b = none) → Ends Γ.P fid (vs ++ cap.toList) w r.fp.toList M post)
    (k : ∀ v M' H', PMem.le M M' → post v M' H' → Γ.R dl f ((d, v) :: e) M' (H' ++ (H.take i ++ H.drop (i + 1)))) (hdn : Nat.ble (d + 1) Γ.n = true := by rfl) :
    Γ.R dl (Γ.op ⟨some d, .call ⟨.value c, xs.toArray, at_⟩, ty, pos, af, g⟩ f K) e M H :=
  E_call (Hc := [r]) (Hr := H.take i ++ H.drop (i + 1)) (Y := r.fp.toList) hc hx hen (perm_front i hi).symm (fun y hy => ⟨r, List.mem_singleton.2 rfl, by simpa using hy⟩)
    (fun w hM hown hfree _ => hcon w hM (hown _ (List.mem_singleton.2 rfl)) (fun b hb => hfree _ (List.mem_singleton.2 rfl) b hb)) k hdn
end
end Go.Proofs.YtgmomhdammdjgaaGreat
