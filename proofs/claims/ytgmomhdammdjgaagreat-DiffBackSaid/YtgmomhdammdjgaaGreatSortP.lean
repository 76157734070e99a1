/-
  slices.SortFunc at the program's spots, by the shelf's contract: a permutation, in the order of paths. Conditions: fewer than 2^32 spots, paths within 2^30.
-/
import Derived.Test.YtgmomhdammdjgaaGreatDiff1
import Derived.Test.YtgmomhdammdjgaaGreatOrd
import Derived.Ground.SlsfProg
set_option linter.unusedVariables false
set_option linter.unusedSimpArgs false
set_option maxRecDepth 20000
set_option maxHeartbeats 4000000
namespace Go.Proofs.YtgmomhdammdjgaaGreat
open Go Go.Proofs Go.RowKit

theorem en89 : ∀ (args : Array Value) (w : World), (callFunc 89 args).run Tryz.prog w = .ok (.enter 89 args) w := enters_fn Tryz.func89 (by kernel_rfl) rfl
theorem en90 : ∀ (args : Array Value) (w : World), (callFunc 90 args).run Tryz.prog w = .ok (.enter 90 args) w := enters_fn Tryz.func90 (by kernel_rfl) rfl
def sortLaid_ren : Go.Shelf.Ren := ⟨fun | 6 => 89 | 15 => 115 | 14 => 114 | 28 => 134 | 29 => 135 | 20 => 126 | 21 => 127 | 22 => 128 | 23 => 129 | 24 => 130 | 25 => 131 | 26 => 132 | 27 => 133 | 46 => 142 | 47 => 143 | 48 => 144 | 49 => 145 | 50 => 146 | 57 => 152 | n => n, fun | 22 => 144 | 24 => 149 | 25 => 151 | 3 => 3 | 39 => 208 | 0 => 0 | 53 => 224 | 55 => 226 | 4 => 4 | 46 => 218 | 45 => 217 | 50 => 213 | 5 => 5 | 9 => 9 | 66 => 229 | 70 => 233 | 76 => 240 | 77 => 241 | n => n, fun n => n⟩
theorem sortLaid : Go.Proofs.SlLaysF0.n6 Tryz.prog sortLaid_ren := {
    mixed := by kernel_rfl
    f6 := ⟨Tryz.f89.name, by decide, Tryz.func89.trans (congrArg some (by kernel_rfl))⟩
    f14 := ⟨Tryz.f114.name, by decide, Tryz.func114.trans (congrArg some (by kernel_rfl))⟩
    f15 := Tryz.func115.trans (congrArg some (by kernel_rfl))
    f20 := ⟨Tryz.f126.name, by decide, Tryz.func126.trans (congrArg some (by kernel_rfl))⟩
    f21 := ⟨Tryz.f127.name, by decide, Tryz.func127.trans (congrArg some (by kernel_rfl))⟩
    f22 := ⟨Tryz.f128.name, by decide, Tryz.func128.trans (congrArg some (by kernel_rfl))⟩
    f23 := ⟨Tryz.f129.name, by decide, Tryz.func129.trans (congrArg some (by kernel_rfl))⟩
    f24 := ⟨Tryz.f130.name, by decide, Tryz.func130.trans (congrArg some (by kernel_rfl))⟩
    f25 := ⟨Tryz.f131.name, by decide, Tryz.func131.trans (congrArg some (by kernel_rfl))⟩
    f26 := ⟨Tryz.f132.name, by decide, Tryz.func132.trans (congrArg some (by kernel_rfl))⟩
    f27 := ⟨Tryz.f133.name, by decide, Tryz.func133.trans (congrArg some (by kernel_rfl))⟩
    f28 := Tryz.func134.trans (congrArg some (by kernel_rfl))
    f29 := Tryz.func135.trans (congrArg some (by kernel_rfl))
    f46 := ⟨Tryz.f142.name, by decide, Tryz.func142.trans (congrArg some (by kernel_rfl))⟩
    f47 := Tryz.func143.trans (congrArg some (by kernel_rfl))
    f48 := Tryz.func144.trans (congrArg some (by kernel_rfl))
    f49 := ⟨Tryz.f145.name, by decide, Tryz.func145.trans (congrArg some (by kernel_rfl))⟩
    f50 := ⟨Tryz.f146.name, by decide, Tryz.func146.trans (congrArg some (by kernel_rfl))⟩
    f57 := ⟨Tryz.f152.name, by decide, Tryz.func152.trans (congrArg some (by kernel_rfl))⟩
    t0 := Tryz.underlying0
    a0 := Tryz.isAgg0
    z0 := Tryz.sizeOf0
    v0 := Tryz.zeroValue0
    t3 := Tryz.underlying3
    a3 := Tryz.isAgg3
    z3 := Tryz.sizeOf3
    v3 := Tryz.zeroValue3
    t4 := Tryz.underlying4
    a4 := Tryz.isAgg4
    z4 := Tryz.sizeOf4
    v4 := Tryz.zeroValue4
    t5 := Tryz.underlying5
    a5 := Tryz.isAgg5
    z5 := Tryz.sizeOf5
    v5 := Tryz.zeroValue5
    t9 := Tryz.underlying9
    a9 := Tryz.isAgg9
    z9 := Tryz.sizeOf9
    v9 := Tryz.zeroValue9
    t22 := Tryz.underlying144
    a22 := Tryz.isAgg144
    z22 := Tryz.sizeOf144
    v22 := Tryz.zeroValue144
    t25 := Tryz.underlying151
    a25 := Tryz.isAgg151
    z25 := Tryz.sizeOf151
    v25 := Tryz.zeroValue151
    t39 := Tryz.underlying208
    a39 := Tryz.isAgg208
    z39 := Tryz.sizeOf208
    v39 := Tryz.zeroValue208
    t45 := Tryz.underlying217
    a45 := Tryz.isAgg217
    z45 := Tryz.sizeOf217
    v45 := Tryz.zeroValue217
    t46 := Tryz.underlying218
    a46 := Tryz.isAgg218
    z46 := Tryz.sizeOf218
    v46 := Tryz.zeroValue218
    t50 := Tryz.underlying213
    a50 := Tryz.isAgg213
    z50 := Tryz.sizeOf213
    v50 := Tryz.zeroValue213
    t53 := Tryz.underlying224
    a53 := Tryz.isAgg224
    z53 := Tryz.sizeOf224
    v53 := Tryz.zeroValue224
    t55 := Tryz.underlying226
    a55 := Tryz.isAgg226
    z55 := Tryz.sizeOf226
    v55 := Tryz.zeroValue226
    t66 := Tryz.underlying229
    a66 := Tryz.isAgg229
    z66 := Tryz.sizeOf229
    v66 := Tryz.zeroValue229
    t70 := Tryz.underlying233
    a70 := Tryz.isAgg233
    z70 := Tryz.sizeOf233
    v70 := Tryz.zeroValue233
    t76 := Tryz.underlying240
    a76 := Tryz.isAgg240
    z76 := Tryz.sizeOf240
    v76 := Tryz.zeroValue240
    t77 := Tryz.underlying241
    a77 := Tryz.isAgg241
    z77 := Tryz.sizeOf241
    v77 := Tryz.zeroValue241 }

/-- a spot whose path is no longer than may be -/
abbrev SpotB := { s : Spot // s.path.length ≤ 1073741824 }
instance spotBInh : Inhabited SpotB := ⟨⟨Spot.zero, by simp [Spot.zero]⟩⟩
def encB (x : SpotB) : List Value := x.1.cells
theorem spot_one (x : SpotB) : ∀ v ∈ encB x, v.oneCell' = true := by
  have h : (encB x).all (·.oneCell') = true := rfl
  exact fun v hv => List.all_eq_true.1 h v hv
theorem Kept.grown {w w' : World} (h : Kept [] w w') : ∃ q os, w' = Go.Sort.grow (w.drewN q) os := by
  refine ⟨w'.drawn - w.drawn, w'.heap.extract w.heap.size w'.heap.size, ?_⟩
  have h1 := h.os; have h2 := h.tape; have h3 := h.output; have h4 := h.drawn; have h5 := h.size; have h6 := h.block
  cases w; cases w'
  simp only at h1 h2 h3 h4 h5 h6
  subst h1; subst h2; subst h3
  simp only [Go.Sort.grow, World.drewN, World.mk.injEq, and_true, true_and]
  refine ⟨?_, by omega⟩
  refine Array.ext_getElem? fun i => ?_
  rw [Array.getElem?_append]
  split
  · rename_i hi; exact h6 i hi (by simp)
  · rename_i hi
    rw [Array.getElem?_extract]
    split
    · congr 1; omega
    · rename_i hi2; rw [Array.getElem?_eq_none (by omega)]
theorem cmpLays (b size : Nat) (w : World) : CmpLays Tryz.prog 90 #[] encB 36 (fun x y : SpotB => cmpP x.1.path y.1.path) b 0 size w := fun m os dk _ x y => by
  have h := grow1_C x.1 y.1 (fun _ => none) (sortWorldK encB 36 w b 0 m dk os) (lies_none _) x.2 y.2
  refine Calls.mono (show Calls Tryz.prog 90 #[.agg (encB x).toArray, .agg (encB y).toArray] _ _ from h) ?_
  rintro e w' ⟨v, M', H', rfl, hst, rfl, rfl, rfl⟩
  exact ⟨rfl, hst.kept.grown⟩
/-- sorted by path, no two alike -/
def SortedS (l : List Spot) : Prop := l.Pairwise (fun x y => cmpP y.path x.path ≥ 0)
theorem sort_C (l : List Spot) (hl : ∀ s ∈ l, s.path.length ≤ 1073741824) (hn : l.length < 4294967296) (b cap : Nat) (M : PMem) (w : World) (hM : Lies M w) (hr : (Res.row (.slice (some ⟨b, 0, none⟩) l.length cap) 149 36 l.length (l.flatMap Spot.cells)).holds w)
    (hf : ∀ q, (Res.row (.slice (some ⟨b, 0, none⟩) l.length cap) 149 36 l.length (l.flatMap Spot.cells)).fp = some q → M q = none) :
    Ends Tryz.prog 89 [.slice (some ⟨b, 0, none⟩) l.length cap, .func (.func 90) #[] #[]] w [b] M (fun v M' H' => M' = M ∧ ∃ l' : List Spot, l'.Perm l ∧ SortedS l' ∧ H' = [.row (.slice (some ⟨b, 0, none⟩) l.length cap) 149 36 l.length (l'.flatMap Spot.cells)]) := by
  obtain ⟨lb, hlb⟩ : ∃ lb : List SpotB, lb.map (·.1) = l := by
    refine ⟨l.attach.map fun s => ⟨s.1, hl s.1 s.2⟩, ?_⟩
    rw [List.map_map]
    exact List.attach_map_subtype_val l
  have hll : lb.length = l.length := by rw [← hlb, List.length_map]
  have hflat : ∀ q : List SpotB, (q.map (·.1)).flatMap Spot.cells = q.flatMap encB := fun q => by rw [List.flatMap_map]; rfl
  have hst0 : St w [b] M M [.row (.slice (some ⟨b, 0, none⟩) l.length cap) 149 36 l.length (l.flatMap Spot.cells)] w := St.startR hM hr hf
  obtain ⟨h1, h2⟩ := hr
  rcases h2 with ⟨h2, _⟩ | ⟨gb, cap', cur, h2, _, hg, hnc, hcm, hcs, ht⟩
  · cases h2
  · cases h2
    have hb : w.heap[b]? = some (.cells (List.toArray cur.toList) 149) := by simpa using hg
    have htk : cur.toList.take (lb.toArray.size * 36) = lb.toArray.toList.flatMap encB := by
      rw [List.size_toArray, hll, ht, ← hlb, hflat]
    have hH := holdsK_row (enc := encB) (k := 36) (fun _ => rfl) (by omega) hb htk
    have hcon := AnyQ.slices_SortFunc sortLaid 36 Tryz.isAgg149 Tryz.sizeOf149 encB (fun _ => rfl) spot_one (fun x y : SpotB => cmpP x.1.path y.1.path) (swoP (fun x : SpotB => x.1.path)) 90 #[] b 0 cap lb.toArray w en90 (cmpLays b _ w) hH (Array.getElem?_eq_some_iff.1 hg).1 (by simp; omega)
    rw [List.size_toArray, hll] at hcon
    refine Calls.mono (show Calls Tryz.prog 89 #[.slice (some ⟨b, 0, none⟩) l.length cap, .func (.func 90) #[] #[]] w _ from hcon) ?_
    rintro e w' ⟨rfl, d', n, os, hp, hs, rfl⟩
    obtain ⟨hp1, _, hp3⟩ := hp
    have hd' : d'.size = l.length := by rw [hp1]; simp [hll]
    obtain ⟨k1, k2, k3⟩ := sortWorldK_at (enc := encB) (k := 36) (m := n) (d := d') (os := os) (fun _ => rfl) (by omega) hb (by rw [hd', show cur.toList.length = cap * 36 from (by simpa using hcs)]; exact Nat.mul_le_mul_right _ hnc)
    have hperm : (d'.toList.map (·.1)).Perm l := by
      rw [← hlb]
      refine List.Perm.map _ ?_
      have e1 : d'.extract 0 l.length = d' := by rw [← hd']; simp
      have e2 : lb.toArray.extract 0 l.length = lb.toArray := by rw [← hll]; simp
      rw [e1, e2] at hp3
      exact hp3
    refine ⟨_, M, _, rfl, hst0.turn (i := 0) rfl (.row (.slice (some ⟨b, 0, none⟩) l.length cap) 149 36 l.length ((d'.toList.map (·.1)).flatMap Spot.cells)) k2 k3 ?_ (fun q hq => .inl hq), rfl, d'.toList.map (·.1), hperm, ?_, rfl⟩
    · refine ⟨by rw [hflat, len_flat (enc := encB) (n := 36) (fun _ => rfl)]; simp [hd'], .inr ⟨b, cap, _, rfl, Nat.zero_le _, k1, hnc, hcm, ?_, ?_⟩⟩
      · have e3 : (d'.toList.flatMap encB).length = l.length * 36 := by rw [len_flat (enc := encB) (n := 36) (fun _ => rfl)]; simp [hd']
        have e4 : l.length * 36 ≤ cap * 36 := Nat.mul_le_mul_right _ hnc
        have e0 : cur.toList.length = cap * 36 := by simpa using hcs
        simp only [List.size_toArray, List.length_append, List.length_drop, e3, hd', e0]
        omega
      · have e3 : (d'.toList.flatMap encB).length = l.length * 36 := by rw [len_flat (enc := encB) (n := 36) (fun _ => rfl)]; simp [hd']
        rw [hflat]
        exact List.take_left' e3
    · refine List.pairwise_map.2 (List.pairwise_iff_getElem.2 fun i j hi hj hij => ?_)
      have h3 := hs i j (Nat.zero_le _) hij (by have : j < d'.size := by simpa using hj
                                                omega)
      have hi' : i < d'.size := by simpa using hi
      have hj' : j < d'.size := by simpa using hj
      rw [getElem!_pos d' i hi', getElem!_pos d' j hj'] at h3
      simp only [ltOf, decide_eq_false_iff_not, Int.not_lt] at h3
      simpa using h3

end Go.Proofs.YtgmomhdammdjgaaGreat
