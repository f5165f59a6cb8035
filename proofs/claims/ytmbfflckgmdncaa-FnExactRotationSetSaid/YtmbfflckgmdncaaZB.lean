/- Sorting angles: slices.SortFunc, slices.SortedFunc over slices.Values, impl.sorted. -/
import Derived.Test.YtmbfflckgmdncaaZ8
import Derived.Test.YtmbfflckgmdncaaZA
import Derived.Test.YtmbfflckgmdncaaSortA
import Derived.Shelf.SlSortCmp.NoneTotal
import Derived.Shelf.SlGeneric
import Derived.Ground.SlsfProg
namespace Go.Proofs.Ytmbfflckgmdncaa.Fw
open Go Go.RowKit Go.Sort Go.Shelf Go.Lib
set_option linter.unusedVariables false
set_option linter.unusedSimpArgs false
set_option maxRecDepth 100000
set_option maxHeartbeats 2000000

theorem nanQ_in (x : Int) (w : World) : Calls Try.prog 31 #[.int .i64 x] w fun e w' => e = .returned (.bool false) ∧ w' = w := by
  go_enter Try.func31, Try.ntmps31
  go_wp2
  go_ret
  exact ⟨by simp, rfl⟩
theorem cmpQ_in (x y : Int) (w : World) : Calls Try.prog 27 #[.int .i64 x, .int .i64 y] w fun e w' => e = .returned (.int .i64 (cmpI x y)) ∧ w' = w := by
  go_enter Try.func27, Try.ntmps27
  go_wp2_with (go_at_call 31; refine (nanQ_in _ _).mono ?_; rintro e w' ⟨rfl, rfl⟩)
  all_goals go_ret
  all_goals (refine ⟨?_, rfl⟩; unfold cmpI; repeat (first | rw [if_pos (by omega)] | rw [if_neg (by omega)]); try rfl)
theorem compQ_in {x y : Ang} (hx : IsA x) (hy : IsA y) (w : World) : Calls Try.prog 22 #[vQ x, vQ y] w fun e w' => e = .returned (.int .i64 (cmpA x y)) ∧ ∃ q os', w' = grow (w.drewN q) os' := by
  obtain ⟨⟨h1, h2⟩, ⟨h3, h4⟩, _⟩ := hx
  obtain ⟨⟨g1, g2⟩, ⟨g3, g4⟩, _⟩ := hy
  have u1 : wrap64 (x.1 * y.2) = x.1 * y.2 := by
    have b1 : 0 ≤ x.1 * y.2 := Int.mul_nonneg (by omega) (by omega)
    have b2 : x.1 * y.2 ≤ 8191 * 8191 := Int.mul_le_mul (by omega) (by omega) (by omega) (by omega)
    unfold wrap64; omega
  have u2 : wrap64 (y.1 * x.2) = y.1 * x.2 := by
    have b1 : 0 ≤ y.1 * x.2 := Int.mul_nonneg (by omega) (by omega)
    have b2 : y.1 * x.2 ≤ 8191 * 8191 := Int.mul_le_mul (by omega) (by omega) (by omega) (by omega)
    unfold wrap64; omega
  have hcon := fun W' => cmpQ_in (x.1 * y.2) (y.1 * x.2) W'
  unfold cmpA vQ
  generalize cmpI (x.1 * y.2) (y.1 * x.2) = r at hcon ⊢
  go_enter Try.func22, Try.ntmps22
  go_wp2_with (go_at_call 27; try rw [u1]; try rw [u2]; refine (hcon _).mono ?_; rintro e w' ⟨rfl, rfl⟩)
  go_ret
  exact ⟨rfl, 0, _, by rw [alloc_eq_grow, alloc_eq_grow, grow_grow]; rfl⟩

abbrev PA : Type := {p : Ang // IsA p}
instance : Inhabited PA := ⟨⟨(0, 1), by decide⟩⟩
def encPA (p : PA) : List Value := [.int .i64 p.1.1, .int .i64 p.1.2]
theorem swo_of {α : Type} {lt : α → α → Bool} (f : α → Rat) (h : ∀ x y, lt x y = decide (f x < f y)) : SWO lt where
  irrefl x := by rw [h]; simp [Rat.lt_irrefl]
  trans x y z h1 h2 := by rw [h] at *; simp only [decide_eq_true_iff] at *; grind
  ntrans x y z h1 h2 := by rw [h] at *; simp only [decide_eq_false_iff_not] at *; grind

theorem flatK_list (d : Array PA) : (flatK encPA 2 d).toList = (d.toList.map Subtype.val).flatMap cQ := by
  have hl : ((d.toList.map Subtype.val).flatMap cQ).length = d.size * 2 := by
    rw [flatMap_length _ 2 (fun x => rfl)]; simp
  apply List.ext_getElem?
  intro t
  by_cases ht : t < d.size * 2
  · have h1 : (flatK encPA 2 d)[t]! = (encPA d[t / 2]!)[t % 2]! := get_flatK encPA 2 d t ht
    have hq : t / 2 < d.size := by omega
    have hm : t % 2 < 2 := Nat.mod_lt _ (by omega)
    have e0 : (flatK encPA 2 d).toList[t]? = some ((flatK encPA 2 d)[t]!) := by
      rw [getElem!_pos _ t (by simpa using ht)]; simp [ht]
    rw [e0, h1]
    have h3 := flatMap_get cQ 2 (fun x => rfl) (d.toList.map Subtype.val) (t / 2) (t % 2) (d[t / 2]!).1 ((encPA d[t / 2]!)[t % 2]!) (by
      rw [List.getElem?_map, getElem!_pos d (t / 2) hq]
      simp [hq]) (by
      have hE : cQ (d[t / 2]!).1 = encPA d[t / 2]! := rfl
      rw [hE]
      have hl2 : (encPA d[t / 2]!).length = 2 := rfl
      rw [List.getElem?_eq_getElem (by omega), getElem!_pos (encPA d[t / 2]!) (t % 2) (by omega)])
    rw [show t / 2 * 2 + t % 2 = t by omega] at h3
    rw [h3]
  · rw [List.getElem?_eq_none (by simp; omega), List.getElem?_eq_none (by omega)]

theorem sortQ_in (B : Nat) (v : Value) (xs ys : List Ang) (w : World) (hx : ∀ x ∈ xs, IsA x) (hlen : xs.length ≤ 1000000) (hperm : xs.Perm ys) (hys : ys.Pairwise fun x y => ¬ lessA y x) (hrow : w.ownsRow B 32 2 v xs.length (xs.flatMap cQ)) :
    Calls Try.prog 25 #[v, .func (.func 22) #[] #[]] w fun e w' => e = .returned (.tuple #[]) ∧ w'.ownsRow B 32 2 v ys.length (ys.flatMap cQ) ∧ Below B w w' := by
  have hyl : ys.length = xs.length := hperm.length_eq.symm
  rcases hrow.2 with ⟨rfl, hn⟩ | ⟨b0, cap, cur, rfl, hB, hg0, hle, hm, hcs, htk⟩
  · have hx0 : xs = [] := List.eq_nil_of_length_eq_zero hn
    subst hx0
    have hy0 : ys = [] := List.nil_perm.1 hperm
    subst hy0
    have hcon := AnyF.slices_SortFunc_none { Go.Proofs.Try.SortA with } none 0 (.func (.func 22) #[] #[]) w
    refine Calls.mono hcon ?_
    rintro e' w' ⟨rfl, rfl⟩
    exact ⟨rfl, hrow, Below.refl _ _⟩
  · let d : Array PA := (xs.attachWith IsA hx).toArray
    have hds : d.size = xs.length := by simp [d]
    have hdv : d.toList.map Subtype.val = xs := by simp [d]; exact List.attach_map_subtype_val xs
    have hfl := flatK_list d
    rw [hdv] at hfl
    have hget : ∀ t, t < xs.length * 2 → cur[t]? = some ((flatK encPA 2 d)[t]!) := fun t ht => by
      have h1 : (cur.toList.take (xs.length * 2))[t]? = (flatK encPA 2 d).toList[t]? := by rw [htk, hfl]
      rw [List.getElem?_take, if_pos ht] at h1
      rw [Array.getElem?_toList] at h1
      rw [h1, getElem!_pos _ t (by simp [hds, ht])]
      simp [hds, ht]
    have hH : HoldsK encPA 2 w b0 0 d := fun t ht => by
      have ht : t < xs.length * 2 := by simpa [hds] using ht
      constructor
      · simp only [World.cell?, hg0, Nat.zero_add, id]
        exact hget t ht
      · simp [World.frozen?, hg0]
    have hblk : b0 < w.heap.size := (Array.getElem?_eq_some_iff.1 hg0).1
    have hcmp : CmpLays Try.prog 22 #[] encPA 2 (fun x y : PA => cmpA x.1 y.1) b0 0 d.size w := fun m os dk _ x y => compQ_in x.2 y.2 _
    have hO : SWO (ltOf fun x y : PA => cmpA x.1 y.1) := swo_of (fun x => vA x.1) fun x y => by unfold ltOf; rw [decide_eq_decide, cmpA_less, lessA_v x.2.f y.2.f]
    have hcon := AnyQ.slices_SortFunc Go.Proofs.Try.SortA 2 Try.isAgg32 Try.sizeOf32 encPA (fun _ => rfl) (fun x v hv => by simp [encPA] at hv; rcases hv with rfl | rfl <;> rfl) (fun x y : PA => cmpA x.1 y.1) hO 22 #[] b0 0 cap d w (enters_of Try.func22 (by kernel_rfl) rfl) hcmp hH hblk (by omega)
    rw [hds] at hcon
    refine Calls.mono hcon ?_
    rintro e' w' ⟨rfl, d', n, os, hpm, hso, hw⟩
    have hd's : d'.size = d.size := hpm.1
    have hpl : d'.toList.Perm d.toList := by
      have := hpm.2.2
      rw [show xs.length = d'.size from (hd's.trans hds).symm] at this
      have e1 : d'.toList.take d'.size = d'.toList := List.take_of_length_le (by simp)
      have e2 : d.toList.take d'.size = d.toList := List.take_of_length_le (by simp [hd's])
      simpa [e1, e2] using this
    have hyd : d'.toList.map Subtype.val = ys := by
      have hpm2 : (d'.toList.map Subtype.val).Perm ys := ((hpl.map Subtype.val).trans (by rw [hdv])).trans hperm
      refine wk_uniq (fun z hz => (hx z (hperm.mem_iff.2 (hpm2.mem_iff.1 hz))).f) hpm2 ?_ hys
      rw [List.pairwise_map, List.pairwise_iff_getElem]
      intro p q hp hq hpq
      have := hso p q (Nat.zero_le _) hpq (by simpa [hd's, hds] using hq)
      unfold ltOf at this
      rw [decide_eq_false_iff_not, getElem!_pos d' q (by simpa using hq), getElem!_pos d' p (by simpa using hp), cmpA_less] at this
      simpa using this
    subst hw
    have hfl2 := flatK_list d'
    rw [hyd] at hfl2
    let cur' : Array Value := putCells id 0 (flatK encPA 2 d') cur
    have hheap : (sortWorldK encPA 2 w b0 0 n d' os).heap = (w.heap.modify b0 (onCells (putCells id 0 (flatK encPA 2 d')))) ++ os := rfl
    have hb0 : (sortWorldK encPA 2 w b0 0 n d' os).heap[b0]? = some (.cells cur' 32 (0, 0)) := by
      rw [hheap, Array.getElem?_append_left (by simpa using hblk), Array.getElem?_modify, if_pos rfl, hg0]
      rfl
    have hcl : (ys.flatMap cQ).length = ys.length * 2 := flatMap_length _ 2 (fun x => rfl) ys
    refine ⟨rfl, ⟨hcl, .inr ⟨b0, cap, cur', by rw [hyl], hB, hb0, by omega, hm, by simp [cur', putCells, hcs], ?_⟩⟩, ⟨rfl, rfl, rfl, by rw [hheap]; simp, fun b hb => ?_⟩⟩
    · rw [← hfl2]
      apply List.ext_getElem?
      intro t
      rw [List.getElem?_take]
      by_cases ht : t < ys.length * 2
      · rw [if_pos ht]
        have hts : t < (flatK encPA 2 d').size := by simp [hd's, hds, ← hyl, ht]
        have htc : t < cur.size := by rw [hcs]; have := Nat.mul_le_mul_right 2 hle; omega
        rw [Array.getElem?_toList, Array.getElem?_toList]
        simp only [cur', putCells, Array.getElem?_mapIdx]
        rw [Array.getElem?_eq_getElem htc]
        simp only [Option.map_some, Nat.zero_le, Nat.zero_add, true_and, Nat.sub_zero, id]
        rw [if_pos hts, getElem!_pos _ t hts, Array.getElem?_eq_getElem hts]
      · rw [if_neg ht, List.getElem?_eq_none (by simp [hd's, hds, ← hyl]; omega)]
    · have hne : b0 ≠ b := by omega
      rw [hheap, Array.getElem?_append_left (by simp; omega), Array.getElem?_modify, if_neg hne]
end Go.Proofs.Ytmbfflckgmdncaa.Fw
