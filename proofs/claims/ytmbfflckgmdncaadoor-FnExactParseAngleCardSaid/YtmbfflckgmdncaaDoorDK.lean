/- impl.ParseAngle and the law of reading angles. -/
import Derived.Test.YtmbfflckgmdncaaDoorDJ
namespace Go.Proofs.YtmbfflckgmdncaaDoor.Fw
open Go Go.RowKit Go.Sort Go.Shelf
set_option linter.unusedVariables false
set_option linter.unusedSimpArgs false
set_option maxRecDepth 100000
set_option maxHeartbeats 2000000

theorem cu_sz {t : ByteArray} (h : t.size ≤ 1048576) : (cuA t).size ≤ 1048576 ∧ (cuB t).size ≤ 1048576 := by
  unfold cuA cuB
  by_cases h0 : 0 ≤ ix47 t
  · have := ix47_lt h0
    rw [if_pos h0, if_pos h0, size_extract _ _ _ (by omega), size_extract _ _ _ (Nat.le_refl _)]
    omega
  · rw [if_neg h0, if_neg h0]
    exact ⟨h, Nat.zero_le _⟩
theorem two_cells {W : World} {g : Nat} {a b : Value} {t : TypeId} (h : W.heap[g]? = some (.cells #[a, b] t (0, 0))) : (W.cell? ⟨g, 0, none⟩ = some a ∧ W.cell? ⟨g, 1, none⟩ = some b) ∧ W.frozen? ⟨g, 0, none⟩ = false ∧ W.frozen? ⟨g, 1, none⟩ = false := by
  refine ⟨⟨by simp [World.cell?, h], by simp [World.cell?, h]⟩, by simp [World.frozen?, h], by simp [World.frozen?, h]⟩
theorem res_at {fn : Func} {p u : Tmp} {tmps : Array Value} {w : World} {g : Nat} {a b : Int} {t : TypeId} {fr : Nat × Nat} (h : fn.results = #[.cell p 26, .tmp u]) (hp : tmps.getD p undef = .pointer (some ⟨g, 0, none⟩)) (hg : w.heap[g]? = some (.cells #[.int .i64 a, .int .i64 b] t fr)) :
    (results fn tmps).run Tryd.prog w = .ok (.tuple #[.agg #[.int .i64 a, .int .i64 b], tmps.getD u undef]) w := by
  rw [results_cell_tmp h, hp]
  simp [asAddr, run_loadVar_row w g t 26 _ fr _ hg Tryd.underlying26 rfl (by kernel_rfl), Result.andThen]
theorem set2 {W : World} {g : Nat} {a b x y : Value} {t : TypeId} {fr : Nat × Nat} (h : W.heap[g]? = some (.cells #[a, b] t fr)) : ((W.setCell ⟨g, 0, none⟩ x).setCell ⟨g, 1, none⟩ y).heap[g]? = some (.cells #[x, y] t fr) := by
  have h1 : (W.setCell ⟨g, 0, none⟩ x).heap[g]? = some (.cells #[x, b] t fr) := by
    show (W.heap.modify g _)[g]? = _
    rw [Array.getElem?_modify, if_pos rfl, h]
    rfl
  show ((W.setCell ⟨g, 0, none⟩ x).heap.modify g _)[g]? = _
  rw [Array.getElem?_modify, if_pos rfl, h1]
  rfl
theorem below2 {B : Nat} {w W : World} {g : Nat} (h : Below B w W) (hg : B ≤ g) (x y : Value) : Below B w ((W.setCell ⟨g, 0, none⟩ x).setCell ⟨g, 1, none⟩ y) :=
  (h.setCell (p := ⟨g, 0, none⟩) hg _).setCell (p := ⟨g, 1, none⟩) hg _
theorem paQ_in (t : ByteArray) (hs : t.size ≤ 1048576) (w : World) (ht : TabW w) (he : ErrW w) : Calls Tryd.prog 9 #[.string t] w fun e w' =>
    e = .returned (.tuple #[.agg #[.int .i64 (prO t).1.1, .int .i64 (prO t).1.2], .int .i64 (prO t).2]) ∧ Below w.heap.size w w' := by
  have hcut : ∀ W, Calls Tryd.prog 16 #[.string t, .string ⟨#[47]⟩] W fun e w' => e = .returned (.tuple #[.string (cuA t), .string (cuB t), .bool (decide (0 ≤ ix47 t))]) ∧ Below W.heap.size W w' := fun W =>
    flat_calls cutD_ok (vals := [.str t, .str ⟨#[47]⟩]) (v := .tup [.str (cuA t), .str (cuB t), .bool (decide (0 ≤ ix47 t))]) ⟨⟨rfl, hs⟩, fun q hq => ⟨rfl, by rw [hq]⟩⟩ (fun _ => rfl) W
  have hia : ∀ (m1 m2 : Int) W, Calls Tryd.prog 18 #[.agg #[.int .i64 m1, .int .i64 m2]] W fun e w' => e = .returned (.bool (decide (IsA (m1, m2)))) ∧ Below W.heap.size W w' := fun m1 m2 W =>
    flat_calls isAngle_ok (vals := [.agg [.int .i64 m1, .int .i64 m2]]) (v := .bool (decide (IsA (m1, m2)))) ⟨trivial, rfl, rfl⟩ (fun _ => rfl) W
  have hz := cu_sz hs
  have hn1 := fun W h1 h2 => numQ_in (cuA t) hz.1 W h1 h2
  have hn2 := fun W h1 h2 => numQ_in (cuB t) hz.2 W h1 h2
  have fin1 : ∀ m1 m2 : Int, (∀ n : Nat, n ≤ 100000 → dcB n = cuA t → m1 = n) → (∀ n : Nat, n ≤ 100000 → dcB n = cuB t → m2 = n) → ¬ (IsA (m1, m2) ∧ txB (m1, m2) = t) → prO t = ((0, 0), 6) := fun m1 m2 h1 h2 h => prO_cut h1 h2 h
  have fin2 : ∀ m1 m2 : Int, IsA (m1, m2) → txB (m1, m2) = t → prO t = ((m1, m2), 0) := fun m1 m2 h1 h2 => prO_t h1 h2
  generalize cuA t = ca at hcut hn1 fin1
  generalize cuB t = cb at hcut hn2 fin1
  generalize decide (0 ≤ ix47 t) = fnd at hcut
  obtain ⟨w1, hw1⟩ : ∃ w1, w.alloc (.cells #[.int .i64 0, .int .i64 0] 26) = w1 := ⟨_, rfl⟩
  have hB1 : Below w.heap.size w w1 := by rw [← hw1]; exact (Below.refl _ w).alloc (Nat.le_refl _) _
  have hs1 : w1.heap.size = w.heap.size + 1 := by rw [← hw1]; simp
  have hk1 : w1.heap[w.heap.size]? = some (.cells #[.int .i64 0, .int .i64 0] 26 (0, 0)) := by rw [← hw1]; show (w.heap.push _)[w.heap.size]? = _; simp
  go_enter Tryd.func9, Tryd.ntmps9
  go_wp2_with (go_at_call 16; refine stopHere ?_)
  unfold StopP
  refine (hcut _).mono ?_
  rintro e w2 ⟨rfl, hB2⟩
  have hB12 : Below w.heap.size w w2 := hB1.trans (hB2.mono (by omega))
  go_wp2_with (go_at_call 17; refine stopHere ?_)
  unfold StopP
  refine (hn1 _ (ht.below hB12) (he.below hB12)).mono ?_
  rintro e w3 ⟨m1, rfl, h1, hB3⟩
  have hB13 : Below w.heap.size w w3 := hB12.trans (hB3.mono hB12.size)
  go_wp2_with (go_at_call 17; refine stopHere ?_)
  unfold StopP
  refine (hn2 _ (ht.below hB13) (he.below hB13)).mono ?_
  rintro e w4 ⟨m2, rfl, h2, hB4⟩
  have hB14 : Below w.heap.size w w4 := hB13.trans (hB4.mono hB13.size)
  have hB1w : Below w1.heap.size w1 w4 := (hB2.trans (hB3.mono hB2.size)).trans (hB4.mono (Nat.le_trans hB2.size hB3.size))
  go_wp2_with (go_at_call 18; refine stopHere ?_)
  unfold StopP
  obtain ⟨w5, hw5⟩ : ∃ w5, w4.alloc (.cells #[.int .i64 m1, .int .i64 m2] 26) = w5 := ⟨_, rfl⟩
  have hB5 : Below w4.heap.size w4 w5 := by rw [← hw5]; exact (Below.refl _ w4).alloc (Nat.le_refl _) _
  have hs5 : w5.heap.size = w4.heap.size + 1 := by rw [← hw5]; simp
  have hn5 : w5.heap[w4.heap.size]? = some (.cells #[.int .i64 m1, .int .i64 m2] 26 (0, 0)) := by rw [← hw5]; show (w4.heap.push _)[w4.heap.size]? = _; simp
  rw [hw5]
  clear hw5
  have hB15 : Below w.heap.size w w5 := hB14.trans (hB5.mono hB14.size)
  have r5 : w5.heap[w.heap.size]? = some (.cells #[.int .i64 0, .int .i64 0] 26 (0, 0)) := by
    have h1 := hB1w.size
    rw [hB5.block _ (by omega), hB1w.block _ (by omega), hk1]
  have h14 := hB14.size
  have h1w := hB1w.size
  refine (hia m1 m2 _).mono ?_
  rintro e w6 ⟨rfl, hB6⟩
  have hB16 : Below w.heap.size w w6 := hB15.trans (hB6.mono hB15.size)
  have r6 : w6.heap[w.heap.size]? = some (.cells #[.int .i64 0, .int .i64 0] 26 (0, 0)) := by rw [hB6.block _ (by omega), r5]
  have a6 : w6.heap[w4.heap.size]? = some (.cells #[.int .i64 m1, .int .i64 m2] 26 (0, 0)) := by rw [hB6.block _ (by omega), hn5]
  obtain ⟨⟨q1, q2⟩, q3, q4⟩ := two_cells r6
  obtain ⟨⟨p1, p2⟩, _, _⟩ := two_cells a6
  by_cases hA : IsA (m1, m2)
  · rw [decide_eq_true hA]
    have htx := txQ_in (m1, m2) (isA_b hA) w6 (ht.below hB16)
    obtain ⟨tx, hte⟩ : ∃ tx, txB (m1, m2) = tx := ⟨_, rfl⟩
    rw [hte] at htx
    by_cases hT : tx = t
    · have hfin := fin2 m1 m2 hA (hte.trans hT)

      go_wp2_with (go_at_call 14; refine stopHere ?_)
      unfold StopP
      refine htx.mono ?_
      rintro e w7 ⟨rfl, hB7⟩
      have hB17 : Below w.heap.size w w7 := hB16.trans (hB7.mono hB16.size)
      have h15 := hB15.size
      have h6 := hB6.size
      have r7 : w7.heap[w.heap.size]? = some (.cells #[.int .i64 0, .int .i64 0] 26 (0, 0)) := by rw [hB7.block _ (by omega), r6]
      have a7 : w7.heap[w4.heap.size]? = some (.cells #[.int .i64 m1, .int .i64 m2] 26 (0, 0)) := by rw [hB7.block _ (by omega), a6]
      obtain ⟨⟨x1, x2⟩, x3, x4⟩ := two_cells r7
      obtain ⟨⟨y1, y2⟩, _, _⟩ := two_cells a7
      go_wp2
      refine bodyPost_ret (res_at rfl rfl (set2 r7)) rfl ?_
      exact ⟨by rw [hfin]; rfl, below2 hB17 (Nat.le_refl _) _ _⟩
    · have hfin := fin1 m1 m2 h1 h2 (fun h => hT (hte.symm.trans h.2))

      have hbe : (tx.toList == t.toList) = false := bytes_ne hT
      go_wp2_with (go_at_call 14; refine stopHere ?_)
      unfold StopP
      refine htx.mono ?_
      rintro e w7 ⟨rfl, hB7⟩
      have hB17 : Below w.heap.size w w7 := hB16.trans (hB7.mono hB16.size)
      have h15 := hB15.size
      have h6 := hB6.size
      have r7 : w7.heap[w.heap.size]? = some (.cells #[.int .i64 0, .int .i64 0] 26 (0, 0)) := by rw [hB7.block _ (by omega), r6]
      obtain ⟨⟨x1, x2⟩, x3, x4⟩ := two_cells r7
      go_wp2
      refine bodyPost_ret (res_at rfl rfl (set2 r7)) rfl ?_
      exact ⟨by rw [hfin]; rfl, below2 hB17 (Nat.le_refl _) _ _⟩
  · rw [decide_eq_false hA]
    have hfin := fin1 m1 m2 h1 h2 (fun h => hA h.1)

    go_wp2
    refine bodyPost_ret (res_at rfl rfl (set2 r6)) rfl ?_
    exact ⟨by rw [hfin]; rfl, below2 hB16 (Nat.le_refl _) _ _⟩

/-- **The law.** -/
theorem lawPa_in (t : ByteArray) (ht9 : t.size ≤ 9223372036854775807) (w : World) (ht : TabW w) (he : ErrW w) : Calls Tryd.prog 4 #[.string t] w fun e w' => e = .returned (.bool true) ∧ Below w.heap.size w w' := by
  by_cases hl : 1048576 < t.size
  · go_enter Tryd.func4, Tryd.ntmps4
    go_wp2
    go_ret
    exact ⟨rfl, Below.refl _ _⟩
  · have hs : t.size ≤ 1048576 := by omega
    have hsp : ∀ W, Calls Tryd.prog 8 #[.string t] W fun e w' => e = .returned (.tuple #[.agg #[.int .i64 (prO t).1.1, .int .i64 (prO t).1.2], .int .i64 (prO t).2]) ∧ Below W.heap.size W w' := fun W =>
      flat_calls spP_ok (vals := [.str t]) (v := .tup [.agg [.int .i64 (prO t).1.1, .int .i64 (prO t).1.2], .int .i64 (prO t).2]) ⟨hs, fun q hq => ⟨rfl, by rw [hq]⟩⟩ (fun _ => rfl) W
    have hip := fun W h1 h2 => paQ_in t hs W h1 h2
    have heq : ∀ (a b : Int) W, Calls Tryd.prog 10 #[.agg #[.int .i64 a, .int .i64 b], .agg #[.int .i64 a, .int .i64 b]] W fun e w' => e = .returned (.bool true) ∧ Below W.heap.size W w' := fun a b W =>
      flat_calls eqAngle_ok (vals := [.agg [.int .i64 a, .int .i64 b], .agg [.int .i64 a, .int .i64 b]]) (v := .bool true) ⟨trivial, rfl, by simp⟩ (fun _ => rfl) W
    generalize (prO t).1.1 = a at hsp hip
    generalize (prO t).1.2 = b at hsp hip
    generalize (prO t).2 = c at hsp hip
    go_enter Tryd.func4, Tryd.ntmps4
    go_wp2_with (go_at_call 8; refine stopHere ?_)
    unfold StopP
    refine (hsp _).mono ?_
    rintro e w1 ⟨rfl, hB1⟩
    go_wp2_with (go_at_call 9; refine stopHere ?_)
    unfold StopP
    obtain ⟨w2, hw2⟩ : ∃ w2, w1.alloc (.cells #[.int .i64 a, .int .i64 b] 26) = w2 := ⟨_, rfl⟩
    have hB2 : Below w1.heap.size w1 w2 := by rw [← hw2]; exact (Below.refl _ w1).alloc (Nat.le_refl _) _
    have hs2 : w2.heap.size = w1.heap.size + 1 := by rw [← hw2]; simp
    have hn2 : w2.heap[w1.heap.size]? = some (.cells #[.int .i64 a, .int .i64 b] 26 (0, 0)) := by rw [← hw2]; show (w1.heap.push _)[w1.heap.size]? = _; simp
    rw [hw2]
    clear hw2
    have hB12 : Below w.heap.size w w2 := hB1.trans (hB2.mono hB1.size)
    refine (hip _ (ht.below hB12) (he.below hB12)).mono ?_
    rintro e w3 ⟨rfl, hB3⟩
    have hB13 : Below w.heap.size w w3 := hB12.trans (hB3.mono hB12.size)
    obtain ⟨w4, hw4⟩ : ∃ w4, w3.alloc (.cells #[.int .i64 a, .int .i64 b] 26) = w4 := ⟨_, rfl⟩
    have hB4 : Below w3.heap.size w3 w4 := by rw [← hw4]; exact (Below.refl _ w3).alloc (Nat.le_refl _) _
    have hn4 : w4.heap[w3.heap.size]? = some (.cells #[.int .i64 a, .int .i64 b] 26 (0, 0)) := by rw [← hw4]; show (w3.heap.push _)[w3.heap.size]? = _; simp
    have h3 := hB3.size
    have hm4 : w4.heap[w1.heap.size]? = some (.cells #[.int .i64 a, .int .i64 b] 26 (0, 0)) := by rw [hB4.block _ (by omega), hB3.block _ (by omega), hn2]
    obtain ⟨⟨x1, x2⟩, _, _⟩ := two_cells hn4
    obtain ⟨⟨y1, y2⟩, _, _⟩ := two_cells hm4
    have hB14 : Below w.heap.size w w4 := hB13.trans (hB4.mono hB13.size)
    have heq4 := heq a b w4
    go_wp2_with (go_at_call 10; refine heq4.mono ?_; clear heq4; rintro e w5 ⟨rfl, hB5⟩)
    go_ret
    exact ⟨rfl, hB14.trans (hB5.mono hB14.size)⟩
end Go.Proofs.YtmbfflckgmdncaaDoor.Fw
