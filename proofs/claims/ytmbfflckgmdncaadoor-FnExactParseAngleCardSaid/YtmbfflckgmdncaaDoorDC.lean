/- impl.decimal, the text of an angle (by hand: strconv.FormatInt reads a table). -/
import Derived.Test.YtmbfflckgmdncaaDoorDB
import Derived.Test.YtmbfflckgmdncaaDoorLyT
import Derived.Shelf.Strconv.Itoa4
import Derived.Shelf.SlSortCmp.QuietGrown
import Derived.Lib.LaidTab
import Derived.WalkKit
import Derived.Laws.Concat
namespace Go.Proofs.YtmbfflckgmdncaaDoor.Fw
open Go Go.RowKit Go.Sort Go.Shelf
set_option linter.unusedVariables false
set_option linter.unusedSimpArgs false
set_option maxRecDepth 100000
set_option maxHeartbeats 2000000

/-- The table of powers is laid. -/
def TabW (w : World) : Prop := Lib.TabIs Tryd.prog w "internal/strconv.uint64pow10" .u64 Lib.pow10Tab
theorem TabW.blk {w w' : World} (h : TabW w) (hb : ∀ k, k < w.heap.size → w'.heap[k]? = w.heap[k]?) : TabW w' := by
  unfold TabW Lib.TabIs World.var? at h ⊢
  obtain ⟨g, hg⟩ : ∃ g, Tryd.prog.globalNamed "internal/strconv.uint64pow10" = some g := by
    cases hg : Tryd.prog.globalNamed "internal/strconv.uint64pow10" with
    | some g => exact ⟨g, rfl⟩
    | none => rw [hg] at h; cases h
  rw [hg] at h ⊢
  simp only [Option.bind_some] at h ⊢
  have hlt : g < w.heap.size := by
    rcases Nat.lt_or_ge g w.heap.size with h' | h'
    · exact h'
    · rw [Array.getElem?_eq_none h'] at h; cases h
  rw [hb g hlt]
  exact h
theorem TabW.below {w w' : World} (h : TabW w) (hb : Below w.heap.size w w') : TabW w' := h.blk hb.block
theorem grow_blk (w : World) (n : Nat) (os : Array Obj) : ∀ k, k < w.heap.size → (grow (w.drewN n) os).heap[k]? = w.heap[k]? := fun k hk => by
  show (w.heap ++ os)[k]? = _
  rw [Array.getElem?_append_left hk]
theorem grow_below (w : World) (n : Nat) (os : Array Obj) : Below w.heap.size w (grow (w.drewN n) os) := ⟨rfl, rfl, rfl, by show _ ≤ (w.heap ++ os).size; simp, grow_blk w n os⟩

theorem decQ_in (n : Int) (h0 : 0 ≤ n) (h1 : n ≤ 100000) (w : World) (ht : TabW w) : Calls Tryd.prog 23 #[.int .i64 n] w fun e w' => e = .returned (.string (dcB n.toNat)) ∧ ∃ q os', w' = grow (w.drewN q) os' := by
  have hf := Any.strconv_FormatInt_10 Go.Proofs.Tryd.fmtL n (by omega) (by omega) w ht
  have hi : (⟨(Lib.itoa n).toArray⟩ : ByteArray) = dcB n.toNat := by unfold dcB Lib.itoa; rw [if_neg (by omega)]
  rw [hi] at hf
  change Calls Tryd.prog 32 _ _ _ at hf
  go_enter Tryd.func23, Tryd.ntmps23
  go_wp2_with (go_at_call 32; refine hf.mono ?_; rintro e w' ⟨rfl, q, os', rfl⟩)
  go_ret
  exact ⟨rfl, q, os', rfl⟩

theorem txQ_in (a : Ang) (hb : (0 ≤ a.1 ∧ a.1 ≤ 100000) ∧ (0 ≤ a.2 ∧ a.2 ≤ 100000)) (w : World) (ht : TabW w) : Calls Tryd.prog 14 #[.agg #[.int .i64 a.1, .int .i64 a.2]] w fun e w' => e = .returned (.string (txB a)) ∧ Below w.heap.size w w' := by
  obtain ⟨⟨h1, h2⟩, h3, h4⟩ := hb
  have mixed : Tryd.prog.follows .mixedOrders = true := by kernel_rfl
  obtain ⟨w1, hw1⟩ : ∃ w1, w.alloc (.cells #[.int .i64 a.1, .int .i64 a.2] 26) = w1 := ⟨_, rfl⟩
  have hB : Below w.heap.size w w1 := by rw [← hw1]; exact (Below.refl _ w).alloc (Nat.le_refl _) _
  have hs : w1.heap.size = w.heap.size + 1 := by rw [← hw1]; simp
  have hn : w1.heap[w.heap.size]? = some (.cells #[.int .i64 a.1, .int .i64 a.2] 26 (0, 0)) := by rw [← hw1]; show (w.heap.push _)[w.heap.size]? = _; simp
  have c0 : ∀ n os, (grow (w1.drewN n) os).cell? ⟨w.heap.size, 0, none⟩ = some (.int .i64 a.1) := cell_grown (by rw [hs]; simp) (by simp [World.cell?, hn])
  have c1 : ∀ n os, (grow (w1.drewN n) os).cell? ⟨w.heap.size, 1, none⟩ = some (.int .i64 a.2) := cell_grown (by rw [hs]; simp) (by simp [World.cell?, hn])
  have ht1 : ∀ n os, TabW (grow (w1.drewN n) os) := fun n os => (ht.below hB).blk (grow_blk w1 n os)
  have d1 := fun n os => decQ_in a.1 h1 h2 (grow (w1.drewN n) os) (ht1 n os)
  have d2 := fun n os => decQ_in a.2 h3 h4 (grow (w1.drewN n) os) (ht1 n os)
  have z1 := dcB_size a.1.toNat
  have z2 := dcB_size a.2.toNat
  have z3 : (⟨#[47]⟩ : ByteArray).size = 1 := rfl
  have hx : txB a = dcB a.1.toNat ++ ⟨#[47]⟩ ++ dcB a.2.toNat := by unfold txB; rfl
  rw [hx]
  generalize dcB a.1.toNat = s1 at *
  generalize dcB a.2.toNat = s2 at *
  have hA : ¬ (9223372036854775807 < s1.size + 1) := by omega
  have hB2 : ¬ (9223372036854775807 < s1.size + 1 + s2.size) := by omega
  go_enter Tryd.func14, Tryd.ntmps14
  go_wp2
  go_quiet_grown (first | (go_at_call 23; first | exact Calls.grown_of (d1 _ _) | exact Calls.grown_of (d2 _ _)))
  go_wp2
  go_ret
  exact ⟨rfl, hB.trans ((grow_below w1 _ _).mono hB.size)⟩
end Go.Proofs.YtmbfflckgmdncaaDoor.Fw
