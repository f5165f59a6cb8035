/- A slice of bytes that came in. -/
import Derived.Test.YtllagpbbbdekiabU2
namespace Go.Proofs.Ytllagpbbbdekiab.Fw
open Go Go.RowKit Go.ChangeShapes
set_option linter.unusedVariables false
section
variable {H : Type} {enc : TypeId × Value → H} {P : Program} {w : World} {base : Nat} {spare : Nat → Bool} {held : Bool}
theorem open_bytes {t e : TypeId} {fuel : Nat} {cs : List Value} {x : DataW H × List MemPlace} (ht : P.underlying t = some (.slice e)) (hu : P.underlying e = some (.int .u8)) (hc : P.cellsOf e = 1)
    (h : DataW.trod enc P w base spare held fuel t cs = some x) : ∃ (hd : Hdr) (xs : List Int), cs = [hd.val] ∧ RowAt w hd ⟨bT, e, false, xs⟩ ∧ Bts xs := by
  rcases DataW.trod_slice ht h with ⟨rfl, _⟩ | ⟨a, len, cap, elems, rest, n, _, rfl, rfl, hb, hl, hm, hlen, hel, hsp, hns⟩
  · exact ⟨⟨none, 0, 0⟩, [], rfl, ⟨rfl, Nat.le_refl _, Nat.zero_le _, fun i x hi => by simp at hi⟩, fun x hx => by cases hx⟩
  · have each : ∀ i, ∃ y : Int, (0 ≤ y ∧ y ≤ 255) ∧ (i < len → w.cell? (a.add i) = some (.int .u8 y)) := fun i => by
      by_cases hi : i < len
      · have h1 := hel i hi
        rw [List.getElem?_eq_getElem (by omega), Option.bind_eq_some_iff] at h1
        obtain ⟨cs', hcs, hy⟩ := h1
        obtain ⟨y, rfl, _, hw⟩ := DataW.trod_int hu hy
        have hw' : (0 : Int) ≤ y ∧ y ≤ 255 := by
          simp only [Lit.wf, Bool.and_eq_true, decide_eq_true_iff] at hw
          exact hw
        refine ⟨y, hw', fun _ => ?_⟩
        obtain ⟨_, _, hcell⟩ := World.cells?_some hcs
        have := hcell 0 (by rw [hc]; exact Nat.zero_lt_one)
        rw [hc, Nat.mul_one] at this
        rw [add_add, Nat.add_zero] at this
        rw [this]; rfl
      · exact ⟨0, ⟨Int.le_refl _, by decide⟩, fun h => absurd h hi⟩
    have hch : ∃ f : Nat → Int, ∀ i, (0 ≤ f i ∧ f i ≤ 255) ∧ (i < len → w.cell? (a.add i) = some (.int .u8 (f i))) := ⟨fun i => (each i).choose, fun i => (each i).choose_spec⟩
    obtain ⟨f, hf⟩ := hch
    refine ⟨⟨some a, len, cap⟩, (List.range len).map f, rfl, ⟨by simp, hl, hm, fun i y hi => ⟨a, rfl, fun j v hj => ?_⟩⟩, fun x hx => ?_⟩
    · simp only [List.getElem?_map] at hi
      have hi' : i < len := by
        rcases Nat.lt_or_ge i len with h' | h'
        · exact h'
        · rw [List.getElem?_eq_none (by simpa using h')] at hi; cases hi
      rw [List.getElem?_range hi'] at hi
      cases hi
      have hj0 : j = 0 := by
        have h1 : j < 1 := (List.getElem?_eq_some_iff.1 hj).1
        omega
      subst hj0
      cases hj
      have := (hf i).2 hi'
      rw [show i * bT.sz + 0 = i by show i * 1 + 0 = i; omega]
      exact this
    · obtain ⟨i, _, rfl⟩ := List.mem_map.1 hx
      exact (hf i).1
end
end Go.Proofs.Ytllagpbbbdekiab.Fw
