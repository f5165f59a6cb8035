/- Arguments that came in, as rows. -/
import Derived.Test.YtlplngafncobkaaFwY
import Derived.WalkKit
import Derived.ProofKit
import Derived.OpenShut
import Derived.ShutString
import Derived.ChangeOld
import Derived.Below
import Derived.SizedLaws
namespace Go.Proofs.Ytlplngafncobkaa.Fw
open Go Go.RowKit Go.ChangeShapes Go.WideShapes
set_option linter.unusedVariables false
set_option linter.unusedSimpArgs false

/-- A type of the program lies as a code says. -/
inductive Shp (P : Program) : TypeId → TyC → Prop
  | int {t k} : P.underlying t = some (.int k) → Shp P t (.int k)
  | bool {t} : P.underlying t = some .bool → Shp P t .bool
  | str {t} : P.underlying t = some .string → Shp P t .str
  | pair {t f0 f1 x y} : P.underlying t = some (.struct #[f0, f1]) → f0.offset = 0 → f1.offset = x.sz → P.cellsOf f0.type = x.sz → P.cellsOf f1.type = y.sz → P.cellsOf t = x.sz + y.sz → Shp P f0.type x → Shp P f1.type y → Shp P t (.pair x y)

section
variable {H : Type} {enc : TypeId × Value → H} {P : Program} {w : World} {base : Nat} {spare : Nat → Bool} {held : Bool}

theorem trod_enc {t : TypeId} {c : TyC} (h : Shp P t c) : ∀ {fuel : Nat} {cs : List Value} {x : DataW H × List MemPlace}, DataW.trod enc P w base spare held fuel t cs = some x → ∃ y : c.α, cs = dens A0 (c.enc y) := by
  induction h with
  | int ht =>
    intro fuel cs x h
    obtain ⟨n, rfl, _⟩ := DataW.trod_int ht h
    exact ⟨n, by simp [TyC.enc, dens, AVal.den]⟩
  | bool ht =>
    intro fuel cs x h
    obtain ⟨n, rfl, _⟩ := DataW.trod_bool ht h
    exact ⟨n, by simp [TyC.enc, dens, AVal.den]⟩
  | str ht =>
    intro fuel cs x h
    obtain ⟨n, rfl, _⟩ := DataW.trod_string ht h
    exact ⟨n, by simp [TyC.enc, dens, AVal.den]⟩
  | @pair t f0 f1 a b ht o0 o1 c0 c1 ct h0 h1 ih0 ih1 =>
    intro fuel cs x h
    obtain ⟨ys, n, _, _, hl, hn, he⟩ := DataW.trod_struct ht h
    have hn2 : ys.length = 2 := hn
    obtain ⟨u, hu⟩ := ih0 ((he 0 f0 rfl).trans (List.getElem?_eq_getElem (by omega)))
    obtain ⟨v, hv⟩ := ih1 ((he 1 f1 rfl).trans (List.getElem?_eq_getElem (by omega)))
    refine ⟨(u, v), ?_⟩
    rw [o0, c0, List.drop_zero] at hu
    rw [o1, c1, List.take_of_length_le (by rw [List.length_drop, hl, ct]; omega)] at hv
    rw [← List.take_append_drop a.sz cs, hu, hv]
    simp [TyC.enc, dens_eq]

/-- A slice that came in reads as a row. -/
theorem open_slice {t e : TypeId} {c : TyC} {fuel : Nat} {cs : List Value} {x : DataW H × List MemPlace} (ht : P.underlying t = some (.slice e)) (hc : P.cellsOf e = c.sz) (hs : Shp P e c)
    (h : DataW.trod enc P w base spare held fuel t cs = some x) : ∃ (hd : Hdr) (xs : List c.α), cs = [hd.val] ∧ RowAt w hd ⟨c, e, false, xs⟩ := by
  rcases DataW.trod_slice ht h with ⟨rfl, _⟩ | ⟨a, len, cap, elems, rest, n, _, rfl, rfl, hb, hl, hm, hlen, hel, hsp, hns⟩
  · exact ⟨⟨none, 0, 0⟩, [], rfl, rfl, Nat.le_refl _, Nat.zero_le _, fun i x hi => by simp at hi⟩
  · have each : ∀ i, ∃ y : c.α, i < len → ∀ j v, (c.enc y)[j]? = some v → w.cell? (a.add (i * c.sz + j)) = some (v.den A0) := fun i => by
      by_cases hi : i < len
      · have h1 := hel i hi
        rw [List.getElem?_eq_getElem (by omega), Option.bind_eq_some_iff] at h1
        obtain ⟨cs', hcs, hy⟩ := h1
        obtain ⟨y, rfl⟩ := trod_enc hs hy
        refine ⟨y, fun _ j v hj => ?_⟩
        obtain ⟨_, _, hcell⟩ := World.cells?_some hcs
        have hjl : j < c.sz := by rw [← c.enc_len y]; exact (List.getElem?_eq_some_iff.1 hj).1
        have := hcell j (by rw [hc]; exact hjl)
        rw [hc, add_add] at this
        rw [this, dens_eq, List.getElem?_map, hj]; rfl
      · exact ⟨c.dflt, fun h => absurd h hi⟩
    have hch : ∃ f : Nat → c.α, ∀ i, i < len → ∀ j v, (c.enc (f i))[j]? = some v → w.cell? (a.add (i * c.sz + j)) = some (v.den A0) := ⟨fun i => (each i).choose, fun i => (each i).choose_spec⟩
    obtain ⟨f, hf⟩ := hch
    refine ⟨⟨some a, len, cap⟩, (List.range len).map f, rfl, by simp, hl, hm, fun i y hi => ⟨a, rfl, fun j v hj => ?_⟩⟩
    simp only [List.getElem?_map] at hi
    have hi' : i < len := by
      rcases Nat.lt_or_ge i len with h' | h'
      · exact h'
      · rw [List.getElem?_eq_none (by simpa using h')] at hi; cases hi
    rw [List.getElem?_range hi'] at hi
    cases hi
    exact hf i hi' j v hj

end
end Go.Proofs.Ytlplngafncobkaa.Fw
