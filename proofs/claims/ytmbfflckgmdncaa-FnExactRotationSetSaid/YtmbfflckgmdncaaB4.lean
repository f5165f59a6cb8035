/- Contracts: slices.Insert over leaves, one leaf. -/
import Derived.Test.YtmbfflckgmdncaaB3
namespace Go.Proofs.Ytmbfflckgmdncaa.Fw
open Go Go.RowKit Go.Lib
set_option linter.unusedVariables false
set_option linter.unusedSimpArgs false
set_option maxRecDepth 100000
set_option maxHeartbeats 4000000

abbrev fLf : Lf → List Value := fun x => dens A0 (lT.enc x)
theorem fLf_len (x : Lf) : (fLf x).length = 4 := rfl
theorem fLf_one (l : List Lf) : ∀ v ∈ l.flatMap fLf, v.oneCell' = true := fun v hv => by
  obtain ⟨x, _, hx⟩ := List.mem_flatMap.1 hv
  have hx : v ∈ [Value.int .i64 x.1.1, .int .i64 x.1.2, .int .i64 x.2.1, .int .i64 x.2.2] := hx
  simp only [List.mem_cons, List.not_mem_nil, or_false] at hx
  rcases hx with rfl | rfl | rfl | rfl <;> rfl
theorem flat_split (xs : List Lf) (p : Nat) (h : p ≤ xs.length) : (xs.take p).flatMap fLf = (xs.flatMap fLf).take (p * 4) ∧ (xs.drop p).flatMap fLf = (xs.flatMap fLf).drop (p * 4) := by
  have h1 : xs.flatMap fLf = (xs.take p).flatMap fLf ++ (xs.drop p).flatMap fLf := by rw [← List.flatMap_append, List.take_append_drop]
  have h2 : ((xs.take p).flatMap fLf).length = p * 4 := by rw [flatMap_length _ 4 fLf_len, List.length_take, Nat.min_eq_left h]
  constructor
  · rw [h1, List.take_left' h2]
  · rw [h1, List.drop_left' h2]
theorem ins_cells (xs vs : List Lf) (p : Nat) (h : p ≤ xs.length) (hv : vs.length = 1) (t : Nat) : ((xs.take p ++ (vs ++ xs.drop p)).flatMap fLf)[t]? =
    if t < p * 4 then (xs.flatMap fLf)[t]? else if t < p * 4 + 4 then (vs.flatMap fLf)[t - p * 4]? else (xs.flatMap fLf)[t - 4]? := by
  obtain ⟨h1, h2⟩ := flat_split xs p h
  have h3 : ((xs.take p).flatMap fLf).length = p * 4 := by rw [flatMap_length _ 4 fLf_len, List.length_take, Nat.min_eq_left h]
  have h4 : (vs.flatMap fLf).length = 4 := by rw [flatMap_length _ 4 fLf_len, hv]
  rw [List.flatMap_append, List.flatMap_append]
  split
  · rename_i hp
    rw [List.getElem?_append_left (by omega), h1, List.getElem?_take, if_pos hp]
  · rename_i hp
    rw [List.getElem?_append_right (by omega), h3]
    split
    · rw [List.getElem?_append_left (by omega)]
    · rw [List.getElem?_append_right (by omega), h4, h2, List.getElem?_drop]
      congr 1; omega
theorem zc_size (n : Nat) : (Builtin.zeroCells zLf.cells n).size = n * 4 := by simp [Builtin.zeroCells, Value.cells]
end Go.Proofs.Ytmbfflckgmdncaa.Fw
