/- Contracts: closures over itineraries. -/
import Derived.Test.YtllagpbbbdekiacS8
import Derived.WalkKit
namespace Go.Proofs.Ytllagpbbbdekiac.Fw
open Go Go.RowKit
set_option linter.unusedVariables false
set_option linter.unusedSimpArgs false
set_option maxRecDepth 100000
set_option maxHeartbeats 2000000
theorem itr_walk (a b n s : Int) (w : World) :
    Calls Try.prog 53 #[.agg #[.int .i64 a, .int .i64 b], .int .i64 n, .int .i64 s] w fun e w' =>
      e = .returned (.func (.func 66) #[] #[.pointer (some ⟨w.heap.size + 2, 0, none⟩), .pointer (some ⟨w.heap.size + 1, 0, none⟩), .pointer (some ⟨w.heap.size, 0, none⟩)]) ∧
      w' = ((w.alloc (.cells #[.int .i64 a, .int .i64 b] 25)).alloc (.cells #[.int .i64 n] 2)).alloc (.cells #[.int .i64 s] 2) := by
  go_enter Try.func53, Try.ntmps53
  go_wp2
  go_ret
  exact ⟨rfl, rfl⟩
theorem own_var {w : World} {c : TyC} {e : TypeId} {x : c.α} {g : Nat} (h : w.heap[g]? = some (.cells (dens A0 (c.enc x)).toArray e (0, 0))) : RowOwn w ⟨some ⟨g, 0, none⟩, 1, 1⟩ ⟨c, e, true, [x]⟩ := by
  have hl : (dens A0 (c.enc x)).length = c.sz := by rw [dens_eq, List.length_map, c.enc_len]
  have hc : (⟨c, e, true, [x]⟩ : Row).cells = dens A0 (c.enc x) := by simp [Row.cells]
  refine ⟨?_, .inr ⟨g, 1, _, rfl, Nat.zero_le _, h, Nat.le_refl _, by decide, ?_, ?_⟩⟩
  · rw [hc, hl]; simp
  · simp [hl]
  · rw [hc, List.toList_toArray, List.length_singleton, Nat.one_mul, List.take_of_length_le (by rw [hl]; exact Nat.le_refl _)]
theorem alloc3 (w : World) (o1 o2 o3 : Obj) : (w.alloc o1).heap.size = w.heap.size + 1 ∧ ((w.alloc o1).alloc o2).heap.size = w.heap.size + 2 ∧ (((w.alloc o1).alloc o2).alloc o3).heap[w.heap.size]? = some o1 ∧ (((w.alloc o1).alloc o2).alloc o3).heap[w.heap.size + 1]? = some o2 ∧ (((w.alloc o1).alloc o2).alloc o3).heap[w.heap.size + 2]? = some o3 := by
  have s1 : (w.heap.push o1).size = w.heap.size + 1 := Array.size_push ..
  have s2 : ((w.heap.push o1).push o2).size = w.heap.size + 2 := by rw [Array.size_push, s1]
  refine ⟨s1, s2, ?_, ?_, ?_⟩
  · show (((w.heap.push o1).push o2).push o3)[w.heap.size]? = _
    rw [Array.getElem?_push, if_neg (by omega), Array.getElem?_push, if_neg (by omega), Array.getElem?_push, if_pos rfl]
  · show (((w.heap.push o1).push o2).push o3)[w.heap.size + 1]? = _
    rw [Array.getElem?_push, if_neg (by omega), Array.getElem?_push, if_pos (by omega)]
  · show (((w.heap.push o1).push o2).push o3)[w.heap.size + 2]? = _
    rw [Array.getElem?_push, if_pos (by omega)]
abbrev iT1 : TyC := .int .i64
def itrC : PCtr := fun _ _ lr vals k => match vals with
  | [.agg [.int .i64 a, .int .i64 b], .int .i64 n, .int .i64 s] => True ∧ k [⟨iT1, 2, true, [s]⟩, ⟨iT1, 2, true, [n]⟩, ⟨aT, 25, true, [(a, b)]⟩] (.fn 66 [] [.ele lr 0 0 1, .ele (lr + 1) 0 0 1, .ele (lr + 2) 0 0 2])
  | _ => False
theorem itr_ok : PCtrOk Try.prog 53 itrC where
  enter := enter_ok Try.func53 (by kernel_rfl) rfl
  calls := by
    intro hg rg lr vals k h
    unfold itrC at h
    split at h
    case h_2 => exact h.elim
    rename_i a b n s
    obtain ⟨_, hk⟩ := h
    refine ⟨_, _, hk, fun A w _ _ => ?_⟩
    refine Calls.mono (itr_walk a b n s w) ?_
    rintro e w' ⟨rfl, rfl⟩
    let w1 := w.alloc (.cells #[.int .i64 a, .int .i64 b] 25)
    let w2 := w1.alloc (.cells #[.int .i64 n] 2)
    let w3 := w2.alloc (.cells #[.int .i64 s] 2)
    obtain ⟨s1, s2, b0, b1, b2⟩ := alloc3 w (.cells #[.int .i64 a, .int .i64 b] 25) (.cells #[.int .i64 n] 2) (.cells #[.int .i64 s] 2)
    let h0 : HdrN := ⟨⟨some ⟨w.heap.size + 2, 0, none⟩, 1, 1⟩, fun _ => ⟨none, 0, 0⟩⟩
    let h1 : HdrN := ⟨⟨some ⟨w.heap.size + 1, 0, none⟩, 1, 1⟩, fun _ => ⟨none, 0, 0⟩⟩
    let h2 : HdrN := ⟨⟨some ⟨w.heap.size, 0, none⟩, 1, 1⟩, fun _ => ⟨none, 0, 0⟩⟩
    have q0 := (setRws_in A lr [h0, h1, h2] 0 h0 rfl).1
    have q1 := (setRws_in A lr [h0, h1, h2] 1 h1 rfl).1
    have q2 := (setRws_in A lr [h0, h1, h2] 2 h2 rfl).1
    rw [Nat.add_zero] at q0
    have hB : Blw w.heap.size w w3 := (((Blw.refl _ _).alloc (Nat.le_refl _) _).alloc (by rw [s1]; omega) _).alloc (by rw [s2]; omega) _
    have foot : ∀ (c : TyC) (e : TypeId) (x : c.α) (g b : Nat) (ih : Nat → Hdr), c.isL = false → Feet ⟨c, e, true, [x]⟩ ⟨some ⟨g, 0, none⟩, 1, 1⟩ ih b → b = g := fun c e x g b ih hc hf => by
      obtain ⟨_, a', ha, hb⟩ := Feet.flat hf hc
      cases ha
      exact hb.symm
    refine ⟨[h0, h1, h2], ?_, hB, ⟨rfl, fun i r h hi hh => ?_, fun i j h h' r r' b hij hi hj hri hrj hf hf' => ?_⟩⟩
    · simp only [AVal.den, dens, q0, q1, q2, Hdr.ptr, h0, h1, h2, Option.getD_some]
      rfl
    · match i, hi, hh with
      | 0, hi, hh => cases hi; cases hh; exact ⟨rfl, (own_var (c := iT1) b2).rows rfl, fun b hb => by have := foot iT1 _ _ _ _ _ rfl hb; omega⟩
      | 1, hi, hh => cases hi; cases hh; exact ⟨rfl, (own_var (c := iT1) b1).rows rfl, fun b hb => by have := foot iT1 _ _ _ _ _ rfl hb; omega⟩
      | 2, hi, hh => cases hi; cases hh; exact ⟨rfl, (own_var (c := aT) b0).rows rfl, fun b hb => by have := foot aT _ _ _ _ _ rfl hb; omega⟩
      | i + 3, hi, _ => simp at hi
    · match i, j, hi, hj, hri, hrj with
      | 0, 0, _, _, _, _ => exact hij rfl
      | 0, 1, hi, hj, hri, hrj => cases hi; cases hj; cases hri; cases hrj; have e1 := foot iT1 _ _ _ _ _ rfl hf; have e2 := foot iT1 _ _ _ _ _ rfl hf'; omega
      | 0, 2, hi, hj, hri, hrj => cases hi; cases hj; cases hri; cases hrj; have e1 := foot iT1 _ _ _ _ _ rfl hf; have e2 := foot aT _ _ _ _ _ rfl hf'; omega
      | 1, 0, hi, hj, hri, hrj => cases hi; cases hj; cases hri; cases hrj; have e1 := foot iT1 _ _ _ _ _ rfl hf; have e2 := foot iT1 _ _ _ _ _ rfl hf'; omega
      | 1, 1, _, _, _, _ => exact hij rfl
      | 1, 2, hi, hj, hri, hrj => cases hi; cases hj; cases hri; cases hrj; have e1 := foot iT1 _ _ _ _ _ rfl hf; have e2 := foot aT _ _ _ _ _ rfl hf'; omega
      | 2, 0, hi, hj, hri, hrj => cases hi; cases hj; cases hri; cases hrj; have e1 := foot aT _ _ _ _ _ rfl hf; have e2 := foot iT1 _ _ _ _ _ rfl hf'; omega
      | 2, 1, hi, hj, hri, hrj => cases hi; cases hj; cases hri; cases hrj; have e1 := foot aT _ _ _ _ _ rfl hf; have e2 := foot iT1 _ _ _ _ _ rfl hf'; omega
      | 2, 2, _, _, _, _ => exact hij rfl
      | i + 3, _, hi, _, _, _ => simp at hi
      | 0, j + 3, _, hj, _, _ => simp at hj
      | 1, j + 3, _, hj, _, _ => simp at hj
      | 2, j + 3, _, hj, _, _ => simp at hj
end Go.Proofs.Ytllagpbbbdekiac.Fw
