/- Leaving a function under a contract. -/
import Derived.Test.YtlplngafncobkaaFwW
namespace Go.Proofs.Ytlplngafncobkaa.Fw
open Go Go.RowKit
set_option linter.unusedVariables false
set_option linter.unusedSimpArgs false

theorem setRws_nil (A : Asg) (n : Nat) : A.setRws n [] = A := by
  unfold Asg.setRws
  have h1 : (fun i => if n ≤ i ∧ i < n + ([] : List HdrN).length then (([] : List HdrN).getD (i - n) hdr0).h else A.rw i) = A.rw := by
    funext i
    rw [if_neg (by simp)]
  have h2 : (fun i => if n ≤ i ∧ i < n + ([] : List HdrN).length then (([] : List HdrN).getD (i - n) hdr0).ih else A.inn i) = A.inn := by
    funext i
    rw [if_neg (by simp)]
  rw [h1, h2]

theorem newRows_nil {w : World} {free : Nat → Prop} : NewRows [] [] w free := ⟨rfl, fun i r h hi => by simp at hi, fun i j h h' r r' b _ hi => by simp at hi⟩
theorem newRows_one {w : World} {free : Nat → Prop} {r : Row} {h : HdrN} (ho : r.own = true) (hr : RowsOwn w h.h h.ih r) (hf : ∀ b, Feet r h.h h.ih b → free b) : NewRows [r] [h] w free :=
  ⟨rfl, fun i r' h' hi hi' => by
    cases i with
    | zero => simp at hi hi'; subst hi; subst hi'; exact ⟨ho, hr, hf⟩
    | succ i => simp at hi, fun i j h1 h2 r1 r2 b hij hi hj => by
    cases i with
    | zero => cases j with
      | zero => exact absurd rfl hij
      | succ j => simp at hj
    | succ i => simp at hi⟩
theorem newRows_two {w : World} {free : Nat → Prop} {r1 r2 : Row} {h1 h2 : HdrN} (ho : r1.own = true) (hr : RowsOwn w h1.h h1.ih r1) (hf : ∀ b, Feet r1 h1.h h1.ih b → free b)
    (ho2 : r2.own = true) (hr2 : RowsOwn w h2.h h2.ih r2) (hf2 : ∀ b, Feet r2 h2.h h2.ih b → free b) (hd : ∀ b, Feet r1 h1.h h1.ih b → ¬ Feet r2 h2.h h2.ih b) : NewRows [r1, r2] [h1, h2] w free :=
  ⟨rfl, fun i r' h' hi hi' => by
    match i, hi, hi' with
    | 0, hi, hi' => simp at hi hi'; subst hi; subst hi'; exact ⟨ho, hr, hf⟩
    | 1, hi, hi' => simp at hi hi'; subst hi; subst hi'; exact ⟨ho2, hr2, hf2⟩
    | i + 2, hi, _ => simp at hi, fun i j p q s t b hij hi hj hi' hj' hb hb' => by
    match i, j, hi, hj, hi', hj' with
    | 0, 0, _, _, _, _ => exact hij rfl
    | 1, 1, _, _, _, _ => exact hij rfl
    | 0, 1, hi, hj, hi', hj' => simp at hi hj hi' hj'; subst hi; subst hj; subst hi'; subst hj'; exact hd b hb hb'
    | 1, 0, hi, hj, hi', hj' => simp at hi hj hi' hj'; subst hi; subst hj; subst hi'; subst hj'; exact hd b hb' hb
    | i + 2, _, hi, _, _, _ => simp at hi
    | 0, j + 2, _, hj, _, _ => simp at hj
    | 1, j + 2, _, hj, _, _ => simp at hj⟩

/-- A result that names no level. -/
theorem leaf0 {P : Program} {w : World} {K : Nat → Prop} {r0 : Nat → Hdr} {n0 b0 : Nat} {A : Asg} {lr : Nat} {hp : List (Option (List AVal))} {rows : List (Option Row)} {u v : AVal} (hK : K = (· < w.heap.size)) (huv : u = v) (hsc : v.sc 0 [] 0 [] = true) :
    Leaf ⟨P, w, K, r0, n0, b0⟩ (CPost A lr [] v w) hp rows u := ⟨fun B w' hm => by
  subst huv; subst hK
  refine ⟨[], ?_, hm.kept.below, newRows_nil⟩
  rw [AVal.den_congr (B := A.setRws lr []) (nb := 0) (nr := 0) (eb := []) (er := []) (fun i hi => by simp at hi) (fun i hi => by simp at hi) u hsc]⟩

/-- One new row, whatever stands about it. -/
theorem leaf1 {P : Program} {w : World} {K : Nat → Prop} {r0 : Nat → Hdr} {n0 b0 : Nat} {A : Asg} {lr : Nat} {hp : List (Option (List AVal))} {rows : List (Option Row)} {u v : AVal} {r r' : Row} (k : Nat) (hK : K = (· < w.heap.size)) (hk : nthj rows k = some r) (hrr : r = r') (ho : r.own = true)
    (huv : ∀ B C : Asg, B.rw k = C.rw lr → u.den B = v.den C) :
    Leaf ⟨P, w, K, r0, n0, b0⟩ (CPost A lr [r'] v w) hp rows u := ⟨fun B w' hm => by
  subst hK; subst hrr
  obtain ⟨h1, h2⟩ := hm.row k r hk
  obtain ⟨h3, h4⟩ := h2 ho
  refine ⟨[⟨B.rw k, B.inn k⟩], ?_, hm.kept.below, newRows_one ho h3 (fun b hb => by have := h4 b hb; simp only at this; omega)⟩
  rw [huv B (A.setRws lr [⟨B.rw k, B.inn k⟩]) (by
    have := (setRws_in A lr [⟨B.rw k, B.inn k⟩] 0 _ rfl).1
    rw [Nat.add_zero] at this
    exact this.symm)]⟩

/-- A nil slice where a row is told: it has no elements. -/
theorem leafN {P : Program} {w : World} {K : Nat → Prop} {r0 : Nat → Hdr} {n0 b0 : Nat} {A : Asg} {lr : Nat} {hp : List (Option (List AVal))} {rows : List (Option Row)} {u v : AVal} {c : TyC} {e : TypeId} {xs : List c.α} (hK : K = (· < w.heap.size)) (hx : xs = [])
    (huv : ∀ B C : Asg, C.rw lr = ⟨none, 0, 0⟩ → u.den B = v.den C) :
    Leaf ⟨P, w, K, r0, n0, b0⟩ (CPost A lr [⟨c, e, true, xs⟩] v w) hp rows u := ⟨fun B w' hm => by
  subst hK; subst hx
  refine ⟨[⟨⟨none, 0, 0⟩, fun _ => ⟨none, 0, 0⟩⟩], ?_, hm.kept.below, newRows_one rfl (rows_nil _ _ _ _) (fun b hb => (feet_nil hb).elim)⟩
  rw [huv B (A.setRws lr [⟨⟨none, 0, 0⟩, fun _ => ⟨none, 0, 0⟩⟩]) (by
    have := (setRws_in A lr [(⟨⟨none, 0, 0⟩, fun _ => ⟨none, 0, 0⟩⟩ : HdrN)] 0 _ rfl).1
    rw [Nat.add_zero] at this
    exact this)]⟩

/-- A beginning of a row, as a row. -/
theorem leafV {P : Program} {w : World} {K : Nat → Prop} {r0 : Nat → Hdr} {n0 b0 : Nat} {A : Asg} {lr : Nat} {hp : List (Option (List AVal))} {rows : List (Option Row)} {u v : AVal} {c : TyC} {e : TypeId} {xs ys : List c.α} (k n : Nat) (hcl : c.isL = false) (hK : K = (· < w.heap.size)) (hk : nthj rows k = some ⟨c, e, true, xs⟩) (hn : n ≤ xs.length) (hy : xs.take n = ys)
    (huv : ∀ B C : Asg, C.rw lr = (B.rw k).view 0 n c.sz → u.den B = v.den C) :
    Leaf ⟨P, w, K, r0, n0, b0⟩ (CPost A lr [⟨c, e, true, ys⟩] v w) hp rows u := ⟨fun B w' hm => by
  subst hK; subst hy
  obtain ⟨h1, h2⟩ := hm.row k _ hk
  obtain ⟨h3, h4⟩ := h2 rfl
  refine ⟨[⟨(B.rw k).view 0 n c.sz, fun _ => ⟨none, 0, 0⟩⟩], ?_, hm.kept.below, newRows_one rfl ((own_take (h3.flat hcl) hn).rows hcl) (fun b hb => by
    obtain ⟨_, h5⟩ := Feet.flat hb hcl
    have := h4 b (Foot.feet ⟨.inl rfl, view_at.1 h5⟩ hcl)
    simp only at this; omega)⟩
  rw [huv B (A.setRws lr [⟨(B.rw k).view 0 n c.sz, fun _ => ⟨none, 0, 0⟩⟩]) (by
    have := (setRws_in A lr [(⟨(B.rw k).view 0 n c.sz, fun _ => ⟨none, 0, 0⟩⟩ : HdrN)] 0 _ rfl).1
    rw [Nat.add_zero] at this
    exact this)]⟩

end Go.Proofs.Ytlplngafncobkaa.Fw
