/- Rows and boxes as arguments of functions under contracts. -/
import Derived.Test.YtlplngafncobkaaFwX
namespace Go.Proofs.Ytlplngafncobkaa.Fw
open Go Go.RowKit
set_option linter.unusedVariables false
set_option linter.unusedSimpArgs false

def nthN : List Nat → Nat → Nat
  | [], _ => 0
  | x :: _, 0 => x
  | _ :: l, n + 1 => nthN l n
/-- The levels of a caller as a callee's. -/
def Asg.pick (A : Asg) (bs rs : List Nat) : Asg := ⟨fun i => A.bx (nthN bs i), fun i => A.rw (nthN rs i), fun i => A.inn (nthN rs i)⟩

/-- A row of a type. -/
def rowC (c : TyC) (o : Option Row) (k : List c.α → Prop) : Prop :=
  match o with
  | some ⟨c', e, own, xs⟩ => (match h : TyC.same c' c with | true => castK (TyC.same_eq h) xs k | false => False)
  | none => False
theorem rowC_inv {c : TyC} {o : Option Row} {k : List c.α → Prop} (h : rowC c o k) : ∃ e own xs, o = some ⟨c, e, own, xs⟩ ∧ k xs := by
  unfold rowC at h
  split at h
  · rename_i c' e own xs
    split at h
    · rename_i hs
      have := TyC.same_eq hs
      subst this
      exact ⟨e, own, xs, rfl, h⟩
    · exact h.elim
  · exact h.elim

/-- A box with a function. -/
def boxF (o : Option (List AVal)) (f : FuncId) (X : Prop) : Prop :=
  match o with
  | some [.fn g [] []] => (match Nat.beq g f with | true => X | false => False)
  | _ => False
theorem boxF_inv {o : Option (List AVal)} {f : FuncId} {X : Prop} (h : boxF o f X) : o = some [.fn f [] []] ∧ X := by
  unfold boxF at h
  split at h
  · split at h
    · rename_i hb
      rw [Nat.eq_of_beq_eq_true hb]
      exact ⟨rfl, h⟩
    · exact h.elim
  · exact h.elim

def isF (g f : FuncId) (X : Prop) : Prop := match Nat.beq g f with | true => X | false => False
theorem isF_inv {g f : FuncId} {X : Prop} (h : isF g f X) : g = f ∧ X := by
  unfold isF at h
  split at h
  · rename_i hb
    exact ⟨Nat.eq_of_beq_eq_true hb, h⟩
  · exact h.elim

theorem no_box {A : Asg} {w : World} : ∀ i cs, nthj ([] : List (Option (List AVal))) i = some cs → BoxAt A w (A.bx i) cs ∧ A.bx i < w.heap.size := fun i cs h => by cases h
theorem one_box {A : Asg} {w : World} {cs0 : List AVal} (h : BoxAt A w (A.bx 0) cs0) : ∀ i cs, nthj [some cs0] i = some cs → BoxAt A w (A.bx i) cs ∧ A.bx i < w.heap.size := fun i cs hi => by
  cases i with
  | zero => cases hi; exact ⟨h, by obtain ⟨t, ht⟩ := h; exact lt_of_heap ht⟩
  | succ i => simp [nthj] at hi
theorem two_boxes {A : Asg} {w : World} {c0 c1 : List AVal} (h : BoxAt A w (A.bx 0) c0) (h' : BoxAt A w (A.bx 1) c1) : ∀ i cs, nthj [some c0, some c1] i = some cs → BoxAt A w (A.bx i) cs ∧ A.bx i < w.heap.size := fun i cs hi => by
  match i, hi with
  | 0, hi => cases hi; exact ⟨h, by obtain ⟨t, ht⟩ := h; exact lt_of_heap ht⟩
  | 1, hi => cases hi; exact ⟨h', by obtain ⟨t, ht⟩ := h'; exact lt_of_heap ht⟩
  | i + 2, hi => simp [nthj] at hi
/-- A box with a row. -/
def boxR (o : Option (List AVal)) (X : Nat → Prop) : Prop := match o with | some [.row r] => X r | _ => False
theorem boxR_inv {o : Option (List AVal)} {X : Nat → Prop} (h : boxR o X) : ∃ r, o = some [.row r] ∧ X r := by
  unfold boxR at h
  split at h
  · exact ⟨_, rfl, h⟩
  · exact h.elim
/-- A box with a function that holds a box. -/
def boxFB (o : Option (List AVal)) (f : FuncId) (X : Nat → Prop) : Prop :=
  match o with
  | some [.fn g [] [.loc m 0]] => (match Nat.beq g f with | true => X m | false => False)
  | _ => False
theorem boxFB_inv {o : Option (List AVal)} {f : FuncId} {X : Nat → Prop} (h : boxFB o f X) : ∃ m, o = some [.fn f [] [.loc m 0]] ∧ X m := by
  unfold boxFB at h
  split at h
  · split at h
    · rename_i hb
      rw [Nat.eq_of_beq_eq_true hb]
      exact ⟨_, rfl, h⟩
    · exact h.elim
  · exact h.elim

theorem no_row {A : Asg} {w : World} : ∀ k r, nthj ([] : List (Option Row)) k = some r → r.own = false ∧ RowAt w (A.rw k) r := fun i cs h => by cases h
theorem one_row {A : Asg} {w : World} {c : TyC} {e : TypeId} {own : Bool} {xs : List c.α} (h : RowAt w (A.rw 0) ⟨c, e, own, xs⟩) : ∀ k r, nthj [some ⟨c, e, false, xs⟩] k = some r → r.own = false ∧ RowAt w (A.rw k) r := fun k r hk => by
  cases k with
  | zero => cases hk; exact ⟨rfl, h.len, h.cap, h.max, h.cell⟩
  | succ i => simp [nthj] at hk
theorem two_rows {A : Asg} {w : World} {c c' : TyC} {e e' : TypeId} {own own' : Bool} {xs : List c.α} {ys : List c'.α} (h : RowAt w (A.rw 0) ⟨c, e, own, xs⟩) (h' : RowAt w (A.rw 1) ⟨c', e', own', ys⟩) :
    ∀ k r, nthj [some ⟨c, e, false, xs⟩, some ⟨c', e', false, ys⟩] k = some r → r.own = false ∧ RowAt w (A.rw k) r := fun k r hk => by
  match k, hk with
  | 0, hk => cases hk; exact ⟨rfl, h.len, h.cap, h.max, h.cell⟩
  | 1, hk => cases hk; exact ⟨rfl, h'.len, h'.cap, h'.max, h'.cell⟩
  | i + 2, hk => simp [nthj] at hk

theorem getD_mem {α : Type} {l : List α} {i : Nat} {d : α} (h : i < l.length) : l.getD i d ∈ l := by
  rw [List.getD_eq_getElem?_getD, List.getElem?_eq_getElem h]
  exact List.getElem_mem h
/-! ### first index -/
def idxP {α : Type} (p : α → Bool) : List α → Int
  | [] => -1
  | x :: l => if p x then 0 else if idxP p l < 0 then -1 else idxP p l + 1
theorem idxP_ge {α : Type} (p : α → Bool) : ∀ l, -1 ≤ idxP p l
  | [] => by simp [idxP]
  | x :: l => by have := idxP_ge p l; unfold idxP; (repeat' split) <;> omega
theorem idxP_any {α : Type} (p : α → Bool) : ∀ l, decide (0 ≤ idxP p l) = l.any p
  | [] => by simp [idxP]
  | x :: l => by
    have ih := idxP_any p l
    have := idxP_ge p l
    unfold idxP
    rw [List.any_cons, ← ih]
    cases p x
    · simp only [Bool.false_eq_true, if_false, Bool.false_or]
      split
      · rename_i h; simp; omega
      · rename_i h; congr 1; simp only [eq_iff_iff]; omega
    · simp
theorem idxP_found {α : Type} (p : α → Bool) : ∀ (l : List α) (n : Nat) (d : α), n < l.length → (∀ j, j < n → p (l.getD j d) = false) → p (l.getD n d) = true → idxP p l = n
  | [], n, d, h, _, _ => by simp at h
  | x :: l, 0, d, h, _, h' => by simp at h'; simp [idxP, h']
  | x :: l, n + 1, d, h, h1, h2 => by
    have h0 : p x = false := by have := h1 0 (by omega); simpa using this
    have ih := idxP_found p l n d (by simpa using h) (fun j hj => by have := h1 (j + 1) (by omega); simpa using this) (by simpa using h2)
    simp only [idxP, h0, ih]
    simp
    omega
theorem idxP_none {α : Type} (p : α → Bool) : ∀ (l : List α) (d : α), (∀ j, j < l.length → p (l.getD j d) = false) → idxP p l = -1
  | [], d, h => rfl
  | x :: l, d, h => by
    have h0 : p x = false := by have := h 0 (by simp); simpa using this
    have ih := idxP_none p l d (fun j hj => by have := h (j + 1) (by simpa using hj); simpa using this)
    simp [idxP, h0, ih]

end Go.Proofs.Ytlplngafncobkaa.Fw
