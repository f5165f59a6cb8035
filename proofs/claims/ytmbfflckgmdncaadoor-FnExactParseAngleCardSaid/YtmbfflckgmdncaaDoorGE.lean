/- Leaving a function under a contract. -/
import Derived.Test.YtmbfflckgmdncaaDoorGD
import Derived.LoopN
import Derived.WalkKit
import Derived.ProofKit
import Derived.OpenShut
import Derived.ShutString
import Derived.ChangeOld
import Derived.Below
import Derived.SizedLaws
namespace Go.Proofs.YtmbfflckgmdncaaDoor.Fw
open Go Go.RowKit
set_option linter.unusedVariables false
set_option linter.unusedSimpArgs false

theorem setRws_nil (A : Asg) (n : Nat) : A.setRws n [] = A := by
  unfold Asg.setRws
  have h1 : (fun i => if n ≤ i ∧ i < n + ([] : List HdrN).length then (([] : List HdrN).getD (i - n) hdr0).h else A.rw i) = A.rw := by
    funext i
    rw [if_neg (by simp)]
  have h2 : (fun i => if n ≤ i ∧ i < n + ([] : List HdrN).length then (([] : List HdrN).getD (i - n) hdr0).ih else A.inn i) = A.inn := by
    funext i
    rw [if_neg (by simp)]
  rw [h1, h2]

theorem newRows_nil {w : World} {free : Nat → Prop} : NewRows [] [] w free := ⟨rfl, fun i r h hi => by simp at hi, fun i j h h' r r' b _ hi => by simp at hi⟩
theorem newRows_one {w : World} {free : Nat → Prop} {r : Row} {h : HdrN} (ho : r.own = true) (hr : RowsOwn w h.h h.ih r) (hf : ∀ b, Feet r h.h h.ih b → free b) : NewRows [r] [h] w free :=
  ⟨rfl, fun i r' h' hi hi' => by
    cases i with
    | zero => simp at hi hi'; subst hi; subst hi'; exact ⟨ho, hr, hf⟩
    | succ i => simp at hi, fun i j h1 h2 r1 r2 b hij hi hj => by
    cases i with
    | zero => cases j with
      | zero => exact absurd rfl hij
      | succ j => simp at hj
    | succ i => simp at hi⟩
theorem newRows_two {w : World} {free : Nat → Prop} {r1 r2 : Row} {h1 h2 : HdrN} (ho : r1.own = true) (hr : RowsOwn w h1.h h1.ih r1) (hf : ∀ b, Feet r1 h1.h h1.ih b → free b)
    (ho2 : r2.own = true) (hr2 : RowsOwn w h2.h h2.ih r2) (hf2 : ∀ b, Feet r2 h2.h h2.ih b → free b) (hd : ∀ b, Feet r1 h1.h h1.ih b → ¬ Feet r2 h2.h h2.ih b) : NewRows [r1, r2] [h1, h2] w free :=
  ⟨rfl, fun i r' h' hi hi' => by
    match i, hi, hi' with
    | 0, hi, hi' => simp at hi hi'; subst hi; subst hi'; exact ⟨ho, hr, hf⟩
    | 1, hi, hi' => simp at hi hi'; subst hi; subst hi'; exact ⟨ho2, hr2, hf2⟩
    | i + 2, hi, _ => simp at hi, fun i j p q s t b hij hi hj hi' hj' hb hb' => by
    match i, j, hi, hj, hi', hj' with
    | 0, 0, _, _, _, _ => exact hij rfl
    | 1, 1, _, _, _, _ => exact hij rfl
    | 0, 1, hi, hj, hi', hj' => simp at hi hj hi' hj'; subst hi; subst hj; subst hi'; subst hj'; exact hd b hb hb'
    | 1, 0, hi, hj, hi', hj' => simp at hi hj hi' hj'; subst hi; subst hj; subst hi'; subst hj'; exact hd b hb' hb
    | i + 2, _, hi, _, _, _ => simp at hi
    | 0, j + 2, _, hj, _, _ => simp at hj
    | 1, j + 2, _, hj, _, _ => simp at hj⟩

/-- A result that names no level. -/
theorem leaf0 {P : Program} {w : World} {K : Nat → Prop} {r0 : Nat → Hdr} {n0 b0 : Nat} {x0 : Nat → Nat} {tn : Nat → Bool} {A : Asg} {lr : Nat} {hp : List (Option (List AVal))} {rows : List (Option Row)} {u v : AVal} (hK : K = (· < w.heap.size)) (huv : u = v) (hsc : v.sc 0 [] 0 [] = true) :
    Leaf ⟨P, w, K, r0, n0, b0, x0, tn⟩ (CPost A lr [] v w) hp rows u := ⟨fun B w' hm => by
  subst huv; subst hK
  refine ⟨[], ?_, hm.kept.below, newRows_nil⟩
  rw [AVal.den_congr (B := A.setRws lr []) (nb := 0) (nr := 0) (eb := []) (er := []) (fun i hi => by simp at hi) (fun i hi => by simp at hi) u hsc]⟩

/-- One new row, whatever stands about it. -/
theorem leaf1 {P : Program} {w : World} {K : Nat → Prop} {r0 : Nat → Hdr} {n0 b0 : Nat} {x0 : Nat → Nat} {tn : Nat → Bool} {A : Asg} {lr : Nat} {hp : List (Option (List AVal))} {rows : List (Option Row)} {u v : AVal} {r r' : Row} (k : Nat) (hK : K = (· < w.heap.size)) (hk : nthj rows k = some r) (hrr : r = r') (ho : r.own = true)
    (huv : ∀ B C : Asg, B.rw k = C.rw lr → u.den B = v.den C) :
    Leaf ⟨P, w, K, r0, n0, b0, x0, tn⟩ (CPost A lr [r'] v w) hp rows u := ⟨fun B w' hm => by
  subst hK; subst hrr
  obtain ⟨h1, h2⟩ := hm.row k r hk
  obtain ⟨h3, h4⟩ := h2 ho
  refine ⟨[⟨B.rw k, B.inn k⟩], ?_, hm.kept.below, newRows_one ho h3 (fun b hb => by have := h4 b hb; simp only at this; omega)⟩
  rw [huv B (A.setRws lr [⟨B.rw k, B.inn k⟩]) (by
    have := (setRws_in A lr [⟨B.rw k, B.inn k⟩] 0 _ rfl).1
    rw [Nat.add_zero] at this
    exact this.symm)]⟩

/-- A new box and two new rows. -/
theorem leafB2 {P : Program} {w : World} {K : Nat → Prop} {r0 : Nat → Hdr} {n0 b0 : Nat} {x0 : Nat → Nat} {tn : Nat → Bool} {A : Asg} {lb lr : Nat} {hp : List (Option (List AVal))} {rows : List (Option Row)} {u v : AVal} {cs0 cs : List AVal} {r1 r2 : Row} (b k1 k2 : Nat) (hK : K = (· < w.heap.size))
    (hb0 : b0 ≤ b) (hb : nthj hp b = some cs0) (hk1 : nthj rows k1 = some r1) (hk2 : nthj rows k2 = some r2) (hkk : k1 ≠ k2) (ho1 : r1.own = true) (ho2 : r2.own = true)
    (huv : ∀ B C : Asg, B.bx b = C.bx lb → B.rw k1 = C.rw lr → B.rw k2 = C.rw (lr + 1) → u.den B = v.den C ∧ dens B cs0 = dens C cs) (hmo : mapOf cs0 = mapOf cs := by rfl) :
    Leaf ⟨P, w, K, r0, n0, b0, x0, tn⟩ (BPost A lb lr (some cs) [r1, r2] v w) hp rows u := ⟨fun B w' hm => by
  subst hK
  have how : Env.ow ⟨P, w, (· < w.heap.size), r0, n0, b0, x0, tn⟩ b := Env.ow_of hb0
  obtain ⟨h1, h2⟩ := hm.row k1 r1 hk1
  obtain ⟨h3, h4⟩ := h2 ho1
  obtain ⟨q1, q2⟩ := hm.row k2 r2 hk2
  obtain ⟨q3, q4⟩ := q2 ho2
  obtain ⟨c1, c2, c3⟩ := hm.box b cs0 hb
  have hC1 : ((A.setRws lr [⟨B.rw k1, B.inn k1⟩, ⟨B.rw k2, B.inn k2⟩]).setBx lb (B.bx b)).rw lr = B.rw k1 := by
    have := (setRws_in A lr [⟨B.rw k1, B.inn k1⟩, ⟨B.rw k2, B.inn k2⟩] 0 _ rfl).1
    rw [Nat.add_zero] at this
    exact this
  have hC2 : ((A.setRws lr [⟨B.rw k1, B.inn k1⟩, ⟨B.rw k2, B.inn k2⟩]).setBx lb (B.bx b)).rw (lr + 1) = B.rw k2 := (setRws_in A lr [⟨B.rw k1, B.inn k1⟩, ⟨B.rw k2, B.inn k2⟩] 1 _ rfl).1
  obtain ⟨e1, e2⟩ := huv B ((A.setRws lr [⟨B.rw k1, B.inn k1⟩, ⟨B.rw k2, B.inn k2⟩]).setBx lb (B.bx b)) (upd_same _ _ _).symm hC1.symm hC2.symm
  refine ⟨[⟨B.rw k1, B.inn k1⟩, ⟨B.rw k2, B.inn k2⟩], B.bx b, by rw [e1], hm.kept.below, newRows_two ho1 h3 (fun b hb => by have := h4 b hb; simp only at this; omega) ho2 q3 (fun b hb => by have := q4 b hb; simp only at this; omega)
    (fun b hb hb' => hm.rr k1 k2 r1 r2 b hk1 hk2 hkk ho1 hb hb'), (fun h => by cases h), fun cs' hcs => ?_⟩
  cases hcs
  refine ⟨by have := c3 how; simp only at this; omega, ?_, fun i r h hi hh => ?_⟩
  · obtain ⟨t, ht⟩ := c1
    exact ⟨t, by rw [← e2]; unfold objOf at ht ⊢; rw [← hmo]; exact ht⟩
  · match i, hi, hh with
    | 0, hi, hh => simp at hi hh; subst hi; subst hh; exact fun hf => hm.br b cs0 k1 _ _ how hb hk1 hf rfl
    | 1, hi, hh => simp at hi hh; subst hi; subst hh; exact fun hf => hm.br b cs0 k2 _ _ how hb hk2 hf rfl
    | i + 2, hi, _ => simp at hi⟩
/-- A new box alone. -/
theorem leafBb {P : Program} {w : World} {K : Nat → Prop} {r0 : Nat → Hdr} {n0 b0 : Nat} {x0 : Nat → Nat} {tn : Nat → Bool} {A : Asg} {lb lr : Nat} {hp : List (Option (List AVal))} {rows : List (Option Row)} {u v : AVal} {cs0 cs : List AVal} (b : Nat) (hK : K = (· < w.heap.size))
    (hb0 : b0 ≤ b) (hb : nthj hp b = some cs0) (hmo : mapOf cs0 = mapOf cs)
    (huv : ∀ B C : Asg, (∀ j, j < n0 → B.rw j = r0 j) → B.bx b = C.bx lb → (∀ k, C.rw k = A.rw k) → u.den B = v.den C ∧ dens B cs0 = dens C cs) :
    Leaf ⟨P, w, K, r0, n0, b0, x0, tn⟩ (BPost A lb lr (some cs) [] v w) hp rows u := ⟨fun B w' hm => by
  subst hK
  have how : Env.ow ⟨P, w, (· < w.heap.size), r0, n0, b0, x0, tn⟩ b := Env.ow_of hb0
  obtain ⟨c1, c2, c3⟩ := hm.box b cs0 hb
  obtain ⟨e1, e2⟩ := huv B ((A.setRws lr []).setBx lb (B.bx b)) (fun j hj => hm.args j hj) (upd_same _ _ _).symm (fun k => by
    show (A.setRws lr []).rw k = _
    rw [setRws_nil])
  refine ⟨[], B.bx b, by rw [e1], hm.kept.below, newRows_nil, (fun h => by cases h), fun cs' hcs => ?_⟩
  cases hcs
  refine ⟨by have := c3 how; simp only at this; omega, ?_, fun i r h hi hh => by simp at hi⟩
  obtain ⟨t, ht⟩ := c1
  exact ⟨t, by rw [← e2]; unfold objOf at ht ⊢; rw [← hmo]; exact ht⟩⟩
/-- No box, no rows. -/
theorem leafB0 {P : Program} {w : World} {K : Nat → Prop} {r0 : Nat → Hdr} {n0 b0 : Nat} {x0 : Nat → Nat} {tn : Nat → Bool} {A : Asg} {lb lr : Nat} {hp : List (Option (List AVal))} {rows : List (Option Row)} {u v : AVal} (hK : K = (· < w.heap.size)) (huv : u = v) (hsc : v.sc 0 [] 0 [] = true) :
    Leaf ⟨P, w, K, r0, n0, b0, x0, tn⟩ (BPost A lb lr none [] v w) hp rows u := ⟨fun B w' hm => by
  subst huv; subst hK
  refine ⟨[], A.bx lb, ?_, hm.kept.below, newRows_nil, fun _ => rfl, fun cs h => by cases h⟩
  rw [AVal.den_congr (B := (A.setRws lr []).setBx lb (A.bx lb)) (nb := 0) (nr := 0) (eb := []) (er := []) (fun i hi => by simp at hi) (fun i hi => by simp at hi) u hsc]⟩

/-- One of the ends that a contract allows. -/
theorem leafR {E : Env} {A : Asg} {lb lr : Nat} {w : World} {hp : List (Option (List AVal))} {rows : List (Option Row)} {u v : AVal} {k : Option (List AVal) → List Row → AVal → Prop} {box : Option (List AVal)} {new : List Row} (hk : k box new v)
    (h : Leaf E (BPost A lb lr box new v w) hp rows u) : Leaf E (RPost k A lb lr w) hp rows u := ⟨fun B w' hm => ⟨_, _, _, hk, h.out B w' hm⟩⟩
theorem setBx_same' (A : Asg) (l : Nat) (B : Asg) (h : B.bx l = A.bx l) : B.setBx l (A.bx l) = B := by
  unfold Asg.setBx
  have : upd B.bx l (A.bx l) = B.bx := by
    funext i
    by_cases e : i = l
    · subst e; rw [upd_same, h]
    · rw [upd_ne _ _ _ e]
  rw [this]
theorem leafRc {E : Env} {A : Asg} {lb lr : Nat} {w : World} {hp : List (Option (List AVal))} {rows : List (Option Row)} {u v : AVal} {k : Option (List AVal) → List Row → AVal → Prop} {new : List Row} (hk : k none new v)
    (h : Leaf E (CPost A lr new v w) hp rows u) : Leaf E (RPost k A lb lr w) hp rows u := ⟨fun B w' hm => by
  obtain ⟨hs, h1, h2, h3⟩ := h.out B w' hm
  exact ⟨none, new, v, hk, hs, A.bx lb, by rw [setBx_same' A lb (A.setRws lr hs) rfl]; exact h1, h2, h3, fun _ => rfl, fun cs h => by cases h⟩⟩

/-- A nil slice where a row is told: it has no elements. -/
theorem leafN {P : Program} {w : World} {K : Nat → Prop} {r0 : Nat → Hdr} {n0 b0 : Nat} {x0 : Nat → Nat} {tn : Nat → Bool} {A : Asg} {lr : Nat} {hp : List (Option (List AVal))} {rows : List (Option Row)} {u v : AVal} {c : TyC} {e : TypeId} {xs : List c.α} (hK : K = (· < w.heap.size)) (hx : xs = [])
    (huv : ∀ B C : Asg, C.rw lr = ⟨none, 0, 0⟩ → u.den B = v.den C) :
    Leaf ⟨P, w, K, r0, n0, b0, x0, tn⟩ (CPost A lr [⟨c, e, true, xs⟩] v w) hp rows u := ⟨fun B w' hm => by
  subst hK; subst hx
  refine ⟨[⟨⟨none, 0, 0⟩, fun _ => ⟨none, 0, 0⟩⟩], ?_, hm.kept.below, newRows_one rfl (rows_nil _ _ _ _) (fun b hb => (feet_nil hb).elim)⟩
  rw [huv B (A.setRws lr [⟨⟨none, 0, 0⟩, fun _ => ⟨none, 0, 0⟩⟩]) (by
    have := (setRws_in A lr [(⟨⟨none, 0, 0⟩, fun _ => ⟨none, 0, 0⟩⟩ : HdrN)] 0 _ rfl).1
    rw [Nat.add_zero] at this
    exact this)]⟩

/-- A beginning of a row, as a row. -/
theorem leafV {P : Program} {w : World} {K : Nat → Prop} {r0 : Nat → Hdr} {n0 b0 : Nat} {x0 : Nat → Nat} {tn : Nat → Bool} {A : Asg} {lr : Nat} {hp : List (Option (List AVal))} {rows : List (Option Row)} {u v : AVal} {c : TyC} {e : TypeId} {xs ys : List c.α} (k n : Nat) (hcl : c.isL = false) (hK : K = (· < w.heap.size)) (hk : nthj rows k = some ⟨c, e, true, xs⟩) (hn : n ≤ xs.length) (hy : xs.take n = ys)
    (huv : ∀ B C : Asg, C.rw lr = (B.rw k).view 0 n c.sz → u.den B = v.den C) :
    Leaf ⟨P, w, K, r0, n0, b0, x0, tn⟩ (CPost A lr [⟨c, e, true, ys⟩] v w) hp rows u := ⟨fun B w' hm => by
  subst hK; subst hy
  obtain ⟨h1, h2⟩ := hm.row k _ hk
  obtain ⟨h3, h4⟩ := h2 rfl
  refine ⟨[⟨(B.rw k).view 0 n c.sz, fun _ => ⟨none, 0, 0⟩⟩], ?_, hm.kept.below, newRows_one rfl ((own_take (h3.flat hcl) hn).rows hcl) (fun b hb => by
    obtain ⟨_, h5⟩ := Feet.flat hb hcl
    have := h4 b (Foot.feet ⟨.inl rfl, view_at.1 h5⟩ hcl)
    simp only at this; omega)⟩
  rw [huv B (A.setRws lr [⟨(B.rw k).view 0 n c.sz, fun _ => ⟨none, 0, 0⟩⟩]) (by
    have := (setRws_in A lr [(⟨(B.rw k).view 0 n c.sz, fun _ => ⟨none, 0, 0⟩⟩ : HdrN)] 0 _ rfl).1
    rw [Nat.add_zero] at this
    exact this)]⟩

end Go.Proofs.YtmbfflckgmdncaaDoor.Fw

/- Rows and boxes as arguments of functions under contracts. -/
namespace Go.Proofs.YtmbfflckgmdncaaDoor.Fw
open Go Go.RowKit
set_option linter.unusedVariables false
set_option linter.unusedSimpArgs false

def nthN : List Nat → Nat → Nat
  | [], _ => 0
  | x :: _, 0 => x
  | _ :: l, n + 1 => nthN l n
/-- The levels of a caller as a callee's. -/
def Asg.pick (A : Asg) (bs rs : List Nat) : Asg := ⟨fun i => A.bx (nthN bs i), fun i => A.rw (nthN rs i), fun i => A.inn (nthN rs i)⟩

/-- A row of a type. -/
def rowC (c : TyC) (o : Option Row) (k : List c.α → Prop) : Prop :=
  match o with
  | some ⟨c', e, own, xs⟩ => (match h : TyC.same c' c with | true => castK (TyC.same_eq h) xs k | false => False)
  | none => False
theorem rowC_inv {c : TyC} {o : Option Row} {k : List c.α → Prop} (h : rowC c o k) : ∃ e own xs, o = some ⟨c, e, own, xs⟩ ∧ k xs := by
  unfold rowC at h
  split at h
  · rename_i c' e own xs
    split at h
    · rename_i hs
      have := TyC.same_eq hs
      subst this
      exact ⟨e, own, xs, rfl, h⟩
    · exact h.elim
  · exact h.elim

/-- A box with a function. -/
def boxF (o : Option (List AVal)) (f : FuncId) (X : Prop) : Prop :=
  match o with
  | some [.fn g [] []] => (match Nat.beq g f with | true => X | false => False)
  | _ => False
theorem boxF_inv {o : Option (List AVal)} {f : FuncId} {X : Prop} (h : boxF o f X) : o = some [.fn f [] []] ∧ X := by
  unfold boxF at h
  split at h
  · split at h
    · rename_i hb
      rw [Nat.eq_of_beq_eq_true hb]
      exact ⟨rfl, h⟩
    · exact h.elim
  · exact h.elim

def isF (g f : FuncId) (X : Prop) : Prop := match Nat.beq g f with | true => X | false => False
theorem isF_inv {g f : FuncId} {X : Prop} (h : isF g f X) : g = f ∧ X := by
  unfold isF at h
  split at h
  · rename_i hb
    exact ⟨Nat.eq_of_beq_eq_true hb, h⟩
  · exact h.elim

theorem no_box {A : Asg} {w : World} : ∀ i cs, nthj ([] : List (Option (List AVal))) i = some cs → BoxAt A w (A.bx i) cs ∧ A.bx i < w.heap.size := fun i cs h => by cases h
theorem one_box {A : Asg} {w : World} {cs0 : List AVal} (h : BoxAt A w (A.bx 0) cs0) : ∀ i cs, nthj [some cs0] i = some cs → BoxAt A w (A.bx i) cs ∧ A.bx i < w.heap.size := fun i cs hi => by
  cases i with
  | zero => cases hi; exact ⟨h, by obtain ⟨t, ht⟩ := h; exact lt_of_heap ht⟩
  | succ i => simp [nthj] at hi
theorem two_boxes {A : Asg} {w : World} {c0 c1 : List AVal} (h : BoxAt A w (A.bx 0) c0) (h' : BoxAt A w (A.bx 1) c1) : ∀ i cs, nthj [some c0, some c1] i = some cs → BoxAt A w (A.bx i) cs ∧ A.bx i < w.heap.size := fun i cs hi => by
  match i, hi with
  | 0, hi => cases hi; exact ⟨h, by obtain ⟨t, ht⟩ := h; exact lt_of_heap ht⟩
  | 1, hi => cases hi; exact ⟨h', by obtain ⟨t, ht⟩ := h'; exact lt_of_heap ht⟩
  | i + 2, hi => simp [nthj] at hi
/-- A box with a row. -/
def boxR (o : Option (List AVal)) (X : Nat → Prop) : Prop := match o with | some [.row r] => X r | _ => False
theorem boxR_inv {o : Option (List AVal)} {X : Nat → Prop} (h : boxR o X) : ∃ r, o = some [.row r] ∧ X r := by
  unfold boxR at h
  split at h
  · exact ⟨_, rfl, h⟩
  · exact h.elim
/-- A box with a function that holds a box. -/
def boxFB (o : Option (List AVal)) (f : FuncId) (X : Nat → Prop) : Prop :=
  match o with
  | some [.fn g [] [.loc m 0]] => (match Nat.beq g f with | true => X m | false => False)
  | _ => False
theorem boxFB_inv {o : Option (List AVal)} {f : FuncId} {X : Nat → Prop} (h : boxFB o f X) : ∃ m, o = some [.fn f [] [.loc m 0]] ∧ X m := by
  unfold boxFB at h
  split at h
  · split at h
    · rename_i hb
      rw [Nat.eq_of_beq_eq_true hb]
      exact ⟨_, rfl, h⟩
    · exact h.elim
  · exact h.elim

/-- A row that is only read. -/
def Row.ro : Row → Row
  | ⟨c, e, _, xs⟩ => ⟨c, e, false, xs⟩
theorem RowAt.ro {w : World} {h : Hdr} {r : Row} (hr : RowAt w h r) : RowAt w h r.ro := ⟨hr.len, hr.cap, hr.max, hr.cell⟩
theorem parts_ro {h : Hdr} {ih : Nat → Hdr} {r : Row} {p : Hdr × Row} (hp : p ∈ r.ro.parts h ih) : ∃ q ∈ r.parts h ih, q.1 = p.1 ∧ q.2.ro = p.2 := by
  obtain ⟨c, e, own, xs⟩ := r
  by_cases hc : c.isL = true
  · cases c <;> simp only [TyC.isL] at hc <;> first | cases hc | skip
    simp only [Row.ro, Row.parts, List.mem_cons, List.mem_map] at hp
    rcases hp with rfl | ⟨i, hi, rfl⟩
    · exact ⟨_, List.mem_cons_self, rfl, rfl⟩
    · exact ⟨_, List.mem_cons_of_mem _ (List.mem_map.2 ⟨i, hi, rfl⟩), rfl, rfl⟩
  · simp only [Row.ro] at hp
    rw [parts_flat (by simpa using hc)] at hp ⊢
    simp only [List.mem_singleton] at hp
    subst hp
    exact ⟨_, List.mem_singleton.2 rfl, rfl, rfl⟩
theorem RowsAt.ro {w : World} {h : Hdr} {ih : Nat → Hdr} {r : Row} (hr : RowsAt w h ih r) : RowsAt w h ih r.ro := ⟨fun p hp => by
  obtain ⟨q, hq, h1, h2⟩ := parts_ro hp
  rw [← h1, ← h2]
  exact (hr.all q hq).ro⟩
theorem Feet.ro {h : Hdr} {ih : Nat → Hdr} {r : Row} {b : Nat} (hf : Feet r.ro h ih b) : Feet r h ih b := by
  obtain ⟨p, hp, h3, h4⟩ := hf
  obtain ⟨q, hq, h1, h2⟩ := parts_ro hp
  refine ⟨q, hq, ?_, h1 ▸ h4⟩
  rw [← h2] at h3
  rcases h3 with h3 | h3
  · cases h3
  · exact .inr h3

theorem no_row {A : Asg} {w : World} : ∀ k r, nthj ([] : List (Option Row)) k = some r → r.own = false ∧ RowsAt w (A.rw k) (A.inn k) r := fun i cs h => by cases h
theorem one_row {A : Asg} {w : World} {c : TyC} {e : TypeId} {own : Bool} {xs : List c.α} (h : RowsAt w (A.rw 0) (A.inn 0) ⟨c, e, own, xs⟩) : ∀ k r, nthj [some ⟨c, e, false, xs⟩] k = some r → r.own = false ∧ RowsAt w (A.rw k) (A.inn k) r := fun k r hk => by
  cases k with
  | zero => cases hk; exact ⟨rfl, h.ro⟩
  | succ i => simp [nthj] at hk
theorem two_rows {A : Asg} {w : World} {c c' : TyC} {e e' : TypeId} {own own' : Bool} {xs : List c.α} {ys : List c'.α} (h : RowsAt w (A.rw 0) (A.inn 0) ⟨c, e, own, xs⟩) (h' : RowsAt w (A.rw 1) (A.inn 1) ⟨c', e', own', ys⟩) :
    ∀ k r, nthj [some ⟨c, e, false, xs⟩, some ⟨c', e', false, ys⟩] k = some r → r.own = false ∧ RowsAt w (A.rw k) (A.inn k) r := fun k r hk => by
  match k, hk with
  | 0, hk => cases hk; exact ⟨rfl, h.ro⟩
  | 1, hk => cases hk; exact ⟨rfl, h'.ro⟩
  | i + 2, hk => simp [nthj] at hk
theorem three_rows {A : Asg} {w : World} {c c' c'' : TyC} {e e' e'' : TypeId} {own own' own'' : Bool} {xs : List c.α} {ys : List c'.α} {zs : List c''.α} (h : RowsAt w (A.rw 0) (A.inn 0) ⟨c, e, own, xs⟩) (h' : RowsAt w (A.rw 1) (A.inn 1) ⟨c', e', own', ys⟩) (h'' : RowsAt w (A.rw 2) (A.inn 2) ⟨c'', e'', own'', zs⟩) :
    ∀ k r, nthj [some ⟨c, e, false, xs⟩, some ⟨c', e', false, ys⟩, some ⟨c'', e'', false, zs⟩] k = some r → r.own = false ∧ RowsAt w (A.rw k) (A.inn k) r := fun k r hk => by
  match k, hk with
  | 0, hk => cases hk; exact ⟨rfl, h.ro⟩
  | 1, hk => cases hk; exact ⟨rfl, h'.ro⟩
  | 2, hk => cases hk; exact ⟨rfl, h''.ro⟩
  | i + 3, hk => simp [nthj] at hk

/-! ### functions that turn rows -/
/-- A callee's memory out of its caller's. -/
theorem CMem.pick {A : Asg} {hg : Nat → Option (List AVal)} {rg : Nat → Option Row} {w : World} (h : CMem A hg rg w) (bs rs : List Nat) (hp : List (Option (List AVal))) (rows : List (Option Row))
    (hb : ∀ i cs, nthj hp i = some cs → ∃ cs', hg (nthN bs i) = some cs' ∧ mapOf cs = mapOf cs' ∧ dens (A.pick bs rs) cs = dens A cs')
    (hr : ∀ i r, nthj rows i = some r → ∃ r', rg (nthN rs i) = some r' ∧ (r = r' ∨ r = r'.ro))
    (hi : ∀ i j r r', nthj rows i = some r → nthj rows j = some r' → i ≠ j → r.own = true → nthN rs i ≠ nthN rs j) : CMem (A.pick bs rs) (nthj hp) (nthj rows) w := by
  have own' : ∀ (r r' : Row), (r = r' ∨ r = r'.ro) → r.own = true → r = r' := fun r r' h ho => by
    rcases h with h | h
    · exact h
    · subst h; cases ho
  have feet' : ∀ (r r' : Row) h ih b, (r = r' ∨ r = r'.ro) → Feet r h ih b → Feet r' h ih b := fun r r' h ih b hh hf => by
    rcases hh with hh | hh
    · subst hh; exact hf
    · subst hh; exact Feet.ro hf
  refine ⟨fun i cs hi' => ?_, fun k r hk => ?_, fun i ci k r b hi' hk ho hf => ?_, fun k k' r r' b hk hk' hkk ho hf hf' => ?_⟩
  · obtain ⟨cs', h1, hmo, h2⟩ := hb i cs hi'
    obtain ⟨t, ht⟩ := h.box _ cs' h1
    exact ⟨t, by rw [h2]; unfold objOf at ht ⊢; rw [hmo]; exact ht⟩
  · obtain ⟨r', h1, h2⟩ := hr k r hk
    obtain ⟨h3, h4⟩ := h.row _ r' h1
    refine ⟨?_, fun ho => ?_⟩
    · rcases h2 with h2 | h2
      · subst h2; exact h3
      · subst h2; exact h3.ro
    · have := own' r r' h2 ho
      subst this; exact h4 ho
  · obtain ⟨cs', h1, _⟩ := hb i ci hi'
    obtain ⟨r', h3, h4⟩ := hr k r hk
    have := own' r r' h4 ho
    subst this
    exact h.br _ cs' _ r b h1 h3 ho hf
  · obtain ⟨q, h1, h2⟩ := hr k r hk
    obtain ⟨q', h1', h2'⟩ := hr k' r' hk'
    have := own' r q h2 ho
    subst this
    exact h.rr _ _ r q' b h1 h1' (hi k k' r r' hk hk' hkk ho) ho hf (feet' r' q' _ _ b h2' hf')

section
variable {P : Program} {w : World} {A : Asg} {hg : Nat → Option (List AVal)} {rg : Nat → Option Row} {n0 b0 lr i0 : Nat} {x0 : Nat → Nat} {tn : Nat → Bool} {hp : List (Option (List AVal))} {rows rows0 : List (Option Row)} {u v : AVal} {bs rs : List Nat}

/-- Which one row of the caller's own a callee gets: its first. -/
structure One (rg : Nat → Option Row) (rs : List Nat) (rows0 : List (Option Row)) (i0 : Nat) (r0 : Row) : Prop where
  lvl : nthN rs 0 = i0
  row : rg i0 = some r0
  own : r0.own = true
  get : nthj rows0 0 = some r0
  only : ∀ q r, nthj rows0 q = some r → r.own = true → q = 0

theorem One.kept {r0 : Row} (ho : One rg rs rows0 i0 r0) {ups : List (Nat × Option Row)} {x : Option Row} (hu : (i0, x) ∈ ups) {w' : World} (hk : Kept (keptM (A.pick bs rs) rows0 w) w w') : Kept (fun b => b < w.heap.size ∧ ¬ touched A rg ups b) w w' :=
  ⟨hk.os, hk.tape, hk.output, hk.size, fun b ⟨h1, h2⟩ => hk.block b ⟨h1, fun ⟨k, r, h3, h4, h5⟩ => h2 (by
    have := ho.only k r h3 h4
    subst this
    rw [ho.get] at h3; cases h3
    refine ⟨i0, x, r0, hu, ho.row, ?_⟩
    have e1 : (A.pick bs rs).rw 0 = A.rw i0 := by simp [Asg.pick, ho.lvl]
    have e2 : (A.pick bs rs).inn 0 = A.inn i0 := by simp [Asg.pick, ho.lvl]
    rw [e1, e2] at h5
    exact h5)⟩, hk.drawn⟩

/-- The row is turned in its place; the result names no level. -/
theorem leafM0 {r0 r' : Row} (ho : One rg rs rows0 i0 r0) (hn : 0 < n0) (hk : nthj rows 0 = some r') (ho' : r'.own = true) (hcl : r'.c.isL = false) (huv : u = v) (hsc : v.sc 0 [] 0 [] = true) :
    Leaf ⟨P, w, keptM (A.pick bs rs) rows0 w, (A.pick bs rs).rw, n0, b0, x0, tn⟩ (MPost A rg lr [(i0, some r')] [] v w) hp rows u := ⟨fun B w' hm => by
  subst huv
  refine ⟨[], ?_, ho.kept (List.mem_singleton.2 rfl) hm.kept, fun i r hi => ?_, newRows_nil⟩
  · rw [AVal.den_congr (B := A.setRws lr []) (nb := 0) (nr := 0) (eb := []) (er := []) (fun i hi => by simp at hi) (fun i hi => by simp at hi) u hsc]
  · simp only [List.mem_singleton, Prod.mk.injEq, Option.some.injEq] at hi
    obtain ⟨rfl, rfl⟩ := hi
    have hargs := hm.args 0 hn
    have e1 : (A.pick bs rs).rw 0 = A.rw i := by simp [Asg.pick, ho.lvl]
    obtain ⟨c, e, own, xs⟩ := r
    have := ((hm.row 0 _ hk).2 ho').1.flat hcl
    rw [hargs] at this
    simp only [e1] at this
    simp only at ho'
    subst ho'
    exact this⟩

/-- The row is turned in its place; the result is a beginning of it, by name. -/
theorem leafMW {r0 r' : Row} (ho : One rg rs rows0 i0 r0) (hn : 0 < n0) (hk : nthj rows 0 = some r') (ho' : r'.own = true) (hcl : r'.c.isL = false) (huv : ∀ B C : Asg, B.rw 0 = C.rw i0 → u.den B = v.den C) :
    Leaf ⟨P, w, keptM (A.pick bs rs) rows0 w, (A.pick bs rs).rw, n0, b0, x0, tn⟩ (MPost A rg lr [(i0, some r')] [] v w) hp rows u := ⟨fun B w' hm => by
  have hargs := hm.args 0 hn
  have e1 : (A.pick bs rs).rw 0 = A.rw i0 := by simp [Asg.pick, ho.lvl]
  refine ⟨[], ?_, ho.kept (List.mem_singleton.2 rfl) hm.kept, fun i r hi => ?_, newRows_nil⟩
  · rw [setRws_nil, huv B A (by rw [hargs]; exact e1)]
  · simp only [List.mem_singleton, Prod.mk.injEq, Option.some.injEq] at hi
    obtain ⟨rfl, rfl⟩ := hi
    obtain ⟨c, e, own, xs⟩ := r
    have := ((hm.row 0 _ hk).2 ho').1.flat hcl
    rw [hargs] at this
    simp only [e1] at this
    simp only at ho'
    subst ho'
    exact this⟩

theorem One.free {r0 : Row} (ho : One rg rs rows0 i0 r0) {ups : List (Nat × Option Row)} (hu : (i0, none) ∈ ups) {b : Nat} (hb : ¬ keptM (A.pick bs rs) rows0 w b) : w.heap.size ≤ b ∨ freed A rg ups b := by
  rcases Nat.lt_or_ge b w.heap.size with hlt | hge
  · refine .inr ?_
    refine Classical.byContradiction fun hnf => hb ⟨hlt, fun ⟨k, r, h3, h4, h5⟩ => hnf ?_⟩
    have := ho.only k r h3 h4
    subst this
    rw [ho.get] at h3; cases h3
    have e1 : (A.pick bs rs).rw 0 = A.rw i0 := by simp [Asg.pick, ho.lvl]
    have e2 : (A.pick bs rs).inn 0 = A.inn i0 := by simp [Asg.pick, ho.lvl]
    rw [e1, e2] at h5
    exact ⟨i0, r0, hu, ho.row, h5⟩
  · exact .inl hge

/-- The row is used up; a row is handed back. -/
theorem leafM1 {r0 r r' : Row} (ho : One rg rs rows0 i0 r0) (k : Nat) (hk : nthj rows k = some r) (hrr : r = r') (hown : r.own = true) (huv : ∀ B C : Asg, B.rw k = C.rw lr → u.den B = v.den C) :
    Leaf ⟨P, w, keptM (A.pick bs rs) rows0 w, (A.pick bs rs).rw, n0, b0, x0, tn⟩ (MPost A rg lr [(i0, none)] [r'] v w) hp rows u := ⟨fun B w' hm => by
  subst hrr
  obtain ⟨h1, h2⟩ := hm.row k r hk
  obtain ⟨h3, h4⟩ := h2 hown
  refine ⟨[⟨B.rw k, B.inn k⟩], ?_, ho.kept (List.mem_singleton.2 rfl) hm.kept, fun i r hi => by simp at hi, newRows_one hown h3 (fun b hb => ho.free (List.mem_singleton.2 rfl) (h4 b hb))⟩
  rw [huv B (A.setRws lr [⟨B.rw k, B.inn k⟩]) (by
    have := (setRws_in A lr [⟨B.rw k, B.inn k⟩] 0 _ rfl).1
    rw [Nat.add_zero] at this
    exact this.symm)]⟩

/-- The row is used up; a beginning of a row is handed back. -/
theorem leafMV {r0 : Row} {c : TyC} {e : TypeId} {xs ys : List c.α} (ho : One rg rs rows0 i0 r0) (k n : Nat) (hcl : c.isL = false) (hk : nthj rows k = some ⟨c, e, true, xs⟩) (hn : n ≤ xs.length) (hy : xs.take n = ys)
    (huv : ∀ B C : Asg, C.rw lr = (B.rw k).view 0 n c.sz → u.den B = v.den C) :
    Leaf ⟨P, w, keptM (A.pick bs rs) rows0 w, (A.pick bs rs).rw, n0, b0, x0, tn⟩ (MPost A rg lr [(i0, none)] [⟨c, e, true, ys⟩] v w) hp rows u := ⟨fun B w' hm => by
  subst hy
  obtain ⟨h1, h2⟩ := hm.row k _ hk
  obtain ⟨h3, h4⟩ := h2 rfl
  refine ⟨[⟨(B.rw k).view 0 n c.sz, fun _ => ⟨none, 0, 0⟩⟩], ?_, ho.kept (List.mem_singleton.2 rfl) hm.kept, fun i r hi => by simp at hi, newRows_one rfl ((own_take (h3.flat hcl) hn).rows hcl) (fun b hb => ?_)⟩
  · rw [huv B (A.setRws lr [⟨(B.rw k).view 0 n c.sz, fun _ => ⟨none, 0, 0⟩⟩]) (by
      have := (setRws_in A lr [(⟨(B.rw k).view 0 n c.sz, fun _ => ⟨none, 0, 0⟩⟩ : HdrN)] 0 _ rfl).1
      rw [Nat.add_zero] at this
      exact this)]
  · obtain ⟨_, h5⟩ := Feet.flat hb hcl
    exact ho.free (List.mem_singleton.2 rfl) (h4 b (Foot.feet ⟨.inl rfl, view_at.1 h5⟩ hcl))⟩

/-- What lies in the row is turned. -/
theorem leafL {r0 r' : Row} (ho : One rg rs rows0 i0 r0) (hn : 0 < n0) (hk : nthj rows 0 = some r') (ho' : r'.own = true) (huv : u = v) (hsc : v.sc 0 [] 0 [] = true) :
    Leaf ⟨P, w, keptM (A.pick bs rs) rows0 w, (A.pick bs rs).rw, n0, b0, x0, tn⟩ (LPost A i0 r0 r' v w) hp rows u := ⟨fun B w' hm => by
  subst huv
  have hargs := hm.args 0 hn
  have e1 : (A.pick bs rs).rw 0 = A.rw i0 := by simp [Asg.pick, ho.lvl]
  obtain ⟨h1, h2⟩ := hm.row 0 _ hk
  obtain ⟨h3, h4⟩ := h2 ho'
  simp only [hargs, e1] at h3 h4
  have hkp := ho.kept (x := some r') (List.mem_singleton.2 rfl) hm.kept
  refine ⟨B.inn 0, ?_, ⟨hkp.os, hkp.tape, hkp.output, hkp.size, fun b hb => hkp.block b ⟨hb.1, fun ⟨i, x, r, q1, q2, q3⟩ => ?_⟩, hkp.drawn⟩, h3, fun b hb => ?_⟩
  · rw [AVal.den_congr (B := A) (nb := 0) (nr := 0) (eb := []) (er := []) (fun i hi => by simp at hi) (fun i hi => by simp at hi) u hsc]
  · simp only [List.mem_singleton, Prod.mk.injEq] at q1
    obtain ⟨rfl, _⟩ := q1
    rw [ho.row] at q2; cases q2
    exact hb.2 q3
  · rcases ho.free (ups := [(i0, none)]) (List.mem_singleton.2 rfl) (h4 b hb) with h | ⟨i, r, q1, q2, q3⟩
    · exact .inl h
    · simp only [List.mem_singleton, Prod.mk.injEq, and_true] at q1
      subst q1
      rw [ho.row] at q2; cases q2
      exact .inr q3⟩

theorem ups_one {r0 : Row} {x : Option Row} (hrow : rg i0 = some r0) (hown : r0.own = true) (hx : ∀ r', x = some r' → r'.own = true ∧ r'.c.isL = false ∧ r0.c.isL = false) : UpsOk rg [(i0, x)] :=
  ⟨fun i u hi => by
    simp only [List.mem_singleton, Prod.mk.injEq] at hi
    obtain ⟨rfl, rfl⟩ := hi
    exact ⟨r0, hrow, hown, hx⟩, by simp⟩
end

/-! ### functions that turn a box -/
/-- A callee's memory out of its caller's. -/
theorem XMem.pick {A : Asg} {hg : Nat → Option (List AVal)} {rg : Nat → Option Row} {w : World} {i0 : Nat} (h : XMem A hg rg i0 w) (bs rs : List Nat) (hp : List (Option (List AVal))) (rows : List (Option Row)) (h0 : nthN bs 0 = i0)
    (hb : ∀ i cs, nthj hp i = some cs → ∃ cs', hg (nthN bs i) = some cs' ∧ mapOf cs = mapOf cs' ∧ dens (A.pick bs rs) cs = dens A cs') (hne : ∀ i cs, nthj hp i = some cs → i ≠ 0 → nthN bs i ≠ i0)
    (hr : ∀ i r, nthj rows i = some r → ∃ r', rg (nthN rs i) = some r' ∧ r = r'.ro) : XMem (A.pick bs rs) (nthj hp) (nthj rows) 0 w := by
  have e0 : (A.pick bs rs).bx 0 = A.bx i0 := by simp [Asg.pick, h0]
  refine ⟨fun i cs hi => ?_, fun k r hk => ?_, fun i cs hi hne0 => ?_, fun k r b hk hf => ?_⟩
  · obtain ⟨cs', h1, hmo, h2⟩ := hb i cs hi
    obtain ⟨t, ht⟩ := h.box _ cs' h1
    exact ⟨t, by rw [h2]; unfold objOf at ht ⊢; rw [hmo]; exact ht⟩
  · obtain ⟨r', h1, h2⟩ := hr k r hk
    subst h2
    exact (h.row _ r' h1).ro
  · obtain ⟨cs', h1, _⟩ := hb i cs hi
    rw [e0]
    exact h.bb _ cs' h1 (hne i cs hi hne0)
  · obtain ⟨r', h1, h2⟩ := hr k r hk
    subst h2
    rw [e0]
    exact h.br _ r' b h1 (Feet.ro hf)
/-- One box, one row. -/
theorem XMem.one {A : Asg} {hg : Nat → Option (List AVal)} {rg : Nat → Option Row} {w : World} {i0 j : Nat} (h : XMem A hg rg i0 w) {c : TyC} {e : TypeId} {own : Bool} {xs : List c.α} {cs cs' : List AVal} (hi : hg i0 = some cs') (hj : rg j = some ⟨c, e, own, xs⟩)
    (hmo : mapOf cs = mapOf cs') (hd : dens (A.pick [i0] [j]) cs = dens A cs') : XMem (A.pick [i0] [j]) (nthj [some cs]) (nthj [some ⟨c, e, false, xs⟩]) 0 w :=
  h.pick [i0] [j] _ _ rfl (fun i c hc => by
    match i, hc with
    | 0, hc => cases hc; exact ⟨cs', hi, hmo, hd⟩
    | i + 1, hc => simp [nthj] at hc) (fun i c hc hne => by
    match i, hc with
    | 0, hc => exact absurd rfl hne
    | i + 1, hc => simp [nthj] at hc) (fun i r hr => by
    match i, hr with
    | 0, hr => cases hr; exact ⟨_, hj, rfl⟩
    | i + 1, hr => simp [nthj] at hr)
/-- One box, two rows. -/
theorem XMem.two {A : Asg} {hg : Nat → Option (List AVal)} {rg : Nat → Option Row} {w : World} {i0 j l : Nat} (h : XMem A hg rg i0 w) {c c2 : TyC} {e e2 : TypeId} {own own2 : Bool} {xs : List c.α} {ys : List c2.α} {cs cs' : List AVal} (hi : hg i0 = some cs') (hj : rg j = some ⟨c, e, own, xs⟩) (hl : rg l = some ⟨c2, e2, own2, ys⟩)
    (hmo : mapOf cs = mapOf cs') (hd : dens (A.pick [i0] [j, l]) cs = dens A cs') : XMem (A.pick [i0] [j, l]) (nthj [some cs]) (nthj [some ⟨c, e, false, xs⟩, some ⟨c2, e2, false, ys⟩]) 0 w :=
  h.pick [i0] [j, l] _ _ rfl (fun i c hc => by
    match i, hc with
    | 0, hc => cases hc; exact ⟨cs', hi, hmo, hd⟩
    | i + 1, hc => simp [nthj] at hc) (fun i c hc hne => by
    match i, hc with
    | 0, hc => exact absurd rfl hne
    | i + 1, hc => simp [nthj] at hc) (fun i r hr => by
    match i, hr with
    | 0, hr => cases hr; exact ⟨_, hj, rfl⟩
    | 1, hr => cases hr; exact ⟨_, hl, rfl⟩
    | i + 2, hr => simp [nthj] at hr)
theorem two_ro {c c2 : TyC} {e e2 : TypeId} {xs : List c.α} {ys : List c2.α} : ∀ k r, nthj [some (⟨c, e, false, xs⟩ : Row), some ⟨c2, e2, false, ys⟩] k = some r → r.own = false := fun k r hk => by
  match k, hk with
  | 0, hk => cases hk; rfl
  | 1, hk => cases hk; rfl
  | k + 2, hk => simp [nthj] at hk
theorem one_ro {c : TyC} {e : TypeId} {xs : List c.α} : ∀ k r, nthj [some (⟨c, e, false, xs⟩ : Row)] k = some r → r.own = false := fun k r hk => by
  match k, hk with
  | 0, hk => cases hk; rfl
  | k + 1, hk => simp [nthj] at hk
/-- The box is turned; the result names no level. -/
theorem leafX {P : Program} {w : World} {A : Asg} {n0 b0 i0 : Nat} {hp : List (Option (List AVal))} {rows : List (Option Row)} {u v : AVal} {bs rs : List Nat} {cs cs' : List AVal} (h0 : nthN bs 0 = i0) (hb0 : 0 < b0) (hk : nthj hp 0 = some cs') (hmo : mapOf cs' = mapOf cs)
    (hcs : ∀ B : Asg, (∀ j, j < n0 → B.rw j = A.rw (nthN rs j)) → dens B cs' = dens A cs) (huv : u = v) (hsc : v.sc 0 [] 0 [] = true) :
    Leaf ⟨P, w, fun b => b < w.heap.size ∧ b ≠ (A.pick bs rs).bx 0, (A.pick bs rs).rw, n0, b0, (A.pick bs rs).bx, fun i => Nat.beq i 0⟩ (XPost A i0 cs v w) hp rows u := ⟨fun B w' hm => by
  subst huv
  have e0 : (A.pick bs rs).bx 0 = A.bx i0 := by simp [Asg.pick, h0]
  obtain ⟨⟨t, ht⟩, htr, _⟩ := hm.box 0 cs' hk
  have e1 : B.bx 0 = A.bx i0 := ((htr hb0).1).trans e0
  have hkp := hm.kept
  simp only [e0] at hkp
  refine ⟨?_, hkp, ⟨t, ?_⟩⟩
  · rw [AVal.den_congr (B := A) (nb := 0) (nr := 0) (eb := []) (er := []) (fun i hi => by simp at hi) (fun i hi => by simp at hi) u hsc]
  · rw [← e1, ht, hcs B (fun j hj => hm.args j hj)]
    unfold objOf
    rw [hmo]⟩
theorem leafXr {E : Env} {A : Asg} {i : Nat} {w : World} {hp : List (Option (List AVal))} {rows : List (Option Row)} {u v : AVal} {k : Nat → List AVal → AVal → Prop} {cs : List AVal} (hk : k i cs v)
    (h : Leaf E (XPost A i cs v w) hp rows u) : Leaf E (XRPost k A i w) hp rows u := ⟨fun B w' hm => ⟨_, _, hk, h.out B w' hm⟩⟩
/-- A source of numbers: what it reads from, how far, and its number. -/
def boxSrc (o : Option (List AVal)) (X : Nat → Int → Int → Prop) : Prop := match o with | some [.row r, .int .i64 a, .int .u64 h] => X r a h | _ => False
theorem boxSrc_inv {o : Option (List AVal)} {X : Nat → Int → Int → Prop} (h : boxSrc o X) : ∃ r a n, o = some [.row r, .int .i64 a, .int .u64 n] ∧ X r a n := by
  unfold boxSrc at h
  split at h
  · exact ⟨_, _, _, rfl, h⟩
  · exact h.elim

/-- A row of the caller's own, of a type. -/
def rowO (c : TyC) (o : Option Row) (k : TypeId → List c.α → Prop) : Prop :=
  match o with
  | some ⟨c', e, true, xs⟩ => (match h : TyC.same c' c with | true => castK (TyC.same_eq h) xs (k e) | false => False)
  | _ => False
theorem rowO_inv {c : TyC} {o : Option Row} {k : TypeId → List c.α → Prop} (h : rowO c o k) : ∃ e xs, o = some ⟨c, e, true, xs⟩ ∧ k e xs := by
  unfold rowO at h
  split at h
  · rename_i c' e xs
    split at h
    · rename_i hs
      have := TyC.same_eq hs
      subst this
      exact ⟨e, xs, rfl, h⟩
    · exact h.elim
  · exact h.elim
theorem CMem.one {A : Asg} {hg : Nat → Option (List AVal)} {rg : Nat → Option Row} {w : World} (h : CMem A hg rg w) {i : Nat} {r0 : Row} (hi : rg i = some r0) : CMem (A.pick [] [i]) (nthj []) (nthj [some r0]) w :=
  h.pick [] [i] [] [some r0] (fun i cs h => by cases h) (fun k r hk => by
    cases k with
    | zero => cases hk; exact ⟨r0, hi, .inl rfl⟩
    | succ k => simp [nthj] at hk) (fun i j r r' hi hj hij => by
    cases i with
    | zero => cases j with
      | zero => exact absurd rfl hij
      | succ j => simp [nthj] at hj
    | succ i => simp [nthj] at hi)
theorem CMem.two {A : Asg} {hg : Nat → Option (List AVal)} {rg : Nat → Option Row} {w : World} (h : CMem A hg rg w) {i j : Nat} {r0 r1 : Row} (hi : rg i = some r0) (hj : rg j = some r1) (hij : i ≠ j) : CMem (A.pick [] [i, j]) (nthj []) (nthj [some r0, some r1.ro]) w :=
  h.pick [] [i, j] [] [some r0, some r1.ro] (fun i cs h => by cases h) (fun k r hk => by
    match k, hk with
    | 0, hk => cases hk; exact ⟨r0, hi, .inl rfl⟩
    | 1, hk => cases hk; exact ⟨r1, hj, .inr rfl⟩
    | k + 2, hk => simp [nthj] at hk) (fun a b r r' ha hb hab _ => by
    match a, b, ha, hb with
    | 0, 0, _, _ => exact absurd rfl hab
    | 0, 1, _, _ => exact hij
    | 1, 0, _, _ => exact fun e => hij e.symm
    | 1, 1, _, _ => exact absurd rfl hab
    | 0, b + 2, _, hb => simp [nthj] at hb
    | 1, b + 2, _, hb => simp [nthj] at hb
    | a + 2, _, ha, _ => simp [nthj] at ha)
theorem One.of {rg : Nat → Option Row} {i : Nat} {r0 : Row} (hi : rg i = some r0) (ho : r0.own = true) : One rg [i] [some r0] i r0 := ⟨rfl, hi, ho, rfl, fun q r hq _ => by
  cases q with
  | zero => rfl
  | succ q => simp [nthj] at hq⟩
theorem One.of2 {rg : Nat → Option Row} {i j : Nat} {r0 r1 : Row} (hi : rg i = some r0) (ho : r0.own = true) : One rg [i, j] [some r0, some r1.ro] i r0 := ⟨rfl, hi, ho, rfl, fun q r hq hr => by
  match q, hq with
  | 0, _ => rfl
  | 1, hq => cases hq; cases hr
  | q + 2, hq => simp [nthj] at hq⟩

theorem getD_set {α : Type} {l : List α} {n : Nat} {x d : α} (h : n < l.length) : (l.set n x).getD n d = x := by simp [List.getD, h]
theorem mark_len {α : Type} (f : Nat → α) (xs : List α) (n : Nat) (h : n ≤ xs.length) : ((List.range n).map f ++ xs.drop n).length = xs.length := by simp; omega
theorem mark_step {α : Type} (f : Nat → α) (xs : List α) (n : Nat) (h : n < xs.length) : ((List.range n).map f ++ xs.drop n).set n (f n) = (List.range (n + 1)).map f ++ xs.drop (n + 1) := by
  rw [List.set_append_right _ _ (by simp), List.range_succ, List.map_append, List.append_assoc]
  congr 1
  rw [List.length_map, List.length_range, Nat.sub_self, List.drop_eq_getElem_cons h]
  rfl
theorem getD_mem {α : Type} {l : List α} {i : Nat} {d : α} (h : i < l.length) : l.getD i d ∈ l := by
  rw [List.getD_eq_getElem?_getD, List.getElem?_eq_getElem h]
  exact List.getElem_mem h
/-! ### first index -/
def idxP {α : Type} (p : α → Bool) : List α → Int
  | [] => -1
  | x :: l => if p x then 0 else if idxP p l < 0 then -1 else idxP p l + 1
theorem idxP_ge {α : Type} (p : α → Bool) : ∀ l, -1 ≤ idxP p l
  | [] => by simp [idxP]
  | x :: l => by have := idxP_ge p l; unfold idxP; (repeat' split) <;> omega
theorem idxP_any {α : Type} (p : α → Bool) : ∀ l, decide (0 ≤ idxP p l) = l.any p
  | [] => by simp [idxP]
  | x :: l => by
    have ih := idxP_any p l
    have := idxP_ge p l
    unfold idxP
    rw [List.any_cons, ← ih]
    cases p x
    · simp only [Bool.false_eq_true, if_false, Bool.false_or]
      split
      · rename_i h; simp; omega
      · rename_i h; congr 1; simp only [eq_iff_iff]; omega
    · simp
theorem idxP_found {α : Type} (p : α → Bool) : ∀ (l : List α) (n : Nat) (d : α), n < l.length → (∀ j, j < n → p (l.getD j d) = false) → p (l.getD n d) = true → idxP p l = n
  | [], n, d, h, _, _ => by simp at h
  | x :: l, 0, d, h, _, h' => by simp at h'; simp [idxP, h']
  | x :: l, n + 1, d, h, h1, h2 => by
    have h0 : p x = false := by have := h1 0 (by omega); simpa using this
    have ih := idxP_found p l n d (by simpa using h) (fun j hj => by have := h1 (j + 1) (by omega); simpa using this) (by simpa using h2)
    simp only [idxP, h0, ih]
    simp
    omega
theorem idxP_none {α : Type} (p : α → Bool) : ∀ (l : List α) (d : α), (∀ j, j < l.length → p (l.getD j d) = false) → idxP p l = -1
  | [], d, h => rfl
  | x :: l, d, h => by
    have h0 : p x = false := by have := h 0 (by simp); simpa using this
    have ih := idxP_none p l d (fun j hj => by have := h (j + 1) (by simpa using hj); simpa using this)
    simp [idxP, h0, ih]

end Go.Proofs.YtmbfflckgmdncaaDoor.Fw

/- Loops at whose head rows are told that were nil before. -/
namespace Go.Proofs.YtmbfflckgmdncaaDoor.Fw
open Go Go.RowKit
set_option linter.unusedVariables false
set_option linter.unusedSimpArgs false

def pushAllK {α : Type _} : List α → List α → (List α → Prop) → Prop
  | [], l, k => k l
  | x :: xs, l, k => pushK l x fun l' => pushAllK xs l' k
theorem pushAllK_eq {α : Type _} : ∀ (xs l : List α) (k : List α → Prop), pushAllK xs l k = k (l ++ xs)
  | [], l, k => by simp [pushAllK]
  | x :: xs, l, k => by simp only [pushAllK, pushK_eq, pushAllK_eq xs, List.append_assoc, List.singleton_append]
def headP (σ : St) (js : List Nat) (vs : List (Nat × AVal)) (hs : List (Nat × List AVal)) (rs : List (Nat × Option Row)) (nr : List (Option Row)) (k : St → Prop) : Prop :=
  headK σ js vs hs rs fun σ => match σ with | ⟨fr, hp, rows⟩ => pushAllK nr rows fun rows => k ⟨fr, hp, rows⟩
theorem headP_eq (σ : St) (js : List Nat) (vs : List (Nat × AVal)) (hs : List (Nat × List AVal)) (rs : List (Nat × Option Row)) (nr : List (Option Row)) (k : St → Prop) :
    headP σ js vs hs rs nr k = k ⟨(σ.head js vs hs rs).fr, (σ.head js vs hs rs).hp, (σ.head js vs hs rs).rows ++ nr⟩ := by
  simp only [headP, headK_eq, pushAllK_eq]

/-- A loop; new rows at its head are told behind the others. -/
theorem V_loopP {E : Env} {c : Code} {kN : St → Prop} {kE : Nat → St → Prop} {kR : St → Prop} {σ : St} {γ : Type} (Inv : γ → Prop) (μ : γ → Nat) (vs : γ → List (Nat × AVal)) (hs : γ → List (Nat × List AVal)) (rs : γ → List (Nat × Option Row)) (nr : γ → List (Option Row))
    (g0 : γ) (h0 : Inv g0) (hle : headP σ (mods c) (vs g0) (hs g0) (rs g0) (nr g0) fun σh => LeG E σ σh)
    (hb : ∀ g, Inv g → headP σ (mods c) (vs g) (hs g) (rs g) (nr g) fun σh => V E c (fun σ' => ∃ g', Inv g' ∧ μ g' < μ g ∧ headP σ (mods c) (vs g') (hs g') (rs g') (nr g') fun σh' => LeG E σ' σh') kE kR σh) : V E (.loop c) kN kE kR σ := by
  simp only [headP_eq] at hle hb
  exact V_loop (fun g => ⟨(σ.head (mods c) (vs g) (hs g) (rs g)).fr, (σ.head (mods c) (vs g) (hs g) (rs g)).hp, (σ.head (mods c) (vs g) (hs g) (rs g)).rows ++ nr g⟩) Inv μ g0 h0 hle hb

/-- A loop of a known number of rounds, round by round. -/
def Vrounds (E : Env) (c : Code) (kN : St → Prop) (kE : Nat → St → Prop) (kR : St → Prop) : Nat → St → Prop
  | 0, _ => False
  | n + 1, σ => V E c (fun σ' => Vrounds E c kN kE kR n σ') kE kR σ
theorem V_loopN {E : Env} {c : Code} {kN : St → Prop} {kE : Nat → St → Prop} {kR : St → Prop} {σ : St} (n : Nat) (h : Vrounds E c kN kE kR n σ) : V E (.loop c) kN kE kR σ := ⟨fun Q h1 h2 h3 A a w hs => by
  refine wp_loop_rounds n ?_
  have key : ∀ n σ, Vrounds E c kN kE kR n σ → ∀ A a w, Sat E A σ a w → Code.rounds E.P c Q n a w := by
    intro n
    induction n with
    | zero => intro σ h; exact h.elim
    | succ n ih =>
      intro σ h A a w hs
      rw [rounds_succ]
      refine h.out _ ?_ ?_ ?_ A a w hs
      · intro σ' h' B a' w' hs'; exact ih σ' h' B a' w' hs'
      · intro i σ' hk B a' w' hs'; exact h2 i σ' hk B a' w' hs'
      · intro σ' hk B a' w' hs'; exact h3 σ' hk B a' w' hs'
  exact key n σ h A a w hs⟩

end Go.Proofs.YtmbfflckgmdncaaDoor.Fw

/- Boxes as arguments of functions under contracts, more. -/
namespace Go.Proofs.YtmbfflckgmdncaaDoor.Fw
open Go Go.RowKit
set_option linter.unusedVariables false
set_option linter.unusedSimpArgs false

theorem box_lt {A : Asg} {w : World} {b : Nat} {cs : List AVal} (h : BoxAt A w b cs) : BoxAt A w b cs ∧ b < w.heap.size := ⟨h, by obtain ⟨t, ht⟩ := h; exact lt_of_heap ht⟩
/-- A box with a whole number. -/
def boxI (o : Option (List AVal)) (X : Int → Prop) : Prop := match o with | some [.int .i64 n] => X n | _ => False
theorem boxI_inv {o : Option (List AVal)} {X : Int → Prop} (h : boxI o X) : ∃ n, o = some [.int .i64 n] ∧ X n := by
  unfold boxI at h
  split at h
  · exact ⟨_, rfl, h⟩
  · exact h.elim
/-- A box with an angle. -/
def boxA (o : Option (List AVal)) (X : Int × Int → Prop) : Prop := match o with | some [.int .i64 a, .int .i64 b] => X (a, b) | _ => False
theorem boxA_inv {o : Option (List AVal)} {X : Int × Int → Prop} (h : boxA o X) : ∃ a : Int × Int, o = some [.int .i64 a.1, .int .i64 a.2] ∧ X a := by
  unfold boxA at h
  split at h
  · exact ⟨_, rfl, h⟩
  · exact h.elim
/-- A box with a leaf. -/
def boxLf (o : Option (List AVal)) (X : (Int × Int) × (Int × Int) → Prop) : Prop := match o with | some [.int .i64 a, .int .i64 b, .int .i64 c, .int .i64 d] => X ((a, b), (c, d)) | _ => False
theorem boxLf_inv {o : Option (List AVal)} {X : (Int × Int) × (Int × Int) → Prop} (h : boxLf o X) : ∃ l : (Int × Int) × (Int × Int), o = some [.int .i64 l.1.1, .int .i64 l.1.2, .int .i64 l.2.1, .int .i64 l.2.2] ∧ X l := by
  unfold boxLf at h
  split at h
  · exact ⟨_, rfl, h⟩
  · exact h.elim
/-- A box with a part of a row. -/
def boxV (s0 : Nat) (o : Option (List AVal)) (X : Nat → Nat → Nat → Prop) : Prop := match o with | some [.vw r lo n sz] => (match Nat.beq sz s0 with | true => X r lo n | false => False) | _ => False
theorem boxV_inv {s0 : Nat} {o : Option (List AVal)} {X : Nat → Nat → Nat → Prop} (h : boxV s0 o X) : ∃ r lo n, o = some [.vw r lo n s0] ∧ X r lo n := by
  unfold boxV at h
  split at h
  · split at h
    · rename_i hb
      rw [Nat.eq_of_beq_eq_true hb]
      exact ⟨_, _, _, rfl, h⟩
    · exact h.elim
  · exact h.elim
/-- A box with a function that holds two boxes. -/
def boxFB2 (o : Option (List AVal)) (f : FuncId) (X : Nat → Nat → Prop) : Prop :=
  match o with
  | some [.fn g [] [.loc m 0, .loc n 0]] => (match Nat.beq g f with | true => X m n | false => False)
  | _ => False
theorem boxFB2_inv {o : Option (List AVal)} {f : FuncId} {X : Nat → Nat → Prop} (h : boxFB2 o f X) : ∃ m n, o = some [.fn f [] [.loc m 0, .loc n 0]] ∧ X m n := by
  unfold boxFB2 at h
  split at h
  · split at h
    · rename_i hb
      rw [Nat.eq_of_beq_eq_true hb]
      exact ⟨_, _, rfl, h⟩
    · exact h.elim
  · exact h.elim
theorem not_any_not {α : Type} (p : α → Bool) (xs : List α) : (!xs.any fun x => !p x) = xs.all p := by
  induction xs with
  | nil => rfl
  | cons x l ih => simp only [List.any_cons, List.all_cons, ← ih, Bool.not_or, Bool.not_not]

/-- Only what came in. -/
theorem leafS {P : Program} {w : World} {K : Nat → Prop} {r0 : Nat → Hdr} {n0 b0 : Nat} {x0 : Nat → Nat} {tn : Nat → Bool} {A : Asg} {lr : Nat} {hp : List (Option (List AVal))} {rows : List (Option Row)} {u v : AVal} (hK : K = (· < w.heap.size))
    (huv : ∀ B : Asg, (∀ j, j < n0 → B.rw j = r0 j) → u.den B = v.den A) :
    Leaf ⟨P, w, K, r0, n0, b0, x0, tn⟩ (CPost A lr [] v w) hp rows u := ⟨fun B w' hm => by
  subst hK
  refine ⟨[], ?_, hm.kept.below, newRows_nil⟩
  rw [setRws_nil, huv B (fun j hj => hm.args j hj)]⟩

/-- Two new rows. -/
theorem leaf2 {P : Program} {w : World} {K : Nat → Prop} {r0 : Nat → Hdr} {n0 b0 : Nat} {x0 : Nat → Nat} {tn : Nat → Bool} {A : Asg} {lr : Nat} {hp : List (Option (List AVal))} {rows : List (Option Row)} {u v : AVal} {r1 r1' r2 r2' : Row} (k1 k2 : Nat) (hne : k1 ≠ k2) (hK : K = (· < w.heap.size))
    (hk1 : nthj rows k1 = some r1) (e1 : r1 = r1') (ho1 : r1.own = true) (hk2 : nthj rows k2 = some r2) (e2 : r2 = r2') (ho2 : r2.own = true)
    (huv : ∀ B C : Asg, B.rw k1 = C.rw lr → B.rw k2 = C.rw (lr + 1) → u.den B = v.den C) :
    Leaf ⟨P, w, K, r0, n0, b0, x0, tn⟩ (CPost A lr [r1', r2'] v w) hp rows u := ⟨fun B w' hm => by
  subst hK; subst e1; subst e2
  obtain ⟨a1, a2⟩ := hm.row k1 r1 hk1
  obtain ⟨a3, a4⟩ := a2 ho1
  obtain ⟨b1, b2⟩ := hm.row k2 r2 hk2
  obtain ⟨b3, b4⟩ := b2 ho2
  refine ⟨[⟨B.rw k1, B.inn k1⟩, ⟨B.rw k2, B.inn k2⟩], ?_, hm.kept.below, newRows_two ho1 a3 (fun b hb => by have := a4 b hb; simp only at this; omega) ho2 b3 (fun b hb => by have := b4 b hb; simp only at this; omega) (fun b hb => hm.rr k1 k2 r1 r2 b hk1 hk2 hne ho1 hb)⟩
  have s1 := (setRws_in A lr [⟨B.rw k1, B.inn k1⟩, ⟨B.rw k2, B.inn k2⟩] 0 _ rfl).1
  have s2 := (setRws_in A lr [⟨B.rw k1, B.inn k1⟩, ⟨B.rw k2, B.inn k2⟩] 1 _ rfl).1
  rw [Nat.add_zero] at s1
  rw [huv B (A.setRws lr [⟨B.rw k1, B.inn k1⟩, ⟨B.rw k2, B.inn k2⟩]) s1.symm s2.symm]⟩

/-- One new row, told as all of itself. -/
theorem leaf1W {P : Program} {w : World} {K : Nat → Prop} {r0 : Nat → Hdr} {n0 b0 : Nat} {x0 : Nat → Nat} {tn : Nat → Bool} {A : Asg} {lr : Nat} {hp : List (Option (List AVal))} {rows : List (Option Row)} {u v : AVal} {r r' : Row} (k : Nat) (hK : K = (· < w.heap.size)) (hk : nthj rows k = some r) (hrr : r = r') (ho : r.own = true)
    (huv : ∀ B C : Asg, B.rw k = C.rw lr → (C.rw lr).len = r'.xs.length → u.den B = v.den C) :
    Leaf ⟨P, w, K, r0, n0, b0, x0, tn⟩ (CPost A lr [r'] v w) hp rows u := ⟨fun B w' hm => by
  subst hK; subst hrr
  obtain ⟨h1, h2⟩ := hm.row k r hk
  obtain ⟨h3, h4⟩ := h2 ho
  refine ⟨[⟨B.rw k, B.inn k⟩], ?_, hm.kept.below, newRows_one ho h3 (fun b hb => by have := h4 b hb; simp only at this; omega)⟩
  have e := (setRws_in A lr [⟨B.rw k, B.inn k⟩] 0 _ rfl).1
  rw [Nat.add_zero] at e
  rw [huv B (A.setRws lr [⟨B.rw k, B.inn k⟩]) e.symm (by rw [e]; exact h1.len)]⟩
theorem view_all (h : Hdr) (n sz : Nat) (hn : h.len = n) : h.view 0 n sz = h := by
  obtain ⟨a, l, c⟩ := h
  simp only at hn
  subst hn
  simp only [Hdr.view, Hdr.mk.injEq, true_and, Nat.zero_mul, Nat.sub_zero, and_true]
  split
  · rfl
  · cases a <;> simp [add_zero']
/-- A nil slice where a row is told as all of itself. -/
theorem view_nil (sz : Nat) : (⟨none, 0, 0⟩ : Hdr).view 0 0 sz = ⟨none, 0, 0⟩ := view_all _ _ _ rfl

theorem idxP_cases {α : Type} (p : α → Bool) (d : α) : ∀ l : List α, (idxP p l = -1 ∧ ∀ x ∈ l, p x = false) ∨ ∃ n : Nat, idxP p l = (n : Int) ∧ n < l.length ∧ p (l.getD n d) = true ∧ ∀ x ∈ l.take n, p x = false
  | [] => .inl ⟨rfl, by simp⟩
  | x :: l => by
    by_cases hx : p x = true
    · exact .inr ⟨0, by simp [idxP, hx], by simp, by simpa using hx, by simp⟩
    · have hx : p x = false := by simpa using hx
      rcases idxP_cases p d l with ⟨h1, h2⟩ | ⟨n, h1, h2, h3, h4⟩
      · exact .inl ⟨by simp [idxP, hx, h1], fun y hy => by
          rcases List.mem_cons.1 hy with rfl | hy
          · exact hx
          · exact h2 y hy⟩
      · refine .inr ⟨n + 1, ?_, by simp; omega, by simpa using h3, fun y hy => ?_⟩
        · simp only [idxP, hx, h1]
          simp
          omega
        · rw [List.take_succ_cons] at hy
          rcases List.mem_cons.1 hy with rfl | hy
          · exact hx
          · exact h4 y hy
theorem del_first {α : Type} {p : α → Bool} {l : List α} {n : Nat} {d : α} (hn : n < l.length) (h : p (l.getD n d) = true) (h0 : ∀ x ∈ l.take n, p x = false) : (l.take (n + 1)).filter (fun x => !p x) = l.take n := by
  rw [List.take_add_one, List.filter_append, List.getElem?_eq_getElem hn]
  rw [List.getD_eq_getElem?_getD, List.getElem?_eq_getElem hn] at h
  have h : p l[n] = true := h
  rw [List.filter_eq_self.2 fun x hx => by rw [h0 x hx]; rfl]
  simp [h]
theorem del_step {α : Type} {p : α → Bool} {l : List α} {n : Nat} {d : α} (hn : n < l.length) : (l.take (n + 1)).filter (fun x => !p x) = (l.take n).filter (fun x => !p x) ++ (if p (l.getD n d) = true then [] else [l.getD n d]) := by
  rw [List.take_add_one, List.filter_append, List.getD_eq_getElem?_getD, List.getElem?_eq_getElem hn]
  simp only [Option.toList_some, Option.getD_some, List.filter_cons, List.filter_nil]
  cases p l[n] <;> simp
theorem take_set {α : Type} {l : List α} {i : Nat} {x : α} (h : i < l.length) : (l.set i x).take (i + 1) = l.take i ++ [x] := by
  rw [List.take_add_one, List.take_set_of_le (Nat.le_refl _), List.getElem?_set_self h]; rfl

end Go.Proofs.YtmbfflckgmdncaaDoor.Fw

/- Arguments that came in, as rows. -/
namespace Go.Proofs.YtmbfflckgmdncaaDoor.Fw
open Go Go.RowKit Go.ChangeShapes Go.WideShapes
set_option linter.unusedVariables false
set_option linter.unusedSimpArgs false

/-- A type of the program lies as a code says. -/
inductive Shp (P : Program) : TypeId → TyC → Prop
  | int {t k} : P.underlying t = some (.int k) → Shp P t (.int k)
  | bool {t} : P.underlying t = some .bool → Shp P t .bool
  | str {t} : P.underlying t = some .string → Shp P t .str
  | pair {t f0 f1 x y} : P.underlying t = some (.struct #[f0, f1]) → f0.offset = 0 → f1.offset = x.sz → P.cellsOf f0.type = x.sz → P.cellsOf f1.type = y.sz → P.cellsOf t = x.sz + y.sz → Shp P f0.type x → Shp P f1.type y → Shp P t (.pair x y)
  | trip {t f0 f1 f2 x y z} : P.underlying t = some (.struct #[f0, f1, f2]) → f0.offset = 0 → f1.offset = x.sz → f2.offset = x.sz + y.sz → P.cellsOf f0.type = x.sz → P.cellsOf f1.type = y.sz → P.cellsOf f2.type = z.sz → P.cellsOf t = x.sz + (y.sz + z.sz) → Shp P f0.type x → Shp P f1.type y → Shp P f2.type z → Shp P t (.pair x (.pair y z))

section
variable {H : Type} {enc : TypeId × Value → H} {P : Program} {w : World} {base : Nat} {spare : Nat → Bool} {held : Bool}

theorem trod_enc {t : TypeId} {c : TyC} (h : Shp P t c) : ∀ {fuel : Nat} {cs : List Value} {x : DataW H × List MemPlace}, DataW.trod enc P w base spare held fuel t cs = some x → ∃ y : c.α, cs = dens A0 (c.enc y) := by
  induction h with
  | int ht =>
    intro fuel cs x h
    obtain ⟨n, rfl, _⟩ := DataW.trod_int ht h
    exact ⟨n, by simp [TyC.enc, dens, AVal.den]⟩
  | bool ht =>
    intro fuel cs x h
    obtain ⟨n, rfl, _⟩ := DataW.trod_bool ht h
    exact ⟨n, by simp [TyC.enc, dens, AVal.den]⟩
  | str ht =>
    intro fuel cs x h
    obtain ⟨n, rfl, _⟩ := DataW.trod_string ht h
    exact ⟨n, by simp [TyC.enc, dens, AVal.den]⟩
  | @pair t f0 f1 a b ht o0 o1 c0 c1 ct h0 h1 ih0 ih1 =>
    intro fuel cs x h
    obtain ⟨ys, n, _, _, hl, hn, he⟩ := DataW.trod_struct ht h
    have hn2 : ys.length = 2 := hn
    obtain ⟨u, hu⟩ := ih0 ((he 0 f0 rfl).trans (List.getElem?_eq_getElem (by omega)))
    obtain ⟨v, hv⟩ := ih1 ((he 1 f1 rfl).trans (List.getElem?_eq_getElem (by omega)))
    refine ⟨(u, v), ?_⟩
    rw [o0, c0, List.drop_zero] at hu
    rw [o1, c1, List.take_of_length_le (by rw [List.length_drop, hl, ct]; omega)] at hv
    rw [← List.take_append_drop a.sz cs, hu, hv]
    simp [TyC.enc, dens_eq]
  | @trip t f0 f1 f2 a b c ht o0 o1 o2 c0 c1 c2 ct h0 h1 h2 ih0 ih1 ih2 =>
    intro fuel cs x h
    obtain ⟨ys, n, _, _, hl, hn, he⟩ := DataW.trod_struct ht h
    have hn2 : ys.length = 3 := hn
    obtain ⟨u, hu⟩ := ih0 ((he 0 f0 rfl).trans (List.getElem?_eq_getElem (by omega)))
    obtain ⟨v, hv⟩ := ih1 ((he 1 f1 rfl).trans (List.getElem?_eq_getElem (by omega)))
    obtain ⟨z, hz⟩ := ih2 ((he 2 f2 rfl).trans (List.getElem?_eq_getElem (by omega)))
    refine ⟨(u, v, z), ?_⟩
    rw [o0, c0, List.drop_zero] at hu
    rw [o1, c1] at hv
    rw [o2, c2, List.take_of_length_le (by rw [List.length_drop, hl, ct]; omega), ← List.drop_drop] at hz
    rw [← List.take_append_drop a.sz cs, hu, ← List.take_append_drop b.sz (cs.drop a.sz), hv, hz]
    simp [TyC.enc, dens_eq]

/-- Texts are not longer than Go's can be. -/
def SzOk : (c : TyC) → c.α → Prop
  | .str, s => ByteArray.size s ≤ maxLen
  | .pair a b, p => SzOk a p.1 ∧ SzOk b p.2
  | _, _ => True
theorem trod_encS {t : TypeId} {c : TyC} (h : Shp P t c) : ∀ {fuel : Nat} {cs : List Value} {x : DataW H × List MemPlace}, DataW.trod enc P w base spare held fuel t cs = some x → ∃ y : c.α, cs = dens A0 (c.enc y) ∧ SzOk c y := by
  induction h with
  | int ht =>
    intro fuel cs x h
    obtain ⟨n, rfl, _⟩ := DataW.trod_int ht h
    exact ⟨n, by simp [TyC.enc, dens, AVal.den], trivial⟩
  | bool ht =>
    intro fuel cs x h
    obtain ⟨n, rfl, _⟩ := DataW.trod_bool ht h
    exact ⟨n, by simp [TyC.enc, dens, AVal.den], trivial⟩
  | str ht =>
    intro fuel cs x h
    obtain ⟨n, rfl, _, hs⟩ := DataW.trod_string ht h
    exact ⟨n, by simp [TyC.enc, dens, AVal.den], hs⟩
  | @pair t f0 f1 a b ht o0 o1 c0 c1 ct h0 h1 ih0 ih1 =>
    intro fuel cs x h
    obtain ⟨ys, n, _, _, hl, hn, he⟩ := DataW.trod_struct ht h
    have hn2 : ys.length = 2 := hn
    obtain ⟨u, hu, su⟩ := ih0 ((he 0 f0 rfl).trans (List.getElem?_eq_getElem (by omega)))
    obtain ⟨v, hv, sv⟩ := ih1 ((he 1 f1 rfl).trans (List.getElem?_eq_getElem (by omega)))
    refine ⟨(u, v), ?_, su, sv⟩
    rw [o0, c0, List.drop_zero] at hu
    rw [o1, c1, List.take_of_length_le (by rw [List.length_drop, hl, ct]; omega)] at hv
    rw [← List.take_append_drop a.sz cs, hu, hv]
    simp [TyC.enc, dens_eq]
  | @trip t f0 f1 f2 a b c ht o0 o1 o2 c0 c1 c2 ct h0 h1 h2 ih0 ih1 ih2 =>
    intro fuel cs x h
    obtain ⟨ys, n, _, _, hl, hn, he⟩ := DataW.trod_struct ht h
    have hn2 : ys.length = 3 := hn
    obtain ⟨u, hu, su⟩ := ih0 ((he 0 f0 rfl).trans (List.getElem?_eq_getElem (by omega)))
    obtain ⟨v, hv, sv⟩ := ih1 ((he 1 f1 rfl).trans (List.getElem?_eq_getElem (by omega)))
    obtain ⟨z, hz, sz⟩ := ih2 ((he 2 f2 rfl).trans (List.getElem?_eq_getElem (by omega)))
    refine ⟨(u, v, z), ?_, su, sv, sz⟩
    rw [o0, c0, List.drop_zero] at hu
    rw [o1, c1] at hv
    rw [o2, c2, List.take_of_length_le (by rw [List.length_drop, hl, ct]; omega), ← List.drop_drop] at hz
    rw [← List.take_append_drop a.sz cs, hu, ← List.take_append_drop b.sz (cs.drop a.sz), hv, hz]
    simp [TyC.enc, dens_eq]

/-- A slice that came in reads as a row. -/
theorem open_slice {t e : TypeId} {c : TyC} {fuel : Nat} {cs : List Value} {x : DataW H × List MemPlace} (ht : P.underlying t = some (.slice e)) (hc : P.cellsOf e = c.sz) (hs : Shp P e c)
    (h : DataW.trod enc P w base spare held fuel t cs = some x) : ∃ (hd : Hdr) (xs : List c.α), cs = [hd.val] ∧ RowAt w hd ⟨c, e, false, xs⟩ := by
  rcases DataW.trod_slice ht h with ⟨rfl, _⟩ | ⟨a, len, cap, elems, rest, n, _, rfl, rfl, hb, hl, hm, hlen, hel, hsp, hns⟩
  · exact ⟨⟨none, 0, 0⟩, [], rfl, rfl, Nat.le_refl _, Nat.zero_le _, fun i x hi => by simp at hi⟩
  · have each : ∀ i, ∃ y : c.α, i < len → ∀ j v, (c.enc y)[j]? = some v → w.cell? (a.add (i * c.sz + j)) = some (v.den A0) := fun i => by
      by_cases hi : i < len
      · have h1 := hel i hi
        rw [List.getElem?_eq_getElem (by omega), Option.bind_eq_some_iff] at h1
        obtain ⟨cs', hcs, hy⟩ := h1
        obtain ⟨y, rfl⟩ := trod_enc hs hy
        refine ⟨y, fun _ j v hj => ?_⟩
        obtain ⟨_, _, hcell⟩ := World.cells?_some hcs
        have hjl : j < c.sz := by rw [← c.enc_len y]; exact (List.getElem?_eq_some_iff.1 hj).1
        have := hcell j (by rw [hc]; exact hjl)
        rw [hc, add_add] at this
        rw [this, dens_eq, List.getElem?_map, hj]; rfl
      · exact ⟨c.dflt, fun h => absurd h hi⟩
    have hch : ∃ f : Nat → c.α, ∀ i, i < len → ∀ j v, (c.enc (f i))[j]? = some v → w.cell? (a.add (i * c.sz + j)) = some (v.den A0) := ⟨fun i => (each i).choose, fun i => (each i).choose_spec⟩
    obtain ⟨f, hf⟩ := hch
    refine ⟨⟨some a, len, cap⟩, (List.range len).map f, rfl, by simp, hl, hm, fun i y hi => ⟨a, rfl, fun j v hj => ?_⟩⟩
    simp only [List.getElem?_map] at hi
    have hi' : i < len := by
      rcases Nat.lt_or_ge i len with h' | h'
      · exact h'
      · rw [List.getElem?_eq_none (by simpa using h')] at hi; cases hi
    rw [List.getElem?_range hi'] at hi
    cases hi
    exact hf i hi' j v hj

end
end Go.Proofs.YtmbfflckgmdncaaDoor.Fw
