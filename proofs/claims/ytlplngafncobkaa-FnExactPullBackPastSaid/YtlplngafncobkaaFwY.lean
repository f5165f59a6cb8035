/- Rows and boxes as arguments of functions under contracts. -/
import Derived.Test.YtlplngafncobkaaFwX
namespace Go.Proofs.Ytlplngafncobkaa.Fw
open Go Go.RowKit
set_option linter.unusedVariables false
set_option linter.unusedSimpArgs false

def nthN : List Nat → Nat → Nat
  | [], _ => 0
  | x :: _, 0 => x
  | _ :: l, n + 1 => nthN l n
/-- The levels of a caller as a callee's. -/
def Asg.pick (A : Asg) (bs rs : List Nat) : Asg := ⟨fun i => A.bx (nthN bs i), fun i => A.rw (nthN rs i), fun i => A.inn (nthN rs i)⟩

/-- A row of a type. -/
def rowC (c : TyC) (o : Option Row) (k : List c.α → Prop) : Prop :=
  match o with
  | some ⟨c', e, own, xs⟩ => (match h : TyC.same c' c with | true => castK (TyC.same_eq h) xs k | false => False)
  | none => False
theorem rowC_inv {c : TyC} {o : Option Row} {k : List c.α → Prop} (h : rowC c o k) : ∃ e own xs, o = some ⟨c, e, own, xs⟩ ∧ k xs := by
  unfold rowC at h
  split at h
  · rename_i c' e own xs
    split at h
    · rename_i hs
      have := TyC.same_eq hs
      subst this
      exact ⟨e, own, xs, rfl, h⟩
    · exact h.elim
  · exact h.elim

/-- A box with a function. -/
def boxF (o : Option (List AVal)) (f : FuncId) (X : Prop) : Prop :=
  match o with
  | some [.fn g [] []] => (match Nat.beq g f with | true => X | false => False)
  | _ => False
theorem boxF_inv {o : Option (List AVal)} {f : FuncId} {X : Prop} (h : boxF o f X) : o = some [.fn f [] []] ∧ X := by
  unfold boxF at h
  split at h
  · split at h
    · rename_i hb
      rw [Nat.eq_of_beq_eq_true hb]
      exact ⟨rfl, h⟩
    · exact h.elim
  · exact h.elim

def isF (g f : FuncId) (X : Prop) : Prop := match Nat.beq g f with | true => X | false => False
theorem isF_inv {g f : FuncId} {X : Prop} (h : isF g f X) : g = f ∧ X := by
  unfold isF at h
  split at h
  · rename_i hb
    exact ⟨Nat.eq_of_beq_eq_true hb, h⟩
  · exact h.elim

theorem no_box {A : Asg} {w : World} : ∀ i cs, nthj ([] : List (Option (List AVal))) i = some cs → BoxAt A w (A.bx i) cs ∧ A.bx i < w.heap.size := fun i cs h => by cases h
theorem one_box {A : Asg} {w : World} {cs0 : List AVal} (h : BoxAt A w (A.bx 0) cs0) : ∀ i cs, nthj [some cs0] i = some cs → BoxAt A w (A.bx i) cs ∧ A.bx i < w.heap.size := fun i cs hi => by
  cases i with
  | zero => cases hi; exact ⟨h, by obtain ⟨t, ht⟩ := h; exact lt_of_heap ht⟩
  | succ i => simp [nthj] at hi
theorem two_boxes {A : Asg} {w : World} {c0 c1 : List AVal} (h : BoxAt A w (A.bx 0) c0) (h' : BoxAt A w (A.bx 1) c1) : ∀ i cs, nthj [some c0, some c1] i = some cs → BoxAt A w (A.bx i) cs ∧ A.bx i < w.heap.size := fun i cs hi => by
  match i, hi with
  | 0, hi => cases hi; exact ⟨h, by obtain ⟨t, ht⟩ := h; exact lt_of_heap ht⟩
  | 1, hi => cases hi; exact ⟨h', by obtain ⟨t, ht⟩ := h'; exact lt_of_heap ht⟩
  | i + 2, hi => simp [nthj] at hi
/-- A box with a row. -/
def boxR (o : Option (List AVal)) (X : Nat → Prop) : Prop := match o with | some [.row r] => X r | _ => False
theorem boxR_inv {o : Option (List AVal)} {X : Nat → Prop} (h : boxR o X) : ∃ r, o = some [.row r] ∧ X r := by
  unfold boxR at h
  split at h
  · exact ⟨_, rfl, h⟩
  · exact h.elim
/-- A box with a function that holds a box. -/
def boxFB (o : Option (List AVal)) (f : FuncId) (X : Nat → Prop) : Prop :=
  match o with
  | some [.fn g [] [.loc m 0]] => (match Nat.beq g f with | true => X m | false => False)
  | _ => False
theorem boxFB_inv {o : Option (List AVal)} {f : FuncId} {X : Nat → Prop} (h : boxFB o f X) : ∃ m, o = some [.fn f [] [.loc m 0]] ∧ X m := by
  unfold boxFB at h
  split at h
  · split at h
    · rename_i hb
      rw [Nat.eq_of_beq_eq_true hb]
      exact ⟨_, rfl, h⟩
    · exact h.elim
  · exact h.elim

/-- A row that is only read. -/
def Row.ro : Row → Row
  | ⟨c, e, _, xs⟩ => ⟨c, e, false, xs⟩
theorem RowAt.ro {w : World} {h : Hdr} {r : Row} (hr : RowAt w h r) : RowAt w h r.ro := ⟨hr.len, hr.cap, hr.max, hr.cell⟩
theorem parts_ro {h : Hdr} {ih : Nat → Hdr} {r : Row} {p : Hdr × Row} (hp : p ∈ r.ro.parts h ih) : ∃ q ∈ r.parts h ih, q.1 = p.1 ∧ q.2.ro = p.2 := by
  obtain ⟨c, e, own, xs⟩ := r
  by_cases hc : c.isL = true
  · cases c <;> simp only [TyC.isL] at hc <;> first | cases hc | skip
    simp only [Row.ro, Row.parts, List.mem_cons, List.mem_map] at hp
    rcases hp with rfl | ⟨i, hi, rfl⟩
    · exact ⟨_, List.mem_cons_self, rfl, rfl⟩
    · exact ⟨_, List.mem_cons_of_mem _ (List.mem_map.2 ⟨i, hi, rfl⟩), rfl, rfl⟩
  · simp only [Row.ro] at hp
    rw [parts_flat (by simpa using hc)] at hp ⊢
    simp only [List.mem_singleton] at hp
    subst hp
    exact ⟨_, List.mem_singleton.2 rfl, rfl, rfl⟩
theorem RowsAt.ro {w : World} {h : Hdr} {ih : Nat → Hdr} {r : Row} (hr : RowsAt w h ih r) : RowsAt w h ih r.ro := ⟨fun p hp => by
  obtain ⟨q, hq, h1, h2⟩ := parts_ro hp
  rw [← h1, ← h2]
  exact (hr.all q hq).ro⟩
theorem Feet.ro {h : Hdr} {ih : Nat → Hdr} {r : Row} {b : Nat} (hf : Feet r.ro h ih b) : Feet r h ih b := by
  obtain ⟨p, hp, h3, h4⟩ := hf
  obtain ⟨q, hq, h1, h2⟩ := parts_ro hp
  refine ⟨q, hq, ?_, h1 ▸ h4⟩
  rw [← h2] at h3
  rcases h3 with h3 | h3
  · cases h3
  · exact .inr h3

theorem no_row {A : Asg} {w : World} : ∀ k r, nthj ([] : List (Option Row)) k = some r → r.own = false ∧ RowsAt w (A.rw k) (A.inn k) r := fun i cs h => by cases h
theorem one_row {A : Asg} {w : World} {c : TyC} {e : TypeId} {own : Bool} {xs : List c.α} (h : RowsAt w (A.rw 0) (A.inn 0) ⟨c, e, own, xs⟩) : ∀ k r, nthj [some ⟨c, e, false, xs⟩] k = some r → r.own = false ∧ RowsAt w (A.rw k) (A.inn k) r := fun k r hk => by
  cases k with
  | zero => cases hk; exact ⟨rfl, h.ro⟩
  | succ i => simp [nthj] at hk
theorem two_rows {A : Asg} {w : World} {c c' : TyC} {e e' : TypeId} {own own' : Bool} {xs : List c.α} {ys : List c'.α} (h : RowsAt w (A.rw 0) (A.inn 0) ⟨c, e, own, xs⟩) (h' : RowsAt w (A.rw 1) (A.inn 1) ⟨c', e', own', ys⟩) :
    ∀ k r, nthj [some ⟨c, e, false, xs⟩, some ⟨c', e', false, ys⟩] k = some r → r.own = false ∧ RowsAt w (A.rw k) (A.inn k) r := fun k r hk => by
  match k, hk with
  | 0, hk => cases hk; exact ⟨rfl, h.ro⟩
  | 1, hk => cases hk; exact ⟨rfl, h'.ro⟩
  | i + 2, hk => simp [nthj] at hk
theorem three_rows {A : Asg} {w : World} {c c' c'' : TyC} {e e' e'' : TypeId} {own own' own'' : Bool} {xs : List c.α} {ys : List c'.α} {zs : List c''.α} (h : RowsAt w (A.rw 0) (A.inn 0) ⟨c, e, own, xs⟩) (h' : RowsAt w (A.rw 1) (A.inn 1) ⟨c', e', own', ys⟩) (h'' : RowsAt w (A.rw 2) (A.inn 2) ⟨c'', e'', own'', zs⟩) :
    ∀ k r, nthj [some ⟨c, e, false, xs⟩, some ⟨c', e', false, ys⟩, some ⟨c'', e'', false, zs⟩] k = some r → r.own = false ∧ RowsAt w (A.rw k) (A.inn k) r := fun k r hk => by
  match k, hk with
  | 0, hk => cases hk; exact ⟨rfl, h.ro⟩
  | 1, hk => cases hk; exact ⟨rfl, h'.ro⟩
  | 2, hk => cases hk; exact ⟨rfl, h''.ro⟩
  | i + 3, hk => simp [nthj] at hk

/-! ### functions that turn rows -/
/-- A callee's memory out of its caller's. -/
theorem CMem.pick {A : Asg} {hg : Nat → Option (List AVal)} {rg : Nat → Option Row} {w : World} (h : CMem A hg rg w) (bs rs : List Nat) (hp : List (Option (List AVal))) (rows : List (Option Row))
    (hb : ∀ i cs, nthj hp i = some cs → ∃ cs', hg (nthN bs i) = some cs' ∧ dens (A.pick bs rs) cs = dens A cs')
    (hr : ∀ i r, nthj rows i = some r → ∃ r', rg (nthN rs i) = some r' ∧ (r = r' ∨ r = r'.ro))
    (hi : ∀ i j r r', nthj rows i = some r → nthj rows j = some r' → i ≠ j → r.own = true → nthN rs i ≠ nthN rs j) : CMem (A.pick bs rs) (nthj hp) (nthj rows) w := by
  have own' : ∀ (r r' : Row), (r = r' ∨ r = r'.ro) → r.own = true → r = r' := fun r r' h ho => by
    rcases h with h | h
    · exact h
    · subst h; cases ho
  have feet' : ∀ (r r' : Row) h ih b, (r = r' ∨ r = r'.ro) → Feet r h ih b → Feet r' h ih b := fun r r' h ih b hh hf => by
    rcases hh with hh | hh
    · subst hh; exact hf
    · subst hh; exact Feet.ro hf
  refine ⟨fun i cs hi' => ?_, fun k r hk => ?_, fun i ci k r b hi' hk ho hf => ?_, fun k k' r r' b hk hk' hkk ho hf hf' => ?_⟩
  · obtain ⟨cs', h1, h2⟩ := hb i cs hi'
    obtain ⟨t, ht⟩ := h.box _ cs' h1
    exact ⟨t, by rw [h2]; exact ht⟩
  · obtain ⟨r', h1, h2⟩ := hr k r hk
    obtain ⟨h3, h4⟩ := h.row _ r' h1
    refine ⟨?_, fun ho => ?_⟩
    · rcases h2 with h2 | h2
      · subst h2; exact h3
      · subst h2; exact h3.ro
    · have := own' r r' h2 ho
      subst this; exact h4 ho
  · obtain ⟨cs', h1, _⟩ := hb i ci hi'
    obtain ⟨r', h3, h4⟩ := hr k r hk
    have := own' r r' h4 ho
    subst this
    exact h.br _ cs' _ r b h1 h3 ho hf
  · obtain ⟨q, h1, h2⟩ := hr k r hk
    obtain ⟨q', h1', h2'⟩ := hr k' r' hk'
    have := own' r q h2 ho
    subst this
    exact h.rr _ _ r q' b h1 h1' (hi k k' r r' hk hk' hkk ho) ho hf (feet' r' q' _ _ b h2' hf')

section
variable {P : Program} {w : World} {A : Asg} {hg : Nat → Option (List AVal)} {rg : Nat → Option Row} {n0 b0 lr i0 : Nat} {hp : List (Option (List AVal))} {rows rows0 : List (Option Row)} {u v : AVal} {bs rs : List Nat}

/-- Which one row of the caller's own a callee gets: its first. -/
structure One (rg : Nat → Option Row) (rs : List Nat) (rows0 : List (Option Row)) (i0 : Nat) (r0 : Row) : Prop where
  lvl : nthN rs 0 = i0
  row : rg i0 = some r0
  own : r0.own = true
  get : nthj rows0 0 = some r0
  only : ∀ q r, nthj rows0 q = some r → r.own = true → q = 0

theorem One.kept {r0 : Row} (ho : One rg rs rows0 i0 r0) {ups : List (Nat × Option Row)} {x : Option Row} (hu : (i0, x) ∈ ups) {w' : World} (hk : Kept (keptM (A.pick bs rs) rows0 w) w w') : Kept (fun b => b < w.heap.size ∧ ¬ touched A rg ups b) w w' :=
  ⟨hk.os, hk.tape, hk.output, hk.size, fun b ⟨h1, h2⟩ => hk.block b ⟨h1, fun ⟨k, r, h3, h4, h5⟩ => h2 (by
    have := ho.only k r h3 h4
    subst this
    rw [ho.get] at h3; cases h3
    refine ⟨i0, x, r0, hu, ho.row, ?_⟩
    have e1 : (A.pick bs rs).rw 0 = A.rw i0 := by simp [Asg.pick, ho.lvl]
    have e2 : (A.pick bs rs).inn 0 = A.inn i0 := by simp [Asg.pick, ho.lvl]
    rw [e1, e2] at h5
    exact h5)⟩⟩

/-- The row is turned in its place; the result names no level. -/
theorem leafM0 {r0 r' : Row} (ho : One rg rs rows0 i0 r0) (hn : 0 < n0) (hk : nthj rows 0 = some r') (ho' : r'.own = true) (hcl : r'.c.isL = false) (huv : u = v) (hsc : v.sc 0 [] 0 [] = true) :
    Leaf ⟨P, w, keptM (A.pick bs rs) rows0 w, (A.pick bs rs).rw, n0, b0⟩ (MPost A rg lr [(i0, some r')] [] v w) hp rows u := ⟨fun B w' hm => by
  subst huv
  refine ⟨[], ?_, ho.kept (List.mem_singleton.2 rfl) hm.kept, fun i r hi => ?_, newRows_nil⟩
  · rw [AVal.den_congr (B := A.setRws lr []) (nb := 0) (nr := 0) (eb := []) (er := []) (fun i hi => by simp at hi) (fun i hi => by simp at hi) u hsc]
  · simp only [List.mem_singleton, Prod.mk.injEq, Option.some.injEq] at hi
    obtain ⟨rfl, rfl⟩ := hi
    have hargs := hm.args 0 hn
    have e1 : (A.pick bs rs).rw 0 = A.rw i := by simp [Asg.pick, ho.lvl]
    obtain ⟨c, e, own, xs⟩ := r
    have := ((hm.row 0 _ hk).2 ho').1.flat hcl
    rw [hargs] at this
    simp only [e1] at this
    simp only at ho'
    subst ho'
    exact this⟩

/-- The row is turned in its place; the result is a beginning of it, by name. -/
theorem leafMW {r0 r' : Row} (ho : One rg rs rows0 i0 r0) (hn : 0 < n0) (hk : nthj rows 0 = some r') (ho' : r'.own = true) (hcl : r'.c.isL = false) (huv : ∀ B C : Asg, B.rw 0 = C.rw i0 → u.den B = v.den C) (hlr : i0 < lr) :
    Leaf ⟨P, w, keptM (A.pick bs rs) rows0 w, (A.pick bs rs).rw, n0, b0⟩ (MPost A rg lr [(i0, some r')] [] v w) hp rows u := ⟨fun B w' hm => by
  have hargs := hm.args 0 hn
  have e1 : (A.pick bs rs).rw 0 = A.rw i0 := by simp [Asg.pick, ho.lvl]
  refine ⟨[], ?_, ho.kept (List.mem_singleton.2 rfl) hm.kept, fun i r hi => ?_, newRows_nil⟩
  · rw [setRws_nil, huv B A (by rw [hargs]; exact e1)]
  · simp only [List.mem_singleton, Prod.mk.injEq, Option.some.injEq] at hi
    obtain ⟨rfl, rfl⟩ := hi
    obtain ⟨c, e, own, xs⟩ := r
    have := ((hm.row 0 _ hk).2 ho').1.flat hcl
    rw [hargs] at this
    simp only [e1] at this
    simp only at ho'
    subst ho'
    exact this⟩

theorem One.free {r0 : Row} (ho : One rg rs rows0 i0 r0) {ups : List (Nat × Option Row)} (hu : (i0, none) ∈ ups) {b : Nat} (hb : ¬ keptM (A.pick bs rs) rows0 w b) : w.heap.size ≤ b ∨ freed A rg ups b := by
  rcases Nat.lt_or_ge b w.heap.size with hlt | hge
  · refine .inr ?_
    refine Classical.byContradiction fun hnf => hb ⟨hlt, fun ⟨k, r, h3, h4, h5⟩ => hnf ?_⟩
    have := ho.only k r h3 h4
    subst this
    rw [ho.get] at h3; cases h3
    have e1 : (A.pick bs rs).rw 0 = A.rw i0 := by simp [Asg.pick, ho.lvl]
    have e2 : (A.pick bs rs).inn 0 = A.inn i0 := by simp [Asg.pick, ho.lvl]
    rw [e1, e2] at h5
    exact ⟨i0, r0, hu, ho.row, h5⟩
  · exact .inl hge

/-- The row is used up; a row is handed back. -/
theorem leafM1 {r0 r r' : Row} (ho : One rg rs rows0 i0 r0) (k : Nat) (hk : nthj rows k = some r) (hrr : r = r') (hown : r.own = true) (huv : ∀ B C : Asg, B.rw k = C.rw lr → u.den B = v.den C) :
    Leaf ⟨P, w, keptM (A.pick bs rs) rows0 w, (A.pick bs rs).rw, n0, b0⟩ (MPost A rg lr [(i0, none)] [r'] v w) hp rows u := ⟨fun B w' hm => by
  subst hrr
  obtain ⟨h1, h2⟩ := hm.row k r hk
  obtain ⟨h3, h4⟩ := h2 hown
  refine ⟨[⟨B.rw k, B.inn k⟩], ?_, ho.kept (List.mem_singleton.2 rfl) hm.kept, fun i r hi => by simp at hi, newRows_one hown h3 (fun b hb => ho.free (List.mem_singleton.2 rfl) (h4 b hb))⟩
  rw [huv B (A.setRws lr [⟨B.rw k, B.inn k⟩]) (by
    have := (setRws_in A lr [⟨B.rw k, B.inn k⟩] 0 _ rfl).1
    rw [Nat.add_zero] at this
    exact this.symm)]⟩

/-- The row is used up; a beginning of a row is handed back. -/
theorem leafMV {r0 : Row} {c : TyC} {e : TypeId} {xs ys : List c.α} (ho : One rg rs rows0 i0 r0) (k n : Nat) (hcl : c.isL = false) (hk : nthj rows k = some ⟨c, e, true, xs⟩) (hn : n ≤ xs.length) (hy : xs.take n = ys)
    (huv : ∀ B C : Asg, C.rw lr = (B.rw k).view 0 n c.sz → u.den B = v.den C) :
    Leaf ⟨P, w, keptM (A.pick bs rs) rows0 w, (A.pick bs rs).rw, n0, b0⟩ (MPost A rg lr [(i0, none)] [⟨c, e, true, ys⟩] v w) hp rows u := ⟨fun B w' hm => by
  subst hy
  obtain ⟨h1, h2⟩ := hm.row k _ hk
  obtain ⟨h3, h4⟩ := h2 rfl
  refine ⟨[⟨(B.rw k).view 0 n c.sz, fun _ => ⟨none, 0, 0⟩⟩], ?_, ho.kept (List.mem_singleton.2 rfl) hm.kept, fun i r hi => by simp at hi, newRows_one rfl ((own_take (h3.flat hcl) hn).rows hcl) (fun b hb => ?_)⟩
  · rw [huv B (A.setRws lr [⟨(B.rw k).view 0 n c.sz, fun _ => ⟨none, 0, 0⟩⟩]) (by
      have := (setRws_in A lr [(⟨(B.rw k).view 0 n c.sz, fun _ => ⟨none, 0, 0⟩⟩ : HdrN)] 0 _ rfl).1
      rw [Nat.add_zero] at this
      exact this)]
  · obtain ⟨_, h5⟩ := Feet.flat hb hcl
    exact ho.free (List.mem_singleton.2 rfl) (h4 b (Foot.feet ⟨.inl rfl, view_at.1 h5⟩ hcl))⟩

theorem ups_one {r0 : Row} {x : Option Row} (hrow : rg i0 = some r0) (hown : r0.own = true) (hx : ∀ r', x = some r' → r'.own = true ∧ r'.c.isL = false ∧ r0.c.isL = false) : UpsOk rg [(i0, x)] :=
  ⟨fun i u hi => by
    simp only [List.mem_singleton, Prod.mk.injEq] at hi
    obtain ⟨rfl, rfl⟩ := hi
    exact ⟨r0, hrow, hown, hx⟩, by simp⟩
end

/-- A row of the caller's own, of a type. -/
def rowO (c : TyC) (o : Option Row) (k : TypeId → List c.α → Prop) : Prop :=
  match o with
  | some ⟨c', e, true, xs⟩ => (match h : TyC.same c' c with | true => castK (TyC.same_eq h) xs (k e) | false => False)
  | _ => False
theorem rowO_inv {c : TyC} {o : Option Row} {k : TypeId → List c.α → Prop} (h : rowO c o k) : ∃ e xs, o = some ⟨c, e, true, xs⟩ ∧ k e xs := by
  unfold rowO at h
  split at h
  · rename_i c' e xs
    split at h
    · rename_i hs
      have := TyC.same_eq hs
      subst this
      exact ⟨e, xs, rfl, h⟩
    · exact h.elim
  · exact h.elim
theorem CMem.one {A : Asg} {hg : Nat → Option (List AVal)} {rg : Nat → Option Row} {w : World} (h : CMem A hg rg w) {i : Nat} {r0 : Row} (hi : rg i = some r0) : CMem (A.pick [] [i]) (nthj []) (nthj [some r0]) w :=
  h.pick [] [i] [] [some r0] (fun i cs h => by cases h) (fun k r hk => by
    cases k with
    | zero => cases hk; exact ⟨r0, hi, .inl rfl⟩
    | succ k => simp [nthj] at hk) (fun i j r r' hi hj hij => by
    cases i with
    | zero => cases j with
      | zero => exact absurd rfl hij
      | succ j => simp [nthj] at hj
    | succ i => simp [nthj] at hi)
theorem CMem.two {A : Asg} {hg : Nat → Option (List AVal)} {rg : Nat → Option Row} {w : World} (h : CMem A hg rg w) {i j : Nat} {r0 r1 : Row} (hi : rg i = some r0) (hj : rg j = some r1) (hij : i ≠ j) : CMem (A.pick [] [i, j]) (nthj []) (nthj [some r0, some r1.ro]) w :=
  h.pick [] [i, j] [] [some r0, some r1.ro] (fun i cs h => by cases h) (fun k r hk => by
    match k, hk with
    | 0, hk => cases hk; exact ⟨r0, hi, .inl rfl⟩
    | 1, hk => cases hk; exact ⟨r1, hj, .inr rfl⟩
    | k + 2, hk => simp [nthj] at hk) (fun a b r r' ha hb hab _ => by
    match a, b, ha, hb with
    | 0, 0, _, _ => exact absurd rfl hab
    | 0, 1, _, _ => exact hij
    | 1, 0, _, _ => exact fun e => hij e.symm
    | 1, 1, _, _ => exact absurd rfl hab
    | 0, b + 2, _, hb => simp [nthj] at hb
    | 1, b + 2, _, hb => simp [nthj] at hb
    | a + 2, _, ha, _ => simp [nthj] at ha)
theorem One.of {rg : Nat → Option Row} {i : Nat} {r0 : Row} (hi : rg i = some r0) (ho : r0.own = true) : One rg [i] [some r0] i r0 := ⟨rfl, hi, ho, rfl, fun q r hq _ => by
  cases q with
  | zero => rfl
  | succ q => simp [nthj] at hq⟩
theorem One.of2 {rg : Nat → Option Row} {i j : Nat} {r0 r1 : Row} (hi : rg i = some r0) (ho : r0.own = true) : One rg [i, j] [some r0, some r1.ro] i r0 := ⟨rfl, hi, ho, rfl, fun q r hq hr => by
  match q, hq with
  | 0, _ => rfl
  | 1, hq => cases hq; cases hr
  | q + 2, hq => simp [nthj] at hq⟩

theorem getD_set {α : Type} {l : List α} {n : Nat} {x d : α} (h : n < l.length) : (l.set n x).getD n d = x := by simp [List.getD, h]
theorem mark_len {α : Type} (f : Nat → α) (xs : List α) (n : Nat) (h : n ≤ xs.length) : ((List.range n).map f ++ xs.drop n).length = xs.length := by simp; omega
theorem mark_step {α : Type} (f : Nat → α) (xs : List α) (n : Nat) (h : n < xs.length) : ((List.range n).map f ++ xs.drop n).set n (f n) = (List.range (n + 1)).map f ++ xs.drop (n + 1) := by
  rw [List.set_append_right _ _ (by simp), List.range_succ, List.map_append, List.append_assoc]
  congr 1
  rw [List.length_map, List.length_range, Nat.sub_self, List.drop_eq_getElem_cons h]
  rfl
theorem getD_mem {α : Type} {l : List α} {i : Nat} {d : α} (h : i < l.length) : l.getD i d ∈ l := by
  rw [List.getD_eq_getElem?_getD, List.getElem?_eq_getElem h]
  exact List.getElem_mem h
/-! ### first index -/
def idxP {α : Type} (p : α → Bool) : List α → Int
  | [] => -1
  | x :: l => if p x then 0 else if idxP p l < 0 then -1 else idxP p l + 1
theorem idxP_ge {α : Type} (p : α → Bool) : ∀ l, -1 ≤ idxP p l
  | [] => by simp [idxP]
  | x :: l => by have := idxP_ge p l; unfold idxP; (repeat' split) <;> omega
theorem idxP_any {α : Type} (p : α → Bool) : ∀ l, decide (0 ≤ idxP p l) = l.any p
  | [] => by simp [idxP]
  | x :: l => by
    have ih := idxP_any p l
    have := idxP_ge p l
    unfold idxP
    rw [List.any_cons, ← ih]
    cases p x
    · simp only [Bool.false_eq_true, if_false, Bool.false_or]
      split
      · rename_i h; simp; omega
      · rename_i h; congr 1; simp only [eq_iff_iff]; omega
    · simp
theorem idxP_found {α : Type} (p : α → Bool) : ∀ (l : List α) (n : Nat) (d : α), n < l.length → (∀ j, j < n → p (l.getD j d) = false) → p (l.getD n d) = true → idxP p l = n
  | [], n, d, h, _, _ => by simp at h
  | x :: l, 0, d, h, _, h' => by simp at h'; simp [idxP, h']
  | x :: l, n + 1, d, h, h1, h2 => by
    have h0 : p x = false := by have := h1 0 (by omega); simpa using this
    have ih := idxP_found p l n d (by simpa using h) (fun j hj => by have := h1 (j + 1) (by omega); simpa using this) (by simpa using h2)
    simp only [idxP, h0, ih]
    simp
    omega
theorem idxP_none {α : Type} (p : α → Bool) : ∀ (l : List α) (d : α), (∀ j, j < l.length → p (l.getD j d) = false) → idxP p l = -1
  | [], d, h => rfl
  | x :: l, d, h => by
    have h0 : p x = false := by have := h 0 (by simp); simpa using this
    have ih := idxP_none p l d (fun j hj => by have := h (j + 1) (by simpa using hj); simpa using this)
    simp [idxP, h0, ih]

end Go.Proofs.Ytlplngafncobkaa.Fw
