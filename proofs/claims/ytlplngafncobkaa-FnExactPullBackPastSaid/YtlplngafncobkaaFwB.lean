/- What memory tells of a symbolic state: boxes (variables of the walk's own), rows (slices), and what is kept of the world at the start. -/
import Derived.Test.YtlplngafncobkaaFwA
namespace Go.Proofs.Ytlplngafncobkaa.Fw
open Go Go.RowKit
set_option linter.unusedVariables false
set_option linter.unusedSimpArgs false

/-- What a walk starts from: the program, the world at the start, the blocks that are to stay, and the first n0 rows' slices. -/
structure Env where
  P : Program
  w0 : World
  K : Nat → Prop
  r0 : Nat → Hdr
  n0 : Nat
  b0 : Nat

structure Mem (E : Env) (A : Asg) (hp : Nat → Option (List AVal)) (rw : Nat → Option Row) (w : World) : Prop where
  kept : Kept E.K E.w0 w
  box : ∀ i cs, hp i = some cs → BoxAt A w (A.bx i) cs ∧ (i < E.b0 → E.K (A.bx i)) ∧ (E.b0 ≤ i → ¬ E.K (A.bx i))
  row : ∀ k r, rw k = some r → RowsAt w (A.rw k) (A.inn k) r ∧ (r.own = true → RowsOwn w (A.rw k) (A.inn k) r ∧ ∀ b, Feet r (A.rw k) (A.inn k) b → ¬ E.K b)
  bb : ∀ i j ci cj, E.b0 ≤ i → hp i = some ci → hp j = some cj → i ≠ j → A.bx i ≠ A.bx j
  br : ∀ i ci k r b, E.b0 ≤ i → hp i = some ci → rw k = some r → Feet r (A.rw k) (A.inn k) b → A.bx i ≠ b
  rr : ∀ k k' r r' b, rw k = some r → rw k' = some r' → k ≠ k' → r.own = true → Feet r (A.rw k) (A.inn k) b → ¬ Feet r' (A.rw k') (A.inn k') b
  args : ∀ k, k < E.n0 → A.rw k = E.r0 k

section
variable {E : Env} {A : Asg} {hp : Nat → Option (List AVal)} {rw_ : Nat → Option Row} {w w' : World}

theorem Mem.box_lt (h : Mem E A hp rw_ w) {i : Nat} {cs : List AVal} (hi : hp i = some cs) : A.bx i < w.heap.size := by
  obtain ⟨⟨t, ht⟩, _⟩ := h.box i cs hi
  exact lt_of_heap ht

theorem Mem.foot_lt (h : Mem E A hp rw_ w) {k : Nat} {r : Row} (hk : rw_ k = some r) {b : Nat} (hb : Feet r (A.rw k) (A.inn k) b) : b < w.heap.size := by
  obtain ⟨hr, ho⟩ := h.row k r hk
  cases hown : r.own with
  | true => exact RowsOwn.foot_lt (ho hown).1 hb
  | false => exact hr.foot_lt hown hb

/-- What is told stays, if the blocks that it needs stay. -/
theorem Mem.keep (h : Mem E A hp rw_ w) (hkept : Kept E.K w w') (hb : ∀ i cs, hp i = some cs → w'.heap[A.bx i]? = w.heap[A.bx i]?)
    (hr : ∀ k r b, rw_ k = some r → Feet r (A.rw k) (A.inn k) b → w'.heap[b]? = w.heap[b]?) : Mem E A hp rw_ w' where
  kept := h.kept.trans hkept
  box i cs hi := by
    obtain ⟨⟨t, ht⟩, hn⟩ := h.box i cs hi
    exact ⟨⟨t, by rw [hb i cs hi]; exact ht⟩, hn⟩
  row k r hk := by
    obtain ⟨h1, ho⟩ := h.row k r hk
    refine ⟨h1.keep fun b hb => hr k r b hk hb, fun hown => ?_⟩
    obtain ⟨h2, h3⟩ := ho hown
    exact ⟨h2.keep hown fun b hb => hr k r b hk hb, h3⟩
  bb := h.bb
  br := h.br
  rr := h.rr
  args := h.args

/-- New blocks, draws: all that was stays. -/
theorem Mem.grow (h : Mem E A hp rw_ w) (hB : Below w.heap.size w w') (hK : ∀ b, E.K b → b < w.heap.size) : Mem E A hp rw_ w' :=
  h.keep (Kept.of_below hB hK) (fun i cs hi => hB.block _ (h.box_lt hi)) fun k r b hk hb => hB.block b (h.foot_lt hk hb)

/-- Fewer facts. -/
theorem Mem.sub (h : Mem E A hp rw_ w) {hp' : Nat → Option (List AVal)} {rw' : Nat → Option Row} (hb : ∀ i c, hp' i = some c → hp i = some c) (hr : ∀ k r, rw' k = some r → rw_ k = some r) : Mem E A hp' rw' w where
  kept := h.kept
  box i cs hi := h.box i cs (hb _ _ hi)
  row k r hk := h.row k r (hr _ _ hk)
  bb i j ci cj h0 hi hj := h.bb i j ci cj h0 (hb _ _ hi) (hb _ _ hj)
  br i ci k r b h0 hi hk := h.br i ci k r b h0 (hb _ _ hi) (hr _ _ hk)
  rr k k' r r' b hk hk' := h.rr k k' r r' b (hr _ _ hk) (hr _ _ hk')
  args := h.args

def upd {α : Type} (f : Nat → α) (n : Nat) (x : α) : Nat → α := fun i => if i = n then x else f i
theorem upd_same {α : Type} (f : Nat → α) (n : Nat) (x : α) : upd f n x n = x := by simp [upd]
theorem upd_ne {α : Type} (f : Nat → α) (n : Nat) (x : α) {i : Nat} (h : i ≠ n) : upd f n x i = f i := by simp [upd, h]

def Asg.setBx (A : Asg) (l b : Nat) : Asg := { A with bx := upd A.bx l b }
def Asg.setRw (A : Asg) (l : Nat) (h : Hdr) (ih : Nat → Hdr) : Asg := { A with rw := upd A.rw l h, inn := upd A.inn l ih }

/-- A new box at a free level. -/
theorem Mem.addBox (h : Mem E A hp rw_ w) (l : Nat) (cs : List AVal) (t : TypeId) (hl0 : E.b0 ≤ l) (hl : hp l = none) (hsc : ∀ i c, hp i = some c → dens (A.setBx l w.heap.size) c = dens A c)
    (hcs : dens (A.setBx l w.heap.size) cs = dens A cs) (hK : ∀ b, E.K b → b < w.heap.size)
    (hw : w' = { w with heap := w.heap.push (.cells (dens A cs).toArray t) }) : Mem E (A.setBx l w.heap.size) (upd hp l (some cs)) rw_ w' := by
  have hB : Below w.heap.size w w' := by
    subst hw
    exact ⟨rfl, rfl, rfl, by simp, fun k hk => by show (w.heap.push _)[k]? = _; rw [Array.getElem?_push, if_neg (by omega)]⟩
  have hg := h.grow hB hK
  have hne : ∀ i c, hp i = some c → i ≠ l := fun i c hi e => by rw [e, hl] at hi; cases hi
  have hbx : ∀ i c, hp i = some c → (A.setBx l w.heap.size).bx i = A.bx i := fun i c hi => upd_ne _ _ _ (hne i c hi)
  have cases' : ∀ i c, upd hp l (some cs) i = some c → (i = l ∧ c = cs) ∨ (i ≠ l ∧ hp i = some c) := fun i c hi => by
    by_cases e : i = l
    · subst e; rw [upd_same] at hi; exact .inl ⟨rfl, (Option.some.inj hi).symm⟩
    · rw [upd_ne _ _ _ e] at hi; exact .inr ⟨e, hi⟩
  refine ⟨hg.kept, fun i c hi => ?_, hg.row, fun i j ci cj h0 hi hj hij => ?_, fun i ci k r b h0 hi hk hf => ?_, hg.rr, hg.args⟩
  · rcases cases' i c hi with ⟨rfl, rfl⟩ | ⟨_, hi'⟩
    · have hbl : (A.setBx i w.heap.size).bx i = w.heap.size := upd_same _ _ _
      rw [hbl]
      refine ⟨⟨t, ?_⟩, fun hk => absurd hl0 (by omega), fun _ hk => by have := hK _ hk; omega⟩
      rw [hcs]; subst hw; simp
    · rw [hbx i c hi']
      obtain ⟨⟨t', ht⟩, hn⟩ := hg.box i c hi'
      exact ⟨⟨t', by rw [hsc i c hi']; exact ht⟩, hn⟩
  · rcases cases' i ci hi with ⟨rfl, rfl⟩ | ⟨hi0, hi'⟩ <;> rcases cases' j cj hj with ⟨rfl, rfl⟩ | ⟨hj0, hj'⟩
    · exact absurd rfl hij
    · rw [hbx j cj hj']
      have hbl : (A.setBx i w.heap.size).bx i = w.heap.size := upd_same _ _ _
      rw [hbl]
      have := h.box_lt hj'
      omega
    · rw [hbx i ci hi']
      have hbl : (A.setBx j w.heap.size).bx j = w.heap.size := upd_same _ _ _
      rw [hbl]
      have := h.box_lt hi'
      omega
    · rw [hbx i ci hi', hbx j cj hj']
      exact h.bb i j ci cj h0 hi' hj' hij
  · rcases cases' i ci hi with ⟨rfl, rfl⟩ | ⟨hi0, hi'⟩
    · have hbl : (A.setBx i w.heap.size).bx i = w.heap.size := upd_same _ _ _
      rw [hbl]
      have := h.foot_lt hk hf
      omega
    · rw [hbx i ci hi']
      exact h.br i ci k r b h0 hi' hk hf

/-- A new row at a free level: blocks that nobody else needs (own), or read only. -/
theorem Mem.addRow (h : Mem E A hp rw_ w) (l : Nat) (hd : Hdr) (ih : Nat → Hdr) (r : Row) (hl : rw_ l = none) (hn0 : E.n0 ≤ l) (hsc : ∀ i c, hp i = some c → dens (A.setRw l hd ih) c = dens A c)
    (hr : RowsAt w hd ih r) (ho : r.own = true → RowsOwn w hd ih r ∧ ∀ b, Feet r hd ih b → ¬ E.K b)
    (hbr : ∀ i ci b, E.b0 ≤ i → hp i = some ci → Feet r hd ih b → A.bx i ≠ b)
    (hrr : ∀ k' r' b, rw_ k' = some r' → (r.own = true ∨ r'.own = true) → Feet r hd ih b → ¬ Feet r' (A.rw k') (A.inn k') b) :
    Mem E (A.setRw l hd ih) hp (upd rw_ l (some r)) w := by
  have hne : ∀ i c, rw_ i = some c → i ≠ l := fun i c hi e => by rw [e, hl] at hi; cases hi
  have hrw : ∀ i c, rw_ i = some c → (A.setRw l hd ih).rw i = A.rw i := fun i c hi => upd_ne _ _ _ (hne i c hi)
  have hin : ∀ i c, rw_ i = some c → (A.setRw l hd ih).inn i = A.inn i := fun i c hi => upd_ne _ _ _ (hne i c hi)
  have cases' : ∀ i c, upd rw_ l (some r) i = some c → (i = l ∧ c = r) ∨ (i ≠ l ∧ rw_ i = some c) := fun i c hi => by
    by_cases e : i = l
    · subst e; rw [upd_same] at hi; exact .inl ⟨rfl, (Option.some.inj hi).symm⟩
    · rw [upd_ne _ _ _ e] at hi; exact .inr ⟨e, hi⟩
  have hll : (A.setRw l hd ih).rw l = hd := upd_same _ _ _
  have hil : (A.setRw l hd ih).inn l = ih := upd_same _ _ _
  refine ⟨h.kept, fun i c hi => ?_, fun k c hk => ?_, h.bb, fun i ci k c b h0 hi hk hf => ?_, fun k k' c c' b hk hk' hkk hown hf hf' => ?_, fun k hk => ?_⟩
  · obtain ⟨⟨t', ht⟩, hn⟩ := h.box i c hi
    exact ⟨⟨t', by rw [hsc i c hi]; exact ht⟩, hn⟩
  · rcases cases' k c hk with ⟨rfl, rfl⟩ | ⟨_, hk'⟩
    · rw [hll, hil]; exact ⟨hr, ho⟩
    · rw [hrw k c hk', hin k c hk']; exact h.row k c hk'
  · rcases cases' k c hk with ⟨rfl, rfl⟩ | ⟨_, hk'⟩
    · rw [hll, hil] at hf; exact hbr i ci b h0 hi hf
    · rw [hrw k c hk', hin k c hk'] at hf; exact h.br i ci k c b h0 hi hk' hf
  · rcases cases' k c hk with ⟨rfl, rfl⟩ | ⟨hk0, hkk'⟩ <;> rcases cases' k' c' hk' with ⟨rfl, rfl⟩ | ⟨hk0', hkk''⟩
    · exact hkk rfl
    · rw [hll, hil] at hf; rw [hrw k' c' hkk'', hin k' c' hkk''] at hf'
      exact hrr k' c' b hkk'' (.inl hown) hf hf'
    · rw [hll, hil] at hf'; rw [hrw k c hkk', hin k c hkk'] at hf
      exact hrr k c b hkk' (.inr hown) hf' hf
    · rw [hrw k c hkk', hin k c hkk'] at hf; rw [hrw k' c' hkk'', hin k' c' hkk''] at hf'
      exact h.rr k k' c c' b hkk' hkk'' hkk hown hf hf'
  · have : k ≠ l := by omega
    show upd A.rw l hd k = _
    rw [upd_ne _ _ _ this]
    exact h.args k hk

end

/-- The symbolic state of a walk. -/
structure St where
  fr : List AVal
  hp : List (Option (List AVal))
  rows : List (Option Row)

structure Sat (E : Env) (A : Asg) (σ : St) (a : Act) (w : World) : Prop where
  defers : a.defers = []
  size : a.tmps.size = σ.fr.length
  fr : ∀ (t : Nat) (x : AVal), σ.fr[t]? = some x → x = .junk ∨ a.tmps.getD t undef = x.den A
  sc : ∀ (t : Nat) (x : AVal), σ.fr[t]? = some x → x.sc σ.hp.length [] σ.rows.length [] = true
  hsc : ∀ i cs, nthj σ.hp i = some cs → scs σ.hp.length [] σ.rows.length [] cs = true
  mem : Mem E A (nthj σ.hp) (nthj σ.rows) w
  klt : ∀ b, E.K b → b < w.heap.size
  n0 : E.n0 ≤ σ.rows.length
  b0 : E.b0 ≤ σ.hp.length

theorem nthj_none {α : Type _} {l : List (Option α)} {n : Nat} (h : l.length ≤ n) : nthj l n = none := by
  rw [nthj_eq, List.getElem?_eq_none h]; rfl

theorem nthj_snoc {α : Type _} (l : List (Option α)) (x : Option α) : ∀ n, nthj (l ++ [x]) n = if n = l.length then x else nthj l n := by
  intro n
  rw [nthj_eq, nthj_eq]
  by_cases h : n = l.length
  · subst h; simp
  · rw [if_neg h, List.getElem?_append]
    split
    · rfl
    · rw [List.getElem?_eq_none (by simp; omega), List.getElem?_eq_none (by omega)]

/-- Operands. -/
def ev (fr : List AVal) : Operand → Option AVal
  | .tmp t => match nth fr t with | some .junk => none | x => x
  | .const v => match v with
    | .int k n => some (.int k n)
    | .bool b => some (.bool b)
    | .string s => some (.str s)
    | v => some (.raw v)
  | .func f => some (.fn f [] [])
  | .global _ => none

theorem ev_sound {E : Env} {A : Asg} {σ : St} {a : Act} {w : World} (h : Sat E A σ a w) {x : Operand} {v : AVal} (hv : ev σ.fr x = some v) : a.eval x = v.den A := by
  cases x with
  | tmp t =>
    simp only [ev, nth_eq] at hv
    split at hv
    · cases hv
    · rename_i x hx
      rcases h.fr t v hv with rfl | h'
      · exact absurd hv (by simpa using hx)
      · exact h'
  | const v' => cases v' <;> simp [ev] at hv <;> subst hv <;> simp [Act.eval, AVal.den]
  | global g => simp [ev] at hv
  | func f => simp [ev] at hv; subst hv; simp [Act.eval, AVal.den, dens]

theorem ev_sc {E : Env} {A : Asg} {σ : St} {a : Act} {w : World} (h : Sat E A σ a w) {x : Operand} {v : AVal} (hv : ev σ.fr x = some v) : v.sc σ.hp.length [] σ.rows.length [] = true := by
  cases x with
  | tmp t =>
    simp only [ev, nth_eq] at hv
    split at hv
    · cases hv
    · exact h.sc t v hv
  | const v' => cases v' <;> simp [ev] at hv <;> subst hv <;> simp [AVal.sc]
  | global g => simp [ev] at hv
  | func f => simp [ev] at hv; subst hv; simp [AVal.sc, scs]

end Go.Proofs.Ytlplngafncobkaa.Fw
