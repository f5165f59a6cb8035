/- A small language of symbolic values and memory for walks: values, types of elements, rows (slices), and what memory they tell. Nothing of the program is in it. -/
import Derived.Calls
import Derived.Control
import Derived.Orders
import Derived.Below
import Derived.Laws.AppendOwn
import Derived.Laws.OwnMore
import Derived.Laws.MakeOwn
import Derived.Laws.BytesArg
import Derived.Laws.IdiomStrings
import Derived.KernelRfl
namespace Go.Proofs.Ytlplngafncobkaa.Fw
open Go Go.RowKit
set_option linter.unusedVariables false
set_option linter.unusedSimpArgs false

/-! ### lists, whnf-friendly -/
def nth {α : Type} : List α → Nat → Option α
  | [], _ => none
  | x :: _, 0 => some x
  | _ :: l, n + 1 => nth l n

def nthj {α : Type _} : List (Option α) → Nat → Option α
  | [], _ => none
  | x :: _, 0 => x
  | _ :: l, n + 1 => nthj l n

theorem nth_eq {α : Type} : ∀ (l : List α) (n : Nat), nth l n = l[n]?
  | [], _ => rfl
  | _ :: _, 0 => rfl
  | _ :: l, n + 1 => by simp [nth, nth_eq l n]

theorem nthj_eq {α : Type _} : ∀ (l : List (Option α)) (n : Nat), nthj l n = (l[n]?).join
  | [], _ => rfl
  | _ :: _, 0 => by simp [nthj]
  | _ :: l, n + 1 => by simp [nthj, nthj_eq l n]

def setK {α : Type _} : List α → Nat → α → (List α → Prop) → Prop
  | [], _, _, k => k []
  | _ :: l, 0, v, k => k (v :: l)
  | x :: l, n + 1, v, k => setK l n v (fun l' => k (x :: l'))

theorem setK_eq {α : Type _} : ∀ (l : List α) (n : Nat) (v : α) (k : List α → Prop), setK l n v k = k (l.set n v)
  | [], _, _, _ => rfl
  | _ :: _, 0, _, _ => rfl
  | x :: l, n + 1, v, k => by simp [setK, setK_eq l n v]

/-- push at the end, laid out -/
def pushK {α : Type _} : List α → α → (List α → Prop) → Prop
  | [], v, k => k [v]
  | x :: l, v, k => pushK l v (fun l' => k (x :: l'))

theorem pushK_eq {α : Type _} : ∀ (l : List α) (v : α) (k : List α → Prop), pushK l v k = k (l ++ [v])
  | [], _, _ => rfl
  | x :: l, v, k => by simp [pushK, pushK_eq l v]

/-- a term, by name -/
def EqK {α : Type _} (e : α) (k : α → Prop) : Prop := ∀ y, y = e → k y
theorem eqK_eq {α : Type _} {e : α} {k : α → Prop} (h : EqK e k) : k e := h e rfl

def lenN {α : Type _} : List α → Nat
  | [] => 0
  | _ :: l => lenN l + 1
theorem lenN_eq {α : Type _} : ∀ l : List α, lenN l = l.length
  | [] => rfl
  | _ :: l => by simp [lenN, lenN_eq l]

/-- the length, as a numeral where it is small -/
def lenK {α : Type _} (l : List α) (k : Nat → Prop) : Prop :=
  match l with
  | [] => k 0
  | [_] => k 1
  | [_, _] => k 2
  | [_, _, _] => k 3
  | [_, _, _, _] => k 4
  | [_, _, _, _, _] => k 5
  | [_, _, _, _, _, _] => k 6
  | [_, _, _, _, _, _, _] => k 7
  | [_, _, _, _, _, _, _, _] => k 8
  | [_, _, _, _, _, _, _, _, _] => k 9
  | [_, _, _, _, _, _, _, _, _, _] => k 10
  | [_, _, _, _, _, _, _, _, _, _, _] => k 11
  | [_, _, _, _, _, _, _, _, _, _, _, _] => k 12
  | [_, _, _, _, _, _, _, _, _, _, _, _, _] => k 13
  | [_, _, _, _, _, _, _, _, _, _, _, _, _, _] => k 14
  | [_, _, _, _, _, _, _, _, _, _, _, _, _, _, _] => k 15
  | [_, _, _, _, _, _, _, _, _, _, _, _, _, _, _, _] => k 16
  | l => k (lenN l)
theorem lenK_eq {α : Type _} (l : List α) (k : Nat → Prop) : lenK l k = k l.length := by
  unfold lenK
  split <;> simp [lenN_eq]

def inL : Nat → List Nat → Bool
  | _, [] => false
  | n, m :: l => match Nat.beq n m with | true => true | false => inL n l
theorem inL_eq : ∀ (n : Nat) (l : List Nat), inL n l = true ↔ n ∈ l
  | n, [] => by simp [inL]
  | n, m :: l => by
    have ih := inL_eq n l
    unfold inL
    cases h : Nat.beq n m
    · have : n ≠ m := fun e => by subst e; simp at h
      simp [ih, this]
    · have : n = m := Nat.eq_of_beq_eq_true h
      simp [this]

/-- a number, laid out -/
def numK (n : Nat) (k : Nat → Prop) : Prop :=
  match n with
  | 0 => k 0
  | 1 => k 1
  | 2 => k 2
  | 3 => k 3
  | 4 => k 4
  | 5 => k 5
  | 6 => k 6
  | 7 => k 7
  | 8 => k 8
  | 9 => k 9
  | 10 => k 10
  | 11 => k 11
  | 12 => k 12
  | 13 => k 13
  | 14 => k 14
  | 15 => k 15
  | 16 => k 16
  | 17 => k 17
  | 18 => k 18
  | 19 => k 19
  | 20 => k 20
  | 21 => k 21
  | 22 => k 22
  | 23 => k 23
  | 24 => k 24
  | 25 => k 25
  | 26 => k 26
  | 27 => k 27
  | 28 => k 28
  | 29 => k 29
  | 30 => k 30
  | 31 => k 31
  | 32 => k 32
  | n => k n
theorem numK_eq (n : Nat) (k : Nat → Prop) : numK n k = k n := by unfold numK; split <;> rfl

/-! ### values -/
inductive AVal where
  | int (k : IntKind) (n : Int)
  | bool (b : Bool)
  | str (s : ByteArray)
  | loc (i off : Nat)
  | ele (k i off sz : Nat)
  | row (k : Nat)
  | irow (k i : Nat)
  | iele (k i j off sz : Nat)
  | vw (k lo n sz : Nat)
  | bsl (i n : Nat)
  | agg (cs : List AVal)
  | tup (vs : List AVal)
  | fn (f : FuncId) (first cap : List AVal)
  | raw (v : Value)
  | junk

structure Hdr where
  a : Option Addr
  len : Nat
  cap : Nat
def Hdr.val (h : Hdr) : Value := .slice h.a h.len h.cap
/-- n elements of sz cells, from the element lo on. -/
def Hdr.view (h : Hdr) (lo n sz : Nat) : Hdr := ⟨if h.cap = lo then h.a else h.a.map (·.add (lo * sz)), n, h.cap - lo⟩
def Hdr.ptr (h : Hdr) (c : Nat) : Value := .pointer (some ((h.a.getD ⟨0, 0, none⟩).add c))

/-- Which block a level's box is, which slice a level's row is. -/
structure Asg where
  bx : Nat → Nat
  rw : Nat → Hdr
  inn : Nat → Nat → Hdr

def A0 : Asg := ⟨fun _ => 0, fun _ => ⟨none, 0, 0⟩, fun _ _ => ⟨none, 0, 0⟩⟩

mutual
def AVal.den (A : Asg) : AVal → Value
  | .int k n => .int k n
  | .bool b => .bool b
  | .str s => .string s
  | .loc i off => .pointer (some ⟨A.bx i, off, none⟩)
  | .ele k i off sz => (A.rw k).ptr (i * sz + off)
  | .row k => (A.rw k).val
  | .irow k i => (A.inn k i).val
  | .iele k i j off sz => (A.inn k i).ptr (j * sz + off)
  | .vw k lo n sz => ((A.rw k).view lo n sz).val
  | .bsl i n => .slice (some ⟨A.bx i, 0, none⟩) n n
  | .agg cs => .agg (dens A cs).toArray
  | .tup vs => .tuple (dens A vs).toArray
  | .fn f fs cs => .func (.func f) (dens A fs).toArray (dens A cs).toArray
  | .raw v => v
  | .junk => undef
def dens (A : Asg) : List AVal → List Value
  | [] => []
  | x :: l => x.den A :: dens A l
end

theorem dens_eq (A : Asg) : ∀ l, dens A l = l.map (AVal.den A)
  | [] => by simp [dens]
  | x :: l => by simp [dens, dens_eq A l]

/-- Which levels it names: below nb, nr, or among eb, er. -/
def lvl (n : Nat) (e : List Nat) (i : Nat) : Bool := match Nat.blt i n with | true => true | false => inL i e
theorem lvl_eq (n : Nat) (e : List Nat) (i : Nat) : lvl n e i = true ↔ i < n ∨ i ∈ e := by
  unfold lvl
  cases h : Nat.blt i n
  · have : ¬ i < n := fun h' => by rw [← Nat.blt_eq, h] at h'; cases h'
    simp [inL_eq, this]
  · have : i < n := by rw [← Nat.blt_eq]; exact h
    simp [this]

mutual
def AVal.sc (nb : Nat) (eb : List Nat) (nr : Nat) (er : List Nat) : AVal → Bool
  | .loc i _ | .bsl i _ => lvl nb eb i
  | .ele k _ _ _ | .row k | .irow k _ | .iele k _ _ _ _ | .vw k _ _ _ => lvl nr er k
  | .agg cs => scs nb eb nr er cs
  | .tup vs => scs nb eb nr er vs
  | .fn _ fs cs => match scs nb eb nr er fs with | true => scs nb eb nr er cs | false => false
  | .int _ _ | .bool _ | .str _ | .raw _ | .junk => true
def scs (nb : Nat) (eb : List Nat) (nr : Nat) (er : List Nat) : List AVal → Bool
  | [] => true
  | x :: l => match x.sc nb eb nr er with | true => scs nb eb nr er l | false => false
end

mutual
theorem AVal.den_congr {A B : Asg} {nb nr : Nat} {eb er : List Nat} (hb : ∀ i, (i < nb ∨ i ∈ eb) → A.bx i = B.bx i)
    (hr : ∀ i, (i < nr ∨ i ∈ er) → A.rw i = B.rw i ∧ A.inn i = B.inn i) : ∀ x : AVal, x.sc nb eb nr er = true → x.den A = x.den B
  | .loc i _, h => by simp only [AVal.sc, lvl_eq] at h; simp [AVal.den, hb i h]
  | .ele k _ _ _, h => by simp only [AVal.sc, lvl_eq] at h; simp [AVal.den, (hr k h).1]
  | .row k, h => by simp only [AVal.sc, lvl_eq] at h; simp [AVal.den, (hr k h).1]
  | .irow k _, h => by simp only [AVal.sc, lvl_eq] at h; simp [AVal.den, (hr k h).2]
  | .iele k _ _ _ _, h => by simp only [AVal.sc, lvl_eq] at h; simp [AVal.den, (hr k h).2]
  | .vw k _ _ _, h => by simp only [AVal.sc, lvl_eq] at h; simp [AVal.den, (hr k h).1]
  | .bsl i _, h => by simp only [AVal.sc, lvl_eq] at h; simp [AVal.den, hb i h]
  | .agg cs, h => by simp only [AVal.sc] at h; simp [AVal.den, dens_congr hb hr cs h]
  | .tup vs, h => by simp only [AVal.sc] at h; simp [AVal.den, dens_congr hb hr vs h]
  | .fn _ fs cs, h => by
    simp only [AVal.sc] at h
    split at h
    · rename_i h1; simp [AVal.den, dens_congr hb hr fs h1, dens_congr hb hr cs h]
    · cases h
  | .int _ _, _ => by simp [AVal.den]
  | .bool _, _ => by simp [AVal.den]
  | .str _, _ => by simp [AVal.den]
  | .raw _, _ => by simp [AVal.den]
  | .junk, _ => by simp [AVal.den]
theorem dens_congr {A B : Asg} {nb nr : Nat} {eb er : List Nat} (hb : ∀ i, (i < nb ∨ i ∈ eb) → A.bx i = B.bx i)
    (hr : ∀ i, (i < nr ∨ i ∈ er) → A.rw i = B.rw i ∧ A.inn i = B.inn i) : ∀ l : List AVal, scs nb eb nr er l = true → dens A l = dens B l
  | [], _ => by simp [dens]
  | x :: l, h => by
    simp only [scs] at h
    split at h
    · rename_i h1; simp [dens, AVal.den_congr hb hr x h1, dens_congr hb hr l h]
    · cases h
end

/-- A value of one cell that names no level. -/
def AVal.flat : AVal → Bool
  | .int _ _ | .bool _ | .str _ => true
  | .raw v => v.oneCell'
  | _ => false
theorem AVal.flat_den {x : AVal} (h : x.flat = true) (A B : Asg) : x.den A = x.den B := by
  cases x <;> simp_all [AVal.flat, AVal.den]
theorem AVal.flat_sc {x : AVal} (h : x.flat = true) (nb eb nr er) : x.sc nb eb nr er = true := by
  cases x <;> simp_all [AVal.flat, AVal.sc]
theorem dens_flat {l : List AVal} (h : ∀ c ∈ l, c.flat = true) (A B : Asg) : dens A l = dens B l := by
  rw [dens_eq, dens_eq]
  exact List.map_congr_left fun c hc => AVal.flat_den (h c hc) A B
theorem scs_flat {l : List AVal} (h : ∀ c ∈ l, c.flat = true) (nb eb nr er) : scs nb eb nr er l = true := by
  induction l with
  | nil => simp [scs]
  | cons x l ih =>
    simp only [scs, AVal.flat_sc (h x (by simp)) nb eb nr er]
    exact ih fun c hc => h c (by simp [hc])

/-! ### types of elements, rows -/
/-- Codes of the types that lie in slices: whole numbers, bools, strings, functions, headers of slices, pairs of such. -/
inductive TyC where
  | int (k : IntKind)
  | bool
  | str
  | fn
  | sl
  | pair (x y : TyC)
  | lst (c : TyC) (e : TypeId)

@[reducible] def TyC.α : TyC → Type
  | .int _ => Int
  | .bool => Bool
  | .str => ByteArray
  | .fn => FuncId × List Value × List Value
  | .sl => Hdr
  | .pair x y => x.α × y.α
  | .lst c _ => List c.α

def TyC.sz : TyC → Nat
  | .pair x y => x.sz + y.sz
  | _ => 1

def TyC.enc : (c : TyC) → c.α → List AVal
  | .int k, n => [.int k n]
  | .bool, b => [.bool b]
  | .str, s => [.str s]
  | .fn, f => [.raw (.func (.func f.1) f.2.1.toArray f.2.2.toArray)]
  | .sl, h => [.raw h.val]
  | .pair x y, p => x.enc p.1 ++ y.enc p.2
  | .lst _ _, _ => [.raw (.slice none 0 0)]

/-- Does it hold slices whose elements are told? -/
def TyC.isL : TyC → Bool
  | .lst _ _ => true
  | _ => false

def sameK : IntKind → IntKind → Bool
  | .i64, .i64 | .u64, .u64 | .u8, .u8 | .i32, .i32 | .i8, .i8 | .i16, .i16 | .u16, .u16 | .u32, .u32 => true
  | _, _ => false
theorem sameK_eq {a b : IntKind} (h : sameK a b = true) : a = b := by cases a <;> cases b <;> first | rfl | (simp [sameK] at h)

def TyC.decP : (c : TyC) → List AVal → Option (c.α × List AVal)
  | .int k, l => match l with
    | .int k' n :: l => (match sameK k k' with | true => some (n, l) | false => none)
    | _ => none
  | .bool, l => match l with | .bool b :: l => some (b, l) | _ => none
  | .str, l => match l with | .str s :: l => some (s, l) | _ => none
  | .pair x y, l => match x.decP l with
    | some (a, l') => match y.decP l' with
      | some (b, l'') => some ((a, b), l'')
      | none => none
    | none => none
  | .fn, _ => none
  | .sl, _ => none
  | .lst _ _, _ => none
def TyC.dec (c : TyC) (l : List AVal) : Option c.α := match c.decP l with | some (x, []) => some x | _ => none

def TyC.dflt : (c : TyC) → c.α
  | .int _ => (0 : Int)
  | .bool => false
  | .str => ByteArray.empty
  | .fn => (0, [], [])
  | .sl => (⟨none, 0, 0⟩ : Hdr)
  | .pair x y => (x.dflt, y.dflt)
  | .lst _ _ => []

def TyC.same : TyC → TyC → Bool
  | .int a, .int b => sameK a b
  | .bool, .bool | .str, .str | .fn, .fn | .sl, .sl => true
  | .pair a b, .pair c d => match a.same c with | true => b.same d | false => false
  | .lst a e, .lst b f => match a.same b with | true => Nat.beq e f | false => false
  | _, _ => false
theorem TyC.same_eq : ∀ {a b : TyC}, a.same b = true → a = b := by
  intro a
  induction a with
  | int k => intro b h; cases b <;> simp only [TyC.same] at h <;> first | (rw [sameK_eq h]) | cases h
  | bool => intro b h; cases b <;> simp only [TyC.same] at h <;> first | rfl | cases h
  | str => intro b h; cases b <;> simp only [TyC.same] at h <;> first | rfl | cases h
  | fn => intro b h; cases b <;> simp only [TyC.same] at h <;> first | rfl | cases h
  | sl => intro b h; cases b <;> simp only [TyC.same] at h <;> first | rfl | cases h
  | pair x y ihx ihy =>
    intro b h
    cases b <;> simp only [TyC.same] at h
    case pair c d =>
      split at h
      · rename_i h1; rw [ihx h1, ihy h]
      · cases h
    all_goals cases h
  | lst x e ih =>
    intro b h
    cases b <;> simp only [TyC.same] at h
    case lst c f =>
      split at h
      · rename_i h1; rw [ih h1, Nat.eq_of_beq_eq_true h]
      · cases h
    all_goals cases h

theorem TyC.enc_len : ∀ (c : TyC) (x : c.α), (c.enc x).length = c.sz
  | .int _, _ | .bool, _ | .str, _ | .fn, _ | .sl, _ | .lst _ _, _ => rfl
  | .pair a b, p => by simp [TyC.enc, TyC.sz, TyC.enc_len a, TyC.enc_len b]
theorem TyC.pos : ∀ c : TyC, 0 < c.sz
  | .int _ | .bool | .str | .fn | .sl | .lst _ _ => by simp [TyC.sz]
  | .pair a b => by have := TyC.pos a; simp [TyC.sz]; omega
theorem TyC.flat : ∀ (c : TyC) (x : c.α), ∀ v ∈ c.enc x, v.flat = true
  | .int _, _, v, h | .bool, _, v, h | .str, _, v, h | .fn, _, v, h | .sl, _, v, h | .lst _ _, _, v, h => by simp [TyC.enc] at h; subst h; simp [AVal.flat, Hdr.val, Value.oneCell']
  | .pair a b, p, v, h => by
    simp only [TyC.enc, List.mem_append] at h
    rcases h with h | h
    · exact TyC.flat a _ v h
    · exact TyC.flat b _ v h
theorem TyC.decP_enc : ∀ (c : TyC) (l r : List AVal) (x : c.α), c.decP l = some (x, r) → l = c.enc x ++ r
  | .int k, l, r, x, h => by
    simp only [TyC.decP] at h
    split at h
    · split at h
      · rename_i hk
        simp only [Option.some.injEq, Prod.mk.injEq] at h
        obtain ⟨rfl, rfl⟩ := h
        rw [sameK_eq hk]; rfl
      · cases h
    · cases h
  | .bool, l, r, x, h => by
    simp only [TyC.decP] at h
    split at h
    · simp only [Option.some.injEq, Prod.mk.injEq] at h
      obtain ⟨rfl, rfl⟩ := h; rfl
    · cases h
  | .str, l, r, x, h => by
    simp only [TyC.decP] at h
    split at h
    · simp only [Option.some.injEq, Prod.mk.injEq] at h
      obtain ⟨rfl, rfl⟩ := h; rfl
    · cases h
  | .fn, l, r, x, h => by simp [TyC.decP] at h
  | .sl, l, r, x, h => by simp [TyC.decP] at h
  | .lst _ _, l, r, x, h => by simp [TyC.decP] at h
  | .pair a b, l, r, x, h => by
    simp only [TyC.decP] at h
    split at h
    · rename_i a' l' h1
      split at h
      · rename_i b' l'' h2
        simp only [Option.some.injEq, Prod.mk.injEq] at h
        obtain ⟨rfl, rfl⟩ := h
        rw [TyC.decP_enc a _ _ _ h1, TyC.decP_enc b _ _ _ h2]
        simp [TyC.enc]
      · cases h
    · cases h
theorem TyC.dec_enc {c : TyC} {l : List AVal} {x : c.α} (h : c.dec l = some x) : c.enc x = l := by
  unfold TyC.dec at h
  split at h
  · rename_i x' hx
    obtain rfl := Option.some.inj h
    have := TyC.decP_enc c _ _ _ hx
    simpa using this.symm
  · cases h

def castK {x y : TyC} (h : x = y) (l : List x.α) (k : List y.α → Prop) : Prop := match y, h, k with | _, rfl, k => k l

structure Row where
  c : TyC
  e : TypeId
  own : Bool
  xs : List c.α

def Row.cells (r : Row) : List Value := r.xs.flatMap fun x => dens A0 (r.c.enc x)

theorem flatMap_length {α β : Type} (f : α → List β) (n : Nat) (hf : ∀ x, (f x).length = n) : ∀ l : List α, (l.flatMap f).length = l.length * n
  | [] => by simp
  | x :: l => by simp [List.flatMap_cons, hf, flatMap_length f n hf l, Nat.add_mul, Nat.add_comm]

theorem flatMap_get {α β : Type} (f : α → List β) (n : Nat) (hf : ∀ x, (f x).length = n) :
    ∀ (l : List α) (i j : Nat) (x : α) (y : β), l[i]? = some x → (f x)[j]? = some y → (l.flatMap f)[i * n + j]? = some y
  | [], i, j, x, y, h, _ => by simp at h
  | z :: l, 0, j, x, y, h, h' => by
    simp at h
    subst h
    have hj : j < (f z).length := (List.getElem?_eq_some_iff.1 h').1
    simp [List.flatMap_cons, List.getElem?_append_left hj, h']
  | z :: l, i + 1, j, x, y, h, h' => by
    have ih := flatMap_get f n hf l i j x y (by simpa using h) h'
    rw [List.flatMap_cons, List.getElem?_append_right (by rw [hf]; rw [Nat.add_mul]; omega), hf]
    rw [show (i + 1) * n + j - n = i * n + j by rw [Nat.add_mul]; omega]
    exact ih

theorem Row.cells_length (r : Row) : r.cells.length = r.xs.length * r.c.sz :=
  flatMap_length _ _ (fun x => by rw [dens_eq, List.length_map, r.c.enc_len]) _

theorem Row.cells_get (r : Row) {i j : Nat} {x : r.c.α} {c : AVal} (hx : r.xs[i]? = some x) (hc : (r.c.enc x)[j]? = some c) :
    r.cells[i * r.c.sz + j]? = some (c.den A0) :=
  flatMap_get _ _ (fun x => by rw [dens_eq, List.length_map, r.c.enc_len]) _ _ _ _ _ hx (by rw [dens_eq, List.getElem?_map, hc]; rfl)

/-- The slice h reads as the row r in the world w. -/
structure RowAt (w : World) (h : Hdr) (r : Row) : Prop where
  len : h.len = r.xs.length
  cap : h.len ≤ h.cap
  max : h.cap ≤ maxLen
  cell : ∀ i x, r.xs[i]? = some x → ∃ a, h.a = some a ∧ ∀ j c, (r.c.enc x)[j]? = some c → w.cell? (a.add (i * r.c.sz + j)) = some (c.den A0)

/-- It is the walk's own: nobody else's block, which begins with the row's cells. -/
def RowOwn (w : World) (h : Hdr) (r : Row) : Prop := w.ownsRow 0 r.e r.c.sz h.val r.xs.length r.cells

theorem RowOwn.at {w : World} {h : Hdr} {r : Row} (ho : RowOwn w h r) : RowAt w h r := by
  have h2 := ho.2
  rcases h2 with ⟨hv, hn⟩ | ⟨g, cap, cur, hv, _, hg, hle, hm, hsz, htk⟩
  · simp only [Hdr.val, Value.slice.injEq] at hv
    obtain ⟨h1, h2, h3⟩ := hv
    have hx : r.xs = [] := List.eq_nil_of_length_eq_zero hn
    refine ⟨by rw [h2, hn], by omega, by omega, fun i x hi => ?_⟩
    rw [hx] at hi; simp at hi
  · have hv' := hv
    simp only [Hdr.val, Value.slice.injEq] at hv'
    obtain ⟨h1, h2, h3⟩ := hv'
    refine ⟨h2, by omega, by omega, fun i x hi => ⟨_, h1, fun j c hc => ?_⟩⟩
    exact World.ownsRow.cells ho (by simp [Hdr.val, h1, Value.ownBlock]) _ _ (r.cells_get hi hc)

/-- The block that a row needs. -/
def Foot (r : Row) (h : Hdr) (b : Nat) : Prop := (r.own = true ∨ r.xs ≠ []) ∧ ∃ a, h.a = some a ∧ a.block = b

def BoxAt (A : Asg) (w : World) (b : Nat) (cs : List AVal) : Prop := ∃ t, w.heap[b]? = some (.cells (dens A cs).toArray t (0, 0))

/-- What is kept: the blocks of K, and the streams. -/
structure Kept (K : Nat → Prop) (w w' : World) : Prop where
  os : w'.os = w.os
  tape : w'.tape = w.tape
  output : w'.output = w.output
  size : w.heap.size ≤ w'.heap.size
  block : ∀ k, K k → w'.heap[k]? = w.heap[k]?

theorem Kept.refl (K : Nat → Prop) (w : World) : Kept K w w := ⟨rfl, rfl, rfl, Nat.le_refl _, fun _ _ => rfl⟩
theorem Kept.trans {K : Nat → Prop} {a b c : World} (h : Kept K a b) (k : Kept K b c) : Kept K a c :=
  ⟨k.os.trans h.os, k.tape.trans h.tape, k.output.trans h.output, Nat.le_trans h.size k.size, fun i hi => (k.block i hi).trans (h.block i hi)⟩
theorem Kept.of_below {K : Nat → Prop} {w w' : World} {B : Nat} (h : Below B w w') (hK : ∀ k, K k → k < B) : Kept K w w' :=
  ⟨h.os, h.tape, h.output, h.size, fun k hk => h.block k (hK k hk)⟩
theorem Kept.below {w w' : World} {B : Nat} (h : Kept (· < B) w w') : Below B w w' := ⟨h.os, h.tape, h.output, h.size, h.block⟩
theorem Below.kept' {w w' : World} {B : Nat} (h : Below B w w') : Kept (· < B) w w' := ⟨h.os, h.tape, h.output, h.size, h.block⟩

theorem lt_of_heap {w : World} {b : Nat} {o : Obj} (h : w.heap[b]? = some o) : b < w.heap.size := (Array.getElem?_eq_some_iff.1 h).1
theorem lt_of_cell {w : World} {a : Addr} {v : Value} (h : w.cell? a = some v) : a.block < w.heap.size := by
  unfold World.cell? at h
  split at h
  · rename_i he; exact lt_of_heap he
  · cases h

theorem add_block (a : Addr) (n : Nat) : (a.add n).block = a.block := by unfold Addr.add; split <;> rfl

theorem RowAt.foot_lt {w : World} {h : Hdr} {r : Row} (hr : RowAt w h r) (hx : r.xs ≠ []) {b : Nat} (hb : ∃ a, h.a = some a ∧ a.block = b) : b < w.heap.size := by
  obtain ⟨a, ha, rfl⟩ := hb
  obtain ⟨x, l, hl⟩ := List.exists_cons_of_ne_nil hx
  obtain ⟨a', ha', hc⟩ := hr.cell 0 x (by rw [hl]; rfl)
  rw [ha] at ha'
  obtain rfl := Option.some.inj ha'
  have h0 : 0 < (r.c.enc x).length := by rw [r.c.enc_len]; exact r.c.pos
  have := lt_of_cell (hc 0 _ (List.getElem?_eq_getElem h0))
  rwa [add_block] at this

theorem RowAt.keep {w w' : World} {h : Hdr} {r : Row} (hr : RowAt w h r) (hk : ∀ b, Foot r h b → w'.heap[b]? = w.heap[b]?) : RowAt w' h r := by
  refine ⟨hr.len, hr.cap, hr.max, fun i x hi => ?_⟩
  obtain ⟨a, ha, hc⟩ := hr.cell i x hi
  refine ⟨a, ha, fun j c hj => ?_⟩
  have hne : r.xs ≠ [] := fun e => by rw [e] at hi; simp at hi
  rw [World.cell?_of_block (w := w) (by rw [add_block]; exact hk _ ⟨.inr hne, a, ha, rfl⟩)]
  exact hc j c hj

theorem RowOwn.keep {w w' : World} {h : Hdr} {r : Row} (hr : RowOwn w h r) (hk : ∀ a, h.a = some a → w'.heap[a.block]? = w.heap[a.block]?) : RowOwn w' h r := by
  refine ⟨hr.1, ?_⟩
  rcases hr.2 with hn | ⟨g, cap, cur, hv, h0, hg, rest⟩
  · exact .inl hn
  · have hv' := hv
    simp only [Hdr.val, Value.slice.injEq] at hv'
    refine .inr ⟨g, cap, cur, hv, h0, ?_, rest⟩
    have := hk _ hv'.1
    exact this.trans hg

theorem RowOwn.foot_lt {w : World} {h : Hdr} {r : Row} (hr : RowOwn w h r) {b : Nat} (hb : ∃ a, h.a = some a ∧ a.block = b) : b < w.heap.size := by
  obtain ⟨a, ha, rfl⟩ := hb
  exact (World.ownsRow.lt hr _ (by simp [Hdr.val, ha, Value.ownBlock])).2

/-! ### rows with rows in them -/
/-- The slices of which a row is made: itself, or itself and those in it. -/
def Row.parts (h : Hdr) (ih : Nat → Hdr) : Row → List (Hdr × Row)
  | ⟨.lst c e', e, own, yss⟩ => (h, ⟨.sl, e, own, (List.range (@List.length (List c.α) yss)).map ih⟩) :: (List.range (@List.length (List c.α) yss)).map fun i => (ih i, ⟨c, e', own, @List.getD (List c.α) yss i []⟩)
  | r => [(h, r)]

structure RowsAt (w : World) (h : Hdr) (ih : Nat → Hdr) (r : Row) : Prop where
  all : ∀ p ∈ r.parts h ih, RowAt w p.1 p.2

structure RowsOwn (w : World) (h : Hdr) (ih : Nat → Hdr) (r : Row) : Prop where
  all : ∀ p ∈ r.parts h ih, RowOwn w p.1 p.2
  dis : ∀ (i j : Nat) (p q : Hdr × Row), (r.parts h ih)[i]? = some p → (r.parts h ih)[j]? = some q → i ≠ j → ∀ a b, p.1.a = some a → q.1.a = some b → a.block ≠ b.block

def Feet (r : Row) (h : Hdr) (ih : Nat → Hdr) (b : Nat) : Prop := ∃ p ∈ r.parts h ih, Foot p.2 p.1 b

theorem parts_flat {h : Hdr} {ih : Nat → Hdr} {c : TyC} {e : TypeId} {own : Bool} {xs : List c.α} (hc : c.isL = false) : (⟨c, e, own, xs⟩ : Row).parts h ih = [(h, ⟨c, e, own, xs⟩)] := by
  cases c <;> first | rfl | cases hc

theorem parts_own {h : Hdr} {ih : Nat → Hdr} {r : Row} {p : Hdr × Row} (hp : p ∈ r.parts h ih) : p.2.own = r.own := by
  obtain ⟨c, e, own, xs⟩ := r
  by_cases hc : c.isL = true
  · cases c <;> simp only [TyC.isL] at hc <;> first | cases hc | skip
    simp only [Row.parts, List.mem_cons, List.mem_map] at hp
    rcases hp with rfl | ⟨i, _, rfl⟩ <;> rfl
  · rw [parts_flat (by simpa using hc)] at hp
    simp only [List.mem_singleton] at hp
    subst hp; rfl

/-- The slice itself. -/
theorem parts_head (h : Hdr) (ih : Nat → Hdr) (r : Row) : ∃ r0 : Row, (r.parts h ih)[0]? = some (h, r0) ∧ r0.xs.length = r.xs.length ∧ r0.own = r.own ∧ r0.c.sz = r.c.sz ∧ r0.e = r.e := by
  obtain ⟨c, e, own, xs⟩ := r
  by_cases hc : c.isL = true
  · cases c <;> simp only [TyC.isL] at hc <;> first | cases hc | skip
    refine ⟨_, rfl, ?_, rfl, rfl, rfl⟩
    show (List.map ih (List.range _)).length = _
    rw [List.length_map, List.length_range]
    try rfl
  · rw [parts_flat (by simpa using hc)]
    exact ⟨_, rfl, rfl, rfl, rfl, rfl⟩

theorem RowsAt.head {w : World} {h : Hdr} {ih : Nat → Hdr} {r : Row} (hr : RowsAt w h ih r) : ∃ r0 : Row, RowAt w h r0 ∧ r0.xs.length = r.xs.length ∧ r0.own = r.own ∧ r0.c.sz = r.c.sz ∧ (h, r0) ∈ r.parts h ih := by
  obtain ⟨r0, h1, h2, h3, h4, _⟩ := parts_head h ih r
  have hm := List.mem_of_getElem? h1
  exact ⟨r0, hr.all _ hm, h2, h3, h4, hm⟩
theorem RowsAt.len {w : World} {h : Hdr} {ih : Nat → Hdr} {r : Row} (hr : RowsAt w h ih r) : h.len = r.xs.length := by
  obtain ⟨r0, h1, h2, _⟩ := hr.head; rw [h1.len, h2]
theorem RowsAt.cap {w : World} {h : Hdr} {ih : Nat → Hdr} {r : Row} (hr : RowsAt w h ih r) : h.len ≤ h.cap := by
  obtain ⟨r0, h1, _⟩ := hr.head; exact h1.cap
theorem RowsAt.max {w : World} {h : Hdr} {ih : Nat → Hdr} {r : Row} (hr : RowsAt w h ih r) : h.cap ≤ maxLen := by
  obtain ⟨r0, h1, _⟩ := hr.head; exact h1.max
theorem RowAt.there {w : World} {h : Hdr} {r : Row} (hr : RowAt w h r) {i : Nat} (hi : i < r.xs.length) : ∃ a, h.a = some a := by
  obtain ⟨a, ha, _⟩ := hr.cell i _ (List.getElem?_eq_getElem hi)
  exact ⟨a, ha⟩
theorem RowsAt.there {w : World} {h : Hdr} {ih : Nat → Hdr} {r : Row} (hr : RowsAt w h ih r) {i : Nat} (hi : i < r.xs.length) : ∃ a, h.a = some a := by
  obtain ⟨r0, h1, h2, _⟩ := hr.head
  exact h1.there (i := i) (by omega)
theorem RowsAt.flat {w : World} {h : Hdr} {ih : Nat → Hdr} {c : TyC} {e : TypeId} {own : Bool} {xs : List c.α} (hr : RowsAt w h ih ⟨c, e, own, xs⟩) (hc : c.isL = false) : RowAt w h ⟨c, e, own, xs⟩ :=
  hr.all (h, ⟨c, e, own, xs⟩) (by rw [parts_flat hc]; simp)
theorem RowAt.rows {w : World} {h : Hdr} {ih : Nat → Hdr} {c : TyC} {e : TypeId} {own : Bool} {xs : List c.α} (hr : RowAt w h ⟨c, e, own, xs⟩) (hc : c.isL = false) : RowsAt w h ih ⟨c, e, own, xs⟩ :=
  ⟨fun p hp => by rw [parts_flat hc] at hp; simp only [List.mem_singleton] at hp; subst hp; exact hr⟩
theorem RowsOwn.flat {w : World} {h : Hdr} {ih : Nat → Hdr} {c : TyC} {e : TypeId} {own : Bool} {xs : List c.α} (hr : RowsOwn w h ih ⟨c, e, own, xs⟩) (hc : c.isL = false) : RowOwn w h ⟨c, e, own, xs⟩ :=
  hr.all (h, ⟨c, e, own, xs⟩) (by rw [parts_flat hc]; simp)
theorem RowOwn.rows {w : World} {h : Hdr} {ih : Nat → Hdr} {c : TyC} {e : TypeId} {own : Bool} {xs : List c.α} (hr : RowOwn w h ⟨c, e, own, xs⟩) (hc : c.isL = false) : RowsOwn w h ih ⟨c, e, own, xs⟩ :=
  ⟨fun p hp => by rw [parts_flat hc] at hp; simp only [List.mem_singleton] at hp; subst hp; exact hr, fun i j p q hi hj hij => by
    rw [parts_flat hc] at hi hj
    cases i with
    | zero => cases j with
      | zero => exact absurd rfl hij
      | succ j => simp at hj
    | succ i => simp at hi⟩
theorem Feet.flat {r : Row} {h : Hdr} {ih : Nat → Hdr} {b : Nat} (hf : Feet r h ih b) (hc : r.c.isL = false) : Foot r h b := by
  obtain ⟨c, e, own, xs⟩ := r
  obtain ⟨p, hp, hf⟩ := hf
  rw [parts_flat hc] at hp
  simp only [List.mem_singleton] at hp
  subst hp; exact hf
theorem Foot.feet {r : Row} {h : Hdr} {ih : Nat → Hdr} {b : Nat} (hf : Foot r h b) (hc : r.c.isL = false) : Feet r h ih b := by
  obtain ⟨c, e, own, xs⟩ := r
  exact ⟨(h, ⟨c, e, own, xs⟩), by rw [parts_flat hc]; simp, hf⟩
/-- The slice's own block is among its blocks, if it is the walk's own. -/
theorem Feet.head {r : Row} {h : Hdr} {ih : Nat → Hdr} (ho : r.own = true) {a : Addr} (ha : h.a = some a) : Feet r h ih a.block := by
  obtain ⟨r0, h1, _, h3, _⟩ := parts_head h ih r
  exact ⟨_, List.mem_of_getElem? h1, .inl (by simpa [ho] using h3), a, ha, rfl⟩
theorem Feet.part {r : Row} {h : Hdr} {ih : Nat → Hdr} (ho : r.own = true) {p : Hdr × Row} (hp : p ∈ r.parts h ih) {a : Addr} (ha : p.1.a = some a) : Feet r h ih a.block :=
  ⟨p, hp, .inl (by rw [parts_own hp, ho]), a, ha, rfl⟩

theorem RowsOwn.at {w : World} {h : Hdr} {ih : Nat → Hdr} {r : Row} (hr : RowsOwn w h ih r) : RowsAt w h ih r := ⟨fun p hp => (hr.all p hp).at⟩
theorem RowsAt.keep {w w' : World} {h : Hdr} {ih : Nat → Hdr} {r : Row} (hr : RowsAt w h ih r) (hk : ∀ b, Feet r h ih b → w'.heap[b]? = w.heap[b]?) : RowsAt w' h ih r :=
  ⟨fun p hp => (hr.all p hp).keep fun b hb => hk b ⟨p, hp, hb⟩⟩
theorem RowsOwn.keep {w w' : World} {h : Hdr} {ih : Nat → Hdr} {r : Row} (hr : RowsOwn w h ih r) (ho : r.own = true) (hk : ∀ b, Feet r h ih b → w'.heap[b]? = w.heap[b]?) : RowsOwn w' h ih r :=
  ⟨fun p hp => (hr.all p hp).keep fun a ha => hk _ (Feet.part ho hp ha), hr.dis⟩
theorem RowsAt.foot_lt {w : World} {h : Hdr} {ih : Nat → Hdr} {r : Row} (hr : RowsAt w h ih r) (ho : r.own = false) {b : Nat} (hb : Feet r h ih b) : b < w.heap.size := by
  obtain ⟨p, hp, h1, h2⟩ := hb
  rcases h1 with h1 | h1
  · rw [parts_own hp, ho] at h1; cases h1
  · exact (hr.all p hp).foot_lt h1 h2
theorem RowsOwn.foot_lt {w : World} {h : Hdr} {ih : Nat → Hdr} {r : Row} (hr : RowsOwn w h ih r) {b : Nat} (hb : Feet r h ih b) : b < w.heap.size := by
  obtain ⟨p, hp, _, h2⟩ := hb
  exact RowOwn.foot_lt (hr.all p hp) h2

/-! ### rows of rows -/
section
variable {c : TyC} {e' e : TypeId} {own : Bool} {yss : List (List c.α)} {h : Hdr} {ih : Nat → Hdr} {w : World}
theorem parts_lst : (⟨.lst c e', e, own, yss⟩ : Row).parts h ih = (h, ⟨.sl, e, own, (List.range yss.length).map ih⟩) :: (List.range yss.length).map fun i => (ih i, ⟨c, e', own, yss.getD i []⟩) := rfl
theorem mem_inner {i : Nat} (hi : i < yss.length) : (ih i, (⟨c, e', own, yss.getD i []⟩ : Row)) ∈ (⟨.lst c e', e, own, yss⟩ : Row).parts h ih := by
  rw [parts_lst]
  exact List.mem_cons_of_mem _ (List.mem_map.2 ⟨i, List.mem_range.2 hi, rfl⟩)
theorem mem_outer : (h, (⟨.sl, e, own, (List.range yss.length).map ih⟩ : Row)) ∈ (⟨.lst c e', e, own, yss⟩ : Row).parts h ih := by
  rw [parts_lst]; simp
theorem RowsAt.inner (hr : RowsAt w h ih ⟨.lst c e', e, own, yss⟩) {i : Nat} (hi : i < yss.length) : RowAt w (ih i) ⟨c, e', own, yss.getD i []⟩ := hr.all _ (mem_inner hi)
theorem RowsAt.outer (hr : RowsAt w h ih ⟨.lst c e', e, own, yss⟩) : RowAt w h ⟨.sl, e, own, (List.range yss.length).map ih⟩ := hr.all _ mem_outer
theorem RowsAt.hdr (hr : RowsAt w h ih ⟨.lst c e', e, own, yss⟩) {i : Nat} (hi : i < yss.length) : ∃ a, h.a = some a ∧ w.cell? (a.add i) = some (ih i).val := by
  obtain ⟨a, ha, hc⟩ := hr.outer.cell i (ih i) (by show (List.map ih (List.range yss.length))[i]? = _; rw [List.getElem?_map, List.getElem?_range hi]; rfl)
  refine ⟨a, ha, ?_⟩
  have := hc 0 (.raw (ih i).val) rfl
  simpa [TyC.sz, AVal.den] using this
theorem RowsOwn.inner (hr : RowsOwn w h ih ⟨.lst c e', e, own, yss⟩) {i : Nat} (hi : i < yss.length) : RowOwn w (ih i) ⟨c, e', own, yss.getD i []⟩ := hr.all _ (mem_inner hi)
theorem RowsOwn.outer (hr : RowsOwn w h ih ⟨.lst c e', e, own, yss⟩) : RowOwn w h ⟨.sl, e, own, (List.range yss.length).map ih⟩ := hr.all _ mem_outer
end

end Go.Proofs.Ytlplngafncobkaa.Fw
